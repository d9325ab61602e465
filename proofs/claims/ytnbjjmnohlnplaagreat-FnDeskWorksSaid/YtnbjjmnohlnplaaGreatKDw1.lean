import Derived.Test.YtnbjjmnohlnplaaGreatKDw0
namespace Go.MG
def WpC (P : Program) (F : Fix) (c : Code) (Q : Exit → St → Prop) (σ : St) : Prop :=
 ∀ a w, Rel F σ a w → c.wp P (fun e a' w' => ∃ σ', Q e σ' ∧ Rel F σ' a' w') a w
def WpO (P : Program) (F : Fix) (ops : Array Oper) (Q : St → Prop) (l : List Nat) (σ : St) : Prop :=
 ∀ a w, Rel F σ a w → wpOps P ops (fun e a' w' => ∃ σ', e = .normal ∧ Q σ' ∧ Rel F σ' a' w') l a w
def setD (sl : Nat → Option Slot) : Option Nat → Option Slot → Nat → Option Slot
 | some d, x => upd sl d x
 | none, _ => sl
def DstOk (n : Nat) : Option Nat → Prop
 | some d => d < n
 | none => True
section
variable {P : Program} {F : Fix} {ops : Array Oper} {Q : St → Prop}
variable {E : Env} {sl : Nat → Option Slot}
theorem RelS.forget {H : Heap} {a : Act} (h : RelS F sl H a E) (d : Option Nat) (u : Value) : RelS F (setD sl d none) H (a.put d u) E := by
 cases d with
 | none => exact h
 | some d =>
  refine ⟨by simp [Act.put, h.size], h.defers, fun t y hy => ?_, fun t y hy => ?_⟩
  ·by_cases e : t = d
   ·subst e; simp [setD, upd_same] at hy
   ·simp only [setD, upd_other _ _ e] at hy
    simpa [Act.put, Array.getD_eq_getD_getElem?, Array.getElem?_setIfInBounds_ne (Ne.symm e)] using h.slots t y hy
  ·by_cases e : t = d
   ·subst e; simp [setD, upd_same] at hy
   ·simp only [setD, upd_other _ _ e] at hy; exact h.used t y hy
def guardOf (ops : Array Oper) (sl : Nat → Option Slot) (o : Oper) : Option Bool :=
 match o.guard with
 | none => some true
 | some (j, want) => match (ops[j]?).bind (·.dst) with
  | some d => match sl d with
   | some (.v (.one (.imm (.bool t)))) => some (t == want)
   | some (.tup []) => some false
   | _ => none
  | none => none
theorem guard_ok {H : Heap} {a : Act} (h : RelS F sl H a E) {o : Oper} {t : Bool} (hg : guardOf ops sl o = some t) : Region.wanted o (yielded ops a.tmps) = t := by
 unfold guardOf at hg
 unfold Region.wanted
 split at hg
 ·rename_i h1; cases hg; simp [h1]
 ·rename_i j want h1
  simp only [h1]
  split at hg
  ·rename_i d h2
   split at hg
   ·rename_i b h3
    cases hg
    have h4 := h.slots d _ h3
    simp only [RSlot, RV, RC] at h4
    have h5 : a.tmps[d]? = some (.bool b) := by
     rw [Array.getD_eq_getD_getElem?] at h4
     cases h6 : a.tmps[d]? with
     | none => rw [h6] at h4; exact absurd h4.1 (by simp [undef])
     | some v => rw [h6] at h4; simp at h4; rw [h4.1]
    simp [yielded, h2, h5]
   ·rename_i h3
    cases hg
    have h4 := h.slots d _ h3
    obtain ⟨us, h5, h6⟩ := h4
    obtain rfl : us = [] := h6
    rw [Array.getD_eq_getD_getElem?] at h5
    have h7 : ∀ b, a.tmps[d]? ≠ some (.bool b) := by
     intro b hb
     rw [hb] at h5
     simp at h5
    simp only [yielded, h2, Option.bind_some]
    cases h8 : a.tmps[d]? with
    | none => rfl
    | some v =>
     cases v with
     | bool b => exact absurd h8 (h7 b)
     | _ => rfl
   ·cases hg
  ·cases hg
variable {σ : St}
theorem WpO.nil (h : Q σ) : WpO P F ops Q [] σ := fun _ _ hr => ⟨σ, rfl, h, hr⟩
variable {i : Nat}
theorem WpO.off {rest : List Nat} {o : Oper} (ho : ops[i]? = some o) (hg : guardOf ops σ.slots o = some false) (hd : DstOk F.n o.dst) (h : WpO P F ops Q rest ⟨setD σ.slots o.dst (some (.tup [])), σ.H⟩) : WpO P F ops Q (i :: rest) σ := by
 intro a w hr
 obtain ⟨E, hw, hH, hS, hP⟩ := hr
 simp only [wpOps, ho, guard_ok hS hg]
 refine h _ _ ⟨E, hw, hH, ?_, hP⟩
 cases hdst : o.dst with
 | none => exact hS
 | some d =>
  rw [hdst] at hd
  exact hS.put (Sub.refl _ _) (fun _ h => h) hd ⟨[], rfl, rfl⟩ (fun k hk => by simp [Slot.names] at hk)
theorem WpO.op {rest : List Nat} {o : Oper} (ho : ops[i]? = some o) (hg : guardOf ops σ.slots o = some true) (hd : DstOk F.n o.dst)
  (h : ∀ (E : Env) (ev : Operand → Value), RelH F σ.H E → RhoOk σ.H E (opnd σ.slots) ev → Done P F σ.H E (execOp ev o) (fun x H' => WpO P F ops Q rest ⟨setD σ.slots o.dst x, H'⟩)) : WpO P F ops Q (i :: rest) σ := by
 intro a w hr
 obtain ⟨E, rfl, hH, hS, hP⟩ := hr
 simp only [wpOps, ho, guard_ok hS hg, if_true]
 left
 obtain ⟨r, E', x, H', hrun, hq, hH', hsub, huse, hx⟩ := h E a.eval hH (fun x s hx => opnd_ok hS hx)
 simp only [Oper.wp, hrun]
 cases x with
 | some s =>
  obtain ⟨u, rfl, hs, hn⟩ := hx
  rw [Oper.upon_value]
  refine hq _ _ ⟨E', rfl, hH', ?_, hP.sub hsub huse⟩
  cases hdst : o.dst with
  | none => exact hS.keep hsub huse
  | some d =>
   rw [hdst] at hd
   exact hS.put hsub huse hd hs hn
 | none =>
  obtain rfl := hx
  rw [Oper.upon_skip]
  exact hq _ _ ⟨E', rfl, hH', (hS.keep hsub huse).forget _ _, hP.sub hsub huse⟩
theorem WpO.mono {Q' : St → Prop} {l : List Nat} (h : WpO P F ops Q l σ) (hq : ∀ σ, Q σ → Q' σ) : WpO P F ops Q' l σ := by
 intro a w hr
 have mono : ∀ (Q Q' : Exit → Act → World → Prop), (∀ e a w, Q e a w → Q' e a w) → ∀ l a w, wpOps P ops Q l a w → wpOps P ops Q' l a w := by
  intro Q Q' hQ l
  induction l with
  | nil => intro a w h; exact hQ _ _ _ h
  | cons i rest ih =>
   intro a w h
   simp only [wpOps] at h ⊢
   cases ho : ops[i]? with
   | none => rw [ho] at h; exact ih _ _ h
   | some o =>
    simp only [ho] at h ⊢
    split at h
    ·rename_i hw
     rw [if_pos hw]
     rcases h with h | ⟨h1, a0, w0, h2⟩
     ·left
      simp only [Oper.wp, Oper.upon] at h ⊢
      split at h
      ·exact ih _ _ h
      ·exact ih _ _ h
      ·exact ih _ _ h
      ·refine h.mono fun e w' h' => ?_
       cases e with
       | returned v => exact ih _ _ h'
       | panicked c => exact hQ _ _ _ h'
       | outgrown => obtain ⟨a0, w0, h0⟩ := h'; exact ⟨a0, w0, hQ _ _ _ h0⟩
      ·exact h.mono fun v w' h' => ih _ _ h'
      ·exact hQ _ _ _ h
      ·exact h.elim
     ·exact .inr ⟨h1, a0, w0, hQ _ _ _ h2⟩
    ·rename_i hw
     rw [if_neg hw]
     exact ih _ _ h
 exact mono _ _ (fun e a w ⟨σ', h1, h2, h3⟩ => ⟨σ', h1, hq _ h2, h3⟩) l a w (h a w hr)
def callArgs (ρ : Rho) : List (Bool × Operand) → Option (List (Bool × V))
 | [] => some []
 | (m, x) :: xs => match ρ x, callArgs ρ xs with
  | some (.v v), some vs => some ((m, v) :: vs)
  | _, _ => none
variable {ev : Operand → Value} {ρ : Rho}
theorem callArgs_ok {H : Heap} (h : RhoOk H E ρ ev) : ∀ {xs : List (Bool × Operand)} {vs : List (Bool × V)}, callArgs ρ xs = some vs →
  RVs E (vs.map (·.2)) (xs.map fun p => ev p.2) ∧ ∀ p ∈ vs, ∀ j ∈ p.2.names, H.used j = true
 | [], vs, hv => by simp [callArgs] at hv; subst hv; exact ⟨rfl, by simp⟩
 | (m, x) :: xs, vs, hv => by
  unfold callArgs at hv
  split at hv
  ·rename_i v vs' h1 h2
   cases hv
   obtain ⟨a1, a2⟩ := callArgs_ok h h2
   obtain ⟨b1, b2⟩ := h x _ h1
   refine ⟨⟨ev x, _, rfl, b1, a1⟩, fun p hp => ?_⟩
   rcases List.mem_cons.1 hp with rfl | hp
   ·exact b2
   ·exact a2 p hp
  ·cases hv
theorem RVs.one : ∀ {cs : List Cell} {us : List Value}, RCs E cs us → RVs E (cs.map .one) us
 | [], _, h => by simp only [RCs] at h; exact h
 | c :: cs, _, h => by
  simp only [RCs] at h
  obtain ⟨u, us', rfl, h1, h2⟩ := h
  exact ⟨u, us', rfl, h1, RVs.one h2⟩
theorem RVs.append : ∀ {xs ys : List V} {us vs : List Value}, RVs E xs us → RVs E ys vs → RVs E (xs ++ ys) (us ++ vs)
 | [], _, _, _, h, h' => by obtain rfl : _ = [] := h; exact h'
 | x :: xs, _, _, _, h, h' => by
  obtain ⟨u, us', rfl, h1, h2⟩ := h
  exact ⟨u, _, rfl, h1, RVs.append h2 h'⟩
variable {xs : List V} {bp : List Nat}
theorem pickV_app {ys : List V} (h : ∀ i ∈ bp, i < xs.length) : pickV bp (xs ++ ys) = pickV bp xs := by
 unfold pickV
 refine List.map_congr_left fun i hi => ?_
 simp [List.getD_eq_getElem?_getD, List.getElem?_append_left (h i hi)]
variable {outs : List (List Cell)} {H1 H2 : Heap} {kp : Keep} {vs : List (Bool × V)} {fn : Func} {caps : List Cell} {tys : Array TypeId} {args : Array Operand} {x : Operand}
theorem WpO.call {rest : List Nat} {o : Oper} (ho : ops[i]? = some o) (hg : guardOf ops σ.slots o = some true) (hd : DstOk F.n o.dst)
(hop : o.op = .call { callee := .value x, args := args, argTypes := tys }) {f : FuncId} (hx : opnd σ.slots x = some (.v (.one (.clo f caps))))
(hf : P.funcs[f]? = some fn) (hb : fn.body.isSome = true) (hn : fn.name ≠ "runtime.NumGoroutine")
  (mvs : List Bool) (hm : mvs.length = args.size) (hvs : callArgs (opnd σ.slots) (mvs.zip args.toList) = some vs)
{L ks : List Nat}
  (hpass : σ.H.passVs kp L (vs ++ caps.map fun c => (false, .one c)) = some (H1, xs)) (houts : H1.giveOuts ks = some (H2, outs)) (hkp : ∀ (k i : Nat), kp k = some i → ks[i]? = some k) (hL : ∀ k ∈ L, H2.rows k ≠ none)
{Post : List V → List (List Cell) → List V → Prop} (hh : Holds P f xs outs bp Post) (hbp : ∀ i ∈ bp, i < vs.length)
  (kb : Nat) (hq : ∀ res outs' bk, Post res outs' bk → Good H2 ks kb res outs' bk ∧ ∃ H3, Heap.backVs σ.H ((H2.internVs kb res).1.takeOuts (kb + (res.flatMap V.cells).length) ks outs') (pickV bp (vs.map (·.2))) bk = some H3 ∧ WpO P F ops Q rest ⟨setD σ.slots o.dst (some (slotOf (H2.internVs kb res).2)), H3⟩) :
  WpO P F ops Q (i :: rest) σ := by
 intro a w hr
 obtain ⟨E, rfl, hH, hS, hP⟩ := hr
 simp only [wpOps, ho, guard_ok hS hg, if_true]
 left
 have hρ : RhoOk σ.H E (opnd σ.slots) a.eval := fun x s hx => opnd_ok hS hx
 obtain ⟨hcx, hcn⟩ := hρ x _ hx
 simp only [RSlot, RV, RC] at hcx
 obtain ⟨cus, hcu, hcr⟩ := hcx
 obtain ⟨r1, r2⟩ := callArgs_ok hρ hvs
 have hev : (mvs.zip args.toList).map (fun p => a.eval p.2) = (args.map a.eval).toList := by
  rw [Array.toList_map, show (fun p : Bool × Operand => a.eval p.2) = a.eval ∘ Prod.snd from rfl, ← List.map_map, List.map_snd_zip (by simp [hm])]
 rw [hev] at r1
 have hall : RVs E ((vs ++ caps.map fun c => (false, V.one c)).map (·.2)) ((args.map a.eval).toList ++ cus) := by
  rw [List.map_append, List.map_map]
  exact r1.append (RVs.one hcr)
 have hcall := call_ok (P := P) (Q := fun s H' => WpO P F ops Q rest ⟨setD σ.slots o.dst (some s), H'⟩) hH hall (fun p hp j hj => by
  rcases List.mem_append.1 hp with hp | hp
  ·exact r2 p hp j hj
  ·obtain ⟨c, hc, rfl⟩ := List.mem_map.1 hp
   refine hcn j ?_
   simp only [Slot.names, V.names, V.cells, cnames, Cell.names, List.append_nil] at hj ⊢
   exact mem_cnames.2 ⟨c, hc, hj⟩) hpass houts hkp hL hh (fun i hi => by have := hbp i hi; simp; omega) (kb := kb) (fun res outs' bk hp => by
   obtain ⟨g, H3, h3, h4⟩ := hq res outs' bk hp
   refine ⟨g, H3, ?_, h4⟩
   rw [List.map_append, pickV_app (by simpa using hbp)]
   exact h3)
 have hrun : (execOp a.eval o).run P E.w = .ok (.enter f (args.map a.eval ++ cus.toArray)) E.w := by
  have hb' : fn.body.isNone = false := by cases h : fn.body <;> simp_all
  simp [execOp, hop, resolve, hcu, Deferred.ofValue, invoke, callFunc, hf, hn]
  intro h; rw [h] at hb; cases hb
 simp only [Oper.wp, hrun]
 rw [Oper.upon_enter]
 have harr : args.map a.eval ++ cus.toArray = ((args.map a.eval).toList ++ cus).toArray := by
  apply Array.ext'; simp
 rw [harr]
 refine hcall.mono ?_
 rintro e w' ⟨v, rfl, s, H', E', rfl, t1, t2, t3, t4, t5, t6⟩
 refine t6 _ _ ⟨E', rfl, t1, ?_, hP.sub t2 t3⟩
 cases hdst : o.dst with
 | none => exact hS.keep t2 t3
 | some d =>
  rw [hdst] at hd
  exact hS.put t2 t3 hd t4 t5
end
section
variable {P : Program} {F : Fix} {Q : Exit → St → Prop}
variable {σ : St}
theorem WpC.skip (h : Q .normal σ) : WpC P F .skip Q σ := fun _ _ hr => wp_skip ⟨σ, h, hr⟩
variable {id : Nat}
theorem WpC.exit (h : Q (.exit id) σ) : WpC P F (.exit id) Q σ := fun _ _ hr => wp_exit ⟨σ, h, hr⟩
theorem WpC.ret (h : Q .ret σ) : WpC P F .ret Q σ := fun _ _ hr => wp_ret ⟨σ, h, hr⟩
def thenA (next : St → Prop) (Q : Exit → St → Prop) : Exit → St → Prop
 | .normal, σ => next σ
 | e, σ => Q e σ
theorem WpC.seq {x y : Code} (h : WpC P F x (thenA (WpC P F y Q) Q) σ) : WpC P F (.seq x y) Q σ := by
 intro a w hr
 refine wp_seq (wp_mono (h a w hr) ?_)
 rintro e a' w' ⟨σ', h1, h2⟩
 cases e with
 | normal => exact h1 a' w' h2
 | _ => exact ⟨σ', h1, h2⟩
theorem WpC.cond {c : Operand} {x y : Code} {t : Bool} (hc : opnd σ.slots c = some (im (.bool t))) (h1 : t = true → WpC P F x Q σ) (h2 : t = false → WpC P F y Q σ) : WpC P F (.cond c x y) Q σ := by
 intro a w hr
 have hr' := hr
 obtain ⟨E, hw, hH, hS, hP⟩ := hr
 have := (opnd_ok hS hc).1
 simp only [RSlot, RV, RC] at this
 exact wp_cond_split this.1 (fun e => h1 e a w hr') (fun e => h2 e a w hr')
def blockA (id : Nat) (Q : Exit → St → Prop) : Exit → St → Prop
 | .exit id', σ => if id' = id then Q .normal σ else Q (.exit id') σ
 | e, σ => Q e σ
theorem WpC.block {c : Code} (h : WpC P F c (blockA id Q) σ) : WpC P F (.block id c) Q σ := by
 intro a w hr
 refine wp_block (wp_mono (h a w hr) ?_)
 rintro e a' w' ⟨σ', h1, h2⟩
 cases e with
 | exit id' =>
  simp only [blockA] at h1
  simp only [Exit.inBlock]
  split at h1
  ·rename_i he; rw [if_pos he]; exact ⟨σ', h1, h2⟩
  ·rename_i he; rw [if_neg he]; exact ⟨σ', h1, h2⟩
 | _ => exact ⟨σ', h1, h2⟩
theorem WpC.loop {c : Code} (I : Nat → St → Prop) (n : Nat) (h0 : I n σ) (round : ∀ n σ, I n σ → WpC P F c (thenA (fun σ' => ∃ m, m < n ∧ I m σ') Q) σ) : WpC P F (.loop c) Q σ := by
 intro a w hr b k cs
 have key : ∀ n σ a w, I n σ → Rel F σ a w →
   ∃ e a' w', (∃ σ', Q e σ' ∧ Rel F σ' a' w') ∧ Arrives P (lone (b.at a (.code c :: .inLoop c :: k)) cs w) b k cs e a' w' := by
  intro n
  induction n using Nat.strongRecOn with
  | _ n ih =>
   intro σ a w hI hr
   obtain ⟨e, a₁, w₁, ⟨σ₁, hq, hr₁⟩, harr⟩ := round n σ hI a w hr b (.inLoop c :: k) cs
   cases e with
   | normal =>
    obtain ⟨m, hm, hI₁⟩ := hq
    obtain ⟨e₂, a₂, w₂, hq₂, harr₂⟩ := ih m hm σ₁ a₁ w₁ hI₁ hr₁
    exact ⟨e₂, a₂, w₂, hq₂, .of_steps (Steps.trans harr (.one step_inLoop)) harr₂⟩
   | exit id => exact ⟨_, a₁, w₁, ⟨σ₁, hq, hr₁⟩, .pass (x := .inLoop c) rfl (fun _ _ => .inl (by simp)) harr⟩
   | goto l => exact ⟨_, a₁, w₁, ⟨σ₁, hq, hr₁⟩, .pass (x := .inLoop c) rfl (fun _ _ => .inl (by simp)) harr⟩
   | ret => exact ⟨_, a₁, w₁, ⟨σ₁, hq, hr₁⟩, .pass (x := .inLoop c) rfl (fun _ _ => .inl (by simp)) harr⟩
   | panic ch => exact ⟨_, a₁, w₁, ⟨σ₁, hq, hr₁⟩, .pass (x := .inLoop c) rfl (fun _ _ => .inl (by simp)) harr⟩
   | outgrown => exact ⟨_, a₁, w₁, ⟨σ₁, hq, hr₁⟩, .pass (x := .inLoop c) rfl (fun _ _ => .inl (by simp)) harr⟩
 obtain ⟨e, a', w', hq, harr⟩ := key n σ a w h0 hr
 exact ⟨e, a', w', hq, .of_steps (.one step_loop) harr⟩
theorem WpC.region {ops : Array Oper} {l : List Nat} (hl : List.range ops.size = l) (h : WpO P F ops (Q .normal) l σ) : WpC P F (.region id ops false) Q σ := by
 intro a w hr
 refine wp_region ?_
 rw [hl]
 have mono : ∀ (Q Q' : Exit → Act → World → Prop), (∀ e a w, Q e a w → Q' e a w) → ∀ l a w, wpOps P ops Q l a w → wpOps P ops Q' l a w := by
  intro Q Q' hQ l
  induction l with
  | nil => intro a w h; exact hQ _ _ _ h
  | cons i rest ih =>
   intro a w h
   simp only [wpOps] at h ⊢
   cases ho : ops[i]? with
   | none => rw [ho] at h; exact ih _ _ h
   | some o =>
    simp only [ho] at h ⊢
    split at h
    ·rename_i hw
     rw [if_pos hw]
     rcases h with h | ⟨h1, a0, w0, h2⟩
     ·left
      simp only [Oper.wp, Oper.upon] at h ⊢
      split at h
      ·exact ih _ _ h
      ·exact ih _ _ h
      ·exact ih _ _ h
      ·refine h.mono fun e w' h' => ?_
       cases e with
       | returned v => exact ih _ _ h'
       | panicked c => exact hQ _ _ _ h'
       | outgrown => obtain ⟨a0, w0, h0⟩ := h'; exact ⟨a0, w0, hQ _ _ _ h0⟩
      ·exact h.mono fun v w' h' => ih _ _ h'
      ·exact hQ _ _ _ h
      ·exact h.elim
     ·exact .inr ⟨h1, a0, w0, hQ _ _ _ h2⟩
    ·rename_i hw
     rw [if_neg hw]
     exact ih _ _ h
 refine mono _ _ ?_ l a w (h a w hr)
 rintro e a' w' ⟨σ', rfl, h1, h2⟩
 exact ⟨σ', h1, h2⟩
theorem WpC.mono {c : Code} {Q' : Exit → St → Prop} (h : WpC P F c Q σ) (hq : ∀ e σ, Q e σ → Q' e σ) : WpC P F c Q' σ :=
 fun a w hr => wp_mono (h a w hr) fun _ _ _ ⟨σ', h1, h2⟩ => ⟨σ', hq _ _ h1, h2⟩
end
def resA (P : Program) (σ : St) : ResultVar → Option V
 | .tmp t => match σ.slots t with
  | some (.v x) => some x
  | _ => none
 | .cell a t => match σ.slots a with
  | some (.v (.one (.ptr k j))) => match σ.H.boxes k, shape P t with
   | some cs, some (ag, n) => if j + n ≤ cs.length then mkV ag ((cs.drop j).take n) else none
   | _, _ => none
  | _ => none
def resAs (P : Program) (σ : St) : List ResultVar → Option (List V)
 | [] => some []
 | r :: rs => match resA P σ r, resAs P σ rs with
  | some x, some xs => some (x :: xs)
  | _, _ => none
def resOne (tmps : Array Value) : ResultVar → Sem Value
 | .tmp t => pure (tmps.getD t undef)
 | .cell a t => do loadVar t (← asAddr (tmps.getD a undef))
variable {E : Env} {σ : St} {F : Fix} {P : Program}
theorem resA_ok {a : Act} (hH : RelH F σ.H E) (hS : RelS F σ.slots σ.H a E) {r : ResultVar} {x : V} (h : resA P σ r = some x) :
  ∃ u, (resOne a.tmps r).run P E.w = .ok u E.w ∧ RV E x u ∧ ∀ k ∈ x.names, σ.H.used k = true := by
 cases r with
 | tmp t =>
  simp only [resA] at h
  split at h
  ·rename_i y hy
   cases h
   exact ⟨_, by simp [resOne], hS.slots t _ hy, hS.used t _ hy⟩
  ·cases h
 | cell t ty =>
  simp only [resA] at h
  split at h
  ·rename_i k j hk
   split at h
   ·rename_i cs ag n hcs hsh
    split at h
    ·rename_i hl
     have hD := done_load_ptr (P := P) (F := F) (H := σ.H) (E := E) (ρ := opnd σ.slots) (ev := a.eval) (Q := fun s H => s = some (.v x) ∧ H = σ.H) hH (fun y s hy => opnd_ok hS hy) (o := { dst := none, op := .load ty (.tmp t), type := 0, pos := "", after := #[], guard := none }) rfl (y := .tmp t) hk hcs hsh hl h ⟨rfl, rfl⟩
     obtain ⟨rr, E', y, H', h1, ⟨rfl, rfl⟩, h3, h4, h5, h6⟩ := hD
     obtain ⟨u, rfl, h7, h8⟩ := h6
     have hp := hS.slots t _ hk
     simp only [RSlot, RV, RC] at hp
     obtain ⟨g, us, hb, hr, hat, hth⟩ := hH.boxes k cs hcs
     have hp2 := hp.2 g (hH.pt k g hb)
     have hr' : RCs E ((cs.drop j).take n) ((us.drop j).take n) := (hr.drop j).take n
     obtain ⟨u', hm, hR⟩ := load_ok hsh hr' (by simpa using range_part hat j n) (by simp; omega) h
     refine ⟨u', ?_, hR, h8⟩
     have he : a.tmps.getD t undef = .pointer (some ⟨g, 0 + j, none⟩) := by simpa using hp2
     rw [resOne, he]
     simpa [Instr.loadAt, Instr.sureAddr, asAddr] using hm
    ·cases h
   ·cases h
  ·cases h
theorem resAs_ok {a : Act} (hH : RelH F σ.H E) (hS : RelS F σ.slots σ.H a E) : ∀ {rs : List ResultVar} {xs : List V} (_ : resAs P σ rs = some xs),
  ∃ us, (rs.mapM (resOne a.tmps)).run P E.w = .ok us E.w ∧ RVs E xs us ∧ ∀ k ∈ xs.flatMap V.names, σ.H.used k = true
 | [], xs, h => by simp [resAs] at h; subst h; exact ⟨[], by simp, rfl, by simp⟩
 | r :: rs, xs, h => by
  unfold resAs at h
  split at h
  ·rename_i x xs' h1 h2
   cases h
   obtain ⟨u, a1, a2, a3⟩ := resA_ok hH hS h1
   obtain ⟨us, b1, b2, b3⟩ := resAs_ok hH hS h2
   refine ⟨u :: us, by simp [List.mapM_cons, a1, b1], ⟨u, us, rfl, a2, b2⟩, fun k hk => ?_⟩
   simp only [List.flatMap_cons, List.mem_append] at hk
   exact hk.elim (a3 k) (b3 k)
  ·cases h
variable {xs : List V} {fn : Func}
theorem results_ok {a : Act} (hH : RelH F σ.H E) (hS : RelS F σ.slots σ.H a E) (h : resAs P σ fn.results.toList = some xs) :
  ∃ us, (results fn a.tmps).run P E.w = .ok (retVal us) E.w ∧ RVs E xs us ∧ ∀ k ∈ xs.flatMap V.names, σ.H.used k = true := by
 obtain ⟨us, h1, h2, h3⟩ := resAs_ok hH hS h
 refine ⟨us, ?_, h2, h3⟩
 have e : results fn a.tmps = (fn.results.mapM (resOne a.tmps)) >>= fun vs => pure (if h : vs.size = 1 then vs[0] else .tuple vs) := by
  unfold results resOne
  rfl
 rw [e, show fn.results = fn.results.toList.toArray by simp, List.mapM_toArray]
 simp [h1]
 cases us with
 | nil => rfl
 | cons u us => cases us <;> rfl
def heap0 (m : Nat) : Heap := ⟨fun _ => none, fun _ => none, m, fun _ => false, fun _ => none, fun _ => none⟩
def initH (args : List V) (outs : List (List Cell)) : Heap :=
 ((heap0 outs.length).internVs outs.length args).1.takeOuts (outs.length + (args.flatMap V.cells).length) (List.range outs.length) outs
def initS (args : List V) (m : Nat) : Nat → Option Slot := fun t => (((heap0 m).internVs m args).2[t]?).map .v
def Leaves (P : Program) (fn : Func) (m : Nat) (bks : List V) (Post : List V → List (List Cell) → List V → Prop) : Exit → St → Prop := fun e σ =>
 (e = .normal ∨ e = .ret) ∧ ∃ xs H1 H2 H3 res outs' bk, resAs P σ fn.results.toList = some xs ∧
  σ.H.passVs (fun k => if k < m then some k else none) [] (xs.map fun x => (true, x)) = some (H1, res) ∧ H1.innerVs bks = some (H2, bk) ∧ H2.giveOuts (List.range m) = some (H3, outs') ∧ Post res outs' bk
def backArgs (m : Nat) (args : List V) (bp : List Nat) : List V := pickV bp ((heap0 m).internVs m args).2
structure Pinned (F : Fix) (m : Nat) (hs : List V) : Prop where
 ob : F.ob.length = m
 oh : F.oh.map (·.1) = hs
theorem zip_fst : ∀ {xs : List V} {us : List Value}, us.length = xs.length → (xs.zip us).map (·.1) = xs
 | [], _, _ => by simp
 | x :: xs, [], h => by simp at h
 | x :: xs, u :: us, h => by simp [zip_fst (xs := xs) (us := us) (by simpa using h)]
theorem RVs.zip : ∀ {xs : List V} {us : List Value}, RVs E xs us → ∀ p ∈ xs.zip us, RV E p.1 p.2
 | [], us, h, p, hp => by simp at hp
 | x :: xs, us, h, p, hp => by
  obtain ⟨u, us', rfl, h1, h2⟩ := h
  rcases List.mem_cons.1 hp with rfl | hp
  ·exact h1
  ·exact RVs.zip h2 p hp
theorem RVs.unzip : ∀ {xs : List V} {us : List Value}, us.length = xs.length → (∀ p ∈ xs.zip us, RV E p.1 p.2) → RVs E xs us
 | [], us, hl, _ => by
  obtain rfl : us = [] := by simpa using hl
  rfl
 | x :: xs, [], hl, _ => by simp at hl
 | x :: xs, u :: us, hl, h => ⟨u, us, rfl, h (x, u) (by simp), RVs.unzip (by simpa using hl) fun p hp => h p (by simp [hp])⟩
theorem zip_names {N : Nat → Prop} : ∀ {xs : List V} {us : List Value}, us.length = xs.length → (∀ p ∈ xs.zip us, ∀ k ∈ p.1.names, N k) → ∀ x ∈ xs, ∀ k ∈ x.names, N k
 | [], us, hl, _, x, hx => by cases hx
 | y :: xs, [], hl, _, x, hx => by simp at hl
 | y :: xs, u :: us, hl, h, x, hx => by
  rcases List.mem_cons.1 hx with rfl | hx
  ·exact h (x, u) (by simp)
  ·exact zip_names (by simpa using hl) (fun p hp => h p (by simp [hp])) x hx
theorem pickU_length (bp : List Nat) (us : List Value) (xs : List V) : (pickU bp us).length = (pickV bp xs).length := by simp [pickU, pickV]
theorem RVs.length : ∀ {xs : List V} {us : List Value}, RVs E xs us → us.length = xs.length
 | [], us, h => by obtain rfl : us = [] := h; rfl
 | x :: xs, us, h => by obtain ⟨u, us', rfl, _, h2⟩ := h; simp [RVs.length h2]
theorem RVs.at : ∀ {xs : List V} {us : List Value} {t : Nat} {x : V}, RVs E xs us → xs[t]? = some x → ∃ u, us[t]? = some u ∧ RV E x u
 | [], us, t, x, h, hx => by simp at hx
 | y :: xs, us, t, x, h, hx => by
  obtain ⟨u, us', rfl, h1, h2⟩ := h
  cases t with
  | zero => simp at hx; subst hx; exact ⟨u, rfl, h1⟩
  | succ t => simpa using RVs.at h2 (by simpa using hx)
theorem RXOuts.length : ∀ {css : List (List Cell)} {ob bs : List Nat}, RXOuts E css ob bs → ob.length = css.length
 | [], ob, bs, h => by obtain ⟨rfl, _⟩ := h; rfl
 | c :: css, ob, bs, h => by obtain ⟨g, ob', us, b, bs', rfl, _, _, _, _, h4⟩ := h; simp [RXOuts.length h4]
theorem internVs_length : ∀ (xs : List V) (H : Heap) (k : Nat), (H.internVs k xs).2.length = xs.length
 | [], _, _ => rfl
 | x :: xs, H, k => by simp [Heap.internVs, internVs_length xs]
theorem used0 (m j : Nat) : (heap0 m).used j = decide (j < m) := Bool.or_false _
variable {bp : List Nat} {outs : List (List Cell)}
theorem Holds.intro {f : FuncId} {c : Code} {args : List V} {Post : List V → List (List Cell) → List V → Prop} (hbp : ∀ i ∈ bp, i < args.length) (hf : P.funcs[f]? = some fn) (hb : fn.body = some c) (hn : args.length ≤ fn.ntmps)
  (hc : ∀ cs ∈ outs, cclean cs = true ∧ cnames cs = []) (hnm : ∀ j ∈ args.flatMap V.names, j < outs.length)
  (h : ∀ F : Fix, F.n = fn.ntmps → Pinned F outs.length (backArgs outs.length args bp) → WpC P F c (Leaves P fn outs.length (backArgs outs.length args bp) Post) ⟨initS args outs.length, initH args outs⟩) : Holds P f args outs bp Post := by
 intro w S us ob bs obs hi
 let E0 : Env := envI w S ob
 let F : Fix := ⟨w, (· ∈ bs ++ obs ++ ob), S, fn.ntmps, ob, (backArgs outs.length args bp).zip (pickU bp us)⟩
 have hob : ob.length = outs.length := hi.outs.length
 have h0 : RelH F (heap0 outs.length) E0 := by
  refine ⟨fun k r hr => (by cases hr), fun k cs hr => (by cases hr), fun _ _ => rfl, fun _ _ => rfl, fun _ => .inl rfl, fun k k' b hk => ?_, fun k b hk => ?_, hi.bnd, hi.cls, fun g b hb => .inl hb, fun g b hb => hb, fun k g hk => (by cases hk), ⟨rfl, rfl, rfl, Nat.le_refl _, fun _ _ _ => rfl⟩, fun k hk => absurd rfl hk, fun k cs hk => (by cases hk), fun k => List.nodup_nil, fun k n hk => (by cases hk), fun k n hk => (by cases hk)⟩
  ·rcases hk with hk | hk <;> cases hk
  ·rcases hk with hk | hk <;> cases hk
 have hfree : ∀ b, b ∈ bs ++ obs ++ ob → (∀ c, ¬ E0.S c b) ∧ (∀ k, ¬ Own E0 k b) ∧ b < E0.w.heap.size ∧ (F.w0.heap.size ≤ b ∨ F.T b) := by
  intro b hb
  have := hi.own b hb
  exact ⟨this.2, fun k hk => (by rcases hk with hk | hk <;> cases hk), this.1, .inr hb⟩
 have hnd := hi.nodup
 rw [List.append_assoc] at hnd
 obtain ⟨hnd1, hnd2, hnd3⟩ := List.nodup_append.1 hnd
 cases hiv : (heap0 outs.length).internVs outs.length args with
 | mk H1 args' =>
  obtain ⟨E1, T1, q1, q2⟩ := intern_Vs (k := outs.length) h0 (fun j hj _ => by rw [used0]; exact decide_eq_false (by omega)) hi.args (fun j hj => by rw [used0]; exact decide_eq_true (hnm j hj))
   (fun b hb => hfree b (by simp [hb])) hnd1 hiv
  have hfr : Free F E1 (obs ++ ob) := T1.free (fun b hb hb' => hnd3 b hb' b hb rfl) (fun b hb => hfree b (by rw [List.append_assoc]; exact List.mem_append_right _ hb))
  have hsame := fun j hj => internVs_same args (heap0 outs.length) outs.length j hj
  rw [hiv] at hsame
  obtain ⟨E2, t1, t2, t3, t4, t5, _⟩ := take_outs (k0 := outs.length + (args.flatMap V.cells).length) (ks := List.range outs.length) (Eo := E0) T1.rel (by simp) (by simp [hob]) hi.outs T1.w.symm
   ⟨fun b hb => by rw [T1.S]; exact hb, fun b hb => by rw [T1.w], fun _ h => h.elim, fun _ h => h.elim, fun _ h => h.elim⟩ hc
   (fun j hj hj' => by
    cases hu : H1.used j with
    | false => rfl
    | true =>
     rcases T1.down j hu with h | h
     ·rw [used0] at h; have := of_decide_eq_true h; omega
     ·omega)
   (fun k hk => by
    rw [List.mem_range] at hk
    exact ⟨T1.up k (by rw [used0]; exact decide_eq_true hk), by rw [hsame k (.inl hk)]; rfl⟩)
   (fun i k hik => by
    obtain ⟨hlt, e⟩ := List.getElem?_eq_some_iff.1 hik
    simp at e hlt; subst e
    rw [T1.pt i (by rw [used0]; exact decide_eq_true hlt)]; rfl)
   hfr hnd2
  have hlen : us.length = args.length := by
   rw [q1.length]
   have := internVs_length args (heap0 outs.length) outs.length
   rw [hiv] at this; exact this
  have hS : RelS F (initS args outs.length) (initH args outs) { tmps := us.toArray ++ Array.replicate (fn.ntmps - us.toArray.size) undef, defers := [] } E2 := by
   have hH1 : initH args outs = H1.takeOuts (outs.length + (args.flatMap V.cells).length) (List.range outs.length) outs := by simp [initH, hiv]
   have hslot : ∀ t s, initS args outs.length t = some s → ∃ x, args'[t]? = some x ∧ s = .v x := by
    intro t s hs
    simp only [initS, hiv, Option.map_eq_some_iff] at hs
    obtain ⟨x, hx, rfl⟩ := hs
    exact ⟨x, hx, rfl⟩
   have hnam : ∀ {t : Nat} {x : V}, args'[t]? = some x → ∀ k ∈ x.names, H1.used k = true := fun hx k hk => q2 k (List.mem_flatMap.2 ⟨_, List.mem_of_getElem? hx, hk⟩)
   refine ⟨?_, rfl, fun t s hs => ?_, fun t s hs k hk => ?_⟩
   ·simp [F]; omega
   ·obtain ⟨x, hx, rfl⟩ := hslot t s hs
    obtain ⟨u, hu, hr⟩ := q1.at hx
    have : (us.toArray ++ Array.replicate (fn.ntmps - us.toArray.size) undef).getD t undef = u := by
     rw [Array.getD_eq_getD_getElem?, Array.getElem?_append, if_pos (by simpa using (List.getElem?_eq_some_iff.1 hu).1)]
     simp [hu]
    simp only [this]
    exact RSlot.sub (x := .v x) t4 (fun k hk => hnam hx k hk) hr
   ·obtain ⟨x, hx, rfl⟩ := hslot t s hs
    rw [hH1]
    exact t5 k (hnam hx k hk)
  have hargs' : args'.length = args.length := by
   have := internVs_length args (heap0 outs.length) outs.length
   rw [hiv] at this; exact this
  have hbk : backArgs outs.length args bp = pickV bp args' := by unfold backArgs; rw [hiv]
  have hpl : (pickU bp us).length = (backArgs outs.length args bp).length := pickU_length _ _ _
  have hq : RVs E1 (backArgs outs.length args bp) (pickU bp us) := by rw [hbk]; exact q1.pick fun i hi => by rw [hargs']; exact hbp i hi
  have hqn : ∀ p ∈ (backArgs outs.length args bp).zip (pickU bp us), ∀ k ∈ p.1.names, H1.used k = true := by
   intro p hp k hk
   have h1 : p.1 ∈ backArgs outs.length args bp := by
    have := List.mem_map_of_mem (f := Prod.fst) hp
    rwa [zip_fst hpl] at this
   rw [hbk] at h1
   obtain ⟨i, hi, e⟩ := List.mem_map.1 h1
   have hlt : i < args'.length := by rw [hargs']; exact hbp i hi
   refine q2 k (List.mem_flatMap.2 ⟨p.1, ?_, hk⟩)
   rw [← e, List.getD_eq_getElem?_getD, List.getElem?_eq_getElem hlt]
   exact List.getElem_mem hlt
  have hP : Pin F (initH args outs) E2 := by
   refine ⟨fun k hk => ?_, fun p hp => ⟨RV.sub t4 (hqn p hp) (hq.zip p hp), fun k hk => by
    have := t5 k (hqn p hp k hk)
    simpa [initH, hiv] using this⟩⟩
   have hk' : k < outs.length := by rw [← hob]; exact hk
   have hu0 : (heap0 outs.length).used k = true := by rw [used0]; exact decide_eq_true hk'
   have hu := T1.up k hu0
   refine ⟨by simpa [initH, hiv] using t5 k hu, fun g hg => ?_⟩
   have := t4.pt k hu g hg
   rw [T1.pt k hu0] at this
   exact this
  have hwp := h F rfl ⟨hob, zip_fst hpl⟩ { tmps := us.toArray ++ Array.replicate (fn.ntmps - us.toArray.size) undef, defers := [] } w
   ⟨E2, t1.trans T1.w, by simpa [initH, hiv] using t3, hS, hP⟩
  refine calls_of_wp hf hb (wp_mono hwp ?_)
  rintro e a' w' ⟨σ, ⟨he, xs, G1, G2, G3, res, outs', bk, hres, hpass, hback, hgive, hpost⟩, E, rfl, hH, hS, hP⟩
  obtain ⟨rs, r1, r2, r3⟩ := results_ok hH hS hres
  have fin : a'.defers = [] ∧ ∃ v, (results fn a'.tmps).run P E.w = .ok v E.w ∧
    ∃ res outs' bk S' us' bs' obs', Post res outs' bk ∧ OutOk w S (bs ++ obs ++ ob) ob res bk outs' (.returned v) E.w S' us' (pickU bp us) bs' obs' := by
   refine ⟨hS.defers, _, r1, ?_⟩
   have hids : (xs.map fun x => (true, x)).map (·.2) = xs := by simp [List.map_map, Function.comp_def]
   obtain ⟨E3, b3, V3, hX⟩ := pass_Vs hH hpass (by rw [hids]; exact r2) (fun p hp j hj => by
    obtain ⟨x, hx, rfl⟩ := List.mem_map.1 hp
    exact r3 j (List.mem_flatMap.2 ⟨x, hx, hj⟩))
   have hP2 : RVs E (backArgs outs.length args bp) (pickU bp us) := RVs.unzip hpl fun p hp => (hP.2 p hp).1
   have hP3 := zip_names (N := fun k => σ.H.used k = true) hpl fun p hp => (hP.2 p hp).2
   obtain ⟨E5, b5, V5, hX5⟩ := inner_Vs V3.rel hback (hP2.sub V3.sub (fun j hj => by
    obtain ⟨x, hx, hj⟩ := List.mem_flatMap.1 hj
    exact hP3 x hx j hj)) (fun x hx j hj => by rw [← V3.used]; exact hP3 x hx j hj)
   have V35 := V3.trans V5
   obtain ⟨E4, ob4, obs4, V4, k1, k2, k3, k4, k5, k6⟩ := give_outs V5.rel hgive
   have V := V35.trans V4
   have hpin : ∀ k, k < outs.length → ∃ g, E5.blk k = some g ∧ E.pt k = some g ∧ ob[k]? = some g := by
    intro k hk
    have hb := k1 k (by simp [hk])
    cases hbx : G2.boxes k with
    | none => exact absurd hbx hb
    | some cs =>
     obtain ⟨g, us, h1, _⟩ := V5.rel.boxes k cs hbx
     have h2 := V5.rel.pt k g h1
     rw [V35.pt] at h2
     exact ⟨g, h1, h2, (hP.1 k (by show k < ob.length; omega)).2 g h2⟩
   have hobe : ob4 = ob := by
    apply List.ext_getElem?
    intro k
    by_cases hk : k < outs.length
    ·obtain ⟨g, h1, h2, h3⟩ := hpin k hk
     have := k5 k k (by simp [hk])
     rw [← this, h1, h3]
    ·rw [List.getElem?_eq_none (by rw [k3]; simp; omega), List.getElem?_eq_none (by omega)]
   subst hobe
   have hXr := hX (envI E.w E.S ob4) ⟨rfl, fun _ _ h => h, fun k hk => (by cases hk), fun k i hki b hb => by
    split at hki
    ·rename_i hlt
     cases hki
     obtain ⟨g, h1, h2, h3⟩ := hpin k hlt
     have hb' : ob4[k]? = some b := hb
     rw [h3] at hb'; cases hb'
     exact h2
    ·cases hki⟩
   refine ⟨res, outs', bk, E.S, rs, b3 ++ b5, obs4, hpost, rfl, hXr.len, ⟨hXr.join (hX5 _ V3.w.symm (fun g b h => by rw [V3.S] at h; exact h)), k6 _ V35.w.symm (fun g b h => by rw [V35.S] at h; exact h), by rw [List.append_assoc]; exact V.nodup, fun b hb => ?_, hH.S, hH.SS⟩, fun b hb => ?_, hH.Ssup, fun g b hb => ?_, hH.fr⟩
   ·rw [List.append_assoc] at hb
    obtain ⟨k, hk⟩ := V.was b hb
    have := hH.own k b hk
    exact ⟨this.2.1, this.1⟩
   ·obtain ⟨k, hk⟩ := V.was b (by simp only [List.mem_append] at hb ⊢; rcases hb with hb | hb; exact .inl hb; exact .inr (.inl hb))
    exact (hH.own k b hk).2.2.symm
   ·exact hH.Ssub g b hb
  rcases he with rfl | rfl
  ·exact fin
  ·exact fin
set_option linter.unusedSimpArgs false
set_option linter.unusedVariables false
set_option linter.unnecessarySimpa false
abbrev str (l : List UInt8) : Value := .string ⟨⟨l⟩⟩
abbrev i64 (n : Int) : Value := .int .i64 n
abbrev u8 (b : UInt8) : Value := .int .u8 (b.toNat : Int)
def eI (n : Int) : List Cell := [.imm (i64 n)]
def eS (l : List UInt8) : List Cell := [.imm (str l)]
def eB (b : UInt8) : List Cell := [.imm (u8 b)]
def WpL (P : Program) (F : Fix) (ops : Array Oper) (Q : St → Prop) (l : List Oper) (σ : St) : Prop :=
 ∀ idx : List Nat, idx.map (ops[·]?) = l.map some → WpO P F ops Q idx σ
def dstB (n : Nat) : Option Nat → Bool
 | some d => decide (d < n)
 | none => true
def Heap.newBox (H : Heap) (q : Nat) (cs : List Cell) : Heap := { H with boxes := upd H.boxes q (some cs), made := upd H.made q true }
def Heap.newRow (H : Heap) (q : Nat) (r : Row) : Heap := { H with rows := upd H.rows q (some r), made := upd H.made q true }
def Heap.setBox (H : Heap) (q : Nat) (cs : List Cell) : Heap := { H with boxes := upd H.boxes q (some cs) }
def Heap.setRow (H : Heap) (q : Nat) (r : Row) : Heap := { H with rows := upd H.rows q (some r) }
section
variable {P : Program} {F : Fix} {ops : Array Oper} {Q : St → Prop} {N : Nat}
theorem dstB_ok (hn : F.n = N) {d : Option Nat} (h : dstB N d = true) : DstOk F.n d := by
 cases d with
 | none => trivial
 | some d => rw [hn]; show d < N; exact of_decide_eq_true h
theorem Done.mono {H : Heap} {m : Sem Next} {Q Q' : Option Slot → Heap → Prop} (h : Done P F H E m Q) (hq : ∀ x H', Q x H' → Q' x H') : Done P F H E m Q' := by
 obtain ⟨r, E', x, H', h1, h2, h3⟩ := h
 exact ⟨r, E', x, H', h1, hq _ _ h2, h3⟩
theorem L.nil (h : Q σ) : WpL P F ops Q [] σ := by
 intro idx hidx
 have : idx = [] := by simpa using hidx
 subst this
 exact WpO.nil h
variable {sl : Nat → Option Slot} {rest : List Oper}
theorem L.off {o : Oper} {H : Heap} (hn : F.n = N) (hg : guardOf ops sl o = some false) (hd : dstB N o.dst = true) (k : WpL P F ops Q rest ⟨setD sl o.dst (some (.tup [])), H⟩) : WpL P F ops Q (o :: rest) ⟨sl, H⟩ := by
 intro idx hidx
 cases idx with
 | nil => simp at hidx
 | cons i is =>
  simp only [List.map_cons, List.cons.injEq] at hidx
  exact WpO.off hidx.1 hg (dstB_ok hn hd) (k is hidx.2)
theorem L.op {o : Oper} {H : Heap} (hn : F.n = N) (hg : guardOf ops sl o = some true) (hd : dstB N o.dst = true)
  (h : ∀ (E : Env) (ev : Operand → Value), RelH F H E → RhoOk H E (opnd sl) ev → Done P F H E (execOp ev o) (fun x H' => WpL P F ops Q rest ⟨setD sl o.dst x, H'⟩)) : WpL P F ops Q (o :: rest) ⟨sl, H⟩ := by
 intro idx hidx
 cases idx with
 | nil => simp at hidx
 | cons i is =>
  simp only [List.map_cons, List.cons.injEq] at hidx
  exact WpO.op hidx.1 hg (dstB_ok hn hd) fun E ev hH hρ => (h E ev hH hρ).mono fun x H' hk => hk is hidx.2
variable {id : Nat}
theorem WpC.regionL {Q : Exit → St → Prop} (h : WpL P F ops (Q .normal) ops.toList σ) : WpC P F (.region id ops false) Q σ := by
 refine WpC.region rfl (h _ ?_)
 apply List.ext_getElem?
 intro i
 simp only [List.getElem?_map]
 by_cases hi : i < ops.size
 ·rw [List.getElem?_range hi]; simp [hi]
 ·rw [List.getElem?_eq_none (by simpa using hi)]; simp [hi]
section
variable {dst : Option Nat} {ty : TypeId} {pos : String} {aft : Array Edge} {grd : Option (Nat × Bool)} {rest : List Oper} {sl : Nat → Option Slot} {H : Heap}
variable {x : Operand}
theorem L.move {s : Slot} (hn : F.n = N) (hg : guardOf ops sl ⟨dst, .move x, ty, pos, aft, grd⟩ = some true) (hd : dstB N dst = true) (hx : opnd sl x = some s)
  (k : WpL P F ops Q rest ⟨setD sl dst (some s), H⟩) : WpL P F ops Q (⟨dst, .move x, ty, pos, aft, grd⟩ :: rest) ⟨sl, H⟩ :=
 L.op hn hg hd fun _ _ hH hρ => done_move hH hρ (.inl rfl) hx k
theorem L.assign {s : Slot} (hn : F.n = N) (hg : guardOf ops sl ⟨dst, .assign x, ty, pos, aft, grd⟩ = some true) (hd : dstB N dst = true) (hx : opnd sl x = some s)
  (k : WpL P F ops Q rest ⟨setD sl dst (some s), H⟩) : WpL P F ops Q (⟨dst, .assign x, ty, pos, aft, grd⟩ :: rest) ⟨sl, H⟩ :=
 L.op hn hg hd fun _ _ hH hρ => done_move hH hρ (.inr rfl) hx k
theorem L.pick {c a b : Operand} {t : Bool} {s : Slot} (hn : F.n = N) (hg : guardOf ops sl ⟨dst, .pick c a b, ty, pos, aft, grd⟩ = some true) (hd : dstB N dst = true) (hc : opnd sl c = some (im (.bool t)))
  (hx : opnd sl (if t then a else b) = some s) (k : WpL P F ops Q rest ⟨setD sl dst (some s), H⟩) : WpL P F ops Q (⟨dst, .pick c a b, ty, pos, aft, grd⟩ :: rest) ⟨sl, H⟩ :=
 L.op hn hg hd fun _ _ hH hρ => done_pick hH hρ rfl hc rfl hx k
variable {i : Nat}
theorem L.extract {t : Operand} {x : V} (hn : F.n = N) (hg : guardOf ops sl ⟨dst, .extract t i, ty, pos, aft, grd⟩ = some true) (hd : dstB N dst = true) (ht : opnd sl t = some (.tup xs)) (hx : xs[i]? = some x)
  (k : WpL P F ops Q rest ⟨setD sl dst (some (.v x)), H⟩) : WpL P F ops Q (⟨dst, .extract t i, ty, pos, aft, grd⟩ :: rest) ⟨sl, H⟩ :=
 L.op hn hg hd fun _ _ hH hρ => done_extract hH hρ rfl ht hx k
def binV (op : BinOp) : Value → Value → Option Value
 | .int k a, .int k' b => if k = k' then match op with
  | .add => some (.int k (k.wrap (a + b)))
  | .sub => some (.int k (k.wrap (a - b)))
  | .mul => some (.int k (k.wrap (a * b)))
  | .and => some (.int k (Go.bits .and k a b))
  | .or => some (.int k (Go.bits .or k a b))
  | .xor => some (.int k (Go.bits .xor k a b))
  | .andNot => some (.int k (Go.bits .andNot k a b))
  | .eql => some (.bool (a == b))
  | .neq => some (.bool (a != b))
  | .lss => some (.bool (decide (a < b)))
  | .leq => some (.bool (decide (a ≤ b)))
  | .gtr => some (.bool (decide (a > b)))
  | .geq => some (.bool (decide (a ≥ b)))
  | _ => none else none
 | .string a, .string b => match op with
  | .eql => some (.bool (a.toList == b.toList))
  | .neq => some (.bool !(a.toList == b.toList))
  | .lss => some (.bool (Op.bytesLess a.toList b.toList))
  | .leq => some (.bool (Op.bytesLess a.toList b.toList || a.toList == b.toList))
  | .gtr => some (.bool !(Op.bytesLess a.toList b.toList || a.toList == b.toList))
  | .geq => some (.bool !(Op.bytesLess a.toList b.toList))
  | _ => none
 | _, _ => none
theorem run_binV {op : BinOp} {a b r : Value} (h : binV op a b = some r) (t : TypeId) (x y : Operand) (w : World) :
  (do eqGuard op t x y a b; binOp op t a b : Sem Value).run P w = .ok r w := by
 unfold binV at h
 split at h
 ·rename_i k a k' b
  split at h
  ·rename_i hk; subst hk
   cases op <;> simp at h <;> subst h <;> simp [eqGuard, go_sem]
  ·cases h
 ·rename_i a b
  cases op <;> simp at h <;> subst h <;> simp [eqGuard, binOp, Op.stringOp]
 ·cases h
variable {y : Operand} {xt yt : TypeId}
theorem L.bin {op : BinOp} {a b r : Value} (hn : F.n = N) (hg : guardOf ops sl ⟨dst, .binOp op xt x y yt, ty, pos, aft, grd⟩ = some true) (hd : dstB N dst = true)
  (hx : opnd sl x = some (im a)) (hy : opnd sl y = some (im b)) (hr : binV op a b = some r) (hi : isImm r = true)
  (k : WpL P F ops Q rest ⟨setD sl dst (some (im r)), H⟩) : WpL P F ops Q (⟨dst, .binOp op xt x y yt, ty, pos, aft, grd⟩ :: rest) ⟨sl, H⟩ := by
 refine L.op hn hg hd fun E ev hH hρ => ?_
 have h1 := im_ok hρ hx rfl
 have h2 := im_ok hρ hy rfl
 refine Done.same hH (u := r) ?_ k (by simp only [RSlot, RV, RC]; exact ⟨trivial, hi⟩) (fun k hk => by simp [Slot.names, V.names, V.cells, cnames, Cell.names] at hk)
 have := run_binV (P := P) hr xt x y E.w
 have e : execOp ev ⟨dst, .binOp op xt x y yt, ty, pos, aft, grd⟩ = (do let v ← (do eqGuard op xt x y a b; binOp op xt a b : Sem Value); pure (.value v)) := by
  simp only [execOp, h1, h2]
 rw [e, Sem.run_bind, this]
 rfl
theorem L.val {o : Oper} {r : Value} (hn : F.n = N) (hg : guardOf ops sl o = some true) (hd : dstB N o.dst = true) (hi : isImm r = true)
  (hrun : ∀ (E : Env) (ev : Operand → Value), RhoOk H E (opnd sl) ev → (execOp ev o).run P E.w = .ok (.value r) E.w)
  (k : WpL P F ops Q rest ⟨setD sl o.dst (some (im r)), H⟩) : WpL P F ops Q (o :: rest) ⟨sl, H⟩ :=
 L.op hn hg hd fun E ev hH hρ => Done.same hH (u := r) (hrun E ev hρ) k (by simp only [RSlot, RV, RC]; exact ⟨trivial, hi⟩) (fun k hk => by simp [Slot.names, V.names, V.cells, cnames, Cell.names] at hk)
theorem toList_str (l : List UInt8) : (ByteArray.mk ⟨l⟩).toList = l := by
 rw [ByteArray.toList_eq]
def txtV (op : BinOp) (a b : List UInt8) : Option Bool := match op with
 | .eql => some (a == b)
 | .neq => some (a != b)
 | .lss => some (Op.bytesLess a b)
 | .leq => some (Op.bytesLess a b || a == b)
 | .gtr => some (!(Op.bytesLess a b || a == b))
 | .geq => some (!(Op.bytesLess a b))
 | _ => none
theorem L.binS {op : BinOp} {a b : List UInt8} {r : Bool} (hn : F.n = N) (hg : guardOf ops sl ⟨dst, .binOp op xt x y yt, ty, pos, aft, grd⟩ = some true) (hd : dstB N dst = true)
  (hx : opnd sl x = some (im (str a))) (hy : opnd sl y = some (im (str b))) (hr : txtV op a b = some r)
  (k : WpL P F ops Q rest ⟨setD sl dst (some (im (.bool r))), H⟩) : WpL P F ops Q (⟨dst, .binOp op xt x y yt, ty, pos, aft, grd⟩ :: rest) ⟨sl, H⟩ := by
 refine L.bin hn hg hd hx hy ?_ rfl k
 cases op <;> simp only [txtV, Option.some.injEq, reduceCtorEq] at hr <;> subst hr <;> simp only [binV, str, toList_str] <;> rfl
theorem L.catS {a b : List UInt8} (hn : F.n = N) (hg : guardOf ops sl ⟨dst, .binOp .add xt x y yt, ty, pos, aft, grd⟩ = some true) (hd : dstB N dst = true)
  (hx : opnd sl x = some (im (str a))) (hy : opnd sl y = some (im (str b))) (hr : a.length + b.length ≤ 9223372036854775807)
  (k : WpL P F ops Q rest ⟨setD sl dst (some (im (str (a ++ b)))), H⟩) : WpL P F ops Q (⟨dst, .binOp .add xt x y yt, ty, pos, aft, grd⟩ :: rest) ⟨sl, H⟩ := by
 refine L.val hn hg hd rfl (fun E ev hρ => ?_) k
 have h1 := im_ok hρ hx rfl
 have h2 := im_ok hρ hy rfl
 have hlt : ¬ IntKind.i64.max < (a.length : Int) + (b.length : Int) := by
  have : IntKind.i64.max = 9223372036854775807 := by decide
  omega
 have e : (ByteArray.mk ⟨a⟩) ++ (ByteArray.mk ⟨b⟩) = ByteArray.mk ⟨a ++ b⟩ := by
  apply ByteArray.ext
  simp
 have hlt' : ¬ (9223372036854775807 : Int) < (a.length : Int) + (b.length : Int) := by omega
 simp [execOp, h1, h2, eqGuard, binOp, Op.stringOp, ByteArray.size, hlt', e]
def byteV (op : BinOp) (a b : UInt8) : Option Value := match op with
 | .eql => some (.bool (a == b))
 | .neq => some (.bool (a != b))
 | .lss => some (.bool (decide (a < b)))
 | .leq => some (.bool (decide (a ≤ b)))
 | .gtr => some (.bool (decide (b < a)))
 | .geq => some (.bool (decide (b ≤ a)))
 | .add => some (u8 (a + b))
 | .sub => some (u8 (a - b))
 | .and => some (u8 (a &&& b))
 | _ => none
theorem u8_beq (a b : UInt8) : ((a.toNat : Int) == (b.toNat : Int)) = (a == b) := by
 by_cases h : a = b
 ·subst h; simp
 ·have : ¬ a.toNat = b.toNat := fun e => h (UInt8.toNat_inj.1 e)
  rw [beq_eq_false_iff_ne.2 h, beq_eq_false_iff_ne.2 (fun e => this (by omega))]
theorem L.binB {op : BinOp} {a b : UInt8} {r : Value} (hn : F.n = N) (hg : guardOf ops sl ⟨dst, .binOp op xt x y yt, ty, pos, aft, grd⟩ = some true) (hd : dstB N dst = true)
  (hx : opnd sl x = some (im (u8 a))) (hy : opnd sl y = some (im (u8 b))) (hr : byteV op a b = some r)
  (k : WpL P F ops Q rest ⟨setD sl dst (some (im r)), H⟩) : WpL P F ops Q (⟨dst, .binOp op xt x y yt, ty, pos, aft, grd⟩ :: rest) ⟨sl, H⟩ := by
 refine L.bin (r := r) hn hg hd hx hy ?_ ?_ k
 ·cases op <;> simp only [byteV, Option.some.injEq, reduceCtorEq] at hr <;> subst hr <;> simp only [binV, u8, if_true, Option.some.injEq, Value.bool.injEq, Value.int.injEq, true_and]
  ·rw [IntKind.wrap_u8, UInt8.toNat_add]; omega
  ·have := a.toNat_lt; have := b.toNat_lt
   rw [IntKind.wrap_u8, UInt8.toNat_sub]; omega
  ·have := (bits_nat .u8 8 (by decide) (fun n h0 h1 => wraps_u8 n h0 h1) a.toNat b.toNat a.toNat_lt b.toNat_lt).1
   rw [this, UInt8.toNat_and]
  ·exact u8_beq a b
  ·show (!((a.toNat : Int) == (b.toNat : Int))) = !(a == b)
   rw [u8_beq]
  ·simp [UInt8.lt_iff_toNat_lt]
  ·simp [UInt8.le_iff_toNat_le]
  ·simp [UInt8.lt_iff_toNat_lt]
  ·simp [UInt8.le_iff_toNat_le]
 ·cases op <;> simp only [byteV, Option.some.injEq, reduceCtorEq] at hr <;> subst hr <;> rfl
variable {kd : IntKind}
theorem L.quo {a b : Int} (hn : F.n = N) (hg : guardOf ops sl ⟨dst, .binOp .quo xt x y yt, ty, pos, aft, grd⟩ = some true) (hd : dstB N dst = true)
  (hx : opnd sl x = some (im (.int kd a))) (hy : opnd sl y = some (im (.int kd b))) (hb : (b == 0) = false)
  (k : WpL P F ops Q rest ⟨setD sl dst (some (im (.int kd (kd.wrap (a.tdiv b))))), H⟩) : WpL P F ops Q (⟨dst, .binOp .quo xt x y yt, ty, pos, aft, grd⟩ :: rest) ⟨sl, H⟩ := by
 refine L.val hn hg hd rfl (fun E ev hρ => ?_) k
 have h0 : b ≠ 0 := by simpa using hb
 simp [execOp, im_ok hρ hx rfl, im_ok hρ hy rfl, eqGuard, binOp, Op.intDiv, h0]
theorem L.rem {a b : Int} (hn : F.n = N) (hg : guardOf ops sl ⟨dst, .binOp .rem xt x y yt, ty, pos, aft, grd⟩ = some true) (hd : dstB N dst = true)
  (hx : opnd sl x = some (im (.int kd a))) (hy : opnd sl y = some (im (.int kd b))) (hb : (b == 0) = false)
  (k : WpL P F ops Q rest ⟨setD sl dst (some (im (.int kd (a.tmod b)))), H⟩) : WpL P F ops Q (⟨dst, .binOp .rem xt x y yt, ty, pos, aft, grd⟩ :: rest) ⟨sl, H⟩ := by
 refine L.val hn hg hd rfl (fun E ev hρ => ?_) k
 have h0 : b ≠ 0 := by simpa using hb
 simp [execOp, im_ok hρ hx rfl, im_ok hρ hy rfl, eqGuard, binOp, Op.intDiv, h0]
def shlI (kd : IntKind) (a b : Int) : Int := kd.wrap (a * 2 ^ (min b.toNat kd.bits))
def shrI (kd : IntKind) (a b : Int) : Int := a.fdiv (2 ^ (min b.toNat kd.bits))
variable {kd' : IntKind}
theorem L.shl {a b : Int} (hn : F.n = N) (hg : guardOf ops sl ⟨dst, .binOp .shl xt x y yt, ty, pos, aft, grd⟩ = some true) (hd : dstB N dst = true)
  (hx : opnd sl x = some (im (.int kd a))) (hy : opnd sl y = some (im (.int kd' b))) (hb : decide (b < 0) = false)
  (k : WpL P F ops Q rest ⟨setD sl dst (some (im (.int kd (shlI kd a b)))), H⟩) : WpL P F ops Q (⟨dst, .binOp .shl xt x y yt, ty, pos, aft, grd⟩ :: rest) ⟨sl, H⟩ := by
 refine L.val hn hg hd rfl (fun E ev hρ => ?_) k
 have h0 : ¬ b < 0 := by simpa using hb
 simp [execOp, im_ok hρ hx rfl, im_ok hρ hy rfl, eqGuard, binOp, Op.shift, h0, shlI]
theorem L.shr {a b : Int} (hn : F.n = N) (hg : guardOf ops sl ⟨dst, .binOp .shr xt x y yt, ty, pos, aft, grd⟩ = some true) (hd : dstB N dst = true)
  (hx : opnd sl x = some (im (.int kd a))) (hy : opnd sl y = some (im (.int kd' b))) (hb : decide (b < 0) = false)
  (k : WpL P F ops Q rest ⟨setD sl dst (some (im (.int kd (shrI kd a b)))), H⟩) : WpL P F ops Q (⟨dst, .binOp .shr xt x y yt, ty, pos, aft, grd⟩ :: rest) ⟨sl, H⟩ := by
 refine L.val hn hg hd rfl (fun E ev hρ => ?_) k
 have h0 : ¬ b < 0 := by simpa using hb
 simp [execOp, im_ok hρ hx rfl, im_ok hρ hy rfl, eqGuard, binOp, Op.shift, h0, shrI]
theorem L.not {a : Bool} (hn : F.n = N) (hg : guardOf ops sl ⟨dst, .unOp .not xt x, ty, pos, aft, grd⟩ = some true) (hd : dstB N dst = true)
  (hx : opnd sl x = some (im (.bool a))) (k : WpL P F ops Q rest ⟨setD sl dst (some (im (.bool (!a)))), H⟩) : WpL P F ops Q (⟨dst, .unOp .not xt x, ty, pos, aft, grd⟩ :: rest) ⟨sl, H⟩ := by
 refine L.val hn hg hd rfl (fun E ev hρ => ?_) k
 simp [execOp, im_ok hρ hx rfl, Op.unary]
theorem L.neg {a : Int} (hn : F.n = N) (hg : guardOf ops sl ⟨dst, .unOp .neg xt x, ty, pos, aft, grd⟩ = some true) (hd : dstB N dst = true)
  (hx : opnd sl x = some (im (.int kd a))) (k : WpL P F ops Q rest ⟨setD sl dst (some (im (.int kd (kd.wrap (0 - a))))), H⟩) : WpL P F ops Q (⟨dst, .unOp .neg xt x, ty, pos, aft, grd⟩ :: rest) ⟨sl, H⟩ := by
 refine L.val hn hg hd rfl (fun E ev hρ => ?_) k
 simp [execOp, im_ok hρ hx rfl, Op.unary, Op.intArith]
def ofI (n : Int) : UInt8 := UInt8.ofNat (n % 256).toNat
theorem ofI_toNat (n : Int) : ((ofI n).toNat : Int) = n % 256 := by
 unfold ofI
 rw [UInt8.toNat_ofNat']
 omega
theorem L.conv {a b : TypeId} {n : Int} {da : TypeDesc} (hta : P.underlying a = some da) (htb : P.underlying b = some (.int kd)) (hn : F.n = N) (hg : guardOf ops sl ⟨dst, .convert a b x, ty, pos, aft, grd⟩ = some true) (hd : dstB N dst = true)
  (hx : opnd sl x = some (im (.int kd' n))) (k : WpL P F ops Q rest ⟨setD sl dst (some (im (.int kd (kd.wrap n)))), H⟩) : WpL P F ops Q (⟨dst, .convert a b x, ty, pos, aft, grd⟩ :: rest) ⟨sl, H⟩ := by
 refine L.val hn hg hd rfl (fun E ev hρ => ?_) k
 simp [execOp, im_ok hρ hx rfl, convert, run_underlying hta, run_underlying htb, Conv.intToInt]
theorem L.toB {a b : TypeId} {n : Int} {da : TypeDesc} (hta : P.underlying a = some da) (htb : P.underlying b = some (.int .u8)) (hn : F.n = N) (hg : guardOf ops sl ⟨dst, .convert a b x, ty, pos, aft, grd⟩ = some true) (hd : dstB N dst = true)
  (hx : opnd sl x = some (im (.int kd' n))) (k : WpL P F ops Q rest ⟨setD sl dst (some (im (u8 (ofI n)))), H⟩) : WpL P F ops Q (⟨dst, .convert a b x, ty, pos, aft, grd⟩ :: rest) ⟨sl, H⟩ := by
 refine L.conv hta htb hn hg hd hx ?_
 rw [IntKind.wrap_u8, ← ofI_toNat]; exact k
theorem L.ofB {a b : TypeId} {c : UInt8} {da : TypeDesc} (hta : P.underlying a = some da) (htb : P.underlying b = some (.int .i64)) (hn : F.n = N) (hg : guardOf ops sl ⟨dst, .convert a b x, ty, pos, aft, grd⟩ = some true) (hd : dstB N dst = true)
  (hx : opnd sl x = some (im (u8 c))) (k : WpL P F ops Q rest ⟨setD sl dst (some (im (i64 (c.toNat : Int)))), H⟩) : WpL P F ops Q (⟨dst, .convert a b x, ty, pos, aft, grd⟩ :: rest) ⟨sl, H⟩ := by
 refine L.conv hta htb hn hg hd hx ?_
 have := c.toNat_lt
 rw [IntKind.wrap_i64, show ((c.toNat : Int) + 9223372036854775808) % 18446744073709551616 - 9223372036854775808 = (c.toNat : Int) by omega]
 exact k
variable {α : Type}
def at? (l : List α) (i : Int) : Option α := if 0 ≤ i then l[i.toNat]? else none
def cut? (l : List α) (a b : Int) : Option (List α) := if 0 ≤ a ∧ a ≤ b ∧ b ≤ l.length then some ((l.drop a.toNat).take (b - a).toNat) else none
variable {t : TypeId}
theorem L.idxS {l : List UInt8} {i : Int} {b : UInt8} (ht : P.underlying t = some .string) (hn : F.n = N) (hg : guardOf ops sl ⟨dst, .index t x y, ty, pos, aft, grd⟩ = some true) (hd : dstB N dst = true)
  (hx : opnd sl x = some (im (str l))) (hy : opnd sl y = some (im (.int kd i))) (hb : at? l i = some b)
  (k : WpL P F ops Q rest ⟨setD sl dst (some (im (u8 b))), H⟩) : WpL P F ops Q (⟨dst, .index t x y, ty, pos, aft, grd⟩ :: rest) ⟨sl, H⟩ := by
 refine L.val hn hg hd rfl (fun E ev hρ => ?_) k
 unfold at? at hb
 split at hb
 ·rename_i h0
  obtain ⟨hlt, e⟩ := List.getElem?_eq_some_iff.1 hb
  have hget : (ByteArray.mk ⟨l⟩)[i.toNat]? = some b := by
   rw [getElem?_pos (ByteArray.mk ⟨l⟩) i.toNat (by simpa [ByteArray.size] using hlt)]
   simp [ByteArray.getElem_eq_getElem_data, e]
  simp [execOp, im_ok hρ hx rfl, im_ok hρ hy rfl, Instr.index, asIntOf, run_underlying ht, h0, hget]
 ·cases hb
theorem L.lenS {l : List UInt8} (ht : P.underlying t = some .string) (hn : F.n = N) (hg : guardOf ops sl ⟨dst, .call { callee := .builtin .len, args := #[x], argTypes := #[t] }, ty, pos, aft, grd⟩ = some true) (hd : dstB N dst = true)
  (hx : opnd sl x = some (im (str l))) (k : WpL P F ops Q rest ⟨setD sl dst (some (im (i64 (l.length : Int)))), H⟩) : WpL P F ops Q (⟨dst, .call { callee := .builtin .len, args := #[x], argTypes := #[t] }, ty, pos, aft, grd⟩ :: rest) ⟨sl, H⟩ := by
 refine L.val hn hg hd rfl (fun E ev hρ => ?_) k
 have h := run_len_string (P := P) E.w t ty ⟨⟨l⟩⟩ ht
 simp [execOp, resolve, invoke, builtin, im_ok hρ hx rfl, h, goInt, ByteArray.size]
end
end
section
variable {P : Program} {F : Fix} {ops : Array Oper} {Q : St → Prop} {N : Nat}
variable {dst : Option Nat} {ty : TypeId} {pos : String} {aft : Array Edge} {grd : Option (Nat × Bool)} {rest : List Oper} {sl : Nat → Option Slot} {H : Heap}
variable {α : Type}
theorem at?_get {l : List α} {i : Int} {a : α} (h : at? l i = some a) : 0 ≤ i ∧ l[i.toNat]? = some a := by
 unfold at? at h
 split at h
 ·rename_i h0; exact ⟨h0, h⟩
 ·cases h
def bndS (sl : Nat → Option Slot) (d : Int) : Option Operand → Option Int
 | none => some d
 | some x => match opnd sl x with
  | some (.v (.one (.imm (.int _ n)))) => some n
  | _ => none
variable {hi : Option Operand} {x : Operand} {t : TypeId}
theorem L.cutS {lo : Option Operand} {l m : List UInt8} {a b : Int} (ht : P.underlying t = some .string) (hn : F.n = N) (hg : guardOf ops sl ⟨dst, .slice t x lo hi none, ty, pos, aft, grd⟩ = some true) (hd : dstB N dst = true)
  (hx : opnd sl x = some (im (str l))) (ha : bndS sl 0 lo = some a) (hb : bndS sl l.length hi = some b) (hc : cut? l a b = some m)
  (k : WpL P F ops Q rest ⟨setD sl dst (some (im (str m))), H⟩) : WpL P F ops Q (⟨dst, .slice t x lo hi none, ty, pos, aft, grd⟩ :: rest) ⟨sl, H⟩ := by
 refine L.val hn hg hd rfl (fun E ev hρ => ?_) k
 unfold cut? at hc
 split at hc
 ·rename_i h
  obtain ⟨h1, h2, h3⟩ := h
  cases hc
  have bd : ∀ {d : Int} {y : Operand} {n : Int}, bndS sl d (some y) = some n → ∃ kd, ev y = .int kd n := by
   intro d y n h
   simp only [bndS] at h
   split at h
   ·rename_i kd n' hy; cases h; exact ⟨kd, im_ok hρ hy rfl⟩
   ·cases h
  have bl : ∀ (y : Nat) (n : Int), 0 ≤ n → n ≤ y → ∀ code k, (Instr.sliceBound (.int k n) y code).run P E.w = .ok n.toNat E.w := fun y n h0 hn code k => by
   simp [Instr.sliceBound, asIntOf, h0, hn]
  have ex : (ByteArray.mk ⟨l⟩).extract a.toNat b.toNat = ByteArray.mk ⟨(l.drop a.toNat).take (b - a).toNat⟩ := by
   apply ByteArray.ext
   simp only [ByteArray.data_extract]
   apply Array.ext'
   simp [show b.toNat - a.toNat = (b - a).toNat by omega]
  have hsz : (ByteArray.mk ⟨l⟩).size = l.length := by simp [ByteArray.size]
  have hrun : (Instr.sliceAt t (.string ⟨⟨l⟩⟩) (lo.map ev) (hi.map ev) none).run P E.w = .ok (str ((l.drop a.toNat).take (b - a).toNat)) E.w := by
   cases lo with
   | none =>
    simp only [bndS, Option.some.injEq] at ha; subst ha
    cases hi with
    | none =>
     simp only [bndS, Option.some.injEq] at hb; subst hb
     simp at ex
     simp [Instr.sliceAt, Instr.slice, run_underlying ht, Instr.sliceBounds, hsz, ex]
    | some y =>
     obtain ⟨kd, hy⟩ := bd hb
     simp at ex
     simp [Instr.sliceAt, Instr.slice, run_underlying ht, Instr.sliceBounds, hsz, hy, bl l.length b (by omega) h3, ex]
   | some z =>
    obtain ⟨kd', hz⟩ := bd ha
    cases hi with
    | none =>
     simp only [bndS, Option.some.injEq] at hb; subst hb
     simp at ex
     simp [Instr.sliceAt, Instr.slice, run_underlying ht, Instr.sliceBounds, hsz, hz, bl l.length a h1 h2, ex]
    | some y =>
     obtain ⟨kd, hy⟩ := bd hb
     have := bl b.toNat a h1 (by omega)
     simp [Instr.sliceAt, Instr.slice, run_underlying ht, Instr.sliceBounds, hsz, hy, hz, bl l.length b (by omega) h3, this, ex]
  simp [execOp, im_ok hρ hx rfl, hrun]
 ·cases hc
variable {el : TypeId}
theorem L.lenR {xs : List α} {e : α → List Cell} {c : Cell} (ht : P.underlying t = some (.slice el)) (hn : F.n = N) (hg : guardOf ops sl ⟨dst, .call { callee := .builtin .len, args := #[x], argTypes := #[t] }, ty, pos, aft, grd⟩ = some true) (hd : dstB N dst = true)
  (hx : opnd sl x = some (.v (.one c))) (hc : H.lenOf c = some (xs.map e).length)
  (k : WpL P F ops Q rest ⟨setD sl dst (some (im (i64 (xs.length : Int)))), H⟩) : WpL P F ops Q (⟨dst, .call { callee := .builtin .len, args := #[x], argTypes := #[t] }, ty, pos, aft, grd⟩ :: rest) ⟨sl, H⟩ := by
 rw [List.length_map] at hc
 exact L.op hn hg hd fun _ _ hH hρ => done_len hH hρ rfl ht hx hc k
def addrOf (c : Cell) (i : Nat) (e : List Cell) : Option Cell :=
 match c with
 | .sl g _ => some (.pe g e 0)
 | .own k => some (.ep k i 0)
 | .sub k lo n => if i < n then some (.ep k (lo + i) 0) else none
 | _ => none
def Heap.shows (H : Heap) : Cell → Option (List (List Cell))
 | .sl _ es => some es
 | .own k => (H.rows k).map fun r => r.es
 | _ => none
variable {ti : TypeInfo} {kd : IntKind} {c' : Cell} {y : Operand}
theorem L.idxR {xs : List α} {e : α → List Cell} {a : α} {c : Cell} {i : Int} (ht : P.underlying t = some (.slice el)) (hti : P.info? el = some ti) (hn : F.n = N)
  (hg : guardOf ops sl ⟨dst, .indexAddr t x y, ty, pos, aft, grd⟩ = some true) (hd : dstB N dst = true) (hx : opnd sl x = some (.v (.one c))) (hy : opnd sl y = some (im (.int kd i))) (hc : H.shows c = some (xs.map e))
  (ha : at? xs i = some a) (hel : (e a).length = ti.size) (hc' : addrOf c i.toNat (e a) = some c')
  (k : WpL P F ops Q rest ⟨setD sl dst (some (.v (.one c'))), H⟩) : WpL P F ops Q (⟨dst, .indexAddr t x y, ty, pos, aft, grd⟩ :: rest) ⟨sl, H⟩ := by
 obtain ⟨h0, hget⟩ := at?_get ha
 have hi : (i.toNat : Int) = i := Int.toNat_of_nonneg h0
 have hget' : (xs.map e)[i.toNat]? = some (e a) := by simp [hget]
 refine L.op hn hg hd fun _ _ hH hρ => done_indexAddr hH hρ rfl ht hti hx (ik := kd) (i := i.toNat) hy (by simp [Slot.val?, V.val?, Cell.val?, hi]) (c' := c') (e := e a) ?_ hel k
 cases c with
 | sl g es => simp only [Heap.shows, Option.some.injEq] at hc; subst hc; cases hc'; simp [Heap.elemAt, hget]
 | own q =>
  simp only [Heap.shows, Option.map_eq_some_iff] at hc
  obtain ⟨r, hr, hc⟩ := hc
  cases hc'
  simp [Heap.elemAt, hr, hc, hget]
 | _ => simp [Heap.shows] at hc
variable {j n : Nat}
theorem L.loadPe {g : Bool} {el : List Cell} {ag : Bool} {x : V} (hs : shape P t = some (ag, n)) (hn : F.n = N) (hg : guardOf ops sl ⟨dst, .load t y, ty, pos, aft, grd⟩ = some true) (hd : dstB N dst = true)
  (hy : opnd sl y = some (.v (.one (.pe g el j)))) (hl : Nat.ble (j + n) el.length = true) (hx : mkV ag (((el.drop j).take n).map (ldC g)) = some x)
  (k : WpL P F ops Q rest ⟨setD sl dst (some (.v x)), H⟩) : WpL P F ops Q (⟨dst, .load t y, ty, pos, aft, grd⟩ :: rest) ⟨sl, H⟩ :=
 L.op hn hg hd fun _ _ hH hρ => done_load_pe hH hρ rfl hy hs (Nat.le_of_ble_eq_true hl) hx k
variable {q : Nat}
theorem L.loadPtr {cs : List Cell} {ag : Bool} {x : V} (hs : shape P t = some (ag, n)) (hn : F.n = N) (hg : guardOf ops sl ⟨dst, .load t y, ty, pos, aft, grd⟩ = some true) (hd : dstB N dst = true)
  (hy : opnd sl y = some (.v (.one (.ptr q j)))) (hb : H.boxes q = some cs) (hl : Nat.ble (j + n) cs.length = true) (hx : mkV ag ((cs.drop j).take n) = some x)
  (k : WpL P F ops Q rest ⟨setD sl dst (some (.v x)), H⟩) : WpL P F ops Q (⟨dst, .load t y, ty, pos, aft, grd⟩ :: rest) ⟨sl, H⟩ :=
 L.op hn hg hd fun _ _ hH hρ => done_load_ptr hH hρ rfl hy hb hs (Nat.le_of_ble_eq_true hl) hx k
variable {i sz : Nat}
theorem L.loadEp {xs : List α} {e : α → List Cell} {a : α} {ag : Bool} {x : V} (hs : shape P t = some (ag, n)) (hn : F.n = N) (hg : guardOf ops sl ⟨dst, .load t y, ty, pos, aft, grd⟩ = some true) (hd : dstB N dst = true)
  (hy : opnd sl y = some (.v (.one (.ep q i j)))) (hb : H.rows q = some ⟨sz, xs.map e⟩) (ha : xs[i]? = some a) (hl : Nat.ble (j + n) (e a).length = true) (hx : mkV ag (((e a).drop j).take n) = some x)
  (k : WpL P F ops Q rest ⟨setD sl dst (some (.v x)), H⟩) (hno : noOw (((e a).drop j).take n) = true := by exact rfl) : WpL P F ops Q (⟨dst, .load t y, ty, pos, aft, grd⟩ :: rest) ⟨sl, H⟩ :=
 L.op hn hg hd fun _ _ hH hρ => done_load_ep hH hρ rfl hy hb (by simp [ha]) hs (Nat.le_of_ble_eq_true hl) hx hno k
def Heap.live (H : Heap) : Cell → Bool
 | .ptr k _ => (H.boxes k).isSome
 | .ep k _ _ => (H.rows k).isSome
 | .pe _ _ _ => true
 | _ => false
theorem live_ok {H : Heap} {c : Cell} (h : H.live c = true) : (∃ k j, c = .ptr k j ∧ H.boxes k ≠ none) ∨ (∃ k i j, c = .ep k i j ∧ H.rows k ≠ none) ∨ ∃ g e j, c = .pe g e j := by
 cases c <;> simp [Heap.live] at h
 ·exact .inl ⟨_, _, rfl, fun e => by rw [e] at h; cases h⟩
 ·exact .inr (.inl ⟨_, _, _, rfl, fun e => by rw [e] at h; cases h⟩)
 ·exact .inr (.inr ⟨_, _, _, rfl⟩)
variable {fd : Field} {fs : Array Field}
theorem L.fieldAddr {s : TypeId} {f : Nat} {i : TypeInfo} {c : Cell} (hs : P.underlying s = some (.struct fs)) (hf : fs[f]? = some fd) (hi : P.info? fd.type = some i) (h0 : (i.size == 0) = false) (hn : F.n = N)
  (hg : guardOf ops sl ⟨dst, .fieldAddr s y f, ty, pos, aft, grd⟩ = some true) (hd : dstB N dst = true) (hy : opnd sl y = some (.v (.one c))) (hc : c.shift fd.offset = some c') (hl : H.live c = true)
  (k : WpL P F ops Q rest ⟨setD sl dst (some (.v (.one c'))), H⟩) : WpL P F ops Q (⟨dst, .fieldAddr s y f, ty, pos, aft, grd⟩ :: rest) ⟨sl, H⟩ :=
 L.op hn hg hd fun _ _ hH hρ => done_fieldAddr hH hρ rfl hs hf hi (by simpa using h0) hy hc (live_ok hl) k
theorem L.nilCheck {c : Cell} (hn : F.n = N) (hg : guardOf ops sl ⟨dst, .nilCheck y, ty, pos, aft, grd⟩ = some true) (hd : dstB N dst = true) (hy : opnd sl y = some (.v (.one c))) (hl : H.live c = true)
  (k : WpL P F ops Q rest ⟨setD sl dst (some (.v (.one c))), H⟩) : WpL P F ops Q (⟨dst, .nilCheck y, ty, pos, aft, grd⟩ :: rest) ⟨sl, H⟩ :=
 L.op hn hg hd fun _ _ hH hρ => done_nilCheck hH hρ rfl hy (live_ok hl) k
theorem L.storePtr {z : Operand} {cs : List Cell} {x : V} {ag : Bool} (hs : shape P t = some (ag, n)) (hn : F.n = N) (hg : guardOf ops sl ⟨dst, .store t y z, ty, pos, aft, grd⟩ = some true) (hd : dstB N dst = true)
  (hy : opnd sl y = some (.v (.one (.ptr q j)))) (hb : H.boxes q = some cs) (hz : opnd sl z = some (.v x)) (hx : x.cells.length = n) (hl : Nat.ble (j + n) cs.length = true)
  (k : WpL P F ops Q rest ⟨setD sl dst none, (Heap.setBox H q (splice cs j x.cells))⟩) : WpL P F ops Q (⟨dst, .store t y z, ty, pos, aft, grd⟩ :: rest) ⟨sl, H⟩ := by
 subst hx
 exact L.op hn hg hd fun _ _ hH hρ => done_store_ptr hH hρ rfl hy hb hz hs (Nat.le_of_ble_eq_true hl) k
variable {cs' : List Cell} {H' : Heap}
theorem L.storeEp {xs : List α} {e : α → List Cell} {a a' : α} {z : Operand} {x : V} {ag : Bool} (hs : shape P t = some (ag, n)) (hn : F.n = N)
  (hg : guardOf ops sl ⟨dst, .store t y z, ty, pos, aft, grd⟩ = some true) (hd : dstB N dst = true) (hy : opnd sl y = some (.v (.one (.ep q i j)))) (hz : opnd sl z = some (.v x)) (hx : x.cells.length = n) (hsh : H.share x.cells = some (H', cs'))
  (hb : H'.rows q = some ⟨sz, xs.map e⟩) (ha : xs[i]? = some a) (hl : Nat.ble (j + cs'.length) (e a).length = true) (he : splice (e a) j cs' = e a')
  (k : WpL P F ops Q rest ⟨setD sl dst none, (Heap.setRow H' q ⟨sz, (xs.set i a').map e⟩)⟩) : WpL P F ops Q (⟨dst, .store t y z, ty, pos, aft, grd⟩ :: rest) ⟨sl, H⟩ := by
 subst hx
 refine L.op hn hg hd fun _ _ hH hρ => done_store_ep hH hρ rfl hy hz hsh hb (by simp [ha]) hs (Nat.le_of_ble_eq_true hl) ?_
 simp only [he]
 rw [List.map_set] at k
 exact k
variable {z : Value} {elem : TypeId}
theorem L.alloc {i : TypeInfo} {x : V} (q : Nat) (hi : P.info? elem = some i) (hz : i.zero = some z) (hn : F.n = N) (hg : guardOf ops sl ⟨dst, .alloc elem, ty, pos, aft, grd⟩ = some true) (hd : dstB N dst = true)
  (hx : V.ofVal z = some x) (hq : H.used q = false)
  (k : WpL P F ops Q rest ⟨setD sl dst (some (.v (.one (.ptr q 0)))), (Heap.newBox H q (x.cells))⟩) : WpL P F ops Q (⟨dst, .alloc elem, ty, pos, aft, grd⟩ :: rest) ⟨sl, H⟩ :=
 L.op hn hg hd fun _ _ hH _ => done_alloc hH rfl hi hz hx hq k
theorem L.box {x : V} (q : Nat) (hn : F.n = N) (hg : guardOf ops sl ⟨dst, .box elem y, ty, pos, aft, grd⟩ = some true) (hd : dstB N dst = true) (hy : opnd sl y = some (.v x)) (hq : H.used q = false)
  (k : WpL P F ops Q rest ⟨setD sl dst (some (.v (.one (.ptr q 0)))), (Heap.newBox H q (x.cells))⟩) : WpL P F ops Q (⟨dst, .box elem y, ty, pos, aft, grd⟩ :: rest) ⟨sl, H⟩ :=
 L.op hn hg hd fun _ _ hH hρ => done_box hH hρ rfl hy hq k
variable {parts : Array (Nat × Operand)}
theorem L.build {vs : List (Nat × V)} {cs : List Cell} (hn : F.n = N) (hg : guardOf ops sl ⟨dst, .build t parts, ty, pos, aft, grd⟩ = some true) (hd : dstB N dst = true) (hp : partsV (opnd sl) parts.toList = some vs) (hb : builtA P t vs = some cs)
  (k : WpL P F ops Q rest ⟨setD sl dst (some (.v (.agg cs))), H⟩) : WpL P F ops Q (⟨dst, .build t parts, ty, pos, aft, grd⟩ :: rest) ⟨sl, H⟩ :=
 L.op hn hg hd fun _ _ hH hρ => done_build hH hρ rfl hp hb k
def allLen (n : Nat) : List (List Cell) → Bool
 | [] => true
 | e :: es => (e.length == n) && allLen n es
theorem allLen_ok : ∀ {es : List (List Cell)}, allLen n es = true → ∀ e ∈ es, e.length = n
 | [], _, e, he => by cases he
 | e :: es, h, x, hx => by
  simp only [allLen, Bool.and_eq_true, beq_iff_eq] at h
  rcases List.mem_cons.1 hx with rfl | hx
  ·exact h.1
  ·exact allLen_ok h.2 x hx
variable {es : List (List Cell)}
theorem L.buildSlice {e : α → List Cell} {len : Nat} {vs : List (Nat × V)} (q : Nat) (xs : List α) (ht : P.underlying t = some (.slice el)) (hti : P.info? el = some ti)
  (hz : ti.zero = some z) (h0 : Nat.blt 0 ti.size = true) (hbig : Nat.ble (len * ti.size) 16777216 = true) (hn : F.n = N) (hg : guardOf ops sl ⟨dst, .buildSlice t len parts, ty, pos, aft, grd⟩ = some true) (hd : dstB N dst = true)
  (hp : partsV (opnd sl) parts.toList = some vs) (hr : parts.toList.map (·.1) = List.range len) (hl : allLen ti.size (vs.map fun p => p.2.cells) = true) (hsh : H.shareAll (vs.map fun p => p.2.cells) = some (H', es)) (hq : H.used q = false) (hes : es = xs.map e)
  (k : WpL P F ops Q rest ⟨setD sl dst (some (.v (.one (.own q)))), (Heap.newRow H' q ⟨ti.size, xs.map e⟩)⟩) : WpL P F ops Q (⟨dst, .buildSlice t len parts, ty, pos, aft, grd⟩ :: rest) ⟨sl, H⟩ := by
 subst hes
 exact L.op hn hg hd fun _ _ hH hρ => done_buildSlice hH hρ rfl ht hti hz (by simpa using h0) (Nat.le_of_ble_eq_true hbig) hp hr (fun p hp => allLen_ok hl _ (List.mem_map.2 ⟨p, hp, rfl⟩)) hsh hq k
variable {zc : List Cell}
theorem L.makeSlice {e : α → List Cell} {kl kc : IntKind} {n c : Int} (q : Nat) (za : α) (ht : P.underlying t = some (.slice el)) (hti : P.info? el = some ti) (hz : ti.zero = some z) (hzc : cellsOfVals z.cells.toList = some zc)
  (hsz : zc.length = ti.size) (hn : F.n = N) (hg : guardOf ops sl ⟨dst, .makeSlice t y x, ty, pos, aft, grd⟩ = some true) (hd : dstB N dst = true) (hy : opnd sl y = some (im (.int kl n))) (hx : opnd sl x = some (im (.int kc c)))
  (hb : 0 ≤ n ∧ n ≤ c ∧ ti.bytes * c ≤ 281474976710656 ∧ c ≤ 9223372036854775807) (hq : H.used q = false) (hza : zc = e za)
  (k : WpL P F ops Q rest ⟨setD sl dst (some (.v (.one (.own q)))), (Heap.newRow H q ⟨ti.size, (List.replicate n.toNat za).map e⟩)⟩) : WpL P F ops Q (⟨dst, .makeSlice t y x, ty, pos, aft, grd⟩ :: rest) ⟨sl, H⟩ := by
 subst hza
 obtain ⟨h1, h2, h3, h4⟩ := hb
 have e1 : ((n.toNat : Nat) : Int) = n := Int.toNat_of_nonneg h1
 have e2 : ((c.toNat : Nat) : Int) = c := Int.toNat_of_nonneg (by omega)
 refine L.op hn hg hd fun _ _ hH hρ => done_makeSlice hH hρ rfl ht hti hz hzc hsz (n := n.toNat) (c := c.toNat) (kl := kl) (kc := kc) hy (by simp [Slot.val?, V.val?, Cell.val?, e1]) hx (by simp [Slot.val?, V.val?, Cell.val?, e2]) (by omega) ?_ (by omega) hq ?_
 ·have : ((ti.bytes * c.toNat : Nat) : Int) ≤ 281474976710656 := by rw [Int.natCast_mul, e2]; exact h3
  omega
 ·rw [List.map_replicate] at k; exact k
end
section
variable {P : Program} {F : Fix} {ops : Array Oper} {Q : St → Prop} {N : Nat}
variable {dst : Option Nat} {ty : TypeId} {pos : String} {aft : Array Edge} {grd : Option (Nat × Bool)} {rest : List Oper} {sl : Nat → Option Slot} {H : Heap}
variable {es1 es2 : List (List Cell)} {H1 : Heap} {z : Value} {ti : TypeInfo} {el t tx : TypeId} {x y : Operand} {α : Type}
theorem L.append {xs ys : List α} {e : α → List Cell} {c cx : Cell} (q : Nat) (ht : P.underlying t = some (.slice el)) (hti : P.info? el = some ti) (hz : ti.zero = some z) (hzs : z.cells.size = ti.size)
  (hn : F.n = N) (hg : guardOf ops sl ⟨dst, .call { callee := .builtin .append, args := #[y, x], argTypes := #[t, tx] }, ty, pos, aft, grd⟩ = some true) (hd : dstB N dst = true) (hy : opnd sl y = some (.v (.one c))) (hx : opnd sl x = some (.v (.one cx)))
  (h1 : H.toGrow c = some (H1, es1)) (h2 : H.content cx = some es2) (he1 : es1 = xs.map e) (he2 : es2 = ys.map e) (hsz : ∀ a, (e a).length = ti.size) (hl1 : ∀ k r, c = .own k → H.rows k = some r → r.sz = ti.size) (hk2 : srcKind P tx ti.size cx)
  (hbig : (2 * (xs.length + ys.length) + 192) * ti.bytes ≤ 281474976710656) (hb0 : Nat.blt 0 ti.bytes = true) (hq : H.used q = false)
  (k : WpL P F ops Q rest ⟨setD sl dst (some (.v (.one (.own q)))), (Heap.newRow H1 q ⟨ti.size, (xs ++ ys).map e⟩)⟩) (hpl : ∀ a, noOw (e a) = true := by exact fun _ => rfl) :
  WpL P F ops Q (⟨dst, .call { callee := .builtin .append, args := #[y, x], argTypes := #[t, tx] }, ty, pos, aft, grd⟩ :: rest) ⟨sl, H⟩ := by
 subst he1; subst he2
 rw [List.map_append] at k
 have hb : 0 < ti.bytes := by simpa using hb0
 ·refine L.op hn hg hd fun _ _ hH hρ => done_append hH hρ rfl ht hti hz hzs hy hx h1 h2 hl1 (fun e' he' => by
   obtain ⟨a, _, rfl⟩ := List.mem_map.1 he'; exact hsz a) hk2 (by simpa using hbig) ?_ hq (pl_map hpl) k
  have : (2 * (xs.length + ys.length) + 192) * 1 ≤ (2 * (xs.length + ys.length) + 192) * ti.bytes := Nat.mul_le_mul_left _ (by omega)
  simp
  omega
theorem bytesFold (l : List UInt8) : ∀ (s : ByteArray), (l.map fun b => ((b.toNat : Nat) : Int)).foldl (fun r n => r.push (UInt8.ofNat n.toNat)) s = s ++ ⟨⟨l⟩⟩ := by
 induction l with
 | nil => intro s; apply ByteArray.ext; simp
 | cons b l ih =>
  intro s
  simp only [List.map_cons, List.foldl_cons, Int.toNat_natCast, UInt8.ofNat_toNat]
  rw [ih]
  apply ByteArray.ext
  apply Array.ext'
  simp
theorem L.b2s {xs : List UInt8} {a b : TypeId} {c : Cell} (hta : P.underlying a = some (.slice el)) (hte : P.underlying el = some (.int .u8)) (htb : P.underlying b = some .string) (hn : F.n = N)
  (hg : guardOf ops sl ⟨dst, .convert a b x, ty, pos, aft, grd⟩ = some true) (hd : dstB N dst = true) (hx : opnd sl x = some (.v (.one c))) (hc : H.shows c = some (xs.map eB))
  (k : WpL P F ops Q rest ⟨setD sl dst (some (im (str xs))), H⟩) : WpL P F ops Q (⟨dst, .convert a b x, ty, pos, aft, grd⟩ :: rest) ⟨sl, H⟩ := by
 refine L.op hn hg hd fun E ev hH hρ => ?_
 have key : ∃ a' cap, ev x = .slice a' xs.length cap ∧ (xs = [] ∨ ∃ g o, a' = some ⟨g, o, none⟩ ∧ E.w.rangeAt g o (xs.map u8)) := by
  have hv := (hρ x _ hx).1
  simp only [RSlot, RV] at hv
  have flat : ∀ (E' : Env) (g o sz : Nat), E'.w = E.w → RRow E' g o sz (xs.map eB) → E.w.rangeAt g o (xs.map u8) := by
   intro E' g o sz hw hr
   rw [← hw]
   obtain ⟨us, h1, h2, h3⟩ := hr.flat
   have : us = xs.map u8 := by
    refine RCs.vals h1 ?_
    clear h1 h2 h3 hr hc k
    induction xs with
    | nil => rfl
    | cons b l ih => simp [eB, cellVals, Cell.val?, ih]
   rw [← this]; exact h3
  cases c with
  | sl g es =>
   simp only [Heap.shows, Option.some.injEq] at hc; subst hc
   simp only [RC] at hv
   obtain ⟨hf, a', cap, hu, hcap, h⟩ := hv
   refine ⟨a', cap, by rw [hu]; simp, ?_⟩
   rcases h with h | ⟨b', o, sz, ha, hS, hr⟩
   ·exact .inl (by simpa using h)
   ·exact .inr ⟨b', o, ha, flat (E.cap g) _ _ _ rfl hr⟩
  | own q =>
   simp only [Heap.shows, Option.map_eq_some_iff] at hc
   obtain ⟨r, hr, hc⟩ := hc
   obtain ⟨h1, h2, hd', h3, h4, h5⟩ := hH.rows q r hr
   simp only [RC] at hv
   have hu := hv.2 hd' h3
   rcases h5 with ⟨h6, h7, _⟩ | ⟨g, cap, bs0, h6, h7, h8, h9, _⟩
   ·have : xs = [] := by rw [h7] at hc; simpa using hc.symm
    subst this
    exact ⟨none, 0, by rw [hu, h6]; rfl, .inl rfl⟩
   ·refine ⟨some ⟨g, 0, none⟩, cap, by rw [hu, h6, hc]; simp, .inr ⟨g, 0, rfl, ?_⟩⟩
    have h9 := RXRow.plain h1 (by rw [hc]; exact pl_map fun _ => rfl) h9
    rw [hc] at h9
    exact flat E _ _ _ rfl h9
  | _ => simp [Heap.shows] at hc
 obtain ⟨a', cap, hu, h⟩ := key
 have hrun : (convert a b (ev x)).run P E.w = .ok (str xs) E.w := by
  rw [hu, run_convert_bytes_string E.w a b el a' xs.length cap hta hte htb]
  have fin : ∀ (g o : Nat), E.w.rangeAt g o (xs.map u8) → (Conv.bytesToString (.slice (some ⟨g, o, none⟩) xs.length cap)).run P E.w = .ok (str xs) E.w := by
   intro g o hr
   have hl := run_loadCells_list (P := P) E.w ⟨g, o, none⟩ (xs.map u8) (fun j v hv => by rw [Addr.add_mid]; exact hr j v hv)
   have e1 : xs.map u8 = (xs.map fun b => ((b.toNat : Nat) : Int)).map (Value.int .u8) := by simp [List.map_map, Function.comp_def]
   rw [e1] at hl
   simp only [List.length_map] at hl
   rw [run_bytesToString E.w _ _ cap _ hl, bytesFold]
   congr 2
  rcases h with h | ⟨g, o, rfl, hr⟩
  ·subst h
   cases a' with
   | none => simp [Conv.bytesToString]; rfl
   | some ad =>
    have hl := run_loadCells (P := P) E.w ad 0 (fun _ => undef) (fun j hj => by omega)
    have := run_bytesToString E.w ad 0 cap [] (by simpa using hl)
    exact this
  ·exact fin g o hr
 exact Done.same hH (u := str xs) (by simp [execOp, hrun]) k (by simp only [RSlot, RV, RC]; exact ⟨trivial, rfl⟩) (fun k hk => by simp [Slot.names, V.names, V.cells, cnames, Cell.names] at hk)
end
mutual
def Cell.plain : Cell → Bool
 | .ow .. | .bx .. => false
 | .clo _ caps => cplain caps
 | _ => true
def cplain : List Cell → Bool
 | [] => true
 | c :: cs => c.plain && cplain cs
end
def Le (F : Fix) (σ τ : St) : Prop := ∀ a w, Rel F σ a w → Rel F τ a w
theorem Le.refl (F : Fix) (σ : St) : Le F σ σ := fun _ _ h => h
variable {τ : St}
theorem Le.trans {υ : St} (h : Le F σ τ) (h' : Le F τ υ) : Le F σ υ := fun a w hr => h' a w (h a w hr)
theorem WpC.le {c : Code} {Q : Exit → St → Prop} (h : Le F σ τ) (k : WpC P F c Q τ) : WpC P F c Q σ := fun a w hr => k a w (h a w hr)
variable {l : List Oper}
theorem L.le {ops : Array Oper} {Q : St → Prop} (h : Le F σ τ) (k : WpL P F ops Q l τ) : WpL P F ops Q l σ := fun idx hidx a w hr => k idx hidx a w (h a w hr)
theorem WpC.join (I : St → Prop) {x y : Code} {Q : Exit → St → Prop} (h' : ∀ τ, I τ → WpC P F y Q τ) (h : WpC P F x (thenA (fun σ => ∃ τ, I τ ∧ Le F σ τ) Q) σ) : WpC P F (.seq x y) Q σ :=
 WpC.seq ((h.mono fun e σ hq => by
  cases e with
  | normal => obtain ⟨τ, h1, h2⟩ := hq; exact WpC.le h2 (h' τ h1)
  | _ => exact hq))
theorem WpC.loopL {c : Code} {Q : Exit → St → Prop} (I : Nat → St → Prop) (n : Nat) (h0 : ∃ τ, I n τ ∧ Le F σ τ) (round : ∀ n σ, I n σ → WpC P F c (thenA (fun σ' => ∃ m τ, m < n ∧ I m τ ∧ Le F σ' τ) Q) σ) : WpC P F (.loop c) Q σ := by
 obtain ⟨τ, h1, h2⟩ := h0
 refine WpC.loop (fun n σ => ∃ τ, I n τ ∧ Le F σ τ) n ⟨τ, h1, h2⟩ fun n σ ⟨τ, h1, h2⟩ => ?_
 refine WpC.le h2 ((round n τ h1).mono fun e σ hq => ?_)
 cases e with
 | normal => obtain ⟨m, τ, h1, h2, h3⟩ := hq; exact ⟨m, h1, τ, h2, h3⟩
 | _ => exact hq
mutual
def renC (π : Nat → Option Nat) : Cell → Option Cell
 | .own k => (π k).map .own
 | .sub k lo n => (π k).map fun k => .sub k lo n
 | .ptr k j => (π k).map fun k => .ptr k j
 | .ep k i j => (π k).map fun k => .ep k i j
 | .clo f caps => (renCs π caps).map (.clo f)
 | .ow .. | .bx .. => none
 | c => some c
def renCs (π : Nat → Option Nat) : List Cell → Option (List Cell)
 | [] => some []
 | c :: cs => match renC π c, renCs π cs with
  | some c', some cs' => some (c' :: cs')
  | _, _ => none
end
def renV (π : Nat → Option Nat) : V → Option V
 | .one c => (renC π c).map .one
 | .agg cs => (renCs π cs).map .agg
def renVs (π : Nat → Option Nat) : List V → Option (List V)
 | [] => some []
 | x :: xs => match renV π x, renVs π xs with
  | some x', some xs' => some (x' :: xs')
  | _, _ => none
def renS (π : Nat → Option Nat) : Slot → Option Slot
 | .v x => (renV π x).map .v
 | .tup xs => (renVs π xs).map .tup
section
variable {F : Fix}
structure Weak (m : Nat) (hs : List V) (π : Nat → Option Nat) (σ τ : St) : Prop where
 slots : ∀ t s', τ.slots t = some s' → ∃ s, renS π s' = some s ∧ σ.slots t = some s
 rows : ∀ k' r, τ.H.rows k' = some r → ∃ k, π k' = some k ∧ σ.H.rows k = some r
 boxes : ∀ k' cs', τ.H.boxes k' = some cs' → ∃ k cs, π k' = some k ∧ renCs π cs' = some cs ∧ σ.H.boxes k = some cs
 inj : ∀ k1 k2 k, π k1 = some k → π k2 = some k → k1 = k2
 used : ∀ k' k, π k' = some k → τ.H.used k' = true
 pin : ∀ k, k < m → π k = some k
 pinV : ∀ x ∈ hs, renV π x = some x
 lens : ∀ k, τ.H.lens k = none
 hv : ∀ k' v, τ.H.hv k' = some v → ∃ k, π k' = some k ∧ σ.H.hv k = some v
def Env.ren (E : Env) (π : Nat → Option Nat) (H : Heap) : Env :=
 ⟨E.w, E.S, fun k => (π k).bind E.hdr, fun k => if (H.boxes k).isSome then (π k).bind E.blk else none, fun k => (π k).bind E.pt, fun k => match π k with | some k => E.sz k | none => 0, fun k => if (H.rows k).isSome then (match π k with | some k => E.ob k | none => []) else []⟩
mutual
theorem RC.ren {E : Env} {π : Nat → Option Nat} {H : Heap} : ∀ {c c' : Cell} {u : Value}, renC π c' = some c → RC E c u → RC (E.ren π H) c' u
 | _, .own k, u, h, hc => by
  simp only [renC, Option.map_eq_some_iff] at h
  obtain ⟨j, hj, rfl⟩ := h
  simp only [RC] at hc ⊢
  refine ⟨hc.1, fun h hh => hc.2 h ?_⟩
  simpa only [Env.ren, hj, Option.bind_some] using hh
 | _, .sub k lo n, u, h, hc => by
  simp only [renC, Option.map_eq_some_iff] at h
  obtain ⟨j, hj, rfl⟩ := h
  simp only [RC] at hc ⊢
  refine ⟨hc.1, fun h hh => ?_⟩
  simp only [Env.ren, hj, Option.bind_some] at hh ⊢
  exact hc.2 h hh
 | _, .ptr k i, u, h, hc => by
  simp only [renC, Option.map_eq_some_iff] at h
  obtain ⟨j, hj, rfl⟩ := h
  simp only [RC] at hc ⊢
  refine ⟨hc.1, fun b hb => hc.2 b ?_⟩
  simpa only [Env.ren, hj, Option.bind_some] using hb
 | _, .ep k i q, u, h, hc => by
  simp only [renC, Option.map_eq_some_iff] at h
  obtain ⟨j, hj, rfl⟩ := h
  simp only [RC] at hc ⊢
  refine ⟨hc.1, fun h hh => ?_⟩
  simp only [Env.ren, hj, Option.bind_some] at hh ⊢
  exact hc.2 h hh
 | _, .clo f caps, u, h, hc => by
  simp only [renC, Option.map_eq_some_iff] at h
  obtain ⟨cs, hcs, rfl⟩ := h
  simp only [RC] at hc ⊢
  obtain ⟨us, hu, hr⟩ := hc
  exact ⟨us, hu, RCs.ren hcs hr⟩
 | _, .imm v, u, h, hc => by simp only [renC, Option.some.injEq] at h; subst h; simpa only [RC] using hc
 | _, .nil, u, h, hc => by simp only [renC, Option.some.injEq] at h; subst h; simpa only [RC] using hc
 | _, .bad, u, h, hc => by simp only [renC, Option.some.injEq] at h; subst h; simpa only [RC] using hc
 | _, .sl g es, u, h, hc => by
  simp only [renC, Option.some.injEq] at h; subst h
  exact RC.sub (E := E) (E' := E.ren π H) (N := fun _ => False) ⟨fun _ _ h => h, fun _ _ _ => rfl, fun _ h => h.elim, fun _ h => h.elim, fun _ h => h.elim⟩ (fun k hk => by cases hk) hc
 | _, .pe g e j, u, h, hc => by
  simp only [renC, Option.some.injEq] at h; subst h
  exact RC.sub (E := E) (E' := E.ren π H) (N := fun _ => False) ⟨fun _ _ h => h, fun _ _ _ => rfl, fun _ h => h.elim, fun _ h => h.elim, fun _ h => h.elim⟩ (fun k hk => by cases hk) hc
 | _, .ow .., u, h, hc => by simp [renC] at h
 | _, .bx .., u, h, hc => by simp [renC] at h
 | _, .raw v, u, h, hc => by simp only [renC, Option.some.injEq] at h; subst h; simpa only [RC] using hc
theorem RCs.ren {E : Env} {π : Nat → Option Nat} {H : Heap} : ∀ {cs cs' : List Cell} {us : List Value}, renCs π cs' = some cs → RCs E cs us → RCs (E.ren π H) cs' us
 | _, [], us, h, hc => by simp only [renCs, Option.some.injEq] at h; subst h; simpa only [RCs] using hc
 | _, c' :: cs', us, h, hc => by
  unfold renCs at h
  split at h
  ·rename_i c cs h1 h2
   cases h
   simp only [RCs] at hc ⊢
   obtain ⟨u, us', hu, h3, h4⟩ := hc
   exact ⟨u, us', hu, RC.ren h1 h3, RCs.ren h2 h4⟩
  ·cases h
end
mutual
theorem renC_names {π : Nat → Option Nat} : ∀ {c c' : Cell}, renC π c' = some c → ∀ k ∈ c'.names, ∃ j, π k = some j
 | _, .own k, h, q, hq => by simp [Cell.names] at hq; subst hq; simp only [renC, Option.map_eq_some_iff] at h; exact ⟨_, h.choose_spec.1⟩
 | _, .sub k lo n, h, q, hq => by simp [Cell.names] at hq; subst hq; simp only [renC, Option.map_eq_some_iff] at h; exact ⟨_, h.choose_spec.1⟩
 | _, .ptr k i, h, q, hq => by simp [Cell.names] at hq; subst hq; simp only [renC, Option.map_eq_some_iff] at h; exact ⟨_, h.choose_spec.1⟩
 | _, .ep k i j, h, q, hq => by simp [Cell.names] at hq; subst hq; simp only [renC, Option.map_eq_some_iff] at h; exact ⟨_, h.choose_spec.1⟩
 | _, .clo f caps, h, q, hq => by
  simp only [renC, Option.map_eq_some_iff] at h
  obtain ⟨cs, hcs, rfl⟩ := h
  exact renCs_names hcs q (by simpa [Cell.names] using hq)
 | _, .imm v, h, q, hq => by simp [Cell.names] at hq
 | _, .nil, h, q, hq => by simp [Cell.names] at hq
 | _, .bad, h, q, hq => by simp [Cell.names] at hq
 | _, .sl g es, h, q, hq => by simp [Cell.names] at hq
 | _, .pe g e j, h, q, hq => by simp [Cell.names] at hq
 | _, .ow .., h, q, hq => by simp [Cell.names] at hq
 | _, .bx .., h, q, hq => by simp [Cell.names] at hq
theorem renCs_names {π : Nat → Option Nat} : ∀ {cs cs' : List Cell}, renCs π cs' = some cs → ∀ k ∈ cnames cs', ∃ j, π k = some j
 | _, [], h, q, hq => by simp [cnames] at hq
 | _, c' :: cs', h, q, hq => by
  unfold renCs at h
  split at h
  ·rename_i c cs h1 h2
   simp only [cnames, List.mem_append] at hq
   exact hq.elim (renC_names h1 q) (renCs_names h2 q)
  ·cases h
end
variable {u : Value} {x' : V} {π : Nat → Option Nat}
theorem renV_ok {H : Heap} {x : V} (h : renV π x' = some x) (hs : RV E x u) : RV (E.ren π H) x' u ∧ ∀ k ∈ x'.names, ∃ j, π k = some j := by
 cases x' with
 | one c' =>
  simp only [renV, Option.map_eq_some_iff] at h
  obtain ⟨c, hc, rfl⟩ := h
  exact ⟨RC.ren hc hs, fun k hk => renC_names hc k (by simpa [V.names, V.cells, cnames] using hk)⟩
 | agg cs' =>
  simp only [renV, Option.map_eq_some_iff] at h
  obtain ⟨cs, hc, rfl⟩ := h
  obtain ⟨us, hu, hr⟩ := hs
  exact ⟨⟨us, hu, RCs.ren hc hr⟩, fun k hk => renCs_names hc k hk⟩
theorem renVs_ok {E : Env} {π : Nat → Option Nat} {H : Heap} : ∀ {xs xs' : List V} {us : List Value}, renVs π xs' = some xs → RVs E xs us → RVs (E.ren π H) xs' us ∧ ∀ x ∈ xs', ∀ k ∈ x.names, ∃ j, π k = some j
 | _, [], us, h, hs => by simp only [renVs, Option.some.injEq] at h; subst h; exact ⟨hs, fun x hx => by cases hx⟩
 | _, x' :: xs', us, h, hs => by
  unfold renVs at h
  split at h
  ·rename_i x xs h1 h2
   cases h
   obtain ⟨u, us', rfl, h3, h4⟩ := hs
   obtain ⟨a1, a2⟩ := renV_ok (H := H) h1 h3
   obtain ⟨b1, b2⟩ := renVs_ok h2 h4
   refine ⟨⟨u, us', rfl, a1, b1⟩, fun x hx => ?_⟩
   rcases List.mem_cons.1 hx with rfl | hx
   ·exact a2
   ·exact b2 x hx
  ·cases h
theorem renS_ok {H : Heap} {s s' : Slot} (h : renS π s' = some s) (hs : RSlot E s u) : RSlot (E.ren π H) s' u ∧ ∀ k ∈ s'.names, ∃ j, π k = some j := by
 cases s' with
 | tup xs =>
  simp only [renS, Option.map_eq_some_iff] at h
  obtain ⟨y, hy, rfl⟩ := h
  obtain ⟨us, hu, hr⟩ := hs
  obtain ⟨a1, a2⟩ := renVs_ok (H := H) hy hr
  refine ⟨⟨us, hu, a1⟩, fun k hk => ?_⟩
  simp only [Slot.names, List.mem_flatMap] at hk
  obtain ⟨x, hx, hk⟩ := hk
  exact a2 x hx k hk
 | v x =>
  simp only [renS, Option.map_eq_some_iff] at h
  obtain ⟨y, hy, rfl⟩ := h
  exact renV_ok hy hs
variable {hs : List V}
theorem Weak.le {m : Nat} (hm : Pinned F m hs) (h : Weak m hs π σ τ) : Le F σ τ := by
 rintro a w ⟨E, rfl, hH, hS, hP⟩
 have hdr : ∀ k' v, (E.ren π τ.H).hdr k' = some v → ∃ k, π k' = some k ∧ E.hdr k = some v := by
  intro k' v hv
  simpa [Env.ren, Option.bind_eq_some_iff] using hv
 have lv : ∀ k' b, b ∈ (E.ren π τ.H).ob k' → (τ.H.rows k').isSome = true ∧ ∃ k, π k' = some k ∧ b ∈ E.ob k := by
  intro k' b hv
  simp only [Env.ren] at hv
  split at hv
  ·rename_i h1
   refine ⟨h1, ?_⟩
   cases hp : π k' with
   | none => rw [hp] at hv; cases hv
   | some k => rw [hp] at hv; exact ⟨k, rfl, hv⟩
  ·cases hv
 have blk : ∀ k' v, (E.ren π τ.H).blk k' = some v → ∃ k, π k' = some k ∧ E.blk k = some v := by
  intro k' v hv
  simp only [Env.ren] at hv
  split at hv
  ·simpa [Option.bind_eq_some_iff] using hv
  ·cases hv
 have own : ∀ k' b, Own (E.ren π τ.H) k' b → ∃ k, π k' = some k ∧ Own E k b := by
  rintro k' b (hk | hk)
  ·obtain ⟨_, k, h1, h2⟩ := lv _ _ hk
   exact ⟨k, h1, .inl h2⟩
  ·obtain ⟨k, h1, h2⟩ := blk _ _ hk; exact ⟨k, h1, .inr h2⟩
 have s0 : Sub E (E.ren π τ.H) (fun _ => False) := ⟨fun _ _ h => h, fun _ _ _ => rfl, fun _ h => h.elim, fun _ h => h.elim, fun _ h => h.elim⟩
 refine ⟨E.ren π τ.H, rfl, ⟨fun k' r hr => ?_, fun k' cs' hc => ?_, fun k' hk => ?_, fun k' hk => ?_, fun k' => ?_, fun k1 k2 b h1 h2 => ?_, fun k' b hk => ?_, hH.S, hH.SS, hH.Ssub, hH.Ssup, fun k' g hk => ?_, hH.fr, fun k' hk => ?_, fun k' cs' hc => ?_, fun k' => ?_, fun k' n hn => (by rw [h.lens] at hn; cases hn), fun k' n hn => (by obtain ⟨k, h1, h2⟩ := h.hv k' n hn; exact ⟨h.used k' k h1, by simp [Env.ren, h1, (hH.hv k n h2).2]⟩)⟩, ⟨hS.size, hS.defers, fun t s' hs' => ?_, fun t s' hs' k' hk => ?_⟩, fun k hk => ?_, fun p hp => ?_⟩
 ·obtain ⟨k, h1, h2⟩ := h.rows k' r hr
  obtain ⟨a1, a2, hd, a3, a4, a5⟩ := hH.rows k r h2
  refine ⟨a1, a2, hd, by simp [Env.ren, h1, a3], by simp [Env.ren, h1, a4], ?_⟩
  have e0 : (E.ren π τ.H).ob k' = E.ob k := by simp [Env.ren, h1, hr]
  rw [e0]
  exact a5.chg s0 a2 (fun _ _ => rfl)
 ·obtain ⟨k, cs, h1, h2, h3⟩ := h.boxes k' cs' hc
  obtain ⟨g, us, b1, b2, b3, b4⟩ := hH.boxes k cs h3
  refine ⟨g, us, by simp [Env.ren, hc, h1, b1], RCs.ren h2 b2, b3, ?_⟩
  have e1 := b2.length
  have e2 := (RCs.ren (H := τ.H) h2 b2).length
  rw [← e2, e1]; exact b4
 ·simp [Env.ren, hk]
 ·simp [Env.ren, hk]
 ·cases e1 : τ.H.rows k' with
  | none => exact .inl rfl
  | some r =>
   cases e2 : (E.ren π τ.H).blk k' with
   | none => exact .inr rfl
   | some v' =>
    obtain ⟨k, h1, h2⟩ := h.rows k' r e1
    obtain ⟨j, h3, h4⟩ := blk _ _ e2
    rw [h1] at h3; cases h3
    rcases hH.both k with e | e
    ·rw [e] at h2; cases h2
    ·rw [e] at h4; cases h4
 ·obtain ⟨j1, a1, a2⟩ := own _ _ h1
  obtain ⟨j2, b1, b2⟩ := own _ _ h2
  have := hH.uniq _ _ _ a2 b2
  subst this
  exact h.inj _ _ _ a1 b1
 ·obtain ⟨k, _, h2⟩ := own _ _ hk
  exact hH.own k b h2
 ·obtain ⟨k, h1, h2⟩ := blk _ _ hk
  simp [Env.ren, h1, hH.pt k g h2]
 ·cases hr : τ.H.rows k' with
  | none => exact absurd hr hk
  | some r => obtain ⟨k, h1, _⟩ := h.rows k' r hr; exact h.used k' k h1
 ·obtain ⟨k, cs, h1, h2, _⟩ := h.boxes k' cs' hc
  refine ⟨h.used k' k h1, fun j hj => ?_⟩
  obtain ⟨i, hi⟩ := renCs_names h2 j hj
  exact h.used j i hi
 ·simp only [Env.ren]
  split
  ·split
   ·exact hH.nodup _
   ·exact List.nodup_nil
  ·exact List.nodup_nil
 ·obtain ⟨s, h1, h2⟩ := h.slots t s' hs'
  exact (renS_ok h1 (hS.slots t s h2)).1
 ·obtain ⟨s, h1, h2⟩ := h.slots t s' hs'
  obtain ⟨i, hi⟩ := (renS_ok (H := τ.H) h1 (hS.slots t s h2)).2 k' hk
  exact h.used k' i hi
 ·rw [hm.ob] at hk
  have hk' := h.pin k hk
  refine ⟨h.used k k hk', fun g hg => (hP.1 k (by rw [hm.ob]; exact hk)).2 g ?_⟩
  simpa [Env.ren, hk'] using hg
 ·have h1 : renV π p.1 = some p.1 := h.pinV p.1 (by rw [← hm.oh]; exact List.mem_map_of_mem (f := Prod.fst) hp)
  obtain ⟨h2, h3⟩ := renV_ok (H := τ.H) h1 (hP.2 p hp).1
  refine ⟨h2, fun k hk => ?_⟩
  obtain ⟨j, hj⟩ := h3 k hk
  exact h.used k j hj
def mkSt (sl : List (Nat × Slot)) (rows : List (Nat × Row)) (boxes : List (Nat × List Cell)) (base : Nat) : St :=
 ⟨fun t => sl.lookup t, fun k => rows.lookup k, fun k => boxes.lookup k, base, fun _ => false, fun _ => none, fun _ => none⟩
def HvOk (π : Nat → Option Nat) (σ : St) (l : List (Nat × Value)) : Prop := ∀ p ∈ l, ∃ k, π p.1 = some k ∧ σ.H.hv k = some p.2
def SlotsOk (π : Nat → Option Nat) (σ : St) : List (Nat × Slot) → Prop
 | [] => True
 | (t, s') :: l => (∃ s, renS π s' = some s ∧ σ.slots t = some s) ∧ SlotsOk π σ l
def RowsOk (π : Nat → Option Nat) (σ : St) : List (Nat × Row) → Prop
 | [] => True
 | (k', r) :: l => (∃ k, π k' = some k ∧ σ.H.rows k = some r) ∧ RowsOk π σ l
def BoxesOk (π : Nat → Option Nat) (σ : St) : List (Nat × List Cell) → Prop
 | [] => True
 | (k', cs') :: l => (∃ k cs, π k' = some k ∧ renCs π cs' = some cs ∧ σ.H.boxes k = some cs) ∧ BoxesOk π σ l
def nodupB : List Nat → Bool
 | [] => true
 | a :: l => !l.contains a && nodupB l
def namesB (m base : Nat) (l : List (Nat × Nat)) : Bool :=
 nodupB (l.map (·.2)) && l.all (fun p => Nat.blt p.1 base) && (List.range m).all (fun k => l.lookup k == some k)
theorem lookup_mem {β : Type} : ∀ {l : List (Nat × β)} {k : Nat} {b : β}, l.lookup k = some b → (k, b) ∈ l
 | [], k, b, h => by simp at h
 | (j, c) :: l, k, b, h => by
  simp only [List.lookup] at h
  split at h
  ·rename_i e; cases h; rw [eq_of_beq e]; simp
  ·exact List.mem_cons_of_mem _ (lookup_mem h)
theorem nodupB_inj : ∀ {l : List (Nat × Nat)}, nodupB (l.map (·.2)) = true → ∀ k1 k2 k, l.lookup k1 = some k → l.lookup k2 = some k → k1 = k2
 | [], _, k1, k2, k, h1, _ => by simp at h1
 | (j, c) :: l, h, k1, k2, k, h1, h2 => by
  simp only [List.map_cons, nodupB, Bool.and_eq_true, Bool.not_eq_true'] at h
  have hin : ∀ q, l.lookup q = some c → False := by
   intro q hq
   have this : c ∈ l.map (fun x : Nat × Nat => x.2) := List.mem_map.2 ⟨(q, c), lookup_mem hq, rfl⟩
   have hc : (l.map (fun x : Nat × Nat => x.2)).contains c = true := by simpa using this
   rw [hc] at h; exact absurd h.1 (by simp)
  simp only [List.lookup] at h1 h2
  split at h1
  ·rename_i e1
   cases h1
   split at h2
   ·rename_i e2; rw [eq_of_beq e1, eq_of_beq e2]
   ·exact (hin _ h2).elim
  ·split at h2
   ·cases h2; exact (hin _ h1).elim
   ·exact nodupB_inj h.2 k1 k2 k h1 h2
theorem SlotsOk.get : ∀ {l : List (Nat × Slot)}, SlotsOk π σ l → ∀ t s', l.lookup t = some s' → ∃ s, renS π s' = some s ∧ σ.slots t = some s
 | [], _, t, s', h => by simp at h
 | (j, c) :: l, hl, t, s', h => by
  simp only [List.lookup] at h
  split at h
  ·rename_i e; cases h; rw [eq_of_beq e]; exact hl.1
  ·exact SlotsOk.get hl.2 t s' h
theorem RowsOk.get : ∀ {l : List (Nat × Row)}, RowsOk π σ l → ∀ k' r, l.lookup k' = some r → ∃ k, π k' = some k ∧ σ.H.rows k = some r
 | [], _, t, s', h => by simp at h
 | (j, c) :: l, hl, t, s', h => by
  simp only [List.lookup] at h
  split at h
  ·rename_i e; cases h; rw [eq_of_beq e]; exact hl.1
  ·exact RowsOk.get hl.2 t s' h
theorem BoxesOk.get : ∀ {l : List (Nat × List Cell)}, BoxesOk π σ l → ∀ k' cs', l.lookup k' = some cs' → ∃ k cs, π k' = some k ∧ renCs π cs' = some cs ∧ σ.H.boxes k = some cs
 | [], _, t, s', h => by simp at h
 | (j, c) :: l, hl, t, s', h => by
  simp only [List.lookup] at h
  split at h
  ·rename_i e; cases h; rw [eq_of_beq e]; exact hl.1
  ·exact BoxesOk.get hl.2 t s' h
def pinB (π : Nat → Option Nat) : List V → Bool
 | [] => true
 | x :: xs => x.names.all (fun k => π k == some k) && pinB π xs
mutual
theorem renC_same {π : Nat → Option Nat} : ∀ {c : Cell}, c.plain = true → (∀ k ∈ c.names, π k = some k) → renC π c = some c
 | .own k, _, h => by simp [renC, h k (by simp [Cell.names])]
 | .sub k lo n, _, h => by simp [renC, h k (by simp [Cell.names])]
 | .ptr k j, _, h => by simp [renC, h k (by simp [Cell.names])]
 | .ep k i j, _, h => by simp [renC, h k (by simp [Cell.names])]
 | .clo f caps, hp, h => by
  simp only [Cell.plain] at hp
  simp only [renC, renCs_same hp (by simpa only [Cell.names] using h), Option.map_some]
 | .imm v, _, _ => by simp [renC]
 | .nil, _, _ => by simp [renC]
 | .bad, _, _ => by simp [renC]
 | .raw _, _, _ => by simp [renC]
 | .sl g es, _, _ => by simp [renC]
 | .pe g e j, _, _ => by simp [renC]
 | .ow .., hp, _ => by simp [Cell.plain] at hp
 | .bx .., hp, _ => by simp [Cell.plain] at hp
theorem renCs_same {π : Nat → Option Nat} : ∀ {cs : List Cell}, cplain cs = true → (∀ k ∈ cnames cs, π k = some k) → renCs π cs = some cs
 | [], _, _ => by simp [renCs]
 | c :: cs, hp, h => by
  simp only [cplain, Bool.and_eq_true] at hp
  simp only [cnames, List.mem_append] at h
  simp only [renCs, renC_same hp.1 (fun k hk => h k (.inl hk)), renCs_same hp.2 (fun k hk => h k (.inr hk))]
end
theorem renV_same {x : V} (hp : cplain x.cells = true) (h : ∀ k ∈ x.names, π k = some k) : renV π x = some x := by
 cases x with
 | one c =>
  simp only [V.cells, cplain, Bool.and_true] at hp
  simp only [renV, renC_same hp (fun k hk => h k (by simpa [V.names, V.cells, cnames] using hk)), Option.map_some]
 | agg cs =>
  have : renCs π cs = some cs := renCs_same hp h
  simp only [renV, this, Option.map_some]
theorem pinB_ok : ∀ {xs : List V}, pinB π xs = true → (∀ x ∈ xs, cplain x.cells = true) → ∀ x ∈ xs, renV π x = some x
 | [], _, _, x, hx => by cases hx
 | y :: xs, h, hp, x, hx => by
  simp only [pinB, Bool.and_eq_true, List.all_eq_true, beq_iff_eq] at h
  rcases List.mem_cons.1 hx with rfl | hx
  ·exact renV_same (hp x (by simp)) h.1
  ·exact pinB_ok h.2 (fun x hx => hp x (by simp [hx])) x hx
variable {base : Nat}
theorem Le.mk {m : Nat} {sl : List (Nat × Slot)} {rows : List (Nat × Row)} {boxes : List (Nat × List Cell)} (π : List (Nat × Nat)) (hm : Pinned F m hs) (hn : (namesB m base π && pinB (π.lookup ·) hs && hs.all (fun x => cplain x.cells)) = true) (hs : SlotsOk (π.lookup ·) σ sl) (hr : RowsOk (π.lookup ·) σ rows) (hb : BoxesOk (π.lookup ·) σ boxes) :
  Le F σ (mkSt sl rows boxes base) := by
 simp only [Bool.and_eq_true] at hn
 obtain ⟨⟨hn, hp1⟩, hp2⟩ := hn
 simp only [namesB, Bool.and_eq_true, List.all_eq_true] at hn hp2
 refine Weak.le hm ⟨fun t s' h => hs.get t s' h, fun k' r h => hr.get k' r h, fun k' cs' h => hb.get k' cs' h, nodupB_inj hn.1.1, fun k' k h => ?_, fun k hk => ?_, fun x hx => ?_, fun _ => rfl, fun _ _ hv => by cases hv⟩
 ·have := hn.1.2 _ (lookup_mem h)
  simp only [Nat.blt_eq] at this
  simp [mkSt, Heap.used, this]
 ·exact eq_of_beq (hn.2 k (by simpa using hk))
 ·exact pinB_ok hp1 hp2 x hx
end
def Enters (P : Program) (f : FuncId) : Prop := ∃ fn, P.funcs[f]? = some fn ∧ fn.body.isSome = true ∧ fn.name ≠ "runtime.NumGoroutine"
def Gives (P : Program) (f : FuncId) (args : List V) (outs : List (List Cell)) (res : List V) (outs' : List (List Cell)) : Prop := Holds P f args outs [] fun r o b => r = res ∧ o = outs' ∧ b = []
def GivesB (P : Program) (f : FuncId) (args : List V) (outs : List (List Cell)) (bp : List Nat) (res : List V) (outs' : List (List Cell)) (bk : List V) : Prop := Holds P f args outs bp fun r o b => r = res ∧ o = outs' ∧ b = bk
def namedV (k : Nat) : V → V
 | .one c => .one (namedC k c)
 | .agg cs => .agg (namedCs k cs)
def namedVs (k : Nat) : List V → List V
 | [] => []
 | x :: xs => namedV k x :: namedVs (k + x.cells.length) xs
theorem internVs_named : ∀ (xs : List V) (H : Heap) (k : Nat), (H.internVs k xs).2 = namedVs k xs
 | [], _, _ => rfl
 | .one c :: xs, H, k => by simp [Heap.internVs, Heap.internV, namedVs, namedV, internC_named, internVs_named xs]
 | .agg cs :: xs, H, k => by simp [Heap.internVs, Heap.internV, namedVs, namedV, internCs_named, internVs_named xs]
def goodB (H : Heap) (ks : List Nat) (kb : Nat) (res : List V) (outs' : List (List Cell)) (bk : List V := []) : Bool :=
 bk.all (fun x => x.clean && x.names.isEmpty) && res.all (fun x => x.clean && x.names.isEmpty) && (outs'.length == ks.length) && outs'.all (fun cs => cclean cs && (cnames cs).isEmpty) &&
  (List.range ((res.flatMap V.cells).length + outs'.flatten.length)).all (fun i => !H.used (kb + i))
variable {outs' : List (List Cell)} {res : List V}
theorem goodB_ok {H : Heap} {ks : List Nat} {kb : Nat} {bk : List V} (h : goodB H ks kb res outs' bk = true) : Good H ks kb res outs' bk := by
 simp only [goodB, Bool.and_eq_true, List.all_eq_true, beq_iff_eq, List.isEmpty_iff, Bool.not_eq_true'] at h
 refine ⟨h.1.1.1.1, h.1.1.1.2, h.1.1.2, h.1.2, fun j h1 h2 => ?_⟩
 have := h.2 (j - kb) (by rw [List.mem_range]; omega)
 rwa [show kb + (j - kb) = j by omega] at this
variable {i k : Nat}
theorem idxOf_get {ks : List Nat} (h : ks.idxOf? k = some i) : ks[i]? = some k := by
 rw [List.idxOf?, List.findIdx?_eq_some_iff_getElem] at h
 obtain ⟨h1, h2, _⟩ := h
 rw [List.getElem?_eq_getElem h1, eq_of_beq h2]
section
variable {P : Program} {F : Fix} {ops : Array Oper} {Q : St → Prop} {N : Nat}
variable {dst : Option Nat} {ty : TypeId} {pos : String} {aft : Array Edge} {grd : Option (Nat × Bool)} {rest : List Oper} {sl : Nat → Option Slot} {H : Heap}
variable {H1 H2 : Heap} {vs : List (Bool × V)} {caps : List Cell} {tys : Array TypeId} {args : Array Operand} {x : Operand}
theorem L.callB {f : FuncId} {H3 : Heap} {bk : List V} (mvs : List Bool) (L ks : List Nat) (kb : Nat) (bp : List Nat)
  (hn : F.n = N) (hg : guardOf ops sl ⟨dst, .call { callee := .value x, args := args, argTypes := tys }, ty, pos, aft, grd⟩ = some true) (hd : dstB N dst = true) (hx : opnd sl x = some (.v (.one (.clo f caps)))) (hf : Enters P f) (hm : mvs.length = args.size)
  (hvs : callArgs (opnd sl) (mvs.zip args.toList) = some vs) (hpass : H.passVs (fun k => ks.idxOf? k) L (vs ++ caps.map fun c => (false, .one c)) = some (H1, xs)) (houts : H1.giveOuts ks = some (H2, outs)) (hL : L.all (fun k => (H2.rows k).isSome) = true)
  (hh : GivesB P f xs outs bp res outs' bk) (hgood : goodB H2 ks kb res outs' bk = true) (hbp : bp.all (fun i => Nat.blt i vs.length) = true) (hback : Heap.backVs H ((H2.internVs kb res).1.takeOuts (kb + (res.flatMap V.cells).length) ks outs') (pickV bp (vs.map (·.2))) bk = some H3)
  (k : WpL P F ops Q rest ⟨setD sl dst (some (slotOf (namedVs kb res))), H3⟩) :
  WpL P F ops Q (⟨dst, .call { callee := .value x, args := args, argTypes := tys }, ty, pos, aft, grd⟩ :: rest) ⟨sl, H⟩ := by
 intro idx hidx
 cases idx with
 | nil => simp at hidx
 | cons i is =>
  simp only [List.map_cons, List.cons.injEq] at hidx
  obtain ⟨fn, hfn, hb, hnm⟩ := hf
  refine WpO.call hidx.1 hg (dstB_ok hn hd) rfl hx hfn hb hnm mvs hm hvs hpass houts (fun k i h => idxOf_get h) (fun k hk => ?_) hh (fun i hi => by
   have := List.all_eq_true.1 hbp i hi
   simpa using this) kb ?_
  ·have := List.all_eq_true.1 hL k hk
   intro e; rw [e] at this; cases this
  ·rintro _ _ _ ⟨rfl, rfl, rfl⟩
   rw [internVs_named]
   exact ⟨goodB_ok hgood, H3, hback, k is hidx.2⟩
theorem L.call {f : FuncId} (mvs : List Bool) (L ks : List Nat) (kb : Nat)
  (hn : F.n = N) (hg : guardOf ops sl ⟨dst, .call { callee := .value x, args := args, argTypes := tys }, ty, pos, aft, grd⟩ = some true) (hd : dstB N dst = true) (hx : opnd sl x = some (.v (.one (.clo f caps)))) (hf : Enters P f) (hm : mvs.length = args.size)
  (hvs : callArgs (opnd sl) (mvs.zip args.toList) = some vs) (hpass : H.passVs (fun k => ks.idxOf? k) L (vs ++ caps.map fun c => (false, .one c)) = some (H1, xs)) (houts : H1.giveOuts ks = some (H2, outs)) (hL : L.all (fun k => (H2.rows k).isSome) = true)
  (hh : Gives P f xs outs res outs') (hgood : goodB H2 ks kb res outs' = true)
  (k : WpL P F ops Q rest ⟨setD sl dst (some (slotOf (namedVs kb res))), (H2.internVs kb res).1.takeOuts (kb + (res.flatMap V.cells).length) ks outs'⟩) :
  WpL P F ops Q (⟨dst, .call { callee := .value x, args := args, argTypes := tys }, ty, pos, aft, grd⟩ :: rest) ⟨sl, H⟩ := by
 intro idx hidx
 cases idx with
 | nil => simp at hidx
 | cons i is =>
  simp only [List.map_cons, List.cons.injEq] at hidx
  obtain ⟨fn, hfn, hb, hnm⟩ := hf
  refine WpO.call hidx.1 hg (dstB_ok hn hd) rfl hx hfn hb hnm mvs hm hvs hpass houts (fun k i h => idxOf_get h) (fun k hk => ?_) hh (fun i hi => by cases hi) kb ?_
  ·have := List.all_eq_true.1 hL k hk
   intro e; rw [e] at this; cases this
  ·rintro _ _ _ ⟨rfl, rfl, rfl⟩
   rw [internVs_named]
   exact ⟨goodB_ok hgood, _, rfl, k is hidx.2⟩
end
variable {H1 H2 : Heap}
theorem Leaves.ret {m : Nat} {r0 : List V} {o0 : List (List Cell)} (hr : resAs P σ fn.results.toList = some xs)
  (hp : σ.H.passVs (fun k => if k < m then some k else none) [] (xs.map fun x => (true, x)) = some (H1, res)) (hg : H1.giveOuts (List.range m) = some (H2, outs')) (h : res = r0 ∧ outs' = o0) : Leaves P fn m [] (fun r o b => r = r0 ∧ o = o0 ∧ b = []) .ret σ :=
 ⟨.inr rfl, xs, H1, H1, H2, res, outs', [], hr, hp, rfl, hg, h.1, h.2, rfl⟩
theorem Leaves.normal {m : Nat} {r0 : List V} {o0 : List (List Cell)} (hr : resAs P σ fn.results.toList = some xs)
  (hp : σ.H.passVs (fun k => if k < m then some k else none) [] (xs.map fun x => (true, x)) = some (H1, res)) (hg : H1.giveOuts (List.range m) = some (H2, outs')) (h : res = r0 ∧ outs' = o0) : Leaves P fn m [] (fun r o b => r = r0 ∧ o = o0 ∧ b = []) .normal σ :=
 ⟨.inl rfl, xs, H1, H1, H2, res, outs', [], hr, hp, rfl, hg, h.1, h.2, rfl⟩
theorem Gives.intro {f : FuncId} {c : Code} {args : List V} (hf : P.funcs[f]? = some fn) (hb : fn.body = some c) (hn : Nat.ble args.length fn.ntmps = true)
  (hc : outs.all (fun cs => cclean cs && (cnames cs).isEmpty) = true) (hnm : (args.flatMap V.names).all (fun j => Nat.blt j outs.length) = true)
  (h : ∀ F : Fix, F.n = fn.ntmps → Pinned F outs.length [] → WpC P F c (Leaves P fn outs.length [] (fun r o b => r = res ∧ o = outs' ∧ b = [])) ⟨initS args outs.length, initH args outs⟩) : Gives P f args outs res outs' := by
 refine Holds.intro (fun i hi => by cases hi) hf hb (Nat.le_of_ble_eq_true hn) (fun cs hcs => ?_) (fun j hj => ?_) h
 ·have := List.all_eq_true.1 hc cs hcs
  simpa using this
 ·have := List.all_eq_true.1 hnm j hj
  simpa using this
theorem GivesB.intro {f : FuncId} {c : Code} {args : List V} {bk bks : List V} (hf : P.funcs[f]? = some fn) (hb : fn.body = some c) (hn : Nat.ble args.length fn.ntmps = true)
  (hc : outs.all (fun cs => cclean cs && (cnames cs).isEmpty) = true) (hnm : (args.flatMap V.names).all (fun j => Nat.blt j outs.length) = true) (hbp : bp.all (fun i => Nat.blt i args.length) = true) (hbk : backArgs outs.length args bp = bks)
  (h : ∀ F : Fix, F.n = fn.ntmps → Pinned F outs.length bks → WpC P F c (Leaves P fn outs.length bks (fun r o b => r = res ∧ o = outs' ∧ b = bk)) ⟨initS args outs.length, initH args outs⟩) : GivesB P f args outs bp res outs' bk := by
 subst hbk
 refine Holds.intro (fun i hi => ?_) hf hb (Nat.le_of_ble_eq_true hn) (fun cs hcs => ?_) (fun j hj => ?_) h
 ·have := List.all_eq_true.1 hbp i hi
  simpa using this
 ·have := List.all_eq_true.1 hc cs hcs
  simpa using this
 ·have := List.all_eq_true.1 hnm j hj
  simpa using this
variable {sl : Nat → Option Slot}
theorem L.split {ops : Array Oper} {Q : St → Prop} {d : Option Nat} {H : Heap} {c : Bool} (h1 : c = true → WpL P F ops Q l ⟨setD sl d (some (im (.bool true))), H⟩) (h0 : c = false → WpL P F ops Q l ⟨setD sl d (some (im (.bool false))), H⟩) :
  WpL P F ops Q l ⟨setD sl d (some (im (.bool c))), H⟩ := by
 cases c with
 | true => exact h1 rfl
 | false => exact h0 rfl
variable {α : Type}
theorem condT {c : Bool} {a b : Option α} {r : α} (h : c = true) (H : cond c a b = some r) : a = some r := by subst h; exact H
theorem condF {c : Bool} {a b : Option α} {r : α} (h : c = false) (H : cond c a b = some r) : b = some r := by subst h; exact H
theorem condG {c : Bool} {a : Option α} {r : α} (H : cond c a none = some r) : c = true ∧ a = some r := by
 cases c with
 | true => exact ⟨rfl, H⟩
 | false => cases H
theorem bindS {β : Type} {a : Option α} {f : α → Option β} {r : β} (H : a.bind f = some r) : ∃ x, a = some x ∧ f x = some r := Option.bind_eq_some_iff.1 H
abbrev cI (n : Int) : Cell := .imm (i64 n)
abbrev cU (b : UInt8) : Cell := .imm (u8 b)
abbrev cL (b : Bool) : Cell := .imm (.bool b)
abbrev cS (l : List UInt8) : Cell := .imm (str l)
abbrev one (c : Cell) : Slot := .v (.one c)
abbrev agg (cs : List Cell) : Slot := .v (.agg cs)
def Slot.cs : Slot → List Cell
 | .v x => x.cells
 | .tup _ => []
def Slot.setC (s : Slot) (p : Nat) (c : Cell) : Slot :=
 match s with
 | .v (.one _) => .v (.one c)
 | .v (.agg cs) => .v (.agg (cs.set p c))
 | s => s
section
variable {F : Fix}
variable {c' : Cell} {u : Value}
theorem RSlot.setC {s : Slot} {p : Nat} {c : Cell} (hs : RSlot E s u) (hp : s.cs[p]? = some c) (h : ∀ v, RC E c v → RC E c' v) : RSlot E (s.setC p c') u := by
 cases s with
 | tup xs => simp [Slot.cs] at hp
 | v x =>
  cases x with
  | one d =>
   simp only [Slot.cs, V.cells] at hp
   cases p with
   | zero => simp at hp; subst hp; exact h _ hs
   | succ p => simp at hp
  | agg cs =>
   obtain ⟨us, hu, hr⟩ := hs
   refine ⟨us, hu, ?_⟩
   simp only [Slot.cs, V.cells] at hp
   obtain ⟨v, hv, hc⟩ := hr.get p c hp
   have := RCs.set p hr (h v hc)
   have hlt := (List.getElem?_eq_some_iff.1 hv)
   obtain ⟨h1, h2⟩ := hlt
   rw [← h2, List.set_getElem_self] at this
   exact this
theorem setC_names {s : Slot} {p : Nat} {c : Cell} (h : k ∈ (s.setC p c).names) : k ∈ s.names ∨ k ∈ c.names := by
 cases s with
 | tup xs => exact .inl h
 | v x =>
  cases x with
  | one d => right; simpa [Slot.setC, Slot.names, V.names, V.cells, cnames] using h
  | agg cs =>
   simp only [Slot.setC, Slot.names, V.names, V.cells] at h ⊢
   obtain ⟨d, hd, hk⟩ := mem_cnames.1 h
   rcases List.mem_or_eq_of_mem_set hd with h1 | h1
   ·exact .inl (mem_cnames.2 ⟨d, h1, hk⟩)
   ·subst h1; exact .inr hk
variable {q : Nat}
theorem used_row {H : Heap} {r : Option Row} (k : Nat) (hk : H.used k = true) : Heap.used { H with rows := upd H.rows q r, made := upd H.made q true } k = true := by
 by_cases e : k = q
 ·subst e; simp [Heap.used, upd_same]
 ·simpa [Heap.used, upd_other _ _ e] using hk
theorem Le.own {s : Slot} (t p q sz : Nat) (hs : σ.slots t = some s) (hp : s.cs[p]? = some .nil) (hq : σ.H.used q = false) : Le F σ ⟨upd σ.slots t (some (s.setC p (.own q))), { σ.H with rows := upd σ.H.rows q (some ⟨sz, []⟩), made := upd σ.H.made q true }⟩ := by
 rintro a w ⟨E, rfl, hH, hS, hP⟩
 obtain ⟨b1, b2⟩ := hH.addRow (r := ⟨sz, []⟩) (hd := .slice none 0 0) (bs := []) hq (by simp) Flat.nil (.inl ⟨rfl, rfl, rfl⟩) List.nodup_nil (fun g hg => by cases hg)
 refine ⟨E.rowAt q (.slice none 0 0) sz [], rfl, b1, ⟨hS.size, hS.defers, fun t' s' (h : upd σ.slots t (some (s.setC p (.own q))) t' = some s') => ?_, fun t' s' (h : upd σ.slots t (some (s.setC p (.own q))) t' = some s') k hk => ?_⟩, hP.sub b2 used_row⟩
 ·by_cases e : t' = t
  ·subst e
   rw [upd_same] at h; cases h
   refine RSlot.setC ((hS.slots t' s hs).sub b2 (hS.used t' s hs)) hp fun v hv => ?_
   simp only [RC, Env.rowAt, upd_same] at hv ⊢
   rw [hv]
   exact ⟨rfl, fun h hh => by cases hh; rfl⟩
  ·rw [upd_other _ _ e] at h
   exact (hS.slots t' s' h).sub b2 (hS.used t' s' h)
 ·by_cases e : t' = t
  ·subst e
   rw [upd_same] at h; cases h
   rcases setC_names hk with h | h
   ·exact used_row k (hS.used t' s hs k h)
   ·simp [Cell.names] at h; subst h; simp [Heap.used, upd_same]
  ·rw [upd_other _ _ e] at h
   exact used_row k (hS.used t' s' h k hk)
end
open Go.RowKit
variable {us : List Value} {w : World}
theorem Gives.walk {f : FuncId} {args : List V} (h : Gives P f args [] [V.one (cL true)] []) {S : Bool → Nat → Prop} (hi : InOk w S args [] us [] [] []) :
  Calls P f us.toArray w fun e w' => e = .returned (.bool true) ∧ Below w.heap.size w w' := by
 refine (h w S us [] [] [] hi).mono fun e w' => ?_
 rintro ⟨res, outs', bk, S', us', bs', obs', ⟨rfl, rfl, rfl⟩, hret, hlen, hok, _, _, _, hfr⟩
 refine ⟨?_, ?_⟩
 ·obtain ⟨u, us1, b, bs1, e1, rfl, h1, h2⟩ := hok.args
  obtain ⟨rfl, _⟩ := h2
  have e1 : us' ++ [] = [u] := e1
  rw [List.append_nil] at e1
  subst e1
  simp only [RXV, RXC, RC] at h1
  rw [hret, h1.1.1]
  rfl
 ·exact ⟨hfr.os, hfr.tape, hfr.output, hfr.size, fun k hk => hfr.block k hk (by simp)⟩
open Go.RowKit
def lawS (W : World) : Bool → Nat → Prop := fun _ b => b < W.heap.size
abbrev lawE (W : World) : Env := envI W (lawS W) []
abbrev big : Nat := 9223372036854775807
def eR (e : α → List Cell) (xs : List α) : List Cell := [.sl true (xs.map e)]
def wfI (n : Int) : Prop := -9223372036854775808 ≤ n ∧ n ≤ 9223372036854775807
def wfS (l : List UInt8) : Prop := l.length ≤ big
def wfR (w : α → Prop) (xs : List α) : Prop := xs.length ≤ big ∧ ∀ x ∈ xs, w x
def Opens (P : Program) (t : TypeId) (e : α → List Cell) (wf : α → Prop) : Prop :=
 ∀ (H : Type) (enc : TypeId × Value → H) (W : World) (fuel : Nat) (cs : List Value) (x : DataW H × List MemPlace), DataW.trod enc P W 0 (fun _ => true) true fuel t cs = some x → ∃ a : α, RCs (lawE W) (e a) cs ∧ wf a
section
variable {P : Program} {t : TypeId}
theorem Opens.int (ht : P.underlying t = some (.int .i64)) : Opens P t eI wfI := by
 intro H enc W fuel cs x h
 obtain ⟨n, rfl, _, hw⟩ := DataW.trod_int ht h
 refine ⟨n, by simp [eI, RCs, RC, isImm], ?_⟩
 have e1 : IntKind.i64.min = -9223372036854775808 := by decide
 have e2 : IntKind.i64.max = 9223372036854775807 := by decide
 simp only [Lit.wf, e1, e2, Bool.and_eq_true, decide_eq_true_eq] at hw
 exact hw
theorem Opens.u8 (ht : P.underlying t = some (.int .u8)) : Opens P t eB (fun _ => True) := by
 intro H enc W fuel cs x h
 obtain ⟨n, rfl, _, hw⟩ := DataW.trod_int ht h
 have e1 : IntKind.u8.min = 0 := by decide
 have e2 : IntKind.u8.max = 255 := by decide
 simp only [Lit.wf, e1, e2, Bool.and_eq_true, decide_eq_true_eq] at hw
 refine ⟨UInt8.ofNat n.toNat, ?_, trivial⟩
 have e : ((UInt8.ofNat n.toNat).toNat : Int) = n := by
  rw [UInt8.toNat_ofNat']
  omega
 simp only [eB, RCs, RC]
 exact ⟨_, [], rfl, ⟨by rw [MG.u8, e], rfl⟩, rfl⟩
variable {el : TypeId}
theorem Opens.slice {e : α → List Cell} {wf : α → Prop} (ht : P.underlying t = some (.slice el)) (h : Opens P el e wf) (hl : ∀ a, (e a).length = P.cellsOf el) (hc : ∀ a, cclean (e a) = true) (hn : ∀ a, cnames (e a) = []) (hz : (P.cellsOf el == 0) = false) : Opens P t (eR e) (wfR wf) := by
 intro H enc W fuel cs x hx
 rcases DataW.trod_slice ht hx with ⟨rfl, _⟩ | ⟨a, len, cap, elems, rest, n, _, rfl, _, _, hle, hm, hlen, hel, _⟩
 ·refine ⟨[], ?_, by simp [wfR]⟩
  simp only [eR, RCs, RC, List.map_nil]
  exact ⟨_, [], rfl, ⟨Flat.nil, none, 0, rfl, by simp, .inl trivial⟩, rfl⟩
 ·have one : ∀ i, i < len → ∃ (b : α) (us : List Value), W.cells? 0 (a.add (i * P.cellsOf el)) (P.cellsOf el) = some us ∧ RCs (lawE W) (e b) us ∧ wf b := by
   intro i hi
   have := hel i hi
   rw [List.getElem?_eq_getElem (by omega)] at this
   obtain ⟨us, h1, h2⟩ := Option.bind_eq_some_iff.1 this
   obtain ⟨b, h3, h4⟩ := h H enc W n us _ h2
   exact ⟨b, us, h1, h3, h4⟩
  have all : ∀ m, m ≤ len → ∃ xs : List α, xs.length = m ∧ (∀ i b, xs[i]? = some b → ∃ us, W.cells? 0 (a.add (i * P.cellsOf el)) (P.cellsOf el) = some us ∧ RCs (lawE W) (e b) us) ∧ ∀ b ∈ xs, wf b := by
   intro m
   induction m with
   | zero => intro _; exact ⟨[], rfl, by simp, by simp⟩
   | succ m ih =>
    intro hm
    obtain ⟨xs, h1, h2, h3⟩ := ih (by omega)
    obtain ⟨b, us, h4, h5, h6⟩ := one m (by omega)
    refine ⟨xs ++ [b], by simp [h1], fun i c hc => ?_, fun c hc => ?_⟩
    ·rw [List.getElem?_append] at hc
     split at hc
     ·exact h2 i c hc
     ·rename_i hlt
      have hi : i = m := by
       by_cases e : i - xs.length = 0
       ·omega
       ·rw [List.getElem?_eq_none (by simp; omega)] at hc; cases hc
      subst hi
      rw [h1] at hc
      simp at hc
      subst hc
      exact ⟨us, h4, h5⟩
    ·rcases List.mem_append.1 hc with hc | hc
     ·exact h3 c hc
     ·rw [List.mem_singleton.1 hc]; exact h6
  obtain ⟨xs, h1, h2, h3⟩ := all len (Nat.le_refl _)
  have hbig : maxLen = big := by decide
  refine ⟨xs, ?_, ⟨by rw [h1]; omega, h3⟩⟩
  simp only [eR, RCs]
  refine ⟨_, [], rfl, ?_, rfl⟩
  simp only [RC]
  have hflat : Flat (xs.map e) := Flat.iff.2 fun c hc' => by
   obtain ⟨b, _, rfl⟩ := List.mem_map.1 hc'
   exact ⟨hc b, hn b⟩
  refine ⟨hflat, some a, cap, by simp [h1], by simpa [h1] using hle, ?_⟩
  by_cases h0 : xs = []
  ·exact .inl (by simp [h0])
  have hz : P.cellsOf el ≠ 0 := by simpa using hz
  right
  obtain ⟨b0, hb0⟩ : ∃ b, xs[0]? = some b := by
   cases xs with
   | nil => exact absurd rfl h0
   | cons b _ => exact ⟨b, rfl⟩
  obtain ⟨us0, hu0, _⟩ := h2 0 b0 hb0
  obtain ⟨_, hl0, hg0⟩ := World.cells?_some hu0
  have hc0 := hg0 0 (by omega)
  rw [List.getElem?_eq_getElem (by omega)] at hc0
  have hsp : a.spot = none ∧ a.block < W.heap.size := by
   have hadd : (a.add (0 * P.cellsOf el)).add 0 = a := by simp [Addr.add]
   rw [hadd] at hc0
   unfold World.cell? at hc0
   split at hc0
   ·rename_i hb
    split at hc0
    ·cases hc0
    ·rename_i hs
     refine ⟨by simpa using hs, ?_⟩
     exact (Array.getElem?_eq_some_iff.1 hb).1
   ·cases hc0
  obtain ⟨blk, off, spot⟩ := a
  obtain ⟨rfl, hb⟩ := hsp
  refine ⟨blk, off, P.cellsOf el, rfl, hb, RRow.of_get fun i c hc' => ?_⟩
  rw [List.getElem?_map] at hc'
  obtain ⟨b, hb', rfl⟩ := Option.map_eq_some_iff.1 hc'
  obtain ⟨us, hu, hr⟩ := h2 i b hb'
  obtain ⟨_, hl1, hg1⟩ := World.cells?_some hu
  refine ⟨hl b, us, hr, fun j v hv => ?_⟩
  have hj : j < us.length := (List.getElem?_eq_some_iff.1 hv).1
  have := hg1 j (by omega)
  rw [hv, Addr.add_mid, Addr.add_mid] at this
  exact this
section
variable {H : Type} {enc : TypeId × Value → H} {W : World} {base : Nat} {v : Value} {d : DataW H} {p : List MemPlace} {α : Type} {e : α → List Cell} {wf : α → Prop}
theorem arg_cell (ho : Opens P t e wf) {c : α → Cell} (he : ∀ a, e a = [c a]) (hv : v.cells = #[v]) (h : DataW.Trod enc P W 0 (fun _ => true) true t v d p) (hno : ∀ a, (c a).isOw = false := by exact fun _ => rfl) : ∃ a, RXV (lawE W) (.one (c a)) v [] ∧ wf a := by
 obtain ⟨n, h⟩ := h
 obtain ⟨a, h1, h2⟩ := ho _ _ _ _ _ _ h
 rw [he, hv] at h1
 simp only [RCs] at h1
 obtain ⟨u, us, hu, h1, rfl⟩ := h1
 simp at hu
 subst hu
 exact ⟨a, RXC.of h1 (hno a), h2⟩
theorem arg_slice (ht : P.underlying t = some (.slice el)) (ho : Opens P t (eR e) (wfR wf)) (hv : Value.okWide P W .any base t v) (h : DataW.Trod enc P W 0 (fun _ => true) true t v d p) : ∃ a : List α, RXV (lawE W) (.one (.sl true (a.map e))) v [] ∧ wfR wf a :=
 arg_cell ho (fun _ => rfl) (by obtain ⟨a, n, c, rfl⟩ := Go.WideShapes.okWide_slice ht hv; rfl) h
end
theorem lawIn {W : World} {vs : List V} (h : RXVs (lawE W) vs us []) : InOk W (lawS W) vs [] us [] [] [] :=
 ⟨h, ⟨rfl, rfl⟩, by simp, by simp, fun _ _ h => h, fun _ h => h⟩
theorem RXVs.nil0 : RXVs E [] [] [] := ⟨rfl, rfl⟩
variable {u : Value}
theorem RXVs.cons0 {x : V} (h : RXV E x u []) (h' : RXVs E xs us []) : RXVs E (x :: xs) (u :: us) [] := ⟨u, us, [], [], rfl, rfl, h, h'⟩
theorem trodAll_below {H : Type} {enc : TypeId × Value → H} (hl : laidOutB P = true) {W W' : World} (hb : Below W.heap.size W W') : ∀ {ts : List TypeId} {vs : List Value} {ds : List (DataW H)} {ps : List MemPlace}, ts.all (fun t => P.readableRec t && decide (t < P.types.size)) = true →
  (∀ x ∈ ps, x.block < W.heap.size) → DataW.TrodAll enc P W 0 (fun _ => true) true ts vs ds ps → DataW.TrodAll enc P W' 0 (fun b => decide (b < W.heap.size)) true ts vs ds ps
 | [], [], [], _, _, _, h => h
 | t :: ts, v :: vs, d :: ds, _, hr, hp, ⟨p, q, h1, h2, e⟩ => by
  subst e
  simp only [List.all_cons, Bool.and_eq_true, decide_eq_true_eq] at hr
  exact ⟨p, q, Below.trod hl hr.1.1 hr.1.2 h1 hb (fun x hx => hp x (by simp [hx])), trodAll_below hl hb hr.2 (fun x hx => hp x (by simp [hx])) h2, rfl⟩
end
theorem law_calls {H : Type} {enc : TypeId × Value → H} {f : FuncId} {s : ChangeSpec} {W : World} {args : Array Value} {ds gs : List (DataW H)} {before : List MemPlace} {ts : List TypeId} {tb : TypeId}
  (hl : laidOutB P = true) (hts : fn.params.toList = ts) (hr : ts.all (fun t => P.readableRec t && decide (t < P.types.size)) = true) (hres : fn.resultTypes = #[tb]) (htb : P.underlying tb = some .bool) (hvars : s.vars = [])
  (hW : DataW.Whole enc P fn.params.toList s.vars false W args.toList ds gs before)
  (h : ∀ p, DataW.TrodAll enc P W 0 (fun _ => true) true ts args.toList ds p → ((s.fn H (ds ++ [])).results = [.lit (.bool true)] ∧ (s.fn H (ds ++ [])).args = ds ∧ (s.fn H (ds ++ [])).vars = []) ∧ ∃ vs, RXVs (lawE W) vs args.toList [] ∧ Gives P f vs [] [V.one (cL true)] []) :
  Calls P f args W fun e W' => ∃ v, e = .returned v ∧ s.post enc P fn false true false false W args v W' := by
 have hW' := hW
 obtain ⟨p, q, hA, hV, rfl, hfz, hnd⟩ := hW
 rw [hts] at hA
 obtain ⟨⟨s1, s2, s3⟩, vs, h1, h2⟩ := h p hA
 have hlt := hA.lt
 have hgs : gs = [] := by
  rw [hvars] at hV
  cases gs with
  | nil => rfl
  | cons _ _ => exact hV.elim
 subst hgs
 have h3 := Gives.walk h2 (lawIn h1)
 rw [Array.toArray_toList] at h3
 refine h3.mono fun e W' ⟨he, bel⟩ => ?_
 subst he
 refine ⟨_, rfl, ds, [], p ++ q, [], p, [], hW', ?_, ?_, ?_, bel.frame _, fun h => by cases h⟩
 ·rw [s1, hres]
  exact Go.ChangeShapes.trodAll_mk1 (Go.RowKit.shut_bool htb true)
 ·rw [s2, hts]
  exact trodAll_below hl bel hr hlt hA
 ·rw [s3, hvars]
  rfl
def shC (q : Nat) (es : List (List Cell)) : Cell → Cell
 | .own k => if k = q then .sl true es else .own k
 | .sub k lo n => if k = q then .sl true ((es.drop lo).take n) else .sub k lo n
 | c => c
def shV (q : Nat) (es : List (List Cell)) : V → V
 | .one c => .one (shC q es c)
 | .agg cs => .agg (cs.map (shC q es))
def shS (q : Nat) (es : List (List Cell)) : Slot → Slot
 | .v x => .v (shV q es x)
 | .tup xs => .tup (xs.map (shV q es))
def shSl (q : Nat) (es : List (List Cell)) (sl : Nat → Option Slot) : Nat → Option Slot := fun t => (sl t).map (shS q es)
def Heap.shRow (H : Heap) (q : Nat) (es : List (List Cell)) : Heap := { rows := upd H.rows q none, boxes := fun k => (H.boxes k).map (List.map (shC q es)), base := H.base, made := H.made, lens := H.lens, hv := H.hv }
section
variable {F : Fix}
variable {r : Row}
theorem Le.shareAll {H : Heap} (q : Nat) (hq : H.rows q = some r) : Le F ⟨sl, H⟩ ⟨shSl q r.es sl, H.shRow q r.es⟩ := by
 rintro a w ⟨E, rfl, hH, hS, hP⟩
 have hH : RelH F H E := hH
 obtain ⟨h1, h2, hd, h3, h4, h5⟩ := hH.rows q r hq
 obtain ⟨E', e1, e2, e3, e4, e5⟩ : ∃ E', E'.w = E.w ∧ RelH F { H with rows := upd H.rows q none } E' ∧ Sub E E' (fun k => H.used k = true) ∧ E'.blk = E.blk ∧
   ((hd = .slice none 0 0 ∧ r.es = []) ∨ ∃ g cap, hd = .slice (some ⟨g, 0, none⟩) r.es.length cap ∧ r.es.length ≤ cap ∧ E'.S true g ∧ RRow (E'.cap true) g 0 r.sz r.es) := by
  obtain ⟨d1, d2⟩ := hH.dropRow q
  rcases h5 with ⟨h6, h7, h10⟩ | ⟨g, cap, bs', h6, h7, h8, h9, h10⟩
  ·exact ⟨E.gone q, rfl, d1, d2, rfl, .inl ⟨h6, h7⟩⟩
  ·have hf := fun b hb => hH.dropped (k := q) (g := b) hq hb
   obtain ⟨s1, s2⟩ := d1.share (bs := E.ob q) (fun b hb => ⟨(hf b hb).2.1, (hf b hb).2.2.1, (hf b hb).2.2.2⟩)
   refine ⟨{ E.gone q with S := fun c b => E.S c b ∨ b ∈ E.ob q }, rfl, s1, d2.trans s2, rfl, .inr ⟨g, cap, h6, h7, .inr (by rw [h10]; simp), ?_⟩⟩
   exact RXRow.view (E' := Env.cap { E.gone q with S := fun c b => E.S c b ∨ b ∈ E.ob q } true) ⟨fun b hb => Or.inl hb, fun _ _ => rfl, fun _ h => h.elim, fun _ h => h.elim, fun _ h => h.elim⟩ rfl
    (fun b hb => ⟨rfl, Or.inr (by rw [h10]; simp [hb])⟩) h2.1 h2.2 h9
 have conv : ∀ (c : Cell) (u : Value), (∀ k ∈ c.names, H.used k = true) → RC E c u → RC E' (shC q r.es c) u := by
  intro c u hn hc
  cases c with
  | own k =>
   simp only [shC]
   split
   ·rename_i e; subst e
    simp only [RC] at hc ⊢
    have hu := hc.2 hd h3
    rcases e5 with ⟨h6, h7⟩ | ⟨g, cap, h6, h7, h8, h9⟩
    ·exact ⟨h2, none, 0, by rw [hu, h6, h7]; rfl, by simp [h7], .inl h7⟩
    ·exact ⟨h2, _, cap, by rw [hu, h6], h7, .inr ⟨g, 0, r.sz, rfl, h8, h9⟩⟩
   ·exact RC.sub e3 hn hc
  | sub k lo n =>
   simp only [shC]
   split
   ·rename_i e; subst e
    simp only [RC] at hc ⊢
    rcases hc.2 hd h3 with ⟨h6, rfl, rfl, hu⟩ | ⟨g, len, cap, a, h6, h7, h8, h9, _⟩
    ·exact ⟨h2.part _ _, none, 0, by rw [hu, h6]; simp, by simp, .inl (by simp)⟩
    ·rcases e5 with ⟨h10, _⟩ | ⟨g', cap', h10, h11, h12, h13⟩
     ·rw [h10] at h6; cases h6
     ·rw [h10] at h6; cases h6
      have hlen : ((r.es.drop lo).take n).length = n := by simp; omega
      refine ⟨h2.part _ _, some a, cap - lo, by rw [h8, hlen], by rw [hlen]; omega, ?_⟩
      rcases h9 with h9 | h9
      ·exact .inl (by simp [h9])
      ·exact .inr ⟨g, lo * r.sz, r.sz, by rw [h9, h4], h12, by have := (h13.drop lo).take n; simpa using this⟩
   ·exact RC.sub e3 hn hc
  | _ => exact RC.sub e3 hn hc
 have nm : ∀ (c : Cell) (k : Nat), k ∈ (shC q r.es c).names → k ∈ c.names := by
  intro c k hk
  cases c <;> simp only [shC] at hk <;> first | exact hk | (split at hk <;> first | exact hk | (simp [Cell.names] at hk))
 have convs : ∀ (cs : List Cell) (us : List Value), (∀ k ∈ cnames cs, H.used k = true) → RCs E cs us → RCs E' (cs.map (shC q r.es)) us := by
  intro cs
  induction cs with
  | nil => intro us _ h; exact h
  | cons c cs ih =>
   intro us hn h
   simp only [cnames, List.mem_append] at hn
   obtain ⟨u, us', rfl, h1, h2⟩ := h
   exact ⟨u, us', rfl, conv c u (fun k hk => hn k (.inl hk)) h1, ih us' (fun k hk => hn k (.inr hk)) h2⟩
 have nms : ∀ (cs : List Cell) (k : Nat), k ∈ cnames (cs.map (shC q r.es)) → k ∈ cnames cs := by
  intro cs k hk
  obtain ⟨c, hc, hk⟩ := mem_cnames.1 hk
  obtain ⟨c', hc', rfl⟩ := List.mem_map.1 hc
  exact mem_cnames.2 ⟨c', hc', nm _ _ hk⟩
 have convV : ∀ (x : V) (u : Value), (∀ k ∈ x.names, H.used k = true) → RV E x u → RV E' (shV q r.es x) u := by
  intro x u hn h
  cases x with
  | one c => exact conv c u (fun k hk => hn k (by simpa [V.names, V.cells, cnames] using hk)) h
  | agg cs => obtain ⟨us, hu, h⟩ := h; exact ⟨us, hu, convs cs us hn h⟩
 have nmV : ∀ (x : V) (k : Nat), k ∈ (shV q r.es x).names → k ∈ x.names := by
  intro x k hk
  cases x with
  | one c => simp only [shV, V.names, V.cells, cnames, List.append_nil] at hk ⊢; exact nm _ _ hk
  | agg cs => exact nms _ _ hk
 have convVs : ∀ (xs : List V) (us : List Value), (∀ k ∈ xs.flatMap V.names, H.used k = true) → RVs E xs us → RVs E' (xs.map (shV q r.es)) us := by
  intro xs
  induction xs with
  | nil => intro us _ h; exact h
  | cons x xs ih =>
   intro us hn h
   simp only [List.flatMap_cons, List.mem_append] at hn
   obtain ⟨u, us', rfl, h1, h2⟩ := h
   exact ⟨u, us', rfl, convV x u (fun k hk => hn k (.inl hk)) h1, ih us' (fun k hk => hn k (.inr hk)) h2⟩
 have convS : ∀ (s : Slot) (u : Value), (∀ k ∈ s.names, H.used k = true) → RSlot E s u → RSlot E' (shS q r.es s) u := by
  intro s u hn h
  cases s with
  | v x => exact convV x u hn h
  | tup xs =>
   obtain ⟨us, hu, h⟩ := h
   exact ⟨us, hu, convVs xs us hn h⟩
 have nmS : ∀ (s : Slot) (k : Nat), k ∈ (shS q r.es s).names → k ∈ s.names := by
  intro s k hk
  cases s with
  | v x => exact nmV x k hk
  | tup xs =>
   simp only [shS, Slot.names, List.mem_flatMap, List.mem_map] at hk ⊢
   obtain ⟨_, ⟨x, hx, rfl⟩, hk⟩ := hk
   exact ⟨x, hx, nmV x k hk⟩
 refine ⟨E', e1, ⟨e2.rows, fun k cs' hk => ?_, e2.hdr0, fun k hk => ?_, e2.both, e2.uniq, e2.own, e2.S, e2.SS, e2.Ssub, e2.Ssup, e2.pt, e2.fr, e2.usedR, fun k cs' hk => ?_, e2.nodup, e2.lens, e2.hv⟩, ⟨hS.size, hS.defers, fun t s' hs => ?_, fun t s' hs k hk => ?_⟩, hP.sub e3 fun _ h => h⟩
 ·obtain ⟨cs, hc, rfl⟩ := Option.map_eq_some_iff.1 hk
  obtain ⟨g, us, b1, b2, b3, b4⟩ := hH.boxes k cs hc
  refine ⟨g, us, by rw [e4]; exact b1, convs cs us (hH.usedB k cs hc).2 b2, by rw [e1]; exact b3, by rw [e1, List.length_map]; exact b4⟩
 ·have hk' : H.boxes k = none := by
   cases h : H.boxes k with
   | none => rfl
   | some cs => have hk : (H.boxes k).map (List.map (shC q r.es)) = none := hk; rw [h] at hk; cases hk
  exact e2.blk0 k hk'
 ·obtain ⟨cs, hc, rfl⟩ := Option.map_eq_some_iff.1 hk
  have := hH.usedB k cs hc
  exact ⟨this.1, fun j hj => this.2 j (nms _ _ hj)⟩
 ·obtain ⟨s, hs0, rfl⟩ := Option.map_eq_some_iff.1 hs
  exact convS s _ (hS.used t s hs0) (hS.slots t s hs0)
 ·obtain ⟨s, hs0, rfl⟩ := Option.map_eq_some_iff.1 hs
  exact hS.used t s hs0 k (nmS _ _ hk)
variable {u : Value} {es : List (List Cell)}
theorem RC.lend (hs : ∀ b, E.S true b → E.S false b) {g : Bool} (h : RC E (.sl true es) u) : RC E (.sl g es) u := by
 cases g with
 | true => exact h
 | false =>
  simp only [RC] at h ⊢
  obtain ⟨hf, a, cap, hu, hc, h⟩ := h
  exact ⟨hf, a, cap, hu, hc, h.imp id fun ⟨b, o, sz, h1, h2, h3⟩ => ⟨b, o, sz, h1, hs b h2, h3.sub (E := E.cap true) (E' := E.cap false) (N := fun _ => False) ⟨fun c b h => by cases c <;> first | exact h | exact hs b h, fun _ _ _ => rfl, fun _ _ => rfl, fun _ _ _ h => h, fun _ _ _ _ => rfl⟩ rfl (fun k hk => by rw [hf.2] at hk; cases hk)⟩⟩
variable {c' : Cell}
theorem RCs.setOne {cs : List Cell} {p : Nat} {c : Cell} (h : RCs E cs us) (hp : cs[p]? = some c) (hc : ∀ u, RC E c u → RC E c' u) : RCs E (cs.set p c') us := by
 obtain ⟨v, hv, hr⟩ := h.get p c hp
 have := RCs.set p h (hc v hr)
 obtain ⟨h1, h2⟩ := List.getElem?_eq_some_iff.1 hv
 rw [← h2, List.set_getElem_self] at this
 exact this
theorem Le.ownB {H : Heap} {cs : List Cell} (k p q sz : Nat) (hb : H.boxes k = some cs) (hp : cs[p]? = some .nil) (hq : H.used q = false) : Le F ⟨sl, H⟩ ⟨sl, (H.newRow q ⟨sz, []⟩).setBox k (cs.set p (.own q))⟩ := by
 rintro a w ⟨E, rfl, hH, hS, hP⟩
 have hH : RelH F H E := hH
 have hqk : k ≠ q := fun e => by
  have := (hH.usedB k cs hb).1
  subst e; rw [hq] at this; cases this
 obtain ⟨b1, b2⟩ := hH.addRow (r := ⟨sz, []⟩) (hd := .slice none 0 0) (bs := []) hq (by simp) Flat.nil (.inl ⟨rfl, rfl, rfl⟩) List.nodup_nil (fun g hg => by cases hg)
 have hu : ∀ j, H.used j = true → (H.newRow q ⟨sz, []⟩).used j = true := by
  intro j hj
  exact used_row j hj
 have b1' : RelH F (H.newRow q ⟨sz, []⟩) (E.rowAt q (.slice none 0 0) sz []) := b1
 refine ⟨E.rowAt q (.slice none 0 0) sz [], rfl, ⟨b1'.rows, fun j ds hj => ?_, b1'.hdr0, fun j hj => ?_, b1'.both, b1'.uniq, b1'.own, b1'.S, b1'.SS, b1'.Ssub, b1'.Ssup, b1'.pt, b1'.fr, b1'.usedR, fun j ds hj => ?_, b1'.nodup, b1'.lens, b1'.hv⟩, ⟨hS.size, hS.defers, fun t s hs => (hS.slots t s hs).sub b2 (hS.used t s hs), fun t s hs j hj => hu j (hS.used t s hs j hj)⟩, hP.sub b2 hu⟩
 ·by_cases e : j = k
  ·subst e
   have hj : upd H.boxes j (some (cs.set p (.own q))) j = some ds := hj
   rw [upd_same] at hj; cases hj
   obtain ⟨g, us, c1, c2, c3, c4⟩ := hH.boxes j cs hb
   refine ⟨g, us, c1, ?_, c3, by rw [List.length_set]; exact c4⟩
   refine (c2.sub b2 (hH.usedB j cs hb).2).setOne hp fun u hu => ?_
   simp only [RC, Env.rowAt, upd_same] at hu ⊢
   rw [hu]
   exact ⟨rfl, fun h hh => by cases hh; rfl⟩
  ·have hj : upd H.boxes k (some (cs.set p (.own q))) j = some ds := hj
   rw [upd_other _ _ e] at hj
   exact b1'.boxes j ds hj
 ·by_cases e : j = k
  ·subst e
   have hj : upd H.boxes j (some (cs.set p (.own q))) j = none := hj
   rw [upd_same] at hj; cases hj
  ·have hj : upd H.boxes k (some (cs.set p (.own q))) j = none := hj
   rw [upd_other _ _ e] at hj
   exact b1'.blk0 j hj
 ·by_cases e : j = k
  ·subst e
   have hj : upd H.boxes j (some (cs.set p (.own q))) j = some ds := hj
   rw [upd_same] at hj; cases hj
   have := hH.usedB j cs hb
   refine ⟨hu j this.1, fun i hi => ?_⟩
   obtain ⟨d, hd, hk⟩ := mem_cnames.1 hi
   rcases List.mem_or_eq_of_mem_set hd with h1 | h1
   ·exact hu i (this.2 i (mem_cnames.2 ⟨d, h1, hk⟩))
   ·subst h1
    simp [Cell.names] at hk
    subst hk
    show Heap.used { H with rows := upd H.rows i (some ⟨sz, []⟩), made := upd H.made i true } i = true
    simp [Heap.used, upd_same]
  ·have hj : upd H.boxes k (some (cs.set p (.own q))) j = some ds := hj
   rw [upd_other _ _ e] at hj
   exact b1'.usedB j ds hj
end
section
variable {P : Program} {F : Fix} {ops : Array Oper} {Q : St → Prop} {N : Nat}
variable {dst : Option Nat} {ty : TypeId} {pos : String} {aft : Array Edge} {grd : Option (Nat × Bool)} {rest : List Oper} {sl : Nat → Option Slot} {H : Heap}
def part? (l : List α) (a b : Int) : Option (List α) := if 0 ≤ a ∧ a ≤ b ∧ b ≤ l.length then some ((l.drop a.toNat).take (b.toNat - a.toNat)) else none
variable {hi : Option Operand} {x : Operand} {ti : TypeInfo} {el t : TypeId}
theorem L.cutR {xs ys : List α} {e : α → List Cell} {g : Bool} {lo : Option Operand} {a b : Int} (ht : P.underlying t = some (.slice el)) (hti : P.info? el = some ti) (hn : F.n = N) (hg : guardOf ops sl ⟨dst, .slice t x lo hi none, ty, pos, aft, grd⟩ = some true) (hd : dstB N dst = true)
  (hx : opnd sl x = some (.v (.one (.sl g (xs.map e))))) (ha : bndS sl 0 lo = some a) (hb : bndS sl xs.length hi = some b) (hc : part? xs a b = some ys) (hl : ∀ y, (e y).length = ti.size)
  (k : WpL P F ops Q rest ⟨setD sl dst (some (.v (.one (.sl g (ys.map e))))), H⟩) : WpL P F ops Q (⟨dst, .slice t x lo hi none, ty, pos, aft, grd⟩ :: rest) ⟨sl, H⟩ := by
 unfold part? at hc
 split at hc
 ·rename_i h
  obtain ⟨h1, h2, h3⟩ := h
  cases hc
  have bd : ∀ {d : Nat} {y : Option Operand} {n : Int}, 0 ≤ n → bndS sl d y = some n → bound (opnd sl) d y n.toNat := by
   intro d y n h0 h
   cases y with
   | none => simp only [bndS, Option.some.injEq] at h; simp only [bound]; omega
   | some y =>
    simp only [bndS] at h
    split at h
    ·rename_i kd n' hy
     cases h
     exact ⟨_, kd, hy, by simp [Slot.val?, V.val?, Cell.val?]; omega⟩
    ·cases h
  refine L.op hn hg hd fun _ _ hH hρ => done_slice hH hρ rfl ht hti hx (len := xs.length) (l := a.toNat) (h := b.toNat) (by simp [Heap.lenOf]) (bd h1 ha) (bd (by omega) hb) (c' := .sl g ((((xs.drop a.toNat).take (b.toNat - a.toNat))).map e)) ?_ ?_ k
  ·have : a.toNat ≤ b.toNat ∧ b.toNat ≤ xs.length := by omega
   simp [Heap.cut, this, List.map_drop, List.map_take]
  ·intro e' he'
   obtain ⟨y, _, rfl⟩ := List.mem_map.1 he'
   exact hl y
 ·cases hc
variable {kd : IntKind} {y : Operand}
theorem L.minI {t1 t2 : TypeId} {a b : Int} (hn : F.n = N) (hg : guardOf ops sl ⟨dst, .call { callee := .builtin .min, args := #[x, y], argTypes := #[t1, t2] }, ty, pos, aft, grd⟩ = some true) (hd : dstB N dst = true)
  (hx : opnd sl x = some (im (.int kd a))) (hy : opnd sl y = some (im (.int kd b)))
  (k : WpL P F ops Q rest ⟨setD sl dst (some (im (.int kd (if b < a then b else a)))), H⟩) : WpL P F ops Q (⟨dst, .call { callee := .builtin .min, args := #[x, y], argTypes := #[t1, t2] }, ty, pos, aft, grd⟩ :: rest) ⟨sl, H⟩ := by
 refine L.val hn hg hd rfl (fun E ev hρ => ?_) k
 have h1 := im_ok hρ hx rfl
 have h2 := im_ok hρ hy rfl
 simp [execOp, resolve, invoke, builtin, run_min_int2, h1, h2]
theorem L.maxI {t1 t2 : TypeId} {a b : Int} (hn : F.n = N) (hg : guardOf ops sl ⟨dst, .call { callee := .builtin .max, args := #[x, y], argTypes := #[t1, t2] }, ty, pos, aft, grd⟩ = some true) (hd : dstB N dst = true)
  (hx : opnd sl x = some (im (.int kd a))) (hy : opnd sl y = some (im (.int kd b)))
  (k : WpL P F ops Q rest ⟨setD sl dst (some (im (.int kd (if b > a then b else a)))), H⟩) : WpL P F ops Q (⟨dst, .call { callee := .builtin .max, args := #[x, y], argTypes := #[t1, t2] }, ty, pos, aft, grd⟩ :: rest) ⟨sl, H⟩ := by
 refine L.val hn hg hd rfl (fun E ev hρ => ?_) k
 have h1 := im_ok hρ hx rfl
 have h2 := im_ok hρ hy rfl
 simp [execOp, resolve, invoke, builtin, run_max_int2, h1, h2]
theorem L.makeFunc {f : FuncId} {caps : Array Operand} {cs : List Cell} (hn : F.n = N) (hg : guardOf ops sl ⟨dst, .makeFunc (.func f) #[] caps, ty, pos, aft, grd⟩ = some true) (hd : dstB N dst = true) (hc : capCells (opnd sl) caps.toList = some cs)
  (k : WpL P F ops Q rest ⟨setD sl dst (some (.v (.one (.clo f cs)))), H⟩) : WpL P F ops Q (⟨dst, .makeFunc (.func f) #[] caps, ty, pos, aft, grd⟩ :: rest) ⟨sl, H⟩ :=
 L.op hn hg hd fun _ _ hH hρ => done_makeFunc hH hρ rfl hc k
variable {parts : Array (Nat × Operand)}
theorem L.buildF {vs : List (Nat × V)} {cs : List Cell} {fill : List (Nat × V) → Option (List Cell)} (hf : builtA P t = fill) (hn : F.n = N) (hg : guardOf ops sl ⟨dst, .build t parts, ty, pos, aft, grd⟩ = some true) (hd : dstB N dst = true) (hp : partsV (opnd sl) parts.toList = some vs) (hb : fill vs = some cs)
  (k : WpL P F ops Q rest ⟨setD sl dst (some (.v (.agg cs))), H⟩) : WpL P F ops Q (⟨dst, .build t parts, ty, pos, aft, grd⟩ :: rest) ⟨sl, H⟩ :=
 L.build hn hg hd hp (by rw [hf]; exact hb) k
end
def Never (m : Sem α) : Prop := ∀ P w r w1, m.run P w ≠ .ok r w1
def Quiet (P : Program) (m : Sem α) : Prop := ∀ w r w1, m.run P w = .ok r w1 → w1 = w
def Calm (P : Program) (m : Sem α) : Prop := ∀ w r w1, m.run P w = .ok r w1 → w1 = w ∧ ∀ w', m.run P w' = .ok r w'
section
variable {P : Program} {α β : Type} {m : Sem α} {f : α → Sem β}
theorem Never.calm (h : Never m) : Calm P m := fun w r w1 e => absurd e (h P w r w1)
theorem Calm.quiet (h : Calm P m) : Quiet P m := fun w r w1 e => (h w r w1 e).1
theorem Calm.pure (a : α) : Calm P (pure a : Sem α) := fun w r w1 e => by
 simp only [Sem.run_pure, Result.ok.injEq] at e
 obtain ⟨rfl, rfl⟩ := e
 exact ⟨rfl, fun w' => by simp⟩
theorem andThen_ok {x : Result α} {g : α → World → Result β} {r : β} {w1 : World} (h : x.andThen g = .ok r w1) : ∃ a w, x = .ok a w ∧ g a w = .ok r w1 := by
 cases x with
 | ok a w => exact ⟨a, w, rfl, h⟩
 | halt h0 w => cases h
theorem Calm.bind (h : Calm P m) (hf : ∀ a, Calm P (f a)) : Calm P (m >>= f) := by
 intro w r w1 e
 rw [Sem.run_bind] at e
 obtain ⟨a, w0, e1, e2⟩ := andThen_ok e
 obtain ⟨rfl, h1⟩ := h w a w0 e1
 obtain ⟨rfl, h2⟩ := hf a w0 r w1 e2
 exact ⟨rfl, fun w' => by rw [Sem.run_bind, h1]; exact h2 w'⟩
theorem Quiet.bind (h : Quiet P m) (hf : ∀ a, Quiet P (f a)) : Quiet P (m >>= f) := by
 intro w r w1 e
 rw [Sem.run_bind] at e
 obtain ⟨a, w0, e1, e2⟩ := andThen_ok e
 have := h w a w0 e1
 subst this
 exact hf a w0 r w1 e2
theorem Never.bind (h : ∀ a, Never (f a)) : Never (m >>= f) := by
 intro P w r w1 e
 rw [Sem.run_bind] at e
 obtain ⟨a, w0, e1, e2⟩ := andThen_ok e
 exact h a P w0 r w1 e2
theorem Never.halt (h : Halt) : Never (Sem.halt h : Sem α) := fun P w r w1 e => by simp [Sem.run] at e
theorem Never.stuck (s : String) : Never (Go.stuck s : Sem α) := Never.halt _
theorem Never.unsupported (s : Unsupported) : Never (Go.unsupported s : Sem α) := Never.halt _
theorem Never.goPanic (v : Value) : Never (Go.goPanic v : Sem α) := Never.halt _
theorem Calm.ofRun {m : Sem α} {r : α} (h : ∀ w, m.run P w = .ok r w) : Calm P m := fun w r' w1 e => by
 rw [h w] at e
 simp only [Result.ok.injEq] at e
 obtain ⟨rfl, rfl⟩ := e
 exact ⟨rfl, h⟩
theorem Calm.program : Calm P program := fun w r w1 e => by
 simp only [run_program, Result.ok.injEq] at e
 obtain ⟨rfl, rfl⟩ := e
 exact ⟨rfl, fun w' => by simp⟩
theorem Never.runtimePanic (e : RuntimeError) : Never (Go.runtimePanic e : Sem α) := by
 unfold Go.runtimePanic
 refine Never.bind fun p => ?_
 cases e <;> first | exact Never.goPanic _ | exact Never.bind fun _ => Never.bind fun _ => Never.goPanic _
theorem Never.boundsPanic (k : IntKind) (x y : Int) (c : BoundsCode) : Never (Go.boundsPanic k x y c : Sem α) := by
 unfold Go.boundsPanic
 dsimp only
 split <;> exact Never.bind fun _ => Never.runtimePanic _
theorem Calm.stuck (s : String) : Calm P (Go.stuck s : Sem α) := (Never.stuck s).calm
theorem Calm.typeInfo (t : TypeId) : Calm P (Go.typeInfo t) := by
 unfold Go.typeInfo
 refine Calm.bind Calm.program fun p => ?_
 split
 ·exact Calm.pure _
 ·exact Calm.stuck _
theorem Calm.sizeOf (t : TypeId) : Calm P (Go.sizeOf t) := Calm.bind (Calm.typeInfo t) fun _ => Calm.pure _
theorem Calm.underlying (t : TypeId) : Calm P (Go.underlying t) := by
 unfold Go.underlying
 refine Calm.bind Calm.program fun p => ?_
 split
 ·exact Calm.pure _
 ·exact Calm.stuck _
theorem Calm.isAgg (t : TypeId) : Calm P (Go.isAgg t) := by
 unfold Go.isAgg
 refine Calm.bind (Calm.underlying t) fun d => ?_
 split <;> exact Calm.pure _
theorem Calm.asBool (v : Value) : Calm P (Go.asBool v) := by
 unfold Go.asBool; split
 ·exact Calm.pure _
 ·exact Calm.stuck _
theorem Calm.asIntOf (v : Value) : Calm P (Go.asIntOf v) := by
 unfold Go.asIntOf; split
 ·exact Calm.pure _
 ·exact (Never.unsupported _).calm
 ·exact Calm.stuck _
theorem Calm.sureAddr (v : Value) : Calm P (Instr.sureAddr v) := by
 unfold Instr.sureAddr; split
 ·exact Calm.pure _
 ·exact Calm.stuck _
end
def CalmAt (P : Program) (F : Fix) (sl : Nat → Option Slot) (H : Heap) (o : Oper) : Prop := ∀ E ev, RelH F H E → RhoOk H E (opnd sl) ev → Calm P (execOp ev o)
def QuietAt (P : Program) (F : Fix) (sl : Nat → Option Slot) (H : Heap) (o : Oper) : Prop := ∀ E ev, RelH F H E → RhoOk H E (opnd sl) ev → Quiet P (execOp ev o)
section
variable {P : Program} {F : Fix} {sl : Nat → Option Slot} {H : Heap}
variable {dst : Option Nat} {ty : TypeId} {pos : String} {aft : Array Edge} {grd : Option (Nat × Bool)}
theorem CalmAt.quiet {o : Oper} (h : CalmAt P F sl H o) : QuietAt P F sl H o := fun E ev a b => (h E ev a b).quiet
variable {x : Operand}
theorem Ca.move : CalmAt P F sl H ⟨dst, .move x, ty, pos, aft, grd⟩ := fun E ev _ _ => Calm.pure _
theorem Ca.assign : CalmAt P F sl H ⟨dst, .assign x, ty, pos, aft, grd⟩ := fun E ev _ _ => Calm.pure _
theorem Ca.pick {c a b : Operand} : CalmAt P F sl H ⟨dst, .pick c a b, ty, pos, aft, grd⟩ := fun E ev _ _ => Calm.bind (Calm.asBool _) fun _ => Calm.pure _
theorem Ca.v {m : Sem Value} (h : Calm P m) : Calm P (do pure (.value (← m)) : Sem Next) := Calm.bind h fun _ => Calm.pure _
theorem Qu.v {m : Sem Value} (h : Quiet P m) : Quiet P (do pure (.value (← m)) : Sem Next) := Quiet.bind h fun _ => (Calm.pure _).quiet
theorem Ca.extract {t : Operand} : CalmAt P F sl H ⟨dst, .extract t i, ty, pos, aft, grd⟩ := fun E ev _ _ => by
 refine Ca.v ?_
 unfold Instr.extract
 split
 ·split
  ·exact Calm.pure _
  ·exact Calm.stuck _
 ·exact Calm.stuck _
variable {t : TypeId}
theorem Ca.indexAddr {i : Operand} : CalmAt P F sl H ⟨dst, .indexAddr t x i, ty, pos, aft, grd⟩ := fun E ev _ _ => by
 refine Ca.v ?_
 unfold Instr.indexAt
 refine Calm.bind (Calm.asIntOf _) fun ki => Calm.bind (Calm.underlying _) fun d => ?_
 dsimp only
 have key : ∀ (b : Option Addr) (n : Nat) (el : TypeId), Calm P (do
   let d ← underlying t
   let tiny : Bool := n ≤ 1 && (match d with | .array .. => true | _ => false)
   match b with
   | some a =>
    if 0 ≤ ki.snd ∧ ki.snd < n then do pure (Value.pointer (some (a.add (ki.snd.toNat * (← sizeOf el)))))
    else if tiny then unsupported (.noEntry "op/indexAddr.an index out of range at an array of length 0 or 1 (ledger 616)")
    else boundsPanic ki.fst ki.snd n .index
   | none => boundsPanic ki.fst ki.snd 0 .index) := by
  intro b n el
  refine Calm.bind (Calm.underlying _) fun d => ?_
  dsimp only
  split
  ·split
   ·exact Calm.bind (Calm.sizeOf _) fun _ => Calm.pure _
   ·have hx : ∀ b : Bool, Calm P (if b = true then unsupported (.noEntry "op/indexAddr.an index out of range at an array of length 0 or 1 (ledger 616)") else boundsPanic ki.fst ki.snd n .index : Sem Value) := fun b => by
     cases b
     ·exact (Never.boundsPanic _ _ _ _).calm
     ·exact (Never.unsupported _).calm
    exact hx _
  ·exact (Never.boundsPanic _ _ _ _).calm
 split
 ·exact Calm.bind (Calm.sureAddr _) fun _ => Calm.bind (Calm.pure _) fun _ => key _ _ _
 ·exact Calm.bind (Calm.pure _) fun _ => key _ _ _
 ·exact Calm.bind (Calm.stuck _) fun _ => key _ _ _
variable {y : Operand} {xt yt : TypeId}
theorem Ca.bin {op : BinOp} {a b : Value} (hx : opnd sl x = some (im a)) (hy : opnd sl y = some (im b)) (h : Calm P (do eqGuard op xt x y a b; binOp op xt a b : Sem Value)) : CalmAt P F sl H ⟨dst, .binOp op xt x y yt, ty, pos, aft, grd⟩ := fun E ev _ hρ => by
 have h1 := im_ok hρ hx rfl
 have h2 := im_ok hρ hy rfl
 refine Ca.v ?_
 rw [h1, h2]
 exact h
theorem calm_eqGuard_int (op : BinOp) (t : TypeId) (x y : Operand) (k k' : IntKind) (a b : Int) : Calm P (eqGuard op t x y (.int k a) (.int k' b)) := by
 unfold eqGuard
 cases op <;> exact Calm.pure _
theorem calm_int (op : BinOp) (t : TypeId) (x y : Operand) (k k' : IntKind) (a b : Int) : Calm P (do eqGuard op t x y (.int k a) (.int k' b); binOp op t (.int k a) (.int k' b) : Sem Value) := by
 refine Calm.bind (calm_eqGuard_int op t x y k k' a b) fun _ => ?_
 have sh : ∀ op, Calm P (Op.shift op k a k' b) := by
  intro op
  unfold Op.shift
  first
   | exact Calm.pure _
   | (split <;> first | exact (Never.runtimePanic _).calm | (split <;> first | exact Calm.pure _ | exact Calm.stuck _) | exact Calm.pure _ | exact Calm.stuck _)
 cases op <;> simp only [binOp] <;> first
  | exact sh _
  | (split; exact Calm.stuck _; first | exact Calm.pure _ | (unfold Op.intDiv; split <;> first | exact (Never.runtimePanic _).calm | exact Calm.pure _ | (split <;> first | exact Calm.pure _ | exact Calm.stuck _)) | exact Calm.stuck _)
theorem Calm.sliceBound (v : Value) (y : Nat) (c : BoundsCode) : Calm P (Instr.sliceBound v y c) := by
 unfold Instr.sliceBound
 refine Calm.bind (Calm.asIntOf _) fun ki => ?_
 dsimp only
 split
 ·exact Calm.pure _
 ·exact (Never.boundsPanic _ _ _ _).calm
theorem Calm.sliceBounds (b : Bool) (len cap : Nat) (lo hi : Option Value) : Calm P (Instr.sliceBounds b len cap lo hi none) := by
 unfold Instr.sliceBounds
 cases hi <;> cases lo <;> dsimp only <;> repeat' (first | exact Calm.pure _ | exact Calm.sliceBound _ _ _ | (refine Calm.bind ?_ fun _ => ?_))
theorem Calm.asAddr (v : Value) : Calm P (Go.asAddr v) := by
 unfold Go.asAddr; split
 ·exact Calm.pure _
 ·exact (Never.runtimePanic _).calm
 ·exact Calm.stuck _
variable {hi : Option Operand}
theorem Ca.slice {lo : Option Operand} : CalmAt P F sl H ⟨dst, .slice t x lo hi none, ty, pos, aft, grd⟩ := fun E ev _ _ => by
 refine Ca.v ?_
 unfold Instr.sliceAt
 refine Calm.bind (Calm.underlying _) fun d => ?_
 split
 ·exact Calm.bind (Calm.sureAddr _) fun _ => Calm.bind (Calm.sliceBounds _ _ _ _ _) fun _ => Calm.bind (Calm.sizeOf _) fun _ => Calm.pure _
 ·unfold Instr.slice
  refine Calm.bind (Calm.underlying _) fun d => ?_
  split
  ·simp only [Option.map_none, Option.isSome_none, Bool.false_eq_true, if_false]
   exact Calm.bind (Calm.sliceBounds _ _ _ _ _) fun _ => Calm.pure _
  ·exact Calm.bind (Calm.sliceBounds _ _ _ _ _) fun _ => Calm.bind (Calm.sizeOf _) fun _ => Calm.pure _
  ·refine Calm.bind (Calm.asAddr _) fun _ => Calm.bind (Calm.underlying _) fun _ => ?_
   split
   ·exact Calm.bind (Calm.sliceBounds _ _ _ _ _) fun _ => Calm.bind (Calm.sizeOf _) fun _ => Calm.pure _
   ·exact Calm.stuck _
  ·exact Calm.stuck _
variable {fd : Field} {fs : Array Field}
theorem Ca.fieldAddr {s : TypeId} {f : Nat} {i : TypeInfo} (hs : P.underlying s = some (.struct fs)) (hf : fs[f]? = some fd) (hi : P.info? fd.type = some i) (h0 : (i.size == 0) = false) : CalmAt P F sl H ⟨dst, .fieldAddr s y f, ty, pos, aft, grd⟩ := fun E ev _ _ => by
 refine Ca.v ?_
 unfold Instr.fieldAt
 have h0' : i.size ≠ 0 := by simpa using h0
 have hu : ∀ w, (underlying s).run P w = .ok (.struct fs) w := fun w => run_underlying hs w
 have hz : ∀ w, (sizeOf fd.type).run P w = .ok i.size w := fun w => by simp [sizeOf, typeInfo, hi]
 have hp : ∀ a, Calm P (fieldPlace a fd) := fun a => by
  refine Calm.ofRun (r := a.add fd.offset) fun w => ?_
  simp [fieldPlace, hz, h0']
 have : ∀ (k : TypeDesc → Sem Value), Calm P (k (.struct fs)) → Calm P (underlying s >>= k) := fun k hk w r w1 e => by
  rw [Sem.run_bind, hu] at e
  obtain ⟨rfl, h2⟩ := hk w r w1 e
  exact ⟨rfl, fun w' => by rw [Sem.run_bind, hu]; exact h2 w'⟩
 refine this _ ?_
 dsimp only
 rw [hf]
 exact Calm.bind (Calm.sureAddr _) fun a => Calm.bind (hp a) fun _ => Calm.pure _
theorem Ca.lenS {l : List UInt8} (ht : P.underlying t = some .string) (hx : opnd sl x = some (im (str l))) : CalmAt P F sl H ⟨dst, .call { callee := .builtin .len, args := #[x], argTypes := #[t] }, ty, pos, aft, grd⟩ := fun E ev _ hρ => by
 have h1 := im_ok hρ hx rfl
 refine Calm.ofRun (r := .value (i64 (l.length : Int))) fun w => ?_
 have e : (ByteArray.mk ⟨l⟩).size = l.length := rfl
 simp [execOp, resolve, invoke, builtin, Builtin.len_, run_underlying ht, h1, goInt, e]
variable {el : TypeId}
theorem Ca.lenR {xs : List α} {e : α → List Cell} {c : Cell} (ht : P.underlying t = some (.slice el)) (hx : opnd sl x = some (.v (.one c))) (hn : H.lenOf c = some (xs.map e).length) : CalmAt P F sl H ⟨dst, .call { callee := .builtin .len, args := #[x], argTypes := #[t] }, ty, pos, aft, grd⟩ := fun E ev hH hρ => by
 have hv := (hρ x _ hx).1
 generalize (xs.map e).length = n at hn
 have key : ∃ a cap, ev x = .slice a n cap := by
  simp only [RSlot, RV] at hv
  cases c with
  | nil => simp [Heap.lenOf] at hn; subst hn; simp only [RC] at hv; exact ⟨_, _, hv⟩
  | sl g es => simp [Heap.lenOf] at hn; subst hn; simp only [RC] at hv; obtain ⟨_, a, cap, hu, _⟩ := hv; exact ⟨_, _, hu⟩
  | own k =>
   cases hr : H.rows k with
   | none =>
    simp only [Heap.lenOf, hr] at hn
    obtain ⟨_, a, cap, h⟩ := hH.lens k _ hn
    simp only [RC] at hv
    exact ⟨a, cap, hv.2 _ h⟩
   | some r =>
   simp only [Heap.lenOf, hr, Option.some.injEq] at hn
   subst hn
   obtain ⟨_, _, hd, h3, _, h5⟩ := hH.rows k r hr
   simp only [RC] at hv
   rw [hv.2 hd h3]
   rcases h5 with ⟨h6, h7, _⟩ | ⟨g, cap, _, h6, _⟩
   ·exact ⟨none, 0, by rw [h6, h7]; rfl⟩
   ·exact ⟨_, _, h6⟩
  | sub k lo m =>
   simp only [Heap.lenOf] at hn
   split at hn
   ·rename_i hs
    cases hn
    obtain ⟨r, hr⟩ := Option.isSome_iff_exists.1 hs
    obtain ⟨_, _, hd, h3, _, _⟩ := hH.rows k r hr
    simp only [RC] at hv
    rcases hv.2 hd h3 with ⟨h6, _, h8, h9⟩ | ⟨_, _, _, _, _, _, h9, _⟩
    ·exact ⟨none, 0, by rw [h9, h6, h8]⟩
    ·exact ⟨_, _, h9⟩
   ·cases hn
  | _ => simp [Heap.lenOf] at hn
 obtain ⟨a, cap, hu⟩ := key
 refine Calm.ofRun (r := .value (i64 (n : Int))) fun w => ?_
 simp [execOp, resolve, invoke, builtin, Builtin.len_, run_underlying ht, hu, goInt]
theorem Ca.nilCheck {c : Cell} (hy : opnd sl y = some (.v (.one c))) (hl : H.live c = true) : CalmAt P F sl H ⟨dst, .nilCheck y, ty, pos, aft, grd⟩ := fun E ev hH hρ => by
 obtain ⟨hv, hn⟩ := hρ y _ hy
 have hc := live_ok hl
 have hp : ∃ a, ev y = .pointer (some a) := by
  simp only [RSlot, RV] at hv
  rcases hc with ⟨k, j, rfl, hk⟩ | ⟨k, i, j, rfl, hk⟩ | ⟨g, e, j, rfl⟩
  ·cases hb : H.boxes k with
   | none => exact absurd hb hk
   | some cs =>
    obtain ⟨g, us, h1, _⟩ := hH.boxes k cs hb
    simp only [RC] at hv
    exact ⟨_, hv.2 g (hH.pt k g h1)⟩
  ·cases hb : H.rows k with
   | none => exact absurd hb hk
   | some r =>
    obtain ⟨_, _, hd, h3, _⟩ := hH.rows k r hb
    simp only [RC] at hv
    obtain ⟨g, len, cap, _, _, hu⟩ := hv.2 hd h3
    exact ⟨_, hu⟩
  ·simp only [RC] at hv
   obtain ⟨_, b, p, us, hu, _⟩ := hv
   exact ⟨_, hu⟩
 obtain ⟨a, ha⟩ := hp
 exact Calm.ofRun (r := .value (ev y)) fun w => by simp [execOp, ha]
theorem Ca.makeFunc {f : FuncId} {caps : Array Operand} : CalmAt P F sl H ⟨dst, .makeFunc (.func f) #[] caps, ty, pos, aft, grd⟩ := fun E ev _ _ => Ca.v (Calm.pure _)
theorem Quiet.load (a : Addr) : Quiet P (Go.load a) := fun w r w1 e => by
 unfold Go.load Sem.run at e
 split at e
 ·simp only [Sem.run, Result.ok.injEq] at e; exact e.2.symm
 ·split at e
  ·simp only [Sem.run, Result.ok.injEq] at e; exact e.2.symm
  ·cases e
theorem Quiet.loadCellsFrom (a : Addr) : ∀ (n i : Nat) (acc : Array Value), Quiet P (Go.loadCellsFrom a i n acc)
 | 0, i, acc => (Calm.pure _).quiet
 | n + 1, i, acc => Quiet.bind (Quiet.load _) fun v => Quiet.loadCellsFrom a n (i + 1) _
theorem Qu.load : QuietAt P F sl H ⟨dst, .load t y, ty, pos, aft, grd⟩ := fun E ev _ _ => by
 refine Qu.v ?_
 unfold Instr.loadAt
 refine Quiet.bind (Calm.sureAddr _).quiet fun a => ?_
 unfold Go.loadVar
 refine Quiet.bind (Calm.isAgg _).quiet fun b => ?_
 split
 ·exact Quiet.bind (Calm.sizeOf _).quiet fun n => Quiet.bind (Quiet.loadCellsFrom _ _ _ _) fun _ => (Calm.pure _).quiet
 ·exact Quiet.load _
end
def kindV : Op → Bool
 | .move _ | .assign _ | .pick .. | .extract .. | .field .. | .index .. | .indexAddr .. | .slice .. | .fieldAddr .. | .binOp .. | .unOp .. | .convert .. | .load .. | .build .. | .makeFunc .. | .nilCheck _ => true
 | .call { callee := .builtin .len, .. } | .call { callee := .builtin .min, .. } | .call { callee := .builtin .max, .. } => true
 | _ => false
def Vals (P : Program) (m : Sem Next) : Prop := ∀ w r w1, m.run P w = .ok r w1 → ∃ v, r = .value v
theorem Vals.v {m : Sem Value} : Vals P (do pure (.value (← m)) : Sem Next) := by
 intro w r w1 e
 rw [Sem.run_bind] at e
 obtain ⟨a, w0, e1, e2⟩ := andThen_ok e
 simp only [Sem.run_pure, Result.ok.injEq] at e2
 exact ⟨a, e2.1.symm⟩
theorem Vals.pure {v : Value} : Vals P (pure (.value v) : Sem Next) := by
 intro w r w1 e
 simp only [Sem.run_pure, Result.ok.injEq] at e
 exact ⟨v, e.1.symm⟩
theorem Vals.never {m : Sem Next} (h : Never m) : Vals P m := fun w r w1 e => absurd e (h P w r w1)
theorem Vals.bind {m : Sem α} {f : α → Sem Next} (h : ∀ a, Vals P (f a)) : Vals P (m >>= f) := by
 intro w r w1 e
 rw [Sem.run_bind] at e
 obtain ⟨a, w0, e1, e2⟩ := andThen_ok e
 exact h a _ _ _ e2
theorem vals_kind {o : Oper} (h : kindV o.op = true) (ev : Operand → Value) : Vals P (execOp ev o) := by
 obtain ⟨dst, op, ty, pos, aft, grd⟩ := o
 cases op with
 | move x => exact Vals.pure
 | assign x => exact Vals.pure
 | pick c a b => exact Vals.bind fun _ => Vals.pure
 | nilCheck x =>
  simp only [execOp]
  split
  ·exact Vals.never (Never.runtimePanic _)
  ·exact Vals.never (Never.runtimePanic _)
  ·exact Vals.never (Never.runtimePanic _)
  ·split
   ·exact Vals.never (Never.runtimePanic _)
   ·refine Vals.bind fun p => Vals.bind fun b => ?_
    split
    ·exact Vals.bind fun _ => Vals.pure
    ·exact Vals.pure
   ·exact Vals.pure
  ·exact Vals.pure
 | call c =>
  obtain ⟨callee, args, tys⟩ := c
  cases callee with
  | builtin b =>
   cases b with
   | len => exact Vals.v (m := Builtin.len_ tys ty (args.map ev))
   | min => exact Vals.v (m := Builtin.min_ tys ty (args.map ev))
   | max => exact Vals.v (m := Builtin.max_ tys ty (args.map ev))
   | _ => simp [kindV] at h
  | _ => simp [kindV] at h
 | _ => first | exact Vals.v | simp [kindV] at h
section
variable {P : Program} {F : Fix} {ops : Array Oper}
abbrev QN (F : Fix) (Q : St → Prop) : Exit → Act → World → Prop := fun e a' w' => ∃ σ', e = .normal ∧ Q σ' ∧ Rel F σ' a' w'
def WpA (P : Program) (F : Fix) (ops : Array Oper) (Q : St → Prop) (fuel : Nat) (listed : Array Bool) (σ : St) : Prop :=
 ∀ a w, Rel F σ a w → wpAny P .any ops (QN F Q) fuel listed a w
def WpS (P : Program) (F : Fix) (ops : Array Oper) (Q : St → Prop) (l : List Oper) (σ : St) : Prop :=
 ∀ a w, Rel F σ a w → wpStill P ops w (fun a' => ∃ σ', Q σ' ∧ Rel F σ' a' w) l a
theorem noLets {Q : St → Prop} : ¬ LetsOut (QN F Q) := by
 rintro ⟨a, w, σ', h, _⟩
 cases h
theorem Rel.drew {a : Act} (h : Rel F σ a w) : Rel F σ a { w with drawn := w.drawn + 1 } := by
 obtain ⟨E, rfl, hH, hS, hP⟩ := h
 have c : Chg F E { E.w with drawn := E.w.drawn + 1 } := ⟨rfl, rfl, rfl, Nat.le_refl _, fun b _ h => absurd rfl h⟩
 exact ⟨{ E with w := { E.w with drawn := E.w.drawn + 1 } }, rfl, hH.chg c, hS.keep (Sub.chg hH c _) (fun _ h => h), hP.sub (Sub.chg hH c _) fun _ h => h⟩
variable {id n : Nat}
theorem A.begin {Q : Exit → St → Prop} {l : Array Bool} (hm : P.follows .mixedOrders = true) (hn : ops.size = n) (hl : Array.replicate ops.size false = l)
  (h : ∀ W : Nat → Array Bool → St → Prop, (∀ f l σ, WpA P F ops (Q .normal) f l σ → W f l σ) → (∀ f l σ, W f l σ → WpA P F ops (Q .normal) f l σ) → W n l σ) : WpC P F (.region id ops true) Q σ := by
 subst hn; subst hl
 replace h := h (WpA P F ops (Q .normal)) (fun _ _ _ h => h) (fun _ _ _ h => h)
 intro a w hr
 refine wp_mono (wp_region_any hm (h a _ hr.drew)) fun e a' w' => ?_
 rintro ⟨σ', rfl, h1, h2⟩
 exact ⟨σ', h1, h2⟩
theorem wpOp_turn {Q Q' : Exit → Act → World → Prop} {K K' : Act → World → Prop} {a : Act} (hp : ∀ c a w, Q (.panic c) a w → Q' (.panic c) a w) (hl : LetsOut Q → LetsOut Q') (hk : ∀ a w, K a w → K' a w) (h : wpOp P ops Q i K a w) : wpOp P ops Q' i K' a w := by
 unfold wpOp at *
 split
 ·exact hk _ _ (by simpa [*] using h)
 ·rename_i o ho
  simp only [ho] at h
  split
  ·rename_i hw
   simp only [hw, if_true] at h
   refine h.imp ?_ (fun h => ⟨h.1, hl h.2⟩)
   intro hh
   unfold Oper.wp at *
   generalize (execOp a.eval o).run P w = r at *
   cases r with
   | ok n w' =>
    cases n <;> simp only [Oper.upon] at hh ⊢ <;>
     first
      | exact hk _ _ hh
      | exact Calls.mono hh (fun e w'' he => by cases e <;> first | exact hk _ _ he | exact hp _ _ _ he | exact hl he)
      | exact Rows.mono hh (fun _ _ he => hk _ _ he)
   | halt x w' => cases x <;> simp only [Oper.upon] at hh ⊢ <;> first | exact hh | exact hp _ _ _ hh
  ·rename_i hw
   simp only [hw] at h
   exact hk _ _ h
theorem once {o : Oper} {H : Heap} {σ1 : St} (ho : ops[i]? = some o) (hv : kindV o.op = true) (hL : ∀ Q0 : St → Prop, Q0 σ1 → WpL P F ops Q0 [o] ⟨sl, H⟩) {a : Act} (hrel : Rel F ⟨sl, H⟩ a w) :
  (Region.wanted o (yielded ops a.tmps) = true ∧ ∃ v w', (execOp a.eval o).run P w = .ok (.value v) w' ∧ Rel F σ1 (a.put o.dst v) w') ∨ (Region.wanted o (yielded ops a.tmps) = false ∧ Rel F σ1 (a.put o.dst undef) w) := by
 have := hL (fun σ' => σ' = σ1) rfl [i] (by simp [ho]) a w hrel
 simp only [wpOps, ho] at this
 split at this
 ·rename_i hw
  left
  refine ⟨hw, ?_⟩
  rcases this with h | ⟨_, h⟩
  ·unfold Oper.wp at h
   cases hrun : (execOp a.eval o).run P w with
   | ok r w' =>
    obtain ⟨v, rfl⟩ := vals_kind (P := P) hv a.eval w r w' hrun
    rw [hrun, Oper.upon_value] at h
    obtain ⟨σ', _, rfl, h2⟩ := h
    exact ⟨v, w', rfl, h2⟩
   | halt x w' =>
    rw [hrun] at h
    cases x <;> simp only [Oper.upon] at h
    obtain ⟨_, h, _⟩ := h
    cases h
  ·exact (noLets h).elim
 ·rename_i hw
  right
  obtain ⟨σ', _, rfl, h2⟩ := this
  exact ⟨by simpa using hw, h2⟩
variable {listed : Array Bool}
theorem A.take {Q : St → Prop} {fuel : Nat} {H : Heap} {σ1 : St} {o : Oper} (i : Nat) (ho : ops[i]? = some o) (hs : Region.noSelect ops = true) (hf : Region.free .any ops listed i = true) (hr : (Region.ready .any ops listed).contains i = true)
  (hv : kindV o.op = true) (hc : CalmAt P F sl H o) (hL : ∀ Q0 : St → Prop, Q0 σ1 → WpL P F ops Q0 [o] ⟨sl, H⟩) (k : WpA P F ops Q fuel (listed.setIfInBounds i true) σ1) : WpA P F ops Q (fuel + 1) listed ⟨sl, H⟩ := by
 intro a w hrel
 have key : ∃ v, Yields P ops o v a ∧ Rel F σ1 (a.put o.dst v) w := by
  rcases once ho hv hL hrel with ⟨h1, v, w', h2, h3⟩ | ⟨h1, h2⟩
  ·obtain ⟨E, rfl, hH, hS, hP⟩ := hrel
   obtain ⟨rfl, h4⟩ := hc E a.eval hH (fun x s hx => opnd_ok hS hx) _ _ _ h2
   exact ⟨v, .inl ⟨h1, h4⟩, h3⟩
  ·exact ⟨undef, .inr ⟨h1, rfl⟩, h2⟩
 obtain ⟨v, hy, hr1⟩ := key
 refine wpAny_take ho hs hf hr (fun c a w h => ?_) hy (k _ _ hr1)
 obtain ⟨_, h, _⟩ := h
 cases h
theorem A.off {Q : St → Prop} {fuel : Nat} {H : Heap} {o : Oper} {N : Nat} (i : Nat) (ho : ops[i]? = some o) (hs : Region.noSelect ops = true) (hf : Region.free .any ops listed i = true) (hr : (Region.ready .any ops listed).contains i = true)
  (hv : kindV o.op = true) (hn : F.n = N) (hg : guardOf ops sl o = some false) (hd : dstB N o.dst = true) (k : WpA P F ops Q fuel (listed.setIfInBounds i true) ⟨setD sl o.dst (some (.tup [])), H⟩) : WpA P F ops Q (fuel + 1) listed ⟨sl, H⟩ := by
 intro a w hrel
 have hw : Region.wanted o (yielded ops a.tmps) = false := by
  obtain ⟨E, rfl, hH, hS, hP⟩ := hrel
  exact guard_ok hS hg
 rcases once (P := P) ho hv (fun Q0 k0 => L.off hn hg hd (L.nil k0)) hrel with ⟨h1, _⟩ | ⟨h1, h2⟩
 ·rw [hw] at h1; cases h1
 refine wpAny_take ho hs hf hr (fun c a w h => ?_) (.inr ⟨h1, rfl⟩) (k _ _ h2)
 obtain ⟨_, h, _⟩ := h
 cases h
theorem A.le {Q : St → Prop} {fuel : Nat} (h : Le F σ τ) (k : WpA P F ops Q fuel listed τ) : WpA P F ops Q fuel listed σ := fun a w hr => k a w (h a w hr)
theorem S.begin {Q : Exit → St → Prop} (hm : P.follows .mixedOrders = true) (hB : Region.lexB .any ops = true) (h : WpS P F ops (Q .normal) ops.toList σ) : WpC P F (.region id ops true) Q σ := by
 intro a w hr
 refine wp_mono (Q := QN F (Q .normal)) (wp_region_still hm hB ?_) fun e a' w' => ?_
 ·have := h a _ hr.drew
  have mono : ∀ (l : List Oper) (a : Act), wpStill P ops { w with drawn := w.drawn + 1 } (fun a' => ∃ σ', Q .normal σ' ∧ Rel F σ' a' { w with drawn := w.drawn + 1 }) l a → wpStill P ops { w with drawn := w.drawn + 1 } (fun a' => QN F (Q .normal) .normal a' { w with drawn := w.drawn + 1 }) l a := by
   intro l
   induction l with
   | nil => intro a h; obtain ⟨σ', h1, h2⟩ := h; exact ⟨σ', rfl, h1, h2⟩
   | cons o l ih =>
    intro a h
    unfold wpStill at h ⊢
    split at h
    ·rename_i hw
     rw [if_pos hw]
     unfold Oper.still at h ⊢
     generalize (execOp a.eval o).run P { w with drawn := w.drawn + 1 } = r at h ⊢
     cases r with
     | ok n w' =>
      cases n <;> simp only [Oper.stillUpon] at h ⊢ <;> first
       | exact ⟨h.1, ih _ h.2⟩
       | (obtain ⟨h1, v, h2, h3⟩ := h; exact ⟨h1, v, h2, ih _ h3⟩)
     | halt x w' => simp only [Oper.stillUpon] at h
    ·rename_i hw
     rw [if_neg hw]
     exact ih _ h
  exact mono _ _ this
 ·rintro ⟨σ', rfl, h1, h2⟩
  exact ⟨σ', h1, h2⟩
theorem S.nil {Q : St → Prop} (h : Q σ) : WpS P F ops Q [] σ := fun a w hr => ⟨σ, h, hr⟩
variable {rest : List Oper}
theorem S.st {Q : St → Prop} {H : Heap} {σ1 : St} {o : Oper} (i : Nat) (ho : ops[i]? = some o) (hv : kindV o.op = true) (hc : QuietAt P F sl H o) (hL : ∀ Q0 : St → Prop, Q0 σ1 → WpL P F ops Q0 [o] ⟨sl, H⟩) (k : WpS P F ops Q rest σ1) : WpS P F ops Q (o :: rest) ⟨sl, H⟩ := by
 intro a w hrel
 unfold wpStill
 rcases once ho hv hL hrel with ⟨h1, v, w', h2, h3⟩ | ⟨h1, h2⟩
 ·rw [if_pos h1]
  obtain ⟨E, rfl, hH, hS, hP⟩ := hrel
  obtain rfl := hc E a.eval hH (fun x s hx => opnd_ok hS hx) _ _ _ h2
  unfold Oper.still
  rw [h2, Oper.stillUpon_value]
  exact k _ _ h3
 ·rw [if_neg (by simp [h1])]
  exact k _ _ h2
theorem S.off {Q : St → Prop} {H : Heap} {o : Oper} {N : Nat} (i : Nat) (ho : ops[i]? = some o) (hv : kindV o.op = true) (hn : F.n = N) (hg : guardOf ops sl o = some false) (hd : dstB N o.dst = true) (k : WpS P F ops Q rest ⟨setD sl o.dst (some (.tup [])), H⟩) : WpS P F ops Q (o :: rest) ⟨sl, H⟩ := by
 intro a w hrel
 unfold wpStill
 have hw : Region.wanted o (yielded ops a.tmps) = false := by
  obtain ⟨E, rfl, hH, hS, hP⟩ := hrel
  exact guard_ok hS hg
 rcases once (P := P) ho hv (fun Q0 k0 => L.off hn hg hd (L.nil k0)) hrel with ⟨h1, _⟩ | ⟨h1, h2⟩
 ·rw [hw] at h1; cases h1
 ·rw [if_neg (by simp [h1])]
  exact k _ _ h2
theorem S.le {Q : St → Prop} (h : Le F σ τ) (k : WpS P F ops Q l τ) : WpS P F ops Q l σ := fun a w hr => k a w (h a w hr)
theorem S.split {Q : St → Prop} {d : Option Nat} {H : Heap} {c : Bool} (h1 : c = true → WpS P F ops Q l ⟨setD sl d (some (im (.bool true))), H⟩) (h0 : c = false → WpS P F ops Q l ⟨setD sl d (some (im (.bool false))), H⟩) :
  WpS P F ops Q l ⟨setD sl d (some (im (.bool c))), H⟩ := by
 cases c with
 | true => exact h1 rfl
 | false => exact h0 rfl
end
def nlTo : Cell → Cell → Cell
 | .nil, .ow sz [] => .ow sz []
 | .nil, _ => .sl true []
 | c, _ => c
section
variable {F : Fix}
end
section
variable {P : Program} {F : Fix} {ops : Array Oper} {Q : St → Prop} {N : Nat}
variable {dst : Option Nat} {ty : TypeId} {pos : String} {aft : Array Edge} {grd : Option (Nat × Bool)} {rest : List Oper} {sl : Nat → Option Slot} {H : Heap}
def partV (P : Program) (fd : Field) (xs : List Value) : Option Value :=
 match shape P fd.type with
 | some (ag, n) => let us := (xs.drop fd.offset).take n
  if ag then (if us.length = n then some (.agg us.toArray) else none) else match us with | [v] => some v | _ => none
 | none => none
def eqFs (f : TypeId → Value → Value → Option Bool) (P : Program) : List Field → List Value → List Value → Option Bool
 | [], _, _ => some true
 | fd :: fs, xs, ys => if fd.name = "_" then none else
  match partV P fd xs, partV P fd ys with
  | some a, some b => match f fd.type a b, eqFs f P fs xs ys with
   | some r, some r' => some (r && r')
   | _, _ => none
  | _, _ => none
def eqIn (P : Program) : Nat → TypeId → Value → Value → Option Bool
 | 0, _, _, _ => none
 | d + 1, t, a, b => match P.underlying t, a, b with
  | some (.int _), .int k x, .int k' y => if k = k' then some (x == y) else none
  | some .bool, .bool x, .bool y => some (x == y)
  | some .string, .string x, .string y => some (x.toList == y.toList)
  | some (.struct fs), .agg xs, .agg ys => if P.stoodInHeld t then none else eqFs (eqIn P d) P fs.toList xs.toList ys.toList
  | _, _, _ => none
variable {fd : Field}
theorem partV_ok {xs : Array Value} {v : Value} (h : partV P fd xs.toList = some v) (w : World) : (part fd.type xs fd.offset).run P w = .ok v w := by
 unfold partV at h
 split at h
 ·rename_i ag n hs
  obtain ⟨d, i, h1, h2, h3, h4⟩ := shape_some hs
  have hag : (isAgg fd.type).run P w = .ok ag w := by rw [run_isAgg h1, h2]
  have hsz : (sizeOf fd.type).run P w = .ok n w := by simp [sizeOf, typeInfo, h3, h4]
  dsimp only at h
  cases ag with
  | true =>
   simp only [if_true] at h
   split at h
   ·rename_i hl
    cases h
    have e : xs.extract fd.offset (fd.offset + n) = ((xs.toList.drop fd.offset).take n).toArray := by
     apply Array.ext'
     simp
    simp [part, hag, hsz, e]
   ·cases h
  | false =>
   simp only [Bool.false_eq_true, if_false] at h
   split at h
   ·rename_i v' hv
    cases h
    have : xs[fd.offset]? = some v := by
     have h0 : ((xs.toList.drop fd.offset).take n)[0]? = some v := by rw [hv]; rfl
     rw [List.getElem?_take] at h0
     split at h0
     ·rw [List.getElem?_drop] at h0
      simpa using h0
     ·cases h0
    simp [part, hag, this]
   ·cases h
 ·cases h
theorem eqFs_ok {d : Nat} (f : TypeId → Value → Value → Option Bool) (hf : ∀ t a b r, f t a b = some r → ∀ w, (Op.equalIn d t a b).run P w = .ok r w) : ∀ {fs : List Field} {xs ys : Array Value} {r : Bool}, eqFs f P fs xs.toList ys.toList = some r → ∀ w, (Op.eqFields d xs ys fs).run P w = .ok r w
 | [], xs, ys, r, h, w => by
  simp only [eqFs, Option.some.injEq] at h
  subst h
  simp [Op.eqFields]
 | fd :: fs, xs, ys, r, h, w => by
  unfold eqFs at h
  split at h
  ·cases h
  ·rename_i hn
   split at h
   ·rename_i a b ha hb
    split at h
    ·rename_i r1 r2 h1 h2
     cases h
     have e1 := partV_ok ha w
     have e2 := partV_ok hb w
     have e3 := hf _ _ _ _ h1 w
     have e4 := eqFs_ok f hf h2 w
     unfold Op.eqFields
     rw [if_pos hn]
     simp only [Sem.run_bind, e1, e2, e3, Result.andThen_ok]
     cases r1 with
     | false => simp
     | true => simp [e4]
    ·cases h
   ·cases h
theorem eqIn_ok : ∀ (d : Nat) (t : TypeId) (a b : Value) (r : Bool), eqIn P d t a b = some r → ∀ w, (Op.equalIn d t a b).run P w = .ok r w
 | 0, _, _, _, _, h, _ => by cases h
 | d + 1, t, a, b, r, h, w => by
  unfold eqIn at h
  split at h
  ·rename_i hu
   split at h
   ·rename_i hk
    subst hk
    cases h
    exact run_equalIn_int w d t _ _ _ _ hu
   ·cases h
  ·rename_i hu
   cases h
   exact run_equalIn_bool' w d t _ _ hu
  ·rename_i hu
   cases h
   exact run_equalIn_string w d t _ _ hu
  ·rename_i fs xs ys hu
   split at h
   ·cases h
   ·rename_i hst
    have hst : P.stoodInHeld t = false := by simpa using hst
    have hfo : P.fieldsOf t = fs := by unfold Program.fieldsOf; rw [hu]
    rw [run_equalIn_agg w d t xs ys (by rw [hfo]; exact hu) hst, hfo]
    exact eqFs_ok (eqIn P d) (fun t a b r h w => eqIn_ok d t a b r h w) h w
  ·cases h
variable {x : Operand} {ev : Operand → Value}
theorem agg_vals (hρ : RhoOk H E (opnd sl) ev) {cs : List Cell} (hx : opnd sl x = some (.v (.agg cs))) (hu : cellVals cs = some us) : ev x = .agg us.toArray := by
 obtain ⟨⟨vs, h1, h2⟩, _⟩ := hρ x _ hx
 rw [h1, RCs.vals h2 hu]
variable {y : Operand} {xt yt : TypeId}
theorem L.eqA {cs ds : List Cell} {vs : List Value} {r : Bool} (hn : F.n = N) (hg : guardOf ops sl ⟨dst, .binOp .eql xt x y yt, ty, pos, aft, grd⟩ = some true) (hd : dstB N dst = true)
  (hx : opnd sl x = some (.v (.agg cs))) (hy : opnd sl y = some (.v (.agg ds))) (hu : cellVals cs = some us) (hv : cellVals ds = some vs) (hm : P.eqGuardType P.depth xt = false) (hr : eqIn P 10000 xt (.agg us.toArray) (.agg vs.toArray) = some r)
  (k : WpL P F ops Q rest ⟨setD sl dst (some (im (.bool r))), H⟩) : WpL P F ops Q (⟨dst, .binOp .eql xt x y yt, ty, pos, aft, grd⟩ :: rest) ⟨sl, H⟩ := by
 refine L.val hn hg hd rfl (fun E ev hρ => ?_) k
 have e := eqIn_ok _ _ _ _ _ hr E.w
 have e0 := run_eqGuard_agg (P := P) E.w .eql xt x y us.toArray vs.toArray hm
 have e1 := run_eql_struct (P := P) E.w xt us.toArray vs.toArray
 rw [e] at e1
 simp [execOp, agg_vals hρ hx hu, agg_vals hρ hy hv, e0, e1]
theorem Ca.eqA {cs ds : List Cell} {vs : List Value} {r : Bool} (hx : opnd sl x = some (.v (.agg cs))) (hy : opnd sl y = some (.v (.agg ds))) (hu : cellVals cs = some us) (hv : cellVals ds = some vs) (hm : P.eqGuardType P.depth xt = false) (hr : eqIn P 10000 xt (.agg us.toArray) (.agg vs.toArray) = some r) :
  CalmAt P F sl H ⟨dst, .binOp .eql xt x y yt, ty, pos, aft, grd⟩ := fun E ev _ hρ => by
 refine Calm.ofRun (r := .value (.bool r)) fun w => ?_
 have e := eqIn_ok _ _ _ _ _ hr w
 have e0 := run_eqGuard_agg (P := P) w .eql xt x y us.toArray vs.toArray hm
 have e1 := run_eql_struct (P := P) w xt us.toArray vs.toArray
 rw [e] at e1
 simp [execOp, agg_vals hρ hx hu, agg_vals hρ hy hv, e0, e1]
end
theorem RXCs.focus : ∀ {cs : List Cell} {us : List Value} {bs : List Nat} (p : Nat) {c : Cell}, RXCs E cs us bs → cs[p]? = some c →
  ∃ u b1 b2 b3, us[p]? = some u ∧ bs = b1 ++ (b2 ++ b3) ∧ RXC E c u b2 ∧ ∀ c' b', RXC E c' u b' → RXCs E (cs.set p c') us (b1 ++ b' ++ b3)
 | [], _, _, p, c, _, hc => by simp at hc
 | d :: cs, _, _, 0, c, h, hc => by
  simp only [RXCs] at h
  obtain ⟨u, us', b, bs', rfl, rfl, h1, h2⟩ := h
  simp at hc; subst hc
  refine ⟨u, [], b, bs', rfl, rfl, h1, fun c' b' h' => ?_⟩
  simp only [List.set_cons_zero, List.nil_append, RXCs]
  exact ⟨u, us', b', bs', rfl, rfl, h', h2⟩
 | d :: cs, _, _, p + 1, c, h, hc => by
  simp only [RXCs] at h
  obtain ⟨u, us', b, bs', rfl, rfl, h1, h2⟩ := h
  obtain ⟨v, b1, b2, b3, g1, rfl, g3, g4⟩ := RXCs.focus p h2 (by simpa using hc)
  refine ⟨v, b ++ b1, b2, b3, by simpa using g1, by simp, g3, fun c' b' h' => ?_⟩
  simp only [List.set_cons_succ, RXCs]
  exact ⟨u, us', b, _, rfl, by simp, h1, g4 c' b' h'⟩
variable {sz : Nat}
theorem RXRow.focus {b : Nat} : ∀ {es : List (List Cell)} {o : Nat} {bs : List Nat} (i p : Nat) {e : List Cell} {c : Cell}, RXRow E b o sz es bs → es[i]? = some e → e[p]? = some c →
  ∃ u us b1 b2 b3, us[p]? = some u ∧ E.w.rangeAt b (o + i * sz) us ∧ bs = b1 ++ (b2 ++ b3) ∧ RXC E c u b2 ∧ (∃ be, RXCs E e us be) ∧ ∀ c' b', RXC E c' u b' → RXRow E b o sz (es.set i (e.set p c')) (b1 ++ b' ++ b3)
 | [], _, _, i, p, e, c, _, he, _ => by simp at he
 | d :: es, o, _, 0, p, e, c, h, he, hc => by
  simp only [RXRow] at h
  obtain ⟨us, b1, b2, rfl, h1, h2, h3, h4⟩ := h
  simp at he; subst he
  obtain ⟨u, c1, c2, c3, g1, rfl, g3, g4⟩ := RXCs.focus p h2 hc
  refine ⟨u, us, c1, c2, c3 ++ b2, g1, by simpa using h3, by simp, g3, ⟨_, h2⟩, fun c' b' h' => ?_⟩
  simp only [List.set_cons_zero, RXRow]
  exact ⟨us, _, b2, by simp, by simpa using h1, g4 c' b' h', h3, h4⟩
 | d :: es, o, _, i + 1, p, e, c, h, he, hc => by
  simp only [RXRow] at h
  obtain ⟨us, b1, b2, rfl, h1, h2, h3, h4⟩ := h
  obtain ⟨u, us', c1, c2, c3, g1, g2, rfl, g3, g5, g4⟩ := RXRow.focus i p h4 (by simpa using he) hc
  refine ⟨u, us', b1 ++ c1, c2, c3, g1, by rw [show o + (i + 1) * sz = o + sz + i * sz by rw [Nat.add_mul]; omega]; exact g2, by simp, g3, g5, fun c' b' h' => ?_⟩
  simp only [List.set_cons_succ, RXRow]
  exact ⟨us, b1, _, by simp, h1, h2, h3, g4 c' b' h'⟩
def Heap.nestC (H : Heap) (n : Nat) : Cell → Option (Heap × Cell)
 | .own k => (H.rows k).map fun r => ({ H with rows := upd H.rows k none }, .ow r.sz r.es)
 | .nil => some (H, .ow n [])
 | .ow .. | .bx .. => none
 | c => if c.names.isEmpty && c.clean then some (H, c) else none
def Heap.nestCs (H : Heap) (n : Nat) : List Cell → Option (Heap × List Cell)
 | [] => some (H, [])
 | c :: cs => match H.nestC n c with
  | some (H1, c') => match H1.nestCs n cs with
   | some (H2, cs') => some (H2, c' :: cs')
   | none => none
  | none => none
def Heap.nestAll (H : Heap) (n : Nat) : List (List Cell) → Option (Heap × List (List Cell))
 | [] => some (H, [])
 | e :: es => match H.nestCs n e with
  | some (H1, e') => match H1.nestAll n es with
   | some (H2, es') => some (H2, e' :: es')
   | none => none
  | none => none
section
variable {P : Program} {F : Fix} {H : Heap} {E : Env} {ρ : Rho} {ev : Operand → Value} {Q : Option Slot → Heap → Prop}
variable {u : Value} {c' : Cell} {n : Nat} {H' : Heap}
theorem nest_one {c : Cell} (hH : RelH F H E) (h : H.nestC n c = some (H', c')) (hc : RC E c u) :
  ∃ E' bs, Gave F H E H' E' bs ∧ RXC E' c' u bs ∧ c'.names = [] ∧ c'.clean = true := by
 have plain : ∀ {c : Cell}, c.isOw = false → RC E c u → (if c.names.isEmpty && c.clean then some (H, c) else none) = some (H', c') → ∃ E' bs, Gave F H E H' E' bs ∧ RXC E' c' u bs ∧ c'.names = [] ∧ c'.clean = true := by
  intro c ho hc h
  split at h
  ·rename_i he; cases h
   simp only [Bool.and_eq_true, List.isEmpty_iff] at he
   exact ⟨E, [], Gave.refl hH, RXC.of hc ho, he.1, he.2⟩
  ·cases h
 cases c with
 | own k =>
  simp only [Heap.nestC, Option.map_eq_some_iff] at h
  obtain ⟨r, hr, h⟩ := h
  cases h
  obtain ⟨_, _, hd, h3, _, h5⟩ := hH.rows k r hr
  simp only [RC] at hc
  obtain ⟨bs, g1, g2⟩ := give_row' hH hr r.es.length (Nat.le_refl _) (fun hd' h' => by
   rw [h3] at h'; cases h'
   have hu := hc.2 hd h3
   rcases h5 with ⟨h6, _⟩ | ⟨g, cap, _, h6, _⟩
   ·exact .inl ⟨h6, hu⟩
   ·exact .inr ⟨g, _, cap, h6, by rw [hu, h6]⟩)
  exact ⟨_, bs, g1, by simpa using g2 (E.gone k) rfl (fun _ _ h => h), rfl, rfl⟩
 | nil =>
  simp only [Heap.nestC, Option.some.injEq, Prod.mk.injEq] at h
  obtain ⟨rfl, rfl⟩ := h
  simp only [RC] at hc
  refine ⟨E, [], Gave.refl hH, ?_, rfl, rfl⟩
  simp only [RXC]
  exact ⟨by simp, Flat.nil, .inl ⟨hc, trivial, trivial⟩⟩
 | ow sz es => simp [Heap.nestC] at h
 | bx cs => simp [Heap.nestC] at h
 | _ => exact plain rfl hc h
theorem nest_cells : ∀ {cs cs' : List Cell} {H H' : Heap} {E : Env} {us : List Value} (_ : RelH F H E) (_ : H.nestCs n cs = some (H', cs')) (_ : RCs E cs us) (_ : ∀ j ∈ cnames cs, H.used j = true),
  ∃ E' bs, Gave F H E H' E' bs ∧ RXCs E' cs' us bs ∧ cnames cs' = [] ∧ cclean cs' = true ∧ cs'.length = cs.length
 | [], cs', H, H', E, us, hH, h, hr, hn => by
  simp [Heap.nestCs] at h
  obtain ⟨rfl, rfl⟩ := h
  simp only [RCs] at hr
  exact ⟨E, [], Gave.refl hH, by simp [RXCs, hr], rfl, rfl, rfl⟩
 | c :: cs, cs', H, H', E, us, hH, h, hr, hn => by
  simp only [RCs] at hr
  obtain ⟨u, us', rfl, h1, h2⟩ := hr
  simp only [cnames, List.mem_append] at hn
  unfold Heap.nestCs at h
  split at h
  ·rename_i H1 c1 hc
   split at h
   ·rename_i H2 cs2 hcs
    cases h
    obtain ⟨E1, b1, g1, g2, g3, g4⟩ := nest_one hH hc h1
    obtain ⟨E2, b2, k1, k2, k3, k4, k5⟩ := nest_cells g1.rel hcs (h2.sub g1.sub (fun j hj => hn j (.inr hj))) (fun j hj => by rw [← g1.used]; exact hn j (.inr hj))
    refine ⟨E2, b1 ++ b2, g1.trans k1, ?_, by simp [cnames, g3, k3], by simp [cclean, g4, k4], by simp [k5]⟩
    simp only [RXCs]
    exact ⟨u, us', b1, b2, rfl, rfl, RXC.sub k1.sub (fun _ _ => by rw [k1.w]) (fun k hk => by rw [g3] at hk; cases hk) g2, k2⟩
   ·cases h
  ·cases h
variable {bs : List Nat} {E' : Env}
theorem Gave.free (hH : RelH F H E) (g : Gave F H E H' E' bs) : ∀ b ∈ bs, (∀ c, ¬ E'.S c b) ∧ (∀ j, ¬ Own E' j b) ∧ b < E'.w.heap.size ∧ (F.w0.heap.size ≤ b ∨ F.T b) := fun b hb => by
 obtain ⟨k, hk⟩ := g.was b hb
 have := hH.own k b hk
 exact ⟨fun c hc => this.1 c (by rw [← g.S]; exact hc), g.gone b hb, by rw [g.w]; exact this.2.1, this.2.2⟩
theorem nest_all : ∀ {es es' : List (List Cell)} {H H' : Heap} {E : Env} {us : List Value} (_ : RelH F H E) (_ : H.nestAll n es = some (H', es')) (_ : RCs E es.flatten us) (_ : ∀ k ∈ cnames es.flatten, H.used k = true),
  ∃ E' bs, Gave F H E H' E' bs ∧ RXCs E' es'.flatten us bs ∧ Flat es' ∧ es'.map List.length = es.map List.length
 | [], es', H, H', E, us, hH, h, hr, hn => by
  simp [Heap.nestAll] at h
  obtain ⟨rfl, rfl⟩ := h
  simp only [List.flatten_nil, RCs] at hr
  exact ⟨E, [], Gave.refl hH, by simp [RXCs, hr], Flat.nil, rfl⟩
 | e :: es, es', H, H', E, us, hH, h, hr, hn => by
  rw [List.flatten_cons] at hr hn
  rw [cnames_append] at hn
  have h1 : RCs E e (us.take e.length) := by have := hr.take e.length; simpa using this
  have h2 : RCs E es.flatten (us.drop e.length) := by have := hr.drop e.length; simpa using this
  unfold Heap.nestAll at h
  split at h
  ·rename_i H1 e1 hc
   split at h
   ·rename_i H2 es2 hcs
    cases h
    obtain ⟨E1, b1, g1, g2, g3, g4, g5⟩ := nest_cells hH hc h1 (fun k hk => hn k (List.mem_append.2 (.inl hk)))
    obtain ⟨E2, b2, k1, k2, k3, k4⟩ := nest_all g1.rel hcs (h2.sub g1.sub (fun k hk => hn k (List.mem_append.2 (.inr hk)))) (fun k hk => by rw [← g1.used]; exact hn k (List.mem_append.2 (.inr hk)))
    refine ⟨E2, b1 ++ b2, g1.trans k1, ?_, ⟨by simp [rclean, g4, k3.1], by simp [rnames, g3, k3.2]⟩, by simp [g5, k4]⟩
    rw [List.flatten_cons]
    have := (RXCs.sub k1.sub (fun _ _ => by rw [k1.w]) (fun k hk => by rw [g3] at hk; cases hk) g2).append k2
    rwa [List.take_append_drop] at this
   ·cases h
  ·cases h
variable {r : Row} {cs' : List Cell} {j : Nat} {y : Operand} {t : TypeId}
theorem done_store_epN (hH : RelH F H E) (hρ : RhoOk H E ρ ev) {o : Oper} {z : Operand} (ho : o.op = .store t y z) (hy : ρ y = some (.v (.one (.ep k i j)))) {x : V} (hz : ρ z = some (.v x))
  (hsh : H.nestCs n x.cells = some (H', cs')) (hk : H'.rows k = some r) {e : List Cell} (he : r.es[i]? = some e)
  {ag : Bool} (hs : shape P t = some (ag, x.cells.length)) (hl : j + cs'.length ≤ e.length) (hq : Q none { H' with rows := upd H'.rows k (some { r with es := r.es.set i (splice e j cs') }) }) : Done P F H E (execOp ev o) Q := by
 have hv0 := (hρ y _ hy).1
 obtain ⟨hx, hn⟩ := hρ z _ hz
 obtain ⟨vs, hrx, hvs⟩ := RV.cells hx
 obtain ⟨E1, bs, g1, g2, g3, g4, g5⟩ := nest_cells hH hsh hrx hn
 have hv : RC E1 (.ep k i j) (ev y) := RC.sub g1.sub (fun c hc => (hρ y _ hy).2 c (by simpa [Slot.names, V.names, V.cells, cnames] using hc)) hv0
 obtain ⟨E2, b0, b1, b2⟩ := store_row (P := P) g1.rel hk he hv g2 ⟨g3, g4⟩ g1.nodup (g1.free hH) (by rw [g5]; exact hs) hl hvs
 refine ⟨.skip, E2, none, _, ?_, hq, b1, g1.sub.trans (sub_used g1.used b2), fun c hc => by have := g1.used c; rw [hc] at this; exact this.symm, rfl⟩
 rw [← g1.w]
 simp [execOp, ho, b0]
variable {es : List (List Cell)} {z : Value} {ti : TypeInfo} {el : TypeId} {parts : Array (Nat × Operand)}
theorem done_buildSliceN (hH : RelH F H E) (hρ : RhoOk H E ρ ev) {o : Oper} {len : Nat} (ho : o.op = .buildSlice t len parts) (ht : P.underlying t = some (.slice el)) (hti : P.info? el = some ti)
(hz : ti.zero = some z) (h0 : 0 < ti.size) (hbig : len * ti.size ≤ 16777216) {vs : List (Nat × V)} (hp : partsV ρ parts.toList = some vs) (hd : parts.toList.map (·.1) = List.range len) (hl : ∀ p ∈ vs, p.2.cells.length = ti.size)
(hsh : H.nestAll n (vs.map fun p => p.2.cells) = some (H', es)) (hk : H.used k = false)
  (hq : Q (some (.v (.one (.own k)))) { H' with rows := upd H'.rows k (some ⟨ti.size, es⟩), made := upd H'.made k true }) : Done P F H E (execOp ev o) Q :=
 done_buildSlice' hH hρ ho ht hti hz h0 hbig hp hd hl (fun us hr hn => by
  obtain ⟨E1, bs, g1, g2, g3, g4⟩ := nest_all hH hsh hr hn
  exact ⟨E1, bs, g1.w, g1.rel, g1.sub, g2, g3, g1.used, g4, g1.nodup, g1.free hH⟩) hk hq
theorem RelH.tellRow {p g m cap : Nat} (hH : RelH F H E) (hr : H.rows k = some r) {e : List Cell} (he : r.es[i]? = some e) (hd : E.hdr k = some (.slice (some ⟨g, 0, none⟩) m cap)) (hth : E.w.there g 0 (cap * r.sz)) (hx : RXRow E g 0 r.sz (r.es.set i (e.set p c')) bs)
  (hc : c'.clean = true ∧ c'.names = []) (hnd : (g :: bs).Nodup) (hbs : ∀ b ∈ bs, b ∈ E.ob k ∨ ((∀ c, ¬ E.S c b) ∧ (∀ j, ¬ Own E j b) ∧ b < E.w.heap.size ∧ (F.w0.heap.size ≤ b ∨ F.T b))) :
  RelH F { H with rows := upd H.rows k (some ⟨r.sz, r.es.set i (e.set p c')⟩) } { E with ob := upd E.ob k (g :: bs) } ∧ Sub E { E with ob := upd E.ob k (g :: bs) } (fun k => H.used k = true) := by
 obtain ⟨h1, h2, _⟩ := hH.rows k r hr
 have hel : (e.set p c').length = r.sz := by rw [List.length_set]; exact h1 e (List.mem_of_getElem? he)
 exact hH.setRow (r' := ⟨r.sz, r.es.set i (e.set p c')⟩) hr hd (w' := E.w) ⟨rfl, rfl, rfl, rfl, fun _ _ => rfl⟩ (by simp) rfl (fun x hx => by
  rcases List.mem_or_eq_of_mem_set hx with h | h
  ·exact h1 x h
  ·rw [h]; exact hel) (Flat.iff.2 fun x hx => by
  rcases List.mem_or_eq_of_mem_set hx with h | h
  ·exact Flat.iff.1 h2 x h
  ·rw [h]
   have he2 := Flat.iff.1 h2 e (List.mem_of_getElem? he)
   refine ⟨cclean_iff.2 fun c hcm => ?_, cnames_iff.2 fun c hcm => ?_⟩
   ·rcases List.mem_or_eq_of_mem_set hcm with h | h
    ·exact cclean_iff.1 he2.1 c h
    ·rw [h]; exact hc.1
   ·rcases List.mem_or_eq_of_mem_set hcm with h | h
    ·exact cnames_iff.1 he2.2 c h
    ·rw [h]; exact hc.2) hth hx hnd hbs
def Heap.outRow (H : Heap) (k i p q : Nat) (r : Row) (e : List Cell) (u : Value) (r2 : Row) : Heap :=
 { H with rows := upd (upd H.rows k (some ⟨r.sz, r.es.set i (e.set p (.raw u))⟩)) q (some r2), made := upd H.made q true, hv := upd H.hv q (some u) }
variable {es2 : List (List Cell)} {q sz2 : Nat}
theorem RelH.takeOut {p : Nat} (hH : RelH F H E) (hr : H.rows k = some r) {e : List Cell} (he : r.es[i]? = some e) (hp : e[p]? = some (.ow sz2 es2)) (hq : H.used q = false) :
  ∃ u us E' g cap, E.hdr k = some (.slice (some ⟨g, 0, none⟩) r.es.length cap) ∧ E.w.rangeAt g (i * r.sz) us ∧ us[p]? = some u ∧ (∃ be, RXCs E e us be) ∧ E'.w = E.w ∧ RelH F (H.outRow k i p q r e u ⟨sz2, es2⟩) E' ∧ Sub E E' (fun k => H.used k = true) ∧ RC E' (.own q) u := by
 obtain ⟨h1, h2, hd, h3, h4, h5⟩ := hH.rows k r hr
 have hk : H.used k = true := hH.usedR k (by rw [hr]; simp)
 have hkq : k ≠ q := fun e => by subst e; rw [hq] at hk; cases hk
 rcases h5 with ⟨h6, h7, _⟩ | ⟨g, cap, bs0, h6, h7, h8, h9, h10⟩
 ·rw [h7] at he; simp at he
 ·obtain ⟨u, us, b1, b2, b3, f1, f2, f3, f4, f5, f6⟩ := h9.focus i p he hp
  have hone := f4.one
  have hnd := hH.nodup k
  rw [h10, f3] at hnd
  have hsl : (g :: (b1 ++ b3)).Sublist (g :: (b1 ++ (b2 ++ b3))) := List.Sublist.cons_cons g (List.Sublist.append (List.Sublist.refl _) (List.sublist_append_right _ _))
  have hx := f6 (.raw u) [] ((RXC.iff rfl).2 ⟨by simp only [RC]; exact ⟨trivial, hone⟩, rfl⟩)
  rw [List.append_nil] at hx
  obtain ⟨d1, d2⟩ := hH.tellRow hr he (by rw [h3, h6]) h8 hx ⟨rfl, rfl⟩ (hnd.sublist hsl) (fun b hb => .inl (by
   rw [h10, f3]; simp only [List.mem_cons, List.mem_append] at hb ⊢; rcases hb with hb | hb
   ·exact .inr (.inl hb)
   ·exact .inr (.inr (.inr hb))))
  have hb2 : ∀ b ∈ b2, b ∈ E.ob k := fun b hb => by rw [h10, f3]; simp [hb]
  have hn2 : b2.Nodup := by
   have := (List.nodup_cons.1 hnd).2
   exact (List.nodup_append.1 (List.nodup_append.1 this).2.1).1
  have hdis : ∀ b ∈ b2, b ∉ g :: (b1 ++ b3) := fun b hb h => by
   have h0 := List.nodup_cons.1 hnd
   have h00 := List.nodup_append.1 h0.2
   have h01 := List.nodup_append.1 h00.2.1
   simp only [List.mem_cons, List.mem_append] at h
   rcases h with h | h | h
   ·subst h; exact h0.1 (by simp [hb])
   ·exact h00.2.2 b h b (by simp [hb]) rfl
   ·exact h01.2.2 b hb b h rfl
  simp only [RXC] at f4
  obtain ⟨k1, k2, k3⟩ := f4
  have hin : RowIn { E with ob := upd E.ob k (g :: (b1 ++ b3)) } u ⟨sz2, es2⟩ b2 := by
   rcases k3 with ⟨k4, k5, k6⟩ | ⟨g', cap', bs', k4, k5, k6, k7, k8⟩
   ·exact .inl ⟨k4, k5, k6⟩
   ·exact .inr ⟨g', cap', bs', k4, k5, k6, RXRow.sub (E := E) (E' := { E with ob := upd E.ob k (g :: (b1 ++ b3)) }) (N := fun _ => True) ⟨fun _ _ h => h, fun _ _ _ => rfl, fun _ _ => rfl, fun _ _ _ h => h, fun _ _ _ _ => rfl⟩ rfl (fun _ _ => rfl) (fun _ _ => trivial) k7, k8⟩
  have hu1 : Heap.used { H with rows := upd H.rows k (some ⟨r.sz, r.es.set i (e.set p (.raw u))⟩) } q = false := hq
  obtain ⟨c1, c2⟩ := d1.addRow (k := q) (r := ⟨sz2, es2⟩) (hd := u) (bs := b2) hu1 k1 k2 hin hn2 (fun b hb => by
   have ho := hH.own k b (.inl (hb2 b hb))
   refine ⟨ho.1, fun j hj => ?_, ho.2⟩
   rcases Own.set (w' := E.w) hj with ⟨_, h⟩ | h
   ·exact hdis b hb h
   ·have := hH.uniq j k b h (.inl (hb2 b hb))
    subst this
    rcases hj with hj | hj
    ·simp only [upd_same] at hj; exact hdis b hb hj
    ·rcases hH.both j with e1 | e1
     ·rw [hr] at e1; cases e1
     ·simp only at hj; rw [hj] at e1; cases e1)
  refine ⟨u, us, _, g, cap, by rw [h3, h6], by simpa using f2, f1, f5, ?_, ⟨c1.rows, c1.boxes, c1.hdr0, c1.blk0, c1.both, c1.uniq, c1.own, c1.S, c1.SS, c1.Ssub, c1.Ssup, c1.pt, c1.fr, c1.usedR, c1.usedB, c1.nodup, c1.lens, fun j v hv => ?_⟩, d2.trans c2, ?_⟩
  ·rfl
  ·by_cases e : j = q
   ·subst e
    have hv : upd H.hv j (some u) j = some v := hv
    rw [upd_same] at hv; cases hv
    exact ⟨by simp [Heap.used, Heap.outRow, upd_same], by simp [Env.rowAt, upd_same]⟩
   ·have hv : upd H.hv q (some u) j = some v := hv
    rw [upd_other _ _ e] at hv
    exact c1.hv j v hv
  ·simp only [RC, Env.rowAt, upd_same]
   exact ⟨hone, fun h hh => by cases hh; rfl⟩
theorem done_take_ep (hH : RelH F H E) (hρ : RhoOk H E ρ ev) {o : Oper} (ho : o.op = .load t y) {p : Nat} (hy : ρ y = some (.v (.one (.ep k i j)))) (hr : H.rows k = some r) {e : List Cell} (he : r.es[i]? = some e)
(hp : e[p]? = some (.ow sz2 es2)) (hq0 : H.used q = false) {ag : Bool} (hs : shape P t = some (ag, n)) (hl : j + n ≤ e.length) {x : V} (hx : mkV ag (((e.set p (.own q)).drop j).take n) = some x) (hno : noOw (e.set p (.own q)) = true)
  (hq : ∀ u, Q (some (.v x)) (H.outRow k i p q r e u ⟨sz2, es2⟩)) : Done P F H E (execOp ev o) Q := by
 have hv := (hρ y _ hy).1
 obtain ⟨u, us, E', g, cap, a1, a2, a3, ⟨be, a4⟩, a5, a6, a7, a8⟩ := hH.takeOut hr he hp hq0
 obtain ⟨h1, h2, hd, h3, h4, h5⟩ := hH.rows k r hr
 simp only [RSlot, RV, RC] at hv
 obtain ⟨g', len, cap', hg, hlt, hu⟩ := hv.2 _ a1
 cases hg
 have hnm : ∀ c ∈ cnames e, H.used c = true := fun c hc => by
  have := rnames_get h2.2 he
  rw [this] at hc; cases hc
 -- the element's cells, as they are called now
 have hcells : RCs E' (e.set p (.own q)) us := by
  obtain ⟨v, b1, b2, b3, c1, c2, c3, c4⟩ := a4.focus p hp
  rw [a3] at c1; cases c1
  have a4' := RXCs.sub a7 (fun _ _ => by rw [a5]) hnm a4
  obtain ⟨v, b1', b2', b3', c1', c2', c3', c4'⟩ := a4'.focus p hp
  rw [a3] at c1'; cases c1'
  exact (RXCs.plain hno (c4' (.own q) [] (RXC.of a8 rfl))).1
 have hlen := hcells.length
 rw [List.length_set] at hlen
 obtain ⟨v, hm, hR⟩ := load_ok (P := P) (E := E') hs ((hcells.drop j).take n) (b := g) (o := i * r.sz + j) (by
  have := range_part a2 j n
  rw [a5]; exact this) (by simp; omega) hx
 refine ⟨.value v, E', some (.v x), _, ?_, hq u, a6, a7, fun c hc => ?_, v, rfl, hR, fun c hc => ?_⟩
 ·rw [h4] at hu
  rw [← a5]
  simp [execOp, ho, hu, hm]
 ·by_cases e0 : c = q
  ·subst e0; simp [Heap.used, Heap.outRow, upd_same]
  ·simp only [Heap.used, Heap.outRow, upd_other _ _ e0]; exact hc
 ·have hcn : c ∈ cnames (((e.set p (.own q)).drop j).take n) := by
   cases ag with
   | true => simp [mkV] at hx; subst hx; exact hc
   | false =>
    generalize ((e.set p (.own q)).drop j).take n = ds at hx ⊢
    match ds, hx with
    | [d], hx => simp [mkV] at hx; subst hx; exact hc
  obtain ⟨d, hd', hcd⟩ := mem_cnames.1 hcn
  have hd2 := List.mem_of_mem_drop (List.mem_of_mem_take hd')
  rcases List.mem_or_eq_of_mem_set hd2 with h | h
  ·have := hnm c (mem_cnames.2 ⟨d, h, hcd⟩)
   by_cases e0 : c = q
   ·subst e0; simp [Heap.used, Heap.outRow, upd_same]
   ·simp only [Heap.used, Heap.outRow, upd_other _ _ e0]; exact this
  ·subst h
   simp [Cell.names] at hcd
   subst hcd; simp [Heap.used, Heap.outRow, upd_same]
theorem Le.putIn {H : Heap} (k i p q : Nat) {r2 : Row} {e : List Cell} (hr : H.rows k = some r) (he : r.es[i]? = some e) (hp : e[p]? = some (.raw u)) (h2 : H.rows q = some r2) (hv : H.hv q = some u) (hkq : (k == q) = false) :
  Le F ⟨sl, H⟩ ⟨sl, { H with rows := upd (upd H.rows q none) k (some ⟨r.sz, r.es.set i (e.set p (.ow r2.sz r2.es))⟩) }⟩ := by
 rintro a w ⟨E, rfl, hH, hS, hP⟩
 have hH : RelH F H E := hH
 have hkq : k ≠ q := by simpa using hkq
 obtain ⟨a1, a2, hd2, a3, a4, a5⟩ := hH.rows q r2 h2
 have hu := (hH.hv q u hv).2
 rw [a3] at hu; cases hu
 obtain ⟨d1, d2⟩ := hH.dropRow q
 have hr1 : Heap.rows { H with rows := upd H.rows q none } k = some r := by simp only [upd_other _ _ hkq]; exact hr
 obtain ⟨h1, h2', hd, h3, h4, h5⟩ := d1.rows k r hr1
 have hx : RXC (E.gone q) (.ow r2.sz r2.es) u (E.ob q) := by
  simp only [RXC]
  refine ⟨a1, a2, ?_⟩
  rcases a5 with ⟨k1, k2, k3⟩ | ⟨g', cap', bs', k1, k2, k3, k4, k5⟩
  ·exact .inl ⟨k1, k2, k3⟩
  ·exact .inr ⟨g', cap', bs', k1, k2, k3, RXRow.sub d2 rfl (fun _ _ => rfl) (fun k hk => by rw [a2.2] at hk; cases hk) k4, k5⟩
 have hobk : (E.gone q).ob k = E.ob k := upd_other _ _ hkq
 rcases h5 with ⟨h6, h7, _⟩ | ⟨g, cap, bs0, h6, h7, h8, h9, h10⟩
 ·rw [h7] at he; simp at he
 ·obtain ⟨u', us, b1, b2, b3, f1, f2, f3, f4, f5, f6⟩ := h9.focus i p he hp
  have f4 := (RXC.iff rfl).1 f4
  simp only [RC] at f4
  obtain ⟨⟨rfl, _⟩, rfl⟩ := f4
  rw [List.nil_append] at f3
  have hnd := hH.nodup k
  rw [hobk] at h10
  rw [h10, f3] at hnd
  have hdis : ∀ b ∈ E.ob q, b ∉ g :: (b1 ++ b3) := fun b hb h => hkq (hH.uniq k q b (.inl (by rw [h10, f3]; exact h)) (.inl hb))
  obtain ⟨c1, c2⟩ := d1.tellRow (k := k) (i := i) (p := p) hr1 he (c' := .ow r2.sz r2.es) (bs := b1 ++ E.ob q ++ b3) (by rw [h3, h6]) h8 (f6 _ _ hx) ⟨rfl, rfl⟩ (by
   obtain ⟨x1, x2⟩ := List.nodup_cons.1 hnd
   obtain ⟨y1, y2, y3⟩ := List.nodup_append.1 x2
   refine List.nodup_cons.2 ⟨fun h => ?_, List.nodup_append.2 ⟨List.nodup_append.2 ⟨y1, hH.nodup q, fun a ha b hb e => ?_⟩, y2, fun a ha b hb e => ?_⟩⟩
   ·simp only [List.mem_append] at h x1
    rcases h with (h | h) | h
    ·exact x1 (.inl h)
    ·exact hdis g h (by simp)
    ·exact x1 (.inr h)
   ·subst e; exact hdis a hb (by simp [ha])
   ·subst e
    rcases List.mem_append.1 ha with ha | ha
    ·exact y3 a ha a hb rfl
    ·exact hdis a ha (by simp [hb])) (fun b hb => by
   simp only [List.mem_append] at hb
   rcases hb with (hb | hb) | hb
   ·exact .inl (by rw [hobk, h10, f3]; simp [hb])
   ·exact .inr (hH.dropped (k := q) (g := b) h2 hb)
   ·exact .inl (by rw [hobk, h10, f3]; simp [hb]))
  have hs := d2.trans c2
  exact ⟨{ E.gone q with ob := upd (E.gone q).ob k (g :: (b1 ++ E.ob q ++ b3)) }, rfl, c1, ⟨hS.size, hS.defers, fun t s hs' => (hS.slots t s hs').sub hs (hS.used t s hs'), hS.used⟩, hP.sub hs fun _ h => h⟩
end
section
variable {P : Program} {F : Fix} {ops : Array Oper} {Q : St → Prop} {N : Nat}
variable {dst : Option Nat} {ty : TypeId} {pos : String} {aft : Array Edge} {grd : Option (Nat × Bool)} {rest : List Oper} {sl : Nat → Option Slot} {H : Heap}
variable {cs' : List Cell} {H' : Heap} {j n q : Nat} {y : Operand} {t : TypeId}
theorem L.storeEpN {xs : List α} {e : α → List Cell} {a a' : α} {z : Operand} {x : V} {ag : Bool} (m : Nat) (hs : shape P t = some (ag, n)) (hn : F.n = N)
  (hg : guardOf ops sl ⟨dst, .store t y z, ty, pos, aft, grd⟩ = some true) (hd : dstB N dst = true) (hy : opnd sl y = some (.v (.one (.ep q i j)))) (hz : opnd sl z = some (.v x)) (hx : x.cells.length = n) (hsh : H.nestCs m x.cells = some (H', cs'))
  (hb : H'.rows q = some ⟨sz, xs.map e⟩) (ha : xs[i]? = some a) (hl : Nat.ble (j + cs'.length) (e a).length = true) (he : splice (e a) j cs' = e a')
  (k : WpL P F ops Q rest ⟨setD sl dst none, (Heap.setRow H' q ⟨sz, (xs.set i a').map e⟩)⟩) : WpL P F ops Q (⟨dst, .store t y z, ty, pos, aft, grd⟩ :: rest) ⟨sl, H⟩ := by
 subst hx
 refine L.op hn hg hd fun _ _ hH hρ => done_store_epN hH hρ rfl hy hz hsh hb (by simp [ha]) hs (Nat.le_of_ble_eq_true hl) ?_
 simp only [he]
 rw [List.map_set] at k
 exact k
variable {es : List (List Cell)} {z : Value} {ti : TypeInfo} {el : TypeId} {parts : Array (Nat × Operand)}
theorem L.buildSliceN {e : α → List Cell} {len : Nat} {vs : List (Nat × V)} (m q : Nat) (xs : List α) (ht : P.underlying t = some (.slice el)) (hti : P.info? el = some ti)
  (hz : ti.zero = some z) (h0 : Nat.blt 0 ti.size = true) (hbig : Nat.ble (len * ti.size) 16777216 = true) (hn : F.n = N) (hg : guardOf ops sl ⟨dst, .buildSlice t len parts, ty, pos, aft, grd⟩ = some true) (hd : dstB N dst = true)
  (hp : partsV (opnd sl) parts.toList = some vs) (hr : parts.toList.map (·.1) = List.range len) (hl : allLen ti.size (vs.map fun p => p.2.cells) = true) (hsh : H.nestAll m (vs.map fun p => p.2.cells) = some (H', es)) (hq : H.used q = false) (hes : es = xs.map e)
  (k : WpL P F ops Q rest ⟨setD sl dst (some (.v (.one (.own q)))), (Heap.newRow H' q ⟨ti.size, xs.map e⟩)⟩) : WpL P F ops Q (⟨dst, .buildSlice t len parts, ty, pos, aft, grd⟩ :: rest) ⟨sl, H⟩ := by
 subst hes
 exact L.op hn hg hd fun _ _ hH hρ => done_buildSliceN hH hρ rfl ht hti hz (by simpa using h0) (Nat.le_of_ble_eq_true hbig) hp hr (fun p hp => allLen_ok hl _ (List.mem_map.2 ⟨p, hp, rfl⟩)) hsh hq k
variable {es1 es2 : List (List Cell)} {tx : TypeId} {x : Operand}
theorem L.appendN {xs ys : List α} {e : α → List Cell} {e' : TypeId} {c : Cell} {kx : Nat} {sx : Nat} (q : Nat) (ht : P.underlying t = some (.slice el)) (hti : P.info? el = some ti) (hz : ti.zero = some z) (hzs : z.cells.size = ti.size)
  (hn : F.n = N) (hg : guardOf ops sl ⟨dst, .call { callee := .builtin .append, args := #[y, x], argTypes := #[t, tx] }, ty, pos, aft, grd⟩ = some true) (hd : dstB N dst = true) (hy : opnd sl y = some (.v (.one c))) (hx : opnd sl x = some (.v (.one (.own kx))))
  (h2 : H.rows kx = some ⟨sx, es2⟩) (h1 : Heap.toGrow { H with rows := upd H.rows kx none } c = some (H1, es1)) (he1 : es1 = xs.map e) (he2 : es2 = ys.map e) (hsx : sx = ti.size) (hl1 : ∀ k r, c = .own k → H.rows k = some r → r.sz = ti.size) (hk2 : P.underlying tx = some (.slice e'))
  (hbig : (2 * (xs.length + ys.length) + 192) * ti.bytes ≤ 281474976710656) (hb0 : Nat.blt 0 ti.bytes = true) (hq : H.used q = false)
  (k : WpL P F ops Q rest ⟨setD sl dst (some (.v (.one (.own q)))), (Heap.newRow H1 q ⟨ti.size, (xs ++ ys).map e⟩)⟩) :
  WpL P F ops Q (⟨dst, .call { callee := .builtin .append, args := #[y, x], argTypes := #[t, tx] }, ty, pos, aft, grd⟩ :: rest) ⟨sl, H⟩ := by
 subst he1; subst he2
 rw [List.map_append] at k
 have hb : 0 < ti.bytes := by simpa using hb0
 refine L.op hn hg hd fun _ _ hH hρ => done_appendN hH hρ rfl ht hti hz hzs hy hx h2 h1 hl1 hsx hk2 (by simpa using hbig) ?_ hq k
 have : (2 * (xs.length + ys.length) + 192) * 1 ≤ (2 * (xs.length + ys.length) + 192) * ti.bytes := Nat.mul_le_mul_left _ (by omega)
 simp
 omega
def Heap.out (H : Heap) (k i p q : Nat) (xs : List α) (e : α → List Cell) (a : α) (sz : Nat) (u : Value) (r2 : Row) : Heap :=
 { H with rows := upd (upd H.rows k (some ⟨sz, (xs.map e).set i ((e a).set p (.raw u))⟩)) q (some r2), made := upd H.made q true, hv := upd H.hv q (some u) }
variable {sz2 : Nat}
theorem Rel.out {xs : List α} {e : α → List Cell} {a : α} (k i p q : Nat) (hb : H.rows k = some ⟨sz, xs.map e⟩) (ha : xs[i]? = some a) (hp : (e a)[p]? = some (.ow sz2 es2)) (hq : H.used q = false) {ac : Act} (h : Rel F ⟨sl, H⟩ ac w) :
  ∃ u, Rel F ⟨sl, H.out k i p q xs e a sz u ⟨sz2, es2⟩⟩ ac w := by
 obtain ⟨E, rfl, hH, hS, hP⟩ := h
 obtain ⟨u, us, E', g, cap, _, _, _, _, a5, a6, a7, _⟩ := RelH.takeOut (k := k) (i := i) (p := p) (q := q) hH hb (e := e a) (by simp [ha]) hp hq
 have hu : ∀ j, H.used j = true → Heap.used (H.out k i p q xs e a sz u ⟨sz2, es2⟩) j = true := fun j hj => by
  by_cases e0 : j = q
  ·subst e0; simp [Heap.used, Heap.out, upd_same]
  ·simp only [Heap.used, Heap.out, upd_other _ _ e0]; exact hj
 exact ⟨u, E', a5, a6, ⟨hS.size, hS.defers, fun t s hs => (hS.slots t s hs).sub a7 (hS.used t s hs), fun t s hs j hj => hu j (hS.used t s hs j hj)⟩, hP.sub a7 hu⟩
theorem L.out {xs : List α} {e : α → List Cell} {a : α} (k i p q : Nat) (hb : H.rows k = some ⟨sz, xs.map e⟩) (ha : xs[i]? = some a) (hp : (e a)[p]? = some (.ow sz2 es2)) (hq : H.used q = false)
  (h : ∀ u, WpL P F ops Q rest ⟨sl, H.out k i p q xs e a sz u ⟨sz2, es2⟩⟩) : WpL P F ops Q rest ⟨sl, H⟩ := fun idx hidx ac w hr => by
 obtain ⟨u, hu⟩ := Rel.out k i p q hb ha hp hq hr
 exact h u idx hidx ac w hu
theorem WpC.out {xs : List α} {e : α → List Cell} {a : α} {c : Code} {Q : Exit → St → Prop} (k i p q : Nat) (hb : H.rows k = some ⟨sz, xs.map e⟩) (ha : xs[i]? = some a) (hp : (e a)[p]? = some (.ow sz2 es2)) (hq : H.used q = false)
  (h : ∀ u, WpC P F c Q ⟨sl, H.out k i p q xs e a sz u ⟨sz2, es2⟩⟩) : WpC P F c Q ⟨sl, H⟩ := fun ac w hr => by
 obtain ⟨u, hu⟩ := Rel.out k i p q hb ha hp hq hr
 exact h u ac w hu
variable {u : Value}
theorem Le.back {xs : List α} {e : α → List Cell} {a a' : α} (k i p q : Nat) (hb : H.rows k = some ⟨sz, (xs.map e).set i ((e a).set p (.raw u))⟩) (ha : xs[i]? = some a) (hl : Nat.blt p (e a).length = true) (h2 : H.rows q = some ⟨sz2, es2⟩) (hv : H.hv q = some u) (hkq : (k == q) = false) (he : (e a).set p (.ow sz2 es2) = e a') :
  Le F ⟨sl, H⟩ ⟨sl, { H with rows := upd (upd H.rows q none) k (some ⟨sz, (xs.set i a').map e⟩) }⟩ := by
 have hi := (List.getElem?_eq_some_iff.1 ha).1
 have hl' : p < (e a).length := by simpa using hl
 have := Le.putIn (F := F) (sl := sl) k i p q (r := ⟨sz, (xs.map e).set i ((e a).set p (.raw u))⟩) hb (e := (e a).set p (.raw u)) (by simp [hi]) (List.getElem?_set_self hl') h2 hv hkq
 simp only [List.set_set, he] at this
 rw [List.map_set]
 exact this
variable {r : Row} {ev : Operand → Value} {ρ : Rho}
theorem done_load_epR {Q : Option Slot → Heap → Prop} (hH : RelH F H E) (hρ : RhoOk H E ρ ev) {o : Oper} (ho : o.op = .load t y) {p : Nat} (hy : ρ y = some (.v (.one (.ep k i j)))) (hk : H.rows k = some r) {e : List Cell} (he : r.es[i]? = some e)
(hp : e[p]? = some (.raw u)) (hv : H.hv q = some u) {ag : Bool} (hs : shape P t = some (ag, n)) (hl : j + n ≤ e.length) {x : V} (hx : mkV ag (((e.set p (.own q)).drop j).take n) = some x) (hno : noOw (((e.set p (.own q)).drop j).take n) = true) (hq : Q (some (.v x)) H) : Done P F H E (execOp ev o) Q := by
 have hv0 := (hρ y _ hy).1
 obtain ⟨h1, h2, hd, h3, h4, h5⟩ := hH.rows k r hk
 simp only [RSlot, RV, RC] at hv0
 obtain ⟨g, len, cap, hg, hlt, hu⟩ := hv0.2 hd h3
 obtain ⟨bs', hrow⟩ : ∃ bs', RXRow E g 0 r.sz r.es bs' := by
  rcases h5 with ⟨h6, _⟩ | ⟨g', cap', bs', h6, _, _, h9, _⟩
  ·rw [h6] at hg; cases hg
  ·rw [h6] at hg; cases hg; exact ⟨bs', h9⟩
 obtain ⟨hel, us, b1, hr, _, hat⟩ := hrow.get i e he
 obtain ⟨v, c1, c2, c3, f1, f2, f3, f4⟩ := hr.focus p hp
 have f3 := (RXC.iff rfl).1 f3
 simp only [RC] at f3
 obtain ⟨⟨rfl, hone⟩, rfl⟩ := f3
 have hown : RC E (.own q) v := by
  simp only [RC]
  exact ⟨hone, fun h hh => by rw [(hH.hv q v hv).2] at hh; cases hh; rfl⟩
 have hxs := f4 (.own q) [] (RXC.of hown rfl)
 obtain ⟨bp, hpart, _⟩ := hxs.part j n
 have hcells := (RXCs.plain hno hpart).1
 have hlen := hxs.length
 rw [List.length_set] at hlen
 obtain ⟨w, hm, hR⟩ := load_ok (P := P) hs hcells (b := g) (o := 0 + i * r.sz + j) (range_part hat j n) (by simp; omega) hx
 refine Done.same hH (u := w) ?_ hq hR (fun c hc => ?_)
 ·rw [h4] at hu
  simp only [Nat.zero_add] at hm
  simp [execOp, ho, hu, hm]
 ·have hcn : c ∈ cnames (((e.set p (.own q)).drop j).take n) := by
   cases ag with
   | true => simp [mkV] at hx; subst hx; exact hc
   | false =>
    generalize ((e.set p (.own q)).drop j).take n = ds at hx ⊢
    match ds, hx with
    | [d], hx => simp [mkV] at hx; subst hx; exact hc
  obtain ⟨d, hd', hcd⟩ := mem_cnames.1 hcn
  have hd2 := List.mem_of_mem_drop (List.mem_of_mem_take hd')
  rcases List.mem_or_eq_of_mem_set hd2 with h | h
  ·have : c ∈ cnames e := mem_cnames.2 ⟨d, h, hcd⟩
   rw [rnames_get h2.2 he] at this; cases this
  ·subst h
   simp [Cell.names] at hcd
   subst hcd; exact (hH.hv _ v hv).1
theorem L.loadEpR {xs : List α} {e : α → List Cell} {a : α} {ag : Bool} {x : V} (p q : Nat) (hs : shape P t = some (ag, n)) (hn : F.n = N) (hg : guardOf ops sl ⟨dst, .load t y, ty, pos, aft, grd⟩ = some true) (hd : dstB N dst = true)
  (hy : opnd sl y = some (.v (.one (.ep k i j)))) (hb : H.rows k = some ⟨sz, (xs.map e).set i ((e a).set p (.raw u))⟩) (ha : xs[i]? = some a) (hv : H.hv q = some u) (hl : Nat.ble (j + n) (e a).length = true) (hpl : Nat.blt p (e a).length = true) (hx : mkV ag ((((e a).set p (.own q)).drop j).take n) = some x) (hno : noOw ((((e a).set p (.own q)).drop j).take n) = true)
  (k : WpL P F ops Q rest ⟨setD sl dst (some (.v x)), H⟩) : WpL P F ops Q (⟨dst, .load t y, ty, pos, aft, grd⟩ :: rest) ⟨sl, H⟩ := by
 have hi := (List.getElem?_eq_some_iff.1 ha).1
 have hp : p < (e a).length := by simpa using hpl
 refine L.op hn hg hd fun _ _ hH hρ => done_load_epR hH hρ rfl hy hb (e := (e a).set p (.raw u)) (by simp [hi]) (List.getElem?_set_self hp) hv hs (by rw [List.length_set]; exact Nat.le_of_ble_eq_true hl) (by rw [List.set_set]; exact hx) (by rw [List.set_set]; exact hno) k
variable {kd : IntKind}
theorem L.idxRH {xs : List α} {e : α → List Cell} {a : α} {i0 : Nat} {e0 : List Cell} {i : Int} (ht : P.underlying t = some (.slice el)) (hti : P.info? el = some ti) (hn : F.n = N)
  (hg : guardOf ops sl ⟨dst, .indexAddr t x y, ty, pos, aft, grd⟩ = some true) (hd : dstB N dst = true) (hx : opnd sl x = some (.v (.one (.own q)))) (hy : opnd sl y = some (im (.int kd i))) (hc : H.rows q = some ⟨sz, (xs.map e).set i0 e0⟩)
  (ha : at? xs i = some a) (hel : (e a).length = ti.size) (hel0 : e0.length = ti.size)
  (k : WpL P F ops Q rest ⟨setD sl dst (some (.v (.one (.ep q i.toNat 0)))), H⟩) : WpL P F ops Q (⟨dst, .indexAddr t x y, ty, pos, aft, grd⟩ :: rest) ⟨sl, H⟩ := by
 obtain ⟨h0, hget⟩ := at?_get ha
 have hi : (i.toNat : Int) = i := Int.toNat_of_nonneg h0
 have hlt := (List.getElem?_eq_some_iff.1 hget).1
 have hex : ∃ e1, ((xs.map e).set i0 e0)[i.toNat]? = some e1 ∧ e1.length = ti.size := by
  by_cases h : i0 = i.toNat
  ·subst h; exact ⟨e0, List.getElem?_set_self (by simpa using hlt), hel0⟩
  ·exact ⟨e a, by rw [List.getElem?_set_ne h]; simp [hget], hel⟩
 obtain ⟨e1, h1, h2⟩ := hex
 refine L.op hn hg hd fun _ _ hH hρ => done_indexAddr hH hρ rfl ht hti hx (ik := kd) (i := i.toNat) hy (by simp [Slot.val?, V.val?, Cell.val?, hi]) (c' := .ep q i.toNat 0) (e := e1) (by simp [Heap.elemAt, hc, h1]) h2 k
end
inductive ReC : Cell → Cell → Prop
 | refl (c : Cell) : ReC c c
 | to (sz : Nat) (ss : List (List Cell)) (h : ∀ s ∈ ss, s.length = sz) : ReC (.sl true ss) (.ow sz ss)
 | of (sz : Nat) (ss : List (List Cell)) : ReC (.ow sz ss) (.sl true ss)
inductive ReCs : List Cell → List Cell → Prop
 | nil : ReCs [] []
 | cons {c c' : Cell} {cs cs' : List Cell} (h : ReC c c') (hs : ReCs cs cs') : ReCs (c :: cs) (c' :: cs')
variable {cs' : List Cell}
theorem ReCs.length {cs : List Cell} (h : ReCs cs cs') : cs'.length = cs.length := by
 induction h with
 | nil => rfl
 | cons _ _ ih => simp [ih]
variable {c' : Cell}
theorem ReC.names {c : Cell} (h : ReC c c') : c'.names = c.names := by
 cases h <;> rfl
theorem ReCs.names {cs : List Cell} (h : ReCs cs cs') : cnames cs' = cnames cs := by
 induction h with
 | nil => rfl
 | cons h _ ih => simp only [cnames, h.names, ih]
theorem Le.ss {H : Heap} {xs : List α} {e : α → List Cell} {a b : α} (k : Nat) (hb : H.rows k = some ⟨sz, (((xs.set i a).set i b)).map e⟩) : Le F ⟨sl, H⟩ ⟨sl, Heap.setRow H k ⟨sz, (xs.set i b).map e⟩⟩ := by
 have : Heap.setRow H k ⟨sz, (xs.set i b).map e⟩ = H := by
  rw [List.set_set] at hb
  have h : upd H.rows k (some ⟨sz, (xs.set i b).map e⟩) = H.rows := by
   funext j
   by_cases hj : j = k
   ·subst hj; rw [upd_same, hb]
   ·rw [upd_other _ _ hj]
  unfold Heap.setRow
  rw [h]
 rw [this]
 exact fun _ _ h => h
def alt : List (Bool × Option α) → Option α
 | [] => none
 | (c, o) :: l => cond c o (alt l)
def pickL : List (Nat × List (Bool × Option α)) → Nat → Option α
 | [], _ => none
 | (j, l) :: r, k => cond (Nat.beq k j) (alt l) (pickL r k)
abbrev Alts (α : Type) := List (Nat × List (Bool × Option α))
def mkStL (sl : Alts Slot) (rows : Alts Row) (boxes : Alts (List Cell)) (base : Nat) : St :=
 ⟨fun t => pickL sl t, fun k => pickL rows k, fun k => pickL boxes k, base, fun _ => false, fun _ => none, fun _ => none⟩
def mkStLH (sl : Alts Slot) (rows : Alts Row) (boxes : Alts (List Cell)) (base : Nat) (hvs : List (Nat × Value)) : St :=
 ⟨fun t => pickL sl t, fun k => pickL rows k, fun k => pickL boxes k, base, fun _ => false, fun _ => none, fun k => hvs.lookup k⟩
def KeysOk (R : Nat → α → Prop) : Alts α → Prop
 | [] => True
 | (k, l) :: r => (∀ s, alt l = some s → R k s) ∧ KeysOk R r
theorem KeysOk.get {R : Nat → α → Prop} : ∀ {l : Alts α}, KeysOk R l → ∀ k s, pickL l k = some s → R k s
 | [], _, k, s, h => by simp [pickL] at h
 | (j, l) :: r, hl, k, s, h => by
  simp only [pickL] at h
  cases e : Nat.beq k j with
  | true =>
   rw [e] at h
   rw [Nat.eq_of_beq_eq_true e]
   exact hl.1 s h
  | false => rw [e] at h; exact KeysOk.get hl.2 k s h
def piL (new : List (Nat × Nat)) (base : Nat) (k : Nat) : Option Nat := match new.lookup k with
 | some j => some j
 | none => cond (Nat.blt k base) (some k) none
def linB (m base : Nat) (new : List (Nat × Nat)) : Bool := nodupB (new.map (·.2)) && new.all (fun p => Nat.ble base p.2 && Nat.blt p.1 base && Nat.ble m p.1) && Nat.ble m base
def SlotR (π : Nat → Option Nat) (σ : St) (t : Nat) (s' : Slot) : Prop := ∃ s, renS π s' = some s ∧ σ.slots t = some s
def RowR (π : Nat → Option Nat) (σ : St) (k' : Nat) (r : Row) : Prop := ∃ k, π k' = some k ∧ σ.H.rows k = some r
def BoxR (π : Nat → Option Nat) (σ : St) (k' : Nat) (cs' : List Cell) : Prop := ∃ k cs, π k' = some k ∧ renCs π cs' = some cs ∧ σ.H.boxes k = some cs
variable {base : Nat} {boxes : Alts (List Cell)} {rows : Alts Row} {hs : List V}
theorem Le.linH {m : Nat} {sl : Alts Slot} {hvs : List (Nat × Value)} (new : List (Nat × Nat)) (hm : Pinned F m hs)
  (hn : (linB m base new && pinB (piL new base) hs && hs.all (fun x => cplain x.cells)) = true) (h1 : KeysOk (SlotR (piL new base) σ) sl) (h2 : KeysOk (RowR (piL new base) σ) rows) (h3 : KeysOk (BoxR (piL new base) σ) boxes) (h4 : HvOk (piL new base) σ hvs) : Le F σ (mkStLH sl rows boxes base hvs) := by
 simp only [linB, Bool.and_eq_true, List.all_eq_true] at hn
 obtain ⟨⟨⟨⟨hn1, hn2⟩, hn3⟩, hp1⟩, hp2⟩ := hn
 have hnew : ∀ {k j}, new.lookup k = some j → base ≤ j ∧ k < base ∧ m ≤ k := fun h => by
  have := hn2 _ (lookup_mem h)
  simp only [Bool.and_eq_true, Nat.blt_eq, Nat.ble_eq] at this
  exact ⟨this.1.1, this.1.2, this.2⟩
 have hpi : ∀ {k j}, piL new base k = some j → k < base ∧ ((new.lookup k = some j ∧ base ≤ j) ∨ (new.lookup k = none ∧ j = k)) := fun {k j} h => by
  unfold piL at h
  split at h
  ·rename_i e; cases h
   have := hnew e
   exact ⟨this.2.1, .inl ⟨e, this.1⟩⟩
  ·rename_i e
   cases hb : Nat.blt k base with
   | true => rw [hb] at h; cases h; exact ⟨by simpa using hb, .inr ⟨e, rfl⟩⟩
   | false => rw [hb] at h; cases h
 refine Weak.le hm ⟨fun t s' h => h1.get t s' h, fun k' r h => h2.get k' r h, fun k' cs' h => h3.get k' cs' h, fun k1 k2 k e1 e2 => ?_, fun k' k h => ?_, fun k hk => ?_, fun x hx => ?_, fun _ => rfl, fun k v hv => h4 (k, v) (lookup_mem hv)⟩
 ·obtain ⟨b1, c1⟩ := hpi e1
  obtain ⟨b2, c2⟩ := hpi e2
  rcases c1 with ⟨c1, d1⟩ | ⟨c1, rfl⟩ <;> rcases c2 with ⟨c2, d2⟩ | ⟨c2, d2⟩
  ·exact nodupB_inj hn1 _ _ _ c1 c2
  ·omega
  ·omega
  ·exact d2
 ·have := (hpi h).1
  simp [mkStLH, Heap.used, this]
 ·have hmb : m ≤ base := by simpa using hn3
  unfold piL
  split
  ·rename_i e; have := hnew e; omega
  ·rw [show Nat.blt k base = true by simp; omega]; rfl
 ·refine pinB_ok hp1 (fun x hx => ?_) x hx
  exact hp2 x hx
theorem Le.lin {m : Nat} {sl : Alts Slot} (new : List (Nat × Nat)) (hm : Pinned F m hs)
  (hn : (linB m base new && pinB (piL new base) hs && hs.all (fun x => cplain x.cells)) = true) (h1 : KeysOk (SlotR (piL new base) σ) sl) (h2 : KeysOk (RowR (piL new base) σ) rows) (h3 : KeysOk (BoxR (piL new base) σ) boxes) : Le F σ (mkStL sl rows boxes base) :=
 Le.linH (hvs := []) new hm hn h1 h2 h3 fun _ h => by cases h
theorem kz {R : Nat → α → Prop} : KeysOk R [] := trivial
theorem kn {R : Nat → α → Prop} {l : List (Bool × Option α)} {r : Alts α} (hr : KeysOk R r) (h : alt l = none := by exact rfl) : KeysOk R ((k, l) :: r) := ⟨fun s hs => by rw [h] at hs; (cases hs), hr⟩
def stayS (π : Nat → Option Nat) (s : Slot) : Bool := match s with
 | .v x => x.names.all (fun k => π k == some k) && cplain x.cells
 | .tup xs => xs.all fun x => x.names.all (fun k => π k == some k) && cplain x.cells
def stayL (f : α → Bool) : List (Bool × Option α) → Bool
 | [] => true
 | (_, none) :: l => stayL f l
 | (c, some s) :: l => (f s || !c) && stayL f l
theorem stayL_get {f : α → Bool} : ∀ {l : List (Bool × Option α)} {s : α}, stayL f l = true → alt l = some s → f s = true
 | [], s, _, h => by cases h
 | (c, none) :: l, s, hf, h => by
  simp only [alt] at h
  cases c with
  | true => cases h
  | false => exact stayL_get (by simpa only [stayL] using hf) h
 | (c, some x) :: l, s, hf, h => by
  simp only [alt] at h
  simp only [stayL, Bool.and_eq_true] at hf
  cases c with
  | true => cases h; simpa using hf.1
  | false => exact stayL_get hf.2 h
variable {π : Nat → Option Nat}
theorem renVs_same : ∀ {xs : List V}, (∀ x ∈ xs, (x.names.all (fun k => π k == some k) && cplain x.cells) = true) → renVs π xs = some xs
 | [], _ => rfl
 | x :: xs, h => by
  have h1 := h x (by simp)
  simp only [Bool.and_eq_true, List.all_eq_true, beq_iff_eq] at h1
  have h2 : renVs π xs = some xs := renVs_same (fun y hy => h y (List.mem_cons_of_mem _ hy))
  simp only [renVs, renV_same h1.2 h1.1, h2]
theorem stayS_ok {s : Slot} (h : stayS π s = true) : renS π s = some s := by
 cases s with
 | v x =>
  simp only [stayS, Bool.and_eq_true, List.all_eq_true, beq_iff_eq] at h
  simp only [renS, renV_same h.2 h.1, Option.map_some]
 | tup xs =>
  simp only [stayS, List.all_eq_true] at h
  simp only [renS, renVs_same h, Option.map_some]
def stayC (π : Nat → Option Nat) (cs : List Cell) : Bool := (cnames cs).all (fun k => π k == some k) && cplain cs
section
variable {π : Nat → Option Nat} {σ : St}
theorem su {t : Nat} {l : List (Bool × Option Slot)} {r : Alts Slot} (hr : KeysOk (SlotR π σ) r) (h : σ.slots t = alt l := by exact rfl) (hn : stayL (stayS π) l = true := by exact rfl) : KeysOk (SlotR π σ) ((t, l) :: r) :=
 ⟨fun s hs => ⟨s, stayS_ok (stayL_get hn hs), by rw [h, hs]⟩, hr⟩
variable {s0 : Slot}
theorem sa {t : Nat} {l : List (Bool × Option Slot)} {r : Alts Slot} {s1 : Slot} (hr : KeysOk (SlotR π σ) r) (h : alt l = some s0 := by exact rfl) (h1 : renS π s0 = some s1 := by exact rfl) (h2 : σ.slots t = some s1 := by exact rfl) : KeysOk (SlotR π σ) ((t, l) :: r) :=
 ⟨fun s hs => by rw [h] at hs; cases hs; exact ⟨s1, h1, h2⟩, hr⟩
theorem ru {t : Nat} {l : List (Bool × Option Row)} {r : Alts Row} (hr : KeysOk (RowR π σ) r) (h : σ.H.rows t = alt l := by exact rfl) (hn : π t = some t := by exact rfl) : KeysOk (RowR π σ) ((t, l) :: r) :=
 ⟨fun s hs => ⟨t, hn, by rw [h, hs]⟩, hr⟩
theorem ra {t : Nat} {l : List (Bool × Option Row)} {r : Alts Row} {s0 : Row} (hr : KeysOk (RowR π σ) r) (h : alt l = some s0 := by exact rfl) (h1 : π t = some k := by exact rfl) (h2 : σ.H.rows k = some s0 := by exact rfl) : KeysOk (RowR π σ) ((t, l) :: r) :=
 ⟨fun s hs => by rw [h] at hs; cases hs; exact ⟨k, h1, h2⟩, hr⟩
theorem bu {t : Nat} {l : List (Bool × Option (List Cell))} {r : Alts (List Cell)} (hr : KeysOk (BoxR π σ) r) (h : σ.H.boxes t = alt l := by exact rfl) (hn : (π t == some t && stayL (stayC π) l) = true := by exact rfl) : KeysOk (BoxR π σ) ((t, l) :: r) := by
 simp only [Bool.and_eq_true, beq_iff_eq] at hn
 refine ⟨fun s hs => ⟨t, s, hn.1, ?_, by rw [h, hs]⟩, hr⟩
 have := stayL_get hn.2 hs
 simp only [stayC, Bool.and_eq_true, List.all_eq_true, beq_iff_eq] at this
 exact renCs_same this.2 this.1
theorem ba {t : Nat} {l : List (Bool × Option (List Cell))} {r : Alts (List Cell)} {s0 s1 : List Cell} (hr : KeysOk (BoxR π σ) r) (h : alt l = some s0 := by exact rfl) (h1 : π t = some k := by exact rfl) (h2 : renCs π s0 = some s1 := by exact rfl) (h3 : σ.H.boxes k = some s1 := by exact rfl) : KeysOk (BoxR π σ) ((t, l) :: r) :=
 ⟨fun s hs => by rw [h] at hs; cases hs; exact ⟨k, s1, h1, h2, h3⟩, hr⟩
end
def memN (k : Nat) : List Nat → Bool
 | [] => false
 | j :: l => cond (Nat.beq k j) true (memN k l)
def mk0 (u d : List Nat) (i : Nat) (b : Nat → Bool) (k : Nat) : Bool := cond (Nat.beq k i) false (cond (memN k u) true (cond (memN k d) false (b k)))
def mk1 (u d : List Nat) (i : Nat) (b : Nat → Bool) (k : Nat) : Bool := cond (Nat.beq k i) true (cond (memN k u) true (cond (memN k d) false (b k)))
theorem memN_iff : ∀ {l : List Nat}, memN k l = true ↔ k ∈ l
 | [] => by simp [memN]
 | j :: l => by
  simp only [memN, List.mem_cons]
  cases e : Nat.beq k j with
  | true => simp [Nat.eq_of_beq_eq_true e]
  | false =>
   have : k ≠ j := fun h => by rw [h, Nat.beq_refl] at e; cases e
   simp [this, memN_iff]
def depsOf (o : Oper) : List Nat := (o.after.toList.filter fun e => Region.binds .any e).map (·.on)
def depsAt (ops : Array Oper) (i : Nat) : List Nat := ((ops[i]?).map depsOf).getD []
def upAt (ud : List (List Nat × List Nat)) (i : Nat) : List Nat := ((ud[i]?).map (·.1)).getD []
def linOk (ops : Array Oper) (ud : List (List Nat × List Nat)) : Bool := Nat.beq ud.length ops.size && (List.range ops.size).all fun i =>
 (depsAt ops i).all (fun j => Nat.blt j i) && (upAt ud i).all (fun j => memN j (depsAt ops i) || (depsAt ops i).any fun e => memN j (upAt ud e)) && (((ud[i]?).map (·.2)).getD []).all fun k => Nat.blt k ops.size && memN i (upAt ud k)
section
variable {P : Program} {F : Fix} {ops : Array Oper}
def Lins (P : Program) (F : Fix) (ops : Array Oper) (st : (Nat → Bool) → St) : Nat → List (List Nat × List Nat) → Prop
 | _, [] => True
 | i, (u, d) :: l => (∃ o, ops[i]? = some o ∧ ∀ b, WpL P F ops (fun τ => Le F τ (st (mk1 u d i b))) [o] (st (mk0 u d i b))) ∧ Lins P F ops st (i + 1) l
theorem Lins.get {st : (Nat → Bool) → St} : ∀ {l : List (List Nat × List Nat)} {i : Nat}, Lins P F ops st i l → ∀ j u d, l[j]? = some (u, d) → ∃ o, ops[i + j]? = some o ∧ ∀ b, WpL P F ops (fun τ => Le F τ (st (mk1 u d (i + j) b))) [o] (st (mk0 u d (i + j) b))
 | [], i, _, j, u, d, h => by simp at h
 | (u', d') :: l, i, hl, 0, u, d, h => by
  simp at h; obtain ⟨rfl, rfl⟩ := h
  exact hl.1
 | (u', d') :: l, i, hl, j + 1, u, d, h => by
  have := Lins.get hl.2 j u d (by simpa using h)
  rw [show i + 1 + j = i + (j + 1) by omega] at this
  exact this
def lst (listed : Array Bool) (k : Nat) : Bool := listed.getD k true
def Closed (ops : Array Oper) (b : Nat → Bool) : Prop := ∀ k, k < ops.size → b k = true → ∀ e ∈ depsAt ops k, b e = true
variable {listed : Array Bool}
theorem lst_set (h : i < listed.size) (k : Nat) : lst (listed.setIfInBounds i true) k = if k = i then true else lst listed k := by
 unfold lst
 simp only [Array.getD_eq_getD_getElem?, Array.getElem?_setIfInBounds]
 by_cases e : i = k
 ·subst e; simp [h]
 ·rw [if_neg e, if_neg (fun h => e h.symm)]
theorem ready_iff : i ∈ Region.ready .any ops listed ↔ i < ops.size ∧ lst listed i = false ∧ ∀ e ∈ depsAt ops i, listed.getD e false = true := by
 unfold Region.ready
 simp only [List.mem_filter, List.mem_range, Bool.and_eq_true, Bool.not_eq_true']
 constructor
 ·rintro ⟨h1, h2, h3⟩
  refine ⟨h1, h2, fun e he => ?_⟩
  have ho : ops[i]? = some ops[i] := Array.getElem?_eq_getElem h1
  rw [ho] at h3
  simp only [depsAt, ho, Option.map_some, Option.getD_some, depsOf, List.mem_map, List.mem_filter] at he
  obtain ⟨x, ⟨hx, hb⟩, rfl⟩ := he
  simp only [Option.map_some, Option.getD_some, Array.all_eq_true_iff_forall_mem] at h3
  have := h3 x (by simpa using hx)
  rw [hb] at this
  simpa using this
 ·rintro ⟨h1, h2, h3⟩
  refine ⟨h1, h2, ?_⟩
  have ho : ops[i]? = some ops[i] := Array.getElem?_eq_getElem h1
  rw [ho]
  simp only [Option.map_some, Option.getD_some, Array.all_eq_true_iff_forall_mem]
  intro x hx
  cases hb : Region.binds .any x with
  | false => rfl
  | true =>
   have := h3 x.on (by
    simp only [depsAt, ho, Option.map_some, Option.getD_some, depsOf, List.mem_map, List.mem_filter]
    exact ⟨x, ⟨by simpa using hx, hb⟩, rfl⟩)
   simpa using this
structure LinFacts (ops : Array Oper) (ud : List (List Nat × List Nat)) : Prop where
 len : ud.length = ops.size
 lt : ∀ i, i < ops.size → ∀ j ∈ depsAt ops i, j < i
 up : ∀ i, i < ops.size → ∀ j ∈ upAt ud i, j ∈ depsAt ops i ∨ ∃ e ∈ depsAt ops i, j ∈ upAt ud e
 down : ∀ i u d, ud[i]? = some (u, d) → ∀ k ∈ d, k < ops.size ∧ i ∈ upAt ud k
theorem linOk_facts {ud : List (List Nat × List Nat)} (h : linOk ops ud = true) : LinFacts ops ud := by
 unfold linOk at h
 simp only [Bool.and_eq_true, List.all_eq_true, List.mem_range, Bool.or_eq_true, List.any_eq_true, memN_iff, Nat.blt_eq] at h
 obtain ⟨h1, h2⟩ := h
 refine ⟨Nat.eq_of_beq_eq_true h1, fun i hi => (h2 i hi).1.1, fun i hi => (h2 i hi).1.2, fun i u d hg => ?_⟩
 have hi : i < ops.size := by rw [← Nat.eq_of_beq_eq_true h1]; exact (List.getElem?_eq_some_iff.1 hg).1
 have := (h2 i hi).2
 rw [hg] at this
 simpa using this
theorem closed_up {ud : List (List Nat × List Nat)} (f : LinFacts ops ud) {b : Nat → Bool} (hb : Closed ops b) : ∀ i, i < ops.size → (∀ e ∈ depsAt ops i, b e = true) → ∀ j ∈ upAt ud i, b j = true := by
 intro i
 induction i using Nat.strongRecOn with
 | _ i ih =>
  intro hi hd j hj
  rcases f.up i hi j hj with h | ⟨e, he, h⟩
  ·exact hd j h
  ·have hlt := f.lt i hi e he
   exact ih e hlt (by omega) (hb e (by omega) (hd e he)) j h
theorem count_set (h : i < listed.size) (hf : lst listed i = false) : (listed.setIfInBounds i true).toList.count false + 1 = listed.toList.count false := by
 have h1 : listed.toList[i]'(by simpa using h) = false := by
  unfold lst at hf
  simp only [Array.getD_eq_getD_getElem?, Array.getElem?_eq_getElem h, Option.getD_some] at hf
  simpa using hf
 rw [Array.toList_setIfInBounds]
 have hl : i < listed.toList.length := by simpa using h
 rw [List.count_set hl, h1]
 have : 0 < listed.toList.count false := List.count_pos_iff.2 (by rw [← h1]; exact List.getElem_mem hl)
 have e : (true == false) = false := rfl
 simp only [beq_self_eq_true, if_true, e, Bool.false_eq_true, if_false]
 omega
theorem A.lin_go {Q : St → Prop} {st : (Nat → Bool) → St} {ud : List (List Nat × List Nat)} (f : LinFacts ops ud) (hL : Lins P F ops st 0 ud) (hd : ∃ τ, Le F (st fun _ => true) τ ∧ Q τ) :
  ∀ (fuel : Nat) (listed : Array Bool), listed.size = ops.size → Closed ops (lst listed) → listed.toList.count false ≤ fuel → WpA P F ops Q fuel listed (st (lst listed)) := by
 intro fuel
 have all : ∀ (listed : Array Bool), listed.size = ops.size → Region.ready .any ops listed = [] → lst listed = fun _ => true := by
  intro listed hsz hr
  funext k
  by_cases hk : k < ops.size
  ·induction k using Nat.strongRecOn with
   | _ k ih =>
    cases e : lst listed k with
    | true => rfl
    | false =>
     exfalso
     have : k ∈ Region.ready .any ops listed := ready_iff.2 ⟨hk, e, fun j hj => by
      have hlt := f.lt k hk j hj
      have h1 := ih j hlt (by omega)
      unfold lst at h1
      have hj2 : j < listed.size := by omega
      simpa only [Array.getD_eq_getD_getElem?, Array.getElem?_eq_getElem hj2, Option.getD_some] using h1⟩
     rw [hr] at this; cases this
  ·unfold lst
   rw [Array.getD_eq_getD_getElem?, Array.getElem?_eq_none (by omega)]; rfl
 have done : ∀ (listed : Array Bool), listed.size = ops.size → Region.ready .any ops listed = [] → ∀ a w, Rel F (st (lst listed)) a w → QN F Q .normal a w := by
  intro listed hsz hr a w hrel
  rw [all listed hsz hr] at hrel
  obtain ⟨τ, h1, h2⟩ := hd
  exact ⟨τ, rfl, h2, h1 a w hrel⟩
 induction fuel with
 | zero =>
  intro listed hsz hc hn a w hrel
  have hr : Region.ready .any ops listed = [] := by
   refine List.eq_nil_iff_forall_not_mem.2 fun i hi => ?_
   obtain ⟨h1, h2, _⟩ := ready_iff.1 hi
   have := count_set (listed := listed) (i := i) (by omega) h2
   omega
  exact ⟨hr, done listed hsz hr a w hrel⟩
 | succ fuel ih =>
  intro listed hsz hc hn a w hrel
  refine ⟨fun hr => done listed hsz hr a w hrel, fun i hi => ?_⟩
  obtain ⟨h1, h2, h3⟩ := ready_iff.1 hi
  have hi2 : i < listed.size := by omega
  have hdep : ∀ e ∈ depsAt ops i, lst listed e = true := fun e he => by
   have := f.lt i h1 e he
   have he2 : e < listed.size := by omega
   have := h3 e he
   unfold lst
   simpa only [Array.getD_eq_getD_getElem?, Array.getElem?_eq_getElem he2, Option.getD_some] using this
  obtain ⟨⟨u, d⟩, hud⟩ : ∃ p, ud[i]? = some p := ⟨_, List.getElem?_eq_getElem (by rw [f.len]; exact h1)⟩
  have hu : upAt ud i = u := by unfold upAt; rw [hud]; rfl
  have hup : ∀ j ∈ u, lst listed j = true := by rw [← hu]; exact closed_up f hc i h1 hdep
  have hdown : ∀ j ∈ d, lst listed j = false := fun j hj => by
   obtain ⟨g1, g2⟩ := f.down i u d hud j hj
   cases e : lst listed j with
   | false => rfl
   | true =>
    have := closed_up f hc j g1 (hc j g1 e) i g2
    rw [h2] at this; cases this
  have e0 : mk0 u d i (lst listed) = lst listed := by
   funext k
   unfold mk0
   cases e1 : Nat.beq k i with
   | true => rw [Nat.eq_of_beq_eq_true e1, h2]; rfl
   | false =>
    cases e2 : memN k u with
    | true => rw [hup k (memN_iff.1 e2)]; rfl
    | false =>
     cases e3 : memN k d with
     | true => rw [hdown k (memN_iff.1 e3)]; rfl
     | false => rfl
  have e1 : mk1 u d i (lst listed) = lst (listed.setIfInBounds i true) := by
   funext k
   rw [lst_set hi2]
   by_cases e : k = i
   ·subst e; unfold mk1; rw [Nat.beq_refl, if_pos rfl]; rfl
   ·rw [if_neg e]
    conv => rhs; rw [← e0]
    have : Nat.beq k i = false := by
     cases h : Nat.beq k i with
     | false => rfl
     | true => exact absurd (Nat.eq_of_beq_eq_true h) e
    unfold mk0 mk1; rw [this]; rfl
  obtain ⟨o, ho, hw⟩ := hL.get i u d hud
  simp only [Nat.zero_add] at ho hw
  have hw := hw (lst listed)
  rw [e0, e1] at hw
  have := hw [i] (by simp [ho]) a w hrel
  rw [wpOps_cons] at this
  have hsz2 : (listed.setIfInBounds i true).size = ops.size := by simpa using hsz
  have hc2 : Closed ops (lst (listed.setIfInBounds i true)) := fun k hk hb e he => by
   rw [lst_set hi2] at hb ⊢
   by_cases ek : e = i
   ·rw [if_pos ek]
   ·rw [if_neg ek]
    by_cases kk : k = i
    ·subst kk; exact hdep e he
    ·rw [if_neg kk] at hb; exact hc k hk hb e he
  have hn2 := count_set hi2 h2
  refine wpOp_turn (fun c a w h => ?_) (fun h => (noLets h).elim) (fun a' w' h => ?_) this
  ·obtain ⟨_, h, _⟩ := h; cases h
  ·obtain ⟨σ', _, g1, g2⟩ := h
   exact ih _ hsz2 hc2 (by omega) a' w' (g1 a' w' g2)
variable {id : Nat}
theorem A.lin {Q : Exit → St → Prop} (st : (Nat → Bool) → St) (ud : List (List Nat × List Nat)) (N : Nat) (hm : P.follows .mixedOrders = true) (hN : ops.size = N) (hk : linOk ops ud = true)
  (hb : Le F σ (st fun k => !(Nat.blt k N))) (hL : Lins P F ops st 0 ud) (hd : ∃ τ, Le F (st fun _ => true) τ ∧ Q .normal τ) : WpC P F (.region id ops true) Q σ := by
 intro a w hr
 refine wp_mono (wp_region_any (Q := QN F (Q .normal)) hm ?_) fun e a' w' => ?_
 ·have hr2 := hb a _ hr.drew
  have e : (fun k => !(Nat.blt k N)) = lst (Array.replicate ops.size false) := by
   funext k
   unfold lst
   rw [Array.getD_eq_getD_getElem?, Array.getElem?_replicate]
   by_cases h : k < ops.size
   ·rw [if_pos h, show Nat.blt k N = true by simp; omega]; rfl
   ·rw [if_neg h]
    cases hh : Nat.blt k N with
    | false => rfl
    | true => simp at hh; omega
  rw [e] at hr2
  refine A.lin_go (linOk_facts hk) hL hd _ _ (by simp) (fun k hk' hb' => ?_) (by simpa using List.count_le_length) a _ hr2
  unfold lst at hb'
  rw [Array.getD_eq_getD_getElem?, Array.getElem?_replicate, if_pos hk'] at hb'
  cases hb'
 ·rintro ⟨σ', rfl, h1, h2⟩
  exact ⟨σ', h1, h2⟩
end
def over : List α → List α → List α
 | [], cs => cs
 | x :: xs, _ :: cs => x :: over xs cs
 | x :: xs, [] => x :: xs
def spl (new : List α) : Nat → List α → List α
 | 0, cs => over new cs
 | _ + 1, [] => new
 | j + 1, c :: cs => c :: spl new j cs
theorem over_eq : ∀ {new cs : List α}, new.length ≤ cs.length → over new cs = new ++ cs.drop new.length
 | [], cs, _ => by simp [over]
 | x :: xs, c :: cs, h => by
  simp only [List.length_cons] at h
  simp only [over, List.cons_append, List.length_cons, List.drop_succ_cons]
  rw [over_eq (by omega)]
 | x :: xs, [], h => by simp at h
theorem spl_eq {α : Type} {new : List α} : ∀ {j : Nat} {cs : List α}, j + new.length ≤ cs.length → spl new j cs = splice cs j new
 | 0, cs, h => by simp only [spl, splice, List.take_zero, List.nil_append, Nat.zero_add]; exact over_eq (by omega)
 | j + 1, [], h => by simp at h
 | j + 1, c :: cs, h => by
  simp only [List.length_cons] at h
  simp only [spl]
  rw [spl_eq (j := j) (by omega)]
  unfold splice
  rw [show j + 1 + new.length = (j + new.length) + 1 by omega]
  simp
def fillS (place : Nat → Option (Nat × Nat)) (cs : List Cell) : List (Nat × V) → Option (List Cell)
 | [] => some cs
 | (i, x) :: rest => match place i with
  | some (off, size) => cond (Nat.beq x.cells.length size && Nat.ble (off + size) cs.length) (fillS place (spl x.cells off cs) rest) none
  | none => none
variable {place : Nat → Option (Nat × Nat)}
theorem fillS_ok : ∀ {vs : List (Nat × V)} {cs r : List Cell}, fillS place cs vs = some r → fillA place cs vs = some r
 | [], cs, r, h => by simpa [fillS, fillA] using h
 | (i, x) :: rest, cs, r, h => by
  unfold fillS at h
  unfold fillA
  cases hp : place i with
  | none => rw [hp] at h; cases h
  | some q =>
   obtain ⟨off, size⟩ := q
   rw [hp] at h
   simp only at h ⊢
   cases hc : (Nat.beq x.cells.length size && Nat.ble (off + size) cs.length) with
   | false => rw [hc] at h; cases h
   | true =>
    rw [hc] at h
    simp only [Bool.and_eq_true] at hc
    have h1 := Nat.eq_of_beq_eq_true hc.1
    have h2 := Nat.le_of_ble_eq_true hc.2
    rw [if_pos ⟨h1, h2⟩, ← spl_eq (by omega)]
    exact fillS_ok h
section
variable {P : Program} {F : Fix} {ops : Array Oper} {Q : St → Prop} {N : Nat}
variable {dst : Option Nat} {ty : TypeId} {pos : String} {aft : Array Edge} {grd : Option (Nat × Bool)} {rest : List Oper} {sl : Nat → Option Slot} {H : Heap}
variable {x : Operand}
theorem mv {s : Slot} (k : WpL P F ops Q rest ⟨setD sl dst (some s), H⟩) (hn : F.n = N := by exact rfl) (hg : guardOf ops sl ⟨dst, .move x, ty, pos, aft, grd⟩ = some true := by exact rfl) (hd : dstB N dst = true := by exact rfl) (hx : opnd sl x = some s := by exact rfl) : WpL P F ops Q (⟨dst, .move x, ty, pos, aft, grd⟩ :: rest) ⟨sl, H⟩ :=
 _root_.Go.MG.L.move hn hg hd hx k
theorem ag {s : Slot} (k : WpL P F ops Q rest ⟨setD sl dst (some s), H⟩) (hn : F.n = N := by exact rfl) (hg : guardOf ops sl ⟨dst, .assign x, ty, pos, aft, grd⟩ = some true := by exact rfl) (hd : dstB N dst = true := by exact rfl) (hx : opnd sl x = some s := by exact rfl) : WpL P F ops Q (⟨dst, .assign x, ty, pos, aft, grd⟩ :: rest) ⟨sl, H⟩ :=
 _root_.Go.MG.L.assign hn hg hd hx k
variable {rest : List Oper}
theorem of {o : Oper} {H : Heap} (k : WpL P F ops Q rest ⟨setD sl o.dst (some (.tup [])), H⟩) (hn : F.n = N := by exact rfl) (hg : guardOf ops sl o = some false := by exact rfl) (hd : dstB N o.dst = true := by exact rfl) : WpL P F ops Q (o :: rest) ⟨sl, H⟩ :=
 _root_.Go.MG.L.off hn hg hd k
variable {y : Operand} {xt yt : TypeId}
theorem bi {op : BinOp} {a b r : Value} (k : WpL P F ops Q rest ⟨setD sl dst (some (im r)), H⟩) (hn : F.n = N := by exact rfl) (hg : guardOf ops sl ⟨dst, .binOp op xt x y yt, ty, pos, aft, grd⟩ = some true := by exact rfl) (hd : dstB N dst = true := by exact rfl) (hx : opnd sl x = some (im a) := by exact rfl) (hy : opnd sl y = some (im b) := by exact rfl) (hr : binV op a b = some r := by exact rfl) (hi : isImm r = true := by exact rfl) : WpL P F ops Q (⟨dst, .binOp op xt x y yt, ty, pos, aft, grd⟩ :: rest) ⟨sl, H⟩ :=
 _root_.Go.MG.L.bin hn hg hd hx hy hr hi k
theorem pk {c a b : Operand} {t : Bool} {s : Slot} (k : WpL P F ops Q rest ⟨setD sl dst (some s), H⟩) (hn : F.n = N := by exact rfl) (hg : guardOf ops sl ⟨dst, .pick c a b, ty, pos, aft, grd⟩ = some true := by exact rfl) (hd : dstB N dst = true := by exact rfl) (hc : opnd sl c = some (im (.bool t)) := by exact rfl) (hx : opnd sl (if t then a else b) = some s := by exact rfl) : WpL P F ops Q (⟨dst, .pick c a b, ty, pos, aft, grd⟩ :: rest) ⟨sl, H⟩ :=
 _root_.Go.MG.L.pick hn hg hd hc hx k
theorem ex {t : Operand} {x : V} (k : WpL P F ops Q rest ⟨setD sl dst (some (.v x)), H⟩) (hn : F.n = N := by exact rfl) (hg : guardOf ops sl ⟨dst, .extract t i, ty, pos, aft, grd⟩ = some true := by exact rfl) (hd : dstB N dst = true := by exact rfl) (ht : opnd sl t = some (.tup xs) := by exact rfl) (hx : xs[i]? = some x := by exact rfl) : WpL P F ops Q (⟨dst, .extract t i, ty, pos, aft, grd⟩ :: rest) ⟨sl, H⟩ :=
 _root_.Go.MG.L.extract hn hg hd ht hx k
theorem nt {a : Bool} (k : WpL P F ops Q rest ⟨setD sl dst (some (im (.bool (!a)))), H⟩) (hn : F.n = N := by exact rfl) (hg : guardOf ops sl ⟨dst, .unOp .not xt x, ty, pos, aft, grd⟩ = some true := by exact rfl) (hd : dstB N dst = true := by exact rfl) (hx : opnd sl x = some (im (.bool a)) := by exact rfl) : WpL P F ops Q (⟨dst, .unOp .not xt x, ty, pos, aft, grd⟩ :: rest) ⟨sl, H⟩ :=
 _root_.Go.MG.L.not hn hg hd hx k
variable {elem : TypeId}
theorem bo {x : V} (q : Nat) (k : WpL P F ops Q rest ⟨setD sl dst (some (.v (.one (.ptr q 0)))), (Heap.newBox H q (x.cells))⟩) (hn : F.n = N := by exact rfl) (hg : guardOf ops sl ⟨dst, .box elem y, ty, pos, aft, grd⟩ = some true := by exact rfl) (hd : dstB N dst = true := by exact rfl) (hy : opnd sl y = some (.v x) := by exact rfl) (hq : H.used q = false := by exact rfl) : WpL P F ops Q (⟨dst, .box elem y, ty, pos, aft, grd⟩ :: rest) ⟨sl, H⟩ :=
 _root_.Go.MG.L.box q hn hg hd hy hq k
variable {j n q : Nat} {t : TypeId}
theorem sp {z : Operand} {cs : List Cell} {x : V} {ag : Bool} (hs : shape P t = some (ag, n)) (k : WpL P F ops Q rest ⟨setD sl dst none, (Heap.setBox H q (spl x.cells j cs))⟩) (hn : F.n = N := by exact rfl) (hg : guardOf ops sl ⟨dst, .store t y z, ty, pos, aft, grd⟩ = some true := by exact rfl) (hd : dstB N dst = true := by exact rfl) (hy : opnd sl y = some (.v (.one (.ptr q j))) := by exact rfl) (hb : H.boxes q = some cs := by exact rfl) (hz : opnd sl z = some (.v x) := by exact rfl) (hx : x.cells.length = n := by exact rfl) (hl : Nat.ble (j + n) cs.length = true := by exact rfl) : WpL P F ops Q (⟨dst, .store t y z, ty, pos, aft, grd⟩ :: rest) ⟨sl, H⟩ := by
 have hle := Nat.le_of_ble_eq_true hl
 rw [spl_eq (by omega)] at k
 exact _root_.Go.MG.L.storePtr hs hn hg hd hy hb hz hx hl k
theorem lp {cs : List Cell} {ag : Bool} {x : V} (hs : shape P t = some (ag, n)) (k : WpL P F ops Q rest ⟨setD sl dst (some (.v x)), H⟩) (hn : F.n = N := by exact rfl) (hg : guardOf ops sl ⟨dst, .load t y, ty, pos, aft, grd⟩ = some true := by exact rfl) (hd : dstB N dst = true := by exact rfl) (hy : opnd sl y = some (.v (.one (.ptr q j))) := by exact rfl) (hb : H.boxes q = some cs := by exact rfl) (hl : Nat.ble (j + n) cs.length = true := by exact rfl) (hx : mkV ag ((cs.drop j).take n) = some x := by exact rfl) : WpL P F ops Q (⟨dst, .load t y, ty, pos, aft, grd⟩ :: rest) ⟨sl, H⟩ :=
 _root_.Go.MG.L.loadPtr hs hn hg hd hy hb hl hx k
variable {fd : Field} {fs : Array Field}
theorem fa {s : TypeId} {f : Nat} {i : TypeInfo} {c : Cell} {tid : TypeId} (hs : P.underlying s = some (.struct fs)) (hi : P.info? tid = some i) (k : WpL P F ops Q rest ⟨setD sl dst (some (.v (.one c'))), H⟩) (hf : fs[f]? = some fd := by exact rfl) (he : fd.type = tid := by exact rfl) (h0 : (i.size == 0) = false := by exact rfl) (hn : F.n = N := by exact rfl) (hg : guardOf ops sl ⟨dst, .fieldAddr s y f, ty, pos, aft, grd⟩ = some true := by exact rfl) (hd : dstB N dst = true := by exact rfl) (hy : opnd sl y = some (.v (.one c)) := by exact rfl) (hc : c.shift fd.offset = some c' := by exact rfl) (hl : H.live c = true := by exact rfl) : WpL P F ops Q (⟨dst, .fieldAddr s y f, ty, pos, aft, grd⟩ :: rest) ⟨sl, H⟩ :=
 _root_.Go.MG.L.fieldAddr hs hf (he ▸ hi) h0 hn hg hd hy hc hl k
variable {zc : List Cell} {parts : Array (Nat × Operand)}
theorem bf {vs : List (Nat × V)} {cs : List Cell} (hf : builtA P t = fillA place zc) (k : WpL P F ops Q rest ⟨setD sl dst (some (.v (.agg cs))), H⟩) (hn : F.n = N := by exact rfl) (hg : guardOf ops sl ⟨dst, .build t parts, ty, pos, aft, grd⟩ = some true := by exact rfl) (hd : dstB N dst = true := by exact rfl) (hp : partsV (opnd sl) parts.toList = some vs := by exact rfl) (hb : fillS place zc vs = some cs := by exact rfl) : WpL P F ops Q (⟨dst, .build t parts, ty, pos, aft, grd⟩ :: rest) ⟨sl, H⟩ :=
 _root_.Go.MG.L.buildF hf hn hg hd hp (fillS_ok hb) k
variable {z : Value}
theorem alc {i : TypeInfo} {x : V} (q : Nat) (hi : P.info? elem = some i) (k : WpL P F ops Q rest ⟨setD sl dst (some (.v (.one (.ptr q 0)))), (Heap.newBox H q (x.cells))⟩) (hz : i.zero = some z := by exact rfl) (hn : F.n = N := by exact rfl) (hg : guardOf ops sl ⟨dst, .alloc elem, ty, pos, aft, grd⟩ = some true := by exact rfl) (hd : dstB N dst = true := by exact rfl) (hx : V.ofVal z = some x := by exact rfl) (hq : H.used q = false := by exact rfl) : WpL P F ops Q (⟨dst, .alloc elem, ty, pos, aft, grd⟩ :: rest) ⟨sl, H⟩ :=
 _root_.Go.MG.L.alloc q hi hz hn hg hd hx hq k
variable {ti : TypeInfo} {kd : IntKind} {el : TypeId}
theorem ix {xs : List α} {e : α → List Cell} {a : α} {c : Cell} {i : Int} (ht : P.underlying t = some (.slice el)) (hti : P.info? el = some ti) (ha : at? xs i = some a) (k : WpL P F ops Q rest ⟨setD sl dst (some (.v (.one c'))), H⟩) (hn : F.n = N := by exact rfl) (hg : guardOf ops sl ⟨dst, .indexAddr t x y, ty, pos, aft, grd⟩ = some true := by exact rfl) (hd : dstB N dst = true := by exact rfl) (hx : opnd sl x = some (.v (.one c)) := by exact rfl) (hy : opnd sl y = some (im (.int kd i)) := by exact rfl) (hc : H.shows c = some (xs.map e) := by exact rfl) (hel : (e a).length = ti.size := by exact rfl) (hc' : addrOf c i.toNat (e a) = some c' := by exact rfl) : WpL P F ops Q (⟨dst, .indexAddr t x y, ty, pos, aft, grd⟩ :: rest) ⟨sl, H⟩ :=
 _root_.Go.MG.L.idxR ht hti hn hg hd hx hy hc ha hel hc' k
theorem ln {xs : List α} {e : α → List Cell} {c : Cell} (ht : P.underlying t = some (.slice el)) (k : WpL P F ops Q rest ⟨setD sl dst (some (im (i64 (xs.length : Int)))), H⟩) (hn : F.n = N := by exact rfl) (hg : guardOf ops sl ⟨dst, .call { callee := .builtin .len, args := #[x], argTypes := #[t] }, ty, pos, aft, grd⟩ = some true := by exact rfl) (hd : dstB N dst = true := by exact rfl) (hx : opnd sl x = some (.v (.one c)) := by exact rfl) (hc : H.lenOf c = some (xs.map e).length := by exact rfl) : WpL P F ops Q (⟨dst, .call { callee := .builtin .len, args := #[x], argTypes := #[t] }, ty, pos, aft, grd⟩ :: rest) ⟨sl, H⟩ :=
 _root_.Go.MG.L.lenR ht hn hg hd hx hc k
theorem le {g : Bool} {el : List Cell} {ag : Bool} {x : V} (hs : shape P t = some (ag, n)) (k : WpL P F ops Q rest ⟨setD sl dst (some (.v x)), H⟩) (hn : F.n = N := by exact rfl) (hg : guardOf ops sl ⟨dst, .load t y, ty, pos, aft, grd⟩ = some true := by exact rfl) (hd : dstB N dst = true := by exact rfl) (hy : opnd sl y = some (.v (.one (.pe g el j))) := by exact rfl) (hl : Nat.ble (j + n) el.length = true := by exact rfl) (hx : mkV ag (((el.drop j).take n).map (ldC g)) = some x := by exact rfl) : WpL P F ops Q (⟨dst, .load t y, ty, pos, aft, grd⟩ :: rest) ⟨sl, H⟩ :=
 _root_.Go.MG.L.loadPe hs hn hg hd hy hl hx k
theorem lo {xs : List α} {e : α → List Cell} {a : α} {ag : Bool} {x : V} (hs : shape P t = some (ag, n)) (ha : xs[i]? = some a) (k : WpL P F ops Q rest ⟨setD sl dst (some (.v x)), H⟩) (hn : F.n = N := by exact rfl) (hg : guardOf ops sl ⟨dst, .load t y, ty, pos, aft, grd⟩ = some true := by exact rfl) (hd : dstB N dst = true := by exact rfl) (hy : opnd sl y = some (.v (.one (.ep q i j))) := by exact rfl) (hb : H.rows q = some ⟨sz, xs.map e⟩ := by exact rfl) (hl : Nat.ble (j + n) (e a).length = true := by exact rfl) (hx : mkV ag (((e a).drop j).take n) = some x := by exact rfl) (hno : noOw (((e a).drop j).take n) = true := by exact rfl) : WpL P F ops Q (⟨dst, .load t y, ty, pos, aft, grd⟩ :: rest) ⟨sl, H⟩ :=
 _root_.Go.MG.L.loadEp hs hn hg hd hy hb ha hl hx k hno
variable {vs : List (Bool × V)} {caps : List Cell} {tys : Array TypeId} {args : Array Operand}
theorem ca {f : FuncId} (mvs : List Bool) (L : List Nat) (ks : List Nat) (kb : Nat) (hf : Enters P f) (hh : Gives P f xs outs res outs') (k : WpL P F ops Q rest ⟨setD sl dst (some (slotOf (namedVs kb res))), (H2.internVs kb res).1.takeOuts (kb + (res.flatMap V.cells).length) ks outs'⟩) (hn : F.n = N := by exact rfl) (hg : guardOf ops sl ⟨dst, .call { callee := .value x, args := args, argTypes := tys }, ty, pos, aft, grd⟩ = some true := by exact rfl) (hd : dstB N dst = true := by exact rfl) (hx : opnd sl x = some (.v (.one (.clo f caps))) := by exact rfl) (hm : mvs.length = args.size := by exact rfl) (hvs : callArgs (opnd sl) (mvs.zip args.toList) = some vs := by exact rfl) (hpass : H.passVs (fun k => ks.idxOf? k) L (vs ++ caps.map fun c => (false, .one c)) = some (H1, xs) := by exact rfl) (houts : H1.giveOuts ks = some (H2, outs) := by exact rfl) (hL : L.all (fun k => (H2.rows k).isSome) = true := by exact rfl) (hgood : goodB H2 ks kb res outs' = true := by exact rfl) : WpL P F ops Q (⟨dst, .call { callee := .value x, args := args, argTypes := tys }, ty, pos, aft, grd⟩ :: rest) ⟨sl, H⟩ :=
 _root_.Go.MG.L.call mvs L ks kb hn hg hd hx hf hm hvs hpass houts hL hh hgood k
theorem c0 {f : FuncId} (kb : Nat) (hf : Enters P f) (hh : Gives P f xs outs res outs') (k : WpL P F ops Q rest ⟨setD sl dst (some (slotOf (namedVs kb res))), (H2.internVs kb res).1.takeOuts (kb + (res.flatMap V.cells).length) ([] : List Nat) outs'⟩) (hn : F.n = N := by exact rfl) (hg : guardOf ops sl ⟨dst, .call { callee := .value x, args := args, argTypes := tys }, ty, pos, aft, grd⟩ = some true := by exact rfl) (hd : dstB N dst = true := by exact rfl) (hx : opnd sl x = some (.v (.one (.clo f caps))) := by exact rfl) (hm : (args.toList.map fun _ => false).length = args.size := by exact rfl) (hvs : callArgs (opnd sl) ((args.toList.map fun _ => false).zip args.toList) = some vs := by exact rfl) (hpass : H.passVs (fun k => ([] : List Nat).idxOf? k) ([] : List Nat) (vs ++ caps.map fun c => (false, .one c)) = some (H1, xs) := by exact rfl) (houts : H1.giveOuts ([] : List Nat) = some (H2, outs) := by exact rfl) (hL : ([] : List Nat).all (fun k => (H2.rows k).isSome) = true := by exact rfl) (hgood : goodB H2 ([] : List Nat) kb res outs' = true := by exact rfl) : WpL P F ops Q (⟨dst, .call { callee := .value x, args := args, argTypes := tys }, ty, pos, aft, grd⟩ :: rest) ⟨sl, H⟩ :=
 L.call _ [] [] kb hn hg hd hx hf hm hvs hpass houts hL hh hgood k
end
theorem rt {m : Nat} {r0 : List V} {o0 : List (List Cell)} (hr : resAs P σ fn.results.toList = some xs := by exact rfl) (hp : σ.H.passVs (fun k => if k < m then some k else none) [] (xs.map fun x => (true, x)) = some (H1, res) := by exact rfl) (hg : H1.giveOuts (List.range m) = some (H2, outs') := by exact rfl) (h : res = r0 ∧ outs' = o0 := by exact ⟨rfl, rfl⟩) : Leaves P fn m [] (fun r o b => r = r0 ∧ o = o0 ∧ b = []) .ret σ :=
 Leaves.ret hr hp hg h
section
variable {P : Program} {F : Fix}
theorem cd {Q : Exit → St → Prop} {c : Operand} {x y : Code} {t : Bool} {A B : Option α} {r : α} (H : cond t A B = some r) (h1 : t = true → A = some r → WpC P F x Q σ) (h2 : t = false → B = some r → WpC P F y Q σ) (hc : opnd σ.slots c = some (im (.bool t)) := by exact rfl) : WpC P F (.cond c x y) Q σ :=
 WpC.cond hc (fun h => h1 h (condT h H)) (fun h => h2 h (condF h H))
theorem cT {Q : Exit → St → Prop} {c : Operand} {x y : Code} (h1 : WpC P F x Q σ) (hc : opnd σ.slots c = some (im (.bool true)) := by exact rfl) : WpC P F (.cond c x y) Q σ :=
 WpC.cond hc (fun _ => h1) (fun h => by cases h)
theorem cF {Q : Exit → St → Prop} {c : Operand} {x y : Code} (h1 : WpC P F y Q σ) (hc : opnd σ.slots c = some (im (.bool false)) := by exact rfl) : WpC P F (.cond c x y) Q σ :=
 WpC.cond hc (fun h => by cases h) (fun _ => h1)
end
variable {n : Nat}
theorem fx {C : Fix → Prop} (h : ∀ w0 T S0 ob oh, C ⟨w0, T, S0, n, ob, oh⟩) : ∀ F : Fix, F.n = n → C F := fun F hF => by
 obtain ⟨w0, T, S0, m, ob, oh⟩ := F
 cases hF
 exact h w0 T S0 ob oh
theorem fxe (w0 : World) (T : Nat → Prop) (S0 : Bool → Nat → Prop) (n : Nat) (ob : List Nat) (oh : List (V × Value)) : Fix.n ⟨w0, T, S0, n, ob, oh⟩ = n := rfl
theorem leK (k : Nat) : ∃ K, k ≤ K := ⟨k, Nat.le_refl k⟩
section
variable {π : Nat → Option Nat} {σ : St}
end
variable {s0 : Slot} {t0 : Nat}
theorem Sa1 {u0 : Slot} {l : List (Nat × Slot)} (k : SlotsOk π σ l) (h0 : renS π s0 = some u0 := by exact rfl) (g0 : σ.slots t0 = some u0 := by exact rfl) : SlotsOk π σ ((t0, s0) :: l) := ⟨⟨_, h0, g0⟩, k⟩
variable {q0 : Nat}
theorem Ra1 {s0 : Row} {l : List (Nat × Row)} (k : RowsOk π σ l) (h0 : π t0 = some q0 := by exact rfl) (g0 : σ.H.rows q0 = some s0 := by exact rfl) : RowsOk π σ ((t0, s0) :: l) := ⟨⟨_, h0, g0⟩, k⟩
theorem Ba1 {c0 d0 : List Cell} {l : List (Nat × List Cell)} (k : BoxesOk π σ l) (h0 : π t0 = some q0 := by exact rfl) (g0 : renCs π c0 = some d0 := by exact rfl) (e0 : σ.H.boxes q0 = some d0 := by exact rfl) : BoxesOk π σ ((t0, c0) :: l) := ⟨⟨_, _, h0, g0, e0⟩, k⟩
variable {t1 : Nat}
theorem Sa2 {u0 s1 u1 : Slot} {l : List (Nat × Slot)} (k : SlotsOk π σ l) (h0 : renS π s0 = some u0 := by exact rfl) (g0 : σ.slots t0 = some u0 := by exact rfl) (h1 : renS π s1 = some u1 := by exact rfl) (g1 : σ.slots t1 = some u1 := by exact rfl) : SlotsOk π σ ((t0, s0) :: (t1, s1) :: l) := ⟨⟨_, h0, g0⟩, ⟨_, h1, g1⟩, k⟩
theorem Ra2 {q1 : Nat} {s0 s1 : Row} {l : List (Nat × Row)} (k : RowsOk π σ l) (h0 : π t0 = some q0 := by exact rfl) (g0 : σ.H.rows q0 = some s0 := by exact rfl) (h1 : π t1 = some q1 := by exact rfl) (g1 : σ.H.rows q1 = some s1 := by exact rfl) : RowsOk π σ ((t0, s0) :: (t1, s1) :: l) := ⟨⟨_, h0, g0⟩, ⟨_, h1, g1⟩, k⟩
theorem Ba2 {q1 : Nat} {c0 d0 c1 d1 : List Cell} {l : List (Nat × List Cell)} (k : BoxesOk π σ l) (h0 : π t0 = some q0 := by exact rfl) (g0 : renCs π c0 = some d0 := by exact rfl) (e0 : σ.H.boxes q0 = some d0 := by exact rfl) (h1 : π t1 = some q1 := by exact rfl) (g1 : renCs π c1 = some d1 := by exact rfl) (e1 : σ.H.boxes q1 = some d1 := by exact rfl) : BoxesOk π σ ((t0, c0) :: (t1, c1) :: l) := ⟨⟨_, _, h0, g0, e0⟩, ⟨_, _, h1, g1, e1⟩, k⟩
theorem Sa4 {t2 t3 : Nat} {u0 s1 u1 s2 u2 s3 u3 : Slot} {l : List (Nat × Slot)} (k : SlotsOk π σ l) (h0 : renS π s0 = some u0 := by exact rfl) (g0 : σ.slots t0 = some u0 := by exact rfl) (h1 : renS π s1 = some u1 := by exact rfl) (g1 : σ.slots t1 = some u1 := by exact rfl) (h2 : renS π s2 = some u2 := by exact rfl) (g2 : σ.slots t2 = some u2 := by exact rfl) (h3 : renS π s3 = some u3 := by exact rfl) (g3 : σ.slots t3 = some u3 := by exact rfl) : SlotsOk π σ ((t0, s0) :: (t1, s1) :: (t2, s2) :: (t3, s3) :: l) := ⟨⟨_, h0, g0⟩, ⟨_, h1, g1⟩, ⟨_, h2, g2⟩, ⟨_, h3, g3⟩, k⟩
abbrev oP (a b : Nat) : Slot := one (Cell.ptr a b)
abbrev oI (x : Int) : Slot := one (cI x)
abbrev oS (x : List UInt8) : Slot := one (cS x)
abbrev oL (x : Bool) : Slot := one (cL x)
section
variable {P : Program} {F : Fix} {ops : Array Oper}
variable {id : Nat}
theorem sr {Q : Exit → St → Prop} {y : Code} (h : WpL P F ops (thenA (WpC P F y Q) Q .normal) ops.toList σ) : WpC P F (.seq (.region id ops false) y) Q σ := WpC.seq (WpC.regionL h)
theorem lx {m : Nat} {sl : Alts Slot} (new : List (Nat × Nat)) (hm : Pinned F m hs) (hn : (linB m base new && pinB (piL new base) hs && hs.all (fun x => cplain x.cells)) = true := by exact rfl)
  (h1 : KeysOk (SlotR (piL new base) σ) sl := by repeat (first | exact kz | refine sa ?_ | refine su ?_ | refine kn ?_)) (h2 : KeysOk (RowR (piL new base) σ) rows := by repeat (first | exact kz | refine ra ?_ | refine ru ?_ | refine kn ?_)) (h3 : KeysOk (BoxR (piL new base) σ) boxes := by repeat (first | exact kz | refine ba ?_ | refine bu ?_ | refine kn ?_)) : WpL P F ops (fun τ => Le F τ (mkStL sl rows boxes base)) [] σ :=
 L.nil (Le.lin new hm hn h1 h2 h3)
theorem lm {m : Nat} {sl : List (Nat × Slot)} {rows : List (Nat × Row)} {boxes : List (Nat × List Cell)} (π : List (Nat × Nat)) (hm : Pinned F m hs) (hn : (namesB m base π && pinB (π.lookup ·) hs && hs.all (fun x => cplain x.cells)) = true := by exact rfl) (h1 : SlotsOk (π.lookup ·) σ sl := by repeat (first | exact trivial | refine Sa1 ?_)) (h2 : RowsOk (π.lookup ·) σ rows := by repeat (first | exact trivial | refine Ra1 ?_)) (h3 : BoxesOk (π.lookup ·) σ boxes := by repeat (first | exact trivial | refine Ba1 ?_)) : Le F σ (mkSt sl rows boxes base) :=
 Le.mk π hm hn h1 h2 h3
theorem sH {Q : St → Prop} {d : Option Nat} {G : Heap} {c : Bool} {A B : Option α} {r : α} (H : cond c A B = some r) (h1 : c = true → A = some r → WpL P F ops Q l ⟨setD sl d (some (im (.bool true))), G⟩) (h0 : c = false → B = some r → WpL P F ops Q l ⟨setD sl d (some (im (.bool false))), G⟩) :
  WpL P F ops Q l ⟨setD sl d (some (im (.bool c))), G⟩ := L.split (fun h => h1 h (condT h H)) (fun h => h0 h (condF h H))
variable {Q : St → Prop} {N fuel : Nat} {listed : Array Bool} {dst : Option Nat} {ty : TypeId} {pos : String} {aft : Array Edge} {grd : Option (Nat × Bool)} {sl : Nat → Option Slot} {H : Heap}
end
mutual
def Cell.solid : Cell → Bool
 | .imm _ => true
 | .nil => true
 | .ow _ es => rsolid es
 | _ => false
def csolid : List Cell → Bool
 | [] => true
 | c :: cs => c.solid && csolid cs
def rsolid : List (List Cell) → Bool
 | [] => true
 | e :: es => csolid e && rsolid es
end
theorem rsolid_map {e : α → List Cell} (h : ∀ x, csolid (e x) = true) : ∀ xs : List α, rsolid (xs.map e) = true
 | [] => by simp [rsolid]
 | x :: xs => by simp [rsolid, h x, rsolid_map h xs]
def V.solid : V → Bool
 | .one c => c.solid
 | .agg cs => csolid cs
mutual
theorem RXC.env {E E' : Env} (hw : E'.w = E.w) : ∀ {c : Cell} {u : Value} {bs : List Nat}, c.solid = true → RXC E c u bs → RXC E' c u bs
 | .imm v, u, bs, _, h => by simp only [RXC, RC] at h ⊢; exact h
 | .nil, u, bs, _, h => by simp only [RXC, RC] at h ⊢; exact h
 | .ow sz es, u, bs, hs, h => by
  simp only [Cell.solid] at hs
  simp only [RXC] at h ⊢
  obtain ⟨h1, h2, h3⟩ := h
  refine ⟨h1, h2, h3.imp id ?_⟩
  rintro ⟨g, cap, bs', h4, h5, h6, h7, h8⟩
  exact ⟨g, cap, bs', h4, h5, hw ▸ h6, RXRow.env hw hs h7, h8⟩
 | .bx .., u, bs, hs, h => by simp [Cell.solid] at hs
 | .sl .., u, bs, hs, h => by simp [Cell.solid] at hs
 | .own .., u, bs, hs, h => by simp [Cell.solid] at hs
 | .sub .., u, bs, hs, h => by simp [Cell.solid] at hs
 | .ptr .., u, bs, hs, h => by simp [Cell.solid] at hs
 | .ep .., u, bs, hs, h => by simp [Cell.solid] at hs
 | .pe .., u, bs, hs, h => by simp [Cell.solid] at hs
 | .clo .., u, bs, hs, h => by simp [Cell.solid] at hs
 | .raw .., u, bs, hs, h => by simp [Cell.solid] at hs
 | .bad, u, bs, hs, h => by simp [Cell.solid] at hs
theorem RXCs.env {E E' : Env} (hw : E'.w = E.w) : ∀ {cs : List Cell} {us : List Value} {bs : List Nat}, csolid cs = true → RXCs E cs us bs → RXCs E' cs us bs
 | [], _, _, _, h => by simpa only [RXCs] using h
 | c :: cs, _, _, hs, h => by
  simp only [RXCs] at h ⊢
  simp only [csolid, Bool.and_eq_true] at hs
  obtain ⟨u, us', b, bs', rfl, rfl, h1, h2⟩ := h
  exact ⟨u, us', b, bs', rfl, rfl, RXC.env hw hs.1 h1, RXCs.env hw hs.2 h2⟩
theorem RXRow.env {E E' : Env} (hw : E'.w = E.w) : ∀ {b sz : Nat} {es : List (List Cell)} {o : Nat} {bs : List Nat}, rsolid es = true → RXRow E b o sz es bs → RXRow E' b o sz es bs
 | _, _, [], _, _, _, h => by simpa only [RXRow] using h
 | b, sz, e :: es, o, bs, hs, h => by
  simp only [RXRow] at h ⊢
  simp only [rsolid, Bool.and_eq_true] at hs
  obtain ⟨us, b1, b2, rfl, h1, h2, h3, h4⟩ := h
  exact ⟨us, b1, b2, rfl, h1, RXCs.env hw hs.1 h2, hw ▸ h3, RXRow.env hw hs.2 h4⟩
end
variable {E' : Env}
theorem RXVs.env (hw : E'.w = E.w) : ∀ {xs : List V} {us : List Value} {bs : List Nat}, xs.all V.solid = true → RXVs E xs us bs → RXVs E' xs us bs
 | [], _, _, _, h => h
 | x :: xs, _, _, hs, h => by
  simp only [List.all_cons, Bool.and_eq_true] at hs
  obtain ⟨u, us', b, bs', rfl, rfl, h1, h2⟩ := h
  refine ⟨u, us', b, bs', rfl, rfl, ?_, RXVs.env hw hs.2 h2⟩
  cases x with
  | one c => exact RXC.env hw hs.1 h1
  | agg cs => obtain ⟨vs, e, h3⟩ := h1; exact ⟨vs, e, RXCs.env hw hs.1 h3⟩
def Cell.unl : Cell → Cell
 | .sl _ es => .sl true es
 | c => c
def V.unl : V → V
 | .one c => .one c.unl
 | .agg cs => .agg (cs.map Cell.unl)
def Cell.okA : Cell → Bool
 | .imm _ => true
 | .nil => true
 | .sl .. => true
 | _ => false
def V.okA : V → Bool
 | .one c => c.okA
 | .agg cs => cs.all Cell.okA
theorem Cell.okA_ow {c : Cell} (h : c.okA = true) : c.isOw = false ∧ c.unl.isOw = false := by
 cases c <;> simp [Cell.okA] at h <;> exact ⟨rfl, rfl⟩
variable {u : Value} {ob : List Nat}
theorem RC.unl {S : Bool → Nat → Prop} (hS : ∀ b, S true b → S false b) {c : Cell} (hc : c.okA = true) (h : RC (envI w S ob) c u) : RC (envI w (fun _ b => S false b) ob) c.unl u := by
 cases c with
 | imm v => simpa only [RC, Cell.unl] using h
 | nil => simpa only [RC, Cell.unl] using h
 | sl g es =>
  simp only [RC, Cell.unl] at h ⊢
  obtain ⟨hf, a, cap, hu, hle, h⟩ := h
  refine ⟨hf, a, cap, hu, hle, ?_⟩
  have sf : ∀ g b, S g b → S false b := fun g b hg => by cases g; exact hg; exact hS b hg
  rcases h with h | ⟨b, o, sz, ha, hSb, hr⟩
  ·exact .inl h
  ·refine .inr ⟨b, o, sz, ha, sf g b hSb, ?_⟩
   have s : Sub ((envI w S ob).cap g) ((envI w (fun _ b => S false b) ob).cap true) (fun _ => False) :=
    ⟨fun c b hb => sf _ b hb, fun _ _ _ => rfl, fun _ h => h.elim, fun _ h => h.elim, fun _ h => h.elim⟩
   exact RRow.sub s rfl (fun k hk => by rw [hf.2] at hk; cases hk) hr
 | _ => simp [Cell.okA] at hc
theorem RXCs.unl {S : Bool → Nat → Prop} (hS : ∀ b, S true b → S false b) : ∀ {cs : List Cell} {us : List Value} {bs : List Nat}, cs.all Cell.okA = true → RXCs (envI w S ob) cs us bs → RXCs (envI w (fun _ b => S false b) ob) (cs.map Cell.unl) us bs
 | [], _, _, _, h => by simpa only [RXCs, List.map_nil] using h
 | c :: cs, _, _, hs, h => by
  simp only [RXCs, List.map_cons] at h ⊢
  simp only [List.all_cons, Bool.and_eq_true] at hs
  obtain ⟨u, us', b, bs', rfl, rfl, h1, h2⟩ := h
  have o := Cell.okA_ow hs.1
  obtain ⟨h3, rfl⟩ := (RXC.iff o.1).1 h1
  exact ⟨u, us', [], bs', rfl, rfl, (RXC.iff o.2).2 ⟨RC.unl hS hs.1 h3, rfl⟩, RXCs.unl hS hs.2 h2⟩
theorem RXVs.unl {S : Bool → Nat → Prop} (hS : ∀ b, S true b → S false b) : ∀ {xs : List V} {us : List Value} {bs : List Nat}, xs.all V.okA = true → RXVs (envI w S ob) xs us bs → RXVs (envI w (fun _ b => S false b) ob) (xs.map V.unl) us bs
 | [], _, _, _, h => h
 | x :: xs, _, _, hs, h => by
  simp only [List.all_cons, Bool.and_eq_true] at hs
  obtain ⟨u, us', b, bs', rfl, rfl, h1, h2⟩ := h
  refine ⟨u, us', b, bs', rfl, rfl, ?_, RXVs.unl hS hs.2 h2⟩
  cases x with
  | one c =>
   have o := Cell.okA_ow hs.1
   obtain ⟨h3, rfl⟩ := (RXC.iff o.1).1 h1
   exact (RXC.iff o.2).2 ⟨RC.unl hS hs.1 h3, rfl⟩
  | agg cs => obtain ⟨vs, e, h3⟩ := h1; exact ⟨vs, e, RXCs.unl hS hs.1 h3⟩
theorem Gives.lend {f : FuncId} {ys : List V} (h : Gives P f ys [] res []) (hy : xs.map V.unl = ys) (hx : xs.all V.okA = true) (hr : res.all V.solid = true) : Gives P f xs [] res [] := by
 intro w S us ob bs obs hin
 subst hy
 obtain ⟨a1, a2, a3, a4, a5, a6⟩ := hin
 have sf : ∀ g b, S g b → S false b := fun g b hg => by cases g; exact hg; exact a6 b hg
 have hin' : InOk w (fun _ b => S false b) (xs.map V.unl) [] us ob bs obs := ⟨RXVs.unl a6 hx a1, a2, a3, fun b hb => ⟨(a4 b hb).1, fun g => (a4 b hb).2 false⟩, fun g b h => a5 false b h, fun b h => h⟩
 refine Calls.mono (h w _ us ob bs obs hin') ?_
 rintro e w' ⟨res', outs', bk, S', us', bs', obs', ⟨rfl, rfl, rfl⟩, ho⟩
 obtain ⟨o1, o2, ⟨b1, b2, b3, b4, b5, b6⟩, o4, o5, o6, o7⟩ := ho
 exact ⟨_, [], [], S, us', bs', obs', ⟨rfl, rfl, rfl⟩, o1, o2, ⟨RXVs.env (show (envI w' S ob).w = (envI w' S' ob).w from rfl) (by simpa using hr) b1, b2, b3, fun b hb => ⟨(b4 b hb).1, fun g hg => (b4 b hb).2 g (o5 g b (sf g b hg))⟩, fun g b hg => Nat.lt_of_lt_of_le (a5 g b hg) o7.size, a6⟩, o4, fun g b h => h, fun g b h => .inl h, o7⟩
structure Tab where
 sh : List (Nat × (Bool × Nat))
 fo : List (Nat × List (Nat × Nat))
def ShOk (P : Program) : List (Nat × (Bool × Nat)) → Prop
 | [] => True
 | p :: r => shape P p.1 = some p.2 ∧ ShOk P r
def FldOk (P : Program) (s : Nat) : List (Nat × Nat) → Prop
 | [] => True
 | p :: r => (∃ fs fd i, P.underlying s = some (.struct fs) ∧ fs[p.1]? = some fd ∧ P.info? fd.type = some i ∧ (i.size == 0) = false ∧ fd.offset = p.2) ∧ FldOk P s r
def FoOk (P : Program) : List (Nat × List (Nat × Nat)) → Prop
 | [] => True
 | p :: r => FldOk P p.1 p.2 ∧ FoOk P r
def TabOk (P : Program) (T : Tab) : Prop := ShOk P T.sh ∧ FoOk P T.fo
def look : List (Nat × α) → Nat → Option α
 | [], _ => none
 | (j, x) :: r, k => cond (Nat.beq k j) (some x) (look r k)
theorem ShOk.get : ∀ {l : List (Nat × (Bool × Nat))}, ShOk P l → ∀ {t v}, look l t = some v → shape P t = some v
 | [], _, t, v, h => by cases h
 | (j, x) :: r, hl, t, v, h => by
  simp only [look] at h
  cases e : Nat.beq t j
  ·rw [e] at h; exact hl.2.get h
  ·rw [e] at h; cases h
   rw [Nat.eq_of_beq_eq_true e]; exact hl.1
theorem FldOk.get {s : Nat} : ∀ {l : List (Nat × Nat)}, FldOk P s l → ∀ {f o}, look l f = some o → ∃ fs fd i, P.underlying s = some (.struct fs) ∧ fs[f]? = some fd ∧ P.info? fd.type = some i ∧ (i.size == 0) = false ∧ fd.offset = o
 | [], _, t, v, h => by cases h
 | (j, x) :: r, hl, t, v, h => by
  simp only [look] at h
  cases e : Nat.beq t j
  ·rw [e] at h; exact hl.2.get h
  ·rw [e] at h; cases h
   rw [Nat.eq_of_beq_eq_true e]; exact hl.1
theorem FoOk.get : ∀ {l : List (Nat × List (Nat × Nat))}, FoOk P l → ∀ {s m}, look l s = some m → FldOk P s m
 | [], _, t, v, h => by cases h
 | (j, x) :: r, hl, t, v, h => by
  simp only [look] at h
  cases e : Nat.beq t j
  ·rw [e] at h; exact hl.2.get h
  ·rw [e] at h; cases h
   rw [Nat.eq_of_beq_eq_true e]; exact hl.1
def stp (T : Tab) (ops : Array Oper) (N : Nat) (o : Oper) (sl : Nat → Option Slot) (H : Heap) : Option ((Nat → Option Slot) × Heap) :=
 cond (dstB N o.dst) (match guardOf ops sl o with
 | none => none
 | some false => some (setD sl o.dst (some (.tup [])), H)
 | some true => match o.op with
  | .move x => match opnd sl x with
   | some s => some (setD sl o.dst (some s), H)
   | none => none
  | .assign x => match opnd sl x with
   | some s => some (setD sl o.dst (some s), H)
   | none => none
  | .binOp op _ x y _ => match opnd sl x with
   | some (.v (.one (.imm a))) => match opnd sl y with
    | some (.v (.one (.imm b))) => match binV op a b with
     | some r => cond (isImm r) (some (setD sl o.dst (some (im r)), H)) none
     | none => none
    | _ => none
   | _ => none
  | .pick c a b => match opnd sl c with
   | some (.v (.one (.imm (.bool true)))) => match opnd sl a with
    | some s => some (setD sl o.dst (some s), H)
    | none => none
   | some (.v (.one (.imm (.bool false)))) => match opnd sl b with
    | some s => some (setD sl o.dst (some s), H)
    | none => none
   | _ => none
  | .extract t i => match opnd sl t with
   | some (.tup xs) => match xs[i]? with
    | some x => some (setD sl o.dst (some (.v x)), H)
    | none => none
   | _ => none
  | .unOp .not _ x => match opnd sl x with
   | some (.v (.one (.imm (.bool a)))) => some (setD sl o.dst (some (im (.bool (!a)))), H)
   | _ => none
  | .nilCheck y => match opnd sl y with
   | some (.v (.one c)) => cond (H.live c) (some (setD sl o.dst (some (.v (.one c))), H)) none
   | _ => none
  | .fieldAddr s y f => match opnd sl y with
   | some (.v (.one c)) => match look T.fo s with
    | some m => match look m f with
     | some off => match c.shift off with
      | some c' => cond (H.live c) (some (setD sl o.dst (some (.v (.one c'))), H)) none
      | none => none
     | none => none
    | none => none
   | _ => none
  | .load t y => match look T.sh t with
   | some (ag, n) => match opnd sl y with
    | some (.v (.one (.ptr q j))) => match H.boxes q with
     | some cs => cond (Nat.ble (j + n) cs.length) (match mkV ag ((cs.drop j).take n) with
      | some x => some (setD sl o.dst (some (.v x)), H)
      | none => none) none
     | none => none
    | some (.v (.one (.pe g el j))) => cond (Nat.ble (j + n) el.length) (match mkV ag (((el.drop j).take n).map (ldC g)) with
      | some x => some (setD sl o.dst (some (.v x)), H)
      | none => none) none
    | _ => none
   | none => none
  | .store t y z => match look T.sh t with
   | some (_, n) => match opnd sl y with
    | some (.v (.one (.ptr q j))) => match H.boxes q with
     | some cs => match opnd sl z with
      | some (.v x) => cond (Nat.beq x.cells.length n && Nat.ble (j + n) cs.length) (some (setD sl o.dst none, Heap.setBox H q (spl x.cells j cs))) none
      | _ => none
     | none => none
    | _ => none
   | none => none
  | _ => none) none
def runO (T : Tab) (ops : Array Oper) (N : Nat) : Nat → List Oper → (Nat → Option Slot) → Heap → Option (List Oper × (Nat → Option Slot) × Heap)
 | 0, l, sl, H => some (l, sl, H)
 | _ + 1, [], _, _ => none
 | n + 1, o :: l, sl, H => match stp T ops N o sl H with
  | some (sl', H') => runO T ops N n l sl' H'
  | none => none
section
variable {P : Program} {F : Fix} {ops : Array Oper} {Q : St → Prop} {N : Nat}
variable {H' : Heap} {rest : List Oper} {T : Tab}
theorem stp_ok (hT : TabOk P T) (hn : F.n = N) {o : Oper} {sl' : Nat → Option Slot} {H : Heap} (h : stp T ops N o sl H = some (sl', H')) (k : WpL P F ops Q rest ⟨sl', H'⟩) : WpL P F ops Q (o :: rest) ⟨sl, H⟩ := by
 obtain ⟨dst, op, ty, pos, aft, grd⟩ := o
 unfold stp at h
 cases hd : dstB N dst with
 | false => simp only [hd, cond_false] at h; cases h
 | true =>
 simp only [hd, cond_true] at h
 split at h
 ·cases h
 ·rename_i hg
  cases h
  exact of k hn hg hd
 ·rename_i hg
  split at h
  all_goals first | (cases h; done) | skip
  ·split at h
   ·rename_i hx; cases h; exact mv k hn hg hd hx
   ·cases h
  ·split at h
   ·rename_i hx; cases h; exact ag k hn hg hd hx
   ·cases h
  ·split at h
   ·rename_i hx
    split at h
    ·rename_i hy
     split at h
     ·rename_i hr
      cases hi : isImm _ with
      | true => rw [hi] at h; cases h; exact bi k hn hg hd hx hy hr hi
      | false => rw [hi] at h; cases h
     ·cases h
    ·cases h
   ·cases h
  ·split at h
   ·rename_i hc
    split at h
    ·rename_i hx; cases h; exact pk k hn hg hd hc hx
    ·cases h
   ·rename_i hc
    split at h
    ·rename_i hx; cases h; exact pk k hn hg hd hc hx
    ·cases h
   ·cases h
  ·split at h
   ·rename_i ht
    split at h
    ·rename_i hx; cases h; exact ex k hn hg hd ht hx
    ·cases h
   ·cases h
  ·split at h
   ·rename_i hx; cases h; exact nt k hn hg hd hx
   ·cases h
  ·split at h
   ·rename_i hy
    cases hl : H.live _ with
    | true => rw [hl] at h; cases h; exact _root_.Go.MG.L.nilCheck hn hg hd hy hl k
    | false => rw [hl] at h; cases h
   ·cases h
  ·split at h
   ·rename_i hy
    split at h
    ·rename_i hm
     split at h
     ·rename_i ho
      split at h
      ·rename_i hc
       cases hl : H.live _ with
       | true =>
        rw [hl] at h; cases h
        obtain ⟨fs, fd, i, g1, g2, g3, g4, g5⟩ := (hT.2.get hm).get ho
        exact fa g1 g3 k g2 rfl g4 hn hg hd hy (by rw [g5]; exact hc) hl
       | false => rw [hl] at h; cases h
      ·cases h
     ·cases h
    ·cases h
   ·cases h
  ·split at h
   ·rename_i hs
    split at h
    ·rename_i hy
     split at h
     ·rename_i hb
      cases hl : Nat.ble _ _ with
      | true =>
       rw [hl] at h
       simp only [cond_true] at h
       split at h
       ·rename_i hx; cases h; exact lp (hT.1.get hs) k hn hg hd hy hb hl hx
       ·cases h
      | false => rw [hl] at h; cases h
     ·cases h
    ·rename_i hy
     cases hl : Nat.ble _ _ with
     | true =>
      rw [hl] at h
      simp only [cond_true] at h
      split at h
      ·rename_i hx; cases h; exact le (hT.1.get hs) k hn hg hd hy hl hx
      ·cases h
     | false => rw [hl] at h; cases h
    ·cases h
   ·cases h
  ·split at h
   ·rename_i hs
    split at h
    ·rename_i hy
     split at h
     ·rename_i hb
      split at h
      ·rename_i x hz
       cases h1 : Nat.beq x.cells.length _ with
       | true =>
        cases h2 : Nat.ble _ _ with
        | true =>
         rw [h1, h2] at h
         cases h
         exact sp (hT.1.get hs) k hn hg hd hy hb hz (Nat.eq_of_beq_eq_true h1) h2
        | false => rw [h1, h2] at h; cases h
       | false => rw [h1] at h; cases h
      ·cases h
     ·cases h
    ·cases h
   ·cases h
theorem runO_ok (hT : TabOk P T) (hn : F.n = N) : ∀ {n : Nat} {l r : List Oper} {sl sl' : Nat → Option Slot} {H H' : Heap}, runO T ops N n l sl H = some (r, sl', H') → WpL P F ops Q r ⟨sl', H'⟩ → WpL P F ops Q l ⟨sl, H⟩
 | 0, l, r, sl, sl', H, H', h, k => by simp only [runO] at h; cases h; exact k
 | n + 1, [], r, sl, sl', H, H', h, k => by simp only [runO] at h; cases h
 | n + 1, o :: l, r, sl, sl', H, H', h, k => by
  simp only [runO] at h
  split at h
  ·rename_i h1; exact stp_ok hT hn h1 (runO_ok hT hn h k)
  ·cases h
theorem goT (hT : TabOk P T) (n : Nat) {r : List Oper} {sl' : Nat → Option Slot} {H : Heap} (k : WpL P F ops Q r ⟨sl', H'⟩) (hn : F.n = N) (h : runO T ops N n l sl H = some (r, sl', H')) : WpL P F ops Q l ⟨sl, H⟩ := runO_ok hT hn h k
theorem en {f : FuncId} (hf : P.funcs[f]? = some fn) (hb : fn.body.isSome = true := by rfl) (hn : fn.name ≠ "runtime.NumGoroutine" := by decide) : Enters P f := ⟨fn, hf, hb, hn⟩
variable {dst : Option Nat} {ty : TypeId} {pos : String} {aft : Array Edge} {grd : Option (Nat × Bool)} {rest : List Oper} {sl : Nat → Option Slot} {H : Heap}
variable {vs : List (Bool × V)} {caps : List Cell} {tys : Array TypeId} {args : Array Operand} {x : Operand}
theorem cB {f : FuncId} {ρ : Type} {o : Option ρ} {g : ρ → Option α} {r0 : α} {res : ρ → List V} (kb : Nat) (hf : Enters P f) (hh : ∀ y, o = some y → Gives P f xs [] (res y) []) (HH : o.bind g = some r0) (k : ∀ y, g y = some r0 → WpL P F ops Q rest ⟨setD sl dst (some (slotOf (namedVs kb (res y)))), (H2.internVs kb (res y)).1.takeOuts (kb + ((res y).flatMap V.cells).length) ([] : List Nat) []⟩) (hn : F.n = N := by exact rfl) (hg : guardOf ops sl ⟨dst, .call { callee := .value x, args := args, argTypes := tys }, ty, pos, aft, grd⟩ = some true := by exact rfl) (hd : dstB N dst = true := by exact rfl) (hx : opnd sl x = some (.v (.one (.clo f caps))) := by exact rfl) (hm : (args.toList.map fun _ => false).length = args.size := by exact rfl) (hvs : callArgs (opnd sl) ((args.toList.map fun _ => false).zip args.toList) = some vs := by exact rfl) (hpass : H.passVs (fun k => ([] : List Nat).idxOf? k) ([] : List Nat) (vs ++ caps.map fun c => (false, .one c)) = some (H1, xs) := by exact rfl) (houts : H1.giveOuts ([] : List Nat) = some (H2, []) := by exact rfl) (hL : ([] : List Nat).all (fun k => (H2.rows k).isSome) = true := by exact rfl) (hgood : ∀ y, goodB H2 ([] : List Nat) kb (res y) [] = true := by intro y; exact rfl) : WpL P F ops Q (⟨dst, .call { callee := .value x, args := args, argTypes := tys }, ty, pos, aft, grd⟩ :: rest) ⟨sl, H⟩ := by
 obtain ⟨y, h1, h2⟩ := bindS HH
 exact c0 kb hf (hh y h1) (k y h2) hn hg hd hx hm hvs hpass houts hL (hgood y)
end
end Go.MG
