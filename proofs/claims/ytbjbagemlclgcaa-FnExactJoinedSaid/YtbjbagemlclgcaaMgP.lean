/- Rules for code; how a function's contract is shown of its body. -/
import Derived.Test.YtbjbagemlclgcaaMgO
import Derived.Laws.Sem
namespace Go.MG

section
variable {P : Program} {F : Fix} {Q : Exit → St → Prop}

theorem WpC.skip {σ : St} (h : Q .normal σ) : WpC P F .skip Q σ := fun _ _ hr => wp_skip ⟨σ, h, hr⟩
theorem WpC.exit {σ : St} {id : Nat} (h : Q (.exit id) σ) : WpC P F (.exit id) Q σ := fun _ _ hr => wp_exit ⟨σ, h, hr⟩
theorem WpC.ret {σ : St} (h : Q .ret σ) : WpC P F .ret Q σ := fun _ _ hr => wp_ret ⟨σ, h, hr⟩

def thenA (next : St → Prop) (Q : Exit → St → Prop) : Exit → St → Prop
  | .normal, σ => next σ
  | e, σ => Q e σ
theorem WpC.seq {x y : Code} {σ : St} (h : WpC P F x (thenA (WpC P F y Q) Q) σ) : WpC P F (.seq x y) Q σ := by
  intro a w hr
  refine wp_seq (wp_mono (h a w hr) ?_)
  rintro e a' w' ⟨σ', h1, h2⟩
  cases e with
  | normal => exact h1 a' w' h2
  | _ => exact ⟨σ', h1, h2⟩

/-- Cut behind the first part. -/
theorem WpC.cut (I : St → Prop) {x y : Code} {σ : St} (h : WpC P F x (thenA I Q) σ) (h' : ∀ σ, I σ → WpC P F y Q σ) : WpC P F (.seq x y) Q σ := by
  refine WpC.seq fun a w hr => wp_mono (h a w hr) ?_
  rintro e a' w' ⟨σ', h1, h2⟩
  cases e with
  | normal => exact ⟨σ', h' _ h1, h2⟩
  | _ => exact ⟨σ', h1, h2⟩

theorem WpC.cond {c : Operand} {x y : Code} {σ : St} {t : Bool} (hc : opnd σ.slots c = some (im (.bool t))) (h1 : t = true → WpC P F x Q σ) (h2 : t = false → WpC P F y Q σ) : WpC P F (.cond c x y) Q σ := by
  intro a w hr
  have hr' := hr
  obtain ⟨E, hw, hH, hS, hP⟩ := hr
  have := (opnd_ok hS hc).1
  simp only [RSlot, RV, RC] at this
  exact wp_cond_split this.1 (fun e => h1 e a w hr') (fun e => h2 e a w hr')

def blockA (id : Nat) (Q : Exit → St → Prop) : Exit → St → Prop
  | .exit id', σ => if id' = id then Q .normal σ else Q (.exit id') σ
  | e, σ => Q e σ
theorem WpC.block {id : Nat} {c : Code} {σ : St} (h : WpC P F c (blockA id Q) σ) : WpC P F (.block id c) Q σ := by
  intro a w hr
  refine wp_block (wp_mono (h a w hr) ?_)
  rintro e a' w' ⟨σ', h1, h2⟩
  cases e with
  | exit id' =>
    simp only [blockA] at h1
    simp only [Exit.inBlock]
    split at h1
    · rename_i he; rw [if_pos he]; exact ⟨σ', h1, h2⟩
    · rename_i he; rw [if_neg he]; exact ⟨σ', h1, h2⟩
  | _ => exact ⟨σ', h1, h2⟩

/-- A loop, with an invariant that tells how many rounds are left at most. -/
theorem WpC.loop {c : Code} (I : Nat → St → Prop) {σ : St} (n : Nat) (h0 : I n σ) (round : ∀ n σ, I n σ → WpC P F c (thenA (fun σ' => ∃ m, m < n ∧ I m σ') Q) σ) : WpC P F (.loop c) Q σ := by
  intro a w hr b k cs
  have key : ∀ n σ a w, I n σ → Rel F σ a w →
      ∃ e a' w', (∃ σ', Q e σ' ∧ Rel F σ' a' w') ∧ Arrives P (lone (b.at a (.code c :: .inLoop c :: k)) cs w) b k cs e a' w' := by
    intro n
    induction n using Nat.strongRecOn with
    | _ n ih =>
      intro σ a w hI hr
      obtain ⟨e, a₁, w₁, ⟨σ₁, hq, hr₁⟩, harr⟩ := round n σ hI a w hr b (.inLoop c :: k) cs
      cases e with
      | normal =>
        obtain ⟨m, hm, hI₁⟩ := hq
        obtain ⟨e₂, a₂, w₂, hq₂, harr₂⟩ := ih m hm σ₁ a₁ w₁ hI₁ hr₁
        exact ⟨e₂, a₂, w₂, hq₂, .of_steps (Steps.trans harr (.one step_inLoop)) harr₂⟩
      | exit id => exact ⟨_, a₁, w₁, ⟨σ₁, hq, hr₁⟩, .pass (x := .inLoop c) rfl (fun _ _ => .inl (by simp)) harr⟩
      | goto l => exact ⟨_, a₁, w₁, ⟨σ₁, hq, hr₁⟩, .pass (x := .inLoop c) rfl (fun _ _ => .inl (by simp)) harr⟩
      | ret => exact ⟨_, a₁, w₁, ⟨σ₁, hq, hr₁⟩, .pass (x := .inLoop c) rfl (fun _ _ => .inl (by simp)) harr⟩
      | panic ch => exact ⟨_, a₁, w₁, ⟨σ₁, hq, hr₁⟩, .pass (x := .inLoop c) rfl (fun _ _ => .inl (by simp)) harr⟩
      | outgrown => exact ⟨_, a₁, w₁, ⟨σ₁, hq, hr₁⟩, .pass (x := .inLoop c) rfl (fun _ _ => .inl (by simp)) harr⟩
  obtain ⟨e, a', w', hq, harr⟩ := key n σ a w h0 hr
  exact ⟨e, a', w', hq, .of_steps (.one step_loop) harr⟩

theorem WpC.region {id : Nat} {ops : Array Oper} {σ : St} {l : List Nat} (hl : List.range ops.size = l) (h : WpO P F ops (Q .normal) l σ) : WpC P F (.region id ops false) Q σ := by
  intro a w hr
  refine wp_region ?_
  rw [hl]
  have mono : ∀ (Q Q' : Exit → Act → World → Prop), (∀ e a w, Q e a w → Q' e a w) → ∀ l a w, wpOps P ops Q l a w → wpOps P ops Q' l a w := by
    intro Q Q' hQ l
    induction l with
    | nil => intro a w h; exact hQ _ _ _ h
    | cons i rest ih =>
      intro a w h
      simp only [wpOps] at h ⊢
      cases ho : ops[i]? with
      | none => rw [ho] at h; exact ih _ _ h
      | some o =>
        simp only [ho] at h ⊢
        split at h
        · rename_i hw
          rw [if_pos hw]
          rcases h with h | ⟨h1, a0, w0, h2⟩
          · left
            simp only [Oper.wp, Oper.upon] at h ⊢
            split at h
            · exact ih _ _ h
            · exact ih _ _ h
            · exact ih _ _ h
            · refine h.mono fun e w' h' => ?_
              cases e with
              | returned v => exact ih _ _ h'
              | panicked c => exact hQ _ _ _ h'
              | outgrown => obtain ⟨a0, w0, h0⟩ := h'; exact ⟨a0, w0, hQ _ _ _ h0⟩
            · exact h.mono fun v w' h' => ih _ _ h'
            · exact hQ _ _ _ h
            · exact h.elim
          · exact .inr ⟨h1, a0, w0, hQ _ _ _ h2⟩
        · rename_i hw
          rw [if_neg hw]
          exact ih _ _ h
  refine mono _ _ ?_ l a w (h a w hr)
  rintro e a' w' ⟨σ', rfl, h1, h2⟩
  exact ⟨σ', h1, h2⟩

theorem WpC.mono {c : Code} {Q' : Exit → St → Prop} {σ : St} (h : WpC P F c Q σ) (hq : ∀ e σ, Q e σ → Q' e σ) : WpC P F c Q' σ :=
  fun a w hr => wp_mono (h a w hr) fun _ _ _ ⟨σ', h1, h2⟩ => ⟨σ', hq _ _ h1, h2⟩
end

/-! ### results -/
def resA (P : Program) (σ : St) : ResultVar → Option V
  | .tmp t => match σ.slots t with
    | some (.v x) => some x
    | _ => none
  | .cell a t => match σ.slots a with
    | some (.v (.one (.ptr k j))) => match σ.H.boxes k, shape P t with
      | some cs, some (ag, n) => if j + n ≤ cs.length then mkV ag ((cs.drop j).take n) else none
      | _, _ => none
    | _ => none
def resAs (P : Program) (σ : St) : List ResultVar → Option (List V)
  | [] => some []
  | r :: rs => match resA P σ r, resAs P σ rs with
    | some x, some xs => some (x :: xs)
    | _, _ => none

def resOne (tmps : Array Value) : ResultVar → Sem Value
  | .tmp t => pure (tmps.getD t undef)
  | .cell a t => do loadVar t (← asAddr (tmps.getD a undef))

theorem resA_ok {P : Program} {F : Fix} {σ : St} {a : Act} {E : Env} (hH : RelH F σ.H E) (hS : RelS F σ.slots σ.H a E) {r : ResultVar} {x : V} (h : resA P σ r = some x) :
    ∃ u, (resOne a.tmps r).run P E.w = .ok u E.w ∧ RV E x u ∧ ∀ k ∈ x.names, σ.H.used k = true := by
  cases r with
  | tmp t =>
    simp only [resA] at h
    split at h
    · rename_i y hy
      cases h
      exact ⟨_, by simp [resOne], hS.slots t _ hy, hS.used t _ hy⟩
    · cases h
  | cell t ty =>
    simp only [resA] at h
    split at h
    · rename_i k j hk
      split at h
      · rename_i cs ag n hcs hsh
        split at h
        · rename_i hl
          have hD := done_load_ptr (P := P) (F := F) (H := σ.H) (E := E) (ρ := opnd σ.slots) (ev := a.eval) (Q := fun s H => s = some (.v x) ∧ H = σ.H) hH (fun y s hy => opnd_ok hS hy) (o := { dst := none, op := .load ty (.tmp t), type := 0, pos := "", after := #[], guard := none }) rfl (y := .tmp t) hk hcs hsh hl h ⟨rfl, rfl⟩
          obtain ⟨rr, E', y, H', h1, ⟨rfl, rfl⟩, h3, h4, h5, h6⟩ := hD
          obtain ⟨u, rfl, h7, h8⟩ := h6
          have hp := hS.slots t _ hk
          simp only [RSlot, RV, RC] at hp
          obtain ⟨g, us, hb, hr, hat, hth⟩ := hH.boxes k cs hcs
          have hp2 := hp.2 g (hH.pt k g hb)
          have hr' : RCs E ((cs.drop j).take n) ((us.drop j).take n) := (hr.drop j).take n
          obtain ⟨u', hm, hR⟩ := load_ok hsh hr' (by simpa using range_part hat j n) (by simp; omega) h
          refine ⟨u', ?_, hR, h8⟩
          have he : a.tmps.getD t undef = .pointer (some ⟨g, 0 + j, none⟩) := by simpa using hp2
          rw [resOne, he]
          simpa [Instr.loadAt, Instr.sureAddr, asAddr] using hm
        · cases h
      · cases h
    · cases h

theorem resAs_ok {P : Program} {F : Fix} {σ : St} {a : Act} {E : Env} (hH : RelH F σ.H E) (hS : RelS F σ.slots σ.H a E) : ∀ {rs : List ResultVar} {xs : List V} (_ : resAs P σ rs = some xs),
    ∃ us, (rs.mapM (resOne a.tmps)).run P E.w = .ok us E.w ∧ RVs E xs us ∧ ∀ k ∈ xs.flatMap V.names, σ.H.used k = true
  | [], xs, h => by simp [resAs] at h; subst h; exact ⟨[], by simp, rfl, by simp⟩
  | r :: rs, xs, h => by
    unfold resAs at h
    split at h
    · rename_i x xs' h1 h2
      cases h
      obtain ⟨u, a1, a2, a3⟩ := resA_ok hH hS h1
      obtain ⟨us, b1, b2, b3⟩ := resAs_ok hH hS h2
      refine ⟨u :: us, by simp [List.mapM_cons, a1, b1], ⟨u, us, rfl, a2, b2⟩, fun k hk => ?_⟩
      simp only [List.flatMap_cons, List.mem_append] at hk
      exact hk.elim (a3 k) (b3 k)
    · cases h

theorem results_ok {P : Program} {F : Fix} {σ : St} {a : Act} {E : Env} (hH : RelH F σ.H E) (hS : RelS F σ.slots σ.H a E) {fn : Func} {xs : List V} (h : resAs P σ fn.results.toList = some xs) :
    ∃ us, (results fn a.tmps).run P E.w = .ok (retVal us) E.w ∧ RVs E xs us ∧ ∀ k ∈ xs.flatMap V.names, σ.H.used k = true := by
  obtain ⟨us, h1, h2, h3⟩ := resAs_ok hH hS h
  refine ⟨us, ?_, h2, h3⟩
  have e : results fn a.tmps = (fn.results.mapM (resOne a.tmps)) >>= fun vs => pure (if h : vs.size = 1 then vs[0] else .tuple vs) := by
    unfold results resOne
    rfl
  rw [e, show fn.results = fn.results.toList.toArray by simp, List.mapM_toArray]
  simp [h1]
  cases us with
  | nil => rfl
  | cons u us => cases us <;> rfl
end Go.MG
