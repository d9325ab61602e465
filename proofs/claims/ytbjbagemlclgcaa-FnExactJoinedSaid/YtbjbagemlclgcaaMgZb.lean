/- Regions whose operations may come up in any order: the rules. -/
import Derived.Test.YtbjbagemlclgcaaMgZa
namespace Go.MG
set_option linter.unusedSimpArgs false
set_option linter.unusedVariables false
set_option linter.unnecessarySimpa false

def kindV : Op → Bool
  | .move _ | .assign _ | .pick .. | .extract .. | .field .. | .index .. | .indexAddr .. | .slice .. | .fieldAddr .. | .binOp .. | .unOp .. | .convert .. | .load .. | .build .. | .makeFunc .. | .nilCheck _ => true
  | .call { callee := .builtin .len, .. } | .call { callee := .builtin .min, .. } | .call { callee := .builtin .max, .. } => true
  | _ => false

def Vals (P : Program) (m : Sem Next) : Prop := ∀ w r w1, m.run P w = .ok r w1 → ∃ v, r = .value v
theorem Vals.v {P : Program} {m : Sem Value} : Vals P (do pure (.value (← m)) : Sem Next) := by
  intro w r w1 e
  rw [Sem.run_bind] at e
  obtain ⟨a, w0, e1, e2⟩ := andThen_ok e
  simp only [Sem.run_pure, Result.ok.injEq] at e2
  exact ⟨a, e2.1.symm⟩
theorem Vals.pure {P : Program} {v : Value} : Vals P (pure (.value v) : Sem Next) := by
  intro w r w1 e
  simp only [Sem.run_pure, Result.ok.injEq] at e
  exact ⟨v, e.1.symm⟩
theorem Vals.never {P : Program} {m : Sem Next} (h : Never m) : Vals P m := fun w r w1 e => absurd e (h P w r w1)
theorem Vals.bind {P : Program} {α : Type} {m : Sem α} {f : α → Sem Next} (h : ∀ a, Vals P (f a)) : Vals P (m >>= f) := by
  intro w r w1 e
  rw [Sem.run_bind] at e
  obtain ⟨a, w0, e1, e2⟩ := andThen_ok e
  exact h a _ _ _ e2
theorem vals_kind {P : Program} {o : Oper} (h : kindV o.op = true) (ev : Operand → Value) : Vals P (execOp ev o) := by
  obtain ⟨dst, op, ty, pos, aft, grd⟩ := o
  cases op with
  | move x => exact Vals.pure
  | assign x => exact Vals.pure
  | pick c a b => exact Vals.bind fun _ => Vals.pure
  | nilCheck x =>
    simp only [execOp]
    split
    · exact Vals.never (Never.runtimePanic _)
    · exact Vals.never (Never.runtimePanic _)
    · exact Vals.never (Never.runtimePanic _)
    · split
      · exact Vals.never (Never.runtimePanic _)
      · refine Vals.bind fun p => Vals.bind fun b => ?_
        split
        · exact Vals.bind fun _ => Vals.pure
        · exact Vals.pure
      · exact Vals.pure
    · exact Vals.pure
  | call c =>
    obtain ⟨callee, args, tys⟩ := c
    cases callee with
    | builtin b =>
      cases b with
      | len => exact Vals.v (m := Builtin.len_ tys ty (args.map ev))
      | min => exact Vals.v (m := Builtin.min_ tys ty (args.map ev))
      | max => exact Vals.v (m := Builtin.max_ tys ty (args.map ev))
      | _ => simp [kindV] at h
    | _ => simp [kindV] at h
  | _ => first | exact Vals.v | simp [kindV] at h

section
variable {P : Program} {F : Fix} {ops : Array Oper}

abbrev QN (F : Fix) (Q : St → Prop) : Exit → Act → World → Prop := fun e a' w' => ∃ σ', e = .normal ∧ Q σ' ∧ Rel F σ' a' w'
def WpA (P : Program) (F : Fix) (ops : Array Oper) (Q : St → Prop) (fuel : Nat) (listed : Array Bool) (σ : St) : Prop :=
  ∀ a w, Rel F σ a w → wpAny P .any ops (QN F Q) fuel listed a w
def WpS (P : Program) (F : Fix) (ops : Array Oper) (Q : St → Prop) (l : List Oper) (σ : St) : Prop :=
  ∀ a w, Rel F σ a w → wpStill P ops w (fun a' => ∃ σ', Q σ' ∧ Rel F σ' a' w) l a

theorem noLets {Q : St → Prop} : ¬ LetsOut (QN F Q) := by
  rintro ⟨a, w, σ', h, _⟩
  cases h

theorem Rel.drew {σ : St} {a : Act} {w : World} (h : Rel F σ a w) : Rel F σ a { w with drawn := w.drawn + 1 } := by
  obtain ⟨E, rfl, hH, hS, hP⟩ := h
  have c : Chg F E { E.w with drawn := E.w.drawn + 1 } := ⟨rfl, rfl, rfl, Nat.le_refl _, fun b _ h => absurd rfl h⟩
  exact ⟨{ E with w := { E.w with drawn := E.w.drawn + 1 } }, rfl, hH.chg c, hS.keep (Sub.chg hH c _) (fun _ h => h), hP.sub (Sub.chg hH c _) fun _ h => h⟩

theorem A.begin {id : Nat} {Q : Exit → St → Prop} {σ : St} {n : Nat} {l : Array Bool} (hm : P.follows .mixedOrders = true) (hn : ops.size = n) (hl : Array.replicate ops.size false = l)
    (h : ∀ W : Nat → Array Bool → St → Prop, (∀ f l σ, WpA P F ops (Q .normal) f l σ → W f l σ) → (∀ f l σ, W f l σ → WpA P F ops (Q .normal) f l σ) → W n l σ) : WpC P F (.region id ops true) Q σ := by
  subst hn; subst hl
  replace h := h (WpA P F ops (Q .normal)) (fun _ _ _ h => h) (fun _ _ _ h => h)
  intro a w hr
  refine wp_mono (wp_region_any hm (h a _ hr.drew)) fun e a' w' => ?_
  rintro ⟨σ', rfl, h1, h2⟩
  exact ⟨σ', h1, h2⟩

theorem A.done {Q : St → Prop} {fuel : Nat} {listed : Array Bool} {σ : St} (hr : (Region.ready .any ops listed).isEmpty = true) (h : Q σ) : WpA P F ops Q fuel listed σ := fun a w hrel =>
  wpAny_done (by simpa using hr) ⟨σ, rfl, h, hrel⟩ fuel

theorem wpOp_turn {Q Q' : Exit → Act → World → Prop} {i : Nat} {K K' : Act → World → Prop} {a : Act} {w : World} (hp : ∀ c a w, Q (.panic c) a w → Q' (.panic c) a w) (hl : LetsOut Q → LetsOut Q') (hk : ∀ a w, K a w → K' a w) (h : wpOp P ops Q i K a w) : wpOp P ops Q' i K' a w := by
  unfold wpOp at *
  split
  · exact hk _ _ (by simpa [*] using h)
  · rename_i o ho
    simp only [ho] at h
    split
    · rename_i hw
      simp only [hw, if_true] at h
      refine h.imp ?_ (fun h => ⟨h.1, hl h.2⟩)
      intro hh
      unfold Oper.wp at *
      generalize (execOp a.eval o).run P w = r at *
      cases r with
      | ok n w' =>
        cases n <;> simp only [Oper.upon] at hh ⊢ <;>
          first
            | exact hk _ _ hh
            | exact Calls.mono hh (fun e w'' he => by cases e <;> first | exact hk _ _ he | exact hp _ _ _ he | exact hl he)
            | exact Rows.mono hh (fun _ _ he => hk _ _ he)
      | halt x w' => cases x <;> simp only [Oper.upon] at hh ⊢ <;> first | exact hh | exact hp _ _ _ hh
    · rename_i hw
      simp only [hw] at h
      exact hk _ _ h

/-- Whichever comes up. -/
def Each (P : Program) (F : Fix) (ops : Array Oper) (Q : St → Prop) (fuel : Nat) (listed : Array Bool) (σ : St) : List Nat → Prop
  | [] => True
  | i :: is => (∃ o, ops[i]? = some o ∧ WpL P F ops (WpA P F ops Q fuel (listed.setIfInBounds i true)) [o] σ) ∧ Each P F ops Q fuel listed σ is
theorem Each.get {Q : St → Prop} {fuel : Nat} {listed : Array Bool} {σ : St} : ∀ {is : List Nat}, Each P F ops Q fuel listed σ is → ∀ i ∈ is, ∃ o, ops[i]? = some o ∧ WpL P F ops (WpA P F ops Q fuel (listed.setIfInBounds i true)) [o] σ
  | [], _, i, hi => by cases hi
  | j :: js, h, i, hi => by
    rcases List.mem_cons.1 hi with rfl | hi
    · exact h.1
    · exact Each.get h.2 i hi
theorem A.all {Q : St → Prop} {fuel : Nat} {listed : Array Bool} {σ : St} (rs : List Nat) (hr : Region.ready .any ops listed = rs) (hne : rs.isEmpty = false) (h : Each P F ops Q fuel listed σ rs) : WpA P F ops Q (fuel + 1) listed σ := by
  intro a w hrel
  refine wpAny_all hr (by intro e; rw [e] at hne; cases hne) fun i hi => ?_
  obtain ⟨o, ho, hL⟩ := h.get i hi
  have := hL [i] (by simp [ho]) a w hrel
  rw [wpOps_cons] at this
  refine wpOp_turn (fun c a w h => ?_) (fun h => (noLets h).elim) (fun a' w' h => ?_) this
  · obtain ⟨_, h, _⟩ := h; cases h
  · obtain ⟨σ', _, h1, h2⟩ := h
    exact h1 a' w' h2

theorem once {i : Nat} {o : Oper} {sl : Nat → Option Slot} {H : Heap} {σ1 : St} (ho : ops[i]? = some o) (hv : kindV o.op = true) (hL : ∀ Q0 : St → Prop, Q0 σ1 → WpL P F ops Q0 [o] ⟨sl, H⟩) {a : Act} {w : World} (hrel : Rel F ⟨sl, H⟩ a w) :
    (Region.wanted o (yielded ops a.tmps) = true ∧ ∃ v w', (execOp a.eval o).run P w = .ok (.value v) w' ∧ Rel F σ1 (a.put o.dst v) w') ∨ (Region.wanted o (yielded ops a.tmps) = false ∧ Rel F σ1 (a.put o.dst undef) w) := by
  have := hL (fun σ' => σ' = σ1) rfl [i] (by simp [ho]) a w hrel
  simp only [wpOps, ho] at this
  split at this
  · rename_i hw
    left
    refine ⟨hw, ?_⟩
    rcases this with h | ⟨_, h⟩
    · unfold Oper.wp at h
      cases hrun : (execOp a.eval o).run P w with
      | ok r w' =>
        obtain ⟨v, rfl⟩ := vals_kind (P := P) hv a.eval w r w' hrun
        rw [hrun, Oper.upon_value] at h
        obtain ⟨σ', _, rfl, h2⟩ := h
        exact ⟨v, w', rfl, h2⟩
      | halt x w' =>
        rw [hrun] at h
        cases x <;> simp only [Oper.upon] at h
        obtain ⟨_, h, _⟩ := h
        cases h
    · exact (noLets h).elim
  · rename_i hw
    right
    obtain ⟨σ', _, rfl, h2⟩ := this
    exact ⟨by simpa using hw, h2⟩

/-- What does the same in whatever world may be taken first. -/
theorem A.take {Q : St → Prop} {fuel : Nat} {listed : Array Bool} {sl : Nat → Option Slot} {H : Heap} {σ1 : St} {o : Oper} (i : Nat) (ho : ops[i]? = some o) (hs : Region.noSelect ops = true) (hf : Region.free .any ops listed i = true) (hr : (Region.ready .any ops listed).contains i = true)
    (hv : kindV o.op = true) (hc : CalmAt P F sl H o) (hL : ∀ Q0 : St → Prop, Q0 σ1 → WpL P F ops Q0 [o] ⟨sl, H⟩) (k : WpA P F ops Q fuel (listed.setIfInBounds i true) σ1) : WpA P F ops Q (fuel + 1) listed ⟨sl, H⟩ := by
  intro a w hrel
  have key : ∃ v, Yields P ops o v a ∧ Rel F σ1 (a.put o.dst v) w := by
    rcases once ho hv hL hrel with ⟨h1, v, w', h2, h3⟩ | ⟨h1, h2⟩
    · obtain ⟨E, rfl, hH, hS, hP⟩ := hrel
      obtain ⟨rfl, h4⟩ := hc E a.eval hH (fun x s hx => opnd_ok hS hx) _ _ _ h2
      exact ⟨v, .inl ⟨h1, h4⟩, h3⟩
    · exact ⟨undef, .inr ⟨h1, rfl⟩, h2⟩
  obtain ⟨v, hy, hr1⟩ := key
  refine wpAny_take ho hs hf hr (fun c a w h => ?_) hy (k _ _ hr1)
  obtain ⟨_, h, _⟩ := h
  cases h
theorem A.off {Q : St → Prop} {fuel : Nat} {listed : Array Bool} {sl : Nat → Option Slot} {H : Heap} {o : Oper} {N : Nat} (i : Nat) (ho : ops[i]? = some o) (hs : Region.noSelect ops = true) (hf : Region.free .any ops listed i = true) (hr : (Region.ready .any ops listed).contains i = true)
    (hv : kindV o.op = true) (hn : F.n = N) (hg : guardOf ops sl o = some false) (hd : dstB N o.dst = true) (k : WpA P F ops Q fuel (listed.setIfInBounds i true) ⟨setD sl o.dst (some (.tup [])), H⟩) : WpA P F ops Q (fuel + 1) listed ⟨sl, H⟩ := by
  intro a w hrel
  have hw : Region.wanted o (yielded ops a.tmps) = false := by
    obtain ⟨E, rfl, hH, hS, hP⟩ := hrel
    exact guard_ok hS hg
  rcases once (P := P) ho hv (fun Q0 k0 => L.off hn hg hd (L.nil k0)) hrel with ⟨h1, _⟩ | ⟨h1, h2⟩
  · rw [hw] at h1; cases h1
  refine wpAny_take ho hs hf hr (fun c a w h => ?_) (.inr ⟨h1, rfl⟩) (k _ _ h2)
  obtain ⟨_, h, _⟩ := h
  cases h
theorem A.le {Q : St → Prop} {fuel : Nat} {listed : Array Bool} {σ τ : St} (h : Le F σ τ) (k : WpA P F ops Q fuel listed τ) : WpA P F ops Q fuel listed σ := fun a w hr => k a w (h a w hr)

theorem A.on {Q : St → Prop} {fuel : Nat} {listed : Array Bool} {σ τ : St} (k : WpA P F ops Q fuel listed τ) (h : Le F σ τ) : WpA P F ops Q fuel listed σ := fun a w hr => k a w (h a w hr)

/-! ### regions that only look -/
theorem S.begin {id : Nat} {Q : Exit → St → Prop} {σ : St} (hm : P.follows .mixedOrders = true) (hB : Region.lexB .any ops = true) (h : WpS P F ops (Q .normal) ops.toList σ) : WpC P F (.region id ops true) Q σ := by
  intro a w hr
  refine wp_mono (Q := QN F (Q .normal)) (wp_region_still hm hB ?_) fun e a' w' => ?_
  · have := h a _ hr.drew
    have mono : ∀ (l : List Oper) (a : Act), wpStill P ops { w with drawn := w.drawn + 1 } (fun a' => ∃ σ', Q .normal σ' ∧ Rel F σ' a' { w with drawn := w.drawn + 1 }) l a → wpStill P ops { w with drawn := w.drawn + 1 } (fun a' => QN F (Q .normal) .normal a' { w with drawn := w.drawn + 1 }) l a := by
      intro l
      induction l with
      | nil => intro a h; obtain ⟨σ', h1, h2⟩ := h; exact ⟨σ', rfl, h1, h2⟩
      | cons o l ih =>
        intro a h
        unfold wpStill at h ⊢
        split at h
        · rename_i hw
          rw [if_pos hw]
          unfold Oper.still at h ⊢
          generalize (execOp a.eval o).run P { w with drawn := w.drawn + 1 } = r at h ⊢
          cases r with
          | ok n w' =>
            cases n <;> simp only [Oper.stillUpon] at h ⊢ <;> first
              | exact ⟨h.1, ih _ h.2⟩
              | (obtain ⟨h1, v, h2, h3⟩ := h; exact ⟨h1, v, h2, ih _ h3⟩)
          | halt x w' => simp only [Oper.stillUpon] at h
        · rename_i hw
          rw [if_neg hw]
          exact ih _ h
    exact mono _ _ this
  · rintro ⟨σ', rfl, h1, h2⟩
    exact ⟨σ', h1, h2⟩
theorem S.nil {Q : St → Prop} {σ : St} (h : Q σ) : WpS P F ops Q [] σ := fun a w hr => ⟨σ, h, hr⟩
theorem S.st {Q : St → Prop} {sl : Nat → Option Slot} {H : Heap} {σ1 : St} {o : Oper} {rest : List Oper} (i : Nat) (ho : ops[i]? = some o) (hv : kindV o.op = true) (hc : QuietAt P F sl H o) (hL : ∀ Q0 : St → Prop, Q0 σ1 → WpL P F ops Q0 [o] ⟨sl, H⟩) (k : WpS P F ops Q rest σ1) : WpS P F ops Q (o :: rest) ⟨sl, H⟩ := by
  intro a w hrel
  unfold wpStill
  rcases once ho hv hL hrel with ⟨h1, v, w', h2, h3⟩ | ⟨h1, h2⟩
  · rw [if_pos h1]
    obtain ⟨E, rfl, hH, hS, hP⟩ := hrel
    obtain rfl := hc E a.eval hH (fun x s hx => opnd_ok hS hx) _ _ _ h2
    unfold Oper.still
    rw [h2, Oper.stillUpon_value]
    exact k _ _ h3
  · rw [if_neg (by simp [h1])]
    exact k _ _ h2
theorem S.off {Q : St → Prop} {sl : Nat → Option Slot} {H : Heap} {o : Oper} {rest : List Oper} {N : Nat} (i : Nat) (ho : ops[i]? = some o) (hv : kindV o.op = true) (hn : F.n = N) (hg : guardOf ops sl o = some false) (hd : dstB N o.dst = true) (k : WpS P F ops Q rest ⟨setD sl o.dst (some (.tup [])), H⟩) : WpS P F ops Q (o :: rest) ⟨sl, H⟩ := by
  intro a w hrel
  unfold wpStill
  have hw : Region.wanted o (yielded ops a.tmps) = false := by
    obtain ⟨E, rfl, hH, hS, hP⟩ := hrel
    exact guard_ok hS hg
  rcases once (P := P) ho hv (fun Q0 k0 => L.off hn hg hd (L.nil k0)) hrel with ⟨h1, _⟩ | ⟨h1, h2⟩
  · rw [hw] at h1; cases h1
  · rw [if_neg (by simp [h1])]
    exact k _ _ h2
theorem S.le {Q : St → Prop} {l : List Oper} {σ τ : St} (h : Le F σ τ) (k : WpS P F ops Q l τ) : WpS P F ops Q l σ := fun a w hr => k a w (h a w hr)
theorem S.split {Q : St → Prop} {l : List Oper} {sl : Nat → Option Slot} {d : Option Nat} {H : Heap} {c : Bool} (h1 : c = true → WpS P F ops Q l ⟨setD sl d (some (im (.bool true))), H⟩) (h0 : c = false → WpS P F ops Q l ⟨setD sl d (some (im (.bool false))), H⟩) :
    WpS P F ops Q l ⟨setD sl d (some (im (.bool c))), H⟩ := by
  cases c with
  | true => exact h1 rfl
  | false => exact h0 rfl
end
end Go.MG
