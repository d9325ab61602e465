/- A contract for arguments that are shared for good serves arguments that are lent, where nothing of them comes back. -/
import Derived.Test.YtbjbagemlclgcaaMgZi
namespace Go.MG
set_option linter.unusedVariables false
set_option linter.unusedSimpArgs false
mutual
def Cell.solid : Cell → Bool
  | .imm _ => true
  | .nil => true
  | .ow _ es => rsolid es
  | _ => false
def csolid : List Cell → Bool
  | [] => true
  | c :: cs => c.solid && csolid cs
def rsolid : List (List Cell) → Bool
  | [] => true
  | e :: es => csolid e && rsolid es
end
theorem rsolid_map {α : Type} {e : α → List Cell} (h : ∀ x, csolid (e x) = true) : ∀ xs : List α, rsolid (xs.map e) = true
  | [] => by simp [rsolid]
  | x :: xs => by simp [rsolid, h x, rsolid_map h xs]
def V.solid : V → Bool
  | .one c => c.solid
  | .agg cs => csolid cs
mutual
theorem RXC.env {E E' : Env} (hw : E'.w = E.w) : ∀ {c : Cell} {u : Value} {bs : List Nat}, c.solid = true → RXC E c u bs → RXC E' c u bs
  | .imm v, u, bs, _, h => by simp only [RXC, RC] at h ⊢; exact h
  | .nil, u, bs, _, h => by simp only [RXC, RC] at h ⊢; exact h
  | .ow sz es, u, bs, hs, h => by
    simp only [Cell.solid] at hs
    simp only [RXC] at h ⊢
    obtain ⟨h1, h2, h3⟩ := h
    refine ⟨h1, h2, h3.imp id ?_⟩
    rintro ⟨g, cap, bs', h4, h5, h6, h7, h8⟩
    exact ⟨g, cap, bs', h4, h5, hw ▸ h6, RXRow.env hw hs h7, h8⟩
  | .bx .., u, bs, hs, h => by simp [Cell.solid] at hs
  | .sl .., u, bs, hs, h => by simp [Cell.solid] at hs
  | .own .., u, bs, hs, h => by simp [Cell.solid] at hs
  | .sub .., u, bs, hs, h => by simp [Cell.solid] at hs
  | .ptr .., u, bs, hs, h => by simp [Cell.solid] at hs
  | .ep .., u, bs, hs, h => by simp [Cell.solid] at hs
  | .pe .., u, bs, hs, h => by simp [Cell.solid] at hs
  | .clo .., u, bs, hs, h => by simp [Cell.solid] at hs
  | .raw .., u, bs, hs, h => by simp [Cell.solid] at hs
  | .bad, u, bs, hs, h => by simp [Cell.solid] at hs
theorem RXCs.env {E E' : Env} (hw : E'.w = E.w) : ∀ {cs : List Cell} {us : List Value} {bs : List Nat}, csolid cs = true → RXCs E cs us bs → RXCs E' cs us bs
  | [], _, _, _, h => by simpa only [RXCs] using h
  | c :: cs, _, _, hs, h => by
    simp only [RXCs] at h ⊢
    simp only [csolid, Bool.and_eq_true] at hs
    obtain ⟨u, us', b, bs', rfl, rfl, h1, h2⟩ := h
    exact ⟨u, us', b, bs', rfl, rfl, RXC.env hw hs.1 h1, RXCs.env hw hs.2 h2⟩
theorem RXRow.env {E E' : Env} (hw : E'.w = E.w) : ∀ {b sz : Nat} {es : List (List Cell)} {o : Nat} {bs : List Nat}, rsolid es = true → RXRow E b o sz es bs → RXRow E' b o sz es bs
  | _, _, [], _, _, _, h => by simpa only [RXRow] using h
  | b, sz, e :: es, o, bs, hs, h => by
    simp only [RXRow] at h ⊢
    simp only [rsolid, Bool.and_eq_true] at hs
    obtain ⟨us, b1, b2, rfl, h1, h2, h3, h4⟩ := h
    exact ⟨us, b1, b2, rfl, h1, RXCs.env hw hs.1 h2, hw ▸ h3, RXRow.env hw hs.2 h4⟩
end
theorem RXVs.env {E E' : Env} (hw : E'.w = E.w) : ∀ {xs : List V} {us : List Value} {bs : List Nat}, xs.all V.solid = true → RXVs E xs us bs → RXVs E' xs us bs
  | [], _, _, _, h => h
  | x :: xs, _, _, hs, h => by
    simp only [List.all_cons, Bool.and_eq_true] at hs
    obtain ⟨u, us', b, bs', rfl, rfl, h1, h2⟩ := h
    refine ⟨u, us', b, bs', rfl, rfl, ?_, RXVs.env hw hs.2 h2⟩
    cases x with
    | one c => exact RXC.env hw hs.1 h1
    | agg cs => obtain ⟨vs, e, h3⟩ := h1; exact ⟨vs, e, RXCs.env hw hs.1 h3⟩
def Cell.unl : Cell → Cell
  | .sl _ es => .sl true es
  | c => c
def V.unl : V → V
  | .one c => .one c.unl
  | .agg cs => .agg (cs.map Cell.unl)
def Cell.okA : Cell → Bool
  | .imm _ => true
  | .nil => true
  | .sl .. => true
  | _ => false
def V.okA : V → Bool
  | .one c => c.okA
  | .agg cs => cs.all Cell.okA
theorem Cell.okA_ow {c : Cell} (h : c.okA = true) : c.isOw = false ∧ c.unl.isOw = false := by
  cases c <;> simp [Cell.okA] at h <;> exact ⟨rfl, rfl⟩
theorem RC.unl {w : World} {S : Bool → Nat → Prop} {ob : List Nat} (hS : ∀ b, S true b → S false b) {c : Cell} {u : Value} (hc : c.okA = true) (h : RC (envI w S ob) c u) : RC (envI w (fun _ b => S false b) ob) c.unl u := by
  cases c with
  | imm v => simpa only [RC, Cell.unl] using h
  | nil => simpa only [RC, Cell.unl] using h
  | sl g es =>
    simp only [RC, Cell.unl] at h ⊢
    obtain ⟨hf, a, cap, hu, hle, h⟩ := h
    refine ⟨hf, a, cap, hu, hle, ?_⟩
    have sf : ∀ g b, S g b → S false b := fun g b hg => by cases g; exact hg; exact hS b hg
    rcases h with h | ⟨b, o, sz, ha, hSb, hr⟩
    · exact .inl h
    · refine .inr ⟨b, o, sz, ha, sf g b hSb, ?_⟩
      have s : Sub ((envI w S ob).cap g) ((envI w (fun _ b => S false b) ob).cap true) (fun _ => False) :=
        ⟨fun c b hb => sf _ b hb, fun _ _ _ => rfl, fun _ h => h.elim, fun _ h => h.elim, fun _ h => h.elim⟩
      exact RRow.sub s rfl (fun k hk => by rw [hf.2] at hk; cases hk) hr
  | _ => simp [Cell.okA] at hc
theorem RXCs.unl {w : World} {S : Bool → Nat → Prop} {ob : List Nat} (hS : ∀ b, S true b → S false b) : ∀ {cs : List Cell} {us : List Value} {bs : List Nat}, cs.all Cell.okA = true → RXCs (envI w S ob) cs us bs → RXCs (envI w (fun _ b => S false b) ob) (cs.map Cell.unl) us bs
  | [], _, _, _, h => by simpa only [RXCs, List.map_nil] using h
  | c :: cs, _, _, hs, h => by
    simp only [RXCs, List.map_cons] at h ⊢
    simp only [List.all_cons, Bool.and_eq_true] at hs
    obtain ⟨u, us', b, bs', rfl, rfl, h1, h2⟩ := h
    have o := Cell.okA_ow hs.1
    obtain ⟨h3, rfl⟩ := (RXC.iff o.1).1 h1
    exact ⟨u, us', [], bs', rfl, rfl, (RXC.iff o.2).2 ⟨RC.unl hS hs.1 h3, rfl⟩, RXCs.unl hS hs.2 h2⟩
theorem RXVs.unl {w : World} {S : Bool → Nat → Prop} {ob : List Nat} (hS : ∀ b, S true b → S false b) : ∀ {xs : List V} {us : List Value} {bs : List Nat}, xs.all V.okA = true → RXVs (envI w S ob) xs us bs → RXVs (envI w (fun _ b => S false b) ob) (xs.map V.unl) us bs
  | [], _, _, _, h => h
  | x :: xs, _, _, hs, h => by
    simp only [List.all_cons, Bool.and_eq_true] at hs
    obtain ⟨u, us', b, bs', rfl, rfl, h1, h2⟩ := h
    refine ⟨u, us', b, bs', rfl, rfl, ?_, RXVs.unl hS hs.2 h2⟩
    cases x with
    | one c =>
      have o := Cell.okA_ow hs.1
      obtain ⟨h3, rfl⟩ := (RXC.iff o.1).1 h1
      exact (RXC.iff o.2).2 ⟨RC.unl hS hs.1 h3, rfl⟩
    | agg cs => obtain ⟨vs, e, h3⟩ := h1; exact ⟨vs, e, RXCs.unl hS hs.1 h3⟩
theorem Gives.lend {P : Program} {f : FuncId} {xs ys res : List V} (h : Gives P f ys [] res []) (hy : xs.map V.unl = ys) (hx : xs.all V.okA = true) (hr : res.all V.solid = true) : Gives P f xs [] res [] := by
  intro w S us ob bs obs hin
  subst hy
  obtain ⟨a1, a2, a3, a4, a5, a6⟩ := hin
  have sf : ∀ g b, S g b → S false b := fun g b hg => by cases g; exact hg; exact a6 b hg
  have hin' : InOk w (fun _ b => S false b) (xs.map V.unl) [] us ob bs obs := ⟨RXVs.unl a6 hx a1, a2, a3, fun b hb => ⟨(a4 b hb).1, fun g => (a4 b hb).2 false⟩, fun g b h => a5 false b h, fun b h => h⟩
  refine Calls.mono (h w _ us ob bs obs hin') ?_
  rintro e w' ⟨res', outs', bk, S', us', bs', obs', ⟨rfl, rfl, rfl⟩, ho⟩
  obtain ⟨o1, o2, ⟨b1, b2, b3, b4, b5, b6⟩, o4, o5, o6, o7⟩ := ho
  exact ⟨_, [], [], S, us', bs', obs', ⟨rfl, rfl, rfl⟩, o1, o2, ⟨RXVs.env (show (envI w' S ob).w = (envI w' S' ob).w from rfl) (by simpa using hr) b1, b2, b3, fun b hb => ⟨(b4 b hb).1, fun g hg => (b4 b hb).2 g (o5 g b (sf g b hg))⟩, fun g b hg => Nat.lt_of_lt_of_le (a5 g b hg) o7.size, a6⟩, o4, fun g b h => h, fun g b h => .inl h, o7⟩
end Go.MG
