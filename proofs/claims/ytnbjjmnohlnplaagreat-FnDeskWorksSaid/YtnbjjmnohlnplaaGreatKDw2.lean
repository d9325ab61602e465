import Derived.Test.YtnbjjmnohlnplaaGreatKDw1
namespace Go.MG
set_option linter.unusedVariables false
set_option linter.unusedSimpArgs false
abbrev AltsD (α : Type) := List (Nat × List (Nat × Option α))
variable {α : Type}
abbrev e0 (t : Nat) (v : α) : Nat × List (Nat × Option α) := (t, [(0, some v)])
abbrev ed (t c : Nat) (v : α) : Nat × List (Nat × Option α) := (t, [(c, some v)])
structure LD where
 sl : AltsD Slot
 rows : AltsD Row
 boxes : AltsD (List Cell)
 base : Nat
 hvs : List (Nat × Value)
def cnd (b : Nat → Bool) : Nat → Bool
 | 0 => true
 | i + 1 => b i
def toH (b : Nat → Bool) : List (Nat × Option α) → List (Bool × Option α)
 | [] => []
 | (c, o) :: l => (cnd b c, o) :: toH b l
def toA (b : Nat → Bool) : AltsD α → Alts α
 | [] => []
 | (k, l) :: r => (k, toH b l) :: toA b r
def stD (S : LD) (b : Nat → Bool) : St := mkStLH (toA b S.sl) (toA b S.rows) (toA b S.boxes) S.base S.hvs
def mb (m k : Nat) : Bool := Nat.beq (Nat.mod (Nat.div m (Nat.pow 2 k)) 2) 1
def m0 (u d i : Nat) (b : Nat → Bool) (k : Nat) : Bool := cond (Nat.beq k i) false (cond (mb u k) true (cond (mb d k) false (b k)))
def m1 (u d i : Nat) (b : Nat → Bool) (k : Nat) : Bool := cond (Nat.beq k i) true (cond (mb u k) true (cond (mb d k) false (b k)))
def bitsN (N m : Nat) : List Nat := (List.range N).filter (mb m)
variable {k : Nat}
theorem mb_big {N m : Nat} (h : m < 2 ^ N) (hk : N ≤ k) : mb m k = false := by
 have h2 : m < 2 ^ k := Nat.lt_of_lt_of_le h (Nat.pow_le_pow_right (by omega) hk)
 have : m / 2 ^ k = 0 := Nat.div_eq_of_lt h2
 unfold mb
 show Nat.beq (m / 2 ^ k % 2) 1 = false
 rw [this]; rfl
theorem memN_bits {N m : Nat} (h : m < 2 ^ N) : memN k (bitsN N m) = mb m k := by
 cases e : mb m k with
 | true =>
  refine memN_iff.2 (List.mem_filter.2 ⟨List.mem_range.2 ?_, e⟩)
  by_cases hk : k < N
  ·exact hk
  ·rw [mb_big h (by omega)] at e; cases e
 | false =>
  cases e2 : memN k (bitsN N m) with
  | false => rfl
  | true =>
   have := (List.mem_filter.1 (memN_iff.1 e2)).2
   rw [e] at this; cases this
def udM (N : Nat) (ms : List (Nat × Nat)) : List (List Nat × List Nat) := ms.map fun p => (bitsN N p.1, bitsN N p.2)
def linOkM (ops : Array Oper) (N : Nat) (ms : List (Nat × Nat)) : Bool := linOk ops (udM N ms) && ms.all fun p => Nat.blt p.1 (2 ^ N) && Nat.blt p.2 (2 ^ N)
section
variable {P : Program} {F : Fix} {ops : Array Oper} {S : LD}
theorem wpOps_mono {Q Q' : Exit → Act → World → Prop} (hQ : ∀ e a w, Q e a w → Q' e a w) : ∀ {l : List Nat} {a : Act} {w : World}, wpOps P ops Q l a w → wpOps P ops Q' l a w
 | [], a, w, h => hQ _ _ _ h
 | i :: rest, a, w, h => by
  simp only [wpOps] at h ⊢
  cases ho : ops[i]? with
  | none => rw [ho] at h; exact wpOps_mono hQ h
  | some o =>
   simp only [ho] at h ⊢
   split at h
   ·rename_i hw
    rw [if_pos hw]
    rcases h with h | ⟨h1, a0, w0, h2⟩
    ·left
     simp only [Oper.wp, Oper.upon] at h ⊢
     split at h
     ·exact wpOps_mono hQ h
     ·exact wpOps_mono hQ h
     ·exact wpOps_mono hQ h
     ·refine h.mono fun e w' h' => ?_
      cases e with
      | returned v => exact wpOps_mono hQ h'
      | panicked c => exact hQ _ _ _ h'
      | outgrown => obtain ⟨a0, w0, h0⟩ := h'; exact ⟨a0, w0, hQ _ _ _ h0⟩
     ·exact h.mono fun v w' h' => wpOps_mono hQ h'
     ·exact hQ _ _ _ h
     ·exact h.elim
    ·exact .inr ⟨h1, a0, w0, hQ _ _ _ h2⟩
   ·rename_i hw
    rw [if_neg hw]
    exact wpOps_mono hQ h
variable {σ : St} {l : List Oper}
theorem WpL.mono {Q Q' : St → Prop} (h : WpL P F ops Q l σ) (hq : ∀ τ, Q τ → Q' τ) : WpL P F ops Q' l σ :=
 fun idx hi a w hr => wpOps_mono (fun _ _ _ ⟨τ, h1, h2, h3⟩ => ⟨τ, h1, hq τ h2, h3⟩) (h idx hi a w hr)
def LinsD (P : Program) (F : Fix) (ops : Array Oper) (S : LD) : Nat → List (Nat × Nat) → Prop
 | _, [] => True
 | i, (u, d) :: l => (∃ o, ops[i]? = some o ∧ ∀ b, WpL P F ops (fun τ => Le F τ (stD S (m1 u d i b))) [o] (stD S (m0 u d i b))) ∧ LinsD P F ops S (i + 1) l
theorem LinsD.lins {N : Nat} : ∀ {l : List (Nat × Nat)} {i : Nat}, (l.all fun p => Nat.blt p.1 (2 ^ N) && Nat.blt p.2 (2 ^ N)) = true → LinsD P F ops S i l → Lins P F ops (stD S) i (udM N l)
 | [], _, _, _ => trivial
 | (u, d) :: l, i, hl, h => by
  simp only [List.all_cons, Bool.and_eq_true, Nat.blt_eq] at hl
  have e0 : ∀ b, mk0 (bitsN N u) (bitsN N d) i b = m0 u d i b := fun b => funext fun k => by simp only [mk0, m0, memN_bits hl.1.1, memN_bits hl.1.2]
  have e1 : ∀ b, mk1 (bitsN N u) (bitsN N d) i b = m1 u d i b := fun b => funext fun k => by simp only [mk1, m1, memN_bits hl.1.1, memN_bits hl.1.2]
  obtain ⟨⟨o, ho, h1⟩, h2⟩ := h
  refine ⟨⟨o, ho, fun b => ?_⟩, LinsD.lins hl.2 h2⟩
  rw [e0, e1]; exact h1 b
def noC (c : Nat) : List (Nat × Option α) → Bool
 | [] => true
 | x :: l => cond (Nat.beq x.1 c) false (noC c l)
def noCs (c : Nat) : AltsD α → Bool
 | [] => true
 | x :: l => cond (noC c x.2) (noCs c l) false
def noBut (c t : Nat) : AltsD α → Bool
 | [] => true
 | x :: l => cond (cond (Nat.beq x.1 t) true (noC c x.2)) (noBut c t l) false
variable {i : Nat}
theorem cnd_m {u d c : Nat} {b : Nat → Bool} (h : Nat.beq c (i + 1) = false) : cnd (m1 u d i b) c = cnd (m0 u d i b) c := by
 cases c with
 | zero => rfl
 | succ c =>
  have : Nat.beq c i = false := by simpa [Nat.beq] using h
  simp only [cnd, m1, m0, this, cond_false]
theorem toH_m {u d : Nat} {b : Nat → Bool} : ∀ {l : List (Nat × Option α)}, noC (i + 1) l = true → toH (m1 u d i b) l = toH (m0 u d i b) l
 | [], _ => rfl
 | (c, o) :: l, h => by
  simp only [noC] at h
  cases e : Nat.beq c (i + 1) with
  | true => rw [e] at h; cases h
  | false => rw [e] at h; simp only [toH, cnd_m e, toH_m h]
theorem toA_m {u d : Nat} {b : Nat → Bool} : ∀ {l : AltsD α}, noCs (i + 1) l = true → toA (m1 u d i b) l = toA (m0 u d i b) l
 | [], _ => rfl
 | (k, l) :: r, h => by
  simp only [noCs] at h
  cases e : noC (i + 1) l with
  | true => rw [e] at h; simp only [toA, toH_m e, toA_m h]
  | false => rw [e] at h; cases h
theorem pick_m {α : Type} {u d i t : Nat} {b : Nat → Bool} : ∀ {l : AltsD α}, noBut (i + 1) t l = true → ∀ k, k ≠ t → pickL (toA (m1 u d i b) l) k = pickL (toA (m0 u d i b) l) k
 | [], _, _, _ => rfl
 | (j, l) :: r, h, k, hk => by
  simp only [noBut] at h
  simp only [toA, pickL]
  cases e : Nat.beq k j with
  | true =>
   have hkj := Nat.eq_of_beq_eq_true e
   have : Nat.beq j t = false := by
    cases e2 : Nat.beq j t with
    | false => rfl
    | true => exact absurd (hkj.trans (Nat.eq_of_beq_eq_true e2)) hk
   rw [this] at h
   cases e3 : noC (i + 1) l with
   | true => simp only [cond_true, toH_m e3]
   | false => rw [e3] at h; cases h
  | false =>
   simp only [cond_false]
   refine pick_m (t := t) ?_ k hk
   cases e3 : (cond (Nat.beq j t) true (noC (i + 1) l)) with
   | true => rw [e3] at h; exact h
   | false => rw [e3] at h; cases h
variable {τ : St}
theorem Le.same (h : τ = σ) : Le F σ τ := by rw [h]; exact fun _ _ h => h
variable {T : Tab}
theorem LinsD.s (hT : TabOk P T) {u d N t : Nat} {l : List (Nat × Nat)} {o : Oper} {v : Slot} (k : LinsD P F ops S (i + 1) l) (ho : ops[i]? = some o := by exact rfl) (hd : o.dst = some t := by exact rfl) (hn : F.n = N := by exact rfl)
  (hs : ∀ b, stp T ops N o (stD S (m0 u d i b)).slots (stD S (m0 u d i b)).H = some (setD (stD S (m0 u d i b)).slots o.dst (some v), (stD S (m0 u d i b)).H) := by exact fun _ => rfl)
  (h1 : ∀ b, pickL (toA (m1 u d i b) S.sl) t = some v := by exact fun _ => rfl) (h2 : noBut (i + 1) t S.sl = true := by exact rfl) (h3 : noCs (i + 1) S.rows = true := by exact rfl) (h4 : noCs (i + 1) S.boxes = true := by exact rfl) : LinsD P F ops S i ((u, d) :: l) := by
 refine ⟨⟨o, ho, fun b => stp_ok hT hn (hs b) (L.nil (Le.same ?_))⟩, k⟩
 simp only [stD, mkStLH, toA_m h3, toA_m h4, hd, St.mk.injEq, and_true]
 funext q
 by_cases e : q = t
 ·subst e; simp only [setD, upd_same]; exact h1 b
 ·simp only [setD, upd_other _ _ e]; exact pick_m h2 q e
theorem LinsD.g (hT : TabOk P T) {u d N t : Nat} {l : List (Nat × Nat)} {o : Oper} {x y : Bool} (k : LinsD P F ops S (i + 1) l) (ho : ops[i]? = some o := by exact rfl) (hd : o.dst = some t := by exact rfl) (hn : F.n = N := by exact rfl)
  (hs : ∀ b, stp T ops N o (stD S (m0 u d i b)).slots (stD S (m0 u d i b)).H = some (setD (stD S (m0 u d i b)).slots o.dst (some (im (.bool x))), (stD S (m0 u d i b)).H) := by exact fun _ => rfl)
  (h1 : ∀ b, pickL (toA (m1 u d i b) S.sl) t = some (im (.bool y)) := by exact fun _ => rfl) (hc : x = y := by assumption) (h2 : noBut (i + 1) t S.sl = true := by exact rfl) (h3 : noCs (i + 1) S.rows = true := by exact rfl) (h4 : noCs (i + 1) S.boxes = true := by exact rfl) : LinsD P F ops S i ((u, d) :: l) := by
 subst hc
 exact LinsD.s hT k ho hd hn hs h1 h2 h3 h4
variable {q : Nat}
theorem LinsD.b (hT : TabOk P T) {u d N : Nat} {l : List (Nat × Nat)} {o : Oper} {cs : List Cell} (k : LinsD P F ops S (i + 1) l) (ho : ops[i]? = some o := by exact rfl) (hd : o.dst = none := by exact rfl) (hn : F.n = N := by exact rfl)
  (hs : ∀ b, stp T ops N o (stD S (m0 u d i b)).slots (stD S (m0 u d i b)).H = some (setD (stD S (m0 u d i b)).slots o.dst none, Heap.setBox (stD S (m0 u d i b)).H q cs) := by exact fun _ => rfl)
  (h1 : ∀ b, pickL (toA (m1 u d i b) S.boxes) q = some cs := by exact fun _ => rfl) (h2 : noCs (i + 1) S.sl = true := by exact rfl) (h3 : noCs (i + 1) S.rows = true := by exact rfl) (h4 : noBut (i + 1) q S.boxes = true := by exact rfl) : LinsD P F ops S i ((u, d) :: l) := by
 refine ⟨⟨o, ho, fun b => stp_ok hT hn (hs b) (L.nil (Le.same ?_))⟩, k⟩
 simp only [stD, mkStLH, toA_m h2, toA_m h3, hd, setD, Heap.setBox, St.mk.injEq, Heap.mk.injEq, and_true, true_and]
 funext p
 by_cases e : p = q
 ·subst e; simp only [upd_same]; exact h1 b
 ·simp only [upd_other _ _ e]; exact pick_m h4 p e
end
mutual
def mapC (ρ : Nat → Nat) : Cell → Cell
 | .own k => .own (ρ k)
 | .sub k lo n => .sub (ρ k) lo n
 | .ptr k j => .ptr (ρ k) j
 | .ep k i j => .ep (ρ k) i j
 | .clo f caps => .clo f (mapCs ρ caps)
 | c => c
def mapCs (ρ : Nat → Nat) : List Cell → List Cell
 | [] => []
 | c :: cs => mapC ρ c :: mapCs ρ cs
end
def mapV (ρ : Nat → Nat) : V → V
 | .one c => .one (mapC ρ c)
 | .agg cs => .agg (mapCs ρ cs)
def mapS (ρ : Nat → Nat) : Slot → Slot
 | .v x => .v (mapV ρ x)
 | .tup xs => .tup (xs.map (mapV ρ))
def backN (a n base k : Nat) : Nat := cond (Nat.ble base k) (a + (k - base)) k
def nwL (a n base : Nat) : List (Nat × Nat) := (List.range n).map fun j => (a + j, base + j)
section
variable {F : Fix} {π : Nat → Option Nat} {σ : St}
theorem sm {t : Nat} {l : List (Bool × Option Slot)} {r : Alts Slot} {s : Slot} (hr : KeysOk (SlotR π σ) r) (h2 : σ.slots t = some s := by exact rfl) (h : alt l = some s := by exact rfl) (hn : stayS π s = true := by exact rfl) : KeysOk (SlotR π σ) ((t, l) :: r) :=
 ⟨fun s' hs => by rw [h] at hs; cases hs; exact ⟨s, stayS_ok hn, h2⟩, hr⟩
theorem bm {t : Nat} {l : List (Bool × Option (List Cell))} {r : Alts (List Cell)} {s : List Cell} (hr : KeysOk (BoxR π σ) r) (h1 : π t = some k := by exact rfl) (h3 : σ.H.boxes k = some s := by exact rfl) (h : alt l = some s := by exact rfl) (hn : stayC π s = true := by exact rfl) : KeysOk (BoxR π σ) ((t, l) :: r) := by
 simp only [stayC, Bool.and_eq_true, List.all_eq_true, beq_iff_eq] at hn
 exact ⟨fun s' hs => by rw [h] at hs; cases hs; exact ⟨k, s, h1, renCs_same hn.2 hn.1, h3⟩, hr⟩
theorem sg1 {t : Nat} {l : List (Bool × Option Slot)} {r : Alts Slot} {x y : Bool} (hr : KeysOk (SlotR π σ) r) (h : alt l = some (im (.bool y)) := by exact rfl) (h2 : σ.slots t = some (im (.bool x)) := by exact rfl) (hc : x = y := by assumption) : KeysOk (SlotR π σ) ((t, l) :: r) := by
 subst hc; exact sa hr h rfl h2
variable {base : Nat} {boxes : Alts (List Cell)} {rows : Alts Row} {hs : List V}
theorem lz {m : Nat} {sl : Alts Slot} {hvs : List (Nat × Value)} (a n : Nat) (hm : Pinned F m hs := by exact hm) (hn : (linB m base (nwL a n base) && pinB (piL (nwL a n base) base) hs && hs.all (fun x => cplain x.cells)) = true := by exact rfl)
  (h1 : KeysOk (SlotR (piL (nwL a n base) base) σ) sl := by repeat (first | exact kz | refine kn ?_ | refine sm ?_ | refine sa ?_ | refine su ?_ | refine sg1 ?_)) (h2 : KeysOk (RowR (piL (nwL a n base) base) σ) rows := by repeat (first | exact kz | refine kn ?_ | refine ra ?_ | refine ru ?_)) (h3 : KeysOk (BoxR (piL (nwL a n base) base) σ) boxes := by repeat (first | exact kz | refine kn ?_ | refine bm ?_ | refine ba ?_ | refine bu ?_))
  (h4 : HvOk (piL (nwL a n base) base) σ hvs := by first | exact (fun _ h => absurd h List.not_mem_nil) | (intro p hp; simp only [List.mem_cons, List.not_mem_nil, or_false] at hp; subst hp; exact ⟨_, rfl, rfl⟩)) : Le F σ (mkStLH sl rows boxes base hvs) :=
 Le.linH _ hm hn h1 h2 h3 h4
end
def LeZ (a n : Nat) (F : Fix) (σ τ : St) : Prop := Le F σ τ
def OwnD (a n base : Nat) (ts rs bs : List Nat) (σ : St) (S : LD) (b : Nat → Bool) : Prop :=
 (ts.map fun t => (σ.slots t).map (mapS (backN a n base))) = ts.map (pickL (toA b S.sl)) ∧
 (rs.map fun r => (piL (nwL a n base) base r).bind σ.H.rows) = rs.map (pickL (toA b S.rows)) ∧
 (bs.map fun r => ((piL (nwL a n base) base r).bind σ.H.boxes).map (mapCs (backN a n base))) = bs.map (pickL (toA b S.boxes))
def stayAllS (π : Nat → Option Nat) (b : Nat → Bool) : List (Nat × Option Slot) → Bool
 | [] => true
 | (_, none) :: l => stayAllS π b l
 | (c, some s) :: l => cond (cond (stayS π s) true (!(cnd b c))) (stayAllS π b l) false
def stayAllC (π : Nat → Option Nat) (b : Nat → Bool) : List (Nat × Option (List Cell)) → Bool
 | [] => true
 | (_, none) :: l => stayAllC π b l
 | (c, some s) :: l => cond (cond (stayC π s) true (!(cnd b c))) (stayAllC π b l) false
variable {π : Nat → Option Nat}
theorem stayAllS_ok {b : Nat → Bool} : ∀ {l : List (Nat × Option Slot)} {s : Slot}, stayAllS π b l = true → alt (toH b l) = some s → stayS π s = true
 | [], s, _, h => by cases h
 | (c, none) :: l, s, hf, h => by
  simp only [toH, alt] at h
  cases e : cnd b c with
  | true => rw [e] at h; cases h
  | false => rw [e] at h; exact stayAllS_ok (by simpa only [stayAllS] using hf) h
 | (c, some x) :: l, s, hf, h => by
  simp only [toH, alt] at h
  simp only [stayAllS] at hf
  cases e : cnd b c with
  | true =>
   rw [e] at h hf; cases h
   cases e2 : stayS π x with
   | true => rfl
   | false => rw [e2] at hf; cases hf
  | false =>
   rw [e] at h hf
   refine stayAllS_ok ?_ h
   cases e2 : stayS π x with
   | true => rw [e2] at hf; exact hf
   | false => rw [e2] at hf; exact hf
theorem stayAllC_ok {b : Nat → Bool} : ∀ {l : List (Nat × Option (List Cell))} {s : (List Cell)}, stayAllC π b l = true → alt (toH b l) = some s → stayC π s = true
 | [], s, _, h => by cases h
 | (c, none) :: l, s, hf, h => by
  simp only [toH, alt] at h
  cases e : cnd b c with
  | true => rw [e] at h; cases h
  | false => rw [e] at h; exact stayAllC_ok (by simpa only [stayAllC] using hf) h
 | (c, some x) :: l, s, hf, h => by
  simp only [toH, alt] at h
  simp only [stayAllC] at hf
  cases e : cnd b c with
  | true =>
   rw [e] at h hf; cases h
   cases e2 : stayC π x with
   | true => rfl
   | false => rw [e2] at hf; cases hf
  | false =>
   rw [e] at h hf
   refine stayAllC_ok ?_ h
   cases e2 : stayC π x with
   | true => rw [e2] at hf; exact hf
   | false => rw [e2] at hf; exact hf
def expS (c a n base : Nat) (b : Nat → Bool) (l : List (Nat × Option Slot)) : Option Slot := cond (noC c l) (alt (toH b l)) ((alt (toH b l)).bind fun s => renS (piL (nwL a n base) base) s)
def expC (c a n base : Nat) (b : Nat → Bool) (l : List (Nat × Option (List Cell))) : Option (List Cell) := cond (noC c l) (alt (toH b l)) ((alt (toH b l)).bind fun s => renCs (piL (nwL a n base) base) s)
def okS (c : Nat) (π : Nat → Option Nat) (b : Nat → Bool) : AltsD Slot → Bool
 | [] => true
 | (_, l) :: r => cond (cond (noC c l) (stayAllS π b l) (match alt (toH b l) with | none => true | some s => (renS π s).isSome)) (okS c π b r) false
def okC (c : Nat) (π : Nat → Option Nat) (b : Nat → Bool) : AltsD (List Cell) → Bool
 | [] => true
 | (k, l) :: r => cond ((π k).isSome && cond (noC c l) (stayAllC π b l) (match alt (toH b l) with | none => true | some s => (renCs π s).isSome)) (okC c π b r) false
def okR (π : Nat → Option Nat) : AltsD α → Bool
 | [] => true
 | (k, _) :: r => cond (π k).isSome (okR π r) false
section
variable {σ : St} {a n base c : Nat} {b : Nat → Bool}
theorem keysS : ∀ {l : AltsD Slot}, okS c (piL (nwL a n base) base) b l = true → (l.map fun e => σ.slots e.1) = (l.map fun e => expS c a n base b e.2) → KeysOk (SlotR (piL (nwL a n base) base) σ) (toA b l)
 | [], _, _ => trivial
 | (t, l) :: r, h, he => by
  simp only [okS] at h
  simp only [List.map_cons, List.cons.injEq] at he
  cases hx : cond (noC c l) (stayAllS (piL (nwL a n base) base) b l) (match alt (toH b l) with | none => true | some s => (renS (piL (nwL a n base) base) s).isSome) with
  | false => rw [hx] at h; cases h
  | true =>
   rw [hx] at h
   refine ⟨fun s hs => ?_, keysS h he.2⟩
   cases hn : noC c l with
   | true =>
    simp only [hn, cond_true] at hx
    have h1 := he.1
    simp only [expS, hn, cond_true] at h1
    exact ⟨s, stayS_ok (stayAllS_ok hx hs), by rw [h1, hs]⟩
   | false =>
    simp only [hn, cond_false, hs] at hx
    have h1 := he.1
    simp only [expS, hn, cond_false, hs, Option.bind_some] at h1
    obtain ⟨s', hs'⟩ := Option.isSome_iff_exists.1 hx
    exact ⟨s', hs', by rw [h1, hs']⟩
theorem keysC : ∀ {l : AltsD (List Cell)}, okC c (piL (nwL a n base) base) b l = true → (l.map fun e => (piL (nwL a n base) base e.1).bind σ.H.boxes) = (l.map fun e => expC c a n base b e.2) → KeysOk (BoxR (piL (nwL a n base) base) σ) (toA b l)
 | [], _, _ => trivial
 | (t, l) :: r, h, he => by
  simp only [okC] at h
  simp only [List.map_cons, List.cons.injEq] at he
  cases hx : ((piL (nwL a n base) base t).isSome && cond (noC c l) (stayAllC (piL (nwL a n base) base) b l) (match alt (toH b l) with | none => true | some s => (renCs (piL (nwL a n base) base) s).isSome)) with
  | false => rw [hx] at h; cases h
  | true =>
   rw [hx] at h
   simp only [Bool.and_eq_true] at hx
   obtain ⟨hk, hx⟩ := hx
   obtain ⟨k, hk⟩ := Option.isSome_iff_exists.1 hk
   refine ⟨fun s hs => ?_, keysC h he.2⟩
   have h1 := he.1
   rw [hk] at h1
   simp only [Option.bind_some] at h1
   cases hn : noC c l with
   | true =>
    simp only [hn, cond_true] at hx
    simp only [expC, hn, cond_true] at h1
    have h3 := stayAllC_ok hx hs
    simp only [stayC, Bool.and_eq_true, List.all_eq_true, beq_iff_eq] at h3
    exact ⟨k, s, hk, renCs_same h3.2 h3.1, by rw [h1, hs]⟩
   | false =>
    simp only [hn, cond_false, hs] at hx
    simp only [expC, hn, cond_false, hs, Option.bind_some] at h1
    obtain ⟨s', hs'⟩ := Option.isSome_iff_exists.1 hx
    exact ⟨k, s', hk, hs', by rw [h1, hs']⟩
theorem keysR : ∀ {l : AltsD Row}, okR (piL (nwL a n base) base) l = true → (l.map fun e => (piL (nwL a n base) base e.1).bind σ.H.rows) = (l.map fun e => alt (toH b e.2)) → KeysOk (RowR (piL (nwL a n base) base) σ) (toA b l)
 | [], _, _ => trivial
 | (t, l) :: r, h, he => by
  simp only [okR] at h
  simp only [List.map_cons, List.cons.injEq] at he
  cases hk : (piL (nwL a n base) base t).isSome with
  | false => rw [hk] at h; cases h
  | true =>
   rw [hk] at h
   obtain ⟨k, hk⟩ := Option.isSome_iff_exists.1 hk
   have h1 := he.1
   rw [hk] at h1
   exact ⟨fun s hs => ⟨k, hk, by simpa only [Option.bind_some, hs] using h1⟩, keysR h he.2⟩
end
variable {hs : List V} {i n : Nat} {σ : St} {F : Fix}
theorem lzK {a u d m : Nat} {S : LD} {b : Nat → Bool} (hm : Pinned F m hs := by exact hm) (hn : (linB m S.base (nwL a n S.base) && pinB (piL (nwL a n S.base) S.base) hs && hs.all (fun x => cplain x.cells)) = true := by kernel_rfl)
  (h1 : okS (i + 1) (piL (nwL a n S.base) S.base) (m1 u d i b) S.sl = true := by kernel_rfl) (h2 : (S.sl.map fun e => σ.slots e.1) = (S.sl.map fun e => expS (i + 1) a n S.base (m1 u d i b) e.2) := by kernel_rfl)
  (h3 : okR (piL (nwL a n S.base) S.base) S.rows = true := by kernel_rfl) (h4 : (S.rows.map fun e => (piL (nwL a n S.base) S.base e.1).bind σ.H.rows) = (S.rows.map fun e => alt (toH (m1 u d i b) e.2)) := by kernel_rfl)
  (h5 : okC (i + 1) (piL (nwL a n S.base) S.base) (m1 u d i b) S.boxes = true := by kernel_rfl) (h6 : (S.boxes.map fun e => (piL (nwL a n S.base) S.base e.1).bind σ.H.boxes) = (S.boxes.map fun e => expC (i + 1) a n S.base (m1 u d i b) e.2) := by kernel_rfl)
  (h7 : HvOk (piL (nwL a n S.base) S.base) σ S.hvs := by first | exact (fun _ h => absurd h List.not_mem_nil) | (intro p hp; simp only [List.mem_cons, List.not_mem_nil, or_false] at hp; subst hp; exact ⟨_, rfl, rfl⟩)) : LeZ a n F σ (stD S (m1 u d i b)) :=
 Le.linH _ hm hn (keysS h1 h2) (keysR h3 h4) (keysC h5 h6) h7
section
variable {P : Program} {F : Fix} {ops : Array Oper} {S : LD}
theorem lq {a u d : Nat} {τ : (Nat → Bool) → St} (h : ∀ b, LeZ a n F (τ b) (stD S (m1 u d i b)) := by first | exact fun b => lzK | exact fun b => lz _ _) : ∀ b, LeZ a n F (τ b) (stD S (m1 u d i b)) := h
variable {id : Nat}
theorem ldT {Q : Exit → St → Prop} (S : LD) (ms : List (Nat × Nat)) (hm : P.follows .mixedOrders = true) (hL : LinsD P F ops S 0 ms) (k : Q .normal (stD S fun _ => true)) (hb : Le F σ (stD S fun k => !(Nat.blt k ms.length)) := by exact lz 0 0) (hN : ops.size = ms.length := by exact rfl) (hk : linOkM ops ms.length ms = true := by kernel_rfl) : WpC P F (.region id ops true) Q σ := by
 simp only [linOkM, Bool.and_eq_true] at hk
 exact A.lin (stD S) (udM ms.length ms) ms.length hm hN hk.1 hb (LinsD.lins hk.2 hL) ⟨_, fun _ _ h => h, k⟩
theorem lc (base a n : Nat) (ts rs bs : List Nat) {u d : Nat} {l : List (Nat × Nat)} {o : Oper} {τ : (Nat → Bool) → St} (h : ∀ b, WpL P F ops (fun σ => σ = τ b ∧ OwnD a n base ts rs bs σ S (m1 u d i b)) [o] (stD S (m0 u d i b))) (k : LinsD P F ops S (i + 1) l) (e : ∀ b, LeZ a n F (τ b) (stD S (m1 u d i b))) (ho : ops[i]? = some o := by exact rfl) : LinsD P F ops S i ((u, d) :: l) :=
 ⟨⟨o, ho, fun b => WpL.mono (h b) fun σ hσ => by rw [hσ.1]; exact e b⟩, k⟩
end
set_option linter.unnecessarySimpa false
section
variable {P : Program} {ops : Array Oper}
theorem wpOps_split {Q : Exit → Act → World → Prop} {l2 : List Nat} : ∀ {l1 : List Nat} {a : Act} {w : World}, wpOps P ops (fun e a w => e = .normal ∧ wpOps P ops Q l2 a w) l1 a w → wpOps P ops Q (l1 ++ l2) a w
 | [], a, w, h => h.2
 | i :: rest, a, w, h => by
  simp only [wpOps, List.cons_append] at h ⊢
  cases ho : ops[i]? with
  | none => rw [ho] at h; exact wpOps_split h
  | some o =>
   simp only [ho] at h ⊢
   split at h
   ·rename_i hw
    rw [if_pos hw]
    rcases h with h | ⟨h1, a0, w0, h2⟩
    ·left
     simp only [Oper.wp, Oper.upon] at h ⊢
     split at h
     ·exact wpOps_split h
     ·exact wpOps_split h
     ·exact wpOps_split h
     ·refine h.mono fun e w' h' => ?_
      cases e with
      | returned v => exact wpOps_split h'
      | panicked c => cases h'.1
      | outgrown => obtain ⟨a0, w0, h0⟩ := h'; cases h0.1
     ·exact h.mono fun v w' h' => wpOps_split h'
     ·cases h.1
     ·exact h.elim
    ·cases h2.1
   ·rename_i hw
    rw [if_neg hw]
    exact wpOps_split h
def WmC (P : Program) (c : Code) (Q : Exit → Fix → St → Prop) (F : Fix) (σ : St) : Prop :=
 ∀ a w, Rel F σ a w → c.wp P (fun e a' w' => ∃ F' σ', Q e F' σ' ∧ Rel F' σ' a' w') a w
def WmL (P : Program) (ops : Array Oper) (Q : Fix → St → Prop) (l : List Oper) (F : Fix) (σ : St) : Prop :=
 ∀ idx : List Nat, idx.map (ops[·]?) = l.map some → ∀ a w, Rel F σ a w → wpOps P ops (fun e a' w' => ∃ F' σ', e = .normal ∧ Q F' σ' ∧ Rel F' σ' a' w') idx a w
def thenM (next : Fix → St → Prop) (Q : Exit → Fix → St → Prop) : Exit → Fix → St → Prop
 | .normal, F, σ => next F σ
 | e, F, σ => Q e F σ
def blockM (id : Nat) (Q : Exit → Fix → St → Prop) : Exit → Fix → St → Prop
 | .exit id', F, σ => if id' = id then Q .normal F σ else Q (.exit id') F σ
 | e, F, σ => Q e F σ
variable {Q : Exit → Fix → St → Prop} {F : Fix} {σ : St} {c : Code}
theorem WmC.skip (h : Q .normal F σ) : WmC P .skip Q F σ := fun _ _ hr => wp_skip ⟨F, σ, h, hr⟩
variable {id : Nat}
theorem WmC.exit (h : Q (.exit id) F σ) : WmC P (.exit id) Q F σ := fun _ _ hr => wp_exit ⟨F, σ, h, hr⟩
theorem WmC.ret (h : Q .ret F σ) : WmC P .ret Q F σ := fun _ _ hr => wp_ret ⟨F, σ, h, hr⟩
variable {τ : St}
theorem WmC.le (h : Le F σ τ) (k : WmC P c Q F τ) : WmC P c Q F σ := fun a w hr => k a w (h a w hr)
theorem WmC.seq {x y : Code} (h : WmC P x (thenM (WmC P y Q) Q) F σ) : WmC P (.seq x y) Q F σ := by
 intro a w hr
 refine wp_seq (wp_mono (h a w hr) ?_)
 rintro e a' w' ⟨F', σ', h1, h2⟩
 cases e with
 | normal => exact h1 a' w' h2
 | _ => exact ⟨F', σ', h1, h2⟩
variable {x : Operand}
theorem WmC.cond {c d : Code} {t : Bool} (hc : opnd σ.slots x = some (im (.bool t))) (h1 : t = true → WmC P c Q F σ) (h2 : t = false → WmC P d Q F σ) : WmC P (.cond x c d) Q F σ := by
 intro a w hr
 have hr' := hr
 obtain ⟨E, hw, hH, hS, hP⟩ := hr
 have := (opnd_ok hS hc).1
 simp only [RSlot, RV, RC] at this
 exact wp_cond_split this.1 (fun e => h1 e a w hr') (fun e => h2 e a w hr')
theorem WmC.block (h : WmC P c (blockM id Q) F σ) : WmC P (.block id c) Q F σ := by
 intro a w hr
 refine wp_block (wp_mono (h a w hr) ?_)
 rintro e a' w' ⟨F', σ', h1, h2⟩
 cases e with
 | exit id' =>
  simp only [blockM] at h1
  simp only [Exit.inBlock]
  split at h1
  ·rename_i he; rw [if_pos he]; exact ⟨F', σ', h1, h2⟩
  ·rename_i he; rw [if_neg he]; exact ⟨F', σ', h1, h2⟩
 | _ => exact ⟨F', σ', h1, h2⟩
theorem WmC.loop (I : Nat → Fix → St → Prop) (n : Nat) (h0 : I n F σ) (round : ∀ n F σ, I n F σ → WmC P c (thenM (fun F' σ' => ∃ m, m < n ∧ I m F' σ') Q) F σ) : WmC P (.loop c) Q F σ := by
 intro a w hr b k cs
 have key : ∀ n F σ a w, I n F σ → Rel F σ a w →
   ∃ e a' w', (∃ F' σ', Q e F' σ' ∧ Rel F' σ' a' w') ∧ Arrives P (lone (b.at a (.code c :: .inLoop c :: k)) cs w) b k cs e a' w' := by
  intro n
  induction n using Nat.strongRecOn with
  | _ n ih =>
   intro F σ a w hI hr
   obtain ⟨e, a₁, w₁, ⟨F₁, σ₁, hq, hr₁⟩, harr⟩ := round n F σ hI a w hr b (.inLoop c :: k) cs
   cases e with
   | normal =>
    obtain ⟨m, hm, hI₁⟩ := hq
    obtain ⟨e₂, a₂, w₂, hq₂, harr₂⟩ := ih m hm F₁ σ₁ a₁ w₁ hI₁ hr₁
    exact ⟨e₂, a₂, w₂, hq₂, .of_steps (Steps.trans harr (.one step_inLoop)) harr₂⟩
   | exit id => exact ⟨_, a₁, w₁, ⟨F₁, σ₁, hq, hr₁⟩, .pass (x := .inLoop c) rfl (fun _ _ => .inl (by simp)) harr⟩
   | goto l => exact ⟨_, a₁, w₁, ⟨F₁, σ₁, hq, hr₁⟩, .pass (x := .inLoop c) rfl (fun _ _ => .inl (by simp)) harr⟩
   | ret => exact ⟨_, a₁, w₁, ⟨F₁, σ₁, hq, hr₁⟩, .pass (x := .inLoop c) rfl (fun _ _ => .inl (by simp)) harr⟩
   | panic ch => exact ⟨_, a₁, w₁, ⟨F₁, σ₁, hq, hr₁⟩, .pass (x := .inLoop c) rfl (fun _ _ => .inl (by simp)) harr⟩
   | outgrown => exact ⟨_, a₁, w₁, ⟨F₁, σ₁, hq, hr₁⟩, .pass (x := .inLoop c) rfl (fun _ _ => .inl (by simp)) harr⟩
 obtain ⟨e, a', w', hq, harr⟩ := key n F σ a w h0 hr
 exact ⟨e, a', w', hq, .of_steps (.one step_loop) harr⟩
theorem WmC.loopL (I : Nat → Fix → St → Prop) (n : Nat) (h0 : ∃ τ, I n F τ ∧ Le F σ τ) (round : ∀ n F σ, I n F σ → WmC P c (thenM (fun F' σ' => ∃ m τ, m < n ∧ I m F' τ ∧ Le F' σ' τ) Q) F σ) : WmC P (.loop c) Q F σ := by
 obtain ⟨τ, h1, h2⟩ := h0
 refine WmC.le h2 (WmC.loop I n h1 fun n F σ hI a w hr => wp_mono (round n F σ hI a w hr) ?_)
 rintro e a' w' ⟨F', σ', h3, h4⟩
 cases e with
 | normal => obtain ⟨m, τ, h5, h6, h7⟩ := h3; exact ⟨F', τ, ⟨m, h5, h6⟩, h7 _ _ h4⟩
 | _ => exact ⟨F', σ', h3, h4⟩
theorem WmC.regionL (h : WmL P ops (Q .normal) ops.toList F σ) : WmC P (.region id ops false) Q F σ := by
 intro a w hr
 refine wp_region (wpOps_mono ?_ (h (List.range ops.size) ?_ a w hr))
 ·rintro e a' w' ⟨F', σ', rfl, h1, h2⟩
  exact ⟨F', σ', h1, h2⟩
 ·apply List.ext_getElem?
  intro i
  simp only [List.getElem?_map]
  by_cases hi : i < ops.size
  ·rw [List.getElem?_range hi]; simp [hi]
  ·rw [List.getElem?_eq_none (by simpa using hi)]; simp [hi]
end
section
variable {P : Program} {ops : Array Oper} {Q : Fix → St → Prop} {F : Fix} {σ : St}
theorem WmL.nil (h : Q F σ) : WmL P ops Q [] F σ := by
 intro idx hidx a w hr
 have : idx = [] := by simpa using hidx
 subst this
 exact ⟨F, σ, rfl, h, hr⟩
variable {l : List Oper} {τ : St}
theorem WmL.take (n : Nat) (h : WpL P F ops (fun τ' => τ' = τ) (l.take n) σ) (k : WmL P ops Q (l.drop n) F τ) : WmL P ops Q l F σ := by
 intro idx hidx a w hr
 have h1 : (idx.take n).map (ops[·]?) = (l.take n).map some := by rw [List.map_take, hidx, List.map_take]
 have h2 : (idx.drop n).map (ops[·]?) = (l.drop n).map some := by rw [List.map_drop, hidx, List.map_drop]
 have h3 := h _ h1 a w hr
 rw [← List.take_append_drop n idx]
 refine wpOps_split (wpOps_mono ?_ h3)
 rintro e a' w' ⟨σ', rfl, rfl, hr'⟩
 exact ⟨rfl, k _ h2 a' w' hr'⟩
theorem WmL.le (h : Le F σ τ) (k : WmL P ops Q l F τ) : WmL P ops Q l F σ := fun idx hi a w hr => k idx hi a w (h a w hr)
variable {sl : Nat → Option Slot} {rest : List Oper}
theorem WmL.raw {N : Nat} {o : Oper} {H : Heap} (hn : F.n = N) (hg : guardOf ops sl o = some true) (hd : dstB N o.dst = true)
  (h : ∀ (E : Env) (ev : Operand → Value), RelH F H E → RhoOk H E (opnd sl) ev → ∃ s u w' F', Slot.names s = [] ∧ (execOp ev o).run P E.w = .ok (.value u) w' ∧ (∀ a sl', RelS F sl' H a E → Pin F H E → Rel F' ⟨sl', H⟩ a w') ∧ F'.n = F.n ∧ (∀ E', RSlot E' s u) ∧ WmL P ops Q rest F' ⟨setD sl o.dst (some s), H⟩) : WmL P ops Q (o :: rest) F ⟨sl, H⟩ := by
 intro idx hidx
 cases idx with
 | nil => simp at hidx
 | cons i is =>
  simp only [List.map_cons, List.cons.injEq] at hidx
  intro a w hr
  have hr0 := hr
  obtain ⟨E, rfl, hH, hS, hP⟩ := hr
  simp only [wpOps, hidx.1, guard_ok hS hg, if_true]
  left
  obtain ⟨s, u, w', F', hs, hrun, htr, hn', hsl, hk⟩ := h E a.eval hH (fun x s hx => opnd_ok hS hx)
  simp only [Oper.wp, hrun]
  rw [Oper.upon_value]
  have hr1 := htr a _ hS hP
  refine hk is hidx.2 _ _ ?_
  obtain ⟨E1, e1, hH1, hS1, hP1⟩ := hr1
  refine ⟨E1, e1, hH1, ?_, hP1⟩
  have hdd := dstB_ok (hn'.trans hn) hd
  cases hdst : o.dst with
  | none => exact hS1
  | some d =>
   rw [hdst] at hdd
   exact hS1.put (Sub.refl _ _) (fun _ h => h) hdd (hsl E1) (fun k hk => by rw [hs] at hk; cases hk)
theorem WmL.rawU {N : Nat} {o : Oper} {H : Heap} (hn : F.n = N) (hg : guardOf ops sl o = some true) (hd : o.dst = none)
  (h : ∀ (E : Env) (ev : Operand → Value), RelH F H E → RhoOk H E (opnd sl) ev → ∃ w' F', (execOp ev o).run P E.w = .ok .skip w' ∧ (∀ a sl', RelS F sl' H a E → Pin F H E → Rel F' ⟨sl', H⟩ a w') ∧ WmL P ops Q rest F' ⟨sl, H⟩) : WmL P ops Q (o :: rest) F ⟨sl, H⟩ := by
 intro idx hidx
 cases idx with
 | nil => simp at hidx
 | cons i is =>
  simp only [List.map_cons, List.cons.injEq] at hidx
  intro a w hr
  have hr0 := hr
  obtain ⟨E, rfl, hH, hS, hP⟩ := hr
  simp only [wpOps, hidx.1, guard_ok hS hg, if_true]
  left
  obtain ⟨w', F', hrun, htr, hk⟩ := h E a.eval hH (fun x s hx => opnd_ok hS hx)
  simp only [Oper.wp, hrun]
  rw [Oper.upon_skip]
  have hr1 := htr a _ hS hP
  refine hk is hidx.2 _ _ ?_
  rw [hd]
  obtain ⟨E1, e1, hH1, hS1, hP1⟩ := hr1
  exact ⟨E1, e1, hH1, ⟨by simpa [Act.put] using hS1.size, hS1.defers, fun t s hs => by simpa [Act.put] using hS1.slots t s hs, hS1.used⟩, hP1⟩
end
def HoldsX (P : Program) (f : FuncId) (args : List V) (outs : List (List Cell)) (In : World → (Bool → Nat → Prop) → List Nat → Prop) (Out : World → World → World → List Nat → Prop) (res : List Nat → List V) (outs' : List (List Cell)) : Prop :=
 ∀ w S us ob bs obs, InOk w S args outs us ob bs obs → In w S (bs ++ obs ++ ob) → Calls P f us.toArray w fun e w1 =>
  ∃ w' MB S' us' bs' obs', Out w w' w1 MB ∧ (∀ b ∈ MB, w.heap.size ≤ b ∧ b < w'.heap.size ∧ (∀ g, ¬ S' g b) ∧ b ∉ bs' ++ obs' ++ ob) ∧ OutOk w S (bs ++ obs ++ ob) ob (res MB) [] outs' e w' S' us' [] bs' obs'
section
variable {P : Program} {F : Fix}
variable {outs outs' : List (List Cell)} {xs : List V} {H1 H2 : Heap} {kp : Keep} {us : List Value} {vs : List (Bool × V)} {E : Env}
theorem call_okX {H : Heap} (hH : RelH F H E) (hvs : RVs E (vs.map (·.2)) us) (hn : ∀ p ∈ vs, ∀ j ∈ p.2.names, H.used j = true) {L ks : List Nat}
  (hpass : H.passVs kp L vs = some (H1, xs)) (houts : H1.giveOuts ks = some (H2, outs)) (hkp : ∀ (k i : Nat), kp k = some i → ks[i]? = some k) (hL : ∀ k ∈ L, H2.rows k ≠ none) {f : FuncId} {res : List Nat → List V}
  {In : World → (Bool → Nat → Prop) → List Nat → Prop} {Out : World → World → World → List Nat → Prop} (hf : HoldsX P f xs outs In Out res outs')
  (hIn : ∀ S T, (∀ g b, S g b → E.S g b ∨ ∃ k, Own E k b) → (∀ b ∈ T, ∃ k, Own E k b) → In E.w S T)
  {kb : Nat} {Q : List Nat → Slot → Heap → Prop} (hgood : ∀ MB, Good H2 ks kb (res MB) outs' []) (hQ : ∀ MB, Q MB (slotOf (H2.internVs kb (res MB)).2) ((H2.internVs kb (res MB)).1.takeOuts (kb + ((res MB).flatMap V.cells).length) ks outs')) :
  Calls P f us.toArray E.w fun e w1 => ∃ w' MB, Out E.w w' w1 MB ∧ ∃ v, e = .returned v ∧ ∃ s H' E', E'.w = w' ∧ RelH F H' E' ∧ Sub E E' (fun k => H.used k = true) ∧ (∀ k, H.used k = true → H'.used k = true) ∧ RSlot E' s v ∧ (∀ k ∈ s.names, H'.used k = true) ∧ Q MB s H' ∧ Free F E' MB := by
 obtain ⟨E1, bs1, G1, hX⟩ := pass_Vs hH hpass hvs hn
 obtain ⟨E2, ob, obs, G2, ks0, kbox, hobl, houtl, hobk, hO⟩ := give_outs G1.rel houts
 have G := G1.trans G2
 -- the callee's view
 let Sin : Bool → Nat → Prop := fun g b => E.S g b ∨ (g = false ∧ ∃ k ∈ L, Own E k b)
 have hface : Face E (envI E.w Sin ob) kp L := by
  refine ⟨rfl, fun g b h => .inl h, fun k hk b hb => .inr ⟨rfl, k, hk, hb⟩, fun k i hi b hb => ?_⟩
  have h1 := hobk i k (hkp k i hi)
  have hb' : ob[i]? = some b := hb
  rw [hb'] at h1
  have := G1.rel.pt k b h1
  rwa [G1.pt] at this
 have hlentOwn : ∀ k ∈ L, ∀ b, Own E k b → Own E2 k b := by
  intro k hk b hb
  have h2 := hL k hk
  rcases hb with hb | hb
  ·exact .inl (by rw [G.ob k h2]; exact hb)
  ·have hrk : H.rows k ≠ none := G.rows k h2
   rcases hH.both k with e | e
   ·exact absurd e hrk
   ·rw [hb] at e; cases e
 have hin : InOk E.w Sin xs outs us ob bs1 obs := by
  refine ⟨hX _ hface, hO _ (by rw [G1.w]; rfl) (fun g b h => .inl (by rw [← G1.S]; exact h)), by rw [List.append_assoc]; exact G.nodup, fun b hb => ?_, fun g b hb => ?_, fun b hb => ?_⟩
  ·rw [List.append_assoc] at hb
   obtain ⟨k, hk⟩ := G.was b hb
   have ho := hH.own k b hk
   refine ⟨ho.2.1, fun g hg => ?_⟩
   rcases hg with hg | ⟨_, j, hj, hjb⟩
   ·exact ho.1 g hg
   ·exact G.gone b hb j (hlentOwn j hj b hjb)
  ·rcases hb with hb | ⟨_, j, hj, hjb⟩
   ·exact hH.S g b hb
   ·exact (hH.own j b hjb).2.1
  ·rcases hb with hb | ⟨h, _⟩
   ·exact .inl (hH.SS b hb)
   ·cases h
 have hInN : In E.w Sin (bs1 ++ obs ++ ob) := hIn _ _ (fun g b h => h.elim .inl (fun ⟨_, k, _, hb⟩ => .inr ⟨k, hb⟩)) (fun b hb => G.was b (by rwa [List.append_assoc] at hb))
 refine (hf E.w Sin us ob bs1 obs hin hInN).mono fun e w1 => ?_
 rintro ⟨w', MB, S', us', bs0', obs', hOut, hMB, hret, hlenr, hok, hown, hsup, hsub, hfr⟩
 replace hgood := hgood MB
 replace hQ := hQ MB
 generalize res MB = res at *
 have hback : Heap.backVs H ((H2.internVs kb res).1.takeOuts (kb + (res.flatMap V.cells).length) ks outs') (pickV [] (vs.map (·.2))) [] = some ((H2.internVs kb res).1.takeOuts (kb + (res.flatMap V.cells).length) ks outs') := rfl
 obtain ⟨bs', bsb, rfl, hargs, hargsB⟩ := RXVs.split hlenr hok.args
 refine ⟨w', MB, hOut, retVal us', hret, ?_⟩
 have hT : ∀ b, b ∈ bs1 ++ obs ++ ob → (∃ k, Own E k b) ∧ (∀ k, ¬ Own E2 k b) := fun b hb => by
  rw [List.append_assoc] at hb; exact ⟨G.was b hb, G.gone b hb⟩
 have hw2 : E2.w = E.w := G.w
 have hS2 : E2.S = E.S := G.S
 -- the world behind the call
 have hchg : Chg F E2 w' := by
  refine ⟨by rw [hw2]; exact hfr.os, by rw [hw2]; exact hfr.tape, by rw [hw2]; exact hfr.output, by rw [hw2]; exact hfr.size, fun b hb hne => ?_⟩
  rw [hw2] at hb hne
  have hbT : b ∈ bs1 ++ obs ++ ob := Classical.byContradiction fun h => hne (hfr.block b hb h)
  obtain ⟨⟨k, hk⟩, hgone⟩ := hT b hbT
  have ho := hH.own k b hk
  exact ⟨fun g hg => ho.1 g (by rw [← hS2]; exact hg), hgone, ho.2.2⟩
 have r1 := G.rel.chg hchg
 have s1 := Sub.chg G.rel hchg (fun k => H2.used k = true)
 have loc : ∀ b, (E.w.heap.size ≤ b ∨ b ∈ bs1 ++ obs ++ ob) → (∀ k, ¬ Own E2 k b) ∧ (F.w0.heap.size ≤ b ∨ F.T b) := by
  intro b hb
  rcases hb with hb | hb
  ·exact ⟨fun k hk => by have := (G.rel.own k b hk).2.1; rw [hw2] at this; omega, .inl (Nat.le_trans hH.fr.size hb)⟩
  ·obtain ⟨⟨k, hk⟩, hgone⟩ := hT b hb
   exact ⟨hgone, (hH.own k b hk).2.2⟩
 obtain ⟨r2, s2⟩ := r1.extS (S := fun g b => E.S g b ∨ (S' g b ∧ (E.w.heap.size ≤ b ∨ b ∈ bs1 ++ obs ++ ob))) (fun g b h => .inl (by rw [← hS2]; exact h))
  (fun g b h => h.elim (fun h => .inl (by simp only; rw [hS2]; exact h)) (fun h => .inr ⟨(loc b h.2).1, hok.bnd g b h.1, (loc b h.2).2⟩))
  (fun b h => h.imp (hH.SS b) (fun h => ⟨hok.cls b h.1, h.2⟩))
 -- what comes back
 have hT3 : SubT (envI w' S' ob) { E2 with w := w', S := fun g b => E.S g b ∨ (S' g b ∧ (E.w.heap.size ≤ b ∨ b ∈ bs1 ++ obs ++ ob)) } (fun _ => False) := by
  refine ⟨fun b hb => ?_, fun _ _ => rfl, fun _ h => h.elim, fun _ h => h.elim, fun _ h => h.elim⟩
  rcases hsub true b hb with h | h
  ·rcases h with h | ⟨h, _⟩
   ·exact .inl h
   ·cases h
  ·exact .inr ⟨hb, h⟩
 have hfree : ∀ b, b ∈ bs' ++ bsb ++ obs' ++ ob → (∀ c, ¬ (E.S c b ∨ (S' c b ∧ (E.w.heap.size ≤ b ∨ b ∈ bs1 ++ obs ++ ob)))) ∧ (∀ k, ¬ Own { E2 with w := w', S := fun g b => E.S g b ∨ (S' g b ∧ (E.w.heap.size ≤ b ∨ b ∈ bs1 ++ obs ++ ob)) } k b) ∧ b < w'.heap.size ∧ (F.w0.heap.size ≤ b ∨ F.T b) := by
  intro b hb
  have hlocb : E.w.heap.size ≤ b ∨ b ∈ bs1 ++ obs ++ ob := by
   rcases List.mem_append.1 hb with h | h
   ·exact (hown b h).symm
   ·exact .inr (List.mem_append_right _ h)
  have ho := hok.own b hb
  refine ⟨fun c hc => ?_, fun k hk => (loc b hlocb).1 k hk, ho.1, (loc b hlocb).2⟩
  rcases hc with hc | hc
  ·exact ho.2 c (hsup c b (.inl hc))
  ·exact ho.2 c hc.1
 have hfreeM : ∀ b, b ∈ MB → (∀ c, ¬ (E.S c b ∨ (S' c b ∧ (E.w.heap.size ≤ b ∨ b ∈ bs1 ++ obs ++ ob)))) ∧ (∀ k, ¬ Own { E2 with w := w', S := fun g b => E.S g b ∨ (S' g b ∧ (E.w.heap.size ≤ b ∨ b ∈ bs1 ++ obs ++ ob)) } k b) ∧ b < w'.heap.size ∧ (F.w0.heap.size ≤ b ∨ F.T b) := by
  intro b hb
  obtain ⟨m1, m2, m3, m4⟩ := hMB b hb
  have hl := loc b (.inl m1)
  refine ⟨fun c hc => ?_, fun k hk => hl.1 k hk, m2, hl.2⟩
  rcases hc with hc | hc
  ·have := hH.S c b hc; omega
  ·exact m3 c hc.1
 have hnd := hok.nodup
 rw [List.append_assoc, List.append_assoc] at hnd
 obtain ⟨hnd1, hnd2', hnd3'⟩ := List.nodup_append.1 hnd
 obtain ⟨hnd4, hnd2, hnd5⟩ := List.nodup_append.1 hnd2'
 have hnd3 : ∀ a ∈ bs', ∀ b ∈ obs' ++ ob, a ≠ b := fun a ha b hb => hnd3' a ha b (List.mem_append_right _ hb)
 have hRX : RXVs { E2 with w := w', S := fun g b => E.S g b ∨ (S' g b ∧ (E.w.heap.size ≤ b ∨ b ∈ bs1 ++ obs ++ ob)) } res us' bs' :=
  RXVs.clean hT3 (fun _ _ => rfl) (fun x hx => (hgood.cres x hx).1) (fun k hk => by
   obtain ⟨x, hx, hk⟩ := List.mem_flatMap.1 hk
   rw [(hgood.cres x hx).2] at hk; cases hk) hargs
 cases hi : H2.internVs kb res with
 | mk H3 res' =>
  obtain ⟨E4, T4, q1, q2⟩ := intern_Vs r2 (fun j hj hj' => hgood.fresh j hj (by omega)) hRX (fun k hk => by
   obtain ⟨x, hx, hk⟩ := List.mem_flatMap.1 hk
   rw [(hgood.cres x hx).2] at hk; cases hk) (fun b hb => hfree b (by simp [hb])) hnd1 hi
  rw [hi] at hQ hback
  have hfr4 : Free F E4 (obs' ++ ob) := T4.free (fun b hb hb' => hnd3 b hb' b hb rfl) (fun b hb => hfree b (by rw [List.append_assoc]; exact List.mem_append_right _ hb))
  have hfr4b : Free F E4 bsb := T4.free (fun b hb hb' => hnd3' b hb' b (List.mem_append_left _ hb) rfl) (fun b hb => hfree b (by simp [hb]))
  have hfr4m : Free F E4 MB := T4.free (fun b hb hb' => (hMB b hb).2.2.2 (by simp [hb'])) (fun b hb => hfreeM b hb)
  have husedk : ∀ k ∈ ks, H2.used k = true ∧ H2.rows k = none := by
   intro k hk
   have hb := ks0 k hk
   cases hbx : H1.boxes k with
   | none => exact absurd hbx hb
   | some cs =>
    have hu := (G1.rel.usedB k cs hbx).1
    refine ⟨by rw [← G2.used]; exact hu, ?_⟩
    refine Classical.byContradiction fun hr => ?_
    have hr1 := G2.rows k hr
    cases hrx : H1.rows k with
    | none => exact hr1 hrx
    | some r =>
     obtain ⟨g, us, h1, _⟩ := G1.rel.boxes k cs hbx
     rcases G1.rel.both k with e | e
     ·rw [hrx] at e; cases e
     ·rw [h1] at e; cases e
  obtain ⟨E5, t1, t2, t3, t4, t5, t6⟩ := take_outs (k0 := kb + (res.flatMap V.cells).length) (Eo := envI w' S' ob) T4.rel hgood.len hobl hok.outs T4.w.symm
   ⟨fun b hb => by rw [T4.S]; exact hT3.S b hb, fun b hb => by rw [T4.w]; rfl, fun _ h => h.elim, fun _ h => h.elim, fun _ h => h.elim⟩ hgood.couts
   (fun j hj hj' => by
    cases hu : H3.used j with
    | false => rfl
    | true =>
     rcases T4.down j hu with h | h
     ·have := hgood.fresh j (by omega) (by omega); rw [h] at this; cases this
     ·omega)
   (fun k hk => ⟨T4.up k (husedk k hk).1, by
    have := internVs_same res H2 kb k (by
     rcases Nat.lt_or_ge k kb with h | h
     ·exact .inl h
     ·right
      refine Classical.byContradiction fun hh => ?_
      have := hgood.fresh k h (by omega)
      rw [(husedk k hk).1] at this; cases this)
    rw [hi] at this; rw [this]; exact (husedk k hk).2⟩)
   (fun i k hik => by
    have hk := husedk k (List.mem_of_getElem? hik)
    rw [T4.pt k hk.1]
    show E2.pt k = _
    have h1 := hobk i k hik
    have hlt : i < ob.length := by rw [hobl]; exact (List.getElem?_eq_some_iff.1 hik).1
    rw [List.getElem?_eq_getElem hlt] at h1 ⊢
    rw [G2.pt]; exact G1.rel.pt k _ h1)
   hfr4 hnd2
  have hsub5 : Sub E E5 (fun k => H.used k = true) := G.sub.trans (sub_used G.used ((s1.trans (s2 _)).trans (T4.sub.trans ⟨t4.S, t4.mem, fun j hj => t4.hdrE j (T4.up j hj), fun j hj => t4.pt j (T4.up j hj), fun j hj => t4.sz j (T4.up j hj)⟩)))
  have hfr5 : Free F E5 bsb := fun b hb => by
   obtain ⟨f1, f2, f3, f4⟩ := hfr4b b hb
   refine ⟨fun c hc => f1 c (by rw [t2] at hc; exact hc), fun j hj => (t6 j b hj).elim (f2 j) (fun h => hnd5 b hb b h rfl), by rw [t1]; exact f3, f4⟩
  have hfr5m : Free F E5 MB := fun b hb => by
   obtain ⟨f1, f2, f3, f4⟩ := hfr4m b hb
   refine ⟨fun c hc => f1 c (by rw [t2] at hc; exact hc), fun j hj => (t6 j b hj).elim (f2 j) (fun h => (hMB b hb).2.2.2 (by rcases List.mem_append.1 h with h | h <;> simp [h])), by rw [t1]; exact f3, f4⟩
  obtain ⟨E6, B6⟩ := back_Vs hH t3 hback (hvs.pick (bp := []) (fun i hi => by cases hi)) hargsB (by rw [t1, T4.w]; rfl) ⟨fun b hb => by rw [t2, T4.S]; exact hT3.S b hb, fun b hb => by rw [t1, T4.w]; rfl, fun _ h => h.elim, fun _ h => h.elim, fun _ h => h.elim⟩ hgood.cback
   (fun j hj => hsub5.hdrE j hj) (fun j hj v hv => hsub5.sz j hj v hv) hfr5 hnd4
  refine ⟨slotOf res', _, E6, B6.w.trans (t1.trans T4.w), B6.rel, hsub5.trans (B6.sub _), fun k hk => B6.up k (t5 k (T4.up k (by rw [← G.used]; exact hk))), ?_, fun k hk => ?_, hQ, B6.free (fun b hb hb' => (hMB b hb).2.2.2 (by simp [hb'])) hfr5m⟩
  ·exact RSlot.sub (B6.sub (fun _ => True)) (fun _ _ => trivial) (RSlot.sub t4 (fun k hk => by rw [slotOf_names] at hk; exact q2 k hk) q1.slot)
  ·rw [slotOf_names] at hk; exact B6.up k (t5 k (q2 k hk))
end
section
variable {P : Program} {ops : Array Oper} {Q : Fix → St → Prop} {F : Fix} {N : Nat}
variable {dst : Option Nat} {ty : TypeId} {pos : String} {aft : Array Edge} {grd : Option (Nat × Bool)} {rest : List Oper} {sl : Nat → Option Slot} {H : Heap}
variable {outs outs' : List (List Cell)} {xs : List V} {H1 H2 : Heap} {vs : List (Bool × V)} {caps : List Cell} {tys : Array TypeId} {args : Array Operand} {x : Operand}
theorem WmL.call {f : FuncId} {res : List Nat → List V} (mvs : List Bool) (L ks : List Nat) (kb : Nat)
  (hn : F.n = N) (hg : guardOf ops sl ⟨dst, .call { callee := .value x, args := args, argTypes := tys }, ty, pos, aft, grd⟩ = some true) (hd : dstB N dst = true) (hx : opnd sl x = some (.v (.one (.clo f caps)))) (hf : Enters P f) (hm : mvs.length = args.size)
  (hvs : callArgs (opnd sl) (mvs.zip args.toList) = some vs) (hpass : H.passVs (fun k => ks.idxOf? k) L (vs ++ caps.map fun c => (false, .one c)) = some (H1, xs)) (houts : H1.giveOuts ks = some (H2, outs)) (hL : L.all (fun k => (H2.rows k).isSome) = true)
  {In : World → (Bool → Nat → Prop) → List Nat → Prop} {Out : World → World → World → List Nat → Prop} (hh : HoldsX P f xs outs In Out res outs')
  (hIn : ∀ E, RelH F H E → ∀ S T, (∀ g b, S g b → E.S g b ∨ ∃ k, Own E k b) → (∀ b ∈ T, ∃ k, Own E k b) → In E.w S T) (hgood : ∀ MB, goodB H2 ks kb (res MB) outs' = true)
  (k : ∀ (w w1 : World) MB E', Fr F.w0 F.T w → Out w E'.w w1 MB → RelH F ((H2.internVs kb (res MB)).1.takeOuts (kb + ((res MB).flatMap V.cells).length) ks outs') E' → Free F E' MB → ∃ F', (∀ a sl', RelS F sl' ((H2.internVs kb (res MB)).1.takeOuts (kb + ((res MB).flatMap V.cells).length) ks outs') a E' → Pin F ((H2.internVs kb (res MB)).1.takeOuts (kb + ((res MB).flatMap V.cells).length) ks outs') E' → Rel F' ⟨sl', (H2.internVs kb (res MB)).1.takeOuts (kb + ((res MB).flatMap V.cells).length) ks outs'⟩ a w1) ∧ WmL P ops Q rest F' ⟨setD sl dst (some (slotOf (namedVs kb (res MB)))), (H2.internVs kb (res MB)).1.takeOuts (kb + ((res MB).flatMap V.cells).length) ks outs'⟩) :
  WmL P ops Q (⟨dst, .call { callee := .value x, args := args, argTypes := tys }, ty, pos, aft, grd⟩ :: rest) F ⟨sl, H⟩ := by
 intro idx hidx
 cases idx with
 | nil => simp at hidx
 | cons i is =>
  simp only [List.map_cons, List.cons.injEq] at hidx
  obtain ⟨fn, hfn, hb, hnm⟩ := hf
  intro a w hr
  obtain ⟨E, rfl, hH, hS, hP⟩ := hr
  simp only [wpOps, hidx.1, guard_ok hS hg, if_true]
  left
  have hρ : RhoOk H E (opnd sl) a.eval := fun x s hx => opnd_ok hS hx
  obtain ⟨hcx, hcn⟩ := hρ x _ hx
  simp only [RSlot, RV, RC] at hcx
  obtain ⟨cus, hcu, hcr⟩ := hcx
  obtain ⟨r1, r2⟩ := callArgs_ok hρ hvs
  have hev : (mvs.zip args.toList).map (fun p => a.eval p.2) = (args.map a.eval).toList := by
   rw [Array.toList_map, show (fun p : Bool × Operand => a.eval p.2) = a.eval ∘ Prod.snd from rfl, ← List.map_map, List.map_snd_zip (by simp [hm])]
  rw [hev] at r1
  have hall : RVs E ((vs ++ caps.map fun c => (false, V.one c)).map (·.2)) ((args.map a.eval).toList ++ cus) := by
   rw [List.map_append, List.map_map]
   exact r1.append (RVs.one hcr)
  have hcall := call_okX (P := P) (Q := fun MB s H' => s = slotOf (namedVs kb (res MB)) ∧ H' = (H2.internVs kb (res MB)).1.takeOuts (kb + ((res MB).flatMap V.cells).length) ks outs') hH hall (fun p hp j hj => by
   rcases List.mem_append.1 hp with hp | hp
   ·exact r2 p hp j hj
   ·obtain ⟨c, hc, rfl⟩ := List.mem_map.1 hp
    refine hcn j ?_
    simp only [Slot.names, V.names, V.cells, cnames, Cell.names, List.append_nil] at hj ⊢
    exact mem_cnames.2 ⟨c, hc, hj⟩) hpass houts (fun k i h => idxOf_get h) (fun k hk => by
    have := List.all_eq_true.1 hL k hk
    intro e; rw [e] at this; cases this) hh (hIn E hH) (kb := kb) (fun MB => goodB_ok (hgood MB)) fun MB => ⟨by rw [internVs_named], rfl⟩
  have hrun : (execOp a.eval (⟨dst, .call { callee := .value x, args := args, argTypes := tys }, ty, pos, aft, grd⟩ : Oper)).run P E.w = .ok (.enter f (args.map a.eval ++ cus.toArray)) E.w := by
   have hb' : fn.body.isNone = false := by cases h : fn.body <;> simp_all
   simp [execOp, resolve, hcu, Deferred.ofValue, invoke, callFunc, hfn, hnm]
   intro h; rw [h] at hb; cases hb
  simp only [Oper.wp, hrun]
  rw [Oper.upon_enter]
  have harr : args.map a.eval ++ cus.toArray = ((args.map a.eval).toList ++ cus).toArray := by
   apply Array.ext'; simp
  rw [harr]
  refine hcall.mono ?_
  rintro e w1 ⟨w', MB, hOut, v, rfl, s, H', E', rfl, t1, t2, t3, t4, t5, ⟨rfl, rfl⟩, hFM⟩
  obtain ⟨F', htr, hk⟩ := k _ _ MB E' hH.fr hOut t1 hFM
  refine hk is hidx.2 _ _ (htr _ _ ?_ (hP.sub t2 t3))
  have hdd := dstB_ok hn hd
  cases hdst : dst with
  | none => exact hS.keep t2 t3
  | some d =>
   rw [hdst] at hdd
   exact hS.put t2 t3 hdd t4 t5
end
variable {outs : List (List Cell)} {fn : Func} {P : Program}
theorem HoldsX.intro {f : FuncId} {c : Code} {args : List V} {In : World → (Bool → Nat → Prop) → List Nat → Prop} {Out : World → World → World → List Nat → Prop} {res0 : List Nat → List V} {outs0 : List (List Cell)} (hf : P.funcs[f]? = some fn) (hb : fn.body = some c) (hn : args.length ≤ fn.ntmps)
  (hc : ∀ cs ∈ outs, cclean cs = true ∧ cnames cs = []) (hnm : ∀ j ∈ args.flatMap V.names, j < outs.length)
  (h : ∀ (F : Fix) (l : List Nat), F.n = fn.ntmps → Pinned F outs.length [] → F.T = (· ∈ l) → In F.w0 F.S0 l → WmC P c (fun e F' σ => ∃ MB : List Nat, Leaves P fn outs.length [] (fun r o b => r = res0 MB ∧ o = outs0 ∧ b = []) e σ ∧ ∀ a w1, Rel F' σ a w1 → ∃ E : Env, RelH F σ.H E ∧ RelS F σ.slots σ.H a E ∧ Pin F σ.H E ∧ Out F.w0 E.w w1 MB ∧ (∀ v, (results fn a.tmps).run P E.w = .ok v E.w → (results fn a.tmps).run P w1 = .ok v w1) ∧ (∀ b ∈ MB, F.w0.heap.size ≤ b ∧ b < E.w.heap.size ∧ (∀ g, ¬ E.S g b) ∧ ∀ k, ¬ Own E k b)) F ⟨initS args outs.length, initH args outs⟩) : HoldsX P f args outs In Out res0 outs0 := by
 intro w S us ob bs obs hi hIn0
 have hbp : ∀ i ∈ ([] : List Nat), i < args.length := fun i hi => by cases hi
 let E0 : Env := envI w S ob
 let F : Fix := ⟨w, (· ∈ bs ++ obs ++ ob), S, fn.ntmps, ob, (backArgs outs.length args ([] : List Nat)).zip (pickU ([] : List Nat) us)⟩
 have hob : ob.length = outs.length := hi.outs.length
 have h0 : RelH F (heap0 outs.length) E0 := by
  refine ⟨fun k r hr => (by cases hr), fun k cs hr => (by cases hr), fun _ _ => rfl, fun _ _ => rfl, fun _ => .inl rfl, fun k k' b hk => ?_, fun k b hk => ?_, hi.bnd, hi.cls, fun g b hb => .inl hb, fun g b hb => hb, fun k g hk => (by cases hk), ⟨rfl, rfl, rfl, Nat.le_refl _, fun _ _ _ => rfl⟩, fun k hk => absurd rfl hk, fun k cs hk => (by cases hk), fun k => List.nodup_nil, fun k n hk => (by cases hk), fun k n hk => (by cases hk)⟩
  ·rcases hk with hk | hk <;> cases hk
  ·rcases hk with hk | hk <;> cases hk
 have hfree : ∀ b, b ∈ bs ++ obs ++ ob → (∀ c, ¬ E0.S c b) ∧ (∀ k, ¬ Own E0 k b) ∧ b < E0.w.heap.size ∧ (F.w0.heap.size ≤ b ∨ F.T b) := by
  intro b hb
  have := hi.own b hb
  exact ⟨this.2, fun k hk => (by rcases hk with hk | hk <;> cases hk), this.1, .inr hb⟩
 have hnd := hi.nodup
 rw [List.append_assoc] at hnd
 obtain ⟨hnd1, hnd2, hnd3⟩ := List.nodup_append.1 hnd
 cases hiv : (heap0 outs.length).internVs outs.length args with
 | mk H1 args' =>
  obtain ⟨E1, T1, q1, q2⟩ := intern_Vs (k := outs.length) h0 (fun j hj _ => by rw [used0]; exact decide_eq_false (by omega)) hi.args (fun j hj => by rw [used0]; exact decide_eq_true (hnm j hj))
   (fun b hb => hfree b (by simp [hb])) hnd1 hiv
  have hfr : Free F E1 (obs ++ ob) := T1.free (fun b hb hb' => hnd3 b hb' b hb rfl) (fun b hb => hfree b (by rw [List.append_assoc]; exact List.mem_append_right _ hb))
  have hsame := fun j hj => internVs_same args (heap0 outs.length) outs.length j hj
  rw [hiv] at hsame
  obtain ⟨E2, t1, t2, t3, t4, t5, _⟩ := take_outs (k0 := outs.length + (args.flatMap V.cells).length) (ks := List.range outs.length) (Eo := E0) T1.rel (by simp) (by simp [hob]) hi.outs T1.w.symm
   ⟨fun b hb => by rw [T1.S]; exact hb, fun b hb => by rw [T1.w], fun _ h => h.elim, fun _ h => h.elim, fun _ h => h.elim⟩ hc
   (fun j hj hj' => by
    cases hu : H1.used j with
    | false => rfl
    | true =>
     rcases T1.down j hu with h | h
     ·rw [used0] at h; have := of_decide_eq_true h; omega
     ·omega)
   (fun k hk => by
    rw [List.mem_range] at hk
    exact ⟨T1.up k (by rw [used0]; exact decide_eq_true hk), by rw [hsame k (.inl hk)]; rfl⟩)
   (fun i k hik => by
    obtain ⟨hlt, e⟩ := List.getElem?_eq_some_iff.1 hik
    simp at e hlt; subst e
    rw [T1.pt i (by rw [used0]; exact decide_eq_true hlt)]; rfl)
   hfr hnd2
  have hlen : us.length = args.length := by
   rw [q1.length]
   have := internVs_length args (heap0 outs.length) outs.length
   rw [hiv] at this; exact this
  have hS : RelS F (initS args outs.length) (initH args outs) { tmps := us.toArray ++ Array.replicate (fn.ntmps - us.toArray.size) undef, defers := [] } E2 := by
   have hH1 : initH args outs = H1.takeOuts (outs.length + (args.flatMap V.cells).length) (List.range outs.length) outs := by simp [initH, hiv]
   have hslot : ∀ t s, initS args outs.length t = some s → ∃ x, args'[t]? = some x ∧ s = .v x := by
    intro t s hs
    simp only [initS, hiv, Option.map_eq_some_iff] at hs
    obtain ⟨x, hx, rfl⟩ := hs
    exact ⟨x, hx, rfl⟩
   have hnam : ∀ {t : Nat} {x : V}, args'[t]? = some x → ∀ k ∈ x.names, H1.used k = true := fun hx k hk => q2 k (List.mem_flatMap.2 ⟨_, List.mem_of_getElem? hx, hk⟩)
   refine ⟨?_, rfl, fun t s hs => ?_, fun t s hs k hk => ?_⟩
   ·simp [F]; omega
   ·obtain ⟨x, hx, rfl⟩ := hslot t s hs
    obtain ⟨u, hu, hr⟩ := q1.at hx
    have : (us.toArray ++ Array.replicate (fn.ntmps - us.toArray.size) undef).getD t undef = u := by
     rw [Array.getD_eq_getD_getElem?, Array.getElem?_append, if_pos (by simpa using (List.getElem?_eq_some_iff.1 hu).1)]
     simp [hu]
    simp only [this]
    exact RSlot.sub (x := .v x) t4 (fun k hk => hnam hx k hk) hr
   ·obtain ⟨x, hx, rfl⟩ := hslot t s hs
    rw [hH1]
    exact t5 k (hnam hx k hk)
  have hargs' : args'.length = args.length := by
   have := internVs_length args (heap0 outs.length) outs.length
   rw [hiv] at this; exact this
  have hbk : backArgs outs.length args ([] : List Nat) = pickV ([] : List Nat) args' := by unfold backArgs; rw [hiv]
  have hpl : (pickU ([] : List Nat) us).length = (backArgs outs.length args ([] : List Nat)).length := pickU_length _ _ _
  have hq : RVs E1 (backArgs outs.length args ([] : List Nat)) (pickU ([] : List Nat) us) := by rw [hbk]; exact q1.pick fun i hi => by rw [hargs']; exact hbp i hi
  have hqn : ∀ p ∈ (backArgs outs.length args ([] : List Nat)).zip (pickU ([] : List Nat) us), ∀ k ∈ p.1.names, H1.used k = true := by
   intro p hp k hk
   have h1 : p.1 ∈ backArgs outs.length args ([] : List Nat) := by
    have := List.mem_map_of_mem (f := Prod.fst) hp
    rwa [zip_fst hpl] at this
   rw [hbk] at h1
   obtain ⟨i, hi, e⟩ := List.mem_map.1 h1
   have hlt : i < args'.length := by rw [hargs']; exact hbp i hi
   refine q2 k (List.mem_flatMap.2 ⟨p.1, ?_, hk⟩)
   rw [← e, List.getD_eq_getElem?_getD, List.getElem?_eq_getElem hlt]
   exact List.getElem_mem hlt
  have hP : Pin F (initH args outs) E2 := by
   refine ⟨fun k hk => ?_, fun p hp => ⟨RV.sub t4 (hqn p hp) (hq.zip p hp), fun k hk => by
    have := t5 k (hqn p hp k hk)
    simpa [initH, hiv] using this⟩⟩
   have hk' : k < outs.length := by rw [← hob]; exact hk
   have hu0 : (heap0 outs.length).used k = true := by rw [used0]; exact decide_eq_true hk'
   have hu := T1.up k hu0
   refine ⟨by simpa [initH, hiv] using t5 k hu, fun g hg => ?_⟩
   have := t4.pt k hu g hg
   rw [T1.pt k hu0] at this
   exact this
  have hwp := h F (bs ++ obs ++ ob) rfl ⟨hob, zip_fst hpl⟩ rfl hIn0 { tmps := us.toArray ++ Array.replicate (fn.ntmps - us.toArray.size) undef, defers := [] } w
   ⟨E2, t1.trans T1.w, by simpa [initH, hiv] using t3, hS, hP⟩
  refine calls_of_wp hf hb (wp_mono hwp ?_)
  rintro e a' w1 ⟨F', σ, ⟨MB, ⟨he, xs, G1, G2, G3, res, outs', bk, hres, hpass, hback, hgive, rfl, rfl, rfl⟩, hbk0⟩, hrel⟩
  obtain ⟨E, hH, hS, hP, hOut, hrs, hMB⟩ := hbk0 a' w1 hrel
  obtain ⟨rs, r1, r2, r3⟩ := results_ok hH hS hres
  have fin : a'.defers = [] ∧ ∃ v, (results fn a'.tmps).run P w1 = .ok v w1 ∧
    ∃ w' MB S' us' bs' obs', Out w w' w1 MB ∧ (∀ b ∈ MB, w.heap.size ≤ b ∧ b < w'.heap.size ∧ (∀ g, ¬ S' g b) ∧ b ∉ bs' ++ obs' ++ ob) ∧ OutOk w S (bs ++ obs ++ ob) ob (res0 MB) [] outs' (.returned v) w' S' us' [] bs' obs' := by
   refine ⟨hS.defers, _, hrs _ r1, ?_⟩
   have hids : (xs.map fun x => (true, x)).map (·.2) = xs := by simp [List.map_map, Function.comp_def]
   obtain ⟨E3, b3, V3, hX⟩ := pass_Vs hH hpass (by rw [hids]; exact r2) (fun p hp j hj => by
    obtain ⟨x, hx, rfl⟩ := List.mem_map.1 hp
    exact r3 j (List.mem_flatMap.2 ⟨x, hx, hj⟩))
   have hP2 : RVs E (backArgs outs.length args ([] : List Nat)) (pickU ([] : List Nat) us) := RVs.unzip hpl fun p hp => (hP.2 p hp).1
   have hP3 := zip_names (N := fun k => σ.H.used k = true) hpl fun p hp => (hP.2 p hp).2
   obtain ⟨E5, b5, V5, hX5⟩ := inner_Vs V3.rel hback (hP2.sub V3.sub (fun j hj => by
    obtain ⟨x, hx, hj⟩ := List.mem_flatMap.1 hj
    exact hP3 x hx j hj)) (fun x hx j hj => by rw [← V3.used]; exact hP3 x hx j hj)
   have V35 := V3.trans V5
   obtain ⟨E4, ob4, obs4, V4, k1, k2, k3, k4, k5, k6⟩ := give_outs V5.rel hgive
   have V := V35.trans V4
   have hpin : ∀ k, k < outs.length → ∃ g, E5.blk k = some g ∧ E.pt k = some g ∧ ob[k]? = some g := by
    intro k hk
    have hb := k1 k (by simp [hk])
    cases hbx : G2.boxes k with
    | none => exact absurd hbx hb
    | some cs =>
     obtain ⟨g, us, h1, _⟩ := V5.rel.boxes k cs hbx
     have h2 := V5.rel.pt k g h1
     rw [V35.pt] at h2
     exact ⟨g, h1, h2, (hP.1 k (by show k < ob.length; omega)).2 g h2⟩
   have hobe : ob4 = ob := by
    apply List.ext_getElem?
    intro k
    by_cases hk : k < outs.length
    ·obtain ⟨g, h1, h2, h3⟩ := hpin k hk
     have := k5 k k (by simp [hk])
     rw [← this, h1, h3]
    ·rw [List.getElem?_eq_none (by rw [k3]; simp; omega), List.getElem?_eq_none (by omega)]
   subst hobe
   have hXr := hX (envI E.w E.S ob4) ⟨rfl, fun _ _ h => h, fun k hk => (by cases hk), fun k i hki b hb => by
    split at hki
    ·rename_i hlt
     cases hki
     obtain ⟨g, h1, h2, h3⟩ := hpin k hlt
     have hb' : ob4[k]? = some b := hb
     rw [h3] at hb'; cases hb'
     exact h2
    ·cases hki⟩
   refine ⟨E.w, MB, E.S, rs, b3 ++ b5, obs4, hOut, fun b hb => ⟨(hMB b hb).1, (hMB b hb).2.1, (hMB b hb).2.2.1, fun hx => ?_⟩, rfl, hXr.len, ⟨hXr.join (hX5 _ V3.w.symm (fun g b h => by rw [V3.S] at h; exact h)), k6 _ V35.w.symm (fun g b h => by rw [V35.S] at h; exact h), by rw [List.append_assoc]; exact V.nodup, fun b hb => ?_, hH.S, hH.SS⟩, fun b hb => ?_, hH.Ssup, fun g b hb => ?_, hH.fr⟩
   ·rw [List.append_assoc] at hx
    obtain ⟨k, hk⟩ := V.was b hx
    exact (hMB b hb).2.2.2 k hk
   ·rw [List.append_assoc] at hb
    obtain ⟨k, hk⟩ := V.was b hb
    have := hH.own k b hk
    exact ⟨this.2.1, this.1⟩
   ·obtain ⟨k, hk⟩ := V.was b (by simp only [List.mem_append] at hb ⊢; rcases hb with hb | hb; exact .inl hb; exact .inr (.inl hb))
    exact (hH.own k b hk).2.2.symm
   ·exact hH.Ssub g b hb
  rcases he with rfl | rfl
  ·exact fin
  ·exact fin
open MapKept
def setBlk (w : World) (b : Nat) (o : Obj) : World := { w with heap := w.heap.setIfInBounds b o }
variable {w : World}
theorem setBlk_at {b : Nat} {o : Obj} (h : b < w.heap.size) : (setBlk w b o).heap[b]? = some o := by simp [setBlk, h]
theorem setBlk_other {b b' : Nat} {o : Obj} (h : b' ≠ b) : (setBlk w b o).heap[b']? = w.heap[b']? := by simp [setBlk, Array.getElem?_setIfInBounds_ne (Ne.symm h)]
theorem setBlk_size {b : Nat} {o : Obj} : (setBlk w b o).heap.size = w.heap.size := by simp [setBlk]
def Fix.setB (F : Fix) (b : Nat) (o : Obj) : Fix := { F with w0 := setBlk F.w0 b o }
section
variable {P : Program} {F F' : Fix} {H : Heap} {E : Env}
theorem RelH.refix (h : RelH F H E) (h1 : ∀ k b, Own E k b → F'.w0.heap.size ≤ b ∨ F'.T b) (h2 : ∀ g b, E.S g b → F'.S0 g b ∨ F'.w0.heap.size ≤ b ∨ F'.T b) (h3 : ∀ g b, F'.S0 g b → E.S g b) (h4 : Fr F'.w0 F'.T E.w) : RelH F' H E :=
 ⟨h.rows, h.boxes, h.hdr0, h.blk0, h.both, h.uniq, fun k b hb => ⟨(h.own k b hb).1, (h.own k b hb).2.1, h1 k b hb⟩, h.S, h.SS, h2, h3, h.pt, h4, h.usedR, h.usedB, h.nodup, h.lens, h.hv⟩
variable {sl : Nat → Option Slot}
theorem RelS.refix {a : Act} (hn : F'.n = F.n) (h : RelS F sl H a E) : RelS F' sl H a E := ⟨h.size.trans hn.symm, h.defers, h.slots, h.used⟩
theorem Pin.refix (h1 : F'.ob = F.ob) (h2 : F'.oh = F.oh) (h : Pin F H E) : Pin F' H E := by
 refine ⟨fun k hk => ?_, fun p hp => h.2 p (by rw [← h2]; exact hp)⟩
 rw [h1] at hk ⊢
 exact h.1 k hk
structure Old (F : Fix) (b : Nat) : Prop where
 lt : b < F.w0.heap.size
 nt : ¬ F.T b
 ns : ∀ g, ¬ F.S0 g b
theorem Old.free {b : Nat} (ho : Old F b) (h : RelH F H E) : (∀ k, ¬ Own E k b) ∧ (∀ g, ¬ E.S g b) ∧ b < E.w.heap.size ∧ E.w.heap[b]? = F.w0.heap[b]? := by
 refine ⟨fun k hk => ?_, fun g hg => ?_, Nat.lt_of_lt_of_le ho.lt h.fr.size, h.fr.block b ho.lt ho.nt⟩
 ·rcases (h.own k b hk).2.2 with h1 | h1
  ·have := ho.lt; omega
  ·exact ho.nt h1
 ·rcases h.Ssub g b hg with h1 | h1 | h1
  ·exact ho.ns g h1
  ·have := ho.lt; omega
  ·exact ho.nt h1
theorem RelH.setB {b : Nat} {o : Obj} (h : RelH F H E) (ho : Old F b) : RelH (F.setB b o) H { E with w := setBlk E.w b o } := by
 obtain ⟨f1, f2, f3, f4⟩ := ho.free h
 have hb : RelH { F with T := fun x => F.T x ∨ x = b } H E := h.refix (fun k x hx => (h.own k x hx).2.2.imp id .inl) (fun g x hx => (h.Ssub g x hx).imp id fun hh => hh.imp id .inl) h.Ssup ⟨h.fr.os, h.fr.tape, h.fr.output, h.fr.size, fun x hx hT => h.fr.block x hx fun ht => hT (.inl ht)⟩
 have hc : Chg { F with T := fun x => F.T x ∨ x = b } E (setBlk E.w b o) := by
  refine ⟨rfl, rfl, rfl, by rw [setBlk_size]; exact Nat.le_refl _, fun x hx hne => ?_⟩
  by_cases e : x = b
  ·subst e; exact ⟨f2, f1, .inr (.inr rfl)⟩
  ·exact absurd (setBlk_other e) hne
 refine (hb.chg hc).refix (fun k x hx => ?_) (fun g x hx => ?_) h.Ssup ?_
 ·show (setBlk F.w0 b o).heap.size ≤ x ∨ F.T x
  rw [setBlk_size]; exact (h.own k x hx).2.2
 ·show F.S0 g x ∨ (setBlk F.w0 b o).heap.size ≤ x ∨ F.T x
  rw [setBlk_size]; exact h.Ssub g x hx
 ·refine ⟨h.fr.os, h.fr.tape, h.fr.output, by show (setBlk F.w0 b o).heap.size ≤ (setBlk E.w b o).heap.size; rw [setBlk_size, setBlk_size]; exact h.fr.size, fun x hx hT => ?_⟩
  show (setBlk E.w b o).heap[x]? = (setBlk F.w0 b o).heap[x]?
  have hx' : x < F.w0.heap.size := by have : x < (setBlk F.w0 b o).heap.size := hx; rwa [setBlk_size] at this
  by_cases e : x = b
  ·subst e; rw [setBlk_at f3, setBlk_at ho.lt]
  ·rw [setBlk_other e, setBlk_other e]; exact h.fr.block x hx' hT
theorem Sub.setB {b : Nat} {o : Obj} (h : RelH F H E) (ho : Old F b) (N : Nat → Prop) : Sub E { E with w := setBlk E.w b o } N :=
 ⟨fun _ _ h => h, fun g x hx => setBlk_other fun e => (ho.free h).2.1 g (e ▸ hx), fun _ _ => rfl, fun _ _ _ h => h, fun _ _ _ _ => rfl⟩
theorem Rel.setB {b : Nat} {o : Obj} {a : Act} (h : RelH F H E) (hS : RelS F sl H a E) (hP : Pin F H E) (ho : Old F b) : Rel (F.setB b o) ⟨sl, H⟩ a (setBlk E.w b o) :=
 ⟨_, rfl, h.setB ho, RelS.refix (F := F) rfl (hS.keep (Sub.setB h ho _) fun _ h => h), Pin.refix (F := F) rfl rfl (hP.sub (Sub.setB h ho _) fun _ h => h)⟩
theorem Rel.setB' {b : Nat} {o : Obj} {a : Act} (h : Rel F σ a w) (ho : Old F b) : Rel (F.setB b o) σ a (setBlk w b o) := by
 obtain ⟨E, rfl, hH, hS, hP⟩ := h
 exact Rel.setB hH hS hP ho
structure Under (F F' : Fix) : Prop where
 n : F'.n = F.n
 ob : F'.ob = F.ob
 oh : F'.oh = F.oh
 size : F.w0.heap.size ≤ F'.w0.heap.size
 os : F'.w0.os = F.w0.os
 tape : F'.w0.tape = F.w0.tape
 output : F'.w0.output = F.w0.output
 blk : ∀ b, b < F.w0.heap.size → ¬ F.T b → F'.w0.heap[b]? = F.w0.heap[b]? ∧ ¬ F'.T b
 T : ∀ b, F'.T b → F.w0.heap.size ≤ b ∨ F.T b
 S0 : ∀ g b, F'.S0 g b → F.S0 g b ∨ F.w0.heap.size ≤ b ∨ F.T b
 S1 : ∀ g b, F.S0 g b → F'.S0 g b
theorem Under.refl : Under F F := ⟨rfl, rfl, rfl, Nat.le_refl _, rfl, rfl, rfl, fun _ _ h => ⟨rfl, h⟩, fun _ h => .inr h, fun _ _ h => .inl h, fun _ _ h => h⟩
theorem Under.trans {F1 F2 : Fix} (h : Under F F1) (h' : Under F1 F2) : Under F F2 :=
 ⟨h'.n.trans h.n, h'.ob.trans h.ob, h'.oh.trans h.oh, Nat.le_trans h.size h'.size, h'.os.trans h.os, h'.tape.trans h.tape, h'.output.trans h.output,
 fun b hb hT => ⟨(h'.blk b (Nat.lt_of_lt_of_le hb h.size) (h.blk b hb hT).2).1.trans (h.blk b hb hT).1, (h'.blk b (Nat.lt_of_lt_of_le hb h.size) (h.blk b hb hT).2).2⟩,
 fun b hb => (h'.T b hb).elim (fun hh => .inl (Nat.le_trans h.size hh)) (h.T b), fun g b hb => (h'.S0 g b hb).elim (h.S0 g b) fun hh => .inr (hh.elim (fun hh => .inl (Nat.le_trans h.size hh)) (h.T b)), fun g b hb => h'.S1 g b (h.S1 g b hb)⟩
theorem Under.setB {b : Nat} {o : Obj} (h : Under F F') (hb : F.w0.heap.size ≤ b) : Under F (F'.setB b o) :=
 ⟨h.n, h.ob, h.oh, by show _ ≤ (setBlk F'.w0 b o).heap.size; rw [setBlk_size]; exact h.size, h.os, h.tape, h.output, fun x hx hT => ⟨(setBlk_other (by omega)).trans (h.blk x hx hT).1, (h.blk x hx hT).2⟩, h.T, h.S0, h.S1⟩
theorem Under.rel {a : Act} (u : Under F F') (h : Rel F' σ a w) : Rel F σ a w := by
 obtain ⟨E, rfl, hH, hS, hP⟩ := h
 refine ⟨E, rfl, hH.refix (fun k b hb => ?_) (fun g b hb => ?_) (fun g b hb => hH.Ssup g b (u.S1 g b hb)) ⟨hH.fr.os.trans u.os, hH.fr.tape.trans u.tape, hH.fr.output.trans u.output, Nat.le_trans u.size hH.fr.size, fun b hb hT => ?_⟩, hS.refix u.n.symm, hP.refix u.ob.symm u.oh.symm⟩
 ·rcases (hH.own k b hb).2.2 with h1 | h1
  ·exact .inl (Nat.le_trans u.size h1)
  ·exact u.T b h1
 ·rcases hH.Ssub g b hb with h1 | h1 | h1
  ·exact u.S0 g b h1
  ·exact .inr (.inl (Nat.le_trans u.size h1))
  ·exact .inr (u.T b h1)
 ·exact (hH.fr.block b (Nat.lt_of_lt_of_le hb u.size) (u.blk b hb hT).2).trans (u.blk b hb hT).1
theorem Old.under {b : Nat} (u : Under F F') (h : Old F b) : Old F' b := by
 refine ⟨Nat.lt_of_lt_of_le h.lt u.size, (u.blk b h.lt h.nt).2, fun g hg => ?_⟩
 rcases u.S0 g b hg with h1 | h1 | h1
 ·exact h.ns g h1
 ·have := h.lt; omega
 ·exact h.nt h1
theorem Old.setB {b x : Nat} {o : Obj} (h : Old F b) : Old (F.setB x o) b := ⟨by show _ < (setBlk F.w0 x o).heap.size; rw [setBlk_size]; exact h.lt, h.nt, h.ns⟩
def Fix.rebase (F : Fix) (E : Env) : Fix := ⟨E.w, fun b => ∃ k, Own E k b, E.S, F.n, F.ob, F.oh⟩
theorem RelH.rebase (h : RelH F H E) : RelH (F.rebase E) H E := h.refix (fun k b hb => .inr ⟨k, hb⟩) (fun g b hb => .inl hb) (fun _ _ h => h) ⟨rfl, rfl, rfl, Nat.le_refl _, fun _ _ _ => rfl⟩
theorem Under.rebase (h : RelH F H E) : Under F (F.rebase E) :=
 ⟨rfl, rfl, rfl, h.fr.size, h.fr.os, h.fr.tape, h.fr.output, fun b hb hT => ⟨h.fr.block b hb hT, fun ⟨k, hk⟩ => by rcases (h.own k b hk).2.2 with h1 | h1; omega; exact hT h1⟩,
 fun b ⟨k, hk⟩ => (h.own k b hk).2.2, fun g b hb => h.Ssub g b hb, fun g b hb => h.Ssup g b hb⟩
def MapObj (o : Obj) (d : TypeDesc) (ks : List Value) : Prop := ∃ es clock, o = .map es clock ∧ Stamped es clock ∧ (∀ x ∈ es.toList, IsKey d x.key) ∧ es.toList.map (·.key) = ks ∧ ∀ x ∈ es.toList, x.val = i64 1
structure OldM (F : Fix) (b : Nat) (d : TypeDesc) (ks : List Value) : Prop where
 old : Old F b
 obj : ∃ o, F.w0.heap[b]? = some o ∧ MapObj o d ks
theorem OldM.now {b : Nat} {d : TypeDesc} {ks : List Value} (h : OldM F b d ks) (hH : RelH F H E) : ∃ o, E.w.heap[b]? = some o ∧ MapObj o d ks := by
 obtain ⟨o, h1, h2⟩ := h.obj
 exact ⟨o, (h.old.free hH).2.2.2.trans h1, h2⟩
theorem OldM.under {b : Nat} {d : TypeDesc} {ks : List Value} (u : Under F F') (h : OldM F b d ks) : OldM F' b d ks := by
 obtain ⟨o, h1, h2⟩ := h.obj
 exact ⟨h.old.under u, o, (u.blk b h.old.lt h.old.nt).1.trans h1, h2⟩
theorem OldM.setB {b : Nat} {o : Obj} {d : TypeDesc} {ks : List Value} (h : Old F b) (ho : MapObj o d ks) : OldM (F.setB b o) b d ks := ⟨h.setB, o, setBlk_at h.lt, ho⟩
theorem OldM.other {b x : Nat} {o : Obj} {d : TypeDesc} {ks : List Value} (h : OldM F b d ks) (hx : b ≠ x) : OldM (F.setB x o) b d ks := by
 obtain ⟨o, h1, h2⟩ := h.obj
 exact ⟨h.old.setB, o, (setBlk_other hx).trans h1, h2⟩
theorem mapObj_nil (d : TypeDesc) : MapObj (.map #[] 0) d [] := ⟨#[], 0, rfl, stamped_empty 0, by simp, rfl, by simp⟩
section
variable {w : World} {b : Nat} {o : Obj} {d : TypeDesc} {ks : List Value} {t kt et : TypeId} {key : Value}
theorem run_lookup (hm : P.underlying t = some (.map kt et)) (hd : P.underlying kt = some d) (hz : ∀ w, (zeroValue et).run P w = .ok (i64 0) w) (hw : w.heap[b]? = some o) (hM : MapObj o d ks) (hk : IsKey d key) (c : Bool) (hc : c = true ↔ key ∈ ks) :
  (Instr.lookup t (.map (some b)) key false).run P w = .ok (i64 (cond c 1 0)) w := by
 obtain ⟨es, clock, rfl, hs, hks, rfl, hv⟩ := hM
 rcases findNow_spec hk es.toList 0 hks with ⟨h1, h2⟩ | ⟨j, e, h1, h2, h3⟩
 ·have : c = false := by
   cases hcc : c with
   | false => rfl
   | true =>
    obtain ⟨x, hx, hxk⟩ := List.mem_map.1 (hc.1 hcc)
    exact absurd hxk (h2 x hx)
  subst this
  simp [Instr.lookup, run_underlying hm, MapKept.run_getObj_map hw, MapKept.run_checkKey hd hk, MapKept.run_findKey hd h1, hz, Result.andThen]
 ·have he : e ∈ es.toList := List.mem_of_getElem? h2
  have : c = true := hc.2 (List.mem_map.2 ⟨e, he, h3⟩)
  subst this
  simp [Instr.lookup, run_underlying hm, MapKept.run_getObj_map hw, MapKept.run_checkKey hd hk, MapKept.run_findKey hd h1, hz, Result.andThen, hv e he]
theorem run_update (hm : P.underlying t = some (.map kt et)) (hd : P.underlying kt = some d) (hw : w.heap[b]? = some o) (hM : MapObj o d ks) (hk : IsKey d key) (c : Bool) (hc : c = true ↔ key ∈ ks) :
  ∃ o', (Instr.mapUpdate t (.map (some b)) key (i64 1)).run P w = .ok () (setBlk w b o') ∧ MapObj o' d (cond c ks (ks ++ [key])) := by
 obtain ⟨es, clock, rfl, hs, hks, rfl, hv⟩ := hM
 rcases findNow_spec hk es.toList 0 hks with ⟨h1, h2⟩ | ⟨j, e, h1, h2, h3⟩
 ·have : c = false := by
   cases hcc : c with
   | false => rfl
   | true =>
    obtain ⟨x, hx, hxk⟩ := List.mem_map.1 (hc.1 hcc)
    exact absurd hxk (h2 x hx)
  subst this
  refine ⟨.map (es.push { key := key, val := i64 1, born := clock }) (clock + 1), ?_, _, _, rfl, stamped_push hs h2, ?_, by simp, ?_⟩
  ·simp [Instr.mapUpdate, run_underlying hm, MapKept.run_getObj_map hw, MapKept.run_checkKey hd hk, MapKept.run_findKey hd h1, MapKept.run_setObj_map _ hw, Result.andThen]
   rfl
  ·intro x hx
   simp only [Array.toList_push, List.mem_append, List.mem_singleton] at hx
   rcases hx with hx | rfl
   ·exact hks x hx
   ·exact hk
  ·intro x hx
   simp only [Array.toList_push, List.mem_append, List.mem_singleton] at hx
   rcases hx with hx | rfl
   ·exact hv x hx
   ·rfl
 ·have he : e ∈ es.toList := List.mem_of_getElem? h2
  have : c = true := hc.2 (List.mem_map.2 ⟨e, he, h3⟩)
  subst this
  have hj : es[j]? = some e := by simpa using h2
  have hkey : ∀ e', es[j]? = some e' → ({ e' with key := key, val := i64 1 } : MapEntry).key = e'.key := fun e' he' => by rw [hj] at he'; cases he'; exact h3.symm
  refine ⟨.map (es.modify j fun e => { e with key := key, val := i64 1 }) clock, ?_, _, _, rfl, stamped_modify hs _ _ (fun _ _ => rfl) (fun e' _ he' => hkey e' he'), isKey_modify hks _ _ hkey, modify_keys _ _ hkey, ?_⟩
  ·simp [Instr.mapUpdate, run_underlying hm, MapKept.run_getObj_map hw, MapKept.run_checkKey hd hk, MapKept.run_findKey hd h1, hj, h3, MapKept.run_keyThatStays hk, MapKept.run_setObj_map _ hw, Result.andThen]
   rfl
  ·intro x hx
   rcases MapFrom.mem_modify hx with hx | ⟨e', _, rfl⟩
   ·exact hv x hx
   ·rfl
end
end
open MapKept
section
variable {P : Program} {ops : Array Oper} {Q : Fix → St → Prop} {F : Fix} {N : Nat}
variable {dst : Option Nat} {ty : TypeId} {pos : String} {aft : Array Edge} {grd : Option (Nat × Bool)} {rest : List Oper} {sl : Nat → Option Slot} {H : Heap} {b : Nat} {d : TypeDesc} {ks : List Value} {t kt et : TypeId} {key : Value}
variable {x : Operand}
theorem WmL.lookup {ix : Operand} (c : Bool) (hm : P.underlying t = some (.map kt et)) (hd : P.underlying kt = some d) (hz : ∀ w, (zeroValue et).run P w = .ok (i64 0) w) (hn : F.n = N) (hg : guardOf ops sl ⟨dst, .lookup t x ix false, ty, pos, aft, grd⟩ = some true) (hb : dstB N dst = true)
  (hx : opnd sl x = some (.v (.one (.raw (.map (some b)))))) (hi : opnd sl ix = some (im key)) (hM : OldM F b d ks) (hk : IsKey d key) (hc : c = true ↔ key ∈ ks)
  (k : WmL P ops Q rest F ⟨setD sl dst (some (im (i64 (cond c 1 0)))), H⟩) : WmL P ops Q (⟨dst, .lookup t x ix false, ty, pos, aft, grd⟩ :: rest) F ⟨sl, H⟩ := by
 refine WmL.raw hn hg hb fun E ev hH hρ => ?_
 have h1 := (hρ x _ hx).1
 have h2 := (hρ ix _ hi).1
 simp only [RSlot, RV, RC] at h1 h2
 obtain ⟨o, hw, hM'⟩ := hM.now hH
 refine ⟨im (i64 (cond c 1 0)), i64 (cond c 1 0), E.w, F, rfl, ?_, fun a sl' hS hP => ⟨E, rfl, hH, hS, hP⟩, rfl, fun E' => ⟨rfl, rfl⟩, k⟩
 simp [execOp, h1.1, h2.1, run_lookup hm hd hz hw hM' hk c hc]
theorem WmL.update {ix v : Operand} (c : Bool) (hm : P.underlying t = some (.map kt et)) (hd : P.underlying kt = some d) (hn : F.n = N) (hg : guardOf ops sl ⟨none, .mapUpdate t x ix v, ty, pos, aft, grd⟩ = some true)
  (hx : opnd sl x = some (.v (.one (.raw (.map (some b)))))) (hi : opnd sl ix = some (im key)) (hv : opnd sl v = some (im (i64 1))) (hM : OldM F b d ks) (hk : IsKey d key) (hc : c = true ↔ key ∈ ks)
  (k : ∀ o, MapObj o d (cond c ks (ks ++ [key])) → WmL P ops Q rest (F.setB b o) ⟨sl, H⟩) : WmL P ops Q (⟨none, .mapUpdate t x ix v, ty, pos, aft, grd⟩ :: rest) F ⟨sl, H⟩ := by
 refine WmL.rawU hn hg rfl fun E ev hH hρ => ?_
 have h1 := (hρ x _ hx).1
 have h2 := (hρ ix _ hi).1
 have h3 := (hρ v _ hv).1
 simp only [RSlot, RV, RC] at h1 h2 h3
 obtain ⟨o, hw, hM'⟩ := hM.now hH
 obtain ⟨o', hr, ho'⟩ := run_update hm hd hw hM' hk c hc
 refine ⟨_, F.setB b o', ?_, fun a sl' hS hP => Rel.setB hH hS hP hM.old, k o' ho'⟩
 simp [execOp, h1.1, h2.1, h3.1, hr]
theorem WmL.makeMap (hn : F.n = N) (hg : guardOf ops sl ⟨dst, .makeMap t none, ty, pos, aft, grd⟩ = some true) (hb : dstB N dst = true)
  (k : ∀ F1 b, Under F F1 → (∀ d, OldM F1 b d []) → F.w0.heap.size ≤ b → (∀ x, Old F x → x ≠ b) → WmL P ops Q rest F1 ⟨setD sl dst (some (.v (.one (.raw (.map (some b)))))), H⟩) : WmL P ops Q (⟨dst, .makeMap t none, ty, pos, aft, grd⟩ :: rest) F ⟨sl, H⟩ := by
 refine WmL.raw hn hg hb fun E ev hH hρ => ?_
 have c := chg_alloc hH (.map #[] 0)
 have hH' := hH.chg c
 have hat : (E.w.alloc (.map #[] 0)).heap[E.w.heap.size]? = some (.map #[] 0) := heap_alloc_new _ _
 have hold : Old (F.rebase { E with w := E.w.alloc (.map #[] 0) }) E.w.heap.size := by
  refine ⟨by show _ < (E.w.alloc (.map #[] 0)).heap.size; simp, fun ⟨k, hk⟩ => ?_, fun g hg => ?_⟩
  ·have := (hH.own k _ hk).2.1; omega
  ·have := hH.S g _ hg; omega
 refine ⟨.v (.one (.raw (.map (some E.w.heap.size)))), .map (some E.w.heap.size), E.w.alloc (.map #[] 0), F.rebase { E with w := E.w.alloc (.map #[] 0) }, rfl, ?_, fun a sl' hS hP => ⟨_, rfl, hH'.rebase, RelS.refix (F := F) rfl (hS.keep (Sub.chg hH c _) fun _ h => h), Pin.refix (F := F) rfl rfl (hP.sub (Sub.chg hH c _) fun _ h => h)⟩, rfl, fun E' => ⟨rfl, rfl⟩, k _ _ (Under.rebase hH') (fun d => ⟨hold, _, hat, mapObj_nil d⟩) hH.fr.size (fun x hx e => by have := (hx.free hH).2.2.1; omega)⟩
 simp [execOp, Instr.makeMap, newObj, Sem.run]
structure OldI (F : Fix) (r m : Nat) (es : Array MapEntry) (seen : Array Nat) : Prop where
 old : Old F r
 ne : r ≠ m
 map : Old F m
 mapAt : ∃ clock, F.w0.heap[m]? = some (.map es clock) ∧ Stamped es clock ∧ F.w0.heap[r]? = some (.mapIter (some m) clock seen clock)
variable {F' : Fix}
theorem OldI.under {r m : Nat} {es : Array MapEntry} {seen : Array Nat} (u : Under F F') (h : OldI F r m es seen) : OldI F' r m es seen := by
 obtain ⟨clock, h1, h2, h3⟩ := h.mapAt
 exact ⟨h.old.under u, h.ne, h.map.under u, clock, (u.blk m h.map.lt h.map.nt).1.trans h1, h2, (u.blk r h.old.lt h.old.nt).1.trans h3⟩
theorem WmL.range {es : Array MapEntry} {clock : Nat} (hm : P.underlying t = some (.map kt et)) (hn : F.n = N) (hg : guardOf ops sl ⟨dst, .range t x, ty, pos, aft, grd⟩ = some true) (hb : dstB N dst = true)
  (hx : opnd sl x = some (.v (.one (.raw (.map (some b)))))) (hM : Old F b) (ho : F.w0.heap[b]? = some (.map es clock)) (hs : Stamped es clock)
  (k : ∀ F1 r, Under F F1 → OldI F1 r b es #[] → F.w0.heap.size ≤ r → WmL P ops Q rest F1 ⟨setD sl dst (some (.v (.one (.raw (.pointer (some ⟨r, 0, none⟩)))))), H⟩) : WmL P ops Q (⟨dst, .range t x, ty, pos, aft, grd⟩ :: rest) F ⟨sl, H⟩ := by
 refine WmL.raw hn hg hb fun E ev hH hρ => ?_
 have h1 := (hρ x _ hx).1
 simp only [RSlot, RV, RC] at h1
 have hw : E.w.heap[b]? = some (.map es clock) := (hM.free hH).2.2.2.trans ho
 have c := chg_alloc hH (.mapIter (some b) clock #[] clock)
 have hH' := hH.chg c
 have hlt := (hM.free hH).2.2.1
 have hat : (E.w.alloc (.mapIter (some b) clock #[] clock)).heap[E.w.heap.size]? = some (.mapIter (some b) clock #[] clock) := heap_alloc_new _ _
 have hold : Old (F.rebase { E with w := E.w.alloc (.mapIter (some b) clock #[] clock) }) E.w.heap.size := by
  refine ⟨by show _ < (E.w.alloc (.mapIter (some b) clock #[] clock)).heap.size; simp, fun ⟨k, hk⟩ => ?_, fun g hg => ?_⟩
  ·have := (hH.own k _ hk).2.1; omega
  ·have := hH.S g _ hg; omega
 refine ⟨.v (.one (.raw (.pointer (some ⟨E.w.heap.size, 0, none⟩)))), .pointer (some ⟨E.w.heap.size, 0, none⟩), E.w.alloc (.mapIter (some b) clock #[] clock), F.rebase { E with w := E.w.alloc (.mapIter (some b) clock #[] clock) }, rfl, ?_, fun a sl' hS hP => ⟨_, rfl, hH'.rebase, RelS.refix (F := F) rfl (hS.keep (Sub.chg hH c _) fun _ h => h), Pin.refix (F := F) rfl rfl (hP.sub (Sub.chg hH c _) fun _ h => h)⟩, rfl, fun E' => ⟨rfl, rfl⟩, k _ _ (Under.rebase hH') ⟨hold, by omega, hM.under (Under.rebase hH'), clock, ?_, hs, hat⟩ hH.fr.size⟩
 ·simp [execOp, h1.1, run_range_map E.w t kt et b es clock hm hw]
 ·show (E.w.alloc (.mapIter (some b) clock #[] clock)).heap[b]? = _
  rw [heap_alloc_old _ _ (h := hlt)]; exact hw
theorem run_next (w : World) (ty : TypeId) (r bm since c0 : Nat) (seen : Array Nat) (es : Array MapEntry) (clock : Nat) (hr : w.heap[r]? = some (.mapIter (some bm) since seen c0)) (hb : w.heap[bm]? = some (.map es clock)) (hold : ∀ x ∈ es.toList, x.born < since) (hsc : since ≤ c0) :
  ((leftOf es seen).size = 0 ∧ (Instr.next (.pointer (some ⟨r, 0, none⟩)) false ty).run P w = .ok (.tuple #[.bool false]) w) ∨
  ∃ e ∈ (leftOf es seen).toList, ∃ w1 : World, (w1 = w ∨ w1 = { w with drawn := w.drawn + 1 }) ∧ (Instr.next (.pointer (some ⟨r, 0, none⟩)) false ty).run P w = .ok (.tuple #[.bool true, e.key, e.val]) (setBlk w1 r (.mapIter (some bm) since (seen.push e.born) clock)) := by
 simp only [Instr.next, getObj, Sem.run_bind, Sem.run, hr, hb, Result.andThen, next_test_false seen es since c0 hold hsc, Bool.false_eq_true, if_false]
 unfold leftOf
 have hmem : ∀ x ∈ (Array.filter (fun e => !seen.contains e.born) es).toList, x.born < since := fun x hx => hold x (by simp at hx ⊢; exact hx.1)
 generalize Array.filter (fun e => !seen.contains e.born) es = L at hmem ⊢
 have e1 : L.filter (fun x => decide (x.born < since)) = L := Array.filter_eq_self.2 (fun x hx => by simpa using hmem x (by simpa using hx))
 have e2 : L.filter (fun x => decide (x.born ≥ since)) = #[] := by
  rw [Array.filter_eq_empty_iff]
  intro x hx
  have := hmem x (by simpa using hx)
  simp
  omega
 simp only [e1, e2, Array.append_empty]
 by_cases h0 : L.size = 0
 ·left
  have : L = #[] := Array.eq_empty_of_size_eq_zero h0
  subst this
  refine ⟨rfl, ?_⟩
  simp [choose, Sem.run, Question.forced]
 ·right
  have hne : L.isEmpty = false := by simp [Array.isEmpty, h0]
  simp only [hne, Bool.false_eq_true, if_false, Array.empty_append, Array.size_map]
  have hch : ∃ (j : Nat) (w1 : World), j < L.size ∧ (w1 = w ∨ w1 = { w with drawn := w.drawn + 1 }) ∧ (choose (Question.mapNext L.size)).run P w = .ok j w1 := by
   by_cases hf : L.size ≤ 1
   ·exact ⟨0, w, by omega, .inl rfl, by simp [choose, Sem.run, Question.forced, hf]⟩
   ·exact ⟨_, w.drew, Nat.mod_lt _ (by omega), .inr rfl, by
     simp only [choose, Sem.run, Question.forced, decide_eq_true_eq, hf, if_false, Question.cut]
     rfl⟩
  obtain ⟨j, w1, hj, hw1, hrun⟩ := hch
  refine ⟨L[j], by simp, w1, hw1, ?_⟩
  have hr1 : w1.heap[r]? = some (.mapIter (some bm) since seen c0) := by rcases hw1 with rfl | rfl <;> exact hr
  have hset : ∀ o', (setObj r o').run P w1 = .ok () (setBlk w1 r o') := fun o' => by
   simp only [setObj, Sem.run, hr1]
   rfl
  simp only [hrun, Array.getElem?_map, Array.getElem?_eq_getElem hj, Option.map_some, Sem.run_bind, hset, Result.andThen]
  rfl
theorem WmL.next {r : Nat} {es : Array MapEntry} {seen : Array Nat} (hn : F.n = N) (hg : guardOf ops sl ⟨dst, .next x false, ty, pos, aft, grd⟩ = some true) (hb : dstB N dst = true)
  (hx : opnd sl x = some (.v (.one (.raw (.pointer (some ⟨r, 0, none⟩)))))) (hI : OldI F r b es seen) (himm : ∀ e ∈ es.toList, isImm e.key = true ∧ isImm e.val = true)
  (k0 : (leftOf es seen).size = 0 → WmL P ops Q rest F ⟨setD sl dst (some (.tup [.one (.imm (.bool false))])), H⟩)
  (k1 : ∀ e ∈ (leftOf es seen).toList, ∀ o, OldI (F.setB r o) r b es (seen.push e.born) → WmL P ops Q rest (F.setB r o) ⟨setD sl dst (some (.tup [.one (.imm (.bool true)), .one (.imm e.key), .one (.imm e.val)])), H⟩) : WmL P ops Q (⟨dst, .next x false, ty, pos, aft, grd⟩ :: rest) F ⟨sl, H⟩ := by
 intro idx hidx a w hrel
 have hrel' := hrel
 obtain ⟨E, rfl, hH, hS, hP⟩ := hrel'
 obtain ⟨clock, m1, m2, m3⟩ := hI.mapAt
 have w1 := (hI.map.free hH).2.2.2.trans m1
 have w3 := (hI.old.free hH).2.2.2.trans m3
 rcases run_next (P := P) E.w ty r b clock clock seen es clock w3 w1 m2.1 (Nat.le_refl _) with ⟨h0, hrun⟩ | ⟨e, he, w2, hw2, hrun⟩
 ·refine WmL.raw hn hg hb (fun E1 ev hH1 hρ => ?_) idx hidx a E.w hrel
  have h1 := (hρ x _ hx).1
  simp only [RSlot, RV, RC] at h1
  have v1 := (hI.map.free hH1).2.2.2.trans m1
  have v3 := (hI.old.free hH1).2.2.2.trans m3
  rcases run_next (P := P) E1.w ty r b clock clock seen es clock v3 v1 m2.1 (Nat.le_refl _) with ⟨h0, hrun⟩ | ⟨e, he, w2, hw2, hrun⟩
  ·refine ⟨.tup [.one (.imm (.bool false))], _, E1.w, F, rfl, ?_, fun a sl' hS hP => ⟨E1, rfl, hH1, hS, hP⟩, rfl, fun E' => ⟨[.bool false], rfl, _, _, rfl, ⟨rfl, rfl⟩, rfl⟩, k0 h0⟩
   simp [execOp, h1.1, hrun]
  ·have h0' : (leftOf es seen).toList = [] := by apply List.eq_nil_of_length_eq_zero; simpa using h0
   rw [h0'] at he; cases he
 ·have hne : (leftOf es seen).size ≠ 0 := fun h0 => by
   have h0' : (leftOf es seen).toList = [] := by apply List.eq_nil_of_length_eq_zero; simpa using h0
   rw [h0'] at he; cases he
  cases idx with
  | nil => simp at hidx
  | cons i is =>
   simp only [List.map_cons, List.cons.injEq] at hidx
   have hρ : RhoOk H E (opnd sl) a.eval := fun x s hx => opnd_ok hS hx
   have h1 := (hρ x _ hx).1
   simp only [RSlot, RV, RC] at h1
   have hrun' : (execOp a.eval (⟨dst, .next x false, ty, pos, aft, grd⟩ : Oper)).run P E.w = .ok (.value (.tuple #[.bool true, e.key, e.val])) (setBlk w2 r (.mapIter (some b) clock (seen.push e.born) clock)) := by
    simp [execOp, h1.1, hrun]
   simp only [wpOps, hidx.1, guard_ok hS hg, if_true]
   left
   simp only [Oper.wp, hrun']
   rw [Oper.upon_value]
   have hrel2 : Rel F ⟨sl, H⟩ a w2 := by
    rcases hw2 with rfl | rfl
    ·exact hrel
    ·exact hrel.drew
   have hle := left_shrinks es seen e he
   have hmem := mem_left he
   have hI' : OldI (F.setB r (.mapIter (some b) clock (seen.push e.born) clock)) r b es (seen.push e.born) :=
    ⟨hI.old.setB, hI.ne, hI.map.setB, clock, (setBlk_other hI.ne.symm).trans m1, m2, setBlk_at hI.old.lt⟩
   obtain ⟨E3, e3, hH3, hS3, hP3⟩ := hrel2.setB' (b := r) (o := .mapIter (some b) clock (seen.push e.born) clock) hI.old
   have hdd := dstB_ok hn hb
   obtain ⟨i1, i2⟩ := himm e hmem.1
   refine k1 e he _ hI' is hidx.2 _ _ ⟨E3, e3, hH3, ?_, hP3⟩
   cases hdst : dst with
   | none => exact hS3
   | some d =>
    rw [hdst] at hdd
    exact hS3.put (Sub.refl _ _) (fun _ h => h) hdd ⟨_, rfl, _, _, rfl, ⟨rfl, rfl⟩, _, _, rfl, ⟨rfl, i1⟩, _, _, rfl, ⟨rfl, i2⟩, rfl⟩ (fun k hk => by simp [Slot.names, V.names, V.cells, cnames, Cell.names] at hk)
theorem WmL.entry {r : Nat} {es : Array MapEntry} {seen : Array Nat} {e : MapEntry} (hn : F.n = N) (hg : guardOf ops sl ⟨dst, .entry x, ty, pos, aft, grd⟩ = some true) (hb : dstB N dst = true)
  (hx : opnd sl x = some (.v (.one (.raw (.pointer (some ⟨r, 0, none⟩)))))) (hI : OldI F r b es (seen.push e.born)) (he : e ∈ es.toList) (himm : ∀ e ∈ es.toList, isImm e.key = true ∧ isImm e.val = true)
  (k : WmL P ops Q rest F ⟨setD sl dst (some (.tup [.one (.imm e.key), .one (.imm e.val)])), H⟩) : WmL P ops Q (⟨dst, .entry x, ty, pos, aft, grd⟩ :: rest) F ⟨sl, H⟩ := by
 refine WmL.raw hn hg hb fun E ev hH hρ => ?_
 have h1 := (hρ x _ hx).1
 simp only [RSlot, RV, RC] at h1
 obtain ⟨clock, m1, m2, m3⟩ := hI.mapAt
 have w1 := (hI.map.free hH).2.2.2.trans m1
 have w3 := (hI.old.free hH).2.2.2.trans m3
 obtain ⟨i1, i2⟩ := himm e he
 refine ⟨.tup [.one (.imm e.key), .one (.imm e.val)], .tuple #[e.key, e.val], E.w, F, rfl, ?_, fun a sl' hS hP => ⟨E, rfl, hH, hS, hP⟩, rfl, fun E' => ⟨_, rfl, _, _, rfl, ⟨rfl, i1⟩, _, _, rfl, ⟨rfl, i2⟩, rfl⟩, k⟩
 have hf : es.find? (·.born == e.born) = some e := by rw [← Array.find?_toList]; exact find_born e es.toList m2.2.1 he
 have hrun : (Instr.entry (.pointer (some ⟨r, 0, none⟩))).run P E.w = .ok (.tuple #[e.key, e.val]) E.w := by
  simp only [Instr.entry, getObj, Sem.run_bind, Sem.run, w1, w3, Result.andThen, Array.back?_push, bne_self_eq_false, Bool.false_eq_true, if_false, hf]
  rfl
 simp [execOp, h1.1, hrun]
variable {b1 b2 : Nat} {y : Operand}
theorem WmL.build2 (hb : P.built t [(0, .map (some b1)), (1, .map (some b2))] = some #[.map (some b1), .map (some b2), .slice none 0 0]) (hn : F.n = N) (hg : guardOf ops sl ⟨dst, .build t #[(0, x), (1, y)], ty, pos, aft, grd⟩ = some true) (hd : dstB N dst = true)
  (hx : opnd sl x = some (.v (.one (.raw (.map (some b1)))))) (hy : opnd sl y = some (.v (.one (.raw (.map (some b2))))))
  (k : WmL P ops Q rest F ⟨setD sl dst (some (.v (.agg [.raw (.map (some b1)), .raw (.map (some b2)), .nil]))), H⟩) : WmL P ops Q (⟨dst, .build t #[(0, x), (1, y)], ty, pos, aft, grd⟩ :: rest) F ⟨sl, H⟩ := by
 refine WmL.raw hn hg hd fun E ev hH hρ => ?_
 have h1 := (hρ x _ hx).1
 have h2 := (hρ y _ hy).1
 simp only [RSlot, RV, RC] at h1 h2
 refine ⟨.v (.agg [.raw (.map (some b1)), .raw (.map (some b2)), .nil]), .agg #[.map (some b1), .map (some b2), .slice none 0 0], E.w, F, rfl, ?_, fun a sl' hS hP => ⟨E, rfl, hH, hS, hP⟩, rfl, fun E' => ⟨[.map (some b1), .map (some b2), .slice none 0 0], rfl, _, _, rfl, ⟨rfl, rfl⟩, _, _, rfl, ⟨rfl, rfl⟩, _, _, rfl, rfl, rfl⟩, k⟩
 have hr := run_build (P := P) E.w t #[(0, .map (some b1)), (1, .map (some b2))] _ hb
 simp only [execOp, h1.1, h2.1, List.map_toArray, List.map_cons, List.map_nil, Sem.run_bind, hr, Result.andThen_ok, Sem.run_pure]
end
structure Two (b1 b2 : Nat) (F F' : Fix) : Prop where
 n : F'.n = F.n
 ob : F'.ob = F.ob
 oh : F'.oh = F.oh
 T : F'.T = F.T
 S0 : F'.S0 = F.S0
 size : F'.w0.heap.size = F.w0.heap.size
 os : F'.w0.os = F.w0.os
 tape : F'.w0.tape = F.w0.tape
 output : F'.w0.output = F.w0.output
 blk : ∀ b, b ≠ b1 → b ≠ b2 → F'.w0.heap[b]? = F.w0.heap[b]?
variable {b1 b2 : Nat}
theorem Two.refl : Two b1 b2 F F := ⟨rfl, rfl, rfl, rfl, rfl, rfl, rfl, rfl, rfl, fun _ _ _ => rfl⟩
variable {F' : Fix}
theorem Two.set1 {o : Obj} (h : Two b1 b2 F F') : Two b1 b2 F (F'.setB b1 o) := ⟨h.n, h.ob, h.oh, h.T, h.S0, setBlk_size.trans h.size, h.os, h.tape, h.output, fun b h1 h2 => (setBlk_other h1).trans (h.blk b h1 h2)⟩
theorem Two.set2 {o : Obj} (h : Two b1 b2 F F') : Two b1 b2 F (F'.setB b2 o) := ⟨h.n, h.ob, h.oh, h.T, h.S0, setBlk_size.trans h.size, h.os, h.tape, h.output, fun b h1 h2 => (setBlk_other h2).trans (h.blk b h1 h2)⟩
theorem setBlk_setBlk {p1 p2 o1 o2 : Obj} (hne : b1 ≠ b2) (h1 : w.heap[b1]? = some o1) (h2 : w.heap[b2]? = some o2) : w = setBlk (setBlk (setBlk (setBlk w b1 p1) b2 p2) b1 o1) b2 o2 := by
 have hh : w.heap = ((((w.heap.setIfInBounds b1 p1).setIfInBounds b2 p2).setIfInBounds b1 o1).setIfInBounds b2 o2) := by
  apply Array.ext_getElem?
  intro i
  have l1 : b1 < w.heap.size := by
   rcases Nat.lt_or_ge b1 w.heap.size with h | h
   ·exact h
   ·simp [Array.getElem?_eq_none h] at h1
  have l2 : b2 < w.heap.size := by
   rcases Nat.lt_or_ge b2 w.heap.size with h | h
   ·exact h
   ·simp [Array.getElem?_eq_none h] at h2
  by_cases e2 : i = b2
  ·subst e2; rw [Array.getElem?_eq_getElem l2] at h2; simp [l2]; exact Option.some.inj h2
  ·rw [Array.getElem?_setIfInBounds_ne (Ne.symm e2)]
   by_cases e1 : i = b1
   ·subst e1; rw [Array.getElem?_eq_getElem l1] at h1; simp [l1]; exact Option.some.inj h1
   ·rw [Array.getElem?_setIfInBounds_ne (Ne.symm e1), Array.getElem?_setIfInBounds_ne (Ne.symm e2), Array.getElem?_setIfInBounds_ne (Ne.symm e1)]
 show w = { w with heap := ((((w.heap.setIfInBounds b1 p1).setIfInBounds b2 p2).setIfInBounds b1 o1).setIfInBounds b2 o2) }
 rw [← hh]
theorem Two.back {a : Act} {w1 : World} (t : Two b1 b2 F F') (ho1 : Old F b1) (ho2 : Old F b2) (hne : b1 ≠ b2) {o1 o2 : Obj} (h1 : F'.w0.heap[b1]? = some o1) (h2 : F'.w0.heap[b2]? = some o2) (hr : Rel F' σ a w1) :
  ∃ E, RelH F σ.H E ∧ RelS F σ.slots σ.H a E ∧ Pin F σ.H E ∧ w1 = setBlk (setBlk E.w b1 o1) b2 o2 := by
 obtain ⟨p1, hp1⟩ : ∃ p, F.w0.heap[b1]? = some p := ⟨_, Array.getElem?_eq_getElem ho1.lt⟩
 obtain ⟨p2, hp2⟩ : ∃ p, F.w0.heap[b2]? = some p := ⟨_, Array.getElem?_eq_getElem ho2.lt⟩
 have q1 : Old F' b1 := ⟨by rw [t.size]; exact ho1.lt, by rw [t.T]; exact ho1.nt, by rw [t.S0]; exact ho1.ns⟩
 have q2 : Old F' b2 := ⟨by rw [t.size]; exact ho2.lt, by rw [t.T]; exact ho2.nt, by rw [t.S0]; exact ho2.ns⟩
 obtain ⟨E0, rfl, hH0, _, _⟩ := id hr
 have e1 := (q1.free hH0).2.2.2.trans h1
 have e2 := (q2.free hH0).2.2.2.trans h2
 obtain ⟨E, hE, hH, hS, hP⟩ := (hr.setB' (o := p1) q1).setB' (b := b2) (o := p2) q2.setB
 refine ⟨E, hH.refix (fun k b hb => ?_) (fun g b hb => ?_) (fun g b hb => hH.Ssup g b (by show F'.S0 g b; rw [t.S0]; exact hb)) ⟨hH.fr.os.trans t.os, hH.fr.tape.trans t.tape, hH.fr.output.trans t.output, ?_, fun b hb hT => ?_⟩, RelS.refix (F := (F'.setB b1 p1).setB b2 p2) t.n.symm hS, Pin.refix (F := (F'.setB b1 p1).setB b2 p2) t.ob.symm t.oh.symm hP, ?_⟩
 ·have := (hH.own k b hb).2.2
  rw [show ((F'.setB b1 p1).setB b2 p2).w0.heap.size = F.w0.heap.size from setBlk_size.trans (setBlk_size.trans t.size), show ((F'.setB b1 p1).setB b2 p2).T = F.T from t.T] at this
  exact this
 ·have := hH.Ssub g b hb
  rw [show ((F'.setB b1 p1).setB b2 p2).w0.heap.size = F.w0.heap.size from setBlk_size.trans (setBlk_size.trans t.size), show ((F'.setB b1 p1).setB b2 p2).T = F.T from t.T, show ((F'.setB b1 p1).setB b2 p2).S0 = F.S0 from t.S0] at this
  exact this
 ·have := hH.fr.size
  rw [show ((F'.setB b1 p1).setB b2 p2).w0.heap.size = F.w0.heap.size from setBlk_size.trans (setBlk_size.trans t.size)] at this
  exact this
 ·have hb' : b < ((F'.setB b1 p1).setB b2 p2).w0.heap.size := by rw [show ((F'.setB b1 p1).setB b2 p2).w0.heap.size = F.w0.heap.size from setBlk_size.trans (setBlk_size.trans t.size)]; exact hb
  rw [hH.fr.block b hb' (by show ¬ F'.T b; rw [t.T]; exact hT)]
  show (setBlk (setBlk F'.w0 b1 p1) b2 p2).heap[b]? = F.w0.heap[b]?
  by_cases c2 : b = b2
  ·subst c2; rw [setBlk_at (by rw [setBlk_size, t.size]; exact hb), hp2]
  ·rw [setBlk_other c2]
   by_cases c1 : b = b1
   ·subst c1; rw [setBlk_at (by rw [t.size]; exact hb), hp1]
   ·rw [setBlk_other c1, t.blk b c1 c2]
 ·rw [hE]; exact setBlk_setBlk hne e1 e2
variable {E : Env}
theorem Under.relH {H : Heap} (u : Under F F') (hH : RelH F' H E) : RelH F H E := by
 refine hH.refix (fun k b hb => ?_) (fun g b hb => ?_) (fun g b hb => hH.Ssup g b (u.S1 g b hb)) ⟨hH.fr.os.trans u.os, hH.fr.tape.trans u.tape, hH.fr.output.trans u.output, Nat.le_trans u.size hH.fr.size, fun b hb hT => ?_⟩
 ·rcases (hH.own k b hb).2.2 with h1 | h1
  ·exact .inl (Nat.le_trans u.size h1)
  ·exact u.T b h1
 ·rcases hH.Ssub g b hb with h1 | h1 | h1
  ·exact u.S0 g b h1
  ·exact .inr (.inl (Nat.le_trans u.size h1))
  ·exact .inr (u.T b h1)
 ·exact (hH.fr.block b (Nat.lt_of_lt_of_le hb u.size) (u.blk b hb hT).2).trans (u.blk b hb hT).1
variable {outs' : List (List Cell)} {res : List V}
theorem Gives.ofX {f : FuncId} {args : List V} (h : HoldsX P f args outs (fun _ _ _ => True) (fun _ w' w1 MB => w1 = w' ∧ MB = []) (fun _ => res) outs') : Gives P f args outs res outs' := by
 intro w S us ob bs obs hi
 refine (h w S us ob bs obs hi trivial).mono fun e w1 => ?_
 rintro ⟨w', MB, S', us', bs', obs', ⟨rfl, rfl⟩, _, ho⟩
 exact ⟨res, outs', [], S', us', bs', obs', ⟨rfl, rfl, rfl⟩, ho⟩
def fgt : Cell → Cell
 | .ow .. => .bad
 | .bx .. => .bad
 | c => c
variable {bs : List Nat} {u : Value}
theorem RXC.fgt {c : Cell} (h : RXC E c u bs) : RC E (fgt c) u := by
 have h1 := h.one
 cases hc : c.isOw with
 | false =>
  have := ((RXC.iff hc).1 h).1
  cases c <;> first | exact this | (simp [Cell.isOw] at hc)
 | true => cases c <;> first | (simp [Cell.isOw] at hc; done) | (simp only [MG.fgt, RC]; exact h1)
theorem RXCs.fgt : ∀ {cs : List Cell} {us : List Value} {bs : List Nat}, RXCs E cs us bs → RCs E (cs.map fgt) us
 | [], _, _, h => by simp only [RXCs] at h; simp [RCs, h.1]
 | c :: cs, _, _, h => by
  simp only [RXCs] at h
  obtain ⟨u, us', b, bs', rfl, rfl, h1, h2⟩ := h
  simp only [List.map_cons, RCs]
  exact ⟨u, us', rfl, h1.fgt, RXCs.fgt h2⟩
theorem fgt_names {cs : List Cell} (h : cnames cs = []) : cnames (cs.map fgt) = [] := by
 cases hc : cnames (cs.map fgt) with
 | nil => rfl
 | cons k ks =>
  obtain ⟨c, hm, hi⟩ := mem_cnames.1 (show k ∈ cnames (cs.map fgt) by rw [hc]; simp)
  obtain ⟨d, hd, rfl⟩ := List.mem_map.1 hm
  have : k ∈ d.names := by cases d <;> first | exact hi | (simp [fgt, Cell.names] at hi)
  have : k ∈ cnames cs := mem_cnames.2 ⟨d, hd, this⟩
  rw [h] at this; cases this
section
variable {P : Program} {F : Fix} {ops : Array Oper} {Q : St → Prop} {N : Nat}
variable {dst : Option Nat} {ty : TypeId} {pos : String} {aft : Array Edge} {grd : Option (Nat × Bool)} {rest : List Oper} {sl : Nat → Option Slot} {H : Heap}
variable {r : Row} {j : Nat} {y : Operand} {t : TypeId} {ev : Operand → Value} {ρ : Rho}
theorem done_load_epF {Q : Option Slot → Heap → Prop} (hH : RelH F H E) (hρ : RhoOk H E ρ ev) {o : Oper} (ho : o.op = .load t y) (hy : ρ y = some (.v (.one (.ep k i j)))) (hk : H.rows k = some r) {e : List Cell} (he : r.es[i]? = some e)
  {ag : Bool} (hs : shape P t = some (ag, n)) (hl : j + n ≤ e.length) {x : V} (hx : mkV ag (((e.drop j).take n).map fgt) = some x) (hq : Q (some (.v x)) H) : Done P F H E (execOp ev o) Q := by
 have hv := (hρ y _ hy).1
 obtain ⟨h1, h2, hd, h3, h4, h5⟩ := hH.rows k r hk
 simp only [RSlot, RV, RC] at hv
 obtain ⟨g, len, cap, hg, hlt, hu⟩ := hv.2 hd h3
 obtain ⟨bs', hrow⟩ : ∃ bs', RXRow E g 0 r.sz r.es bs' := by
  rcases h5 with ⟨h6, _⟩ | ⟨g', cap', bs', h6, _, _, h9, _⟩
  ·rw [h6] at hg; cases hg
  ·rw [h6] at hg; cases hg; exact ⟨bs', h9⟩
 obtain ⟨hel, us, b1, hr, _, hat⟩ := hrow.get i e he
 obtain ⟨b2, hr2, _⟩ := hr.part j n
 have hlen := hr.length
 obtain ⟨u, hm, hR⟩ := load_ok (P := P) hs hr2.fgt (b := g) (o := 0 + i * r.sz + j) (range_part hat j n) (by simp; omega) hx
 refine Done.same hH (u := u) ?_ hq hR (fun c hc => ?_)
 ·rw [h4] at hu
  simp only [Nat.zero_add] at hm
  simp [execOp, ho, hu, hm]
 ·rw [show Slot.names (.v x) = x.names from rfl, names_mkV hx (fgt_names (cnames_part (rnames_get h2.2 he) j n))] at hc; cases hc
variable {q sz : Nat}
theorem L.loadEpF {xs : List α} {e : α → List Cell} {a : α} {ag : Bool} {x : V} (hs : shape P t = some (ag, n)) (hn : F.n = N) (hg : guardOf ops sl ⟨dst, .load t y, ty, pos, aft, grd⟩ = some true) (hd : dstB N dst = true)
  (hy : opnd sl y = some (.v (.one (.ep q i j)))) (hb : H.rows q = some ⟨sz, xs.map e⟩) (ha : xs[i]? = some a) (hl : Nat.ble (j + n) (e a).length = true) (hx : mkV ag ((((e a).drop j).take n).map fgt) = some x)
  (k : WpL P F ops Q rest ⟨setD sl dst (some (.v x)), H⟩) : WpL P F ops Q (⟨dst, .load t y, ty, pos, aft, grd⟩ :: rest) ⟨sl, H⟩ :=
 L.op hn hg hd fun _ _ hH hρ => done_load_epF hH hρ rfl hy hb (by simp [ha]) hs (Nat.le_of_ble_eq_true hl) hx k
def shrB (a : UInt8) (b : Int) : UInt8 := UInt8.ofNat (a.toNat / 2 ^ (min b.toNat 8))
theorem shrB_eq (a : UInt8) (b : Int) : shrI .u8 (a.toNat : Int) b = ((shrB a b).toNat : Int) := by
 have h : a.toNat / 2 ^ (min b.toNat 8) < 256 := Nat.lt_of_le_of_lt (Nat.div_le_self _ _) a.toNat_lt
 have e : (shrB a b).toNat = a.toNat / 2 ^ (min b.toNat 8) := by
  unfold shrB
  rw [UInt8.toNat_ofNat']
  exact Nat.mod_eq_of_lt h
 rw [e]
 show (a.toNat : Int).fdiv (2 ^ (min b.toNat 8)) = _
 rw [Int.fdiv_eq_ediv_of_nonneg _ (Int.pow_nonneg (by decide))]
 norm_cast
variable {kd' : IntKind} {x : Operand} {xt yt : TypeId}
theorem L.shrB {a : UInt8} {b : Int} (hn : F.n = N) (hg : guardOf ops sl ⟨dst, .binOp .shr xt x y yt, ty, pos, aft, grd⟩ = some true) (hd : dstB N dst = true)
  (hx : opnd sl x = some (im (u8 a))) (hy : opnd sl y = some (im (.int kd' b))) (hb : decide (b < 0) = false)
  (k : WpL P F ops Q rest ⟨setD sl dst (some (im (u8 (MG.shrB a b)))), H⟩) : WpL P F ops Q (⟨dst, .binOp .shr xt x y yt, ty, pos, aft, grd⟩ :: rest) ⟨sl, H⟩ := by
 refine L.shr (a := (a.toNat : Int)) (kd := .u8) hn hg hd hx hy hb ?_
 rw [shrB_eq]; exact k
end
open Go.Sort (putRow grow putCells)
theorem eI_len {xs : List Int} : ∀ e ∈ xs.map eI, e.length = 1 := fun e he => by
 obtain ⟨x, _, rfl⟩ := List.mem_map.1 he; rfl
theorem eI_flat {xs : List Int} : Flat (xs.map eI) := by
 induction xs with
 | nil => exact ⟨rfl, rfl⟩
 | cons x xs ih => exact ⟨by simp [rclean, cclean, eI, Cell.clean]; exact ih.1, by simp [rnames, cnames, eI, Cell.names]; exact ih.2⟩
theorem rowI_of {b : Nat} : ∀ {xs : List Int} {o : Nat}, (∀ (j : Nat) (x : Int), xs[j]? = some x → E.w.cell? ⟨b, o + j, none⟩ = some (.int .i64 x)) → RRow E b o 1 (xs.map eI)
 | [], _, _ => by simp [RRow]
 | x :: xs, o, h => by
  simp only [List.map_cons, RRow]
  refine ⟨rfl, ⟨[.int .i64 x], ?_, fun j v hv => ?_⟩, rowI_of fun j y hy => ?_⟩
  ·exact ⟨_, _, rfl, by simp [RC, isImm], rfl⟩
  ·cases j with
   | zero => cases hv; exact h 0 x rfl
   | succ j => simp at hv
  ·have := h (j + 1) y (by simpa using hy)
   rwa [show o + 1 + j = o + (j + 1) by omega]
theorem rowI_to {b : Nat} : ∀ {xs : List Int} {o : Nat}, RRow E b o 1 (xs.map eI) → ∀ (j : Nat) (x : Int), xs[j]? = some x → E.w.cell? ⟨b, o + j, none⟩ = some (.int .i64 x)
 | x :: xs, o, h, j, y, hy => by
  simp only [List.map_cons, RRow] at h
  obtain ⟨_, ⟨us, h1, h2⟩, h3⟩ := h
  cases j with
  | zero =>
   simp only [List.getElem?_cons_zero, Option.some.injEq] at hy
   subst hy
   obtain ⟨u, us', rfl, h4, h5⟩ := h1
   simp only [RC] at h4
   obtain ⟨rfl, _⟩ := h4
   exact h2 0 _ rfl
  | succ j =>
   have := rowI_to h3 j y (by simpa using hy)
   rwa [show o + 1 + j = o + (j + 1) by omega] at this
variable {es : List (List Cell)} {sz : Nat}
theorem RXRow.ofPlain {b o : Nat} (hl : ∀ e ∈ es, e.length = sz) (hp : pl es = true) (h : RRow E b o sz es) : RXRow E b o sz es [] := by
 obtain ⟨us, f1, f2, f3⟩ := h.flat
 exact RXRow.of_flat hl (RXCs.of (pl_flat hp) f1) f3
theorem eI_pl (xs : List Int) : pl (xs.map eI) = true := pl_map fun _ => rfl
theorem rxI_to {b o : Nat} {xs : List Int} (h : RXRow E b o 1 (xs.map eI) bs) : bs = [] ∧ RRow E b o 1 (xs.map eI) := by
 refine ⟨?_, RXRow.plain eI_len (eI_pl xs) h⟩
 obtain ⟨us, f1, _, _⟩ := h.flat
 exact (f1.plain (pl_flat (eI_pl xs))).2
variable {ob : List Nat}
theorem rxI {S : Bool → Nat → Prop} {b cap : Nat} {xs : List Int} (hc : xs.length ≤ cap) (ht : w.there b 0 (cap * 1)) (h : RRow (envI w S ob) b 0 1 (xs.map eI)) : RXC (envI w S ob) (.ow 1 (xs.map eI)) (.slice (some ⟨b, 0, none⟩) xs.length cap) [b] := by
 simp only [RXC]
 exact ⟨eI_len, eI_flat, .inr ⟨b, cap, [], by simp, by simpa using hc, ht, RXRow.ofPlain eI_len (eI_pl xs) h, rfl⟩⟩
theorem rxI0 {S : Bool → Nat → Prop} : RXC (envI w S ob) (.ow 1 (([] : List Int).map eI)) (.slice none 0 0) [] := by
 simp only [RXC]
 exact ⟨by simp, Flat.nil, .inl ⟨trivial, by simp, trivial⟩⟩
theorem holdsI {b : Nat} {xs : List Int} (h : ∀ (j : Nat) (x : Int), xs[j]? = some x → w.cell? ⟨b, 0 + j, none⟩ = some (.int .i64 x)) (ht : w.there b 0 n) (hn : xs.length ≤ n) : Go.Sort.Holds (Value.int .i64) w b 0 xs.toArray := by
 intro j hj
 have hj' : j < xs.length := by simpa using hj
 refine ⟨?_, (ht j (by omega)).2⟩
 rw [h j xs[j] (by simp [hj'])]
 simp [hj']
variable {q : Nat}
theorem putI {b : Nat} {os : Array Obj} {xs ys : List Int} (hb : b < w.heap.size) (hl : ys.length = xs.length) (hH : Go.Sort.Holds (Value.int .i64) w b 0 xs.toArray) (ht : w.there b 0 n) :
  (∀ (j : Nat) (x : Int), ys[j]? = some x → (grow (putRow (Value.int .i64) (Go.Sort.ahead w q) b 0 ys.toArray) os).cell? ⟨b, 0 + j, none⟩ = some (.int .i64 x)) ∧ (grow (putRow (Value.int .i64) (Go.Sort.ahead w q) b 0 ys.toArray) os).there b 0 n := by
 have hsz : b < (putRow (Value.int .i64) (Go.Sort.ahead w q) b 0 ys.toArray).heap.size := by simpa using hb
 have hcell : ∀ j, j < ys.length → (grow (putRow (Value.int .i64) (Go.Sort.ahead w q) b 0 ys.toArray) os).cell? ⟨b, 0 + j, none⟩ = some (.int .i64 (ys.toArray[j]!)) := fun j hj => by
  rw [Go.Sort.cell?_grow _ _ _ hsz]
  exact Go.Sort.cell?_putRow (Value.int .i64) (Go.Sort.ahead w q) b 0 xs.toArray ys.toArray (Go.Sort.holds_ahead _ _ _ _ _ _ hH) (by simpa using hl) j (by simpa using hj)
 refine ⟨fun j x hx => ?_, fun j hj => ?_⟩
 ·obtain ⟨h1, h2⟩ := List.getElem?_eq_some_iff.1 hx
  rw [hcell j h1, ← h2]; simp [h1]
 ·rw [Go.Sort.frozen?_grow _ _ _ hsz, Go.Sort.frozen?_putRow, Go.Sort.frozen?_ahead]
  refine ⟨?_, (ht j hj).2⟩
  by_cases hjy : j < ys.length
  ·rw [hcell j hjy]; rfl
  ·rw [Go.Sort.cell?_grow _ _ _ hsz, Go.Sort.cell?_putRow_other _ _ _ _ _ _ (.inr (.inr (by simp; omega))), Go.Sort.cell?_ahead]
   exact (ht j hj).1
theorem frPut {T : Nat → Prop} {b : Nat} {os : Array Obj} {ys : List Int} (hT : T b) : Fr w T (grow (putRow (Value.int .i64) (Go.Sort.ahead w q) b 0 ys.toArray) os) := by
 refine ⟨rfl, rfl, rfl, by simp, fun k hk hn => ?_⟩
 rw [Go.Sort.heap_grow_old _ _ (by simpa using hk)]
 have hne : b ≠ k := fun e => hn (e ▸ hT)
 simp [putRow, Go.Sort.mapBlock, Array.getElem?_modify, hne]
theorem envI_row {S : Bool → Nat → Prop} {b : Nat} {xs : List Int} (h : ∀ (j : Nat) (x : Int), xs[j]? = some x → w.cell? ⟨b, 0 + j, none⟩ = some (.int .i64 x)) : RRow (envI w S ob) b 0 1 (xs.map eI) := rowI_of (E := envI w S ob) h
variable {us : List Value}
theorem in1 {S : Bool → Nat → Prop} {xs : List Int} {obs : List Nat} (h : InOk w S [V.one (.ow 1 (xs.map eI))] [] us ob bs obs) : ob = [] ∧ obs = [] ∧ ((us = [.slice none 0 0] ∧ xs = [] ∧ bs = []) ∨ ∃ b cap, us = [.slice (some ⟨b, 0, none⟩) xs.length cap] ∧ bs = [b] ∧ b < w.heap.size ∧ xs.length ≤ cap ∧ w.there b 0 cap ∧ (∀ (j : Nat) (x : Int), xs[j]? = some x → w.cell? ⟨b, 0 + j, none⟩ = some (.int .i64 x)) ∧ (∀ g, ¬ S g b)) := by
 obtain ⟨rfl, rfl⟩ : ob = [] ∧ obs = [] := h.outs
 refine ⟨rfl, rfl, ?_⟩
 obtain ⟨u, us', b0, bs', rfl, rfl, h1, rfl, rfl⟩ := h.args
 have h1 : RXC (envI w S []) (.ow 1 (xs.map eI)) u b0 := h1
 simp only [RXC] at h1
 obtain ⟨_, _, h2⟩ := h1
 rcases h2 with ⟨rfl, he, rfl⟩ | ⟨g, cap, bs1, rfl, h3, h4, h5, rfl⟩
 ·exact .inl ⟨rfl, by simpa using he, rfl⟩
 ·obtain ⟨hb1, h5r⟩ := rxI_to h5
  subst hb1
  have ho := h.own g (by simp)
  refine .inr ⟨g, cap, by simp, by simp, ho.1, by simpa using h3, by rw [Nat.mul_one] at h4; exact h4, ?_, ho.2⟩
  exact rowI_to (E := envI w S []) h5r
theorem ret0 : retVal [] = .tuple #[] := rfl
theorem sort_gives {f : FuncId}
  (hS : ∀ (blk off cap : Nat) (zs : List Int) (w : World), Go.Sort.Holds (Value.int .i64) w blk off zs.toArray → blk < w.heap.size → zs.length < 4611686018427387904 → Calls P f #[.slice (some ⟨blk, off, none⟩) zs.length cap] w fun e w' => e = .returned (.tuple #[]) ∧ ∃ n os, w' = grow (putRow (Value.int .i64) (Go.Sort.ahead w n) blk off (zs.mergeSort fun x y => decide (x ≤ y)).toArray) os)
  (hN : ∀ w, Calls P f #[.slice none 0 0] w fun e w' => e = .returned (.tuple #[]) ∧ w' = w)
  (xs : List Int) (hx : xs.length < 4611686018427387904) : GivesB P f [V.one (.ow 1 (xs.map eI))] [] [0] [] [] [V.one (.ow 1 ((xs.mergeSort fun x y => decide (x ≤ y)).map eI))] := by
 intro w S us ob bs obs h
 obtain ⟨rfl, rfl, h1 | ⟨b, cap, rfl, rfl, h2, h3, h4, h5, h6⟩⟩ := in1 h
 ·obtain ⟨rfl, rfl, rfl⟩ := h1
  refine (hN w).mono ?_
  rintro e w' ⟨rfl, rfl⟩
  refine ⟨[], [], _, S, [], [], [], ⟨rfl, rfl, rfl⟩, ⟨ret0 ▸ rfl, rfl, ⟨?_, ⟨rfl, rfl⟩, by simp, by simp, h.bnd, h.cls⟩, by simp, fun _ _ h => h, fun _ _ h => .inl h, ⟨rfl, rfl, rfl, Nat.le_refl _, fun _ _ _ => rfl⟩⟩⟩
  exact ⟨_, _, [], [], rfl, rfl, (show RXC _ (.ow 1 _) _ _ by simpa using rxI0 (w := w') (S := S) (ob := [])), rfl, rfl⟩
 ·refine (hS b 0 cap xs w (holdsI h5 h4 h3) h2 hx).mono ?_
  rintro e w' ⟨rfl, q, os, rfl⟩
  have hl : (xs.mergeSort fun x y => decide (x ≤ y)).length = xs.length := List.length_mergeSort _
  obtain ⟨p1, p2⟩ := putI (os := os) (q := q) h2 hl (holdsI h5 h4 h3) h4
  refine ⟨[], [], _, S, [], [b], [], ⟨rfl, rfl, rfl⟩, ⟨ret0 ▸ rfl, rfl, ⟨?_, ⟨rfl, rfl⟩, by simp, fun c hc => ?_, fun g c hc => ?_, h.cls⟩, fun c hc => .inl (by simpa using hc), fun _ _ h => h, fun _ _ h => .inl h, frPut (by simp)⟩⟩
  ·refine ⟨_, _, [b], [], rfl, rfl, ?_, rfl, rfl⟩
   have := rxI (cap := cap) (by rw [hl]; exact h3) (by rw [Nat.mul_one]; exact p2) (envI_row (S := S) (ob := []) p1)
   rw [hl] at this
   exact this
  ·have hc : c = b := by simpa using hc
   subst hc
   exact ⟨by simp; omega, h6⟩
  ·have := h.bnd g c hc
   simp; omega
theorem compact_gives {f : FuncId}
  (hC : ∀ (blk off cap : Nat) (zs : List Int) (w : World), Go.Sort.Holds (Value.int .i64) w blk off zs.toArray → zs.length ≤ 9223372036854775807 → zs.length ≤ cap → Calls P f #[.slice (some ⟨blk, off, none⟩) zs.length cap] w fun e w' => e = .returned (.slice (some ⟨blk, off, none⟩) (Go.Lib.compact zs).length cap) ∧ ∃ q, w' = putRow (Value.int .i64) (Go.Sort.ahead w q) blk off (Go.Lib.compact zs ++ List.replicate (zs.length - (Go.Lib.compact zs).length) 0).toArray)
  (hN : ∀ (a : Option Addr) (cap : Nat) (w : World), Calls P f #[.slice a 0 cap] w fun e w' => e = .returned (.slice a 0 cap) ∧ w' = w)
  (xs : List Int) (hx : xs.length ≤ 9223372036854775807) : Gives P f [V.one (.ow 1 (xs.map eI))] [] [V.one (.ow 1 ((Go.Lib.compact xs).map eI))] [] := by
 intro w S us ob bs obs h
 obtain ⟨rfl, rfl, h1 | ⟨b, cap, rfl, rfl, h2, h3, h4, h5, h6⟩⟩ := in1 h
 ·obtain ⟨rfl, rfl, rfl⟩ := h1
  refine (hN none 0 w).mono ?_
  rintro e w' ⟨rfl, rfl⟩
  refine ⟨_, [], [], S, [.slice none 0 0], [], [], ⟨rfl, rfl, rfl⟩, ⟨rfl, rfl, ⟨?_, ⟨rfl, rfl⟩, by simp, by simp, h.bnd, h.cls⟩, by simp, fun _ _ h => h, fun _ _ h => .inl h, ⟨rfl, rfl, rfl, Nat.le_refl _, fun _ _ _ => rfl⟩⟩⟩
  exact ⟨_, _, [], [], rfl, rfl, rxI0, rfl, rfl⟩
 ·refine (hC b 0 cap xs w (holdsI h5 h4 h3) hx h3).mono ?_
  rintro e w' ⟨rfl, q, rfl⟩
  have hle : (Go.Lib.compact xs).length ≤ xs.length := by
   unfold Go.Lib.compact Go.Lib.compactUpTo
   rw [List.length_map]
   exact Nat.le_trans (List.length_filter_le _ _) (by simp)
  have hl : (Go.Lib.compact xs ++ List.replicate (xs.length - (Go.Lib.compact xs).length) 0).length = xs.length := by simp; omega
  obtain ⟨p1, p2⟩ := putI (os := #[]) (q := q) h2 hl (holdsI h5 h4 h3) h4
  have fr := frPut (w := w) (T := (· ∈ [b] ++ [] ++ [])) (b := b) (q := q) (os := #[]) (ys := Go.Lib.compact xs ++ List.replicate (xs.length - (Go.Lib.compact xs).length) 0) (by simp)
  rw [Go.Sort.grow_empty] at p1 p2 fr
  refine ⟨_, [], [], S, [.slice (some ⟨b, 0, none⟩) (Go.Lib.compact xs).length cap], [b], [], ⟨rfl, rfl, rfl⟩, ⟨rfl, rfl, ⟨?_, ⟨rfl, rfl⟩, by simp, fun c hc => ?_, fun g c hc => ?_, h.cls⟩, fun c hc => .inl (by simpa using hc), fun _ _ h => h, fun _ _ h => .inl h, fr⟩⟩
  ·refine ⟨_, _, [b], [], rfl, rfl, rxI (by omega) (by rw [Nat.mul_one]; exact p2) (envI_row fun j x hx => p1 j x ?_), rfl, rfl⟩
   rw [List.getElem?_append_left (List.getElem?_eq_some_iff.1 hx).1]; exact hx
  ·have hc : c = b := by simpa using hc
   subst hc
   exact ⟨by simp; omega, h6⟩
  ·have := h.bnd g c hc
   simp; omega
open Go.Sort (putRow grow putCells)
theorem in2 {S : Bool → Nat → Prop} {g : Nat} {xs : List Int} {obs : List Nat} (h : InOk w S [V.one (.ow 1 (xs.map eI)), V.one (.clo g [])] [] us ob bs obs) (hne : xs ≠ []) : ob = [] ∧ obs = [] ∧ ∃ b cap, us = [.slice (some ⟨b, 0, none⟩) xs.length cap, .func (.func g) #[] #[]] ∧ bs = [b] ∧ b < w.heap.size ∧ xs.length ≤ cap ∧ w.there b 0 cap ∧ (∀ (j : Nat) (x : Int), xs[j]? = some x → w.cell? ⟨b, 0 + j, none⟩ = some (.int .i64 x)) ∧ (∀ g, ¬ S g b) := by
 obtain ⟨rfl, rfl⟩ : ob = [] ∧ obs = [] := h.outs
 refine ⟨rfl, rfl, ?_⟩
 obtain ⟨u, us', b0, bs', rfl, rfl, h1, u2, us2, b2, bs2, rfl, rfl, h6, rfl, rfl⟩ := h.args
 have h1 : RXC (envI w S []) (.ow 1 (xs.map eI)) u b0 := h1
 simp only [RXC] at h1
 obtain ⟨_, _, h2⟩ := h1
 have h6 : RXC (envI w S []) (.clo g []) u2 b2 := h6
 simp only [RXC] at h6
 obtain ⟨h7, rfl⟩ := h6
 simp only [RC] at h7
 obtain ⟨us3, rfl, h8⟩ := h7
 simp only [RCs] at h8
 subst h8
 rcases h2 with ⟨_, he, _⟩ | ⟨b, cap, bs1, rfl, h3, h4, h5, rfl⟩
 ·exact absurd (by simpa using he) hne
 ·obtain ⟨hb1, h5r⟩ := rxI_to h5
  subst hb1
  have ho := h.own b (by simp)
  refine ⟨b, cap, by simp, by simp, ho.1, by simpa using h3, by rw [Nat.mul_one] at h4; exact h4, ?_, ho.2⟩
  exact rowI_to (E := envI w S []) h5r
theorem del_gives {f : FuncId} {g : Nat} (p : Int → Bool)
  (hg : ∀ (W : World) (x : Int), Go.Proofs.FnGives P g #[] #[.int .i64 x] (.bool (p x)) W)
  (hD : ∀ (blk off cap : Nat) (d : Array Int) (w : World), Go.Proofs.PredAt P g #[] (Value.int .i64) p w → Go.Proofs.PredOver P g #[] (Value.int .i64) p blk off d.size w → Go.Sort.Holds (Value.int .i64) w blk off d → d.size ≤ 9223372036854775807 → d.size ≤ cap →
   Calls P f #[.slice (some ⟨blk, off, none⟩) d.size cap, .func (.func g) #[] #[]] w fun e w' => e = .returned (.slice (some ⟨blk, off, none⟩) (d.toList.filter fun x => !p x).length cap) ∧ ∃ q, w' = putRow (Value.int .i64) (Go.Sort.ahead w q) blk off ((d.toList.filter fun x => !p x) ++ List.replicate (d.size - (d.toList.filter fun x => !p x).length) 0).toArray)
  (xs : List Int) (hne : xs ≠ []) (hx : xs.length ≤ 9223372036854775807) : Gives P f [V.one (.ow 1 (xs.map eI)), V.one (.clo g [])] [] [V.one (.ow 1 ((xs.filter fun x => !p x).map eI))] [] := by
 intro w S us ob bs obs h
 obtain ⟨rfl, rfl, b, cap, rfl, rfl, h2, h3, h4, h5, h6⟩ := in2 h hne
 have hc := hD b 0 cap xs.toArray w (fun W x _ => hg W x) (fun n os dk x _ => hg _ x) (holdsI h5 h4 h3) (by simpa using hx) (by simpa using h3)
 simp only [List.size_toArray] at hc
 refine hc.mono ?_
 rintro e w' ⟨rfl, q, rfl⟩
 have hle : (xs.filter fun x => !p x).length ≤ xs.length := List.length_filter_le _ _
 have hl : (xs.filter (fun x => !p x) ++ List.replicate (xs.length - (xs.filter fun x => !p x).length) 0).length = xs.length := by simp only [List.length_append, List.length_replicate]; omega
 obtain ⟨p1, p2⟩ := putI (os := #[]) (q := q) h2 hl (holdsI h5 h4 h3) h4
 have fr := frPut (w := w) (T := (· ∈ [b] ++ [] ++ [])) (b := b) (q := q) (os := #[]) (ys := xs.filter (fun x => !p x) ++ List.replicate (xs.length - (xs.filter fun x => !p x).length) 0) (by simp)
 rw [Go.Sort.grow_empty] at p1 p2 fr
 refine ⟨_, [], [], S, [.slice (some ⟨b, 0, none⟩) (xs.filter fun x => !p x).length cap], [b], [], ⟨rfl, rfl, rfl⟩, ⟨rfl, rfl, ⟨?_, ⟨rfl, rfl⟩, by simp, fun c hc => ?_, fun g c hc => ?_, h.cls⟩, fun c hc => .inl (by simpa using hc), fun _ _ h => h, fun _ _ h => .inl h, fr⟩⟩
 ·refine ⟨_, _, [b], [], rfl, rfl, rxI (by omega) (by rw [Nat.mul_one]; exact p2) (envI_row fun j x hx => p1 j x ?_), rfl, rfl⟩
  rw [List.getElem?_append_left (List.getElem?_eq_some_iff.1 hx).1]; exact hx
 ·have hc : c = b := by simpa using hc
  subst hc
  exact ⟨by simp; omega, h6⟩
 ·have := h.bnd g c hc
  simp; omega
end Go.MG
