import Derived.Test.YtnbjjmnohlnplaaGreatFDwx1
import Derived.Test.YtnbjjmnohlnplaaGreatProg
namespace Go.Proofs.YtnbjjmnohlnplaaGreat.M
open Go Go.MG Tryz
set_option linter.unusedVariables false
set_option linter.unusedSimpArgs false
set_option maxHeartbeats 8000000
set_option maxRecDepth 100000
/-! ### I_sightOf -/
structure Sgt where
  seen : List (List UInt8)
  reached : List Int
  closed : List (List UInt8)
def insN (l : List Int) (n : Int) : List Int := cond (l.contains n) l (l ++ [n])
def lookL (g : List UInt8 → Sgt → Option Sgt) (ps : List (List UInt8)) : Nat → Int → Sgt → Option Sgt
  | 0, _, _ => none
  | n + 1, i, s => cond (decide (i < (ps.length : Int))) ((at? ps i).bind fun p => (g p s).bind fun s => lookL g ps n (IntKind.i64.wrap (i + 1)) s) (some s)
def Flook : Nat → List UInt8 → Sgt → Option Sgt
  | 0, _, _ => none
  | k + 1, t, s => cond (s.seen.contains t) (some s) ((at? t (0 : Int)).bind fun b =>
    cond (b == (107 : UInt8)) ((I_ReadKey k t).bind fun r => some ⟨s.seen ++ [t], insN s.reached r.1, s.closed⟩)
    (cond (b == (108 : UInt8)) ((I_Parts k t).bind fun r => lookL (Flook k) r.1 k 0 ⟨s.seen ++ [t], s.reached, s.closed⟩)
    (cond (b == (115 : UInt8)) (cond (decide ((2 * (s.closed.length + ([t] : List (List UInt8)).length) + 192) * 16 ≤ 281474976710656)) (some ⟨s.seen ++ [t], s.reached, s.closed ++ [t]⟩) none) (some ⟨s.seen ++ [t], s.reached, s.closed⟩))))
theorem ent93 : MG.Enters Tryz.prog 93 := en Tryz.func93
theorem ent47 : MG.Enters Tryz.prog 47 := en Tryz.func47
theorem str_inj {a b : List UInt8} (h : str a = str b) : a = b := by cases h; rfl
theorem i64_inj {a b : Int} (h : i64 a = i64 b) : a = b := by cases h; rfl
theorem hasT {l : List (List UInt8)} {t : List UInt8} : l.contains t = true ↔ str t ∈ l.map str := by
  simp only [List.contains_iff_mem, List.mem_map]
  exact ⟨fun h => ⟨t, h, rfl⟩, fun ⟨x, hx, e⟩ => str_inj e ▸ hx⟩
theorem hasN {l : List Int} {n : Int} : l.contains n = true ↔ i64 n ∈ l.map i64 := by
  simp only [List.contains_iff_mem, List.mem_map]
  exact ⟨fun h => ⟨n, h, rfl⟩, fun ⟨x, hx, e⟩ => i64_inj e ▸ hx⟩
theorem insN_map (l : List Int) (n : Int) : (insN l n).map i64 = cond (l.contains n) (l.map i64) (l.map i64 ++ [i64 n]) := by
  simp only [insN]; cases l.contains n <;> simp
abbrev dI : TypeDesc := .int .i64
def LookIn (b1 b2 : Nat) (s : Sgt) (w : World) (S : Bool → Nat → Prop) (T : List Nat) : Prop := b1 ≠ b2 ∧ (b1 < w.heap.size ∧ b1 ∉ T ∧ (∀ g, ¬ S g b1) ∧ ∃ o, w.heap[b1]? = some o ∧ MapObj o .string (s.seen.map str)) ∧ (b2 < w.heap.size ∧ b2 ∉ T ∧ (∀ g, ¬ S g b2) ∧ ∃ o, w.heap[b2]? = some o ∧ MapObj o dI (s.reached.map i64))
def LookOut (b1 b2 : Nat) (s' : Sgt) (w w' w1 : World) (MB : List Nat) : Prop := MB = [] ∧ ∃ o1 o2, w1 = setBlk (setBlk w' b1 o1) b2 o2 ∧ MapObj o1 .string (s'.seen.map str) ∧ MapObj o2 dI (s'.reached.map i64)
/-- The two maps, as they stand. -/
structure Maps (b1 b2 : Nat) (s : Sgt) (F : Fix) : Prop where
  ne : b1 ≠ b2
  m1 : OldM F b1 .string (s.seen.map str)
  m2 : OldM F b2 dI (s.reached.map i64)
theorem Maps.inl {b1 b2 : Nat} {s : Sgt} {F : Fix} (M : Maps b1 b2 s F) {H : Heap} {E : Env} (hH : RelH F H E) : ∀ S T, (∀ g b, S g b → E.S g b ∨ ∃ k, Own E k b) → (∀ b ∈ T, ∃ k, Own E k b) → LookIn b1 b2 s E.w S T := by
  intro S T hS hT
  obtain ⟨x1, x2, x3, x4⟩ := M.m1.old.free hH
  obtain ⟨y1, y2, y3, y4⟩ := M.m2.old.free hH
  refine ⟨M.ne, ⟨x3, fun hb => ?_, fun g hg => ?_, M.m1.now hH⟩, ⟨y3, fun hb => ?_, fun g hg => ?_, M.m2.now hH⟩⟩
  · obtain ⟨k, hk⟩ := hT _ hb; exact x1 k hk
  · rcases hS _ _ hg with h | ⟨k, hk⟩
    · exact x2 g h
    · exact x1 k hk
  · obtain ⟨k, hk⟩ := hT _ hb; exact y1 k hk
  · rcases hS _ _ hg with h | ⟨k, hk⟩
    · exact y2 g h
    · exact y1 k hk
theorem Maps.set {b1 b2 : Nat} {s s' : Sgt} {F : Fix} (M : Maps b1 b2 s F) {o1 o2 : Obj} (h1 : MapObj o1 .string (s'.seen.map str)) (h2 : MapObj o2 dI (s'.reached.map i64)) : Maps b1 b2 s' ((F.setB b1 o1).setB b2 o2) :=
  ⟨M.ne, (OldM.setB M.m1.old h1).other M.ne, OldM.setB M.m2.old.setB h2⟩
theorem Maps.set1 {b1 b2 : Nat} {s s' : Sgt} {F : Fix} (M : Maps b1 b2 s F) {o1 : Obj} (h1 : MapObj o1 .string (s'.seen.map str)) (h2 : s'.reached = s.reached) : Maps b1 b2 s' (F.setB b1 o1) :=
  ⟨M.ne, OldM.setB M.m1.old h1, by rw [h2]; exact M.m2.other M.ne.symm⟩
theorem Maps.set2 {b1 b2 : Nat} {s s' : Sgt} {F : Fix} (M : Maps b1 b2 s F) {o1 : Obj} (h1 : MapObj o1 dI (s'.reached.map i64)) (h2 : s'.seen = s.seen) : Maps b1 b2 s' (F.setB b2 o1) :=
  ⟨M.ne, by rw [h2]; exact M.m1.other M.ne, OldM.setB M.m2.old h1⟩
theorem Maps.as {b1 b2 : Nat} {s s' : Sgt} {F : Fix} (M : Maps b1 b2 s F) (h1 : s'.seen = s.seen) (h2 : s'.reached = s.reached) : Maps b1 b2 s' F := ⟨M.ne, by rw [h1]; exact M.m1, by rw [h2]; exact M.m2⟩
theorem z3 (w : World) : (zeroValue 3).run Tryz.prog w = .ok (i64 0) w := by
  have : Tryz.t3.zero = some (i64 0) := rfl
  simp [zeroValue, run_typeInfo w info3, Result.andThen, this]
abbrev cM (b : Nat) : Cell := .raw (.map (some b))
theorem Flook_ok : ∀ (k : Nat) (t : List UInt8) (s s' : Sgt) (H : Flook k t s = some s') (b1 b2 : Nat), HoldsX Tryz.prog 93 [V.one (.ptr 0 0), V.one (cS t)] [[cM b1, cM b2, .ow 1 (s.closed.map eS)]] (LookIn b1 b2 s) (LookOut b1 b2 s') (fun _ => []) [[cM b1, cM b2, .ow 1 (s'.closed.map eS)]] := by
  intro k
  induction k with
  | zero => intro t s s' H; cases H
  | succ k ih =>
  intro t s s' H b1 b2
  refine HoldsX.intro Tryz.func93 rfl (Nat.le_of_ble_eq_true rfl) (by intro cs hcs; simp at hcs; subst hcs; exact ⟨rfl, rfl⟩) (by intro j hj; simp [V.names, V.cells, cnames, Cell.names] at hj; simp [hj]) fun F l hn hm hT hIn => ?_
  have hF : F.n = 65 := hn
  obtain ⟨hne, ⟨x1, x2, x3, x4⟩, y1, y2, y3, y4⟩ := hIn
  have M : Maps b1 b2 s F := ⟨hne, ⟨⟨x1, by rw [hT]; exact x2, x3⟩, x4⟩, ⟨y1, by rw [hT]; exact y2, y3⟩, y4⟩
  -- the end
  have fin : ∀ {F' : Fix} {σ : St} {e : Exit}, Two b1 b2 F F' → Maps b1 b2 s' F' → MG.Leaves Tryz.prog Tryz.f93 1 [] (fun r o b => r = [] ∧ o = [[cM b1, cM b2, .ow 1 (s'.closed.map eS)]] ∧ b = []) e σ → ∃ MB : List Nat, MG.Leaves Tryz.prog Tryz.f93 1 [] (fun r o b => r = [] ∧ o = [[cM b1, cM b2, .ow 1 (s'.closed.map eS)]] ∧ b = []) e σ ∧ ∀ a w1, Rel F' σ a w1 → ∃ E : Env, RelH F σ.H E ∧ RelS F σ.slots σ.H a E ∧ Pin F σ.H E ∧ LookOut b1 b2 s' F.w0 E.w w1 MB ∧ (∀ v, (results Tryz.f93 a.tmps).run Tryz.prog E.w = .ok v E.w → (results Tryz.f93 a.tmps).run Tryz.prog w1 = .ok v w1) ∧ (∀ b ∈ MB, F.w0.heap.size ≤ b ∧ b < E.w.heap.size ∧ (∀ g, ¬ E.S g b) ∧ ∀ k, ¬ Own E k b) := by
    intro F' σ e t M' hl
    refine ⟨[], hl, fun a w1 hr => ?_⟩
    obtain ⟨o1, p1, q1⟩ := M'.m1.obj
    obtain ⟨o2, p2, q2⟩ := M'.m2.obj
    obtain ⟨E, f1, f2, f3, f4⟩ := t.back M.m1.old M.m2.old hne p1 p2 hr
    refine ⟨E, f1, f2, f3, ⟨rfl, o1, o2, f4, q1, q2⟩, fun v hv => ?_, fun b hb => by cases hb⟩
    have : ∀ w, (results Tryz.f93 a.tmps).run Tryz.prog w = .ok (.tuple #[]) w := fun w => by
      have hr : Tryz.f93.results = #[] := rfl
      simp [results, hr]
    rw [this] at hv ⊢
    cases hv; rfl
  rw [Flook] at H
  refine WmC.seq ?_
  refine WmC.seq ?_
  refine WmC.regionL ?_
  refine WmL.take 5 (L.move hF rfl rfl rfl (L.nilCheck hF rfl rfl rfl rfl (L.fieldAddr Tryz.underlying94 rfl info91 rfl hF rfl rfl rfl rfl rfl (L.loadPtr shape91 hF rfl rfl rfl rfl rfl rfl (L.move hF rfl rfl rfl (L.nil rfl)))))) ?_
  refine WmL.lookup (s.seen.contains t) Tryz.underlying91 Tryz.underlying9 z3 hF rfl rfl rfl rfl M.m1 trivial hasT ?_
  refine WmL.take 1 (L.bin hF rfl rfl rfl rfl rfl rfl (L.nil rfl)) ?_
  refine WmL.nil ?_
  refine WmC.cond rfl (fun hc => ?_) (fun hc => ?_)
  · have hs : s.seen.contains t = true := by revert hc; cases s.seen.contains t <;> intro hc <;> first | rfl | cases hc
    rw [hs] at H; cases H
    refine WmC.ret (fin Two.refl M (Leaves.ret rfl rfl rfl ⟨rfl, rfl⟩))
  have hs : s.seen.contains t = false := by revert hc; cases s.seen.contains t <;> intro hc <;> first | rfl | cases hc
  rw [hs] at H
  obtain ⟨b, hb, H⟩ := bindS H
  refine WmC.skip ?_
  refine WmC.seq ?_
  refine WmC.regionL ?_
  refine WmL.take 5 (L.move hF rfl rfl rfl (L.nilCheck hF rfl rfl rfl rfl (L.fieldAddr Tryz.underlying94 rfl info91 rfl hF rfl rfl rfl rfl rfl (L.loadPtr shape91 hF rfl rfl rfl rfl rfl rfl (L.move hF rfl rfl rfl (L.nil rfl)))))) ?_
  refine WmL.update (s.seen.contains t) Tryz.underlying91 Tryz.underlying9 hF rfl rfl rfl rfl M.m1 trivial hasT fun o1 ho1 => ?_
  refine WmL.nil ?_
  rw [hs] at ho1
  generalize hs1 : (⟨s.seen ++ [t], s.reached, s.closed⟩ : Sgt) = s1 at H
  have M1 : Maps b1 b2 s1 (F.setB b1 o1) := by subst hs1; exact M.set1 (by simpa using ho1) rfl
  have T1 : Two b1 b2 F (F.setB b1 o1) := Two.refl.set1
  generalize F.setB b1 o1 = F1 at M1 T1 ⊢
  have hF1 : F1.n = 65 := T1.n.trans hF
  refine WmC.seq ?_
  refine WmC.regionL ?_
  refine WmL.take 2 (L.move hF1 rfl rfl rfl (L.idxS Tryz.underlying9 hF1 rfl rfl rfl rfl hb (L.nil rfl))) ?_
  refine WmL.nil ?_
  refine WmC.block ?_
  refine WmC.seq ?_
  refine WmC.regionL ?_
  refine WmL.take 2 (L.binB (a := b) (b := 107) hF1 rfl rfl rfl rfl rfl (L.assign hF1 rfl rfl rfl (L.nil rfl))) ?_
  refine WmL.nil ?_
  refine WmC.cond rfl (fun hc => ?_) (fun hc => ?_)
  · replace H := condT hc H
    obtain ⟨r, hr, H⟩ := bindS H
    refine WmC.seq ?_
    refine WmC.regionL ?_
    refine WmL.take 7 (L.move hF1 rfl rfl rfl (L.call [false] [] [] 6 hF1 rfl rfl rfl ent145 rfl rfl rfl rfl rfl (g145 k t r hr) rfl (L.move hF1 rfl rfl rfl (L.extract hF1 rfl rfl rfl rfl (L.extract hF1 rfl rfl rfl rfl (L.assign hF1 rfl rfl rfl (L.assign hF1 rfl rfl rfl (L.nil rfl)))))))) ?_
    refine WmL.nil ?_
    refine WmC.regionL ?_
    refine WmL.take 5 (L.move hF1 rfl rfl rfl (L.nilCheck hF1 rfl rfl rfl rfl (L.fieldAddr Tryz.underlying94 rfl info92 rfl hF1 rfl rfl rfl rfl rfl (L.loadPtr shape92 hF1 rfl rfl rfl rfl rfl rfl (L.move hF1 rfl rfl rfl (L.nil rfl)))))) ?_
    refine WmL.update (s1.reached.contains r.1) Tryz.underlying92 Tryz.underlying3 hF1 rfl rfl rfl rfl M1.m2 rfl hasN fun o2 ho2 => ?_
    refine WmL.nil ?_
    cases H
    subst hs1
    exact fin T1.set2 (M1.set2 (by rw [insN_map]; exact ho2) rfl) (Leaves.normal rfl rfl rfl ⟨rfl, rfl⟩)
  replace H := condF hc H
  refine WmC.seq ?_
  refine WmC.regionL ?_
  refine WmL.take 2 (L.binB (a := b) (b := 108) hF1 rfl rfl rfl rfl rfl (L.assign hF1 rfl rfl rfl (L.nil rfl))) ?_
  refine WmL.nil ?_
  refine WmC.cond rfl (fun hc => ?_) (fun hc => ?_)
  · replace H := condT hc H
    obtain ⟨r, hr, H⟩ := bindS H
    refine WmC.seq ?_
    refine WmC.regionL ?_
    refine WmL.take 7 (L.move hF1 rfl rfl rfl (L.call [false] [] [] 6 hF1 rfl rfl rfl ent146 rfl rfl rfl rfl rfl (g146 k t r hr) rfl (L.move hF1 rfl rfl rfl (L.extract hF1 rfl rfl rfl rfl (L.extract hF1 rfl rfl rfl rfl (L.assign hF1 rfl rfl rfl (L.assign hF1 rfl rfl rfl (L.nil rfl)))))))) ?_
    refine WmL.nil ?_
    refine WmC.seq ?_
    refine WmC.regionL ?_
    refine WmL.take 3 (L.move hF1 rfl rfl rfl (L.lenR (xs := r.1) (e := eS) Tryz.underlying34 hF1 rfl rfl rfl rfl (L.move hF1 rfl rfl rfl (L.nil rfl)))) ?_
    refine WmL.nil ?_
    refine WmC.block ?_
    have hm1 : MG.Pinned F1 1 [] := ⟨by rw [T1.ob]; exact hm.ob, by rw [T1.oh]; exact hm.oh⟩
    refine WmC.loopL (fun n F' σ => ∃ i s2, lookL (Flook k) r.1 n i s2 = some s' ∧ Two b1 b2 F F' ∧ Maps b1 b2 s2 F' ∧ σ = mkSt [(0, MG.one (.ptr 0 0)), (43, MG.one (.own 1)), (44, MG.one (cI (r.1.length : Int))), (45, MG.one (cI i))] [(1, ⟨1, r.1.map eS⟩), (2, ⟨1, s2.closed.map eS⟩)] [(0, [cM b1, cM b2, .own 2])] 3) k ⟨_, ⟨0, s1, H, T1, M1, rfl⟩, ?_⟩ ?_
    · subst hs1
      exact Le.mk [(0, 0), (1, 6), (2, 5)] hm1 rfl (Sa4 trivial) (Ra2 trivial) (Ba1 trivial)
    clear H
    rintro n F2 _ ⟨i, s2, H, T2, M2, rfl⟩
    cases n with
    | zero => cases H
    | succ n =>
    rw [lookL] at H
    have hF2 : F2.n = 65 := T2.n.trans hF
    have hm2 : MG.Pinned F2 1 [] := ⟨by rw [T2.ob]; exact hm.ob, by rw [T2.oh]; exact hm.oh⟩
    refine WmC.seq ?_
    refine WmC.regionL ?_
    refine WmL.take 1 (L.bin hF2 rfl rfl rfl rfl rfl rfl (L.nil rfl)) ?_
    refine WmL.nil ?_
    refine WmC.seq ?_
    refine WmC.cond rfl (fun hc => ?_) (fun hc => ?_)
    · replace H := condT hc H
      obtain ⟨p, hp, H⟩ := bindS H
      obtain ⟨s3, h3, H⟩ := bindS H
      refine WmC.skip ?_
      refine WmC.seq ?_
      refine WmC.block ?_
      refine WmC.seq ?_
      refine WmC.regionL ?_
      refine WmL.take 3 (L.idxR (xs := r.1) (e := eS) Tryz.underlying34 info9 hF2 rfl rfl rfl rfl rfl hp rfl rfl (L.loadEp (xs := r.1) (e := eS) shape9 hF2 rfl rfl rfl rfl (at?_get hp).2 rfl rfl (L.assign hF2 rfl rfl rfl (L.nil rfl)))) ?_
      refine WmL.nil ?_
      refine WmC.regionL ?_
      refine WmL.take 2 (L.move hF2 rfl rfl rfl (L.move hF2 rfl rfl rfl (L.nil rfl))) ?_
      refine WmL.call [false, false] [] [0] 3 hF2 rfl rfl rfl ent93 rfl rfl rfl rfl rfl (ih p s2 s3 h3 b1 b2) (fun E hH => M2.inl hH) (fun _ => rfl) (fun w w1 MB E' hfr ho hH hfree => ?_)
      obtain ⟨rfl, o1, o2, rfl, q1, q2⟩ := ho
      have M3 := M2.set q1 q2
      refine ⟨(F2.setB b1 o1).setB b2 o2, fun a sl' hS hP => Rel.setB' (Rel.setB hH hS hP M2.m1.old) M2.m2.old.setB, ?_⟩
      have T3 : Two b1 b2 F ((F2.setB b1 o1).setB b2 o2) := T2.set1.set2
      generalize (F2.setB b1 o1).setB b2 o2 = F3 at M3 T3 ⊢
      have hF3 : F3.n = 65 := T3.n.trans hF
      have hm3 : MG.Pinned F3 1 [] := ⟨by rw [T3.ob]; exact hm.ob, by rw [T3.oh]; exact hm.oh⟩
      refine WmL.nil ?_
      refine WmC.regionL ?_
      refine WmL.take 2 (L.bin hF3 rfl rfl rfl rfl rfl rfl (L.move hF3 rfl rfl rfl (L.nil rfl))) ?_
      refine WmL.nil ?_
      exact ⟨n, _, by omega, ⟨_, s3, H, T3, M3, rfl⟩, Le.mk [(0, 0), (1, 1), (2, 5)] hm3 rfl (Sa4 trivial) (Ra2 trivial) (Ba1 trivial)⟩
    · replace H := condF hc H
      cases H
      refine WmC.exit ?_
      exact fin T2 M2 (Leaves.normal rfl rfl rfl ⟨rfl, rfl⟩)
  replace H := condF hc H
  refine WmC.seq ?_
  refine WmC.regionL ?_
  refine WmL.take 2 (L.binB (a := b) (b := 115) hF1 rfl rfl rfl rfl rfl (L.assign hF1 rfl rfl rfl (L.nil rfl))) ?_
  refine WmL.nil ?_
  refine WmC.cond rfl (fun hc => ?_) (fun hc => ?_)
  · replace H := condT hc H
    obtain ⟨hg, H⟩ := condG H
    refine WmC.regionL ?_
    refine WmL.take 11 (L.move hF1 rfl rfl rfl (L.move hF1 rfl rfl rfl (L.nilCheck hF1 rfl rfl rfl rfl (L.fieldAddr Tryz.underlying94 rfl info34 rfl hF1 rfl rfl rfl rfl rfl (L.loadPtr shape34 hF1 rfl rfl rfl rfl rfl rfl (L.move hF1 rfl rfl rfl (L.buildSlice (e := eS) 6 ([t] : List (List UInt8)) Tryz.underlying34 info9 rfl rfl rfl hF1 rfl rfl rfl rfl rfl rfl rfl rfl (L.append (xs := s.closed) (ys := ([t] : List (List UInt8))) (e := eS) 7 Tryz.underlying34 info9 rfl rfl hF1 rfl rfl rfl rfl rfl rfl rfl rfl (fun _ => rfl) (fun _ _ h1 h2 => by cases h1; cases h2; rfl) ⟨_, Tryz.underlying34⟩ (of_decide_eq_true hg) rfl rfl (L.nilCheck hF1 rfl rfl rfl rfl (L.fieldAddr Tryz.underlying94 rfl info34 rfl hF1 rfl rfl rfl rfl rfl (L.storePtr shape34 hF1 rfl rfl rfl rfl rfl rfl rfl (L.nil rfl)))))))))))) ?_
    refine WmL.nil ?_
    cases H; subst hs1
    exact fin T1 (M1.as rfl rfl) (Leaves.normal rfl rfl rfl ⟨rfl, rfl⟩)
  · replace H := condF hc H
    cases H; subst hs1
    refine WmC.skip ?_
    exact fin T1 M1 (Leaves.normal rfl rfl rfl ⟨rfl, rfl⟩)

/-! ### sightOf -/
def keysL (ks : List Int) : Nat → Int → Sgt → Option Sgt
  | 0, _, _ => none
  | n + 1, i, s => cond (decide (i < (ks.length : Int))) ((at? ks i).bind fun x => keysL ks n (IntKind.i64.wrap (i + 1)) ⟨s.seen, insN s.reached x, s.closed⟩) (some s)
def passL (k : Nat) (l : List (List UInt8)) : Nat → Int → Bool → Sgt → Option (Bool × Sgt)
  | 0, _, _, _ => none
  | n + 1, i, ag, s => cond (decide (i < (l.length : Int))) ((at? l i).bind fun t => (I_sealed k t).bind fun r => cond (s.reached.contains r.1)
      ((Flook k r.2.1 s).bind fun s => passL k l n (IntKind.i64.wrap (i + 1)) true s)
      (cond (decide ((2 * (s.closed.length + ([t] : List (List UInt8)).length) + 192) * 16 ≤ 281474976710656)) (passL k l n (IntKind.i64.wrap (i + 1)) ag ⟨s.seen, s.reached, s.closed ++ [t]⟩) none)) (some (ag, s))
def roundsL (k : Nat) : Nat → Bool → Sgt → Option Sgt
  | 0, _, _ => none
  | n + 1, ag, s => cond ag ((passL k s.closed k 0 false ⟨s.seen, s.reached, []⟩).bind fun r => roundsL k n r.1 r.2) (some s)
def FsightOf (k : Nat) (x : T_Known) : Option Sgt :=
  (keysL x.Keys k 0 ⟨[], [], []⟩).bind fun s => (lookL (Flook k) x.Terms k 0 s).bind fun s => roundsL k k true s
def SightOut (s' : Sgt) (w w' w1 : World) (MB : List Nat) : Prop := w1 = w' ∧ ∃ b1 b2 o1 o2, MB = [b1, b2] ∧ b1 ≠ b2 ∧ w1.heap[b1]? = some o1 ∧ w1.heap[b2]? = some o2 ∧ MapObj o1 .string (s'.seen.map str) ∧ MapObj o2 dI (s'.reached.map i64)
theorem built94 (b1 b2 : Nat) : Tryz.prog.built 94 [(0, .map (some b1)), (1, .map (some b2))] = some #[.map (some b1), .map (some b2), .slice none 0 0] := by kernel_rfl
/-- What holds while it runs. -/
structure Run (F F' : Fix) (b1 b2 : Nat) (s : Sgt) : Prop where
  u : Under F F'
  M : Maps b1 b2 s F'
  l1 : F.w0.heap.size ≤ b1
  l2 : F.w0.heap.size ≤ b2
theorem Run.hF {F F' : Fix} {b1 b2 : Nat} {s : Sgt} {n : Nat} (r : Run F F' b1 b2 s) (h : F.n = n) : F'.n = n := r.u.n.trans h
theorem Run.hm {F F' : Fix} {b1 b2 : Nat} {s : Sgt} {m : Nat} (r : Run F F' b1 b2 s) (h : MG.Pinned F m []) : MG.Pinned F' m [] := ⟨by rw [r.u.ob]; exact h.ob, by rw [r.u.oh]; exact h.oh⟩
theorem FsightOf_ok (k : Nat) (g0 g1 : Bool) (x : T_Known) (s' : Sgt) (H : FsightOf k x = some s') : HoldsX Tryz.prog 47 [V.agg [Cell.sl g0 (List.map eS x.Terms), Cell.sl g1 (List.map eI x.Keys)]] [] (fun _ _ _ => True) (SightOut s') (fun MB => [V.one (.bx [cM (MB.getD 0 0), cM (MB.getD 1 0), .sl true (s'.closed.map eS)])]) [] := by
  refine HoldsX.intro Tryz.func47 rfl (Nat.le_of_ble_eq_true rfl) (by intro cs hcs; cases hcs) (by intro j hj; simp [V.names, V.cells, cnames, Cell.names] at hj) fun F l hn hm hT hIn => ?_
  have hF : F.n = 85 := hn
  unfold FsightOf at H
  obtain ⟨s1, H1, H⟩ := bindS H
  obtain ⟨s2, H2, H⟩ := bindS H
  refine WmC.seq ?_
  refine WmC.regionL ?_
  refine WmL.take 2 (L.box 10 hF rfl rfl rfl rfl (L.assign hF rfl rfl rfl (L.nil rfl))) ?_
  refine WmL.nil ?_
  refine WmC.seq ?_
  refine WmC.regionL ?_
  refine WmL.makeMap hF rfl rfl fun F1 b1 u1 m1 l1 d1 => ?_
  refine WmL.makeMap (u1.n.trans hF) rfl rfl fun F2 b2 u2 m2 l2 d2 => ?_
  have R : Run F F2 b1 b2 ⟨[], [], []⟩ := ⟨u1.trans u2, ⟨d2 b1 (m1 .string).old, (m1 _).under u2, m2 _⟩, l1, Nat.le_trans u1.size l2⟩
  clear u1 m1 d1 u2 m2 d2
  generalize hs0 : (⟨[], [], []⟩ : Sgt) = s0 at R H1
  have hF2 := R.hF hF
  have hm2 := R.hm hm
  refine WmL.build2 (built94 b1 b2) hF2 rfl rfl rfl rfl ?_
  refine WmL.take 2 (L.box 11 hF2 rfl rfl rfl rfl (L.assign hF2 rfl rfl rfl (L.nil rfl))) ?_
  refine WmL.nil ?_
  refine WmC.seq ?_
  refine WmC.seq ?_
  refine WmC.regionL ?_
  refine WmL.take 4 (L.fieldAddr Tryz.underlying36 rfl info24 rfl hF2 rfl rfl rfl rfl rfl (L.loadPtr shape24 hF2 rfl rfl rfl rfl rfl rfl (L.lenR (xs := x.Keys) (e := eI) Tryz.underlying24 hF2 rfl rfl rfl rfl (L.move hF2 rfl rfl rfl (L.nil rfl))))) ?_
  refine WmL.nil ?_
  refine WmC.block ?_
  refine WmC.loopL (fun n F' σ => ∃ i s, keysL x.Keys n i s = some s1 ∧ Run F F' b1 b2 s ∧ s.closed = [] ∧ σ = mkSt [(1, MG.one (.ptr 0 0)), (3, MG.one (.ptr 1 0)), (20, MG.one (.sl g1 (List.map eI x.Keys))), (21, MG.one (cI (x.Keys.length : Int))), (22, MG.one (cI i))] [] [(0, [.sl g0 (List.map eS x.Terms), .sl g1 (List.map eI x.Keys)]), (1, [cM b1, cM b2, .nil])] 2) k ⟨_, ⟨0, s0, H1, R, by subst hs0; rfl, rfl⟩, ?_⟩ ?_
  · exact Le.mk [(0, 10), (1, 11)] hm2 rfl (Sa4 (Sa1 trivial)) trivial (Ba2 trivial)
  · clear H1
    rintro n F' _ ⟨i, s, H1, R, hcl, rfl⟩
    cases n with
    | zero => cases H1
    | succ n =>
    rw [keysL] at H1
    have hF' := R.hF hF
    have hm' := R.hm hm
    refine WmC.seq ?_
    refine WmC.regionL ?_
    refine WmL.take 1 (L.bin hF' rfl rfl rfl rfl rfl rfl (L.nil rfl)) ?_
    refine WmL.nil ?_
    refine WmC.seq ?_
    refine WmC.cond rfl (fun hc => ?_) (fun hc => ?_)
    · replace H1 := condT hc H1
      obtain ⟨y, hy, H1⟩ := bindS H1
      refine WmC.skip ?_
      refine WmC.seq ?_
      refine WmC.block ?_
      refine WmC.seq ?_
      refine WmC.regionL ?_
      refine WmL.take 3 (L.idxR (xs := x.Keys) (e := eI) Tryz.underlying24 info3 hF' rfl rfl rfl rfl rfl hy rfl rfl (L.loadPe shape3 hF' rfl rfl rfl rfl rfl (L.assign hF' rfl rfl rfl (L.nil rfl)))) ?_
      refine WmL.nil ?_
      refine WmC.regionL ?_
      refine WmL.take 5 (L.move hF' rfl rfl rfl (L.nilCheck hF' rfl rfl rfl rfl (L.fieldAddr Tryz.underlying94 rfl info92 rfl hF' rfl rfl rfl rfl rfl (L.loadPtr shape92 hF' rfl rfl rfl rfl rfl rfl (L.move hF' rfl rfl rfl (L.nil rfl)))))) ?_
      refine WmL.update (s.reached.contains y) Tryz.underlying92 Tryz.underlying3 hF' rfl rfl rfl rfl R.M.m2 rfl hasN fun o2 ho2 => ?_
      have R2 : Run F (F'.setB b2 o2) b1 b2 ⟨s.seen, insN s.reached y, s.closed⟩ := ⟨R.u.setB R.l2, R.M.set2 (by rw [insN_map]; exact ho2) rfl, R.l1, R.l2⟩
      generalize F'.setB b2 o2 = F3 at R2 ⊢
      have hF3 := R2.hF hF
      have hm3 := R2.hm hm
      refine WmL.nil ?_
      refine WmC.regionL ?_
      refine WmL.take 2 (L.bin hF3 rfl rfl rfl rfl rfl rfl (L.move hF3 rfl rfl rfl (L.nil rfl))) ?_
      refine WmL.nil ?_
      exact ⟨n, _, by omega, ⟨_, _, H1, R2, hcl, rfl⟩, Le.mk [(0, 0), (1, 1)] hm3 rfl (Sa4 (Sa1 trivial)) trivial (Ba2 trivial)⟩
    replace H1 := condF hc H1
    cases H1
    refine WmC.exit ?_
    refine WmC.seq ?_
    refine WmC.seq ?_
    refine WmC.regionL ?_
    refine WmL.take 4 (L.fieldAddr Tryz.underlying36 rfl info34 rfl hF' rfl rfl rfl rfl rfl (L.loadPtr shape34 hF' rfl rfl rfl rfl rfl rfl (L.lenR (xs := x.Terms) (e := eS) Tryz.underlying34 hF' rfl rfl rfl rfl (L.move hF' rfl rfl rfl (L.nil rfl))))) ?_
    refine WmL.nil ?_
    refine WmC.block ?_
    refine WmC.le (Le.ownB 1 2 2 1 rfl rfl rfl) ?_
    refine WmC.loopL (fun n F' σ => ∃ i s, lookL (Flook k) x.Terms n i s = some s2 ∧ Run F F' b1 b2 s ∧ σ = mkSt [(3, MG.one (.ptr 1 0)), (33, MG.one (.sl g0 (List.map eS x.Terms))), (34, MG.one (cI (x.Terms.length : Int))), (35, MG.one (cI i))] [(2, ⟨1, s.closed.map eS⟩)] [(1, [cM b1, cM b2, .own 2])] 3) k ⟨_, ⟨0, _, H2, R, rfl⟩, ?_⟩ ?_
    · rw [hcl]; exact Le.mk [(1, 1), (2, 2)] hm' rfl (Sa4 trivial) (Ra1 trivial) (Ba1 trivial)
    clear H2 hF' hm' R hcl
    rintro n F' _ ⟨i, s, H2, R, rfl⟩
    cases n with
    | zero => cases H2
    | succ n =>
    rw [lookL] at H2
    have hF' := R.hF hF
    have hm' := R.hm hm
    refine WmC.seq ?_
    refine WmC.regionL ?_
    refine WmL.take 1 (L.bin hF' rfl rfl rfl rfl rfl rfl (L.nil rfl)) ?_
    refine WmL.nil ?_
    refine WmC.seq ?_
    refine WmC.cond rfl (fun hc => ?_) (fun hc => ?_)
    · replace H2 := condT hc H2
      obtain ⟨y, hy, H2⟩ := bindS H2
      obtain ⟨s3, h3, H2⟩ := bindS H2
      refine WmC.skip ?_
      refine WmC.seq ?_
      refine WmC.block ?_
      refine WmC.seq ?_
      refine WmC.regionL ?_
      refine WmL.take 3 (L.idxR (xs := x.Terms) (e := eS) Tryz.underlying34 info9 hF' rfl rfl rfl rfl rfl hy rfl rfl (L.loadPe shape9 hF' rfl rfl rfl rfl rfl (L.assign hF' rfl rfl rfl (L.nil rfl)))) ?_
      refine WmL.nil ?_
      refine WmC.regionL ?_
      refine WmL.take 2 (L.move hF' rfl rfl rfl (L.move hF' rfl rfl rfl (L.nil rfl))) ?_
      refine WmL.call [false, false] [] [1] 3 hF' rfl rfl rfl ent93 rfl rfl rfl rfl rfl (Flook_ok k y s s3 h3 b1 b2) (fun E hH => R.M.inl hH) (fun _ => rfl) (fun w w1 MB E' hfr ho hH hfree => ?_)
      obtain ⟨rfl, o1, o2, rfl, q1, q2⟩ := ho
      refine ⟨(F'.setB b1 o1).setB b2 o2, fun a sl' hS hP => Rel.setB' (Rel.setB hH hS hP R.M.m1.old) R.M.m2.old.setB, ?_⟩
      have R3 : Run F ((F'.setB b1 o1).setB b2 o2) b1 b2 s3 := ⟨(R.u.setB R.l1).setB R.l2, R.M.set q1 q2, R.l1, R.l2⟩
      generalize (F'.setB b1 o1).setB b2 o2 = F3 at R3 ⊢
      have hF3 := R3.hF hF
      have hm3 := R3.hm hm
      refine WmL.nil ?_
      refine WmC.regionL ?_
      refine WmL.take 2 (L.bin hF3 rfl rfl rfl rfl rfl rfl (L.move hF3 rfl rfl rfl (L.nil rfl))) ?_
      refine WmL.nil ?_
      exact ⟨n, _, by omega, ⟨_, s3, H2, R3, rfl⟩, Le.mk [(1, 1), (2, 5)] hm3 rfl (Sa4 trivial) (Ra1 trivial) (Ba1 trivial)⟩
    replace H2 := condF hc H2
    cases H2
    refine WmC.exit ?_
    refine WmC.seq ?_
    refine WmC.seq ?_
    refine WmC.regionL ?_
    refine WmL.take 1 (L.assign hF' rfl rfl rfl (L.nil rfl)) ?_
    refine WmL.nil ?_
    refine WmC.block ?_
    refine WmC.loopL (fun n F' σ => ∃ ag s, roundsL k n ag s = some s' ∧ Run F F' b1 b2 s ∧ σ = mkSt [(3, MG.one (.ptr 0 0)), (8, MG.one (cL ag))] [(1, ⟨1, s.closed.map eS⟩)] [(0, [cM b1, cM b2, .own 1])] 2) k ⟨_, ⟨true, _, H, R, rfl⟩, Le.mk [(0, 1), (1, 2)] hm' rfl (Sa2 trivial) (Ra1 trivial) (Ba1 trivial)⟩ ?_
    clear H hF' hm' R
    rintro n F' _ ⟨ag, s, H, R, rfl⟩
    cases n with
    | zero => cases H
    | succ n =>
    rw [roundsL] at H
    have hF' := R.hF hF
    have hm' := R.hm hm
    refine WmC.seq ?_
    refine WmC.seq ?_
    refine WmC.regionL ?_
    refine WmL.take 1 (L.move hF' rfl rfl rfl (L.nil rfl)) ?_
    refine WmL.nil ?_
    refine WmC.cond rfl (fun hc => ?_) (fun hc => ?_)
    · replace H := condT hc H
      obtain ⟨r, hr, H⟩ := bindS H
      refine WmC.skip ?_
      refine WmC.block ?_
      refine WmC.seq ?_
      refine WmC.regionL ?_
      refine WmL.take 1 (L.assign hF' rfl rfl rfl (L.nil rfl)) ?_
      refine WmL.nil ?_
      refine WmC.seq ?_
      refine WmC.regionL ?_
      refine WmL.take 5 (L.move hF' rfl rfl rfl (L.nilCheck hF' rfl rfl rfl rfl (L.fieldAddr Tryz.underlying94 rfl info34 rfl hF' rfl rfl rfl rfl rfl (L.loadPtr shape34 hF' rfl rfl rfl rfl rfl rfl (L.assign hF' rfl rfl rfl (L.nil rfl)))))) ?_
      refine WmL.nil ?_
      refine WmC.seq ?_
      refine WmC.regionL ?_
      refine WmL.take 4 (L.move hF' rfl rfl rfl (L.nilCheck hF' rfl rfl rfl rfl (L.fieldAddr Tryz.underlying94 rfl info34 rfl hF' rfl rfl rfl rfl rfl (L.storePtr shape34 hF' rfl rfl rfl rfl rfl rfl rfl (L.nil rfl))))) ?_
      refine WmL.nil ?_
      refine WmC.seq ?_
      refine WmC.regionL ?_
      refine WmL.take 3 (L.move hF' rfl rfl rfl (L.lenR (xs := s.closed) (e := eS) Tryz.underlying34 hF' rfl rfl rfl rfl (L.move hF' rfl rfl rfl (L.nil rfl)))) ?_
      refine WmL.nil ?_
      refine WmC.block ?_
      refine WmC.le (Le.ownB 0 2 2 1 rfl rfl rfl) ?_
      have R0 : Run F F' b1 b2 ⟨s.seen, s.reached, []⟩ := ⟨R.u, R.M.as rfl rfl, R.l1, R.l2⟩
      refine WmC.loopL (fun m F' σ => ∃ i ag s2, passL k s.closed m i ag s2 = some r ∧ Run F F' b1 b2 s2 ∧ σ = mkSt [(3, MG.one (.ptr 0 0)), (8, MG.one (cL ag)), (51, MG.one (.own 1)), (52, MG.one (cI (s.closed.length : Int))), (53, MG.one (cI i))] [(1, ⟨1, s.closed.map eS⟩), (2, ⟨1, s2.closed.map eS⟩)] [(0, [cM b1, cM b2, .own 2])] 3) k ⟨_, ⟨0, false, _, hr, R0, rfl⟩, Le.mk [(0, 0), (1, 1), (2, 2)] hm' rfl (Sa4 (Sa1 trivial)) (Ra2 trivial) (Ba1 trivial)⟩ ?_
      clear hr hF' hm' R0
      rintro m F2 _ ⟨i, ag, s2, hr, R2, rfl⟩
      cases m with
      | zero => cases hr
      | succ m =>
      rw [passL] at hr
      have hF2 := R2.hF hF
      have hm2 := R2.hm hm
      refine WmC.seq ?_
      refine WmC.regionL ?_
      refine WmL.take 1 (L.bin hF2 rfl rfl rfl rfl rfl rfl (L.nil rfl)) ?_
      refine WmL.nil ?_
      refine WmC.seq ?_
      refine WmC.cond rfl (fun hc => ?_) (fun hc => ?_)
      · replace hr := condT hc hr
        obtain ⟨t, ht, hr⟩ := bindS hr
        obtain ⟨q, hq, hr⟩ := bindS hr
        refine WmC.skip ?_
        refine WmC.seq ?_
        refine WmC.block ?_
        refine WmC.seq ?_
        refine WmC.regionL ?_
        refine WmL.take 3 (L.idxR (xs := s.closed) (e := eS) Tryz.underlying34 info9 hF2 rfl rfl rfl rfl rfl ht rfl rfl (L.loadEp (xs := s.closed) (e := eS) shape9 hF2 rfl rfl rfl rfl (at?_get ht).2 rfl rfl (L.assign hF2 rfl rfl rfl (L.nil rfl)))) ?_
        refine WmL.nil ?_
        refine WmC.seq ?_
        refine WmC.regionL ?_
        refine WmL.take 9 (L.move hF2 rfl rfl rfl (L.call [false] [] [] 3 hF2 rfl rfl rfl ent94 rfl rfl rfl rfl rfl (g94 k t q hq) rfl (L.move hF2 rfl rfl rfl (L.extract hF2 rfl rfl rfl rfl (L.extract hF2 rfl rfl rfl rfl (L.extract hF2 rfl rfl rfl rfl (L.assign hF2 rfl rfl rfl (L.assign hF2 rfl rfl rfl (L.assign hF2 rfl rfl rfl (L.nil rfl)))))))))) ?_
        refine WmL.nil ?_
        refine WmC.seq ?_
        refine WmC.regionL ?_
        refine WmL.take 5 (L.move hF2 rfl rfl rfl (L.nilCheck hF2 rfl rfl rfl rfl (L.fieldAddr Tryz.underlying94 rfl info92 rfl hF2 rfl rfl rfl rfl rfl (L.loadPtr shape92 hF2 rfl rfl rfl rfl rfl rfl (L.move hF2 rfl rfl rfl (L.nil rfl)))))) ?_
        refine WmL.lookup (s2.reached.contains q.1) Tryz.underlying92 Tryz.underlying3 z3 hF2 rfl rfl rfl rfl R2.M.m2 rfl hasN ?_
        refine WmL.take 1 (L.bin hF2 rfl rfl rfl rfl rfl rfl (L.nil rfl)) ?_
        refine WmL.nil ?_
        refine WmC.cond rfl (fun hc => ?_) (fun hc => ?_)
        · have hs : s2.reached.contains q.1 = true := by revert hc; cases s2.reached.contains q.1 <;> intro hc <;> first | rfl | cases hc
          rw [hs] at hr
          obtain ⟨s3, h3, hr⟩ := bindS (show Option.bind _ _ = _ from hr)
          refine WmC.seq ?_
          refine WmC.regionL ?_
          refine WmL.take 2 (L.move hF2 rfl rfl rfl (L.move hF2 rfl rfl rfl (L.nil rfl))) ?_
          refine WmL.call [false, false] [] [0] 10 hF2 rfl rfl rfl ent93 rfl rfl rfl rfl rfl (Flook_ok k q.2.1 s2 s3 h3 b1 b2) (fun E hH => R2.M.inl hH) (fun _ => rfl) (fun w w1 MB E' hfr ho hH hfree => ?_)
          obtain ⟨rfl, o1, o2, rfl, q1, q2⟩ := ho
          refine ⟨(F2.setB b1 o1).setB b2 o2, fun a sl' hS hP => Rel.setB' (Rel.setB hH hS hP R2.M.m1.old) R2.M.m2.old.setB, ?_⟩
          have R3 : Run F ((F2.setB b1 o1).setB b2 o2) b1 b2 s3 := ⟨(R2.u.setB R2.l1).setB R2.l2, R2.M.set q1 q2, R2.l1, R2.l2⟩
          generalize (F2.setB b1 o1).setB b2 o2 = F3 at R3 ⊢
          have hF3 := R3.hF hF
          have hm3 := R3.hm hm
          refine WmL.nil ?_
          refine WmC.regionL ?_
          refine WmL.take 1 (L.assign hF3 rfl rfl rfl (L.nil rfl)) ?_
          refine WmL.nil ?_
          refine WmC.regionL ?_
          refine WmL.take 2 (L.bin hF3 rfl rfl rfl rfl rfl rfl (L.move hF3 rfl rfl rfl (L.nil rfl))) ?_
          refine WmL.nil ?_
          exact ⟨m, _, by omega, ⟨_, true, s3, hr, R3, rfl⟩, Le.mk [(0, 0), (1, 1), (2, 12)] hm3 rfl (Sa4 (Sa1 trivial)) (Ra2 trivial) (Ba1 trivial)⟩
        · have hs : s2.reached.contains q.1 = false := by revert hc; cases s2.reached.contains q.1 <;> intro hc <;> first | rfl | cases hc
          rw [hs] at hr
          obtain ⟨hg, hr⟩ := condG (show cond _ _ none = _ from hr)
          refine WmC.regionL ?_
          refine WmL.take 11 (L.move hF2 rfl rfl rfl (L.move hF2 rfl rfl rfl (L.nilCheck hF2 rfl rfl rfl rfl (L.fieldAddr Tryz.underlying94 rfl info34 rfl hF2 rfl rfl rfl rfl rfl (L.loadPtr shape34 hF2 rfl rfl rfl rfl rfl rfl (L.move hF2 rfl rfl rfl (L.buildSlice (e := eS) 10 ([t] : List (List UInt8)) Tryz.underlying34 info9 rfl rfl rfl hF2 rfl rfl rfl rfl rfl rfl rfl rfl (L.append (xs := s2.closed) (ys := ([t] : List (List UInt8))) (e := eS) 11 Tryz.underlying34 info9 rfl rfl hF2 rfl rfl rfl rfl rfl rfl rfl rfl (fun _ => rfl) (fun _ _ h1 h2 => by cases h1; cases h2; rfl) ⟨_, Tryz.underlying34⟩ (of_decide_eq_true hg) rfl rfl (L.nilCheck hF2 rfl rfl rfl rfl (L.fieldAddr Tryz.underlying94 rfl info34 rfl hF2 rfl rfl rfl rfl rfl (L.storePtr shape34 hF2 rfl rfl rfl rfl rfl rfl rfl (L.nil rfl)))))))))))) ?_
          refine WmL.nil ?_
          refine WmC.regionL ?_
          refine WmL.take 2 (L.bin hF2 rfl rfl rfl rfl rfl rfl (L.move hF2 rfl rfl rfl (L.nil rfl))) ?_
          refine WmL.nil ?_
          exact ⟨m, _, by omega, ⟨_, ag, ⟨s2.seen, s2.reached, s2.closed ++ [t]⟩, hr, ⟨R2.u, R2.M.as rfl rfl, R2.l1, R2.l2⟩, rfl⟩, Le.mk [(0, 0), (1, 1), (2, 11)] hm2 rfl (Sa4 (Sa1 trivial)) (Ra2 trivial) (Ba1 trivial)⟩
      · replace hr := condF hc hr
        cases hr
        refine WmC.exit ?_
        exact ⟨n, _, by omega, ⟨_, _, H, R2, rfl⟩, Le.mk [(0, 0), (1, 2)] hm2 rfl (Sa2 trivial) (Ra1 trivial) (Ba1 trivial)⟩
    replace H := condF hc H
    cases H
    refine WmC.exit ?_
    refine WmC.seq ?_
    refine WmC.regionL ?_
    refine WmL.take 2 (L.move hF' rfl rfl rfl (L.assign hF' rfl rfl rfl (L.nil rfl))) ?_
    refine WmL.nil ?_
    refine WmC.le (Le.shareAll 1 rfl) ?_
    refine WmC.ret ⟨[b1, b2], Leaves.ret rfl rfl rfl ⟨rfl, rfl⟩, fun a w1 hr => ?_⟩
    obtain ⟨E, rfl, hH, hS, hP⟩ := hr
    have f1 := R.M.m1.old.free hH
    have f2 := R.M.m2.old.free hH
    obtain ⟨o1, p1, q1⟩ := R.M.m1.now hH
    obtain ⟨o2, p2, q2⟩ := R.M.m2.now hH
    refine ⟨E, R.u.relH hH, hS.refix R.u.n.symm, hP.refix R.u.ob.symm R.u.oh.symm, ⟨rfl, b1, b2, o1, o2, rfl, R.M.ne, p1, p2, q1, q2⟩, fun v hv => hv, fun b hb => ?_⟩
    rcases List.mem_cons.1 hb with rfl | hb
    · exact ⟨R.l1, f1.2.2.1, f1.2.1, f1.1⟩
    · obtain rfl : b = b2 := by simpa using hb
      exact ⟨R.l2, f2.2.2.1, f2.2.1, f2.1⟩


/-! ### I_Build -/
theorem ent193 : MG.Enters Tryz.prog 193 := en Tryz.func193
/-! ### builds -/
def bldL (g : List UInt8 → Option Bool) (ps : List (List UInt8)) : Nat → Int → Option Bool
  | 0, _ => none
  | n + 1, i => cond (decide (i < (ps.length : Int))) ((at? ps i).bind fun p => (g p).bind fun r => cond (!r) (some false) (bldL g ps n (IntKind.i64.wrap (i + 1)))) (some true)
def Fbuilds (s : Sgt) : Nat → List UInt8 → Option Bool
  | 0, _ => none
  | k + 1, t => cond (s.seen.contains t) (some true) ((at? t (0 : Int)).bind fun b =>
    cond (b == (97 : UInt8)) (some true)
    (cond (b == (107 : UInt8)) ((I_ReadKey k t).bind fun r => some (s.reached.contains r.1))
    (cond (b == (108 : UInt8)) ((I_Parts k t).bind fun r => bldL (Fbuilds s k) r.1 k 0)
    ((I_sealed k t).bind fun r => cond (s.reached.contains r.1) (Fbuilds s k r.2.1) (some false)))))
theorem ent230 : MG.Enters Tryz.prog 230 := en Tryz.func230
theorem gt_c (c : Bool) : (i64 (cond c 1 0) : Value) = i64 (cond c 1 0) := rfl
theorem dec_c (c : Bool) : decide ((cond c 1 0 : Int) > 0) = c := by cases c <;> rfl
theorem Fbuilds_ok (s : Sgt) : ∀ (k : Nat) (t : List UInt8) (r : Bool) (H : Fbuilds s k t = some r) (b1 b2 : Nat), HoldsX Tryz.prog 230 [V.one (.ptr 0 0), V.one (cS t)] [[cM b1, cM b2, .sl true (s.closed.map eS)]] (LookIn b1 b2 s) (fun _ w' w1 MB => w1 = w' ∧ MB = []) (fun _ => [V.one (cL r)]) [[cM b1, cM b2, .sl true (s.closed.map eS)]] := by
  intro k
  induction k with
  | zero => intro t r H; cases H
  | succ k ih =>
  intro t r0 H b1 b2
  refine HoldsX.intro Tryz.func230 rfl (Nat.le_of_ble_eq_true rfl) (by intro cs hcs; simp at hcs; subst hcs; exact ⟨rfl, rfl⟩) (by intro j hj; simp [V.names, V.cells, cnames, Cell.names] at hj; simp [hj]) fun F l hn hm hT hIn => ?_
  have hF : F.n = 75 := hn
  obtain ⟨hne, ⟨x1, x2, x3, x4⟩, y1, y2, y3, y4⟩ := hIn
  have M : Maps b1 b2 s F := ⟨hne, ⟨⟨x1, by rw [hT]; exact x2, x3⟩, x4⟩, ⟨y1, by rw [hT]; exact y2, y3⟩, y4⟩
  have fin : ∀ {σ : St} {e : Exit}, MG.Leaves Tryz.prog Tryz.f230 1 [] (fun r' o b => r' = [V.one (cL r0)] ∧ o = [[cM b1, cM b2, .sl true (s.closed.map eS)]] ∧ b = []) e σ → ∃ MB : List Nat, MG.Leaves Tryz.prog Tryz.f230 1 [] (fun r' o b => r' = [V.one (cL r0)] ∧ o = [[cM b1, cM b2, .sl true (s.closed.map eS)]] ∧ b = []) e σ ∧ ∀ a w1, Rel F σ a w1 → ∃ E : Env, RelH F σ.H E ∧ RelS F σ.slots σ.H a E ∧ Pin F σ.H E ∧ (w1 = E.w ∧ MB = []) ∧ (∀ v, (results Tryz.f230 a.tmps).run Tryz.prog E.w = .ok v E.w → (results Tryz.f230 a.tmps).run Tryz.prog w1 = .ok v w1) ∧ (∀ b ∈ MB, F.w0.heap.size ≤ b ∧ b < E.w.heap.size ∧ (∀ g, ¬ E.S g b) ∧ ∀ k, ¬ Own E k b) := by
    intro σ e hl
    refine ⟨[], hl, fun a w1 hr => ?_⟩
    obtain ⟨E, rfl, hH, hS, hP⟩ := hr
    exact ⟨E, hH, hS, hP, ⟨rfl, rfl⟩, fun v hv => hv, fun b hb => by cases hb⟩
  rw [Fbuilds] at H
  refine WmC.seq ?_
  refine WmC.regionL ?_
  refine WmL.take 1 (L.assign hF rfl rfl rfl (L.nil rfl)) ?_
  refine WmL.nil ?_
  refine WmC.seq ?_
  refine WmC.seq ?_
  refine WmC.regionL ?_
  refine WmL.take 5 (L.move hF rfl rfl rfl (L.nilCheck hF rfl rfl rfl rfl (L.fieldAddr Tryz.underlying94 rfl info91 rfl hF rfl rfl rfl rfl rfl (L.loadPtr shape91 hF rfl rfl rfl rfl rfl rfl (L.move hF rfl rfl rfl (L.nil rfl)))))) ?_
  refine WmL.lookup (s.seen.contains t) Tryz.underlying91 Tryz.underlying9 z3 hF rfl rfl rfl rfl M.m1 trivial hasT ?_
  refine WmL.take 1 (L.bin hF rfl rfl rfl rfl rfl rfl (L.nil rfl)) ?_
  refine WmL.nil ?_
  refine WmC.cond rfl (fun hc => ?_) (fun hc => ?_)
  · rw [dec_c] at hc
    rw [hc] at H; cases H
    refine WmC.seq ?_
    refine WmC.regionL ?_
    refine WmL.take 1 (L.assign hF rfl rfl rfl (L.nil rfl)) ?_
    refine WmL.nil ?_
    refine WmC.ret (fin (Leaves.ret rfl rfl rfl ⟨rfl, rfl⟩))
  rw [dec_c] at hc
  rw [hc] at H
  obtain ⟨b, hb, H⟩ := bindS H
  refine WmC.skip ?_
  refine WmC.seq ?_
  refine WmC.seq ?_
  refine WmC.regionL ?_
  refine WmL.take 2 (L.move hF rfl rfl rfl (L.idxS Tryz.underlying9 hF rfl rfl rfl rfl hb (L.nil rfl))) ?_
  refine WmL.nil ?_
  refine WmC.block ?_
  refine WmC.seq ?_
  refine WmC.regionL ?_
  refine WmL.take 2 (L.binB (a := b) (b := 97) hF rfl rfl rfl rfl rfl (L.assign hF rfl rfl rfl (L.nil rfl))) ?_
  refine WmL.nil ?_
  refine WmC.cond rfl (fun hc => ?_) (fun hc => ?_)
  · replace H := condT hc H; cases H
    refine WmC.seq ?_
    refine WmC.regionL ?_
    refine WmL.take 1 (L.assign hF rfl rfl rfl (L.nil rfl)) ?_
    refine WmL.nil ?_
    refine WmC.ret (fin (Leaves.ret rfl rfl rfl ⟨rfl, rfl⟩))
  replace H := condF hc H
  refine WmC.seq ?_
  refine WmC.regionL ?_
  refine WmL.take 2 (L.binB (a := b) (b := 107) hF rfl rfl rfl rfl rfl (L.assign hF rfl rfl rfl (L.nil rfl))) ?_
  refine WmL.nil ?_
  refine WmC.cond rfl (fun hc => ?_) (fun hc => ?_)
  · replace H := condT hc H
    obtain ⟨r, hr, H⟩ := bindS H
    refine WmC.seq ?_
    refine WmC.regionL ?_
    refine WmL.take 7 (L.move hF rfl rfl rfl (L.call [false] [] [] 6 hF rfl rfl rfl ent145 rfl rfl rfl rfl rfl (g145 k t r hr) rfl (L.move hF rfl rfl rfl (L.extract hF rfl rfl rfl rfl (L.extract hF rfl rfl rfl rfl (L.assign hF rfl rfl rfl (L.assign hF rfl rfl rfl (L.nil rfl)))))))) ?_
    refine WmL.nil ?_
    refine WmC.seq ?_
    refine WmC.regionL ?_
    refine WmL.take 5 (L.move hF rfl rfl rfl (L.nilCheck hF rfl rfl rfl rfl (L.fieldAddr Tryz.underlying94 rfl info92 rfl hF rfl rfl rfl rfl rfl (L.loadPtr shape92 hF rfl rfl rfl rfl rfl rfl (L.move hF rfl rfl rfl (L.nil rfl)))))) ?_
    refine WmL.lookup (s.reached.contains r.1) Tryz.underlying92 Tryz.underlying3 z3 hF rfl rfl rfl rfl M.m2 rfl hasN ?_
    refine WmL.take 2 (L.bin hF rfl rfl rfl rfl rfl rfl (L.assign hF rfl rfl rfl (L.nil rfl))) ?_
    refine WmL.nil ?_
    cases H
    refine WmC.ret (fin (Leaves.ret rfl rfl rfl ⟨?_, rfl⟩))
    show [V.one (cL (decide ((cond (s.reached.contains r.1) 1 0 : Int) > 0)))] = _
    rw [dec_c]
  replace H := condF hc H
  refine WmC.seq ?_
  refine WmC.regionL ?_
  refine WmL.take 2 (L.binB (a := b) (b := 108) hF rfl rfl rfl rfl rfl (L.assign hF rfl rfl rfl (L.nil rfl))) ?_
  refine WmL.nil ?_
  refine WmC.cond rfl (fun hc => ?_) (fun hc => ?_)
  · replace H := condT hc H
    obtain ⟨r, hr, H⟩ := bindS H
    refine WmC.seq ?_
    refine WmC.regionL ?_
    refine WmL.take 7 (L.move hF rfl rfl rfl (L.call [false] [] [] 6 hF rfl rfl rfl ent146 rfl rfl rfl rfl rfl (g146 k t r hr) rfl (L.move hF rfl rfl rfl (L.extract hF rfl rfl rfl rfl (L.extract hF rfl rfl rfl rfl (L.assign hF rfl rfl rfl (L.assign hF rfl rfl rfl (L.nil rfl)))))))) ?_
    refine WmL.nil ?_
    refine WmC.seq ?_
    refine WmC.seq ?_
    refine WmC.regionL ?_
    refine WmL.take 3 (L.move hF rfl rfl rfl (L.lenR (xs := r.1) (e := eS) Tryz.underlying34 hF rfl rfl rfl rfl (L.move hF rfl rfl rfl (L.nil rfl)))) ?_
    refine WmL.nil ?_
    refine WmC.block ?_
    refine WmC.loopL (fun n F' σ => ∃ i, bldL (Fbuilds s k) r.1 n i = some r0 ∧ F = F' ∧ σ = mkSt [(0, MG.one (.ptr 0 0)), (46, MG.one (.own 1)), (47, MG.one (cI (r.1.length : Int))), (48, MG.one (cI i))] [(1, ⟨1, r.1.map eS⟩)] [(0, [cM b1, cM b2, .sl true (s.closed.map eS)])] 2) k ⟨_, ⟨0, H, rfl, rfl⟩, ?_⟩ ?_
    · exact Le.mk [(0, 0), (1, 6)] hm rfl (Sa4 trivial) (Ra1 trivial) (Ba1 trivial)
    clear H
    rintro n _ _ ⟨i, H, rfl, rfl⟩
    cases n with
    | zero => cases H
    | succ n =>
    rw [bldL] at H
    refine WmC.seq ?_
    refine WmC.regionL ?_
    refine WmL.take 1 (L.bin hF rfl rfl rfl rfl rfl rfl (L.nil rfl)) ?_
    refine WmL.nil ?_
    refine WmC.seq ?_
    refine WmC.cond rfl (fun hc => ?_) (fun hc => ?_)
    · replace H := condT hc H
      obtain ⟨p, hp, H⟩ := bindS H
      obtain ⟨q, hq, H⟩ := bindS H
      refine WmC.skip ?_
      refine WmC.seq ?_
      refine WmC.block ?_
      refine WmC.seq ?_
      refine WmC.regionL ?_
      refine WmL.take 3 (L.idxR (xs := r.1) (e := eS) Tryz.underlying34 info9 hF rfl rfl rfl rfl rfl hp rfl rfl (L.loadEp (xs := r.1) (e := eS) shape9 hF rfl rfl rfl rfl (at?_get hp).2 rfl rfl (L.assign hF rfl rfl rfl (L.nil rfl)))) ?_
      refine WmL.nil ?_
      refine WmC.seq ?_
      refine WmC.regionL ?_
      refine WmL.take 2 (L.move hF rfl rfl rfl (L.move hF rfl rfl rfl (L.nil rfl))) ?_
      refine WmL.call [false, false] [] [0] 3 hF rfl rfl rfl ent230 rfl rfl rfl rfl rfl (ih p q hq b1 b2) (fun E hH => M.inl hH) (fun _ => rfl) (fun w w1 MB E' hfr ho hH hfree => ?_)
      obtain ⟨rfl, rfl⟩ := ho
      refine ⟨F, fun a sl' hS hP => ⟨E', rfl, hH, hS, hP⟩, ?_⟩
      refine WmL.take 1 (L.not hF rfl rfl rfl (L.nil rfl)) ?_
      refine WmL.nil ?_
      refine WmC.cond rfl (fun hc => ?_) (fun hc => ?_)
      · replace H := condT hc H; cases H
        refine WmC.seq ?_
        refine WmC.regionL ?_
        refine WmL.take 1 (L.assign hF rfl rfl rfl (L.nil rfl)) ?_
        refine WmL.nil ?_
        exact WmC.ret (fin (Leaves.ret rfl rfl rfl ⟨rfl, rfl⟩))
      replace H := condF hc H
      refine WmC.skip ?_
      refine WmC.regionL ?_
      refine WmL.take 2 (L.bin hF rfl rfl rfl rfl rfl rfl (L.move hF rfl rfl rfl (L.nil rfl))) ?_
      refine WmL.nil ?_
      exact ⟨n, _, by omega, ⟨_, H, rfl, rfl⟩, Le.mk [(0, 0), (1, 1)] hm rfl (Sa4 trivial) (Ra1 trivial) (Ba1 trivial)⟩
    · replace H := condF hc H
      cases H
      refine WmC.exit ?_
      refine WmC.seq ?_
      refine WmC.regionL ?_
      refine WmL.take 1 (L.assign hF rfl rfl rfl (L.nil rfl)) ?_
      refine WmL.nil ?_
      exact WmC.ret (fin (Leaves.ret rfl rfl rfl ⟨rfl, rfl⟩))
  replace H := condF hc H
  obtain ⟨r, hr, H⟩ := bindS H
  refine WmC.skip ?_
  refine WmC.seq ?_
  refine WmC.regionL ?_
  refine WmL.take 9 (L.move hF rfl rfl rfl (L.call [false] [] [] 6 hF rfl rfl rfl ent94 rfl rfl rfl rfl rfl (g94 k t r hr) rfl (L.move hF rfl rfl rfl (L.extract hF rfl rfl rfl rfl (L.extract hF rfl rfl rfl rfl (L.extract hF rfl rfl rfl rfl (L.assign hF rfl rfl rfl (L.assign hF rfl rfl rfl (L.assign hF rfl rfl rfl (L.nil rfl)))))))))) ?_
  refine WmL.nil ?_
  refine WmC.seq ?_
  refine WmC.regionL ?_
  refine WmL.take 5 (L.move hF rfl rfl rfl (L.nilCheck hF rfl rfl rfl rfl (L.fieldAddr Tryz.underlying94 rfl info92 rfl hF rfl rfl rfl rfl rfl (L.loadPtr shape92 hF rfl rfl rfl rfl rfl rfl (L.move hF rfl rfl rfl (L.nil rfl)))))) ?_
  refine WmL.lookup (s.reached.contains r.1) Tryz.underlying92 Tryz.underlying3 z3 hF rfl rfl rfl rfl M.m2 rfl hasN ?_
  generalize s.reached.contains r.1 = c at H
  cases c with
  | true =>
    replace H : Fbuilds s k r.2.1 = some r0 := H
    refine WmL.take 4 (L.bin hF rfl rfl rfl rfl rfl rfl (L.move hF rfl rfl rfl (L.move hF rfl rfl rfl (L.move hF rfl rfl rfl (L.nil rfl))))) ?_
    refine WmL.call [false, false] [] [0] 12 hF rfl rfl rfl ent230 rfl rfl rfl rfl rfl (ih r.2.1 r0 H b1 b2) (fun E hH => M.inl hH) (fun _ => rfl) (fun w w1 MB E' hfr ho hH hfree => ?_)
    obtain ⟨rfl, rfl⟩ := ho
    refine ⟨F, fun a sl' hS hP => ⟨E', rfl, hH, hS, hP⟩, ?_⟩
    refine WmL.take 2 (L.pick hF rfl rfl rfl rfl (L.assign hF rfl rfl rfl (L.nil rfl))) ?_
    refine WmL.nil ?_
    exact WmC.ret (fin (Leaves.ret rfl rfl rfl ⟨rfl, rfl⟩))
  | false =>
    cases H
    refine WmL.take 7 (L.bin hF rfl rfl rfl rfl rfl rfl (L.move hF rfl rfl rfl (L.off hF rfl rfl (L.off hF rfl rfl (L.off hF rfl rfl (L.pick hF rfl rfl rfl rfl (L.assign hF rfl rfl rfl (L.nil rfl)))))))) ?_
    refine WmL.nil ?_
    exact WmC.ret (fin (Leaves.ret rfl rfl rfl ⟨rfl, rfl⟩))

/-! ### Build -/
def I_Build (k : Nat) (a0 : T_Known) (a1 : List UInt8) : Option Bool := (I_KnownOk k a0).bind fun r => cond r ((I_TermOk k a1).bind fun r2 => cond r2 ((FsightOf k a0).bind fun s => Fbuilds s k a1) (some false)) (some false)
theorem g193 (k : Nat) (g0 : Bool) (g1 : Bool) (a0 : T_Known) (a1 : List UInt8) (r : Bool) (H : I_Build k a0 a1 = some r) : Gives Tryz.prog 193 [V.agg [Cell.sl g0 (List.map eS a0.Terms), Cell.sl g1 (List.map eI a0.Keys)], V.one (cS a1)] [] [V.one (cL r)] [] := by
  refine Gives.ofX (HoldsX.intro Tryz.func193 rfl (Nat.le_of_ble_eq_true rfl) (by intro cs hcs; cases hcs) (by intro j hj; simp [V.names, V.cells, cnames, Cell.names] at hj) fun F l hn hm hT hIn => ?_)
  have hF : F.n = 17 := hn
  have fin : ∀ {F' : Fix} {σ : St} {e : Exit}, Under F F' → MG.Leaves Tryz.prog Tryz.f193 0 [] (fun r' o b => r' = [V.one (cL r)] ∧ o = [] ∧ b = []) e σ → ∃ MB : List Nat, MG.Leaves Tryz.prog Tryz.f193 0 [] (fun r' o b => r' = [V.one (cL r)] ∧ o = [] ∧ b = []) e σ ∧ ∀ a w1, Rel F' σ a w1 → ∃ E : Env, RelH F σ.H E ∧ RelS F σ.slots σ.H a E ∧ Pin F σ.H E ∧ (w1 = E.w ∧ MB = []) ∧ (∀ v, (results Tryz.f193 a.tmps).run Tryz.prog E.w = .ok v E.w → (results Tryz.f193 a.tmps).run Tryz.prog w1 = .ok v w1) ∧ (∀ b ∈ MB, F.w0.heap.size ≤ b ∧ b < E.w.heap.size ∧ (∀ g, ¬ E.S g b) ∧ ∀ k, ¬ Own E k b) := by
    intro F' σ e u hl
    refine ⟨[], hl, fun a w1 hr => ?_⟩
    obtain ⟨E, rfl, hH, hS, hP⟩ := u.rel hr
    exact ⟨E, hH, hS, hP, ⟨rfl, rfl⟩, fun v hv => hv, fun b hb => by cases hb⟩
  unfold I_Build at H
  obtain ⟨r0, h0, H⟩ := bindS H
  refine WmC.seq ?_
  refine WmC.regionL ?_
  refine WmL.take 2 (L.box 10 hF rfl rfl rfl rfl (L.assign hF rfl rfl rfl (L.nil rfl))) ?_
  refine WmL.nil ?_
  refine WmC.seq ?_
  refine WmC.regionL ?_
  refine WmL.take 2 (L.loadPtr shape36 hF rfl rfl rfl rfl rfl rfl (L.call [false] [] [] 12 hF rfl rfl rfl ent46 rfl rfl rfl rfl rfl (g46 k g0 g1 a0 r0 h0) rfl (L.nil rfl))) ?_
  cases r0 with
  | false =>
    cases H
    refine WmL.take 11 (L.move hF rfl rfl rfl (L.off hF rfl rfl (L.off hF rfl rfl (L.pick hF rfl rfl rfl rfl (L.move hF rfl rfl rfl (L.off hF rfl rfl (L.off hF rfl rfl (L.off hF rfl rfl (L.off hF rfl rfl (L.pick hF rfl rfl rfl rfl (L.assign hF rfl rfl rfl (L.nil rfl)))))))))))) ?_
    refine WmL.nil ?_
    exact WmC.ret (fin Under.refl (Leaves.ret rfl rfl rfl ⟨rfl, rfl⟩))
  | true =>
  simp only [cond_true] at H
  obtain ⟨r2, h2, H⟩ := bindS H
  refine WmL.take 3 (L.move hF rfl rfl rfl (L.move hF rfl rfl rfl (L.call [false] [] [] 14 hF rfl rfl rfl ent90 rfl rfl rfl rfl rfl (g90 k a1 r2 h2) rfl (L.nil rfl)))) ?_
  cases r2 with
  | false =>
    cases H
    refine WmL.take 8 (L.pick hF rfl rfl rfl rfl (L.move hF rfl rfl rfl (L.off hF rfl rfl (L.off hF rfl rfl (L.off hF rfl rfl (L.off hF rfl rfl (L.pick hF rfl rfl rfl rfl (L.assign hF rfl rfl rfl (L.nil rfl))))))))) ?_
    refine WmL.nil ?_
    exact WmC.ret (fin Under.refl (Leaves.ret rfl rfl rfl ⟨rfl, rfl⟩))
  | true =>
  simp only [cond_true] at H
  obtain ⟨s, hs, H⟩ := bindS H
  refine WmL.take 3 (L.pick hF rfl rfl rfl rfl (L.move hF rfl rfl rfl (L.loadPtr shape36 hF rfl rfl rfl rfl rfl rfl (L.nil rfl)))) ?_
  refine WmL.call [false] [] [] 16 hF rfl rfl rfl ent47 rfl rfl rfl rfl rfl (FsightOf_ok k g0 g1 a0 s hs) (fun E hH S T _ _ => trivial) (fun _ => rfl) (fun w w1 MB E' hfr ho hH hfree => ?_)
  obtain ⟨rfl, b1, b2, o1, o2, rfl, hne, p1, p2, q1, q2⟩ := ho
  have fb1 := hfree b1 (by simp)
  have fb2 := hfree b2 (by simp)
  have hol1 : Old (F.rebase E') b1 := ⟨fb1.2.2.1, fun ⟨j, hj⟩ => fb1.2.1 j hj, fb1.1⟩
  have hol2 : Old (F.rebase E') b2 := ⟨fb2.2.2.1, fun ⟨j, hj⟩ => fb2.2.1 j hj, fb2.1⟩
  have M : Maps b1 b2 s (F.rebase E') := ⟨hne, ⟨hol1, o1, p1, q1⟩, ⟨hol2, o2, p2, q2⟩⟩
  have hu : Under F (F.rebase E') := Under.rebase hH
  refine ⟨F.rebase E', fun a sl' hS hP => ⟨E', rfl, hH.rebase, RelS.refix (F := F) rfl hS, Pin.refix (F := F) rfl rfl hP⟩, ?_⟩
  generalize F.rebase E' = F1 at hu M ⊢
  have hF1 : F1.n = 17 := hu.n.trans hF
  refine WmL.take 1 (L.move hF1 rfl rfl rfl (L.nil rfl)) ?_
  refine WmL.call [false, false] [] [16] 21 hF1 rfl rfl rfl ent230 rfl rfl rfl rfl rfl (Fbuilds_ok s k a1 r H b1 b2) (fun E hH => M.inl hH) (fun _ => rfl) (fun w w1 MB E2 hfr ho hH hfree => ?_)
  obtain ⟨rfl, rfl⟩ := ho
  refine ⟨F1, fun a sl' hS hP => ⟨E2, rfl, hH, hS, hP⟩, ?_⟩
  refine WmL.take 2 (L.pick hF1 rfl rfl rfl rfl (L.assign hF1 rfl rfl rfl (L.nil rfl))) ?_
  refine WmL.nil ?_
  exact WmC.ret (fin hu (Leaves.ret rfl rfl rfl ⟨rfl, rfl⟩))

/-! ### I_World_forge -/
def I_World_forge (k : Nat) (a1 : List UInt8) (o0 : T_World) : Option (Int × T_World) := (I_Build k o0.Known a1).bind fun r4 => cond (!r4) (some (3, o0)) (cond ((o0.Net.length : Int) == 50) (some (3, o0)) (cond (decide ((2 * (o0.Net.length + ([a1] : List (List UInt8)).length) + 192) * 16 ≤ 281474976710656)) ((I_Learn k o0.Known a1).bind fun r6 => some (0, (⟨o0.Config, o0.Now, o0.Fresh, (o0.Net ++ ([a1] : List (List UInt8))), r6, o0.Waits, o0.Creds, o0.Caches, o0.Log, o0.Accepts, o0.Leaked⟩ : T_World))) none))
theorem ent141 : MG.Enters Tryz.prog 141 := en func141
theorem g141 (k : Nat) (a1 : List UInt8) (o0 : T_World) (r : Int × T_World) (H : I_World_forge k a1 o0 = some r) : Gives Tryz.prog 141 [V.one (Cell.ptr 0 0), V.one (cS a1)] [[Cell.ow 1 (List.map eI o0.Config.UserRealm), Cell.ow 1 (List.map eI o0.Config.ServiceRealm), Cell.ow 2 (List.map eT_Pair o0.Config.Links), Cell.ow 2 (List.map eT_Pair o0.Config.Proxy), cI o0.Config.Skew, cI o0.Now, cI o0.Fresh, Cell.ow 1 (List.map eS o0.Net), Cell.ow 1 (List.map eS o0.Known.Terms), Cell.ow 1 (List.map eI o0.Known.Keys), Cell.ow 4 (List.map eT_Wait o0.Waits), Cell.ow 8 (List.map eT_Cred o0.Creds), Cell.ow 2 (List.map eT_Cache o0.Caches), Cell.ow 11 (List.map eT_Event o0.Log), Cell.ow 15 (List.map eT_Accept o0.Accepts), Cell.ow 1 (List.map eI o0.Leaked)]] [V.one (cI r.1)] [[Cell.ow 1 (List.map eI r.2.Config.UserRealm), Cell.ow 1 (List.map eI r.2.Config.ServiceRealm), Cell.ow 2 (List.map eT_Pair r.2.Config.Links), Cell.ow 2 (List.map eT_Pair r.2.Config.Proxy), cI r.2.Config.Skew, cI r.2.Now, cI r.2.Fresh, Cell.ow 1 (List.map eS r.2.Net), Cell.ow 1 (List.map eS r.2.Known.Terms), Cell.ow 1 (List.map eI r.2.Known.Keys), Cell.ow 4 (List.map eT_Wait r.2.Waits), Cell.ow 8 (List.map eT_Cred r.2.Creds), Cell.ow 2 (List.map eT_Cache r.2.Caches), Cell.ow 11 (List.map eT_Event r.2.Log), Cell.ow 15 (List.map eT_Accept r.2.Accepts), Cell.ow 1 (List.map eI r.2.Leaked)]] := by
 refine Gives.intro func141 rfl rfl rfl rfl ?_; refine fx fun w0 T S0 ob oh hm => ?_
 have hF := fxe w0 T S0 39 ob oh
 unfold I_World_forge at H; obtain ⟨K, hK⟩ := leK k; refine sg 1 ?_; refine WpC.seq (sr ?_); refine mv ?_; refine L.nilCheck hF rfl rfl rfl rfl ?_; refine go 3 ?_; obtain ⟨r4, hr4, H⟩ := bindS H; refine ca [false, false] [11, 12] [] 19 ent193 (g193 k false false o0.Known a1 r4 hr4) ?_; refine go 2 ?_; refine sH H (fun hc H => ?_) (fun hc H => ?_)
 ·refine gn 7 ?_; refine cT ?_; refine sg 1 ?_; cases H; exact WpC.ret rt
 ·refine mv ?_; refine L.nilCheck hF rfl rfl rfl rfl ?_; refine go 2 ?_; refine L.lenR (xs := o0.Net) (e := eS) underlying34 hF rfl rfl rfl rfl ?_; refine gn 2 ?_; refine cd H (fun hc H => ?_) (fun hc H => ?_)
  ·refine sg 1 ?_; cases H; exact WpC.ret rt
  ·refine WpC.skip (sr ?_); refine go 2 ?_; refine L.nilCheck hF rfl rfl rfl rfl ?_; refine go 3 ?_; refine L.buildSlice (e := eS) 20 ([a1] : List (List UInt8)) underlying34 info9 rfl rfl rfl hF rfl rfl rfl rfl rfl rfl rfl rfl ?_; obtain ⟨h5, H⟩ := condG H; refine L.append (xs := o0.Net) (ys := ([a1] : List (List UInt8))) (e := eS) 21 underlying34 info9 rfl rfl hF rfl rfl rfl rfl rfl rfl rfl rfl (fun _ => rfl) (fun _ _ h1 h2 => by cases h1; cases h2; rfl) ⟨_, underlying34⟩ (of_decide_eq_true h5) rfl rfl ?_; refine L.nilCheck hF rfl rfl rfl rfl ?_; refine gn 2 ?_; refine sy 2 ?_; refine L.nilCheck hF rfl rfl rfl rfl ?_; refine go 3 ?_; obtain ⟨r6, hr6, H⟩ := bindS H; refine ca [false, false] [11, 12] [] 22 ent194 (g194 k false false o0.Known a1 r6 hr6) ?_; refine L.nilCheck hF rfl rfl rfl rfl ?_; refine gn 2 ?_; refine sg 1 ?_; cases H; exact WpC.ret rt
/-! ### I_Restart -/
def I_Restart (k : Nat) (a0 a1 : Int) : Option T_Cache := (I_isTime k a0).bind fun r9 => cond (!r9) ((I_NewCache k ).bind fun r10 => some r10) ((I_isSkew k a1).bind fun r11 => cond (!r11) ((I_NewCache k ).bind fun r12 => some r12) (some (⟨(IntKind.i64.wrap (a0 + (IntKind.i64.wrap (2 * a1)))), []⟩ : T_Cache)))
theorem ent142 : MG.Enters Tryz.prog 142 := en func142
theorem g142 (k : Nat) (a0 a1 : Int) (r : T_Cache) (H : I_Restart k a0 a1 = some r) : Gives Tryz.prog 142 [V.one (cI a0), V.one (cI a1)] [] [V.agg [cI r.Quiet, Cell.ow 3 (List.map eT_Auth r.Seen)]] [] := by
 refine Gives.intro func142 rfl rfl rfl rfl ?_; refine fx fun w0 T S0 ob oh hm => ?_
 have hF := fxe w0 T S0 19 ob oh
 unfold I_Restart at H; obtain ⟨K, hK⟩ := leK k; refine sr ?_; refine alc 2 info123 (L.nil ?_); refine WpC.seq (sr ?_); refine mv ?_; refine cB 3 ent105 (g105 k  a0) H fun r9 H => ?_; refine go 2 ?_; refine sH H (fun hc H => ?_) (fun hc H => ?_)
 ·refine gn 4 ?_; refine cT ?_; refine sr ?_; refine cB 4 ent87 (g87 k  ) H fun r10 H => ?_; refine gn 1 ?_; cases H; exact WpC.ret rt
 ·refine mv ?_; refine cB 4 ent195 (g195 k  a1) H fun r11 H => ?_; refine gn 2 ?_; refine cd H (fun hc H => ?_) (fun hc H => ?_)
  ·refine sr ?_; refine cB 5 ent87 (g87 k  ) H fun r12 H => ?_; refine gn 1 ?_; cases H; exact WpC.ret rt
  ·refine WpC.skip (sr ?_); refine go 4 ?_; refine bf built123 ?_; refine gn 1 ?_; refine WpC.le (Le.ownB 2 1 5 3 rfl rfl rfl) ?_; cases H; exact WpC.ret rt
/-! ### I_World_do -/
def I_World_do (k : Nat) (a1 : T_Act) (o0 : T_World) : Option (Int × T_World) := cond (a1.Kind == 1) (cond (o0.Now == 100000) (some (3, o0)) (some (0, (⟨o0.Config, (IntKind.i64.wrap (o0.Now + 1)), o0.Fresh, o0.Net, o0.Known, o0.Waits, o0.Creds, o0.Caches, o0.Log, o0.Accepts, o0.Leaked⟩ : T_World)))) (cond (a1.Kind == 2) ((I_World_login k a1 o0).bind fun r9 => some (r9.1, r9.2)) (cond (a1.Kind == 3) ((I_World_ask k a1 o0).bind fun r10 => some (r10.1, r10.2)) (cond (a1.Kind == 4) ((I_World_centre k a1 o0).bind fun r11 => some (r11.1, r11.2)) (cond (a1.Kind == 5) ((I_World_reply k a1 o0).bind fun r12 => some (r12.1, r12.2)) (cond (a1.Kind == 6) ((I_World_apply k a1 o0).bind fun r13 => some (r13.1, r13.2)) (cond (a1.Kind == 7) ((I_World_serve k a1 o0).bind fun r14 => some (r14.1, r14.2)) (cond (a1.Kind == 8) ((I_World_leak k a1.A o0).bind fun r15 => some (r15.1, r15.2)) (cond (a1.Kind == 9) ((I_World_forge k a1.Text o0).bind fun r16 => some (r16.1, r16.2)) ((I_isService k a1.A).bind fun r18 => cond (!r18) (some (2, o0)) ((I_Restart k o0.Now o0.Config.Skew).bind fun r19 => (at? o0.Caches a1.A).bind fun b20 => some (0, (⟨o0.Config, o0.Now, o0.Fresh, o0.Net, o0.Known, o0.Waits, o0.Creds, (o0.Caches.set a1.A.toNat r19), o0.Log, o0.Accepts, o0.Leaked⟩ : T_World))))))))))))
theorem ent89 : MG.Enters Tryz.prog 89 := en func89
theorem g89 (k : Nat) (a1 : T_Act) (o0 : T_World) (r : Int × T_World) (H : I_World_do k a1 o0 = some r) : Gives Tryz.prog 89 [V.one (Cell.ptr 0 0), V.agg (bT_Act a1)] [[Cell.ow 1 (List.map eI o0.Config.UserRealm), Cell.ow 1 (List.map eI o0.Config.ServiceRealm), Cell.ow 2 (List.map eT_Pair o0.Config.Links), Cell.ow 2 (List.map eT_Pair o0.Config.Proxy), cI o0.Config.Skew, cI o0.Now, cI o0.Fresh, Cell.ow 1 (List.map eS o0.Net), Cell.ow 1 (List.map eS o0.Known.Terms), Cell.ow 1 (List.map eI o0.Known.Keys), Cell.ow 4 (List.map eT_Wait o0.Waits), Cell.ow 8 (List.map eT_Cred o0.Creds), Cell.ow 2 (List.map eT_Cache o0.Caches), Cell.ow 11 (List.map eT_Event o0.Log), Cell.ow 15 (List.map eT_Accept o0.Accepts), Cell.ow 1 (List.map eI o0.Leaked)]] [V.one (cI r.1)] [[Cell.ow 1 (List.map eI r.2.Config.UserRealm), Cell.ow 1 (List.map eI r.2.Config.ServiceRealm), Cell.ow 2 (List.map eT_Pair r.2.Config.Links), Cell.ow 2 (List.map eT_Pair r.2.Config.Proxy), cI r.2.Config.Skew, cI r.2.Now, cI r.2.Fresh, Cell.ow 1 (List.map eS r.2.Net), Cell.ow 1 (List.map eS r.2.Known.Terms), Cell.ow 1 (List.map eI r.2.Known.Keys), Cell.ow 4 (List.map eT_Wait r.2.Waits), Cell.ow 8 (List.map eT_Cred r.2.Creds), Cell.ow 2 (List.map eT_Cache r.2.Caches), Cell.ow 11 (List.map eT_Event r.2.Log), Cell.ow 15 (List.map eT_Accept r.2.Accepts), Cell.ow 1 (List.map eI r.2.Leaked)]] := by
 refine Gives.intro func89 rfl rfl rfl rfl ?_; refine fx fun w0 T S0 ob oh hm => ?_
 have hF := fxe w0 T S0 84 ob oh
 unfold I_World_do at H; obtain ⟨K, hK⟩ := leK k; refine sr ?_; refine bo 27 ?_; refine gn 1 ?_; refine WpC.seq (sr ?_); refine gn 2 ?_; refine WpC.block (sr ?_); refine gn 2 ?_; refine cd H (fun hc H => ?_) (fun hc H => ?_)
 ·refine WpC.seq (sr ?_); refine mv ?_; refine L.nilCheck hF rfl rfl rfl rfl ?_; refine gn 3 ?_; refine cd H (fun hc H => ?_) (fun hc H => ?_)
  ·refine sg 1 ?_; cases H; exact WpC.ret rt
  ·refine WpC.skip (sr ?_); refine mv ?_; refine L.nilCheck hF rfl rfl rfl rfl ?_; refine go 3 ?_; refine L.nilCheck hF rfl rfl rfl rfl ?_; refine gn 2 ?_; refine sg 1 ?_; cases H; exact WpC.ret rt
 ·refine sg 2 ?_; refine cd H (fun hc H => ?_) (fun hc H => ?_)
  ·refine sy 2 ?_; obtain ⟨r9, hr9, H⟩ := bindS H; refine ca [false, false] [] [0] 28 ent134 (g134 k  a1 o0 r9 hr9) ?_; refine gn 1 ?_; cases H; exact WpC.ret rt
  ·refine sg 2 ?_; refine cd H (fun hc H => ?_) (fun hc H => ?_)
   ·refine sy 2 ?_; obtain ⟨r10, hr10, H⟩ := bindS H; refine ca [false, false] [] [0] 28 ent135 (g135 k  a1 o0 r10 hr10) ?_; refine gn 1 ?_; cases H; exact WpC.ret rt
   ·refine sg 2 ?_; refine cd H (fun hc H => ?_) (fun hc H => ?_)
    ·refine sy 2 ?_; obtain ⟨r11, hr11, H⟩ := bindS H; refine ca [false, false] [] [0] 28 ent136 (g136 k  a1 o0 r11 hr11) ?_; refine gn 1 ?_; cases H; exact WpC.ret rt
    ·refine sg 2 ?_; refine cd H (fun hc H => ?_) (fun hc H => ?_)
     ·refine sy 2 ?_; obtain ⟨r12, hr12, H⟩ := bindS H; refine ca [false, false] [] [0] 28 ent137 (g137 k  a1 o0 r12 hr12) ?_; refine gn 1 ?_; cases H; exact WpC.ret rt
     ·refine sg 2 ?_; refine cd H (fun hc H => ?_) (fun hc H => ?_)
      ·refine sy 2 ?_; obtain ⟨r13, hr13, H⟩ := bindS H; refine ca [false, false] [] [0] 28 ent138 (g138 k  a1 o0 r13 hr13) ?_; refine gn 1 ?_; cases H; exact WpC.ret rt
      ·refine sg 2 ?_; refine cd H (fun hc H => ?_) (fun hc H => ?_)
       ·refine sy 2 ?_; obtain ⟨r14, hr14, H⟩ := bindS H; refine ca [false, false] [] [0] 28 ent139 (g139 k  a1 o0 r14 hr14) ?_; refine gn 1 ?_; cases H; exact WpC.ret rt
       ·refine sg 2 ?_; refine cd H (fun hc H => ?_) (fun hc H => ?_)
        ·refine sy 3 ?_; obtain ⟨r15, hr15, H⟩ := bindS H; refine ca [false, false] [] [0] 28 ent140 (g140 k  a1.A o0 r15 hr15) ?_; refine gn 1 ?_; cases H; exact WpC.ret rt
        ·refine sg 2 ?_; refine cd H (fun hc H => ?_) (fun hc H => ?_)
         ·refine sy 3 ?_; obtain ⟨r16, hr16, H⟩ := bindS H; refine ca [false, false] [] [0] 28 ent141 (g141 k  a1.Text o0 r16 hr16) ?_; refine gn 1 ?_; cases H; exact WpC.ret rt
         ·refine WpC.skip (WpC.seq (sr ?_)); refine go 2 ?_; refine cB 28 ent55 (g55 k  a1.A) H fun r18 H => ?_; refine gn 1 ?_; refine cd H (fun hc H => ?_) (fun hc H => ?_)
          ·refine sg 1 ?_; cases H; exact WpC.ret rt
          ·refine WpC.skip (WpC.seq ?_); obtain ⟨r19, hr19, H⟩ := bindS H; obtain ⟨b20, hb20, H⟩ := bindS H
           apply ldT ⟨[e0 0 _, e0 3 _, ed 67 1 _, ed 68 2 _, ed 69 3 _, ed 70 4 _, ed 71 5 _, ed 72 6 _, ed 73 7 _, ed 74 8 _, ed 75 9 _, ed 76 10 _, ed 77 11 _, ed 78 12 _, ed 79 13 _, ed 80 14 _, ed 81 15 _, ed 82 16 _, ed 83 17 _], [e0 11 _, e0 12 _, e0 13 _, e0 14 _, e0 18 _, e0 19 _, e0 20 _, e0 21 _, e0 22 _, (23, [(18, some _), (0, some _)]), e0 24 _, e0 25 _, e0 26 _, (30, [(18, none), (16, some _)])], [e0 0 _, e0 27 _], 31, []⟩ [(0, 196622), (1, 196620), (3, 196616), (7, 196608), (0, 196640), (16, 196608), (0, 230272), (64, 230144), (192, 229888), (448, 229376), (0, 260096), (1024, 258048), (3072, 253952), (7168, 245760), (15360, 229376), (32704, 196608), (65535, 131072), (131071, 0)] mixed ?L1 ?_
           case L1 =>
            repeat refine ls ?_
            apply lc 31 29 2 [82] [30] [] ?h1_15 ?q1_15 ?_
            case h1_15 =>
             intro b; refine c0 31 ent142 (g142 k  o0.Now o0.Config.Skew r19 hr19) ?_; exact L.nil ⟨rfl, rfl, rfl, rfl⟩
            case' q1_15 => skip
            apply lc 31 31 0 [83] [] [] ?h1_16 ?q1_16 ?_
            case h1_16 =>
             intro b; refine ix underlying39 info123 hb20 ?_; exact L.nil ⟨rfl, rfl, rfl, rfl⟩
            case' q1_16 => skip
            apply lc 31 31 0 [] [23] [] ?h1_17 ?q1_17 ?_
            case h1_17 =>
             intro b; refine L.storeEpN (xs := o0.Caches) (e := eT_Cache) (a' := r19) 3 shape123 hF rfl rfl rfl rfl rfl rfl rfl (at?_get hb20).2 rfl rfl ?_; exact L.nil ⟨rfl, rfl, rfl, rfl⟩
            case' q1_17 => skip
            exact trivial
            all_goals exact lq
           refine sg 1 ?_; cases H; exact WpC.ret rt
/-! ### I_WorldDo -/
def I_WorldDo (k : Nat) (a0 : T_World) (a1 : T_Act) : Option (T_World × Int) := (I_WorldOk k a0).bind fun r2 => cond (!r2) (some ((⟨(⟨[], [], [], [], 0⟩ : T_Config), 0, 0, [], (⟨[], []⟩ : T_Known), [], [], [], [], [], []⟩ : T_World), 1)) ((I_within k a1.Kind 1 10).bind fun r5 => cond (!r5) ((I_copyWorld k a0).bind fun r6 => some (r6, 1)) ((I_copyWorld k a0).bind fun r7 => (I_World_do k a1 r7).bind fun r10 => cond (r10.1 != 0) ((I_copyWorld k a0).bind fun r11 => some (r11, r10.1)) (some (r10.2, 0))))
theorem ent43 : MG.Enters Tryz.prog 43 := en func43
theorem g43 (k : Nat) (g0 g1 g2 g3 g4 g5 g6 g7 g8 g9 g10 g11 g12 : Bool) (a0 : T_World) (a1 : T_Act) (r : T_World × Int) (H : I_WorldDo k a0 a1 = some r) : Gives Tryz.prog 43 [V.agg (bT_World g0 g1 g2 g3 g4 g5 g6 g7 g8 g9 g10 g11 g12 a0), V.agg (bT_Act a1)] [] [V.agg [Cell.ow 1 (List.map eI r.1.Config.UserRealm), Cell.ow 1 (List.map eI r.1.Config.ServiceRealm), Cell.ow 2 (List.map eT_Pair r.1.Config.Links), Cell.ow 2 (List.map eT_Pair r.1.Config.Proxy), cI r.1.Config.Skew, cI r.1.Now, cI r.1.Fresh, Cell.ow 1 (List.map eS r.1.Net), Cell.ow 1 (List.map eS r.1.Known.Terms), Cell.ow 1 (List.map eI r.1.Known.Keys), Cell.ow 4 (List.map eT_Wait r.1.Waits), Cell.ow 8 (List.map eT_Cred r.1.Creds), Cell.ow 2 (List.map eT_Cache r.1.Caches), Cell.ow 11 (List.map eT_Event r.1.Log), Cell.ow 15 (List.map eT_Accept r.1.Accepts), Cell.ow 1 (List.map eI r.1.Leaked)], V.one (cI r.2)] [] := by
 refine Gives.intro func43 rfl rfl rfl rfl ?_; refine fx fun w0 T S0 ob oh hm => ?_
 have hF := fxe w0 T S0 28 ob oh
 unfold I_WorldDo at H; obtain ⟨K, hK⟩ := leK k; refine sr ?_; refine bo 25 ?_; refine bo 26 ?_; refine alc 27 info43 ?_; refine gn 1 ?_; refine WpC.seq (sr ?_); refine lp shape43 ?_; refine cB 28 ent60 (g60 k g0 g1 g2 g3 g4 g5 g6 g7 g8 g9 g10 g11 g12 a0) H fun r2 H => ?_; refine gn 1 ?_; refine cd H (fun hc H => ?_) (fun hc H => ?_)
 ·refine sr ?_; refine bf built43 ?_; refine gn 2 ?_; refine WpC.le (Le.ownB 27 0 29 1 rfl rfl rfl) ?_; refine WpC.le (Le.ownB 27 1 30 1 rfl rfl rfl) ?_; refine WpC.le (Le.ownB 27 2 31 2 rfl rfl rfl) ?_; refine WpC.le (Le.ownB 27 3 32 2 rfl rfl rfl) ?_; refine WpC.le (Le.ownB 27 7 33 1 rfl rfl rfl) ?_; refine WpC.le (Le.ownB 27 8 34 1 rfl rfl rfl) ?_; refine WpC.le (Le.ownB 27 9 35 1 rfl rfl rfl) ?_; refine WpC.le (Le.ownB 27 10 36 4 rfl rfl rfl) ?_; refine WpC.le (Le.ownB 27 11 37 8 rfl rfl rfl) ?_; refine WpC.le (Le.ownB 27 12 38 2 rfl rfl rfl) ?_; refine WpC.le (Le.ownB 27 13 39 11 rfl rfl rfl) ?_; refine WpC.le (Le.ownB 27 14 40 15 rfl rfl rfl) ?_; refine WpC.le (Le.ownB 27 15 41 1 rfl rfl rfl) ?_; cases H; exact WpC.ret rt
 ·refine WpC.skip (WpC.seq (sr ?_)); refine go 2 ?_; refine cB 29 ent52 (g52 k  a1.Kind 1 10) H fun r5 H => ?_; refine gn 1 ?_; refine cd H (fun hc H => ?_) (fun hc H => ?_)
  ·refine sy 1 ?_; refine cB 30 ent88 (g88 k g0 g1 g2 g3 g4 g5 g6 g7 g8 g9 g10 g11 g12 a0) H fun r6 H => ?_; refine gn 2 ?_; cases H; exact WpC.ret rt
  ·refine WpC.skip (sr ?_); refine lp shape43 ?_; refine cB 30 ent88 (g88 k g0 g1 g2 g3 g4 g5 g6 g7 g8 g9 g10 g11 g12 a0) H fun r7 H => ?_; refine alc 46 info43 ?_; refine gn 1 ?_; refine WpC.seq (sr ?_); refine lp shape63 ?_; obtain ⟨r10, hr10, H⟩ := bindS H; refine ca [false, false] [] [46] 47 ent89 (g89 k  a1 r7 r10 hr10) ?_; refine gn 1 ?_; refine sg 2 ?_; refine cd H (fun hc H => ?_) (fun hc H => ?_)
   ·refine sy 1 ?_; refine cB 64 ent88 (g88 k g0 g1 g2 g3 g4 g5 g6 g7 g8 g9 g10 g11 g12 a0) H fun r11 H => ?_; refine gn 3 ?_; cases H; exact WpC.ret rt
   ·refine WpC.skip (sr ?_); refine gn 3 ?_; cases H; exact WpC.ret rt
/-! ### I_Dec -/
def I_Dec.j14 (cl12 : Int → (List UInt8) → Int → Option (List UInt8)) (k : Nat) (v62 : Int) (v63 : List UInt8) (v64 v65 : Int) : Option (List UInt8) := cond (decide ((2 * (v63.length + ([(ofI (IntKind.i64.wrap (48 + v65)))] : List UInt8).length) + 192) * 1 ≤ 281474976710656)) (cl12 v62 (v63 ++ ([(ofI (IntKind.i64.wrap (48 + v65)))] : List UInt8)) (IntKind.i64.wrap (Int.tdiv v64 10))) none
def I_Dec.l17 : Nat → (List UInt8) → Int → Int → Option (List UInt8)
 | 0, _, _, _ => none
 | k17 + 1, v122, v123, v124 => cond (decide (v123 < v124)) ((at? v122 v124).bind fun b129 => (at? v122 v123).bind fun b130 => (at? v122 v123).bind fun b131 => (at? (v122.set v123.toNat b129) v124).bind fun b132 => (I_Dec.l17 k17) ((v122.set v123.toNat b129).set v124.toNat b130) (IntKind.i64.wrap (v123 + 1)) (IntKind.i64.wrap (v124 - 1))) (some v122)
def I_Dec.j15 (k : Nat) (v68 : List UInt8) : Option (List UInt8) := I_Dec.l17 k v68 0 (IntKind.i64.wrap ((v68.length : Int) - 1))
def I_Dec.l12 : Nat → Int → (List UInt8) → Int → Option (List UInt8)
 | 0, _, _, _ => none
 | k12 + 1, v54, v55, v56 => cond (v56 != 0) (cond (decide ((Int.tmod v56 10) < 0)) (I_Dec.j14 (I_Dec.l12 k12) k12 v54 v55 v56 (IntKind.i64.wrap (0 - (Int.tmod v56 10)))) (I_Dec.j14 (I_Dec.l12 k12) k12 v54 v55 v56 (Int.tmod v56 10))) (cond (decide (v54 < 0)) (cond (decide ((2 * (v55.length + ([(45 : UInt8)] : List UInt8).length) + 192) * 1 ≤ 281474976710656)) (I_Dec.j15 k12 (v55 ++ ([(45 : UInt8)] : List UInt8))) none) (I_Dec.j15 k12 v55))
def I_Dec (k : Nat) (a0 : Int) : Option (List UInt8) := cond (a0 == 0) (some ([48] : List UInt8)) (I_Dec.l12 k a0 ([] : List UInt8) a0)
theorem ent175 : MG.Enters Tryz.prog 175 := en func175
theorem g175 (k : Nat) (a0 : Int) (r : List UInt8) (H : I_Dec k a0 = some r) : Gives Tryz.prog 175 [V.one (cI a0)] [] [V.one (cS r)] [] := by
 refine Gives.intro func175 rfl rfl rfl rfl ?_; refine fx fun w0 T S0 ob oh hm => ?_
 have hF := fxe w0 T S0 59 ob oh
 unfold I_Dec at H; obtain ⟨K, hK⟩ := leK k; refine sg 1 ?_; refine WpC.seq (sr ?_); refine gn 2 ?_; refine cd H (fun hc H => ?_) (fun hc H => ?_)
 ·refine sg 1 ?_; cases H; exact WpC.ret rt
 ·refine WpC.skip (sr ?_); refine L.buildSlice (e := eB) 1 ([] : List UInt8) underlying22 info5 rfl rfl rfl hF rfl rfl rfl rfl rfl rfl rfl rfl ?_; refine gn 1 ?_; refine WpC.seq (sr ?_); refine gn 2 ?_; refine WpC.block ?_; refine WpC.loopL (P := Tryz.prog) (fun n σ => ∃ (v54 : Int) (v55 : List UInt8) (v56 : Int), n ≤ K ∧ I_Dec.l12 n v54 v55 v56 = some r ∧ σ = mkSt [(0, oI v54), (3, MG.one (Cell.own 0)), (4, oI v56)] [(0, ⟨1, List.map eB v55⟩)] [] 1) k ⟨_, ⟨a0, ([] : List UInt8), a0, by omega, H, rfl⟩, lm [(0, 1)] hm⟩ ?_; clear H
  rintro k12 _ ⟨v54, v55, v56, hk12, H, rfl⟩
  cases k12 with
  | zero => cases H
  | succ k12 =>
   rw [I_Dec.l12] at H
   refine WpC.seq (sr ?_); refine gn 2 ?_; refine cd H (fun hc H => ?_) (fun hc H => ?_)
   ·refine WpC.skip (WpC.seq (WpC.block (sr ?_))); refine mv ?_; refine L.rem hF rfl rfl rfl rfl (by decide) ?_; refine gn 1 ?_; refine WpC.join (fun σ => ∃ (kj14 : Nat) (v62 : Int) (v63 : List UInt8) (v64 v65 : Int), kj14 ≤ K ∧ I_Dec.j14 (I_Dec.l12 k12) kj14 v62 v63 v64 v65 = some r ∧ σ = mkSt [(0, oI v62), (3, MG.one (Cell.own 0)), (4, oI v64), (5, oI v65)] [(0, ⟨1, List.map eB v63⟩)] [] 1) ?_ ?_
    ·rintro _ ⟨kj14, v62, v63, v64, v65, hkj14, H, rfl⟩
     unfold I_Dec.j14 at H; refine WpC.regionL ?_; refine go 3 ?_; refine L.toB underlying3 underlying5 hF rfl rfl rfl ?_; refine L.buildSlice (e := eB) 1 ([(ofI (IntKind.i64.wrap (48 + v65)))] : List UInt8) underlying22 info5 rfl rfl rfl hF rfl rfl rfl rfl rfl rfl rfl rfl ?_; obtain ⟨h66, H⟩ := condG H; refine L.append (xs := v63) (ys := ([(ofI (IntKind.i64.wrap (48 + v65)))] : List UInt8)) (e := eB) 2 underlying22 info5 rfl rfl hF rfl rfl rfl rfl rfl rfl rfl rfl (fun _ => rfl) (fun _ _ h1 h2 => by cases h1; cases h2; rfl) ⟨_, underlying22⟩ (of_decide_eq_true h66) rfl rfl ?_; refine gn 1 ?_; refine WpC.regionL ?_; refine mv ?_; refine L.quo hF rfl rfl rfl rfl (by decide) ?_; refine gn 1 ?_; exact ⟨k12, _, by omega, ⟨v62, (v63 ++ ([(ofI (IntKind.i64.wrap (48 + v65)))] : List UInt8)), (IntKind.i64.wrap (Int.tdiv v64 10)), by omega, H, rfl⟩, lm [(0, 2)] hm⟩
    ·refine sg 2 ?_; refine cd H (fun hc H => ?_) (fun hc H => ?_)
     ·refine WpC.regionL ?_; refine mv ?_; refine L.neg hF rfl rfl rfl ?_; refine gn 1 ?_; exact ⟨_, ⟨k12, v54, v55, v56, (IntKind.i64.wrap (0 - (Int.tmod v56 10))), by omega, H, rfl⟩, lm [(0, 0)] hm⟩
     ·refine WpC.skip ?_; exact ⟨_, ⟨k12, v54, v55, v56, (Int.tmod v56 10), by omega, H, rfl⟩, lm [(0, 0)] hm⟩
   ·refine WpC.exit ?_; refine WpC.join (fun σ => ∃ (kj15 : Nat) (v68 : List UInt8), kj15 ≤ K ∧ I_Dec.j15 kj15 v68 = some r ∧ σ = mkSt [(3, MG.one (Cell.own 0))] [(0, ⟨1, List.map eB v68⟩)] [] 1) ?_ ?_
    ·rintro _ ⟨kj15, v68, hkj15, H, rfl⟩
     unfold I_Dec.j15 at H; refine WpC.seq (sr ?_); refine mv ?_; refine L.lenR (xs := v68) (e := eB) underlying22 hF rfl rfl rfl rfl ?_; refine gn 3 ?_; refine WpC.block ?_; refine WpC.loopL (P := Tryz.prog) (fun n σ => ∃ (v122 : List UInt8) (v123 v124 : Int), n ≤ K ∧ I_Dec.l17 n v122 v123 v124 = some r ∧ σ = mkSt [(3, MG.one (Cell.own 0)), (6, oI v123), (7, oI v124)] [(0, ⟨1, List.map eB v122⟩)] [] 1) kj15 ⟨_, ⟨v68, 0, (IntKind.i64.wrap ((v68.length : Int) - 1)), by omega, H, rfl⟩, lm [(0, 0)] hm⟩ ?_; clear H
     rintro k17 _ ⟨v122, v123, v124, hk17, H, rfl⟩
     cases k17 with
     | zero => cases H
     | succ k17 =>
      rw [I_Dec.l17] at H
      refine WpC.seq (sr ?_); refine gn 3 ?_; refine cd H (fun hc H => ?_) (fun hc H => ?_)
      ·refine WpC.skip (WpC.seq (WpC.block ?_)); obtain ⟨b129, hb129, H⟩ := bindS H; obtain ⟨b130, hb130, H⟩ := bindS H; obtain ⟨b131, hb131, H⟩ := bindS H; obtain ⟨b132, hb132, H⟩ := bindS H
       apply ldT ⟨[e0 3 _, e0 6 _, e0 7 _, ed 43 1 _, ed 44 2 _, ed 45 3 _, ed 46 4 _, ed 47 5 _, ed 48 6 _, ed 49 7 _, ed 50 8 _, ed 51 9 _, ed 52 10 _, ed 53 11 _, ed 54 12 _, ed 55 13 _, ed 56 15 _], [(0, [(16, some _), (14, some _), (0, some _)])], [], 1, []⟩ [(0, 61440), (0, 61440), (0, 49152), (0, 49152), (0, 61632), (0, 61632), (48, 61568), (112, 61440), (0, 64512), (0, 64512), (768, 63488), (1792, 61440), (4083, 57344), (8179, 49152), (16383, 32768), (32767, 0)] mixed ?L1 ?_
       case L1 =>
        repeat refine ls ?_
        apply lc 1 1 0 [49] [] [] ?h1_6 ?q1_6 ?_
        case h1_6 =>
         intro b; refine ix underlying22 info5 hb129 ?_; exact L.nil ⟨rfl, rfl, rfl, rfl⟩
        case' q1_6 => skip
        apply lc 1 1 0 [50] [] [] ?h1_7 ?q1_7 ?_
        case h1_7 =>
         intro b; refine L.loadEp (xs := v122) (e := eB) shape5 hF rfl rfl rfl rfl (at?_get hb129).2 rfl rfl ?_; exact L.nil ⟨rfl, rfl, rfl, rfl⟩
        case' q1_7 => skip
        repeat refine ls ?_
        apply lc 1 1 0 [53] [] [] ?h1_10 ?q1_10 ?_
        case h1_10 =>
         intro b; refine ix underlying22 info5 hb130 ?_; exact L.nil ⟨rfl, rfl, rfl, rfl⟩
        case' q1_10 => skip
        apply lc 1 1 0 [54] [] [] ?h1_11 ?q1_11 ?_
        case h1_11 =>
         intro b; refine L.loadEp (xs := v122) (e := eB) shape5 hF rfl rfl rfl rfl (at?_get hb130).2 rfl rfl ?_; exact L.nil ⟨rfl, rfl, rfl, rfl⟩
        case' q1_11 => skip
        apply lc 1 1 0 [55] [] [] ?h1_12 ?q1_12 ?_
        case h1_12 =>
         intro b; refine ix underlying22 info5 hb131 ?_; exact L.nil ⟨rfl, rfl, rfl, rfl⟩
        case' q1_12 => skip
        apply lc 1 1 0 [] [0] [] ?h1_13 ?q1_13 ?_
        case h1_13 =>
         intro b; refine L.storeEp (xs := v122) (e := eB) (a' := b129) shape5 hF rfl rfl rfl rfl rfl rfl rfl (at?_get hb131).2 rfl rfl ?_; exact L.nil ⟨rfl, rfl, rfl, rfl⟩
        case' q1_13 => skip
        apply lc 1 1 0 [56] [] [] ?h1_14 ?q1_14 ?_
        case h1_14 =>
         intro b; refine ix underlying22 info5 hb132 ?_; exact L.nil ⟨rfl, rfl, rfl, rfl⟩
        case' q1_14 => skip
        apply lc 1 1 0 [] [0] [] ?h1_15 ?q1_15 ?_
        case h1_15 =>
         intro b; refine L.storeEp (xs := (v122.set v123.toNat b129)) (e := eB) (a' := b130) shape5 hF rfl rfl rfl rfl rfl rfl rfl (at?_get hb132).2 rfl rfl ?_; exact L.nil ⟨rfl, rfl, rfl, rfl⟩
        case' q1_15 => skip
        exact trivial
        all_goals exact lq
       refine WpC.regionL ?_; refine gn 6 ?_; exact ⟨k17, _, by omega, ⟨((v122.set v123.toNat b129).set v124.toNat b130), (IntKind.i64.wrap (v123 + 1)), (IntKind.i64.wrap (v124 - 1)), by omega, H, rfl⟩, lm [(0, 0)] hm⟩
      ·refine WpC.exit (sr ?_); refine mv ?_; refine L.b2s (xs := v122) underlying22 underlying5 underlying9 hF rfl rfl rfl rfl ?_; refine gn 1 ?_; cases H; exact WpC.ret rt
    ·refine sg 2 ?_; refine cd H (fun hc H => ?_) (fun hc H => ?_)
     ·refine WpC.regionL ?_; refine mv ?_; refine L.buildSlice (e := eB) 1 ([(45 : UInt8)] : List UInt8) underlying22 info5 rfl rfl rfl hF rfl rfl rfl rfl rfl rfl rfl rfl ?_; obtain ⟨h133, H⟩ := condG H; refine L.append (xs := v55) (ys := ([(45 : UInt8)] : List UInt8)) (e := eB) 2 underlying22 info5 rfl rfl hF rfl rfl rfl rfl rfl rfl rfl rfl (fun _ => rfl) (fun _ _ h1 h2 => by cases h1; cases h2; rfl) ⟨_, underlying22⟩ (of_decide_eq_true h133) rfl rfl ?_; refine gn 1 ?_; exact ⟨_, ⟨k12, (v55 ++ ([(45 : UInt8)] : List UInt8)), by omega, H, rfl⟩, lm [(0, 2)] hm⟩
     ·refine WpC.skip ?_; exact ⟨_, ⟨k12, v55, by omega, H, rfl⟩, lm [(0, 0)] hm⟩
/-! ### I_World_act -/
def I_World_act (k : Nat) (a1 : T_Act) (o0 : T_World) : Option (List UInt8 × T_World) := (I_WorldDo k o0 a1).bind fun r1 => (I_Dec k r1.2).bind fun r2 => some (r2, r1.1)
theorem ent123 : MG.Enters Tryz.prog 123 := en func123
theorem g123 (k : Nat) (a1 : T_Act) (o0 : T_World) (r : List UInt8 × T_World) (H : I_World_act k a1 o0 = some r) : Gives Tryz.prog 123 [V.one (Cell.ptr 0 0), V.agg (bT_Act a1)] [[Cell.ow 1 (List.map eI o0.Config.UserRealm), Cell.ow 1 (List.map eI o0.Config.ServiceRealm), Cell.ow 2 (List.map eT_Pair o0.Config.Links), Cell.ow 2 (List.map eT_Pair o0.Config.Proxy), cI o0.Config.Skew, cI o0.Now, cI o0.Fresh, Cell.ow 1 (List.map eS o0.Net), Cell.ow 1 (List.map eS o0.Known.Terms), Cell.ow 1 (List.map eI o0.Known.Keys), Cell.ow 4 (List.map eT_Wait o0.Waits), Cell.ow 8 (List.map eT_Cred o0.Creds), Cell.ow 2 (List.map eT_Cache o0.Caches), Cell.ow 11 (List.map eT_Event o0.Log), Cell.ow 15 (List.map eT_Accept o0.Accepts), Cell.ow 1 (List.map eI o0.Leaked)]] [V.one (cS r.1)] [[Cell.ow 1 (List.map eI r.2.Config.UserRealm), Cell.ow 1 (List.map eI r.2.Config.ServiceRealm), Cell.ow 2 (List.map eT_Pair r.2.Config.Links), Cell.ow 2 (List.map eT_Pair r.2.Config.Proxy), cI r.2.Config.Skew, cI r.2.Now, cI r.2.Fresh, Cell.ow 1 (List.map eS r.2.Net), Cell.ow 1 (List.map eS r.2.Known.Terms), Cell.ow 1 (List.map eI r.2.Known.Keys), Cell.ow 4 (List.map eT_Wait r.2.Waits), Cell.ow 8 (List.map eT_Cred r.2.Creds), Cell.ow 2 (List.map eT_Cache r.2.Caches), Cell.ow 11 (List.map eT_Event r.2.Log), Cell.ow 15 (List.map eT_Accept r.2.Accepts), Cell.ow 1 (List.map eI r.2.Leaked)]] := by
 refine Gives.intro func123 rfl rfl rfl rfl ?_; refine fx fun w0 T S0 ob oh hm => ?_
 have hF := fxe w0 T S0 20 ob oh
 unfold I_World_act at H; obtain ⟨K, hK⟩ := leK k; refine sr ?_; refine bo 27 ?_; refine gn 1 ?_; refine WpC.seq ?_; obtain ⟨r1, hr1, H⟩ := bindS H
 apply ldT ⟨[e0 0 _, e0 3 _, ed 5 9 _, ed 6 11 _, ed 7 6 _, ed 8 1 _, ed 9 2 _, ed 10 3 _, ed 11 4 _, ed 12 5 _, ed 13 7 _, ed 14 8 _], [e0 11 _, e0 12 _, e0 13 _, e0 14 _, e0 18 _, e0 19 _, e0 20 _, e0 21 _, e0 22 _, e0 23 _, e0 24 _, e0 25 _, e0 26 _, ed 28 5 _, ed 29 5 _, ed 30 5 _, ed 31 5 _, ed 35 5 _, ed 36 5 _, ed 37 5 _, ed 38 5 _, ed 39 5 _, ed 40 5 _, ed 41 5 _, ed 42 5 _, ed 43 5 _], [e0 0 _, e0 27 _, (45, [(10, some _), (9, some _)])], 46, []⟩ [(0, 1782), (1, 1780), (3, 1776), (0, 1776), (15, 1760), (31, 1728), (63, 1536), (63, 1024), (0, 1536), (383, 1024), (1023, 0)] mixed ?L1 ?_
 case L1 =>
  repeat refine ls ?_
  apply lc 46 28 17 [12] [28, 29, 30, 31, 35, 36, 37, 38, 39, 40, 41, 42, 43] [] ?h1_4 ?q1_4 ?_
  case h1_4 =>
   intro b; refine ca [false, false] [11, 12, 13, 14, 18, 19, 20, 21, 22, 23, 24, 25, 26] [] 46 ent43 (g43 k false false false false false false false false false false false false false o0 a1 r1 hr1) ?_; exact L.nil ⟨rfl, rfl, rfl, rfl⟩
  case' q1_4 => skip
  repeat refine ls ?_
  apply lc 46 45 1 [5] [] [45] ?h1_8 ?q1_8 ?_
  case h1_8 =>
   intro b; refine alc 46 info43 ?_; exact L.nil ⟨rfl, rfl, rfl, rfl⟩
  case' q1_8 => skip
  refine lb ?_
  repeat refine ls ?_
  exact trivial
  all_goals exact lq
 refine sy 2 ?_; refine L.nilCheck hF rfl rfl rfl rfl ?_; refine gn 1 ?_; refine sy 1 ?_; refine cB 46 ent175 (g175 k  r1.2) H fun r2 H => ?_; refine gn 1 ?_; cases H; exact WpC.ret rt
/-! ### I_ReadDec -/
def I_ReadDec.j5 (k : Nat) (v137 : List UInt8) (v138 : Int) : Option (Int × Bool) := (I_Dec k v138).bind fun r140 => cond (r140 != v137) (some (0, false)) (some (v138, true))
def I_ReadDec.l4 : Nat → (List UInt8) → Int → Int → Int → Option (Int × Bool)
 | 0, _, _, _, _ => none
 | k4 + 1, v115, v116, v117, v118 => cond (decide (v118 < (v115.length : Int))) ((at? v115 v118).bind fun b134 => cond (decide (b134 < (48 : UInt8))) (some (0, false)) ((at? v115 v118).bind fun b135 => cond (decide ((57 : UInt8) < b135)) (some (0, false)) ((at? v115 v118).bind fun b136 => (I_ReadDec.l4 k4) v115 v116 (IntKind.i64.wrap ((IntKind.i64.wrap (10 * v117)) + ((b136 - (48 : UInt8)).toNat : Int))) (IntKind.i64.wrap (v118 + 1))))) (cond (v116 == 1) (I_ReadDec.j5 k4 v115 (IntKind.i64.wrap (0 - v117))) (I_ReadDec.j5 k4 v115 v117))
def I_ReadDec.j2 (k : Nat) (v5 : List UInt8) (v6 : Int) : Option (Int × Bool) := (I_within k (IntKind.i64.wrap ((v5.length : Int) - v6)) 1 9).bind fun r8 => cond (!r8) (some (0, false)) (I_ReadDec.l4 k v5 v6 0 v6)
def I_ReadDec.j6 (k : Nat) (v142 : List UInt8) (v143 : Bool) : Option (Int × Bool) := cond v143 (I_ReadDec.j2 k v142 1) (I_ReadDec.j2 k v142 0)
def I_ReadDec (k : Nat) (a0 : List UInt8) : Option (Int × Bool) := cond (decide ((a0.length : Int) > 0)) ((at? a0 0).bind fun b144 => I_ReadDec.j6 k a0 (b144 == (45 : UInt8))) (I_ReadDec.j6 k a0 false)
theorem ent124 : MG.Enters Tryz.prog 124 := en func124
theorem g124 (k : Nat) (a0 : List UInt8) (r : Int × Bool) (H : I_ReadDec k a0 = some r) : Gives Tryz.prog 124 [V.one (cS a0)] [] [V.one (cI r.1), V.one (cL r.2)] [] := by
 refine Gives.intro func124 rfl rfl rfl rfl ?_; refine fx fun w0 T S0 ob oh hm => ?_
 have hF := fxe w0 T S0 55 ob oh
 unfold I_ReadDec at H; obtain ⟨K, hK⟩ := leK k; refine sg 2 ?_; refine sg 1 ?_; refine WpC.join (fun σ => ∃ (kj2 : Nat) (v5 : List UInt8) (v6 : Int), kj2 ≤ K ∧ I_ReadDec.j2 kj2 v5 v6 = some r ∧ σ = mkSt [(0, oS v5), (4, oI v6)] [] [] 0) ?_ ?_
 ·rintro _ ⟨kj2, v5, v6, hkj2, H, rfl⟩
  unfold I_ReadDec.j2 at H; refine WpC.seq (sr ?_); refine mv ?_; refine L.lenS underlying9 hF rfl rfl rfl ?_; refine go 2 ?_; refine cB 0 ent52 (g52 kj2  (IntKind.i64.wrap ((v5.length : Int) - v6)) 1 9) H fun r8 H => ?_; refine gn 1 ?_; refine cd H (fun hc H => ?_) (fun hc H => ?_)
  ·refine sg 2 ?_; cases H; exact WpC.ret rt
  ·refine WpC.skip (sr ?_); refine gn 1 ?_; refine WpC.seq (sr ?_); refine gn 2 ?_; refine WpC.block ?_; refine WpC.loopL (P := Tryz.prog) (fun n σ => ∃ (v115 : List UInt8) (v116 v117 v118 : Int), n ≤ K ∧ I_ReadDec.l4 n v115 v116 v117 v118 = some r ∧ σ = mkSt [(0, oS v115), (4, oI v116), (5, oI v117), (6, oI v118)] [] [] 0) kj2 ⟨_, ⟨v5, v6, 0, v6, by omega, H, rfl⟩, lm [] hm⟩ ?_; clear H
   rintro k4 _ ⟨v115, v116, v117, v118, hk4, H, rfl⟩
   cases k4 with
   | zero => cases H
   | succ k4 =>
    rw [I_ReadDec.l4] at H
    refine WpC.seq (sr ?_); refine go 2 ?_; refine L.lenS underlying9 hF rfl rfl rfl ?_; refine gn 1 ?_; refine cd H (fun hc H => ?_) (fun hc H => ?_)
    ·refine WpC.skip (WpC.seq (WpC.block (WpC.seq (sr ?_)))); refine go 2 ?_; obtain ⟨b134, hb134, H⟩ := bindS H; refine L.idxS underlying9 hF rfl rfl rfl rfl hb134 ?_; refine L.binB (a := b134) (b := (48 : UInt8)) hF rfl rfl rfl rfl rfl ?_; refine mv ?_; refine sH H (fun hc H => ?_) (fun hc H => ?_)
     ·refine gn 5 ?_; refine cT ?_; refine sg 2 ?_; cases H; exact WpC.ret rt
     ·refine go 2 ?_; obtain ⟨b135, hb135, H⟩ := bindS H; refine L.idxS underlying9 hF rfl rfl rfl rfl hb135 ?_; refine L.binB (a := b135) (b := (57 : UInt8)) hF rfl rfl rfl rfl rfl ?_; refine gn 1 ?_; refine cd H (fun hc H => ?_) (fun hc H => ?_)
      ·refine sg 2 ?_; cases H; exact WpC.ret rt
      ·refine WpC.skip (WpC.regionL ?_); refine go 4 ?_; obtain ⟨b136, hb136, H⟩ := bindS H; refine L.idxS underlying9 hF rfl rfl rfl rfl hb136 ?_; refine L.binB (a := b136) (b := (48 : UInt8)) hF rfl rfl rfl rfl rfl ?_; refine L.ofB underlying5 underlying3 hF rfl rfl rfl ?_; refine gn 2 ?_; refine WpC.regionL ?_; refine gn 3 ?_; exact ⟨k4, _, by omega, ⟨v115, v116, (IntKind.i64.wrap ((IntKind.i64.wrap (10 * v117)) + ((b136 - (48 : UInt8)).toNat : Int))), (IntKind.i64.wrap (v118 + 1)), by omega, H, rfl⟩, lm [] hm⟩
    ·refine WpC.exit ?_; refine WpC.join (fun σ => ∃ (kj5 : Nat) (v137 : List UInt8) (v138 : Int), kj5 ≤ K ∧ I_ReadDec.j5 kj5 v137 v138 = some r ∧ σ = mkSt [(0, oS v137), (5, oI v138)] [] [] 0) ?_ ?_
     ·rintro _ ⟨kj5, v137, v138, hkj5, H, rfl⟩
      unfold I_ReadDec.j5 at H; refine WpC.seq (sr ?_); refine mv ?_; refine cB 0 ent175 (g175 kj5  v138) H fun r140 H => ?_; refine mv ?_; refine L.binS hF rfl rfl rfl rfl rfl (L.nil ?_); refine cd H (fun hc H => ?_) (fun hc H => ?_)
      ·refine sg 2 ?_; cases H; exact WpC.ret rt
      ·refine WpC.skip (sr ?_); refine gn 3 ?_; cases H; exact WpC.ret rt
     ·refine sg 2 ?_; refine cd H (fun hc H => ?_) (fun hc H => ?_)
      ·refine WpC.regionL ?_; refine mv ?_; refine L.neg hF rfl rfl rfl ?_; refine gn 1 ?_; exact ⟨_, ⟨k4, v115, (IntKind.i64.wrap (0 - v117)), by omega, H, rfl⟩, lm [] hm⟩
      ·refine WpC.skip ?_; exact ⟨_, ⟨k4, v115, v117, by omega, H, rfl⟩, lm [] hm⟩
 ·refine WpC.join (fun σ => ∃ (kj6 : Nat) (v142 : List UInt8) (v143 : Bool), kj6 ≤ K ∧ I_ReadDec.j6 kj6 v142 v143 = some r ∧ σ = mkSt [(0, oS v142), (4, oI 0), (14, oL v143)] [] [] 0) ?_ ?_
  ·rintro _ ⟨kj6, v142, v143, hkj6, H, rfl⟩
   unfold I_ReadDec.j6 at H; refine cd H (fun hc H => ?_) (fun hc H => ?_)
   ·refine WpC.regionL ?_; refine gn 1 ?_; exact ⟨_, ⟨kj6, v142, 1, by omega, H, rfl⟩, lm [] hm⟩
   ·refine WpC.skip ?_; exact ⟨_, ⟨kj6, v142, 0, by omega, H, rfl⟩, lm [] hm⟩
  ·refine WpC.regionL ?_; refine mv ?_; refine L.lenS underlying9 hF rfl rfl rfl ?_; refine go 2 ?_; refine sH H (fun hc H => ?_) (fun hc H => ?_)
   ·refine mv ?_; obtain ⟨b144, hb144, H⟩ := bindS H; refine L.idxS underlying9 hF rfl rfl rfl rfl hb144 ?_; refine L.binB (a := b144) (b := (45 : UInt8)) hF rfl rfl rfl rfl rfl ?_; refine gn 1 ?_; exact ⟨_, ⟨k, a0, (b144 == (45 : UInt8)), by omega, H, rfl⟩, lm [] hm⟩
   ·refine gn 4 ?_; exact ⟨_, ⟨k, a0, false, by omega, H, rfl⟩, lm [] hm⟩
/-! ### I_Find_1 -/
def I_Find_1 (k : Nat) (a0 : T_Event) (o0 : Int) : Option Bool := some (a0.Key == o0)
theorem ent45 : MG.Enters Tryz.prog 45 := en func45
theorem g45 (k : Nat) (a0 : T_Event) (o0 : Int) (r : Bool) (H : I_Find_1 k a0 o0 = some r) : Gives Tryz.prog 45 [V.agg (bT_Event a0), V.one (Cell.ptr 0 0)] [[cI o0]] [V.one (cL r)] [[cI o0]] := by
 refine Gives.intro func45 rfl rfl rfl rfl ?_; refine fx fun w0 T S0 ob oh hm => ?_
 have hF := fxe w0 T S0 8 ob oh
 unfold I_Find_1 at H; obtain ⟨K, hK⟩ := leK k; refine sr ?_; refine bo 14 ?_; refine gn 1 ?_; refine sg 5 ?_; cases H; exact WpC.ret rt
/-! ### V_IndexFunc_Event__impl_Find_1 -/
def V_IndexFunc_Event__impl_Find_1.l2 : Nat → (List T_Event) → Int → Int → Int → Option (Int × Int)
 | 0, _, _, _, _ => none
 | k2 + 1, v39, v40, v41, v42 => cond (decide (v41 < v40)) ((at? v39 v41).bind fun b45 => (I_Find_1 k2 b45 v42).bind fun r46 => cond r46 (some (v41, v42)) ((V_IndexFunc_Event__impl_Find_1.l2 k2) v39 v40 (IntKind.i64.wrap (v41 + 1)) v42)) (some ((-1), v42))
def V_IndexFunc_Event__impl_Find_1 (k : Nat) (a0 : List T_Event) (o0 : Int) : Option (Int × Int) := V_IndexFunc_Event__impl_Find_1.l2 k a0 (a0.length : Int) 0 o0
theorem ent44 : MG.Enters Tryz.prog 44 := en func44
theorem g44 (k : Nat) (g0 : Bool) (a0 : List T_Event) (o0 : Int) (r : Int × Int) (H : V_IndexFunc_Event__impl_Find_1 k a0 o0 = some r) : Gives Tryz.prog 44 [V.one (Cell.sl g0 (List.map eT_Event a0)), V.one (Cell.clo 45 [Cell.ptr 0 0])] [[cI o0]] [V.one (cI r.1)] [[cI r.2]] := by
 refine Gives.intro func44 rfl rfl rfl rfl ?_; refine fx fun w0 T S0 ob oh hm => ?_
 have hF := fxe w0 T S0 19 ob oh
 unfold V_IndexFunc_Event__impl_Find_1 at H; obtain ⟨K, hK⟩ := leK k; refine sg 1 ?_; refine WpC.seq (sr ?_); refine mv ?_; refine L.lenR (xs := a0) (e := eT_Event) underlying40 hF rfl rfl rfl rfl ?_; refine gn 1 ?_; refine WpC.block ?_; refine WpC.loopL (P := Tryz.prog) (fun n σ => ∃ (v39 : List T_Event) (v40 v41 v42 : Int), n ≤ K ∧ V_IndexFunc_Event__impl_Find_1.l2 n v39 v40 v41 v42 = some r ∧ σ = mkSt [(0, MG.one (Cell.sl g0 (List.map eT_Event v39))), (1, MG.one (Cell.clo 45 [Cell.ptr 0 0])), (7, oI v40), (8, oI v41)] [] [(0, [cI v42])] 1) k ⟨_, ⟨a0, (a0.length : Int), 0, o0, by omega, H, rfl⟩, lm [(0, 0)] hm⟩ ?_; clear H
 rintro k2 _ ⟨v39, v40, v41, v42, hk2, H, rfl⟩
 cases k2 with
 | zero => cases H
 | succ k2 =>
  rw [V_IndexFunc_Event__impl_Find_1.l2] at H
  refine sg 1 ?_; refine WpC.seq ?_; refine cd H (fun hc H => ?_) (fun hc H => ?_)
  ·refine WpC.skip (WpC.seq (WpC.block (sr ?_))); refine gn 2 ?_; refine sy 3 ?_; obtain ⟨b45, hb45, H⟩ := bindS H; refine ix underlying40 info47 hb45 ?_; refine le shape47 ?_; obtain ⟨r46, hr46, H⟩ := bindS H; refine ca [false] [] [0] 1 ent45 (g45 k2  b45 v42 r46 hr46) (L.nil ?_); refine cd H (fun hc H => ?_) (fun hc H => ?_)
   ·refine sg 2 ?_; cases H; exact WpC.ret rt
   ·refine WpC.skip (WpC.regionL ?_); refine gn 2 ?_; exact ⟨k2, _, by omega, ⟨v39, v40, (IntKind.i64.wrap (v41 + 1)), v42, by omega, H, rfl⟩, lm [(0, 0)] hm⟩
  ·refine WpC.exit (sr ?_); refine gn 1 ?_; cases H; exact WpC.ret rt
/-! ### I_Find -/
def I_Find (k : Nat) (a0 : List T_Event) (a1 : Int) : Option Int := (V_IndexFunc_Event__impl_Find_1 k a0 a1).bind fun r1 => some r1.1
theorem ent13 : MG.Enters Tryz.prog 13 := en func13
theorem g13 (k : Nat) (g0 : Bool) (a0 : List T_Event) (a1 r : Int) (H : I_Find k a0 a1 = some r) : Gives Tryz.prog 13 [V.one (Cell.sl g0 (List.map eT_Event a0)), V.one (cI a1)] [] [V.one (cI r)] [] := by
 refine Gives.intro func13 rfl rfl rfl rfl ?_; refine fx fun w0 T S0 ob oh hm => ?_
 have hF := fxe w0 T S0 8 ob oh
 unfold I_Find at H; obtain ⟨K, hK⟩ := leK k; refine sr ?_; refine bo 2 ?_; refine gn 1 ?_; refine sy 1 ?_; refine L.makeFunc hF rfl rfl rfl ?_; obtain ⟨r1, hr1, H⟩ := bindS H; refine ca [false, false] [] [2] 3 ent44 (g44 k g0 a0 a1 r1 hr1) ?_; refine gn 1 ?_; cases H; exact WpC.ret rt
/-! ### I_Chain -/
def I_Chain.j19 (cl17 : (List T_Event) → Int → (List Int) → Int → Int → Option (List Int)) (k : Nat) (v178 : List T_Event) (v179 : Int) (v180 : List Int) (v181 v182 : Int) : Option (List Int) := cl17 v178 v179 v180 v181 (IntKind.i64.wrap (v182 + 1))
def I_Chain.j20 (cl17 : (List T_Event) → Int → (List Int) → Int → Int → Option (List Int)) (k : Nat) (v186 : List T_Event) (v187 : List Int) (v188 v189 v190 : Int) (v191 : T_Event) (v192 : Bool) : Option (List Int) := cond v192 ((at? v186 v188).bind fun b193 => I_Chain.j19 cl17 k v186 b193.Parent v187 v189 v190) (cond (v191.Kind == 4) ((at? v186 v188).bind fun b194 => I_Chain.j19 cl17 k v186 b194.Evid v187 v189 v190) (some ([] : List Int)))
def I_Chain.l17 : Nat → (List T_Event) → Int → (List Int) → Int → Int → Option (List Int)
 | 0, _, _, _, _, _ => none
 | k17 + 1, v161, v162, v163, v164, v165 => cond (decide (v165 < v164)) ((I_Find k17 v161 v162).bind fun r183 => cond (decide (r183 < 0)) (some ([] : List Int)) (cond (decide ((2 * (([r183] : List Int).length + v163.length) + 192) * 8 ≤ 281474976710656)) ((at? v161 r183).bind fun b185 => cond (b185.Kind == 1) (some (([r183] : List Int) ++ v163)) (cond (b185.Kind == 2) (I_Chain.j20 (I_Chain.l17 k17) k17 v161 (([r183] : List Int) ++ v163) r183 v164 v165 b185 (b185.Kind == 2)) (I_Chain.j20 (I_Chain.l17 k17) k17 v161 (([r183] : List Int) ++ v163) r183 v164 v165 b185 (b185.Kind == 3)))) none)) (some ([] : List Int))
def I_Chain (k : Nat) (a0 : List T_Event) (a1 : Int) : Option (List Int) := I_Chain.l17 k a0 a1 ([] : List Int) (a0.length : Int) 0
theorem ent22 : MG.Enters Tryz.prog 22 := en func22
theorem g22 (k : Nat) (g0 : Bool) (a0 : List T_Event) (a1 : Int) (r : List Int) (H : I_Chain k a0 a1 = some r) : Gives Tryz.prog 22 [V.one (Cell.sl g0 (List.map eT_Event a0)), V.one (cI a1)] [] [V.one (Cell.ow 1 (List.map eI r))] [] := by
 refine Gives.intro func22 rfl rfl rfl rfl ?_; refine fx fun w0 T S0 ob oh hm => ?_
 have hF := fxe w0 T S0 47 ob oh
 unfold I_Chain at H; obtain ⟨K, hK⟩ := leK k; refine sg 1 ?_; refine sr ?_; refine L.buildSlice (e := eI) 2 ([] : List Int) underlying24 info3 rfl rfl rfl hF rfl rfl rfl rfl rfl rfl rfl rfl ?_; refine gn 1 ?_; refine WpC.seq (sr ?_); refine mv ?_; refine L.lenR (xs := a0) (e := eT_Event) underlying40 hF rfl rfl rfl rfl ?_; refine gn 1 ?_; refine WpC.block ?_; refine WpC.loopL (P := Tryz.prog) (fun n σ => ∃ (v161 : List T_Event) (v162 : Int) (v163 : List Int) (v164 v165 : Int), n ≤ K ∧ I_Chain.l17 n v161 v162 v163 v164 v165 = some r ∧ σ = mkSt [(0, MG.one (Cell.sl g0 (List.map eT_Event v161))), (1, oI v162), (5, MG.one (Cell.own 0)), (9, oI v164), (10, oI v165)] [(0, ⟨1, List.map eI v163⟩)] [] 1) k ⟨_, ⟨a0, a1, ([] : List Int), (a0.length : Int), 0, by omega, H, rfl⟩, lm [(0, 2)] hm⟩ ?_; clear H
 rintro k17 _ ⟨v161, v162, v163, v164, v165, hk17, H, rfl⟩
 cases k17 with
 | zero => cases H
 | succ k17 =>
  rw [I_Chain.l17] at H
  refine sg 1 ?_; refine WpC.seq ?_; refine cd H (fun hc H => ?_) (fun hc H => ?_)
  ·refine WpC.skip ?_; refine WpC.join (fun σ => ∃ (kj19 : Nat) (v178 : List T_Event) (v179 : Int) (v180 : List Int) (v181 v182 : Int), kj19 ≤ K ∧ I_Chain.j19 (I_Chain.l17 k17) kj19 v178 v179 v180 v181 v182 = some r ∧ σ = mkSt [(0, MG.one (Cell.sl g0 (List.map eT_Event v178))), (1, oI v179), (5, MG.one (Cell.own 0)), (9, oI v181), (10, oI v182)] [(0, ⟨1, List.map eI v180⟩)] [] 1) ?_ ?_
   ·rintro _ ⟨kj19, v178, v179, v180, v181, v182, hkj19, H, rfl⟩
    unfold I_Chain.j19 at H; refine WpC.regionL ?_; refine gn 2 ?_; exact ⟨k17, _, by omega, ⟨v178, v179, v180, v181, (IntKind.i64.wrap (v182 + 1)), by omega, H, rfl⟩, lm [(0, 0)] hm⟩
   ·refine WpC.block (sr ?_); refine go 2 ?_; refine cB 1 ent13 (g13 k17 g0 v161 v162) H fun r183 H => ?_; refine gn 1 ?_; refine WpC.seq (sr ?_); refine gn 2 ?_; refine cd H (fun hc H => ?_) (fun hc H => ?_)
    ·refine WpC.exit (sr ?_); refine L.buildSlice (e := eI) 2 ([] : List Int) underlying24 info3 rfl rfl rfl hF rfl rfl rfl rfl rfl rfl rfl rfl ?_; refine gn 1 ?_; cases H; exact WpC.ret rt
    ·refine WpC.skip (sr ?_); refine mv ?_; refine L.buildSlice (e := eI) 2 ([r183] : List Int) underlying24 info3 rfl rfl rfl hF rfl rfl rfl rfl rfl rfl rfl rfl ?_; refine mv ?_; obtain ⟨h184, H⟩ := condG H; refine L.append (xs := ([r183] : List Int)) (ys := v163) (e := eI) 3 underlying24 info3 rfl rfl hF rfl rfl rfl rfl rfl rfl rfl rfl (fun _ => rfl) (fun _ _ h1 h2 => by cases h1; cases h2; rfl) ⟨_, underlying24⟩ (of_decide_eq_true h184) rfl rfl ?_; refine gn 1 ?_; refine sy 2 ?_; obtain ⟨b185, hb185, H⟩ := bindS H; refine ix underlying40 info47 hb185 ?_; refine gn 2 ?_; refine WpC.block (sr ?_); refine gn 2 ?_; refine cd H (fun hc H => ?_) (fun hc H => ?_)
     ·refine sg 2 ?_; cases H; exact WpC.ret rt
     ·refine WpC.join (fun σ => ∃ (kj20 : Nat) (v186 : List T_Event) (v187 : List Int) (v188 v189 v190 : Int) (v191 : T_Event) (v192 : Bool), kj20 ≤ K ∧ I_Chain.j20 (I_Chain.l17 k17) kj20 v186 v187 v188 v189 v190 v191 v192 = some r ∧ σ = mkSt [(0, MG.one (Cell.sl g0 (List.map eT_Event v186))), (5, MG.one (Cell.own 0)), (6, oI v188), (9, oI v189), (10, oI v190), (25, oI v191.Kind), (30, oL v192)] [(0, ⟨1, List.map eI v187⟩)] [] 1) ?_ ?_
      ·rintro _ ⟨kj20, v186, v187, v188, v189, v190, v191, v192, hkj20, H, rfl⟩
       unfold I_Chain.j20 at H; refine cd H (fun hc H => ?_) (fun hc H => ?_)
       ·refine WpC.regionL ?_; refine go 2 ?_; obtain ⟨b193, hb193, H⟩ := bindS H; refine ix underlying40 info47 hb193 ?_; refine gn 3 ?_; exact ⟨_, ⟨kj20, v186, b193.Parent, v187, v189, v190, by omega, H, rfl⟩, lm [(0, 0)] hm⟩
       ·refine sg 2 ?_; refine cd H (fun hc H => ?_) (fun hc H => ?_)
        ·refine WpC.regionL ?_; refine go 2 ?_; obtain ⟨b194, hb194, H⟩ := bindS H; refine ix underlying40 info47 hb194 ?_; refine gn 3 ?_; exact ⟨_, ⟨kj20, v186, b194.Evid, v187, v189, v190, by omega, H, rfl⟩, lm [(0, 0)] hm⟩
        ·refine sr ?_; refine L.buildSlice (e := eI) 1 ([] : List Int) underlying24 info3 rfl rfl rfl hF rfl rfl rfl rfl rfl rfl rfl rfl ?_; refine gn 1 ?_; cases H; exact WpC.ret rt
      ·refine sg 2 ?_; refine cd H (fun hc H => ?_) (fun hc H => ?_)
       ·refine WpC.skip ?_; exact ⟨_, ⟨k17, v161, (([r183] : List Int) ++ v163), r183, v164, v165, b185, (b185.Kind == 2), by omega, H, rfl⟩, lm [(0, 3)] hm⟩
       ·refine WpC.regionL ?_; refine gn 2 ?_; exact ⟨_, ⟨k17, v161, (([r183] : List Int) ++ v163), r183, v164, v165, b185, (b185.Kind == 3), by omega, H, rfl⟩, lm [(0, 3)] hm⟩
  ·refine WpC.exit (sr ?_); refine L.buildSlice (e := eI) 1 ([] : List Int) underlying24 info3 rfl rfl rfl hF rfl rfl rfl rfl rfl rfl rfl rfl ?_; refine gn 1 ?_; cases H; exact WpC.ret rt
/-! ### I_risen -/
theorem ent130 : MG.Enters Tryz.prog 130 := en func130
def I_risen (k : Nat) (a0 : List Int) : Option (List Int) := (V_Sort_int k a0).bind fun r1 => (V_Compact_int k r1).bind fun r2 => some r2
theorem ent70 : MG.Enters Tryz.prog 70 := en func70
theorem g130 (k : Nat) (a0 r : List Int) (H : I_risen k a0 = some r) : Gives Tryz.prog 70 [V.one (Cell.ow 1 (List.map eI a0))] [] [V.one (Cell.ow 1 (List.map eI r))] [] := by
 refine Gives.intro func70 rfl rfl rfl rfl ?_; refine fx fun w0 T S0 ob oh hm => ?_
 have hF := fxe w0 T S0 7 ob oh
 unfold I_risen at H; obtain ⟨K, hK⟩ := leK k; refine sg 1 ?_; refine sy 1 ?_; obtain ⟨r1, hr1, H⟩ := bindS H; refine L.callB [true] [] [] 1 [0] hF rfl rfl rfl ent48 rfl rfl rfl rfl rfl (V_Sort_int_gives k  a0 r1 hr1) rfl rfl rfl (L.nil ?_); refine sy 1 ?_; obtain ⟨r2, hr2, H⟩ := bindS H; refine ca [true] [] [] 1 ent130 (V_Compact_int_gives k  r1 r2 hr2) ?_; refine gn 1 ?_; cases H; exact WpC.ret rt
/-! ### I_Concerns -/
theorem ent167 : MG.Enters Tryz.prog 167 := en func167
def I_Concerns.j8 (cl7 : (List Int) → T_Accept → Int → Int → T_Config → Option (List Int)) (k : Nat) (v110 : List Int) (v111 : T_Accept) (v112 v113 : Int) (v114 : T_Config) : Option (List Int) := cl7 v110 v111 v112 (IntKind.i64.wrap (v113 + 1)) v114
def I_Concerns.j58 (cl57 : (List Int) → (List Int) → Int → Int → Int → Int → Int → Option (List Int)) (k : Nat) (v843 v844 : List Int) (v845 v846 v847 v848 v849 : Int) : Option (List Int) := cl57 v843 v844 v845 v846 v847 v848 (IntKind.i64.wrap (v849 + 1))
def I_Concerns.l57 (cl50 : (List Int) → (List Int) → Int → Int → Option (List Int)) : Nat → (List Int) → (List Int) → Int → Int → Int → Int → Int → Option (List Int)
 | 0, _, _, _, _, _, _, _ => none
 | k57 + 1, v833, v834, v835, v836, v837, v838, v839 => cond (decide (v839 < v838)) ((at? v834 v839).bind fun b850 => cond (b850 != v835) ((I_LinkKey k57 v835 b850).bind fun r851 => cond (decide ((2 * (v833.length + ([r851] : List Int).length) + 192) * 8 ≤ 281474976710656)) (I_Concerns.j58 (I_Concerns.l57 cl50 k57) k57 (v833 ++ ([r851] : List Int)) v834 v835 v836 v837 v838 v839) none) (I_Concerns.j58 (I_Concerns.l57 cl50 k57) k57 v833 v834 v835 v836 v837 v838 v839)) (cl50 v833 v834 v836 (IntKind.i64.wrap (v837 + 1)))
def I_Concerns.l50 : Nat → (List Int) → (List Int) → Int → Int → Option (List Int)
 | 0, _, _, _, _ => none
 | k50 + 1, v727, v728, v729, v730 => cond (decide (v730 < v729)) ((at? v728 v730).bind fun b792 => (I_CentreKey k50 b792).bind fun r793 => cond (decide ((2 * (v727.length + ([r793] : List Int).length) + 192) * 8 ≤ 281474976710656)) (I_Concerns.l57 (I_Concerns.l50 k50) k50 (v727 ++ ([r793] : List Int)) v728 b792 v729 v730 (v728.length : Int) 0) none) ((I_risen k50 v727).bind fun r853 => some r853)
def I_Concerns.l7 : Nat → (List Int) → T_Accept → Int → Int → T_Config → Option (List Int)
 | 0, _, _, _, _, _ => none
 | k7 + 1, v101, v102, v103, v104, v105 => cond (decide (v104 < v103)) ((at? v102.Via v104).bind fun b115 => (I_isService k7 b115).bind fun r116 => cond r116 ((I_PrincipalKey k7 (IntKind.i64.wrap (3 + b115))).bind fun r117 => cond (decide ((2 * (v101.length + ([r117] : List Int).length) + 192) * 8 ≤ 281474976710656)) (I_Concerns.j8 (I_Concerns.l7 k7) k7 (v101 ++ ([r117] : List Int)) v102 v103 v104 v105) none) (I_Concerns.j8 (I_Concerns.l7 k7) k7 v101 v102 v103 v104 v105)) ((I_RealmOf k7 v105 v102.Client).bind fun r119 => (at? v105.ServiceRealm v102.Server).bind fun b120 => cond (decide ((2 * (([r119, b120] : List Int).length + v102.Path.length) + 192) * 8 ≤ 281474976710656)) ((V_DeleteFunc_int__impl_Concerns_1 k7 (([r119, b120] : List Int) ++ v102.Path)).bind fun r122 => I_Concerns.l50 k7 v101 r122 (r122.length : Int) 0) none)
def I_Concerns (k : Nat) (a0 : T_Config) (a1 : T_Accept) : Option (List Int) := (I_ConfigOk k a0).bind fun r10 => cond (!r10) (some ([] : List Int)) ((I_isService k a1.Server).bind fun r11 => cond (!r11) (some ([] : List Int)) ((I_isPrincipal k a1.Client).bind fun r12 => cond (!r12) (some ([] : List Int)) ((I_PrincipalKey k a1.Client).bind fun r13 => (I_PrincipalKey k (IntKind.i64.wrap (3 + a1.Server))).bind fun r14 => I_Concerns.l7 k ([r13, r14] : List Int) a1 (a1.Via.length : Int) 0 a0)))
theorem ent115 : MG.Enters Tryz.prog 115 := en func115
theorem g167 (k : Nat) (g0 g1 g2 g3 g4 g5 : Bool) (a0 : T_Config) (a1 : T_Accept) (r : List Int) (H : I_Concerns k a0 a1 = some r) : Gives Tryz.prog 115 [V.agg (bT_Config g0 g1 g2 g3 a0), V.agg (bT_Accept g4 g5 a1)] [] [V.one (Cell.ow 1 (List.map eI r))] [] := by
 refine Gives.intro func115 rfl rfl rfl rfl ?_; refine fx fun w0 T S0 ob oh hm => ?_
 have hF := fxe w0 T S0 98 ob oh
 unfold I_Concerns at H; obtain ⟨K, hK⟩ := leK k; refine sr ?_; refine bo 20 ?_; refine bo 21 ?_; refine gn 1 ?_; refine WpC.seq (sr ?_); refine lp shape27 ?_; refine cB 22 ent54 (g54 k g0 g1 g2 g3 a0) H fun r10 H => ?_; refine go 2 ?_; refine sH H (fun hc H => ?_) (fun hc H => ?_)
 ·refine gn 11 ?_; refine cT ?_; refine sr ?_; refine L.buildSlice (e := eI) 23 ([] : List Int) underlying24 info3 rfl rfl rfl hF rfl rfl rfl rfl rfl rfl rfl rfl ?_; refine gn 1 ?_; cases H; exact WpC.ret rt
 ·refine go 2 ?_; refine cB 23 ent55 (g55 k  a1.Server) H fun r11 H => ?_; refine go 3 ?_; refine sH H (fun hc H => ?_) (fun hc H => ?_)
  ·refine gn 5 ?_; refine cT ?_; refine sr ?_; refine L.buildSlice (e := eI) 24 ([] : List Int) underlying24 info3 rfl rfl rfl hF rfl rfl rfl rfl rfl rfl rfl rfl ?_; refine gn 1 ?_; cases H; exact WpC.ret rt
  ·refine go 2 ?_; refine cB 24 ent53 (g53 k  a1.Client) H fun r12 H => ?_; refine gn 2 ?_; refine cd H (fun hc H => ?_) (fun hc H => ?_)
   ·refine sr ?_; refine L.buildSlice (e := eI) 25 ([] : List Int) underlying24 info3 rfl rfl rfl hF rfl rfl rfl rfl rfl rfl rfl rfl ?_; refine gn 1 ?_; cases H; exact WpC.ret rt
   ·refine WpC.skip (WpC.seq ?_); obtain ⟨r13, hr13, H⟩ := bindS H; obtain ⟨r14, hr14, H⟩ := bindS H
    apply ldT ⟨[e0 2 _, e0 3 _, ed 5 9 _, ed 29 1 _, ed 30 2 _, ed 31 3 _, ed 32 4 _, ed 33 5 _, ed 34 6 _, ed 35 7 _, ed 36 8 _], [ed 27 8 _], [e0 20 _, e0 21 _], 28, []⟩ [(0, 454), (1, 452), (3, 448), (0, 496), (8, 480), (24, 448), (63, 384), (127, 256), (255, 0)] mixed ?L1 ?_
    case L1 =>
     repeat refine ls ?_
     apply lc 28 25 1 [31] [] [] ?h1_2 ?q1_2 ?_
     case h1_2 =>
      intro b; refine c0 28 ent17 (g17 k  a1.Client r13 hr13) ?_; exact L.nil ⟨rfl, rfl, rfl, rfl⟩
     case' q1_2 => skip
     repeat refine ls ?_
     apply lc 28 26 1 [35] [] [] ?h1_6 ?q1_6 ?_
     case h1_6 =>
      intro b; refine c0 28 ent17 (g17 k  (IntKind.i64.wrap (3 + a1.Server)) r14 hr14) ?_; exact L.nil ⟨rfl, rfl, rfl, rfl⟩
     case' q1_6 => skip
     apply lc 28 27 1 [36] [27] [] ?h1_7 ?q1_7 ?_
     case h1_7 =>
      intro b; refine L.buildSlice (e := eI) 28 ([r13, r14] : List Int) underlying24 info3 rfl rfl rfl hF rfl rfl rfl rfl rfl rfl rfl rfl ?_; exact L.nil ⟨rfl, rfl, rfl, rfl⟩
     case' q1_7 => skip
     repeat refine ls ?_
     exact trivial
     all_goals exact lq
    refine WpC.seq (sr ?_); refine go 2 ?_; refine L.lenR (xs := a1.Via) (e := eI) underlying24 hF rfl rfl rfl rfl ?_; refine gn 1 ?_; refine WpC.block ?_; refine WpC.loopL (P := Tryz.prog) (fun n σ => ∃ (v101 : List Int) (v102 : T_Accept) (v103 v104 : Int) (v105 : T_Config), n ≤ K ∧ I_Concerns.l7 n v101 v102 v103 v104 v105 = some r ∧ σ = mkSt [(2, oP 0 0), (3, oP 1 0), (5, MG.one (Cell.own 2)), (38, MG.one (Cell.sl g5 (List.map eI v102.Via))), (39, oI v103), (40, oI v104)] [(2, ⟨1, List.map eI v101⟩)] [(0, (bT_Config g0 g1 g2 g3 v105)), (1, (bT_Accept g4 g5 v102))] 3) k ⟨_, ⟨([r13, r14] : List Int), a1, (a1.Via.length : Int), 0, a0, by omega, H, rfl⟩, lm [(0, 20), (1, 21), (2, 27)] hm⟩ ?_; clear H
    rintro k7 _ ⟨v101, v102, v103, v104, v105, hk7, H, rfl⟩
    cases k7 with
    | zero => cases H
    | succ k7 =>
     rw [I_Concerns.l7] at H
     refine sg 1 ?_; refine WpC.seq ?_; refine cd H (fun hc H => ?_) (fun hc H => ?_)
     ·refine WpC.skip ?_; refine WpC.join (fun σ => ∃ (kj8 : Nat) (v110 : List Int) (v111 : T_Accept) (v112 v113 : Int) (v114 : T_Config), kj8 ≤ K ∧ I_Concerns.j8 (I_Concerns.l7 k7) kj8 v110 v111 v112 v113 v114 = some r ∧ σ = mkSt [(2, oP 0 0), (3, oP 1 0), (5, MG.one (Cell.own 2)), (38, MG.one (Cell.sl g5 (List.map eI v111.Via))), (39, oI v112), (40, oI v113)] [(2, ⟨1, List.map eI v110⟩)] [(0, (bT_Config g0 g1 g2 g3 v114)), (1, (bT_Accept g4 g5 v111))] 3) ?_ ?_
      ·rintro _ ⟨kj8, v110, v111, v112, v113, v114, hkj8, H, rfl⟩
       unfold I_Concerns.j8 at H; refine WpC.regionL ?_; refine gn 2 ?_; exact ⟨k7, _, by omega, ⟨v110, v111, v112, (IntKind.i64.wrap (v113 + 1)), v114, by omega, H, rfl⟩, lm [(0, 0), (1, 1), (2, 2)] hm⟩
      ·refine WpC.block (sr ?_); obtain ⟨b115, hb115, H⟩ := bindS H; refine ix underlying24 info3 hb115 ?_; refine gn 2 ?_; refine sy 1 ?_; refine cB 3 ent55 (g55 k7  b115) H fun r116 H => L.nil ?_; refine cd H (fun hc H => ?_) (fun hc H => ?_)
       ·refine WpC.regionL ?_; refine go 3 ?_; refine cB 4 ent17 (g17 k7  (IntKind.i64.wrap (3 + b115))) H fun r117 H => ?_; refine L.buildSlice (e := eI) 5 ([r117] : List Int) underlying24 info3 rfl rfl rfl hF rfl rfl rfl rfl rfl rfl rfl rfl ?_; obtain ⟨h118, H⟩ := condG H; refine L.append (xs := v101) (ys := ([r117] : List Int)) (e := eI) 6 underlying24 info3 rfl rfl hF rfl rfl rfl rfl rfl rfl rfl rfl (fun _ => rfl) (fun _ _ h1 h2 => by cases h1; cases h2; rfl) ⟨_, underlying24⟩ (of_decide_eq_true h118) rfl rfl ?_; refine gn 1 ?_; exact ⟨_, ⟨k7, (v101 ++ ([r117] : List Int)), v102, v103, v104, v105, by omega, H, rfl⟩, lm [(0, 0), (1, 1), (2, 6)] hm⟩
       ·refine WpC.skip ?_; exact ⟨_, ⟨k7, v101, v102, v103, v104, v105, by omega, H, rfl⟩, lm [(0, 0), (1, 1), (2, 2)] hm⟩
     ·refine WpC.exit (WpC.seq ?_); obtain ⟨r119, hr119, H⟩ := bindS H; obtain ⟨b120, hb120, H⟩ := bindS H; obtain ⟨h121, H⟩ := condG H; obtain ⟨r122, hr122, H⟩ := bindS H
      apply ldT ⟨[e0 2 _, e0 3 _, e0 5 _, ed 8 16 _, ed 53 1 _, ed 54 2 _, ed 55 3 _, ed 56 4 _, ed 57 5 _, ed 58 6 _, ed 59 7 _, ed 60 8 _, ed 61 9 _, ed 62 10 _, ed 63 11 _, ed 64 12 _, ed 65 13 _, ed 66 14 _, ed 67 15 _], [e0 2 _, (4, [(14, none), (11, some _)]), (5, [(15, none), (14, some _)]), ed 6 15 _], [e0 0 _, e0 1 _], 7, []⟩ [(0, 58376), (0, 58380), (2, 58376), (7, 58368), (0, 59168), (16, 59136), (0, 59264), (64, 59136), (240, 58880), (496, 58368), (1023, 57344), (0, 61440), (2048, 57344), (8191, 49152), (16383, 32768), (32767, 0)] mixed ?L2 ?_
      case L2 =>
       repeat refine ls ?_
       apply lc 7 3 1 [56] [] [] ?h2_3 ?q2_3 ?_
       case h2_3 =>
        intro b; refine c0 7 ent57 (g57 k7 g0 g1 g2 g3 v105 v102.Client r119 hr119) ?_; exact L.nil ⟨rfl, rfl, rfl, rfl⟩
       case' q2_3 => skip
       repeat refine ls ?_
       apply lc 7 4 0 [61] [] [] ?h2_8 ?q2_8 ?_
       case h2_8 =>
        intro b; refine ix underlying24 info3 hb120 ?_; exact L.nil ⟨rfl, rfl, rfl, rfl⟩
       case' q2_8 => skip
       repeat refine ls ?_
       apply lc 7 4 1 [63] [4] [] ?h2_10 ?q2_10 ?_
       case h2_10 =>
        intro b; refine L.buildSlice (e := eI) 7 ([r119, b120] : List Int) underlying24 info3 rfl rfl rfl hF rfl rfl rfl rfl rfl rfl rfl rfl ?_; exact L.nil ⟨rfl, rfl, rfl, rfl⟩
       case' q2_10 => skip
       repeat refine ls ?_
       apply lc 7 5 1 [66] [5] [] ?h2_13 ?q2_13 ?_
       case h2_13 =>
        intro b; refine L.append (xs := ([r119, b120] : List Int)) (ys := v102.Path) (e := eI) 7 underlying24 info3 rfl rfl hF rfl rfl rfl rfl rfl rfl rfl rfl (fun _ => rfl) (fun _ _ h1 h2 => by cases h1; cases h2; rfl) ⟨_, underlying24⟩ (of_decide_eq_true h121) rfl rfl ?_; exact L.nil ⟨rfl, rfl, rfl, rfl⟩
       case' q2_13 => skip
       apply lc 7 6 1 [67] [6] [] ?h2_14 ?q2_14 ?_
       case h2_14 =>
        intro b; refine ca [true, false] [] [] 7 ent167 (V_DeleteFunc_int__impl_Concerns_1_gives k7  (([r119, b120] : List Int) ++ v102.Path) r122 hr122) ?_; exact L.nil ⟨rfl, rfl, rfl, rfl⟩
       case' q2_14 => skip
       repeat refine ls ?_
       exact trivial
       all_goals exact lq
      refine WpC.seq (sr ?_); refine mv ?_; refine L.lenR (xs := r122) (e := eI) underlying24 hF rfl rfl rfl rfl ?_; refine gn 1 ?_; refine WpC.block ?_; refine WpC.loopL (P := Tryz.prog) (fun n σ => ∃ (v727 v728 : List Int) (v729 v730 : Int), n ≤ K ∧ I_Concerns.l50 n v727 v728 v729 v730 = some r ∧ σ = mkSt [(5, MG.one (Cell.own 0)), (8, MG.one (Cell.own 1)), (68, MG.one (Cell.own 1)), (69, oI v729), (70, oI v730)] [(0, ⟨1, List.map eI v727⟩), (1, ⟨1, List.map eI v728⟩)] [] 2) k7 ⟨_, ⟨v101, r122, (r122.length : Int), 0, by omega, H, rfl⟩, lm [(0, 2), (1, 6)] hm⟩ ?_; clear H
      rintro k50 _ ⟨v727, v728, v729, v730, hk50, H, rfl⟩
      cases k50 with
      | zero => cases H
      | succ k50 =>
       rw [I_Concerns.l50] at H
       refine sg 1 ?_; refine WpC.seq ?_; refine cd H (fun hc H => ?_) (fun hc H => ?_)
       ·refine WpC.skip (WpC.seq (WpC.block (sr ?_))); obtain ⟨b792, hb792, H⟩ := bindS H; refine ix underlying24 info3 hb792 ?_; refine L.loadEp (xs := v728) (e := eI) shape3 hF rfl rfl rfl rfl (at?_get hb792).2 rfl rfl ?_; refine gn 1 ?_; refine sy 2 ?_; refine cB 2 ent71 (g71 k50  b792) H fun r793 H => ?_; refine L.buildSlice (e := eI) 3 ([r793] : List Int) underlying24 info3 rfl rfl rfl hF rfl rfl rfl rfl rfl rfl rfl rfl ?_; obtain ⟨h794, H⟩ := condG H; refine L.append (xs := v727) (ys := ([r793] : List Int)) (e := eI) 4 underlying24 info3 rfl rfl hF rfl rfl rfl rfl rfl rfl rfl rfl (fun _ => rfl) (fun _ _ h1 h2 => by cases h1; cases h2; rfl) ⟨_, underlying24⟩ (of_decide_eq_true h794) rfl rfl ?_; refine gn 1 ?_; refine sy 1 ?_; refine L.lenR (xs := v728) (e := eI) underlying24 hF rfl rfl rfl rfl ?_; refine gn 1 ?_; refine WpC.block ?_
        refine WpC.loopL (P := Tryz.prog) (fun n σ => ∃ (v833 v834 : List Int) (v835 v836 v837 v838 v839 : Int), n ≤ K ∧ I_Concerns.l57 (I_Concerns.l50 k50) n v833 v834 v835 v836 v837 v838 v839 = some r ∧ σ = mkSt [(5, MG.one (Cell.own 0)), (8, MG.one (Cell.own 1)), (10, oI v835), (68, MG.one (Cell.own 1)), (69, oI v836), (70, oI v837), (79, MG.one (Cell.own 1)), (80, oI v838), (81, oI v839)] [(0, ⟨1, List.map eI v833⟩), (1, ⟨1, List.map eI v834⟩)] [] 2) k50 ⟨_, ⟨(v727 ++ ([r793] : List Int)), v728, b792, v729, v730, (v728.length : Int), 0, by omega, H, rfl⟩, lm [(0, 4), (1, 1)] hm⟩ ?_; clear H
        rintro k57 _ ⟨v833, v834, v835, v836, v837, v838, v839, hk57, H, rfl⟩
        cases k57 with
        | zero => cases H
        | succ k57 =>
         rw [I_Concerns.l57] at H
         refine sg 1 ?_; refine WpC.seq ?_; refine cd H (fun hc H => ?_) (fun hc H => ?_)
         ·refine WpC.skip ?_; refine WpC.join (fun σ => ∃ (kj58 : Nat) (v843 v844 : List Int) (v845 v846 v847 v848 v849 : Int), kj58 ≤ K ∧ I_Concerns.j58 (I_Concerns.l57 (I_Concerns.l50 k50) k57) kj58 v843 v844 v845 v846 v847 v848 v849 = some r ∧ σ = mkSt [(5, MG.one (Cell.own 0)), (8, MG.one (Cell.own 1)), (10, oI v845), (68, MG.one (Cell.own 1)), (69, oI v846), (70, oI v847), (79, MG.one (Cell.own 1)), (80, oI v848), (81, oI v849)] [(0, ⟨1, List.map eI v843⟩), (1, ⟨1, List.map eI v844⟩)] [] 2) ?_ ?_
          ·rintro _ ⟨kj58, v843, v844, v845, v846, v847, v848, v849, hkj58, H, rfl⟩
           unfold I_Concerns.j58 at H; refine WpC.regionL ?_; refine gn 2 ?_; exact ⟨k57, _, by omega, ⟨v843, v844, v845, v846, v847, v848, (IntKind.i64.wrap (v849 + 1)), by omega, H, rfl⟩, lm [(0, 0), (1, 1)] hm⟩
          ·refine WpC.block (sr ?_); obtain ⟨b850, hb850, H⟩ := bindS H; refine ix underlying24 info3 hb850 ?_; refine L.loadEp (xs := v834) (e := eI) shape3 hF rfl rfl rfl rfl (at?_get hb850).2 rfl rfl ?_; refine gn 1 ?_; refine sg 3 ?_; refine cd H (fun hc H => ?_) (fun hc H => ?_)
           ·refine WpC.regionL ?_; refine go 3 ?_; refine cB 2 ent72 (g72 k57  v835 b850) H fun r851 H => ?_; refine L.buildSlice (e := eI) 3 ([r851] : List Int) underlying24 info3 rfl rfl rfl hF rfl rfl rfl rfl rfl rfl rfl rfl ?_; obtain ⟨h852, H⟩ := condG H; refine L.append (xs := v833) (ys := ([r851] : List Int)) (e := eI) 4 underlying24 info3 rfl rfl hF rfl rfl rfl rfl rfl rfl rfl rfl (fun _ => rfl) (fun _ _ h1 h2 => by cases h1; cases h2; rfl) ⟨_, underlying24⟩ (of_decide_eq_true h852) rfl rfl ?_; refine gn 1 ?_; exact ⟨_, ⟨k57, (v833 ++ ([r851] : List Int)), v834, v835, v836, v837, v838, v839, by omega, H, rfl⟩, lm [(0, 4), (1, 1)] hm⟩
           ·refine WpC.skip ?_; exact ⟨_, ⟨k57, v833, v834, v835, v836, v837, v838, v839, by omega, H, rfl⟩, lm [(0, 0), (1, 1)] hm⟩
         ·refine WpC.exit (WpC.regionL ?_); refine gn 2 ?_; exact ⟨k50, _, by omega, ⟨v833, v834, v836, (IntKind.i64.wrap (v837 + 1)), by omega, H, rfl⟩, lm [(0, 0), (1, 1)] hm⟩
       ·refine WpC.exit (sr ?_); refine mv ?_; obtain ⟨r853, hr853, H⟩ := bindS H; refine ca [true] [] [] 2 ent70 (g130 k50  v727 r853 hr853) ?_; refine gn 1 ?_; cases H; exact WpC.ret rt
/-! ### I_honest_1 -/
def I_honest_1 (k : Nat) (a0 : Int) (o0 : List Int) : Option Bool := (V_Contains_int k o0 a0).bind fun r1 => some r1
theorem ent116 : MG.Enters Tryz.prog 116 := en func116
theorem g116 (k : Nat) (a0 : Int) (o0 : List Int) (r : Bool) (H : I_honest_1 k a0 o0 = some r) : Gives Tryz.prog 116 [V.one (cI a0), V.one (Cell.ptr 0 0)] [[Cell.sl true (List.map eI o0)]] [V.one (cL r)] [[Cell.sl true (List.map eI o0)]] := by
 refine Gives.intro func116 rfl rfl rfl rfl ?_; refine fx fun w0 T S0 ob oh hm => ?_
 have hF := fxe w0 T S0 7 ob oh
 unfold I_honest_1 at H; obtain ⟨K, hK⟩ := leK k; refine sg 1 ?_; refine sy 2 ?_; refine cB 4 ent51 (g51 k true o0 a0) H fun r1 H => ?_; refine gn 1 ?_; cases H; exact WpC.ret rt
/-! ### V_IndexFunc_int__impl_honest_1 -/
def V_IndexFunc_int__impl_honest_1.l2 : Nat → (List Int) → Int → Int → (List Int) → Option (Int × List Int)
 | 0, _, _, _, _ => none
 | k2 + 1, v39, v40, v41, v42 => cond (decide (v41 < v40)) ((at? v39 v41).bind fun b45 => (I_honest_1 k2 b45 v42).bind fun r46 => cond r46 (some (v41, v42)) ((V_IndexFunc_int__impl_honest_1.l2 k2) v39 v40 (IntKind.i64.wrap (v41 + 1)) v42)) (some ((-1), v42))
def V_IndexFunc_int__impl_honest_1 (k : Nat) (a0 o0 : List Int) : Option (Int × List Int) := V_IndexFunc_int__impl_honest_1.l2 k a0 (a0.length : Int) 0 o0
theorem ent166 : MG.Enters Tryz.prog 166 := en func166
theorem g166 (k : Nat) (g0 : Bool) (a0 o0 : List Int) (r : Int × List Int) (H : V_IndexFunc_int__impl_honest_1 k a0 o0 = some r) : Gives Tryz.prog 166 [V.one (Cell.sl g0 (List.map eI a0)), V.one (Cell.clo 116 [Cell.ptr 0 0])] [[Cell.sl true (List.map eI o0)]] [V.one (cI r.1)] [[Cell.sl true (List.map eI r.2)]] := by
 refine Gives.intro func166 rfl rfl rfl rfl ?_; refine fx fun w0 T S0 ob oh hm => ?_
 have hF := fxe w0 T S0 19 ob oh
 unfold V_IndexFunc_int__impl_honest_1 at H; obtain ⟨K, hK⟩ := leK k; refine sg 1 ?_; refine WpC.seq (sr ?_); refine mv ?_; refine L.lenR (xs := a0) (e := eI) underlying24 hF rfl rfl rfl rfl ?_; refine gn 1 ?_; refine WpC.block ?_; refine WpC.loopL (P := Tryz.prog) (fun n σ => ∃ (v39 : List Int) (v40 v41 : Int) (v42 : List Int), n ≤ K ∧ V_IndexFunc_int__impl_honest_1.l2 n v39 v40 v41 v42 = some r ∧ σ = mkSt [(0, MG.one (Cell.sl g0 (List.map eI v39))), (1, MG.one (Cell.clo 116 [Cell.ptr 0 0])), (7, oI v40), (8, oI v41)] [] [(0, [Cell.sl true (List.map eI v42)])] 1) k ⟨_, ⟨a0, (a0.length : Int), 0, o0, by omega, H, rfl⟩, lm [(0, 0)] hm⟩ ?_; clear H
 rintro k2 _ ⟨v39, v40, v41, v42, hk2, H, rfl⟩
 cases k2 with
 | zero => cases H
 | succ k2 =>
  rw [V_IndexFunc_int__impl_honest_1.l2] at H
  refine sg 1 ?_; refine WpC.seq ?_; refine cd H (fun hc H => ?_) (fun hc H => ?_)
  ·refine WpC.skip (WpC.seq (WpC.block (sr ?_))); refine gn 2 ?_; refine sy 3 ?_; obtain ⟨b45, hb45, H⟩ := bindS H; refine ix underlying24 info3 hb45 ?_; refine le shape3 ?_; obtain ⟨r46, hr46, H⟩ := bindS H; refine ca [false] [] [0] 1 ent116 (g116 k2  b45 v42 r46 hr46) (L.nil ?_); refine cd H (fun hc H => ?_) (fun hc H => ?_)
   ·refine sg 2 ?_; cases H; exact WpC.ret rt
   ·refine WpC.skip (WpC.regionL ?_); refine gn 2 ?_; exact ⟨k2, _, by omega, ⟨v39, v40, (IntKind.i64.wrap (v41 + 1)), v42, by omega, H, rfl⟩, lm [(0, 0)] hm⟩
  ·refine WpC.exit (sr ?_); refine gn 1 ?_; cases H; exact WpC.ret rt
/-! ### V_ContainsFunc_int__impl_honest_1 -/
def V_ContainsFunc_int__impl_honest_1 (k : Nat) (a0 o0 : List Int) : Option (Bool × List Int) := (V_IndexFunc_int__impl_honest_1 k a0 o0).bind fun r1 => some ((decide (r1.1 ≥ 0)), r1.2)
theorem ent114 : MG.Enters Tryz.prog 114 := en func114
theorem g114 (k : Nat) (g0 : Bool) (a0 o0 : List Int) (r : Bool × List Int) (H : V_ContainsFunc_int__impl_honest_1 k a0 o0 = some r) : Gives Tryz.prog 114 [V.one (Cell.sl g0 (List.map eI a0)), V.one (Cell.clo 116 [Cell.ptr 0 0])] [[Cell.sl true (List.map eI o0)]] [V.one (cL r.1)] [[Cell.sl true (List.map eI r.2)]] := by
 refine Gives.intro func114 rfl rfl rfl rfl ?_; refine fx fun w0 T S0 ob oh hm => ?_
 have hF := fxe w0 T S0 9 ob oh
 unfold V_ContainsFunc_int__impl_honest_1 at H; obtain ⟨K, hK⟩ := leK k; refine sg 1 ?_; refine sy 2 ?_; obtain ⟨r1, hr1, H⟩ := bindS H; refine ca [false, false] [] [0] 4 ent166 (g166 k g0 a0 o0 r1 hr1) ?_; refine gn 2 ?_; cases H; exact WpC.ret rt
/-! ### I_honest -/
def I_honest (k : Nat) (a0 : T_World) (a1 : T_Accept) : Option Bool := (part? a0.Leaked 0 a1.Leaks).bind fun b1 => (I_Concerns k a0.Config a1).bind fun r2 => (V_ContainsFunc_int__impl_honest_1 k r2 b1).bind fun r3 => some (!r3.1)
theorem ent61 : MG.Enters Tryz.prog 61 := en func61
theorem g61 (k : Nat) (g0 g1 g2 g3 g4 g5 g6 g7 g8 g9 g10 g11 g12 g13 : Bool) (a0 : T_World) (a1 : T_Accept) (r : Bool) (H : I_honest k a0 a1 = some r) : Gives Tryz.prog 61 [V.agg (bT_World g0 g1 g2 g3 g4 g5 g6 g7 g8 g9 g10 g11 true a0), V.agg (bT_Accept g12 g13 a1)] [] [V.one (cL r)] [] := by
 refine Gives.intro func61 rfl rfl rfl rfl ?_; refine fx fun w0 T S0 ob oh hm => ?_
 have hF := fxe w0 T S0 18 ob oh
 unfold I_honest at H; obtain ⟨K, hK⟩ := leK k; refine sr ?_; refine bo 31 ?_; refine bo 32 ?_; refine gn 1 ?_; refine sy 4 ?_; obtain ⟨b1, hb1, H⟩ := bindS H; refine L.cutR (xs := a0.Leaked) (ys := b1) (e := eI) underlying24 info3 hF rfl rfl rfl rfl rfl hb1 (fun _ => rfl) ?_; refine alc 33 info24 ?_; refine gn 1 ?_; refine sy 3 ?_; refine cB 34 ent115 (g167 k g0 g1 g2 g3 g12 g13 a0.Config a1) H fun r2 H => ?_; refine L.makeFunc hF rfl rfl rfl ?_; obtain ⟨r3, hr3, H⟩ := bindS H; refine ca [false, false] [34] [33] 35 ent114 (g114 k false r2 b1 r3 hr3) ?_; refine gn 2 ?_; cases H; exact WpC.ret rt
/-! ### I_Authentic_1 -/
def I_Authentic_1 (k : Nat) (a0 : T_Accept) (a1 : List T_Event) : Option Bool := cond ((a1.length : Int) == 0) (some false) ((at? a1 0).bind fun b1 => (at? a1 (IntKind.i64.wrap ((a1.length : Int) - 1))).bind fun b2 => cond (b1.Kind == 1) (cond (b1.Client == a0.Client) (cond (b2.Service == a0.Server) (some (b2.Client == a0.Client)) (some false)) (some false)) (some false))
theorem ent206 : MG.Enters Tryz.prog 206 := en func206
theorem g206 (k : Nat) (g0 g1 g2 : Bool) (a0 : T_Accept) (a1 : List T_Event) (r : Bool) (H : I_Authentic_1 k a0 a1 = some r) : Gives Tryz.prog 206 [V.agg (bT_Accept g0 g1 a0), V.one (Cell.sl g2 (List.map eT_Event a1))] [] [V.one (cL r)] [] := by
 refine Gives.intro func206 rfl rfl rfl rfl ?_; refine fx fun w0 T S0 ob oh hm => ?_
 have hF := fxe w0 T S0 43 ob oh
 unfold I_Authentic_1 at H; obtain ⟨K, hK⟩ := leK k; refine sr ?_; refine bo 16 ?_; refine gn 1 ?_; refine WpC.seq (sr ?_); refine mv ?_; refine L.lenR (xs := a1) (e := eT_Event) underlying40 hF rfl rfl rfl rfl ?_; refine gn 1 ?_; refine cd H (fun hc H => ?_) (fun hc H => ?_)
 ·refine sg 1 ?_; cases H; exact WpC.ret rt
 ·refine WpC.skip (WpC.seq ?_); obtain ⟨b1, hb1, H⟩ := bindS H; obtain ⟨b2, hb2, H⟩ := bindS H
  apply ldT ⟨[e0 1 _, e0 2 _, ed 5 10 _, ed 6 11 _, ed 10 1 _, ed 11 2 _, ed 12 3 _, ed 13 4 _, ed 14 5 _, ed 15 6 _, ed 16 7 _, ed 17 8 _, ed 18 9 _], [], [e0 16 _, (17, [(12, some _), (10, some _)]), (18, [(13, some _), (11, some _)])], 19, []⟩ [(0, 6150), (1, 6148), (3, 6144), (0, 4480), (0, 4576), (16, 4544), (48, 4480), (120, 4352), (248, 4096), (0, 6144), (0, 6144), (1543, 4096), (4095, 0)] mixed ?L1 ?_
  case L1 =>
   repeat refine ls ?_
   apply lc 19 17 0 [11] [] [] ?h1_1 ?q1_1 ?_
   case h1_1 =>
    intro b; refine ix underlying40 info47 hb1 ?_; exact L.nil ⟨rfl, rfl, rfl, rfl⟩
   case' q1_1 => skip
   repeat refine ls ?_
   apply lc 19 17 0 [15] [] [] ?h1_5 ?q1_5 ?_
   case h1_5 =>
    intro b; refine L.lenR (xs := a1) (e := eT_Event) underlying40 hF rfl rfl rfl rfl ?_; exact L.nil ⟨rfl, rfl, rfl, rfl⟩
   case' q1_5 => skip
   repeat refine ls ?_
   apply lc 19 17 0 [17] [] [] ?h1_7 ?q1_7 ?_
   case h1_7 =>
    intro b; refine ix underlying40 info47 hb2 ?_; exact L.nil ⟨rfl, rfl, rfl, rfl⟩
   case' q1_7 => skip
   repeat refine ls ?_
   apply lc 19 17 1 [5] [] [17] ?h1_9 ?q1_9 ?_
   case h1_9 =>
    intro b; refine alc 19 info47 ?_; exact L.nil ⟨rfl, rfl, rfl, rfl⟩
   case' q1_9 => skip
   apply lc 19 18 1 [6] [] [18] ?h1_10 ?q1_10 ?_
   case h1_10 =>
    intro b; refine alc 19 info47 ?_; exact L.nil ⟨rfl, rfl, rfl, rfl⟩
   case' q1_10 => skip
   refine lb ?_; refine lb ?_; exact trivial
   all_goals exact lq
  refine sy 4 ?_; refine sH H (fun hc H => ?_) (fun hc H => ?_)
  ·refine go 7 ?_; refine sH H (fun hc H => ?_) (fun hc H => ?_)
   ·refine go 7 ?_; refine sH H (fun hc H => ?_) (fun hc H => ?_)
    ·refine gn 7 ?_; cases H; exact WpC.ret rt
    ·refine gn 7 ?_; cases H; exact WpC.ret rt
   ·refine gn 14 ?_; cases H; exact WpC.ret rt
  ·refine gn 21 ?_; cases H; exact WpC.ret rt
/-! ### I_eachHonest__impl_Authentic_1 -/
def I_eachHonest__impl_Authentic_1.j30 (cl27 : T_World → Int → Int → Option Bool) (k : Nat) (v987 : T_World) (v988 v989 : Int) : Option Bool := cl27 v987 v988 (IntKind.i64.wrap (v989 + 1))
def I_eachHonest__impl_Authentic_1.l32 (cl27 : T_World → Int → Int → Option Bool) : Nat → (List T_Event) → T_World → Int → Int → (List Int) → Int → Int → T_Accept → Option Bool
 | 0, _, _, _, _, _, _, _, _ => none
 | k32 + 1, v1061, v1062, v1063, v1064, v1065, v1066, v1067, v1068 => cond (decide (v1067 < v1066)) ((at? v1065 v1067).bind fun b1072 => (at? v1062.Log b1072).bind fun b1073 => cond (decide ((2 * (v1061.length + ([b1073] : List T_Event).length) + 192) * 88 ≤ 281474976710656)) ((I_eachHonest__impl_Authentic_1.l32 cl27 k32) (v1061 ++ ([b1073] : List T_Event)) v1062 v1063 v1064 v1065 v1066 (IntKind.i64.wrap (v1067 + 1)) v1068) none) ((I_honest k32 v1062 v1068).bind fun r1077 => cond r1077 ((I_Authentic_1 k32 v1068 v1061).bind fun r1078 => cond (!r1078) (some false) (I_eachHonest__impl_Authentic_1.j30 cl27 k32 v1062 v1063 v1064)) (I_eachHonest__impl_Authentic_1.j30 cl27 k32 v1062 v1063 v1064))
def I_eachHonest__impl_Authentic_1.l27 : Nat → T_World → Int → Int → Option Bool
 | 0, _, _, _ => none
 | k27 + 1, v895, v896, v897 => cond (decide (v897 < v896)) ((at? v895.Accepts v897).bind fun b990 => (I_Chain k27 v895.Log b990.Key).bind fun r1033 => I_eachHonest__impl_Authentic_1.l32 (I_eachHonest__impl_Authentic_1.l27 k27) k27 ([] : List T_Event) v895 v896 v897 r1033 (r1033.length : Int) 0 b990) (some true)
def I_eachHonest__impl_Authentic_1 (k : Nat) (a0 : T_World) : Option Bool := (I_WorldOk k a0).bind fun r2 => cond (!r2) (some false) (I_eachHonest__impl_Authentic_1.l27 k a0 (a0.Accepts.length : Int) 0)
theorem ent205 : MG.Enters Tryz.prog 205 := en func205
theorem g205 (k : Nat) (g0 g1 g2 g3 g4 g5 g6 g7 g8 g9 g10 : Bool) (a0 : T_World) (r : Bool) (H : I_eachHonest__impl_Authentic_1 k a0 = some r) : Gives Tryz.prog 205 [V.agg (bT_World g0 g1 g2 g3 g4 g5 g6 g7 g8 g9 g10 true true a0), V.one (Cell.clo 206 [])] [] [V.one (cL r)] [] := by
 refine Gives.intro func205 rfl rfl rfl rfl ?_; refine fx fun w0 T S0 ob oh hm => ?_
 have hF := fxe w0 T S0 51 ob oh
 unfold I_eachHonest__impl_Authentic_1 at H; obtain ⟨K, hK⟩ := leK k; refine sr ?_; refine bo 17 ?_; refine gn 1 ?_; refine WpC.seq (sr ?_); refine lp shape43 ?_; refine cB 18 ent60 (g60 k g0 g1 g2 g3 g4 g5 g6 g7 g8 g9 g10 true true a0) H fun r2 H => ?_; refine gn 1 ?_; refine cd H (fun hc H => ?_) (fun hc H => ?_)
 ·refine sg 1 ?_; cases H; exact WpC.ret rt
 ·refine WpC.skip (WpC.seq (sr ?_)); refine go 2 ?_; refine L.lenR (xs := a0.Accepts) (e := eT_Accept) underlying41 hF rfl rfl rfl rfl ?_; refine gn 1 ?_; refine WpC.block ?_; refine WpC.loopL (P := Tryz.prog) (fun n σ => ∃ (v895 : T_World) (v896 v897 : Int), n ≤ K ∧ I_eachHonest__impl_Authentic_1.l27 n v895 v896 v897 = some r ∧ σ = mkSt [(1, MG.one (Cell.clo 206 [])), (2, oP 0 0), (14, MG.one (Cell.sl true (List.map eT_Accept v895.Accepts))), (15, oI v896), (16, oI v897)] [] [(0, (bT_World g0 g1 g2 g3 g4 g5 g6 g7 g8 g9 g10 true true v895))] 1) k ⟨_, ⟨a0, (a0.Accepts.length : Int), 0, by omega, H, rfl⟩, lm [(0, 17)] hm⟩ ?_; clear H
  rintro k27 _ ⟨v895, v896, v897, hk27, H, rfl⟩
  cases k27 with
  | zero => cases H
  | succ k27 =>
   rw [I_eachHonest__impl_Authentic_1.l27] at H
   refine sg 1 ?_; refine WpC.seq ?_; refine cd H (fun hc H => ?_) (fun hc H => ?_)
   ·refine WpC.skip ?_; refine WpC.join (fun σ => ∃ (kj30 : Nat) (v987 : T_World) (v988 v989 : Int), kj30 ≤ K ∧ I_eachHonest__impl_Authentic_1.j30 (I_eachHonest__impl_Authentic_1.l27 k27) kj30 v987 v988 v989 = some r ∧ σ = mkSt [(1, MG.one (Cell.clo 206 [])), (2, oP 0 0), (14, MG.one (Cell.sl true (List.map eT_Accept v987.Accepts))), (15, oI v988), (16, oI v989)] [] [(0, (bT_World g0 g1 g2 g3 g4 g5 g6 g7 g8 g9 g10 true true v987))] 1) ?_ ?_
    ·rintro _ ⟨kj30, v987, v988, v989, hkj30, H, rfl⟩
     unfold I_eachHonest__impl_Authentic_1.j30 at H; refine WpC.regionL ?_; refine gn 2 ?_; exact ⟨k27, _, by omega, ⟨v987, v988, (IntKind.i64.wrap (v989 + 1)), by omega, H, rfl⟩, lm [(0, 0)] hm⟩
    ·refine WpC.block (sr ?_); obtain ⟨b990, hb990, H⟩ := bindS H; refine ix underlying41 info58 hb990 ?_; refine le shape58 ?_; refine alc 1 info58 ?_; refine gn 1 ?_; refine sr ?_; refine L.buildSlice (e := eT_Event) 2 ([] : List T_Event) underlying40 info47 rfl rfl rfl hF rfl rfl rfl rfl rfl rfl rfl rfl ?_; refine gn 1 ?_; refine WpC.seq (sr ?_); refine go 4 ?_; refine cB 3 ent22 (g22 k27 g10 v895.Log b990.Key) H fun r1033 H => ?_; refine L.lenR (xs := r1033) (e := eI) underlying24 hF rfl rfl rfl rfl ?_; refine gn 1 ?_; refine WpC.block ?_
     refine WpC.loopL (P := Tryz.prog) (fun n σ => ∃ (v1061 : List T_Event) (v1062 : T_World) (v1063 v1064 : Int) (v1065 : List Int) (v1066 v1067 : Int) (v1068 : T_Accept), n ≤ K ∧ I_eachHonest__impl_Authentic_1.l32 (I_eachHonest__impl_Authentic_1.l27 k27) n v1061 v1062 v1063 v1064 v1065 v1066 v1067 v1068 = some r ∧ σ = mkSt [(1, MG.one (Cell.clo 206 [])), (2, oP 0 0), (6, oP 1 0), (7, MG.one (Cell.own 2)), (14, MG.one (Cell.sl true (List.map eT_Accept v1062.Accepts))), (15, oI v1063), (16, oI v1064), (25, MG.one (Cell.own 3)), (26, oI v1066), (27, oI v1067)] [(2, ⟨11, List.map eT_Event v1061⟩), (3, ⟨1, List.map eI v1065⟩)] [(0, (bT_World g0 g1 g2 g3 g4 g5 g6 g7 g8 g9 g10 true true v1062)), (1, (bT_Accept true true v1068))] 4) k27 ⟨_, ⟨([] : List T_Event), v895, v896, v897, r1033, (r1033.length : Int), 0, b990, by omega, H, rfl⟩, lm [(0, 0), (1, 1), (2, 2), (3, 3)] hm⟩ ?_; clear H
     rintro k32 _ ⟨v1061, v1062, v1063, v1064, v1065, v1066, v1067, v1068, hk32, H, rfl⟩
     cases k32 with
     | zero => cases H
     | succ k32 =>
      rw [I_eachHonest__impl_Authentic_1.l32] at H
      refine sg 1 ?_; refine WpC.seq ?_; refine cd H (fun hc H => ?_) (fun hc H => ?_)
      ·refine WpC.skip (WpC.seq (WpC.block (sr ?_))); obtain ⟨b1072, hb1072, H⟩ := bindS H; refine ix underlying24 info3 hb1072 ?_; refine L.loadEp (xs := v1065) (e := eI) shape3 hF rfl rfl rfl rfl (at?_get hb1072).2 rfl rfl ?_; refine gn 1 ?_; refine WpC.regionL ?_; refine go 4 ?_; obtain ⟨b1073, hb1073, H⟩ := bindS H; refine ix underlying40 info47 hb1073 ?_; refine le shape47 ?_; refine L.buildSlice (e := eT_Event) 4 ([b1073] : List T_Event) underlying40 info47 rfl rfl rfl hF rfl rfl rfl rfl rfl rfl rfl rfl ?_; obtain ⟨h1074, H⟩ := condG H; refine L.append (xs := v1061) (ys := ([b1073] : List T_Event)) (e := eT_Event) 5 underlying40 info47 rfl rfl hF rfl rfl rfl rfl rfl rfl rfl rfl (fun _ => rfl) (fun _ _ h1 h2 => by cases h1; cases h2; rfl) ⟨_, underlying40⟩ (of_decide_eq_true h1074) rfl rfl ?_; refine gn 1 ?_; refine WpC.regionL ?_; refine gn 2 ?_; exact ⟨k32, _, by omega, ⟨(v1061 ++ ([b1073] : List T_Event)), v1062, v1063, v1064, v1065, v1066, (IntKind.i64.wrap (v1067 + 1)), v1068, by omega, H, rfl⟩, lm [(0, 0), (1, 1), (2, 5), (3, 3)] hm⟩
      ·refine WpC.exit (sr ?_); refine go 2 ?_; refine cB 4 ent61 (g61 k32 g0 g1 g2 g3 g4 g5 g6 g7 g8 g9 g10 true true true v1062 v1068) H fun r1077 H => ?_; refine mv ?_; refine sH H (fun hc H => ?_) (fun hc H => ?_)
       ·refine go 3 ?_; obtain ⟨r1078, hr1078, H⟩ := bindS H; refine ca [false, false] [2] [] 5 ent206 (g206 k32 true true false v1068 v1061 r1078 hr1078) ?_; refine gn 2 ?_; refine cd H (fun hc H => ?_) (fun hc H => ?_)
        ·refine sg 1 ?_; cases H; exact WpC.ret rt
        ·refine WpC.skip ?_; exact ⟨_, ⟨k32, v1062, v1063, v1064, by omega, H, rfl⟩, lm [(0, 0)] hm⟩
       ·refine gn 6 ?_; refine cF ?_; refine WpC.skip ?_; exact ⟨_, ⟨k32, v1062, v1063, v1064, by omega, H, rfl⟩, lm [(0, 0)] hm⟩
   ·refine WpC.exit (sr ?_); refine gn 1 ?_; cases H; exact WpC.ret rt
/-! ### I_Authentic -/
def I_Authentic (k : Nat) (a0 : T_World) : Option Bool := (I_eachHonest__impl_Authentic_1 k a0).bind fun r1 => some r1
theorem ent176 : MG.Enters Tryz.prog 176 := en func176
theorem I_Authentic_t (k : Nat) (a0 : T_World) (r : Bool) (H : I_Authentic k a0 = some r) : Gives Tryz.prog 176 [V.agg (bT_World true true true true true true true true true true true true true a0)] [] [V.one (cL r)] [] := by
 refine Gives.intro func176 rfl rfl rfl rfl ?_; refine fx fun w0 T S0 ob oh hm => ?_
 have hF := fxe w0 T S0 5 ob oh
 unfold I_Authentic at H; obtain ⟨K, hK⟩ := leK k; refine sr ?_; refine bo 16 ?_; refine gn 1 ?_; refine sy 1 ?_; refine cB 17 ent205 (g205 k true true true true true true true true true true true a0) H fun r1 H => ?_; refine gn 1 ?_; cases H; exact WpC.ret rt
theorem g176 (k : Nat) (l0 l1 l2 l3 l4 l5 l6 l7 l8 l9 l10 l11 l12 : Bool) (a0 : T_World) (r : Bool) (H : I_Authentic k a0 = some r) : Gives Tryz.prog 176 [V.agg (bT_World l0 l1 l2 l3 l4 l5 l6 l7 l8 l9 l10 l11 l12 a0)] [] [V.one (cL r)] [] :=
 Gives.lend (I_Authentic_t k a0 r H) rfl rfl (by simp [V.solid, Cell.solid, csolid, rsolid, rsolid_map, eI, cI, cL, cS, im])
/-! ### I_Entails -/
def I_Entails (k : Nat) (a0 a1 : T_Rest) : Option Bool := (I_RestOk k a0).bind fun r3 => cond r3 ((I_RestOk k a1).bind fun r4 => cond r4 (cond ((Go.bits .and .i64 a0.Servers a1.Servers) == a0.Servers) (cond ((Go.bits .and .i64 a0.Ops a1.Ops) == a0.Ops) (some (decide (a0.End ≤ a1.End))) (some false)) (some false)) (some false)) (some false)
theorem ent210 : MG.Enters Tryz.prog 210 := en func210
theorem g210 (k : Nat) (a0 a1 : T_Rest) (r : Bool) (H : I_Entails k a0 a1 = some r) : Gives Tryz.prog 210 [V.agg (bT_Rest a0), V.agg (bT_Rest a1)] [] [V.one (cL r)] [] := by
 refine Gives.intro func210 rfl rfl rfl rfl ?_; refine fx fun w0 T S0 ob oh hm => ?_
 have hF := fxe w0 T S0 38 ob oh
 unfold I_Entails at H; obtain ⟨K, hK⟩ := leK k; refine sr ?_; refine bo 6 ?_; refine bo 7 ?_; refine gn 1 ?_; refine sy 1 ?_; refine cB 8 ent56 (g56 k  a0) H fun r3 H => ?_; refine mv ?_; refine sH H (fun hc H => ?_) (fun hc H => ?_)
 ·refine lp shape29 ?_; refine cB 9 ent56 (g56 k  a1) H fun r4 H => ?_; refine go 2 ?_; refine sH H (fun hc H => ?_) (fun hc H => ?_)
  ·refine go 10 ?_; refine sH H (fun hc H => ?_) (fun hc H => ?_)
   ·refine go 10 ?_; refine sH H (fun hc H => ?_) (fun hc H => ?_)
    ·refine gn 7 ?_; cases H; exact WpC.ret rt
    ·refine gn 7 ?_; cases H; exact WpC.ret rt
   ·refine gn 17 ?_; cases H; exact WpC.ret rt
  ·refine gn 27 ?_; cases H; exact WpC.ret rt
 ·refine gn 31 ?_; cases H; exact WpC.ret rt
/-! ### I_Narrow_1_1 -/
def I_Narrow_1_1 (k : Nat) (a0 : T_Event) (o0 : T_Accept) : Option Bool := (I_Entails k o0.Rest a0.Rest).bind fun r3 => cond (!r3) (some true) ((I_Permits k a0.Rest o0.Server o0.Op o0.Now).bind fun r4 => some (!r4))
theorem ent209 : MG.Enters Tryz.prog 209 := en func209
theorem g209 (k : Nat) (a0 : T_Event) (o0 : T_Accept) (r : Bool) (H : I_Narrow_1_1 k a0 o0 = some r) : Gives Tryz.prog 209 [V.agg (bT_Event a0), V.one (Cell.ptr 0 0)] [[cI o0.Server, cI o0.Client, cI o0.Key, cI o0.Op, cI o0.Now, cI o0.Auth.Client, cI o0.Auth.Time, cI o0.Auth.Seq, cI o0.Rest.Servers, cI o0.Rest.Ops, cI o0.Rest.End, Cell.sl true (List.map eI o0.Path), Cell.sl true (List.map eI o0.Via), cI o0.Leaks, cS o0.Ticket]] [V.one (cL r)] [[cI o0.Server, cI o0.Client, cI o0.Key, cI o0.Op, cI o0.Now, cI o0.Auth.Client, cI o0.Auth.Time, cI o0.Auth.Seq, cI o0.Rest.Servers, cI o0.Rest.Ops, cI o0.Rest.End, Cell.sl true (List.map eI o0.Path), Cell.sl true (List.map eI o0.Via), cI o0.Leaks, cS o0.Ticket]] := by
 refine Gives.intro func209 rfl rfl rfl rfl ?_; refine fx fun w0 T S0 ob oh hm => ?_
 have hF := fxe w0 T S0 22 ob oh
 unfold I_Narrow_1_1 at H; obtain ⟨K, hK⟩ := leK k; refine sr ?_; refine bo 28 ?_; refine gn 1 ?_; refine sy 4 ?_; refine cB 29 ent210 (g210 k  o0.Rest a0.Rest) H fun r3 H => ?_; refine go 2 ?_; refine sH H (fun hc H => ?_) (fun hc H => ?_)
 ·refine gn 12 ?_; cases H; exact WpC.ret rt
 ·refine go 8 ?_; refine cB 30 ent211 (g211 k  a0.Rest o0.Server o0.Op o0.Now) H fun r4 H => ?_; refine gn 3 ?_; cases H; exact WpC.ret rt
/-! ### V_IndexFunc_Event__impl_Narrow_1_1 -/
def V_IndexFunc_Event__impl_Narrow_1_1.l2 : Nat → (List T_Event) → Int → Int → T_Accept → Option (Int × T_Accept)
 | 0, _, _, _, _ => none
 | k2 + 1, v39, v40, v41, v42 => cond (decide (v41 < v40)) ((at? v39 v41).bind fun b45 => (I_Narrow_1_1 k2 b45 v42).bind fun r46 => cond r46 (some (v41, v42)) ((V_IndexFunc_Event__impl_Narrow_1_1.l2 k2) v39 v40 (IntKind.i64.wrap (v41 + 1)) v42)) (some ((-1), v42))
def V_IndexFunc_Event__impl_Narrow_1_1 (k : Nat) (a0 : List T_Event) (o0 : T_Accept) : Option (Int × T_Accept) := V_IndexFunc_Event__impl_Narrow_1_1.l2 k a0 (a0.length : Int) 0 o0
theorem V_IndexFunc_Event__impl_Narrow_1_1_gives (k : Nat) (g0 : Bool) (a0 : List T_Event) (o0 : T_Accept) (r : Int × T_Accept) (H : V_IndexFunc_Event__impl_Narrow_1_1 k a0 o0 = some r) : Gives Tryz.prog 44 [V.one (Cell.sl g0 (List.map eT_Event a0)), V.one (Cell.clo 209 [Cell.ptr 0 0])] [[cI o0.Server, cI o0.Client, cI o0.Key, cI o0.Op, cI o0.Now, cI o0.Auth.Client, cI o0.Auth.Time, cI o0.Auth.Seq, cI o0.Rest.Servers, cI o0.Rest.Ops, cI o0.Rest.End, Cell.sl true (List.map eI o0.Path), Cell.sl true (List.map eI o0.Via), cI o0.Leaks, cS o0.Ticket]] [V.one (cI r.1)] [[cI r.2.Server, cI r.2.Client, cI r.2.Key, cI r.2.Op, cI r.2.Now, cI r.2.Auth.Client, cI r.2.Auth.Time, cI r.2.Auth.Seq, cI r.2.Rest.Servers, cI r.2.Rest.Ops, cI r.2.Rest.End, Cell.sl true (List.map eI r.2.Path), Cell.sl true (List.map eI r.2.Via), cI r.2.Leaks, cS r.2.Ticket]] := by
 refine Gives.intro func44 rfl rfl rfl rfl ?_; refine fx fun w0 T S0 ob oh hm => ?_
 have hF := fxe w0 T S0 19 ob oh
 unfold V_IndexFunc_Event__impl_Narrow_1_1 at H; obtain ⟨K, hK⟩ := leK k; refine sg 1 ?_; refine WpC.seq (sr ?_); refine mv ?_; refine L.lenR (xs := a0) (e := eT_Event) underlying40 hF rfl rfl rfl rfl ?_; refine gn 1 ?_; refine WpC.block ?_; refine WpC.loopL (P := Tryz.prog) (fun n σ => ∃ (v39 : List T_Event) (v40 v41 : Int) (v42 : T_Accept), n ≤ K ∧ V_IndexFunc_Event__impl_Narrow_1_1.l2 n v39 v40 v41 v42 = some r ∧ σ = mkSt [(0, MG.one (Cell.sl g0 (List.map eT_Event v39))), (1, MG.one (Cell.clo 209 [Cell.ptr 0 0])), (7, oI v40), (8, oI v41)] [] [(0, (bT_Accept true true v42))] 1) k ⟨_, ⟨a0, (a0.length : Int), 0, o0, by omega, H, rfl⟩, lm [(0, 0)] hm⟩ ?_; clear H
 rintro k2 _ ⟨v39, v40, v41, v42, hk2, H, rfl⟩
 cases k2 with
 | zero => cases H
 | succ k2 =>
  rw [V_IndexFunc_Event__impl_Narrow_1_1.l2] at H
  refine sg 1 ?_; refine WpC.seq ?_; refine cd H (fun hc H => ?_) (fun hc H => ?_)
  ·refine WpC.skip (WpC.seq (WpC.block (sr ?_))); refine gn 2 ?_; refine sy 3 ?_; obtain ⟨b45, hb45, H⟩ := bindS H; refine ix underlying40 info47 hb45 ?_; refine le shape47 ?_; obtain ⟨r46, hr46, H⟩ := bindS H; refine ca [false] [] [0] 1 ent209 (g209 k2  b45 v42 r46 hr46) (L.nil ?_); refine cd H (fun hc H => ?_) (fun hc H => ?_)
   ·refine sg 2 ?_; cases H; exact WpC.ret rt
   ·refine WpC.skip (WpC.regionL ?_); refine gn 2 ?_; exact ⟨k2, _, by omega, ⟨v39, v40, (IntKind.i64.wrap (v41 + 1)), v42, by omega, H, rfl⟩, lm [(0, 0)] hm⟩
  ·refine WpC.exit (sr ?_); refine gn 1 ?_; cases H; exact WpC.ret rt
/-! ### V_ContainsFunc_Event__impl_Narrow_1_1 -/
def V_ContainsFunc_Event__impl_Narrow_1_1 (k : Nat) (a0 : List T_Event) (o0 : T_Accept) : Option (Bool × T_Accept) := (V_IndexFunc_Event__impl_Narrow_1_1 k a0 o0).bind fun r1 => some ((decide (r1.1 ≥ 0)), r1.2)
theorem ent208 : MG.Enters Tryz.prog 208 := en func208
theorem g208 (k : Nat) (g0 : Bool) (a0 : List T_Event) (o0 : T_Accept) (r : Bool × T_Accept) (H : V_ContainsFunc_Event__impl_Narrow_1_1 k a0 o0 = some r) : Gives Tryz.prog 208 [V.one (Cell.sl g0 (List.map eT_Event a0)), V.one (Cell.clo 209 [Cell.ptr 0 0])] [[cI o0.Server, cI o0.Client, cI o0.Key, cI o0.Op, cI o0.Now, cI o0.Auth.Client, cI o0.Auth.Time, cI o0.Auth.Seq, cI o0.Rest.Servers, cI o0.Rest.Ops, cI o0.Rest.End, Cell.sl true (List.map eI o0.Path), Cell.sl true (List.map eI o0.Via), cI o0.Leaks, cS o0.Ticket]] [V.one (cL r.1)] [[cI r.2.Server, cI r.2.Client, cI r.2.Key, cI r.2.Op, cI r.2.Now, cI r.2.Auth.Client, cI r.2.Auth.Time, cI r.2.Auth.Seq, cI r.2.Rest.Servers, cI r.2.Rest.Ops, cI r.2.Rest.End, Cell.sl true (List.map eI r.2.Path), Cell.sl true (List.map eI r.2.Via), cI r.2.Leaks, cS r.2.Ticket]] := by
 refine Gives.intro func208 rfl rfl rfl rfl ?_; refine fx fun w0 T S0 ob oh hm => ?_
 have hF := fxe w0 T S0 9 ob oh
 unfold V_ContainsFunc_Event__impl_Narrow_1_1 at H; obtain ⟨K, hK⟩ := leK k; refine sg 1 ?_; refine sy 2 ?_; obtain ⟨r1, hr1, H⟩ := bindS H; refine ca [false, false] [] [0] 18 ent44 (V_IndexFunc_Event__impl_Narrow_1_1_gives k g0 a0 o0 r1 hr1) ?_; refine gn 2 ?_; cases H; exact WpC.ret rt
/-! ### I_Narrow_1 -/
def I_Narrow_1 (k : Nat) (a0 : T_Accept) (a1 : List T_Event) : Option Bool := (V_ContainsFunc_Event__impl_Narrow_1_1 k a1 a0).bind fun r1 => some (!r1.1)
theorem ent207 : MG.Enters Tryz.prog 207 := en func207
theorem g207 (k : Nat) (g0 : Bool) (a0 : T_Accept) (a1 : List T_Event) (r : Bool) (H : I_Narrow_1 k a0 a1 = some r) : Gives Tryz.prog 207 [V.agg (bT_Accept true true a0), V.one (Cell.sl g0 (List.map eT_Event a1))] [] [V.one (cL r)] [] := by
 refine Gives.intro func207 rfl rfl rfl rfl ?_; refine fx fun w0 T S0 ob oh hm => ?_
 have hF := fxe w0 T S0 9 ob oh
 unfold I_Narrow_1 at H; obtain ⟨K, hK⟩ := leK k; refine sr ?_; refine bo 16 ?_; refine gn 1 ?_; refine sy 1 ?_; refine L.makeFunc hF rfl rfl rfl ?_; obtain ⟨r1, hr1, H⟩ := bindS H; refine ca [false, false] [] [16] 17 ent208 (g208 k g0 a1 a0 r1 hr1) ?_; refine gn 2 ?_; cases H; exact WpC.ret rt
/-! ### I_eachHonest__impl_Narrow_1 -/
def I_eachHonest__impl_Narrow_1.j30 (cl27 : T_World → Int → Int → Option Bool) (k : Nat) (v987 : T_World) (v988 v989 : Int) : Option Bool := cl27 v987 v988 (IntKind.i64.wrap (v989 + 1))
def I_eachHonest__impl_Narrow_1.l32 (cl27 : T_World → Int → Int → Option Bool) : Nat → (List T_Event) → T_World → Int → Int → (List Int) → Int → Int → T_Accept → Option Bool
 | 0, _, _, _, _, _, _, _, _ => none
 | k32 + 1, v1061, v1062, v1063, v1064, v1065, v1066, v1067, v1068 => cond (decide (v1067 < v1066)) ((at? v1065 v1067).bind fun b1072 => (at? v1062.Log b1072).bind fun b1073 => cond (decide ((2 * (v1061.length + ([b1073] : List T_Event).length) + 192) * 88 ≤ 281474976710656)) ((I_eachHonest__impl_Narrow_1.l32 cl27 k32) (v1061 ++ ([b1073] : List T_Event)) v1062 v1063 v1064 v1065 v1066 (IntKind.i64.wrap (v1067 + 1)) v1068) none) ((I_honest k32 v1062 v1068).bind fun r1077 => cond r1077 ((I_Narrow_1 k32 v1068 v1061).bind fun r1078 => cond (!r1078) (some false) (I_eachHonest__impl_Narrow_1.j30 cl27 k32 v1062 v1063 v1064)) (I_eachHonest__impl_Narrow_1.j30 cl27 k32 v1062 v1063 v1064))
def I_eachHonest__impl_Narrow_1.l27 : Nat → T_World → Int → Int → Option Bool
 | 0, _, _, _ => none
 | k27 + 1, v895, v896, v897 => cond (decide (v897 < v896)) ((at? v895.Accepts v897).bind fun b990 => (I_Chain k27 v895.Log b990.Key).bind fun r1033 => I_eachHonest__impl_Narrow_1.l32 (I_eachHonest__impl_Narrow_1.l27 k27) k27 ([] : List T_Event) v895 v896 v897 r1033 (r1033.length : Int) 0 b990) (some true)
def I_eachHonest__impl_Narrow_1 (k : Nat) (a0 : T_World) : Option Bool := (I_WorldOk k a0).bind fun r2 => cond (!r2) (some false) (I_eachHonest__impl_Narrow_1.l27 k a0 (a0.Accepts.length : Int) 0)
theorem I_eachHonest__impl_Narrow_1_gives (k : Nat) (g0 g1 g2 g3 g4 g5 g6 g7 g8 g9 g10 : Bool) (a0 : T_World) (r : Bool) (H : I_eachHonest__impl_Narrow_1 k a0 = some r) : Gives Tryz.prog 205 [V.agg (bT_World g0 g1 g2 g3 g4 g5 g6 g7 g8 g9 g10 true true a0), V.one (Cell.clo 207 [])] [] [V.one (cL r)] [] := by
 refine Gives.intro func205 rfl rfl rfl rfl ?_; refine fx fun w0 T S0 ob oh hm => ?_
 have hF := fxe w0 T S0 51 ob oh
 unfold I_eachHonest__impl_Narrow_1 at H; obtain ⟨K, hK⟩ := leK k; refine sr ?_; refine bo 17 ?_; refine gn 1 ?_; refine WpC.seq (sr ?_); refine lp shape43 ?_; refine cB 18 ent60 (g60 k g0 g1 g2 g3 g4 g5 g6 g7 g8 g9 g10 true true a0) H fun r2 H => ?_; refine gn 1 ?_; refine cd H (fun hc H => ?_) (fun hc H => ?_)
 ·refine sg 1 ?_; cases H; exact WpC.ret rt
 ·refine WpC.skip (WpC.seq (sr ?_)); refine go 2 ?_; refine L.lenR (xs := a0.Accepts) (e := eT_Accept) underlying41 hF rfl rfl rfl rfl ?_; refine gn 1 ?_; refine WpC.block ?_; refine WpC.loopL (P := Tryz.prog) (fun n σ => ∃ (v895 : T_World) (v896 v897 : Int), n ≤ K ∧ I_eachHonest__impl_Narrow_1.l27 n v895 v896 v897 = some r ∧ σ = mkSt [(1, MG.one (Cell.clo 207 [])), (2, oP 0 0), (14, MG.one (Cell.sl true (List.map eT_Accept v895.Accepts))), (15, oI v896), (16, oI v897)] [] [(0, (bT_World g0 g1 g2 g3 g4 g5 g6 g7 g8 g9 g10 true true v895))] 1) k ⟨_, ⟨a0, (a0.Accepts.length : Int), 0, by omega, H, rfl⟩, lm [(0, 17)] hm⟩ ?_; clear H
  rintro k27 _ ⟨v895, v896, v897, hk27, H, rfl⟩
  cases k27 with
  | zero => cases H
  | succ k27 =>
   rw [I_eachHonest__impl_Narrow_1.l27] at H
   refine sg 1 ?_; refine WpC.seq ?_; refine cd H (fun hc H => ?_) (fun hc H => ?_)
   ·refine WpC.skip ?_; refine WpC.join (fun σ => ∃ (kj30 : Nat) (v987 : T_World) (v988 v989 : Int), kj30 ≤ K ∧ I_eachHonest__impl_Narrow_1.j30 (I_eachHonest__impl_Narrow_1.l27 k27) kj30 v987 v988 v989 = some r ∧ σ = mkSt [(1, MG.one (Cell.clo 207 [])), (2, oP 0 0), (14, MG.one (Cell.sl true (List.map eT_Accept v987.Accepts))), (15, oI v988), (16, oI v989)] [] [(0, (bT_World g0 g1 g2 g3 g4 g5 g6 g7 g8 g9 g10 true true v987))] 1) ?_ ?_
    ·rintro _ ⟨kj30, v987, v988, v989, hkj30, H, rfl⟩
     unfold I_eachHonest__impl_Narrow_1.j30 at H; refine WpC.regionL ?_; refine gn 2 ?_; exact ⟨k27, _, by omega, ⟨v987, v988, (IntKind.i64.wrap (v989 + 1)), by omega, H, rfl⟩, lm [(0, 0)] hm⟩
    ·refine WpC.block (sr ?_); obtain ⟨b990, hb990, H⟩ := bindS H; refine ix underlying41 info58 hb990 ?_; refine le shape58 ?_; refine alc 1 info58 ?_; refine gn 1 ?_; refine sr ?_; refine L.buildSlice (e := eT_Event) 2 ([] : List T_Event) underlying40 info47 rfl rfl rfl hF rfl rfl rfl rfl rfl rfl rfl rfl ?_; refine gn 1 ?_; refine WpC.seq (sr ?_); refine go 4 ?_; refine cB 3 ent22 (g22 k27 g10 v895.Log b990.Key) H fun r1033 H => ?_; refine L.lenR (xs := r1033) (e := eI) underlying24 hF rfl rfl rfl rfl ?_; refine gn 1 ?_; refine WpC.block ?_
     refine WpC.loopL (P := Tryz.prog) (fun n σ => ∃ (v1061 : List T_Event) (v1062 : T_World) (v1063 v1064 : Int) (v1065 : List Int) (v1066 v1067 : Int) (v1068 : T_Accept), n ≤ K ∧ I_eachHonest__impl_Narrow_1.l32 (I_eachHonest__impl_Narrow_1.l27 k27) n v1061 v1062 v1063 v1064 v1065 v1066 v1067 v1068 = some r ∧ σ = mkSt [(1, MG.one (Cell.clo 207 [])), (2, oP 0 0), (6, oP 1 0), (7, MG.one (Cell.own 2)), (14, MG.one (Cell.sl true (List.map eT_Accept v1062.Accepts))), (15, oI v1063), (16, oI v1064), (25, MG.one (Cell.own 3)), (26, oI v1066), (27, oI v1067)] [(2, ⟨11, List.map eT_Event v1061⟩), (3, ⟨1, List.map eI v1065⟩)] [(0, (bT_World g0 g1 g2 g3 g4 g5 g6 g7 g8 g9 g10 true true v1062)), (1, (bT_Accept true true v1068))] 4) k27 ⟨_, ⟨([] : List T_Event), v895, v896, v897, r1033, (r1033.length : Int), 0, b990, by omega, H, rfl⟩, lm [(0, 0), (1, 1), (2, 2), (3, 3)] hm⟩ ?_; clear H
     rintro k32 _ ⟨v1061, v1062, v1063, v1064, v1065, v1066, v1067, v1068, hk32, H, rfl⟩
     cases k32 with
     | zero => cases H
     | succ k32 =>
      rw [I_eachHonest__impl_Narrow_1.l32] at H
      refine sg 1 ?_; refine WpC.seq ?_; refine cd H (fun hc H => ?_) (fun hc H => ?_)
      ·refine WpC.skip (WpC.seq (WpC.block (sr ?_))); obtain ⟨b1072, hb1072, H⟩ := bindS H; refine ix underlying24 info3 hb1072 ?_; refine L.loadEp (xs := v1065) (e := eI) shape3 hF rfl rfl rfl rfl (at?_get hb1072).2 rfl rfl ?_; refine gn 1 ?_; refine WpC.regionL ?_; refine go 4 ?_; obtain ⟨b1073, hb1073, H⟩ := bindS H; refine ix underlying40 info47 hb1073 ?_; refine le shape47 ?_; refine L.buildSlice (e := eT_Event) 4 ([b1073] : List T_Event) underlying40 info47 rfl rfl rfl hF rfl rfl rfl rfl rfl rfl rfl rfl ?_; obtain ⟨h1074, H⟩ := condG H; refine L.append (xs := v1061) (ys := ([b1073] : List T_Event)) (e := eT_Event) 5 underlying40 info47 rfl rfl hF rfl rfl rfl rfl rfl rfl rfl rfl (fun _ => rfl) (fun _ _ h1 h2 => by cases h1; cases h2; rfl) ⟨_, underlying40⟩ (of_decide_eq_true h1074) rfl rfl ?_; refine gn 1 ?_; refine WpC.regionL ?_; refine gn 2 ?_; exact ⟨k32, _, by omega, ⟨(v1061 ++ ([b1073] : List T_Event)), v1062, v1063, v1064, v1065, v1066, (IntKind.i64.wrap (v1067 + 1)), v1068, by omega, H, rfl⟩, lm [(0, 0), (1, 1), (2, 5), (3, 3)] hm⟩
      ·refine WpC.exit (sr ?_); refine go 2 ?_; refine cB 4 ent61 (g61 k32 g0 g1 g2 g3 g4 g5 g6 g7 g8 g9 g10 true true true v1062 v1068) H fun r1077 H => ?_; refine mv ?_; refine sH H (fun hc H => ?_) (fun hc H => ?_)
       ·refine go 3 ?_; obtain ⟨r1078, hr1078, H⟩ := bindS H; refine ca [false, false] [2] [] 5 ent207 (g207 k32 false v1068 v1061 r1078 hr1078) ?_; refine gn 2 ?_; refine cd H (fun hc H => ?_) (fun hc H => ?_)
        ·refine sg 1 ?_; cases H; exact WpC.ret rt
        ·refine WpC.skip ?_; exact ⟨_, ⟨k32, v1062, v1063, v1064, by omega, H, rfl⟩, lm [(0, 0)] hm⟩
       ·refine gn 6 ?_; refine cF ?_; refine WpC.skip ?_; exact ⟨_, ⟨k32, v1062, v1063, v1064, by omega, H, rfl⟩, lm [(0, 0)] hm⟩
   ·refine WpC.exit (sr ?_); refine gn 1 ?_; cases H; exact WpC.ret rt
/-! ### I_Narrow -/
def I_Narrow (k : Nat) (a0 : T_World) : Option Bool := (I_eachHonest__impl_Narrow_1 k a0).bind fun r1 => some r1
theorem ent177 : MG.Enters Tryz.prog 177 := en func177
theorem I_Narrow_t (k : Nat) (a0 : T_World) (r : Bool) (H : I_Narrow k a0 = some r) : Gives Tryz.prog 177 [V.agg (bT_World true true true true true true true true true true true true true a0)] [] [V.one (cL r)] [] := by
 refine Gives.intro func177 rfl rfl rfl rfl ?_; refine fx fun w0 T S0 ob oh hm => ?_
 have hF := fxe w0 T S0 5 ob oh
 unfold I_Narrow at H; obtain ⟨K, hK⟩ := leK k; refine sr ?_; refine bo 16 ?_; refine gn 1 ?_; refine sy 1 ?_; refine cB 17 ent205 (I_eachHonest__impl_Narrow_1_gives k true true true true true true true true true true true a0) H fun r1 H => ?_; refine gn 1 ?_; cases H; exact WpC.ret rt
theorem g177 (k : Nat) (l0 l1 l2 l3 l4 l5 l6 l7 l8 l9 l10 l11 l12 : Bool) (a0 : T_World) (r : Bool) (H : I_Narrow k a0 = some r) : Gives Tryz.prog 177 [V.agg (bT_World l0 l1 l2 l3 l4 l5 l6 l7 l8 l9 l10 l11 l12 a0)] [] [V.one (cL r)] [] :=
 Gives.lend (I_Narrow_t k a0 r H) rfl rfl (by simp [V.solid, Cell.solid, csolid, rsolid, rsolid_map, eI, cI, cL, cS, im])
/-! ### I_Once_1 -/
def I_Once_1 (k : Nat) (a0 o0 : T_Accept) : Option Bool := cond (o0.Server == a0.Server) (some ((o0.Auth.Client == a0.Auth.Client) && ((o0.Auth.Time == a0.Auth.Time) && ((o0.Auth.Seq == a0.Auth.Seq) && true)))) (some false)
theorem ent213 : MG.Enters Tryz.prog 213 := en func213
theorem g213 (k : Nat) (g0 g1 : Bool) (a0 o0 : T_Accept) (r : Bool) (H : I_Once_1 k a0 o0 = some r) : Gives Tryz.prog 213 [V.agg (bT_Accept g0 g1 a0), V.one (Cell.ptr 0 0)] [[cI o0.Server, cI o0.Client, cI o0.Key, cI o0.Op, cI o0.Now, cI o0.Auth.Client, cI o0.Auth.Time, cI o0.Auth.Seq, cI o0.Rest.Servers, cI o0.Rest.Ops, cI o0.Rest.End, Cell.sl true (List.map eI o0.Path), Cell.sl true (List.map eI o0.Via), cI o0.Leaks, cS o0.Ticket]] [V.one (cL r)] [[cI o0.Server, cI o0.Client, cI o0.Key, cI o0.Op, cI o0.Now, cI o0.Auth.Client, cI o0.Auth.Time, cI o0.Auth.Seq, cI o0.Rest.Servers, cI o0.Rest.Ops, cI o0.Rest.End, Cell.sl true (List.map eI o0.Path), Cell.sl true (List.map eI o0.Via), cI o0.Leaks, cS o0.Ticket]] := by
 refine Gives.intro func213 rfl rfl rfl rfl ?_; refine fx fun w0 T S0 ob oh hm => ?_
 have hF := fxe w0 T S0 16 ob oh
 unfold I_Once_1 at H; obtain ⟨K, hK⟩ := leK k; refine sr ?_; refine bo 32 ?_; refine gn 1 ?_; refine sy 6 ?_; refine sH H (fun hc H => ?_) (fun hc H => ?_)
 ·refine go 4 ?_; refine L.eqA (r := ((o0.Auth.Client == a0.Auth.Client) && ((o0.Auth.Time == a0.Auth.Time) && ((o0.Auth.Seq == a0.Auth.Seq) && true)))) hF rfl rfl rfl rfl rfl rfl (by kernel_rfl) (by kernel_rfl) ?_; refine gn 2 ?_; cases H; exact WpC.ret rt
 ·refine gn 7 ?_; cases H; exact WpC.ret rt
/-! ### V_IndexFunc_Accept__impl_Once_1 -/
def V_IndexFunc_Accept__impl_Once_1.l2 : Nat → (List T_Accept) → Int → Int → T_Accept → Option (Int × T_Accept)
 | 0, _, _, _, _ => none
 | k2 + 1, v39, v40, v41, v42 => cond (decide (v41 < v40)) ((at? v39 v41).bind fun b45 => (I_Once_1 k2 b45 v42).bind fun r46 => cond r46 (some (v41, v42)) ((V_IndexFunc_Accept__impl_Once_1.l2 k2) v39 v40 (IntKind.i64.wrap (v41 + 1)) v42)) (some ((-1), v42))
def V_IndexFunc_Accept__impl_Once_1 (k : Nat) (a0 : List T_Accept) (o0 : T_Accept) : Option (Int × T_Accept) := V_IndexFunc_Accept__impl_Once_1.l2 k a0 (a0.length : Int) 0 o0
theorem ent234 : MG.Enters Tryz.prog 234 := en func234
theorem g234 (k : Nat) (g0 : Bool) (a0 : List T_Accept) (o0 : T_Accept) (r : Int × T_Accept) (H : V_IndexFunc_Accept__impl_Once_1 k a0 o0 = some r) : Gives Tryz.prog 234 [V.one (Cell.sl g0 (List.map eT_Accept a0)), V.one (Cell.clo 213 [Cell.ptr 0 0])] [[cI o0.Server, cI o0.Client, cI o0.Key, cI o0.Op, cI o0.Now, cI o0.Auth.Client, cI o0.Auth.Time, cI o0.Auth.Seq, cI o0.Rest.Servers, cI o0.Rest.Ops, cI o0.Rest.End, Cell.sl true (List.map eI o0.Path), Cell.sl true (List.map eI o0.Via), cI o0.Leaks, cS o0.Ticket]] [V.one (cI r.1)] [[cI r.2.Server, cI r.2.Client, cI r.2.Key, cI r.2.Op, cI r.2.Now, cI r.2.Auth.Client, cI r.2.Auth.Time, cI r.2.Auth.Seq, cI r.2.Rest.Servers, cI r.2.Rest.Ops, cI r.2.Rest.End, Cell.sl true (List.map eI r.2.Path), Cell.sl true (List.map eI r.2.Via), cI r.2.Leaks, cS r.2.Ticket]] := by
 refine Gives.intro func234 rfl rfl rfl rfl ?_; refine fx fun w0 T S0 ob oh hm => ?_
 have hF := fxe w0 T S0 19 ob oh
 unfold V_IndexFunc_Accept__impl_Once_1 at H; obtain ⟨K, hK⟩ := leK k; refine sg 1 ?_; refine WpC.seq (sr ?_); refine mv ?_; refine L.lenR (xs := a0) (e := eT_Accept) underlying41 hF rfl rfl rfl rfl ?_; refine gn 1 ?_; refine WpC.block ?_; refine WpC.loopL (P := Tryz.prog) (fun n σ => ∃ (v39 : List T_Accept) (v40 v41 : Int) (v42 : T_Accept), n ≤ K ∧ V_IndexFunc_Accept__impl_Once_1.l2 n v39 v40 v41 v42 = some r ∧ σ = mkSt [(0, MG.one (Cell.sl g0 (List.map eT_Accept v39))), (1, MG.one (Cell.clo 213 [Cell.ptr 0 0])), (7, oI v40), (8, oI v41)] [] [(0, (bT_Accept true true v42))] 1) k ⟨_, ⟨a0, (a0.length : Int), 0, o0, by omega, H, rfl⟩, lm [(0, 0)] hm⟩ ?_; clear H
 rintro k2 _ ⟨v39, v40, v41, v42, hk2, H, rfl⟩
 cases k2 with
 | zero => cases H
 | succ k2 =>
  rw [V_IndexFunc_Accept__impl_Once_1.l2] at H
  refine sg 1 ?_; refine WpC.seq ?_; refine cd H (fun hc H => ?_) (fun hc H => ?_)
  ·refine WpC.skip (WpC.seq (WpC.block (sr ?_))); refine gn 2 ?_; refine sy 3 ?_; obtain ⟨b45, hb45, H⟩ := bindS H; refine ix underlying41 info58 hb45 ?_; refine le shape58 ?_; obtain ⟨r46, hr46, H⟩ := bindS H; refine ca [false] [] [0] 1 ent213 (g213 k2 g0 g0 b45 v42 r46 hr46) (L.nil ?_); refine cd H (fun hc H => ?_) (fun hc H => ?_)
   ·refine sg 2 ?_; cases H; exact WpC.ret rt
   ·refine WpC.skip (WpC.regionL ?_); refine gn 2 ?_; exact ⟨k2, _, by omega, ⟨v39, v40, (IntKind.i64.wrap (v41 + 1)), v42, by omega, H, rfl⟩, lm [(0, 0)] hm⟩
  ·refine WpC.exit (sr ?_); refine gn 1 ?_; cases H; exact WpC.ret rt
/-! ### V_ContainsFunc_Accept__impl_Once_1 -/
def V_ContainsFunc_Accept__impl_Once_1 (k : Nat) (a0 : List T_Accept) (o0 : T_Accept) : Option (Bool × T_Accept) := (V_IndexFunc_Accept__impl_Once_1 k a0 o0).bind fun r1 => some ((decide (r1.1 ≥ 0)), r1.2)
theorem ent212 : MG.Enters Tryz.prog 212 := en func212
theorem g212 (k : Nat) (g0 : Bool) (a0 : List T_Accept) (o0 : T_Accept) (r : Bool × T_Accept) (H : V_ContainsFunc_Accept__impl_Once_1 k a0 o0 = some r) : Gives Tryz.prog 212 [V.one (Cell.sl g0 (List.map eT_Accept a0)), V.one (Cell.clo 213 [Cell.ptr 0 0])] [[cI o0.Server, cI o0.Client, cI o0.Key, cI o0.Op, cI o0.Now, cI o0.Auth.Client, cI o0.Auth.Time, cI o0.Auth.Seq, cI o0.Rest.Servers, cI o0.Rest.Ops, cI o0.Rest.End, Cell.sl true (List.map eI o0.Path), Cell.sl true (List.map eI o0.Via), cI o0.Leaks, cS o0.Ticket]] [V.one (cL r.1)] [[cI r.2.Server, cI r.2.Client, cI r.2.Key, cI r.2.Op, cI r.2.Now, cI r.2.Auth.Client, cI r.2.Auth.Time, cI r.2.Auth.Seq, cI r.2.Rest.Servers, cI r.2.Rest.Ops, cI r.2.Rest.End, Cell.sl true (List.map eI r.2.Path), Cell.sl true (List.map eI r.2.Via), cI r.2.Leaks, cS r.2.Ticket]] := by
 refine Gives.intro func212 rfl rfl rfl rfl ?_; refine fx fun w0 T S0 ob oh hm => ?_
 have hF := fxe w0 T S0 9 ob oh
 unfold V_ContainsFunc_Accept__impl_Once_1 at H; obtain ⟨K, hK⟩ := leK k; refine sg 1 ?_; refine sy 2 ?_; obtain ⟨r1, hr1, H⟩ := bindS H; refine ca [false, false] [] [0] 18 ent234 (g234 k g0 a0 o0 r1 hr1) ?_; refine gn 2 ?_; cases H; exact WpC.ret rt
/-! ### I_Once -/
def I_Once.l2 : Nat → T_World → Int → Int → Option Bool
 | 0, _, _, _ => none
 | k2 + 1, v44, v45, v46 => cond (decide (v46 < v45)) ((at? v44.Accepts v46).bind fun b50 => (part? v44.Accepts 0 v46).bind fun b51 => (V_ContainsFunc_Accept__impl_Once_1 k2 b51 b50).bind fun r52 => cond r52.1 (some false) ((I_Once.l2 k2) v44 v45 (IntKind.i64.wrap (v46 + 1)))) ((I_WorldOk k2 v44).bind fun r53 => some r53)
def I_Once (k : Nat) (a0 : T_World) : Option Bool := I_Once.l2 k a0 (a0.Accepts.length : Int) 0
theorem ent178 : MG.Enters Tryz.prog 178 := en func178
theorem I_Once_t (k : Nat) (a0 : T_World) (r : Bool) (H : I_Once k a0 = some r) : Gives Tryz.prog 178 [V.agg (bT_World true true true true true true true true true true true true true a0)] [] [V.one (cL r)] [] := by
 refine Gives.intro func178 rfl rfl rfl rfl ?_; refine fx fun w0 T S0 ob oh hm => ?_
 have hF := fxe w0 T S0 22 ob oh
 unfold I_Once at H; obtain ⟨K, hK⟩ := leK k; refine sr ?_; refine bo 16 ?_; refine gn 1 ?_; refine WpC.seq (sr ?_); refine go 2 ?_; refine L.lenR (xs := a0.Accepts) (e := eT_Accept) underlying41 hF rfl rfl rfl rfl ?_; refine gn 1 ?_; refine WpC.block ?_; refine WpC.loopL (P := Tryz.prog) (fun n σ => ∃ (v44 : T_World) (v45 v46 : Int), n ≤ K ∧ I_Once.l2 n v44 v45 v46 = some r ∧ σ = mkSt [(1, oP 0 0), (6, MG.one (Cell.sl true (List.map eT_Accept v44.Accepts))), (7, oI v45), (8, oI v46)] [] [(0, (bT_World true true true true true true true true true true true true true v44))] 1) k ⟨_, ⟨a0, (a0.Accepts.length : Int), 0, by omega, H, rfl⟩, lm [(0, 16)] hm⟩ ?_; clear H
 rintro k2 _ ⟨v44, v45, v46, hk2, H, rfl⟩
 cases k2 with
 | zero => cases H
 | succ k2 =>
  rw [I_Once.l2] at H
  refine sg 1 ?_; refine WpC.seq ?_; refine cd H (fun hc H => ?_) (fun hc H => ?_)
  ·refine WpC.skip (WpC.seq (WpC.block (sr ?_))); refine mv ?_; obtain ⟨b50, hb50, H⟩ := bindS H; refine ix underlying41 info58 hb50 ?_; refine le shape58 ?_; refine alc 1 info58 ?_; refine gn 2 ?_; refine sy 3 ?_; obtain ⟨b51, hb51, H⟩ := bindS H; refine L.cutR (xs := v44.Accepts) (ys := b51) (e := eT_Accept) underlying41 info58 hF rfl rfl rfl rfl rfl hb51 (fun _ => rfl) ?_; refine L.makeFunc hF rfl rfl rfl ?_; obtain ⟨r52, hr52, H⟩ := bindS H; refine ca [false, false] [] [1] 2 ent212 (g212 k2 true b51 b50 r52 hr52) (L.nil ?_); refine cd H (fun hc H => ?_) (fun hc H => ?_)
   ·refine sg 1 ?_; cases H; exact WpC.ret rt
   ·refine WpC.skip (WpC.regionL ?_); refine gn 2 ?_; exact ⟨k2, _, by omega, ⟨v44, v45, (IntKind.i64.wrap (v46 + 1)), by omega, H, rfl⟩, lm [(0, 0)] hm⟩
  ·refine WpC.exit (sr ?_); refine lp shape43 ?_; refine cB 1 ent60 (g60 k2 true true true true true true true true true true true true true v44) H fun r53 H => ?_; refine gn 1 ?_; cases H; exact WpC.ret rt
theorem g178 (k : Nat) (l0 l1 l2 l3 l4 l5 l6 l7 l8 l9 l10 l11 l12 : Bool) (a0 : T_World) (r : Bool) (H : I_Once k a0 = some r) : Gives Tryz.prog 178 [V.agg (bT_World l0 l1 l2 l3 l4 l5 l6 l7 l8 l9 l10 l11 l12 a0)] [] [V.one (cL r)] [] :=
 Gives.lend (I_Once_t k a0 r H) rfl rfl (by simp [V.solid, Cell.solid, csolid, rsolid, rsolid_map, eI, cI, cL, cS, im])
/-! ### I_Reach -/
theorem ent14 : MG.Enters Tryz.prog 14 := en Tryz.func14
/-! ### Reach -/
def I_Reach (k : Nat) (a0 : T_Known) : Option (List Int) := (I_KnownOk k a0).bind fun r => cond (!r) (some []) ((FsightOf k a0).bind fun s =>
  cond (decide ((2 * s.reached.length + 192) * 8 ≤ 281474976710656)) (V_Sort_int k s.reached) none)
def keyI (e : MapEntry) : Int := match e.key with
  | .int _ n => n
  | _ => 0
theorem filter_perm {e : MapEntry} {p q : MapEntry → Bool} : ∀ {l : List MapEntry}, (∀ x ∈ l, q x = (p x && x.born != e.born)) → (l.map (·.born)).Nodup → e ∈ l → p e = true → (l.filter p).Perm (e :: l.filter q)
  | x :: l, hq, hn, he, hp => by
    have hn' := List.nodup_cons.1 hn
    by_cases hx : x.born = e.born
    · have hxe : x = e := by
        rcases List.mem_cons.1 he with h | h
        · exact h.symm
        · exact absurd (List.mem_map.2 ⟨e, h, hx.symm⟩) hn'.1
      subst hxe
      have h1 : q x = false := by rw [hq x (by simp)]; simp
      have h2 : l.filter p = l.filter q := by
        refine List.filter_congr fun y hy => ?_
        have hne : y.born ≠ x.born := fun h => hn'.1 (List.mem_map.2 ⟨y, hy, h⟩)
        rw [hq y (by simp [hy])]; simp [hne]
      simp [List.filter_cons, hp, h1, h2]
    · have h1 : q x = p x := by rw [hq x (by simp)]; simp [hx]
      have he' : e ∈ l := by
        rcases List.mem_cons.1 he with h | h
        · exact absurd (h ▸ rfl) hx
        · exact h
      have ih := filter_perm (l := l) (fun y hy => hq y (by simp [hy])) hn'.2 he' hp
      cases hpx : p x with
      | true =>
        simp only [List.filter_cons, h1, hpx, if_true]
        exact (ih.cons x).trans (List.Perm.swap _ _ _)
      | false => simpa [List.filter_cons, h1, hpx] using ih
theorem left_perm {es : Array MapEntry} {seen : Array Nat} {e : MapEntry} (hn : (es.toList.map (·.born)).Nodup) (he : e ∈ (leftOf es seen).toList) : (leftOf es seen).toList.Perm (e :: (leftOf es (seen.push e.born)).toList) := by
  have h1 := mem_left he
  unfold leftOf
  rw [Array.toList_filter, Array.toList_filter]
  refine filter_perm (fun x hx => ?_) hn h1.1 (by rw [h1.2]; rfl)
  rw [contains_push]
  cases seen.contains x.born <;> cases h : (x.born == e.born) <;> simp [bne, h]
theorem sort_perm {l l' : List Int} (h : l.Perm l') : l.mergeSort (fun x y => decide (x ≤ y)) = l'.mergeSort (fun x y => decide (x ≤ y)) := by
  have s : ∀ l : List Int, (l.mergeSort (fun x y => decide (x ≤ y))).Pairwise (fun x y => x ≤ y) := fun l => by
    have := List.pairwise_mergeSort (le := fun x y : Int => decide (x ≤ y)) (fun a b c h1 h2 => by simp at *; omega) (fun a b => by simp; omega) l
    exact this.imp fun h => by simpa using h
  refine List.Perm.eq_of_pairwise (le := fun x y => x ≤ y) (fun a b _ _ h1 h2 => by omega) (s l) (s l') ?_
  exact (List.mergeSort_perm l _).trans (h.trans (List.mergeSort_perm l' _).symm)
theorem g14 (k : Nat) (g0 : Bool) (g1 : Bool) (a0 : T_Known) (r : List Int) (H : I_Reach k a0 = some r) : Gives Tryz.prog 14 [V.agg [Cell.sl g0 (List.map eS a0.Terms), Cell.sl g1 (List.map eI a0.Keys)]] [] [V.one (Cell.ow 1 (List.map eI r))] [] := by
  refine Gives.ofX (HoldsX.intro Tryz.func14 rfl (Nat.le_of_ble_eq_true rfl) (by intro cs hcs; cases hcs) (by intro j hj; simp [V.names, V.cells, cnames, Cell.names] at hj) fun F l hn hm hT hIn => ?_)
  have hF : F.n = 27 := hn
  have fin : ∀ {F' : Fix} {σ : St} {e : Exit}, Under F F' → MG.Leaves Tryz.prog Tryz.f14 0 [] (fun r' o b => r' = [V.one (Cell.ow 1 (List.map eI r))] ∧ o = [] ∧ b = []) e σ → ∃ MB : List Nat, MG.Leaves Tryz.prog Tryz.f14 0 [] (fun r' o b => r' = [V.one (Cell.ow 1 (List.map eI r))] ∧ o = [] ∧ b = []) e σ ∧ ∀ a w1, Rel F' σ a w1 → ∃ E : Env, RelH F σ.H E ∧ RelS F σ.slots σ.H a E ∧ Pin F σ.H E ∧ (w1 = E.w ∧ MB = []) ∧ (∀ v, (results Tryz.f14 a.tmps).run Tryz.prog E.w = .ok v E.w → (results Tryz.f14 a.tmps).run Tryz.prog w1 = .ok v w1) ∧ (∀ b ∈ MB, F.w0.heap.size ≤ b ∧ b < E.w.heap.size ∧ (∀ g, ¬ E.S g b) ∧ ∀ k, ¬ Own E k b) := by
    intro F' σ e u hl
    refine ⟨[], hl, fun a w1 hr => ?_⟩
    obtain ⟨E, rfl, hH, hS, hP⟩ := u.rel hr
    exact ⟨E, hH, hS, hP, ⟨rfl, rfl⟩, fun v hv => hv, fun b hb => by cases hb⟩
  unfold I_Reach at H
  obtain ⟨r0, h0, H⟩ := bindS H
  refine WmC.seq ?_
  refine WmC.regionL ?_
  refine WmL.take 2 (L.box 10 hF rfl rfl rfl rfl (L.assign hF rfl rfl rfl (L.nil rfl))) ?_
  refine WmL.nil ?_
  refine WmC.seq ?_
  refine WmC.regionL ?_
  refine WmL.take 2 (L.buildSlice (e := eI) 11 ([] : List Int) Tryz.underlying24 info3 rfl rfl rfl hF rfl rfl rfl rfl rfl rfl rfl rfl (L.assign hF rfl rfl rfl (L.nil rfl))) ?_
  refine WmL.nil ?_
  refine WmC.seq ?_
  refine WmC.seq ?_
  refine WmC.regionL ?_
  refine WmL.take 3 (L.loadPtr shape36 hF rfl rfl rfl rfl rfl rfl (L.call [false] [] [] 12 hF rfl rfl rfl ent46 rfl rfl rfl rfl rfl (g46 k g0 g1 a0 r0 h0) rfl (L.not hF rfl rfl rfl (L.nil rfl)))) ?_
  refine WmL.nil ?_
  refine WmC.cond rfl (fun hc => ?_) (fun hc => ?_)
  · replace H := condT hc H
    cases H
    refine WmC.seq ?_
    refine WmC.regionL ?_
    refine WmL.take 2 (L.move hF rfl rfl rfl (L.assign hF rfl rfl rfl (L.nil rfl))) ?_
    refine WmL.nil ?_
    exact WmC.ret (fin Under.refl (Leaves.ret rfl rfl rfl ⟨rfl, rfl⟩))
  replace H := condF hc H
  obtain ⟨s, hs, H⟩ := bindS H
  obtain ⟨hg, H⟩ := condG H
  refine WmC.skip ?_
  refine WmC.seq ?_
  refine WmC.seq ?_
  refine WmC.regionL ?_
  refine WmL.take 1 (L.loadPtr shape36 hF rfl rfl rfl rfl rfl rfl (L.nil rfl)) ?_
  refine WmL.call [false] [] [] 13 hF rfl rfl rfl ent47 rfl rfl rfl rfl rfl (FsightOf_ok k g0 g1 a0 s hs) (fun E hH S T _ _ => trivial) (fun _ => rfl) (fun w w1 MB E' hfr ho hH hfree => ?_)
  obtain ⟨rfl, b1, b2, o1, o2, rfl, hne, p1, p2, q1, q2⟩ := ho
  have fb := hfree b2 (by simp)
  have hol : Old (F.rebase E') b2 := ⟨fb.2.2.1, fun ⟨j, hj⟩ => fb.2.1 j hj, fb.1⟩
  have hu : Under F (F.rebase E') := Under.rebase hH
  refine ⟨F.rebase E', fun a sl' hS hP => ⟨E', rfl, hH.rebase, RelS.refix (F := F) rfl hS, Pin.refix (F := F) rfl rfl hP⟩, ?_⟩
  have p2' : (F.rebase E').w0.heap[b2]? = some o2 := p2
  generalize F.rebase E' = F1 at hol hu p2' ⊢
  have hF1 : F1.n = 27 := hu.n.trans hF
  refine WmL.take 3 (L.nilCheck hF1 rfl rfl rfl rfl (L.fieldAddr Tryz.underlying94 rfl info92 rfl hF1 rfl rfl rfl rfl rfl (L.loadPtr shape92 hF1 rfl rfl rfl rfl rfl rfl (L.nil rfl)))) ?_
  obtain ⟨es, clock, rfl, hst, hks, hkeys, hv⟩ := q2
  refine WmL.range (b := b2) Tryz.underlying92 hF1 rfl rfl rfl hol p2' hst fun F2 rr u2 hI lr => ?_
  have hF2 : F2.n = 27 := u2.n.trans hF1
  have hu2 := hu.trans u2
  have hkv : ∀ e ∈ es.toList, e.key = i64 (keyI e) := fun e he => by
    have : e.key ∈ s.reached.map i64 := hkeys ▸ List.mem_map_of_mem (f := (·.key)) he
    obtain ⟨n, _, hn⟩ := List.mem_map.1 this
    simp only [keyI, ← hn]
  have himm : ∀ e ∈ es.toList, isImm e.key = true ∧ isImm e.val = true := fun e he => by rw [hkv e he, hv e he]; exact ⟨rfl, rfl⟩
  have hkl : es.toList.map keyI = s.reached := by
    have : (es.toList.map keyI).map i64 = s.reached.map i64 := by rw [← hkeys, List.map_map]; exact List.map_congr_left fun e he => (hkv e he).symm
    exact (List.map_inj_right (fun _ _ h => i64_inj h)).1 this
  have hm2 : MG.Pinned F2 0 [] := ⟨by rw [hu2.ob]; exact hm.ob, by rw [hu2.oh]; exact hm.oh⟩
  have hm0 := hm
  refine WmL.nil ?_
  refine WmC.block ?_
  refine WmC.loopL (fun n F' σ => ∃ seen out, n = (leftOf es seen).size ∧ OldI F' rr b2 es seen ∧ Under F F' ∧ (out ++ (leftOf es seen).toList.map keyI).Perm s.reached ∧ σ = mkSt [(3, MG.one (.own 0)), (15, MG.one (.raw (.pointer (some ⟨rr, 0, none⟩))))] [(0, ⟨1, List.map eI out⟩)] [] 1) (leftOf es #[]).size ⟨_, ⟨#[], ([] : List Int), rfl, hI, hu2, ?_, rfl⟩, Le.mk [(0, 11)] hm2 rfl (Sa2 trivial) (Ra1 trivial) trivial⟩ ?_
  · rw [← hkl]
    have : (leftOf es #[]).toList = es.toList := by unfold leftOf; rw [Array.toList_filter]; simp
    rw [this]; simp
  rintro n F' _ ⟨seen, out, hnn, hI', u', hp, rfl⟩
  have hF' : F'.n = 27 := u'.n.trans hF
  have hm' : MG.Pinned F' 0 [] := ⟨by rw [u'.ob]; exact hm0.ob, by rw [u'.oh]; exact hm0.oh⟩
  refine WmC.seq ?_
  refine WmC.regionL ?_
  refine WmL.next hF' rfl rfl rfl hI' himm (fun hz => ?_) (fun e he o hI2 => ?_)
  · refine WmL.take 1 (L.extract hF' rfl rfl rfl rfl (L.nil rfl)) ?_
    refine WmL.nil ?_
    refine WmC.seq ?_
    refine WmC.cond rfl (fun hc => by cases hc) (fun hc => ?_)
    refine WmC.exit ?_
    have hlz : (leftOf es seen).toList = [] := by apply List.eq_nil_of_length_eq_zero; simpa using hz
    rw [hlz] at hp
    have hp' : out.Perm s.reached := by simpa using hp
    have hso : V_Sort_int k out = some r := by
      rw [← H]; unfold V_Sort_int
      rw [← isSrt_eq, ← isSrt_eq, sort_perm hp', hp'.length_eq]
    refine WmC.seq ?_
    refine WmC.regionL ?_
    refine WmL.take 2 (L.move hF' rfl rfl rfl (L.callB [true] [] [] 1 [0] hF' rfl rfl rfl ent48 rfl rfl rfl rfl rfl (V_Sort_int_gives k out r hso) rfl rfl rfl (L.nil rfl))) ?_
    refine WmL.nil ?_
    refine WmC.seq ?_
    refine WmC.regionL ?_
    refine WmL.take 2 (L.move hF' rfl rfl rfl (L.assign hF' rfl rfl rfl (L.nil rfl))) ?_
    refine WmL.nil ?_
    exact WmC.ret (fin u' (Leaves.ret rfl rfl rfl ⟨rfl, rfl⟩))
  · have hme := mem_left he
    have hke := hkv e hme.1
    have lr' : F.w0.heap.size ≤ rr := Nat.le_trans hu.size lr
    have u3 : Under F (F'.setB rr o) := u'.setB lr'
    have hF3 : (F'.setB rr o).n = 27 := hF'
    have hm3 : MG.Pinned (F'.setB rr o) 0 [] := ⟨hm'.ob, hm'.oh⟩
    have hsh := left_shrinks es seen e he
    have hpl := left_perm hst.2.1 he
    rw [hke]
    generalize F'.setB rr o = F3 at hI2 u3 hF3 hm3 ⊢
    refine WmL.take 1 (L.extract hF3 rfl rfl rfl rfl (L.nil rfl)) ?_
    refine WmL.nil ?_
    refine WmC.seq ?_
    refine WmC.cond rfl (fun hc => ?_) (fun hc => by cases hc)
    refine WmC.skip ?_
    refine WmC.block ?_
    refine WmC.seq ?_
    refine WmC.regionL ?_
    refine WmL.entry hF3 rfl rfl rfl hI2 hme.1 himm ?_
    rw [hke]
    refine WmL.take 2 (L.extract hF3 rfl rfl rfl rfl (L.assign hF3 rfl rfl rfl (L.nil rfl))) ?_
    refine WmL.nil ?_
    refine WmC.regionL ?_
    have hlen : (2 * (out.length + ([keyI e] : List Int).length) + 192) * 8 ≤ 281474976710656 := by
      have h1 := hp.length_eq
      have h2 := of_decide_eq_true hg
      have h3 := hpl.length_eq
      simp at h1 h3 ⊢
      omega
    refine WmL.take 5 (L.move hF3 rfl rfl rfl (L.move hF3 rfl rfl rfl (L.buildSlice (e := eI) 2 ([keyI e] : List Int) Tryz.underlying24 info3 rfl rfl rfl hF3 rfl rfl rfl rfl rfl rfl rfl rfl (L.append (xs := out) (ys := ([keyI e] : List Int)) (e := eI) 3 Tryz.underlying24 info3 rfl rfl hF3 rfl rfl rfl rfl rfl rfl rfl rfl (fun _ => rfl) (fun _ _ h1 h2 => by cases h1; cases h2; rfl) ⟨_, Tryz.underlying24⟩ hlen rfl rfl (L.assign hF3 rfl rfl rfl (L.nil rfl)))))) ?_
    refine WmL.nil ?_
    refine ⟨(leftOf es (seen.push e.born)).size, _, by omega, ⟨seen.push e.born, out ++ [keyI e], rfl, hI2, u3, ?_, rfl⟩, Le.mk [(0, 3)] hm3 rfl (Sa2 trivial) (Ra1 trivial) trivial⟩
    refine List.Perm.trans ?_ hp
    rw [List.append_assoc]
    refine List.Perm.append_left _ ?_
    exact (hpl.map keyI).symm

/-! ### I_rooted -/
def I_rooted.j2 (k : Nat) (v16 : T_Event) (v17 : Bool) : Option Bool := cond v17 ((I_isService k v16.Service).bind fun r18 => some r18) (cond (v16.Kind == 3) ((I_isRealm k v16.Realm).bind fun r21 => cond r21 ((I_within k v16.Service 10 12).bind fun r22 => some r22) (some false)) (some false))
def I_rooted (k : Nat) (a0 : T_Event) : Option Bool := cond (a0.Kind == 1) ((I_isPrincipal k a0.By).bind fun r14 => cond r14 ((I_isRealm k a0.Realm).bind fun r15 => some r15) (some false)) (cond (a0.Kind == 2) (I_rooted.j2 k a0 (a0.Kind == 2)) (I_rooted.j2 k a0 (a0.Kind == 4)))
theorem ent69 : MG.Enters Tryz.prog 69 := en func69
theorem g69 (k : Nat) (a0 : T_Event) (r : Bool) (H : I_rooted k a0 = some r) : Gives Tryz.prog 69 [V.agg (bT_Event a0)] [] [V.one (cL r)] [] := by
 refine Gives.intro func69 rfl rfl rfl rfl ?_; refine fx fun w0 T S0 ob oh hm => ?_
 have hF := fxe w0 T S0 31 ob oh
 unfold I_rooted at H; obtain ⟨K, hK⟩ := leK k; refine sr ?_; refine bo 11 ?_; refine gn 1 ?_; refine WpC.seq (sr ?_); refine gn 2 ?_; refine WpC.block (sr ?_); refine gn 2 ?_; refine cd H (fun hc H => ?_) (fun hc H => ?_)
 ·refine sy 2 ?_; refine cB 12 ent53 (g53 k  a0.By) H fun r14 H => ?_; refine mv ?_; refine sH H (fun hc H => ?_) (fun hc H => ?_)
  ·refine go 2 ?_; refine cB 13 ent102 (g102 k  a0.Realm) H fun r15 H => ?_; refine gn 2 ?_; cases H; exact WpC.ret rt
  ·refine gn 5 ?_; cases H; exact WpC.ret rt
 ·refine WpC.join (fun σ => ∃ (kj2 : Nat) (v16 : T_Event) (v17 : Bool), kj2 ≤ K ∧ I_rooted.j2 kj2 v16 v17 = some r ∧ σ = mkSt [(1, oP 0 0), (4, oI v16.Kind), (15, oL v17)] [] [(0, (bT_Event v16))] 1) ?_ ?_
  ·rintro _ ⟨kj2, v16, v17, hkj2, H, rfl⟩
   unfold I_rooted.j2 at H; refine cd H (fun hc H => ?_) (fun hc H => ?_)
   ·refine sy 2 ?_; refine cB 1 ent55 (g55 kj2  v16.Service) H fun r18 H => ?_; refine gn 1 ?_; cases H; exact WpC.ret rt
   ·refine sg 2 ?_; refine cd H (fun hc H => ?_) (fun hc H => ?_)
    ·refine sy 2 ?_; refine cB 1 ent102 (g102 kj2  v16.Realm) H fun r21 H => ?_; refine mv ?_; refine sH H (fun hc H => ?_) (fun hc H => ?_)
     ·refine go 2 ?_; refine cB 2 ent52 (g52 kj2  v16.Service 10 12) H fun r22 H => ?_; refine gn 2 ?_; cases H; exact WpC.ret rt
     ·refine gn 5 ?_; cases H; exact WpC.ret rt
    ·refine WpC.skip (sr ?_); refine gn 1 ?_; cases H; exact WpC.ret rt
  ·refine sg 2 ?_; refine cd H (fun hc H => ?_) (fun hc H => ?_)
   ·refine WpC.skip ?_; exact ⟨_, ⟨k, a0, (a0.Kind == 2), by omega, H, rfl⟩, lm [(0, 11)] hm⟩
   ·refine WpC.regionL ?_; refine gn 2 ?_; exact ⟨_, ⟨k, a0, (a0.Kind == 4), by omega, H, rfl⟩, lm [(0, 11)] hm⟩
/-! ### I_Roots -/
def I_Roots.j19 (cl17 : (List T_Event) → Int → (List Int) → Int → Int → Option (List Int)) (k : Nat) (v242 : List T_Event) (v243 : T_Event) (v244 : List Int) (v245 v246 : Int) : Option (List Int) := cl17 v242 v243.Parent v244 v245 (IntKind.i64.wrap (v246 + 1))
def I_Roots.j20 (cl17 : (List T_Event) → Int → (List Int) → Int → Int → Option (List Int)) (k : Nat) (v255 : List T_Event) (v256 : T_Event) (v257 : List Int) (v258 v259 : Int) (v260 : Bool) : Option (List Int) := cond v260 ((I_PrincipalKey k (IntKind.i64.wrap (3 + v256.Service))).bind fun r261 => cond (decide ((2 * (v257.length + ([r261] : List Int).length) + 192) * 8 ≤ 281474976710656)) (I_Roots.j19 cl17 k v255 v256 (v257 ++ ([r261] : List Int)) v258 v259) none) (cond (v256.Kind == 3) ((I_LinkKey k v256.Realm (IntKind.i64.wrap (v256.Service - 10))).bind fun r263 => cond (decide ((2 * (v257.length + ([r263] : List Int).length) + 192) * 8 ≤ 281474976710656)) (I_Roots.j19 cl17 k v255 v256 (v257 ++ ([r263] : List Int)) v258 v259) none) (some ([] : List Int)))
def I_Roots.l17 : Nat → (List T_Event) → Int → (List Int) → Int → Int → Option (List Int)
 | 0, _, _, _, _, _ => none
 | k17 + 1, v219, v220, v221, v222, v223 => cond (decide (v223 < v222)) ((I_Find k17 v219 v220).bind fun r247 => cond (decide (r247 < 0)) (some ([] : List Int)) ((at? v219 r247).bind fun b248 => (I_rooted k17 b248).bind fun r250 => cond (!r250) (some ([] : List Int)) (cond (b248.Kind == 1) ((I_PrincipalKey k17 b248.By).bind fun r251 => (I_CentreKey k17 b248.Realm).bind fun r252 => cond (decide ((2 * (v221.length + ([r251, r252] : List Int).length) + 192) * 8 ≤ 281474976710656)) ((I_risen k17 (v221 ++ ([r251, r252] : List Int))).bind fun r254 => some r254) none) (cond (b248.Kind == 2) (I_Roots.j20 (I_Roots.l17 k17) k17 v219 b248 v221 v222 v223 (b248.Kind == 2)) (I_Roots.j20 (I_Roots.l17 k17) k17 v219 b248 v221 v222 v223 (b248.Kind == 4)))))) (some ([] : List Int))
def I_Roots (k : Nat) (a0 : T_Config) (a1 : List T_Event) (a2 : Int) : Option (List Int) := (I_ConfigOk k a0).bind fun r2 => cond (!r2) (some ([] : List Int)) (I_Roots.l17 k a1 a2 ([] : List Int) (a1.length : Int) 0)
theorem ent30 : MG.Enters Tryz.prog 30 := en func30
theorem g30 (k : Nat) (g0 g1 g2 g3 g4 : Bool) (a0 : T_Config) (a1 : List T_Event) (a2 : Int) (r : List Int) (H : I_Roots k a0 a1 a2 = some r) : Gives Tryz.prog 30 [V.agg (bT_Config g0 g1 g2 g3 a0), V.one (Cell.sl g4 (List.map eT_Event a1)), V.one (cI a2)] [] [V.one (Cell.ow 1 (List.map eI r))] [] := by
 refine Gives.intro func30 rfl rfl rfl rfl ?_; refine fx fun w0 T S0 ob oh hm => ?_
 have hF := fxe w0 T S0 72 ob oh
 unfold I_Roots at H; obtain ⟨K, hK⟩ := leK k; refine sr ?_; refine bo 7 ?_; refine gn 1 ?_; refine sr ?_; refine L.buildSlice (e := eI) 8 ([] : List Int) underlying24 info3 rfl rfl rfl hF rfl rfl rfl rfl rfl rfl rfl rfl ?_; refine gn 1 ?_; refine WpC.seq (sr ?_); refine lp shape27 ?_; refine cB 9 ent54 (g54 k g0 g1 g2 g3 a0) H fun r2 H => ?_; refine gn 1 ?_; refine cd H (fun hc H => ?_) (fun hc H => ?_)
 ·refine sg 2 ?_; cases H; exact WpC.ret rt
 ·refine WpC.skip (WpC.seq (sr ?_)); refine mv ?_; refine L.lenR (xs := a1) (e := eT_Event) underlying40 hF rfl rfl rfl rfl ?_; refine gn 1 ?_; refine WpC.block ?_; refine WpC.loopL (P := Tryz.prog) (fun n σ => ∃ (v219 : List T_Event) (v220 : Int) (v221 : List Int) (v222 v223 : Int), n ≤ K ∧ I_Roots.l17 n v219 v220 v221 v222 v223 = some r ∧ σ = mkSt [(1, MG.one (Cell.sl g4 (List.map eT_Event v219))), (2, oI v220), (7, MG.one (Cell.own 0)), (16, oI v222), (17, oI v223)] [(0, ⟨1, List.map eI v221⟩)] [] 1) k ⟨_, ⟨a1, a2, ([] : List Int), (a1.length : Int), 0, by omega, H, rfl⟩, lm [(0, 8)] hm⟩ ?_; clear H
  rintro k17 _ ⟨v219, v220, v221, v222, v223, hk17, H, rfl⟩
  cases k17 with
  | zero => cases H
  | succ k17 =>
   rw [I_Roots.l17] at H
   refine sg 1 ?_; refine WpC.seq ?_; refine cd H (fun hc H => ?_) (fun hc H => ?_)
   ·refine WpC.skip ?_; refine WpC.join (fun σ => ∃ (kj19 : Nat) (v242 : List T_Event) (v243 : T_Event) (v244 : List Int) (v245 v246 : Int), kj19 ≤ K ∧ I_Roots.j19 (I_Roots.l17 k17) kj19 v242 v243 v244 v245 v246 = some r ∧ σ = mkSt [(1, MG.one (Cell.sl g4 (List.map eT_Event v242))), (2, oI v243.Parent), (7, MG.one (Cell.own 0)), (16, oI v245), (17, oI v246)] [(0, ⟨1, List.map eI v244⟩)] [] 1) ?_ ?_
    ·rintro _ ⟨kj19, v242, v243, v244, v245, v246, hkj19, H, rfl⟩
     unfold I_Roots.j19 at H; refine WpC.regionL ?_; refine gn 2 ?_; exact ⟨k17, _, by omega, ⟨v242, v243.Parent, v244, v245, (IntKind.i64.wrap (v246 + 1)), by omega, H, rfl⟩, lm [(0, 0)] hm⟩
    ·refine WpC.block (sr ?_); refine go 2 ?_; refine cB 1 ent13 (g13 k17 g4 v219 v220) H fun r247 H => ?_; refine gn 1 ?_; refine WpC.seq (sr ?_); refine gn 2 ?_; refine cd H (fun hc H => ?_) (fun hc H => ?_)
     ·refine WpC.exit (sr ?_); refine L.buildSlice (e := eI) 2 ([] : List Int) underlying24 info3 rfl rfl rfl hF rfl rfl rfl rfl rfl rfl rfl rfl ?_; refine gn 1 ?_; cases H; exact WpC.ret rt
     ·refine WpC.skip (sr ?_); refine go 2 ?_; obtain ⟨b248, hb248, H⟩ := bindS H; refine ix underlying40 info47 hb248 ?_; refine le shape47 ?_; refine alc 2 info47 ?_; refine gn 1 ?_; refine sg 3 ?_; refine WpC.seq (sr ?_); refine lp shape47 ?_; refine cB 3 ent69 (g69 k17  b248) H fun r250 H => ?_; refine gn 1 ?_; refine cd H (fun hc H => ?_) (fun hc H => ?_)
      ·refine sr ?_; refine L.buildSlice (e := eI) 4 ([] : List Int) underlying24 info3 rfl rfl rfl hF rfl rfl rfl rfl rfl rfl rfl rfl ?_; refine gn 1 ?_; cases H; exact WpC.ret rt
      ·refine WpC.skip (sr ?_); refine gn 2 ?_; refine WpC.block (sr ?_); refine gn 2 ?_; refine cd H (fun hc H => ?_) (fun hc H => ?_)
       ·refine WpC.seq ?_; obtain ⟨r251, hr251, H⟩ := bindS H; obtain ⟨r252, hr252, H⟩ := bindS H; obtain ⟨h253, H⟩ := condG H; obtain ⟨r254, hr254, H⟩ := bindS H
        apply ldT ⟨[ed 6 11 _, e0 7 _, e0 9 _, ed 39 1 _, ed 40 2 _, ed 41 3 _, ed 42 4 _, ed 43 5 _, ed 44 6 _, ed 45 7 _, ed 46 8 _, ed 47 9 _, ed 48 10 _], [(0, [(9, none), (0, some _)]), ed 6 8 _, (7, [(10, none), (9, some _)]), ed 8 10 _], [e0 2 _], 9, []⟩ [(0, 1792), (0, 1996), (2, 1992), (6, 1984), (0, 2016), (16, 1984), (62, 1920), (126, 1792), (255, 1536), (511, 1024), (1023, 0)] mixed ?L1 ?_
        case L1 =>
         repeat refine ls ?_
         apply lc 9 4 1 [42] [] [] ?h1_3 ?q1_3 ?_
         case h1_3 =>
          intro b; refine c0 9 ent17 (g17 k17  b248.By r251 hr251) ?_; exact L.nil ⟨rfl, rfl, rfl, rfl⟩
         case' q1_3 => skip
         repeat refine ls ?_
         apply lc 9 5 1 [45] [] [] ?h1_6 ?q1_6 ?_
         case h1_6 =>
          intro b; refine c0 9 ent71 (g71 k17  b248.Realm r252 hr252) ?_; exact L.nil ⟨rfl, rfl, rfl, rfl⟩
         case' q1_6 => skip
         apply lc 9 6 1 [46] [6] [] ?h1_7 ?q1_7 ?_
         case h1_7 =>
          intro b; refine L.buildSlice (e := eI) 9 ([r251, r252] : List Int) underlying24 info3 rfl rfl rfl hF rfl rfl rfl rfl rfl rfl rfl rfl ?_; exact L.nil ⟨rfl, rfl, rfl, rfl⟩
         case' q1_7 => skip
         apply lc 9 7 1 [47] [7] [] ?h1_8 ?q1_8 ?_
         case h1_8 =>
          intro b; refine L.append (xs := v221) (ys := ([r251, r252] : List Int)) (e := eI) 9 underlying24 info3 rfl rfl hF rfl rfl rfl rfl rfl rfl rfl rfl (fun _ => rfl) (fun _ _ h1 h2 => by cases h1; cases h2; rfl) ⟨_, underlying24⟩ (of_decide_eq_true h253) rfl rfl ?_; exact L.nil ⟨rfl, rfl, rfl, rfl⟩
         case' q1_8 => skip
         apply lc 9 8 1 [48] [8] [] ?h1_9 ?q1_9 ?_
         case h1_9 =>
          intro b; refine ca [true] [] [] 9 ent70 (g130 k17  (v221 ++ ([r251, r252] : List Int)) r254 hr254) ?_; exact L.nil ⟨rfl, rfl, rfl, rfl⟩
         case' q1_9 => skip
         repeat refine ls ?_
         exact trivial
         all_goals exact lq
        cases H; exact WpC.ret rt
       ·refine WpC.join (fun σ => ∃ (kj20 : Nat) (v255 : List T_Event) (v256 : T_Event) (v257 : List Int) (v258 v259 : Int) (v260 : Bool), kj20 ≤ K ∧ I_Roots.j20 (I_Roots.l17 k17) kj20 v255 v256 v257 v258 v259 v260 = some r ∧ σ = mkSt [(1, MG.one (Cell.sl g4 (List.map eT_Event v255))), (2, oI v256.Parent), (7, MG.one (Cell.own 0)), (9, oP 1 0), (16, oI v258), (17, oI v259), (35, oI v256.Kind), (49, oL v260)] [(0, ⟨1, List.map eI v257⟩)] [(1, (bT_Event v256))] 2) ?_ ?_
        ·rintro _ ⟨kj20, v255, v256, v257, v258, v259, v260, hkj20, H, rfl⟩
         unfold I_Roots.j20 at H; refine cd H (fun hc H => ?_) (fun hc H => ?_)
         ·refine WpC.regionL ?_; refine go 4 ?_; refine cB 2 ent17 (g17 kj20  (IntKind.i64.wrap (3 + v256.Service))) H fun r261 H => ?_; refine L.buildSlice (e := eI) 3 ([r261] : List Int) underlying24 info3 rfl rfl rfl hF rfl rfl rfl rfl rfl rfl rfl rfl ?_; obtain ⟨h262, H⟩ := condG H; refine L.append (xs := v257) (ys := ([r261] : List Int)) (e := eI) 4 underlying24 info3 rfl rfl hF rfl rfl rfl rfl rfl rfl rfl rfl (fun _ => rfl) (fun _ _ h1 h2 => by cases h1; cases h2; rfl) ⟨_, underlying24⟩ (of_decide_eq_true h262) rfl rfl ?_; refine gn 1 ?_; exact ⟨_, ⟨kj20, v255, v256, (v257 ++ ([r261] : List Int)), v258, v259, by omega, H, rfl⟩, lm [(0, 4)] hm⟩
         ·refine sg 2 ?_; refine cd H (fun hc H => ?_) (fun hc H => ?_)
          ·refine WpC.regionL ?_; refine go 6 ?_; refine cB 2 ent72 (g72 kj20  v256.Realm (IntKind.i64.wrap (v256.Service - 10))) H fun r263 H => ?_; refine L.buildSlice (e := eI) 3 ([r263] : List Int) underlying24 info3 rfl rfl rfl hF rfl rfl rfl rfl rfl rfl rfl rfl ?_; obtain ⟨h264, H⟩ := condG H; refine L.append (xs := v257) (ys := ([r263] : List Int)) (e := eI) 4 underlying24 info3 rfl rfl hF rfl rfl rfl rfl rfl rfl rfl rfl (fun _ => rfl) (fun _ _ h1 h2 => by cases h1; cases h2; rfl) ⟨_, underlying24⟩ (of_decide_eq_true h264) rfl rfl ?_; refine gn 1 ?_; exact ⟨_, ⟨kj20, v255, v256, (v257 ++ ([r263] : List Int)), v258, v259, by omega, H, rfl⟩, lm [(0, 4)] hm⟩
          ·refine sr ?_; refine L.buildSlice (e := eI) 2 ([] : List Int) underlying24 info3 rfl rfl rfl hF rfl rfl rfl rfl rfl rfl rfl rfl ?_; refine gn 1 ?_; cases H; exact WpC.ret rt
        ·refine sg 2 ?_; refine cd H (fun hc H => ?_) (fun hc H => ?_)
         ·refine WpC.skip ?_; exact ⟨_, ⟨k17, v219, b248, v221, v222, v223, (b248.Kind == 2), by omega, H, rfl⟩, lm [(0, 0), (1, 2)] hm⟩
         ·refine WpC.regionL ?_; refine gn 2 ?_; exact ⟨_, ⟨k17, v219, b248, v221, v222, v223, (b248.Kind == 4), by omega, H, rfl⟩, lm [(0, 0), (1, 2)] hm⟩
   ·refine WpC.exit (sr ?_); refine L.buildSlice (e := eI) 1 ([] : List Int) underlying24 info3 rfl rfl rfl hF rfl rfl rfl rfl rfl rfl rfl rfl ?_; refine gn 1 ?_; cases H; exact WpC.ret rt
/-! ### I_Secret_1 -/
def I_Secret_1 (k : Nat) (a0 : Int) (o0 : T_World) : Option Bool := (V_Contains_int k o0.Leaked a0).bind fun r1 => some r1
theorem ent214 : MG.Enters Tryz.prog 214 := en func214
theorem g214 (k : Nat) (a0 : Int) (o0 : T_World) (r : Bool) (H : I_Secret_1 k a0 o0 = some r) : Gives Tryz.prog 214 [V.one (cI a0), V.one (Cell.ptr 0 0)] [[Cell.sl true (List.map eI o0.Config.UserRealm), Cell.sl true (List.map eI o0.Config.ServiceRealm), Cell.sl true (List.map eT_Pair o0.Config.Links), Cell.sl true (List.map eT_Pair o0.Config.Proxy), cI o0.Config.Skew, cI o0.Now, cI o0.Fresh, Cell.sl true (List.map eS o0.Net), Cell.sl true (List.map eS o0.Known.Terms), Cell.sl true (List.map eI o0.Known.Keys), Cell.sl true (List.map eT_Wait o0.Waits), Cell.sl true (List.map eT_Cred o0.Creds), Cell.sl true (List.map eT_Cache o0.Caches), Cell.sl true (List.map eT_Event o0.Log), Cell.sl true (List.map eT_Accept o0.Accepts), Cell.sl true (List.map eI o0.Leaked)]] [V.one (cL r)] [[Cell.sl true (List.map eI o0.Config.UserRealm), Cell.sl true (List.map eI o0.Config.ServiceRealm), Cell.sl true (List.map eT_Pair o0.Config.Links), Cell.sl true (List.map eT_Pair o0.Config.Proxy), cI o0.Config.Skew, cI o0.Now, cI o0.Fresh, Cell.sl true (List.map eS o0.Net), Cell.sl true (List.map eS o0.Known.Terms), Cell.sl true (List.map eI o0.Known.Keys), Cell.sl true (List.map eT_Wait o0.Waits), Cell.sl true (List.map eT_Cred o0.Creds), Cell.sl true (List.map eT_Cache o0.Caches), Cell.sl true (List.map eT_Event o0.Log), Cell.sl true (List.map eT_Accept o0.Accepts), Cell.sl true (List.map eI o0.Leaked)]] := by
 refine Gives.intro func214 rfl rfl rfl rfl ?_; refine fx fun w0 T S0 ob oh hm => ?_
 have hF := fxe w0 T S0 8 ob oh
 unfold I_Secret_1 at H; obtain ⟨K, hK⟩ := leK k; refine sg 1 ?_; refine sy 3 ?_; refine cB 19 ent51 (g51 k true o0.Leaked a0) H fun r1 H => ?_; refine gn 1 ?_; cases H; exact WpC.ret rt
/-! ### V_IndexFunc_int__impl_Secret_1 -/
def V_IndexFunc_int__impl_Secret_1.l2 : Nat → (List Int) → Int → Int → T_World → Option (Int × T_World)
 | 0, _, _, _, _ => none
 | k2 + 1, v39, v40, v41, v42 => cond (decide (v41 < v40)) ((at? v39 v41).bind fun b45 => (I_Secret_1 k2 b45 v42).bind fun r46 => cond r46 (some (v41, v42)) ((V_IndexFunc_int__impl_Secret_1.l2 k2) v39 v40 (IntKind.i64.wrap (v41 + 1)) v42)) (some ((-1), v42))
def V_IndexFunc_int__impl_Secret_1 (k : Nat) (a0 : List Int) (o0 : T_World) : Option (Int × T_World) := V_IndexFunc_int__impl_Secret_1.l2 k a0 (a0.length : Int) 0 o0
theorem V_IndexFunc_int__impl_Secret_1_gives (k : Nat) (g0 : Bool) (a0 : List Int) (o0 : T_World) (r : Int × T_World) (H : V_IndexFunc_int__impl_Secret_1 k a0 o0 = some r) : Gives Tryz.prog 166 [V.one (Cell.sl g0 (List.map eI a0)), V.one (Cell.clo 214 [Cell.ptr 0 0])] [[Cell.sl true (List.map eI o0.Config.UserRealm), Cell.sl true (List.map eI o0.Config.ServiceRealm), Cell.sl true (List.map eT_Pair o0.Config.Links), Cell.sl true (List.map eT_Pair o0.Config.Proxy), cI o0.Config.Skew, cI o0.Now, cI o0.Fresh, Cell.sl true (List.map eS o0.Net), Cell.sl true (List.map eS o0.Known.Terms), Cell.sl true (List.map eI o0.Known.Keys), Cell.sl true (List.map eT_Wait o0.Waits), Cell.sl true (List.map eT_Cred o0.Creds), Cell.sl true (List.map eT_Cache o0.Caches), Cell.sl true (List.map eT_Event o0.Log), Cell.sl true (List.map eT_Accept o0.Accepts), Cell.sl true (List.map eI o0.Leaked)]] [V.one (cI r.1)] [[Cell.sl true (List.map eI r.2.Config.UserRealm), Cell.sl true (List.map eI r.2.Config.ServiceRealm), Cell.sl true (List.map eT_Pair r.2.Config.Links), Cell.sl true (List.map eT_Pair r.2.Config.Proxy), cI r.2.Config.Skew, cI r.2.Now, cI r.2.Fresh, Cell.sl true (List.map eS r.2.Net), Cell.sl true (List.map eS r.2.Known.Terms), Cell.sl true (List.map eI r.2.Known.Keys), Cell.sl true (List.map eT_Wait r.2.Waits), Cell.sl true (List.map eT_Cred r.2.Creds), Cell.sl true (List.map eT_Cache r.2.Caches), Cell.sl true (List.map eT_Event r.2.Log), Cell.sl true (List.map eT_Accept r.2.Accepts), Cell.sl true (List.map eI r.2.Leaked)]] := by
 refine Gives.intro func166 rfl rfl rfl rfl ?_; refine fx fun w0 T S0 ob oh hm => ?_
 have hF := fxe w0 T S0 19 ob oh
 unfold V_IndexFunc_int__impl_Secret_1 at H; obtain ⟨K, hK⟩ := leK k; refine sg 1 ?_; refine WpC.seq (sr ?_); refine mv ?_; refine L.lenR (xs := a0) (e := eI) underlying24 hF rfl rfl rfl rfl ?_; refine gn 1 ?_; refine WpC.block ?_; refine WpC.loopL (P := Tryz.prog) (fun n σ => ∃ (v39 : List Int) (v40 v41 : Int) (v42 : T_World), n ≤ K ∧ V_IndexFunc_int__impl_Secret_1.l2 n v39 v40 v41 v42 = some r ∧ σ = mkSt [(0, MG.one (Cell.sl g0 (List.map eI v39))), (1, MG.one (Cell.clo 214 [Cell.ptr 0 0])), (7, oI v40), (8, oI v41)] [] [(0, (bT_World true true true true true true true true true true true true true v42))] 1) k ⟨_, ⟨a0, (a0.length : Int), 0, o0, by omega, H, rfl⟩, lm [(0, 0)] hm⟩ ?_; clear H
 rintro k2 _ ⟨v39, v40, v41, v42, hk2, H, rfl⟩
 cases k2 with
 | zero => cases H
 | succ k2 =>
  rw [V_IndexFunc_int__impl_Secret_1.l2] at H
  refine sg 1 ?_; refine WpC.seq ?_; refine cd H (fun hc H => ?_) (fun hc H => ?_)
  ·refine WpC.skip (WpC.seq (WpC.block (sr ?_))); refine gn 2 ?_; refine sy 3 ?_; obtain ⟨b45, hb45, H⟩ := bindS H; refine ix underlying24 info3 hb45 ?_; refine le shape3 ?_; obtain ⟨r46, hr46, H⟩ := bindS H; refine ca [false] [] [0] 1 ent214 (g214 k2  b45 v42 r46 hr46) (L.nil ?_); refine cd H (fun hc H => ?_) (fun hc H => ?_)
   ·refine sg 2 ?_; cases H; exact WpC.ret rt
   ·refine WpC.skip (WpC.regionL ?_); refine gn 2 ?_; exact ⟨k2, _, by omega, ⟨v39, v40, (IntKind.i64.wrap (v41 + 1)), v42, by omega, H, rfl⟩, lm [(0, 0)] hm⟩
  ·refine WpC.exit (sr ?_); refine gn 1 ?_; cases H; exact WpC.ret rt
/-! ### V_ContainsFunc_int__impl_Secret_1 -/
def V_ContainsFunc_int__impl_Secret_1 (k : Nat) (a0 : List Int) (o0 : T_World) : Option (Bool × T_World) := (V_IndexFunc_int__impl_Secret_1 k a0 o0).bind fun r1 => some ((decide (r1.1 ≥ 0)), r1.2)
theorem V_ContainsFunc_int__impl_Secret_1_gives (k : Nat) (g0 : Bool) (a0 : List Int) (o0 : T_World) (r : Bool × T_World) (H : V_ContainsFunc_int__impl_Secret_1 k a0 o0 = some r) : Gives Tryz.prog 114 [V.one (Cell.sl g0 (List.map eI a0)), V.one (Cell.clo 214 [Cell.ptr 0 0])] [[Cell.sl true (List.map eI o0.Config.UserRealm), Cell.sl true (List.map eI o0.Config.ServiceRealm), Cell.sl true (List.map eT_Pair o0.Config.Links), Cell.sl true (List.map eT_Pair o0.Config.Proxy), cI o0.Config.Skew, cI o0.Now, cI o0.Fresh, Cell.sl true (List.map eS o0.Net), Cell.sl true (List.map eS o0.Known.Terms), Cell.sl true (List.map eI o0.Known.Keys), Cell.sl true (List.map eT_Wait o0.Waits), Cell.sl true (List.map eT_Cred o0.Creds), Cell.sl true (List.map eT_Cache o0.Caches), Cell.sl true (List.map eT_Event o0.Log), Cell.sl true (List.map eT_Accept o0.Accepts), Cell.sl true (List.map eI o0.Leaked)]] [V.one (cL r.1)] [[Cell.sl true (List.map eI r.2.Config.UserRealm), Cell.sl true (List.map eI r.2.Config.ServiceRealm), Cell.sl true (List.map eT_Pair r.2.Config.Links), Cell.sl true (List.map eT_Pair r.2.Config.Proxy), cI r.2.Config.Skew, cI r.2.Now, cI r.2.Fresh, Cell.sl true (List.map eS r.2.Net), Cell.sl true (List.map eS r.2.Known.Terms), Cell.sl true (List.map eI r.2.Known.Keys), Cell.sl true (List.map eT_Wait r.2.Waits), Cell.sl true (List.map eT_Cred r.2.Creds), Cell.sl true (List.map eT_Cache r.2.Caches), Cell.sl true (List.map eT_Event r.2.Log), Cell.sl true (List.map eT_Accept r.2.Accepts), Cell.sl true (List.map eI r.2.Leaked)]] := by
 refine Gives.intro func114 rfl rfl rfl rfl ?_; refine fx fun w0 T S0 ob oh hm => ?_
 have hF := fxe w0 T S0 9 ob oh
 unfold V_ContainsFunc_int__impl_Secret_1 at H; obtain ⟨K, hK⟩ := leK k; refine sg 1 ?_; refine sy 2 ?_; obtain ⟨r1, hr1, H⟩ := bindS H; refine ca [false, false] [] [0] 19 ent166 (V_IndexFunc_int__impl_Secret_1_gives k g0 a0 o0 r1 hr1) ?_; refine gn 2 ?_; cases H; exact WpC.ret rt
/-! ### I_Secret -/
def I_Secret.j8 (cl7 : (List Int) → T_World → Int → Int → T_World → Option Bool) (k : Nat) (v108 : List Int) (v109 : T_World) (v110 v111 : Int) (v112 : T_World) : Option Bool := cl7 v108 v109 v110 (IntKind.i64.wrap (v111 + 1)) v112
def I_Secret.l7 : Nat → (List Int) → T_World → Int → Int → T_World → Option Bool
 | 0, _, _, _, _, _ => none
 | k7 + 1, v98, v99, v100, v101, v102 => cond (decide (v101 < v100)) ((at? v99.Log v101).bind fun b113 => (I_Roots k7 v102.Config v102.Log b113.Key).bind fun r114 => (V_ContainsFunc_int__impl_Secret_1 k7 r114 v102).bind fun r115 => cond (decide ((r114.length : Int) > 0)) (cond (!r115.1) ((V_Contains_int k7 v98 b113.Key).bind fun r117 => cond r117 (some false) (I_Secret.j8 (I_Secret.l7 k7) k7 v98 v99 v100 v101 r115.2)) (I_Secret.j8 (I_Secret.l7 k7) k7 v98 v99 v100 v101 r115.2)) (I_Secret.j8 (I_Secret.l7 k7) k7 v98 v99 v100 v101 r115.2)) (some true)
def I_Secret (k : Nat) (a0 : T_World) : Option Bool := (I_WorldOk k a0).bind fun r2 => cond (!r2) (some false) ((I_Reach k a0.Known).bind fun r3 => I_Secret.l7 k r3 a0 (a0.Log.length : Int) 0 a0)
theorem ent179 : MG.Enters Tryz.prog 179 := en func179
theorem I_Secret_t (k : Nat) (a0 : T_World) (r : Bool) (H : I_Secret k a0 = some r) : Gives Tryz.prog 179 [V.agg (bT_World true true true true true true true true true true true true true a0)] [] [V.one (cL r)] [] := by
 refine Gives.intro func179 rfl rfl rfl rfl ?_; refine fx fun w0 T S0 ob oh hm => ?_
 have hF := fxe w0 T S0 45 ob oh
 unfold I_Secret at H; obtain ⟨K, hK⟩ := leK k; refine sr ?_; refine bo 16 ?_; refine gn 1 ?_; refine WpC.seq (sr ?_); refine lp shape43 ?_; refine cB 17 ent60 (g60 k true true true true true true true true true true true true true a0) H fun r2 H => ?_; refine gn 1 ?_; refine cd H (fun hc H => ?_) (fun hc H => ?_)
 ·refine sg 1 ?_; cases H; exact WpC.ret rt
 ·refine WpC.skip (sr ?_); refine go 2 ?_; refine cB 18 ent14 (g14 k true true a0.Known) H fun r3 H => ?_; refine gn 1 ?_; refine WpC.seq (sr ?_); refine go 2 ?_; refine L.lenR (xs := a0.Log) (e := eT_Event) underlying40 hF rfl rfl rfl rfl ?_; refine gn 1 ?_; refine WpC.block ?_; refine WpC.loopL (P := Tryz.prog) (fun n σ => ∃ (v98 : List Int) (v99 : T_World) (v100 v101 : Int) (v102 : T_World), n ≤ K ∧ I_Secret.l7 n v98 v99 v100 v101 v102 = some r ∧ σ = mkSt [(1, oP 0 0), (3, MG.one (Cell.own 1)), (15, MG.one (Cell.sl true (List.map eT_Event v99.Log))), (16, oI v100), (17, oI v101)] [(1, ⟨1, List.map eI v98⟩)] [(0, (bT_World true true true true true true true true true true true true true v102))] 2) k ⟨_, ⟨r3, a0, (a0.Log.length : Int), 0, a0, by omega, H, rfl⟩, lm [(0, 16), (1, 18)] hm⟩ ?_; clear H
  rintro k7 _ ⟨v98, v99, v100, v101, v102, hk7, H, rfl⟩
  cases k7 with
  | zero => cases H
  | succ k7 =>
   rw [I_Secret.l7] at H
   refine sg 1 ?_; refine WpC.seq ?_; refine cd H (fun hc H => ?_) (fun hc H => ?_)
   ·refine WpC.skip ?_; refine WpC.join (fun σ => ∃ (kj8 : Nat) (v108 : List Int) (v109 : T_World) (v110 v111 : Int) (v112 : T_World), kj8 ≤ K ∧ I_Secret.j8 (I_Secret.l7 k7) kj8 v108 v109 v110 v111 v112 = some r ∧ σ = mkSt [(1, oP 0 0), (3, MG.one (Cell.own 1)), (15, MG.one (Cell.sl true (List.map eT_Event v109.Log))), (16, oI v110), (17, oI v111)] [(1, ⟨1, List.map eI v108⟩)] [(0, (bT_World true true true true true true true true true true true true true v112))] 2) ?_ ?_
    ·rintro _ ⟨kj8, v108, v109, v110, v111, v112, hkj8, H, rfl⟩
     unfold I_Secret.j8 at H; refine WpC.regionL ?_; refine gn 2 ?_; exact ⟨k7, _, by omega, ⟨v108, v109, v110, (IntKind.i64.wrap (v111 + 1)), v112, by omega, H, rfl⟩, lm [(0, 0), (1, 1)] hm⟩
    ·refine WpC.block (sr ?_); obtain ⟨b113, hb113, H⟩ := bindS H; refine ix underlying40 info47 hb113 ?_; refine le shape47 ?_; refine alc 2 info47 ?_; refine gn 1 ?_; refine sy 6 ?_; refine cB 3 ent30 (g30 k7 true true true true true v102.Config v102.Log b113.Key) H fun r114 H => ?_; refine gn 1 ?_; refine sy 1 ?_; refine L.makeFunc hF rfl rfl rfl ?_; obtain ⟨r115, hr115, H⟩ := bindS H; refine ca [false, false] [3] [0] 4 ent114 (V_ContainsFunc_int__impl_Secret_1_gives k7 false r114 v102 r115 hr115) ?_; refine gn 1 ?_; refine sy 1 ?_; refine L.lenR (xs := r114) (e := eI) underlying24 hF rfl rfl rfl rfl ?_; refine go 2 ?_; refine sH H (fun hc H => ?_) (fun hc H => ?_)
     ·refine go 4 ?_; refine sH H (fun hc H => ?_) (fun hc H => ?_)
      ·refine go 3 ?_; obtain ⟨r117, hr117, H⟩ := bindS H; refine ca [false, false] [1] [] 21 ent51 (g51 k7 false v98 b113.Key r117 hr117) ?_; refine gn 1 ?_; refine cd H (fun hc H => ?_) (fun hc H => ?_)
       ·refine sg 1 ?_; cases H; exact WpC.ret rt
       ·refine WpC.skip ?_; exact ⟨_, ⟨k7, v98, v99, v100, v101, r115.2, by omega, H, rfl⟩, lm [(0, 0), (1, 1)] hm⟩
      ·refine gn 5 ?_; refine cF ?_; refine WpC.skip ?_; exact ⟨_, ⟨k7, v98, v99, v100, v101, r115.2, by omega, H, rfl⟩, lm [(0, 0), (1, 1)] hm⟩
     ·refine gn 9 ?_; refine cF ?_; refine WpC.skip ?_; exact ⟨_, ⟨k7, v98, v99, v100, v101, r115.2, by omega, H, rfl⟩, lm [(0, 0), (1, 1)] hm⟩
   ·refine WpC.exit (sr ?_); refine gn 1 ?_; cases H; exact WpC.ret rt
theorem g179 (k : Nat) (l0 l1 l2 l3 l4 l5 l6 l7 l8 l9 l10 l11 l12 : Bool) (a0 : T_World) (r : Bool) (H : I_Secret k a0 = some r) : Gives Tryz.prog 179 [V.agg (bT_World l0 l1 l2 l3 l4 l5 l6 l7 l8 l9 l10 l11 l12 a0)] [] [V.one (cL r)] [] :=
 Gives.lend (I_Secret_t k a0 r H) rfl rfl (by simp [V.solid, Cell.solid, csolid, rsolid, rsolid_map, eI, cI, cL, cS, im])
/-! ### I_yesNo -/
def I_yesNo (k : Nat) (a0 : Bool) : Option (List UInt8) := cond a0 (some ([121, 101, 115] : List UInt8)) (some ([110, 111] : List UInt8))
theorem ent128 : MG.Enters Tryz.prog 128 := en func128
theorem g128 (k : Nat) (a0 : Bool) (r : List UInt8) (H : I_yesNo k a0 = some r) : Gives Tryz.prog 128 [V.one (cL a0)] [] [V.one (cS r)] [] := by
 refine Gives.intro func128 rfl rfl rfl rfl ?_; refine fx fun w0 T S0 ob oh hm => ?_
 have hF := fxe w0 T S0 4 ob oh
 unfold I_yesNo at H; obtain ⟨K, hK⟩ := leK k; refine sg 1 ?_; refine WpC.seq (sr ?_); refine gn 1 ?_; refine cd H (fun hc H => ?_) (fun hc H => ?_)
 ·refine sg 1 ?_; cases H; exact WpC.ret rt
 ·refine WpC.skip (sr ?_); refine gn 1 ?_; cases H; exact WpC.ret rt
/-! ### I_World_bare -/
def I_World_bare (k : Nat) (a1 : List UInt8) (o0 : T_World) : Option (List UInt8) := cond (a1 == ([97, 99, 99, 101, 112, 116, 115] : List UInt8)) ((I_Dec k (o0.Accepts.length : Int)).bind fun r38 => cond (decide ((o0.Accepts.length : Int) > 0)) ((at? o0.Accepts (IntKind.i64.wrap ((o0.Accepts.length : Int) - 1))).bind fun b49 => cond (decide (r38.length + ([32] : List UInt8).length ≤ 9223372036854775807)) ((I_Dec k b49.Client).bind fun r51 => cond (decide ((r38 ++ ([32] : List UInt8)).length + r51.length ≤ 9223372036854775807)) (cond (decide (((r38 ++ ([32] : List UInt8)) ++ r51).length + ([32] : List UInt8).length ≤ 9223372036854775807)) ((I_Dec k b49.Server).bind fun r54 => cond (decide ((((r38 ++ ([32] : List UInt8)) ++ r51) ++ ([32] : List UInt8)).length + r54.length ≤ 9223372036854775807)) (cond (decide (((((r38 ++ ([32] : List UInt8)) ++ r51) ++ ([32] : List UInt8)) ++ r54).length + ([32] : List UInt8).length ≤ 9223372036854775807)) ((I_Dec k b49.Op).bind fun r57 => cond (decide ((((((r38 ++ ([32] : List UInt8)) ++ r51) ++ ([32] : List UInt8)) ++ r54) ++ ([32] : List UInt8)).length + r57.length ≤ 9223372036854775807)) (some ((((((r38 ++ ([32] : List UInt8)) ++ r51) ++ ([32] : List UInt8)) ++ r54) ++ ([32] : List UInt8)) ++ r57)) none) none) none) none) none) none) (some r38)) (cond (a1 == ([116, 114, 117, 116, 104] : List UInt8)) ((I_Authentic k o0).bind fun r67 => cond r67 ((I_Narrow k o0).bind fun r68 => cond r68 ((I_Once k o0).bind fun r69 => cond r69 ((I_Secret k o0).bind fun r70 => (I_yesNo k r70).bind fun r71 => some r71) ((I_yesNo k false).bind fun r72 => some r72)) ((I_yesNo k false).bind fun r73 => some r73)) ((I_yesNo k false).bind fun r74 => some r74)) (some ([119, 104, 97, 116] : List UInt8)))
theorem ent125 : MG.Enters Tryz.prog 125 := en func125
theorem g125 (k : Nat) (a1 : List UInt8) (o0 : T_World) (r : List UInt8) (H : I_World_bare k a1 o0 = some r) : Gives Tryz.prog 125 [V.one (Cell.ptr 0 0), V.one (cS a1)] [[Cell.ow 1 (List.map eI o0.Config.UserRealm), Cell.ow 1 (List.map eI o0.Config.ServiceRealm), Cell.ow 2 (List.map eT_Pair o0.Config.Links), Cell.ow 2 (List.map eT_Pair o0.Config.Proxy), cI o0.Config.Skew, cI o0.Now, cI o0.Fresh, Cell.ow 1 (List.map eS o0.Net), Cell.ow 1 (List.map eS o0.Known.Terms), Cell.ow 1 (List.map eI o0.Known.Keys), Cell.ow 4 (List.map eT_Wait o0.Waits), Cell.ow 8 (List.map eT_Cred o0.Creds), Cell.ow 2 (List.map eT_Cache o0.Caches), Cell.ow 11 (List.map eT_Event o0.Log), Cell.ow 15 (List.map eT_Accept o0.Accepts), Cell.ow 1 (List.map eI o0.Leaked)]] [V.one (cS r)] [[Cell.ow 1 (List.map eI o0.Config.UserRealm), Cell.ow 1 (List.map eI o0.Config.ServiceRealm), Cell.ow 2 (List.map eT_Pair o0.Config.Links), Cell.ow 2 (List.map eT_Pair o0.Config.Proxy), cI o0.Config.Skew, cI o0.Now, cI o0.Fresh, Cell.ow 1 (List.map eS o0.Net), Cell.ow 1 (List.map eS o0.Known.Terms), Cell.ow 1 (List.map eI o0.Known.Keys), Cell.ow 4 (List.map eT_Wait o0.Waits), Cell.ow 8 (List.map eT_Cred o0.Creds), Cell.ow 2 (List.map eT_Cache o0.Caches), Cell.ow 11 (List.map eT_Event o0.Log), Cell.ow 15 (List.map eT_Accept o0.Accepts), Cell.ow 1 (List.map eI o0.Leaked)]] := by
 refine Gives.intro func125 rfl rfl rfl rfl ?_; refine fx fun w0 T S0 ob oh hm => ?_
 have hF := fxe w0 T S0 74 ob oh
 unfold I_World_bare at H; obtain ⟨K, hK⟩ := leK k; refine sg 1 ?_; refine WpC.seq (sr ?_); refine gn 1 ?_; refine WpC.block (sr ?_); refine L.binS hF rfl rfl rfl rfl rfl ?_; refine gn 1 ?_; refine cd H (fun hc H => ?_) (fun hc H => ?_)
 ·refine sy 1 ?_; refine L.nilCheck hF rfl rfl rfl rfl ?_; refine go 2 ?_; refine L.lenR (xs := o0.Accepts) (e := eT_Accept) underlying41 hF rfl rfl rfl rfl ?_; refine cB 19 ent175 (g175 k  (o0.Accepts.length : Int)) H fun r38 H => ?_; refine gn 1 ?_; refine WpC.seq (sr ?_); refine mv ?_; refine L.nilCheck hF rfl rfl rfl rfl ?_; refine go 2 ?_; refine L.lenR (xs := o0.Accepts) (e := eT_Accept) underlying41 hF rfl rfl rfl rfl ?_; refine gn 1 ?_; refine sg 2 ?_; refine cd H (fun hc H => ?_) (fun hc H => ?_)
  ·refine sy 1 ?_; refine L.nilCheck hF rfl rfl rfl rfl ?_; refine go 4 ?_; obtain ⟨b49, hb49, H⟩ := bindS H; refine ix underlying41 info58 hb49 ?_; refine L.loadEpF (xs := o0.Accepts) (e := eT_Accept) shape58 hF rfl rfl rfl rfl (at?_get hb49).2 rfl rfl ?_; refine alc 20 info58 ?_; refine gn 1 ?_; obtain ⟨h50, H⟩ := condG H; obtain ⟨r51, hr51, H⟩ := bindS H; obtain ⟨h52, H⟩ := condG H; obtain ⟨h53, H⟩ := condG H; obtain ⟨r54, hr54, H⟩ := bindS H; obtain ⟨h55, H⟩ := condG H; obtain ⟨h56, H⟩ := condG H; obtain ⟨r57, hr57, H⟩ := bindS H; obtain ⟨h58, H⟩ := condG H
   apply ldT ⟨[(5, [(17, some _), (0, some _)]), e0 7 _, ed 32 1 _, ed 33 2 _, ed 34 3 _, ed 35 4 _, ed 36 5 _, ed 37 6 _, ed 38 7 _, ed 39 8 _, ed 40 9 _, ed 41 10 _, ed 42 11 _, ed 43 12 _, ed 44 13 _, ed 45 14 _, ed 46 15 _, ed 47 16 _], [e0 3 _, e0 4 _, e0 5 _, e0 6 _, e0 10 _, e0 11 _, e0 12 _, e0 13 _, e0 14 _, e0 15 _, e0 16 _, e0 17 _, e0 18 _], [e0 0 _, e0 20 _], 24, []⟩ [(0, 101474), (1, 101472), (0, 118392), (4, 118384), (12, 118368), (31, 101440), (63, 101376), (0, 118528), (128, 118272), (412, 117760), (1023, 100352), (2047, 98304), (0, 122880), (4096, 114688), (13212, 98304), (32767, 65536), (65535, 0)] mixed ?L1 ?_
   case L1 =>
    repeat refine ls ?_
    apply lc 24 21 0 [33] [] [] ?h1_1 ?q1_1 ?_
    case h1_1 =>
     intro b; refine L.catS hF rfl rfl rfl rfl (of_decide_eq_true h50) ?_; exact L.nil ⟨rfl, rfl, rfl, rfl⟩
    case' q1_1 => skip
    repeat refine ls ?_
    apply lc 24 21 1 [36] [] [] ?h1_4 ?q1_4 ?_
    case h1_4 =>
     intro b; refine c0 24 ent175 (g175 k  b49.Client r51 hr51) ?_; exact L.nil ⟨rfl, rfl, rfl, rfl⟩
    case' q1_4 => skip
    apply lc 24 22 0 [37] [] [] ?h1_5 ?q1_5 ?_
    case h1_5 =>
     intro b; refine L.catS hF rfl rfl rfl rfl (of_decide_eq_true h52) ?_; exact L.nil ⟨rfl, rfl, rfl, rfl⟩
    case' q1_5 => skip
    apply lc 24 22 0 [38] [] [] ?h1_6 ?q1_6 ?_
    case h1_6 =>
     intro b; refine L.catS hF rfl rfl rfl rfl (of_decide_eq_true h53) ?_; exact L.nil ⟨rfl, rfl, rfl, rfl⟩
    case' q1_6 => skip
    repeat refine ls ?_
    apply lc 24 22 1 [41] [] [] ?h1_9 ?q1_9 ?_
    case h1_9 =>
     intro b; refine c0 24 ent175 (g175 k  b49.Server r54 hr54) ?_; exact L.nil ⟨rfl, rfl, rfl, rfl⟩
    case' q1_9 => skip
    apply lc 24 23 0 [42] [] [] ?h1_10 ?q1_10 ?_
    case h1_10 =>
     intro b; refine L.catS hF rfl rfl rfl rfl (of_decide_eq_true h55) ?_; exact L.nil ⟨rfl, rfl, rfl, rfl⟩
    case' q1_10 => skip
    apply lc 24 23 0 [43] [] [] ?h1_11 ?q1_11 ?_
    case h1_11 =>
     intro b; refine L.catS hF rfl rfl rfl rfl (of_decide_eq_true h56) ?_; exact L.nil ⟨rfl, rfl, rfl, rfl⟩
    case' q1_11 => skip
    repeat refine ls ?_
    apply lc 24 23 1 [46] [] [] ?h1_14 ?q1_14 ?_
    case h1_14 =>
     intro b; refine c0 24 ent175 (g175 k  b49.Op r57 hr57) ?_; exact L.nil ⟨rfl, rfl, rfl, rfl⟩
    case' q1_14 => skip
    apply lc 24 24 0 [47] [] [] ?h1_15 ?q1_15 ?_
    case h1_15 =>
     intro b; refine L.catS hF rfl rfl rfl rfl (of_decide_eq_true h58) ?_; exact L.nil ⟨rfl, rfl, rfl, rfl⟩
    case' q1_15 => skip
    repeat refine ls ?_
    exact trivial
    all_goals exact lq
   refine sg 2 ?_; cases H; exact WpC.ret rt
  ·refine WpC.skip (sr ?_); refine gn 2 ?_; cases H; exact WpC.ret rt
 ·refine sr ?_; refine L.binS hF rfl rfl rfl rfl rfl ?_; refine gn 1 ?_; refine cd H (fun hc H => ?_) (fun hc H => ?_)
  ·refine sy 1 ?_; refine L.nilCheck hF rfl rfl rfl rfl ?_; refine lp shape43 ?_; obtain ⟨r67, hr67, H⟩ := bindS H; refine ca [false] [3, 4, 5, 6, 10, 11, 12, 13, 14, 15, 16, 17, 18] [] 19 ent176 (g176 k false false false false false false false false false false false false false o0 r67 hr67) ?_; refine mv ?_; refine sH H (fun hc H => ?_) (fun hc H => ?_)
   ·refine mv ?_; refine L.nilCheck hF rfl rfl rfl rfl ?_; refine lp shape43 ?_; obtain ⟨r68, hr68, H⟩ := bindS H; refine ca [false] [3, 4, 5, 6, 10, 11, 12, 13, 14, 15, 16, 17, 18] [] 20 ent177 (g177 k false false false false false false false false false false false false false o0 r68 hr68) ?_; refine go 2 ?_; refine sH H (fun hc H => ?_) (fun hc H => ?_)
    ·refine mv ?_; refine L.nilCheck hF rfl rfl rfl rfl ?_; refine lp shape43 ?_; obtain ⟨r69, hr69, H⟩ := bindS H; refine ca [false] [3, 4, 5, 6, 10, 11, 12, 13, 14, 15, 16, 17, 18] [] 21 ent178 (g178 k false false false false false false false false false false false false false o0 r69 hr69) ?_; refine go 2 ?_; refine sH H (fun hc H => ?_) (fun hc H => ?_)
     ·refine mv ?_; refine L.nilCheck hF rfl rfl rfl rfl ?_; refine lp shape43 ?_; obtain ⟨r70, hr70, H⟩ := bindS H; refine ca [false] [3, 4, 5, 6, 10, 11, 12, 13, 14, 15, 16, 17, 18] [] 22 ent179 (g179 k false false false false false false false false false false false false false o0 r70 hr70) ?_; refine pk ?_; refine cB 23 ent128 (g128 k  r70) H fun r71 H => ?_; refine gn 1 ?_; cases H; exact WpC.ret rt
     ·refine go 5 ?_; refine cB 22 ent128 (g128 k  false) H fun r72 H => ?_; refine gn 1 ?_; cases H; exact WpC.ret rt
    ·refine go 11 ?_; refine cB 21 ent128 (g128 k  false) H fun r73 H => ?_; refine gn 1 ?_; cases H; exact WpC.ret rt
   ·refine go 17 ?_; refine cB 20 ent128 (g128 k  false) H fun r74 H => ?_; refine gn 1 ?_; cases H; exact WpC.ret rt
  ·refine WpC.skip (sr ?_); refine gn 1 ?_; cases H; exact WpC.ret rt
/-! ### I_Hex -/
def I_Hex.l2 : Nat → (List UInt8) → (List UInt8) → Int → Option (List UInt8)
 | 0, _, _, _ => none
 | k2 + 1, v65, v66, v67 => cond (decide (v67 < (v65.length : Int))) ((at? v65 v67).bind fun b73 => (at? ([48, 49, 50, 51, 52, 53, 54, 55, 56, 57, 97, 98, 99, 100, 101, 102] : List UInt8) ((shrB b73 4).toNat : Int)).bind fun b74 => (at? v65 v67).bind fun b75 => (at? ([48, 49, 50, 51, 52, 53, 54, 55, 56, 57, 97, 98, 99, 100, 101, 102] : List UInt8) ((b75 &&& (15 : UInt8)).toNat : Int)).bind fun b76 => cond (decide ((2 * (v66.length + ([b74, b76] : List UInt8).length) + 192) * 1 ≤ 281474976710656)) ((I_Hex.l2 k2) v65 (v66 ++ ([b74, b76] : List UInt8)) (IntKind.i64.wrap (v67 + 1))) none) (some v66)
def I_Hex (k : Nat) (a0 : List UInt8) : Option (List UInt8) := cond (decide ((0 : Int) ≤ 0 ∧ 0 ≤ (IntKind.i64.wrap (2 * (a0.length : Int))) ∧ 1 * (IntKind.i64.wrap (2 * (a0.length : Int))) ≤ 281474976710656 ∧ (IntKind.i64.wrap (2 * (a0.length : Int))) ≤ 9223372036854775807)) (I_Hex.l2 k a0 (List.replicate (0 : Int).toNat (0 : UInt8)) 0) none
theorem ent181 : MG.Enters Tryz.prog 181 := en func181
theorem g181 (k : Nat) (a0 r : List UInt8) (H : I_Hex k a0 = some r) : Gives Tryz.prog 181 [V.one (cS a0)] [] [V.one (cS r)] [] := by
 refine Gives.intro func181 rfl rfl rfl rfl ?_; refine fx fun w0 T S0 ob oh hm => ?_
 have hF := fxe w0 T S0 30 ob oh
 unfold I_Hex at H; obtain ⟨K, hK⟩ := leK k; refine sg 1 ?_; refine sy 1 ?_; refine L.lenS underlying9 hF rfl rfl rfl ?_; refine bi ?_; obtain ⟨h1, H⟩ := condG H; refine L.makeSlice (e := eB) 1 (0 : UInt8) underlying22 info5 rfl rfl rfl hF rfl rfl rfl rfl (of_decide_eq_true h1) rfl rfl ?_; refine gn 1 ?_; refine WpC.seq (sr ?_); refine gn 1 ?_; refine WpC.block ?_; refine WpC.loopL (P := Tryz.prog) (fun n σ => ∃ (v65 v66 : List UInt8) (v67 : Int), n ≤ K ∧ I_Hex.l2 n v65 v66 v67 = some r ∧ σ = mkSt [(0, oS v65), (3, MG.one (Cell.own 0)), (4, oI v67)] [(0, ⟨1, List.map eB v66⟩)] [] 1) k ⟨_, ⟨a0, (List.replicate (0 : Int).toNat (0 : UInt8)), 0, by omega, H, rfl⟩, lm [(0, 1)] hm⟩ ?_; clear H
 rintro k2 _ ⟨v65, v66, v67, hk2, H, rfl⟩
 cases k2 with
 | zero => cases H
 | succ k2 =>
  rw [I_Hex.l2] at H
  refine WpC.seq (sr ?_); refine go 2 ?_; refine L.lenS underlying9 hF rfl rfl rfl ?_; refine gn 1 ?_; refine cd H (fun hc H => ?_) (fun hc H => ?_)
  ·refine WpC.skip (WpC.seq (WpC.block ?_)); obtain ⟨b73, hb73, H⟩ := bindS H; obtain ⟨b74, hb74, H⟩ := bindS H; obtain ⟨b75, hb75, H⟩ := bindS H; obtain ⟨b76, hb76, H⟩ := bindS H; obtain ⟨h77, H⟩ := condG H
   apply ldT ⟨[e0 0 _, (3, [(14, some _), (0, some _)]), e0 4 _, ed 15 1 _, ed 16 2 _, ed 17 3 _, ed 18 4 _, ed 19 5 _, ed 20 6 _, ed 21 7 _, ed 22 8 _, ed 23 9 _, ed 24 10 _, ed 25 11 _, ed 26 12 _, ed 27 13 _], [(0, [(13, none), (0, some _)]), ed 1 12 _, ed 2 13 _], [], 3, []⟩ [(0, 12288), (0, 14392), (0, 14392), (6, 14384), (14, 14368), (30, 14336), (0, 16128), (0, 16128), (192, 15872), (448, 15360), (960, 14336), (2046, 12288), (4095, 8192), (8191, 0)] mixed ?L1 ?_
   case L1 =>
    repeat refine ls ?_
    apply lc 3 1 0 [18] [] [] ?h1_3 ?q1_3 ?_
    case h1_3 =>
     intro b; refine L.idxS underlying9 hF rfl rfl rfl rfl hb73 ?_; exact L.nil ⟨rfl, rfl, rfl, rfl⟩
    case' q1_3 => skip
    apply lc 3 1 0 [19] [] [] ?h1_4 ?q1_4 ?_
    case h1_4 =>
     intro b; refine L.shrB hF rfl rfl rfl rfl (by decide) ?_; exact L.nil ⟨rfl, rfl, rfl, rfl⟩
    case' q1_4 => skip
    apply lc 3 1 0 [20] [] [] ?h1_5 ?q1_5 ?_
    case h1_5 =>
     intro b; refine L.idxS underlying9 hF rfl rfl rfl rfl hb74 ?_; exact L.nil ⟨rfl, rfl, rfl, rfl⟩
    case' q1_5 => skip
    repeat refine ls ?_
    apply lc 3 1 0 [23] [] [] ?h1_8 ?q1_8 ?_
    case h1_8 =>
     intro b; refine L.idxS underlying9 hF rfl rfl rfl rfl hb75 ?_; exact L.nil ⟨rfl, rfl, rfl, rfl⟩
    case' q1_8 => skip
    apply lc 3 1 0 [24] [] [] ?h1_9 ?q1_9 ?_
    case h1_9 =>
     intro b; refine L.binB (a := b75) (b := (15 : UInt8)) hF rfl rfl rfl rfl rfl ?_; exact L.nil ⟨rfl, rfl, rfl, rfl⟩
    case' q1_9 => skip
    apply lc 3 1 0 [25] [] [] ?h1_10 ?q1_10 ?_
    case h1_10 =>
     intro b; refine L.idxS underlying9 hF rfl rfl rfl rfl hb76 ?_; exact L.nil ⟨rfl, rfl, rfl, rfl⟩
    case' q1_10 => skip
    apply lc 3 1 1 [26] [1] [] ?h1_11 ?q1_11 ?_
    case h1_11 =>
     intro b; refine L.buildSlice (e := eB) 3 ([b74, b76] : List UInt8) underlying22 info5 rfl rfl rfl hF rfl rfl rfl rfl rfl rfl rfl rfl ?_; exact L.nil ⟨rfl, rfl, rfl, rfl⟩
    case' q1_11 => skip
    apply lc 3 2 1 [27] [2] [] ?h1_12 ?q1_12 ?_
    case h1_12 =>
     intro b; refine L.append (xs := v66) (ys := ([b74, b76] : List UInt8)) (e := eB) 3 underlying22 info5 rfl rfl hF rfl rfl rfl rfl rfl rfl rfl rfl (fun _ => rfl) (fun _ _ h1 h2 => by cases h1; cases h2; rfl) ⟨_, underlying22⟩ (of_decide_eq_true h77) rfl rfl ?_; exact L.nil ⟨rfl, rfl, rfl, rfl⟩
    case' q1_12 => skip
    repeat refine ls ?_
    exact trivial
    all_goals exact lq
   refine WpC.regionL ?_; refine gn 3 ?_; exact ⟨k2, _, by omega, ⟨v65, (v66 ++ ([b74, b76] : List UInt8)), (IntKind.i64.wrap (v67 + 1)), by omega, H, rfl⟩, lm [(0, 2)] hm⟩
  ·refine WpC.exit (sr ?_); refine mv ?_; refine L.b2s (xs := v66) underlying22 underlying5 underlying9 hF rfl rfl rfl rfl ?_; refine gn 1 ?_; cases H; exact WpC.ret rt
/-! ### I_World_one -/
def I_World_one.l14 : Nat → Int → Int → T_World → Option (List UInt8 × T_World)
 | 0, _, _, _ => none
 | k14 + 1, v167, v168, v169 => cond (decide (v168 < (if 200 < v167 then 200 else v167))) ((I_World_act k14 (⟨1, 0, 0, 0, 0, (⟨0, 0, 0⟩ : T_Rest), ([] : List UInt8)⟩ : T_Act) v169).bind fun r171 => (I_World_one.l14 k14) v167 (IntKind.i64.wrap (v168 + 1)) r171.2) ((I_Dec k14 v169.Now).bind fun r172 => some (r172, v169))
def I_World_one.j22 (cl21 : Int → Int → T_World → Int → Int → Option (List UInt8 × T_World)) (k : Nat) (v238 v239 : Int) (v240 : T_World) (v241 v242 : Int) : Option (List UInt8 × T_World) := cl21 v238 v239 v240 v241 (IntKind.i64.wrap (v242 + 1))
def I_World_one.l21 : Nat → Int → Int → T_World → Int → Int → Option (List UInt8 × T_World)
 | 0, _, _, _, _, _ => none
 | k21 + 1, v232, v233, v234, v235, v236 => cond (decide (v236 < v235)) ((at? v234.Creds v236).bind fun b243 => cond (b243.Owner == v232) (I_World_one.j22 (I_World_one.l21 k21) k21 v232 (IntKind.i64.wrap (v233 + 1)) v234 v235 v236) (I_World_one.j22 (I_World_one.l21 k21) k21 v232 v233 v234 v235 v236)) ((I_Dec k21 v233).bind fun r244 => some (r244, v234))
def I_World_one.l24 : Nat → Int → (List Int) → Int → Int → T_World → Option (List UInt8 × T_World)
 | 0, _, _, _, _, _ => none
 | k24 + 1, v280, v281, v282, v283, v284 => cond (decide (v283 < v282)) ((at? v281 v283).bind fun b286 => cond (b286 == v280) (some (([121, 101, 115] : List UInt8), v284)) ((I_World_one.l24 k24) v280 v281 v282 (IntKind.i64.wrap (v283 + 1)) v284)) (some (([110, 111] : List UInt8), v284))
def I_World_one (k : Nat) (a1 : List UInt8) (a2 : Int) (o0 : T_World) : Option (List UInt8 × T_World) := cond (a1 == ([116, 105, 99, 107] : List UInt8)) (I_World_one.l14 k a2 0 o0) (cond (a1 == ([108, 111, 103, 105, 110] : List UInt8)) ((I_World_act k (⟨2, a2, 0, 0, 0, (⟨0, 0, 0⟩ : T_Rest), ([] : List UInt8)⟩ : T_Act) o0).bind fun r173 => some (r173.1, r173.2)) (cond (a1 == ([108, 101, 97, 107] : List UInt8)) ((I_World_act k (⟨8, a2, 0, 0, 0, (⟨0, 0, 0⟩ : T_Rest), ([] : List UInt8)⟩ : T_Act) o0).bind fun r174 => some (r174.1, r174.2)) (cond (a1 == ([114, 101, 115, 116, 97, 114, 116] : List UInt8)) ((I_World_act k (⟨10, a2, 0, 0, 0, (⟨0, 0, 0⟩ : T_Rest), ([] : List UInt8)⟩ : T_Act) o0).bind fun r175 => some (r175.1, r175.2)) (cond (a1 == ([110, 101, 116] : List UInt8)) ((I_World_message k a2 o0).bind fun r176 => cond (!r176.2) (some (([110, 111, 110, 101] : List UInt8), o0)) ((I_Hex k r176.1).bind fun r177 => some (r177, o0))) (cond (a1 == ([99, 114, 101, 100, 115] : List UInt8)) (I_World_one.l21 k a2 0 o0 (o0.Creds.length : Int) 0) (cond (a1 == ([107, 110, 111, 119, 115] : List UInt8)) ((I_Reach k o0.Known).bind fun r266 => I_World_one.l24 k a2 r266 (r266.length : Int) 0 o0) (some (([119, 104, 97, 116] : List UInt8), o0))))))))
theorem ent126 : MG.Enters Tryz.prog 126 := en func126
theorem g126 (k : Nat) (a1 : List UInt8) (a2 : Int) (o0 : T_World) (r : List UInt8 × T_World) (H : I_World_one k a1 a2 o0 = some r) : Gives Tryz.prog 126 [V.one (Cell.ptr 0 0), V.one (cS a1), V.one (cI a2)] [[Cell.ow 1 (List.map eI o0.Config.UserRealm), Cell.ow 1 (List.map eI o0.Config.ServiceRealm), Cell.ow 2 (List.map eT_Pair o0.Config.Links), Cell.ow 2 (List.map eT_Pair o0.Config.Proxy), cI o0.Config.Skew, cI o0.Now, cI o0.Fresh, Cell.ow 1 (List.map eS o0.Net), Cell.ow 1 (List.map eS o0.Known.Terms), Cell.ow 1 (List.map eI o0.Known.Keys), Cell.ow 4 (List.map eT_Wait o0.Waits), Cell.ow 8 (List.map eT_Cred o0.Creds), Cell.ow 2 (List.map eT_Cache o0.Caches), Cell.ow 11 (List.map eT_Event o0.Log), Cell.ow 15 (List.map eT_Accept o0.Accepts), Cell.ow 1 (List.map eI o0.Leaked)]] [V.one (cS r.1)] [[Cell.ow 1 (List.map eI r.2.Config.UserRealm), Cell.ow 1 (List.map eI r.2.Config.ServiceRealm), Cell.ow 2 (List.map eT_Pair r.2.Config.Links), Cell.ow 2 (List.map eT_Pair r.2.Config.Proxy), cI r.2.Config.Skew, cI r.2.Now, cI r.2.Fresh, Cell.ow 1 (List.map eS r.2.Net), Cell.ow 1 (List.map eS r.2.Known.Terms), Cell.ow 1 (List.map eI r.2.Known.Keys), Cell.ow 4 (List.map eT_Wait r.2.Waits), Cell.ow 8 (List.map eT_Cred r.2.Creds), Cell.ow 2 (List.map eT_Cache r.2.Caches), Cell.ow 11 (List.map eT_Event r.2.Log), Cell.ow 15 (List.map eT_Accept r.2.Accepts), Cell.ow 1 (List.map eI r.2.Leaked)]] := by
 refine Gives.intro func126 rfl rfl rfl rfl ?_; refine fx fun w0 T S0 ob oh hm => ?_
 have hF := fxe w0 T S0 98 ob oh
 unfold I_World_one at H; obtain ⟨K, hK⟩ := leK k; refine sg 1 ?_; refine WpC.seq (sr ?_); refine gn 1 ?_; refine WpC.block (sr ?_); refine L.binS hF rfl rfl rfl rfl rfl ?_; refine gn 1 ?_; refine cd H (fun hc H => ?_) (fun hc H => ?_)
 ·refine WpC.seq (sr ?_); refine gn 1 ?_; refine WpC.block ?_; refine WpC.loopL (P := Tryz.prog) (fun n σ => ∃ (v167 v168 : Int) (v169 : T_World), n ≤ K ∧ I_World_one.l14 n v167 v168 v169 = some r ∧ σ = mkSt [(0, oP 0 0), (2, oI v167), (7, oI v168)] [(1, ⟨1, List.map eI v169.Config.UserRealm⟩), (2, ⟨1, List.map eI v169.Config.ServiceRealm⟩), (3, ⟨2, List.map eT_Pair v169.Config.Links⟩), (4, ⟨2, List.map eT_Pair v169.Config.Proxy⟩), (5, ⟨1, List.map eS v169.Net⟩), (6, ⟨1, List.map eS v169.Known.Terms⟩), (7, ⟨1, List.map eI v169.Known.Keys⟩), (8, ⟨4, List.map eT_Wait v169.Waits⟩), (9, ⟨8, List.map eT_Cred v169.Creds⟩), (10, ⟨2, List.map eT_Cache v169.Caches⟩), (11, ⟨11, List.map eT_Event v169.Log⟩), (12, ⟨15, List.map eT_Accept v169.Accepts⟩), (13, ⟨1, List.map eI v169.Leaked⟩)] [(0, [Cell.own 1, Cell.own 2, Cell.own 3, Cell.own 4, cI v169.Config.Skew, cI v169.Now, cI v169.Fresh, Cell.own 5, Cell.own 6, Cell.own 7, Cell.own 8, Cell.own 9, Cell.own 10, Cell.own 11, Cell.own 12, Cell.own 13])] 14) k ⟨_, ⟨a2, 0, o0, by omega, H, rfl⟩, lm [(0, 0), (1, 4), (2, 5), (3, 6), (4, 7), (5, 11), (6, 12), (7, 13), (8, 14), (9, 15), (10, 16), (11, 17), (12, 18), (13, 19)] hm⟩ ?_; clear H
  rintro k14 _ ⟨v167, v168, v169, hk14, H, rfl⟩
  cases k14 with
  | zero => cases H
  | succ k14 =>
   rw [I_World_one.l14] at H
   refine WpC.seq (sr ?_); refine go 2 ?_; refine L.minI hF rfl rfl rfl rfl ?_; refine gn 1 ?_; refine cd H (fun hc H => ?_) (fun hc H => ?_)
   ·refine WpC.skip (WpC.seq (WpC.block (WpC.regionL ?_))); refine mv ?_; refine bf built63 ?_; obtain ⟨r171, hr171, H⟩ := bindS H; refine ca [false, false] [] [0] 14 ent123 (g123 k14  (⟨1, 0, 0, 0, 0, (⟨0, 0, 0⟩ : T_Rest), ([] : List UInt8)⟩ : T_Act) v169 r171 hr171) (L.nil ?_); refine WpC.regionL ?_; refine gn 3 ?_; exact ⟨k14, _, by omega, ⟨v167, (IntKind.i64.wrap (v168 + 1)), r171.2, by omega, H, rfl⟩, lm [(0, 0), (1, 15), (2, 16), (3, 17), (4, 18), (5, 22), (6, 23), (7, 24), (8, 25), (9, 26), (10, 27), (11, 28), (12, 29), (13, 30)] hm⟩
   ·refine WpC.exit (sr ?_); refine mv ?_; refine L.nilCheck hF rfl rfl rfl rfl ?_; refine go 2 ?_; refine cB 14 ent175 (g175 k14  v169.Now) H fun r172 H => ?_; refine gn 1 ?_; cases H; exact WpC.ret rt
 ·refine sr ?_; refine L.binS hF rfl rfl rfl rfl rfl ?_; refine gn 1 ?_; refine cd H (fun hc H => ?_) (fun hc H => ?_)
  ·refine sy 2 ?_; refine bf built63 ?_; obtain ⟨r173, hr173, H⟩ := bindS H; refine ca [false, false] [] [0] 20 ent123 (g123 k  (⟨2, a2, 0, 0, 0, (⟨0, 0, 0⟩ : T_Rest), ([] : List UInt8)⟩ : T_Act) o0 r173 hr173) ?_; refine gn 1 ?_; cases H; exact WpC.ret rt
  ·refine sr ?_; refine L.binS hF rfl rfl rfl rfl rfl ?_; refine gn 1 ?_; refine cd H (fun hc H => ?_) (fun hc H => ?_)
   ·refine sy 2 ?_; refine bf built63 ?_; obtain ⟨r174, hr174, H⟩ := bindS H; refine ca [false, false] [] [0] 20 ent123 (g123 k  (⟨8, a2, 0, 0, 0, (⟨0, 0, 0⟩ : T_Rest), ([] : List UInt8)⟩ : T_Act) o0 r174 hr174) ?_; refine gn 1 ?_; cases H; exact WpC.ret rt
   ·refine sr ?_; refine L.binS hF rfl rfl rfl rfl rfl ?_; refine gn 1 ?_; refine cd H (fun hc H => ?_) (fun hc H => ?_)
    ·refine sy 2 ?_; refine bf built63 ?_; obtain ⟨r175, hr175, H⟩ := bindS H; refine ca [false, false] [] [0] 20 ent123 (g123 k  (⟨10, a2, 0, 0, 0, (⟨0, 0, 0⟩ : T_Rest), ([] : List UInt8)⟩ : T_Act) o0 r175 hr175) ?_; refine gn 1 ?_; cases H; exact WpC.ret rt
    ·refine sr ?_; refine L.binS hF rfl rfl rfl rfl rfl ?_; refine gn 1 ?_; refine cd H (fun hc H => ?_) (fun hc H => ?_)
     ·refine sy 2 ?_; obtain ⟨r176, hr176, H⟩ := bindS H; refine ca [false, false] [] [0] 20 ent180 (g180 k  a2 o0 r176 hr176) ?_; refine gn 5 ?_; refine WpC.seq (sr ?_); refine gn 2 ?_; refine cd H (fun hc H => ?_) (fun hc H => ?_)
      ·refine sg 1 ?_; cases H; exact WpC.ret rt
      ·refine WpC.skip (sr ?_); refine mv ?_; refine cB 38 ent181 (g181 k  r176.1) H fun r177 H => ?_; refine gn 1 ?_; cases H; exact WpC.ret rt
     ·refine sr ?_; refine L.binS hF rfl rfl rfl rfl rfl ?_; refine gn 1 ?_; refine cd H (fun hc H => ?_) (fun hc H => ?_)
      ·refine sg 1 ?_; refine WpC.seq (sr ?_); refine mv ?_; refine L.nilCheck hF rfl rfl rfl rfl ?_; refine go 2 ?_; refine L.lenR (xs := o0.Creds) (e := eT_Cred) underlying38 hF rfl rfl rfl rfl ?_; refine gn 1 ?_; refine WpC.block ?_
       refine WpC.loopL (P := Tryz.prog) (fun n σ => ∃ (v232 v233 : Int) (v234 : T_World) (v235 v236 : Int), n ≤ K ∧ I_World_one.l21 n v232 v233 v234 v235 v236 = some r ∧ σ = mkSt [(2, oI v232), (10, oI v233), (67, MG.one (Cell.own 1)), (68, oI v235), (69, oI v236)] [(1, ⟨8, List.map eT_Cred v234.Creds⟩), (2, ⟨1, List.map eI v234.Config.UserRealm⟩), (3, ⟨1, List.map eI v234.Config.ServiceRealm⟩), (4, ⟨2, List.map eT_Pair v234.Config.Links⟩), (5, ⟨2, List.map eT_Pair v234.Config.Proxy⟩), (6, ⟨1, List.map eS v234.Net⟩), (7, ⟨1, List.map eS v234.Known.Terms⟩), (8, ⟨1, List.map eI v234.Known.Keys⟩), (9, ⟨4, List.map eT_Wait v234.Waits⟩), (10, ⟨2, List.map eT_Cache v234.Caches⟩), (11, ⟨11, List.map eT_Event v234.Log⟩), (12, ⟨15, List.map eT_Accept v234.Accepts⟩), (13, ⟨1, List.map eI v234.Leaked⟩)] [(0, [Cell.own 2, Cell.own 3, Cell.own 4, Cell.own 5, cI v234.Config.Skew, cI v234.Now, cI v234.Fresh, Cell.own 6, Cell.own 7, Cell.own 8, Cell.own 9, Cell.own 1, Cell.own 10, Cell.own 11, Cell.own 12, Cell.own 13])] 14) k ⟨_, ⟨a2, 0, o0, (o0.Creds.length : Int), 0, by omega, H, rfl⟩, lm [(0, 0), (1, 15), (2, 4), (3, 5), (4, 6), (5, 7), (6, 11), (7, 12), (8, 13), (9, 14), (10, 16), (11, 17), (12, 18), (13, 19)] hm⟩ ?_; clear H
       rintro k21 _ ⟨v232, v233, v234, v235, v236, hk21, H, rfl⟩
       cases k21 with
       | zero => cases H
       | succ k21 =>
        rw [I_World_one.l21] at H
        refine sg 1 ?_; refine WpC.seq ?_; refine cd H (fun hc H => ?_) (fun hc H => ?_)
        ·refine WpC.skip ?_; refine WpC.join (fun σ => ∃ (kj22 : Nat) (v238 v239 : Int) (v240 : T_World) (v241 v242 : Int), kj22 ≤ K ∧ I_World_one.j22 (I_World_one.l21 k21) kj22 v238 v239 v240 v241 v242 = some r ∧ σ = mkSt [(2, oI v238), (10, oI v239), (67, MG.one (Cell.own 1)), (68, oI v241), (69, oI v242)] [(1, ⟨8, List.map eT_Cred v240.Creds⟩), (2, ⟨1, List.map eI v240.Config.UserRealm⟩), (3, ⟨1, List.map eI v240.Config.ServiceRealm⟩), (4, ⟨2, List.map eT_Pair v240.Config.Links⟩), (5, ⟨2, List.map eT_Pair v240.Config.Proxy⟩), (6, ⟨1, List.map eS v240.Net⟩), (7, ⟨1, List.map eS v240.Known.Terms⟩), (8, ⟨1, List.map eI v240.Known.Keys⟩), (9, ⟨4, List.map eT_Wait v240.Waits⟩), (10, ⟨2, List.map eT_Cache v240.Caches⟩), (11, ⟨11, List.map eT_Event v240.Log⟩), (12, ⟨15, List.map eT_Accept v240.Accepts⟩), (13, ⟨1, List.map eI v240.Leaked⟩)] [(0, [Cell.own 2, Cell.own 3, Cell.own 4, Cell.own 5, cI v240.Config.Skew, cI v240.Now, cI v240.Fresh, Cell.own 6, Cell.own 7, Cell.own 8, Cell.own 9, Cell.own 1, Cell.own 10, Cell.own 11, Cell.own 12, Cell.own 13])] 14) ?_ ?_
         ·rintro _ ⟨kj22, v238, v239, v240, v241, v242, hkj22, H, rfl⟩
          unfold I_World_one.j22 at H; refine WpC.regionL ?_; refine gn 2 ?_; exact ⟨k21, _, by omega, ⟨v238, v239, v240, v241, (IntKind.i64.wrap (v242 + 1)), by omega, H, rfl⟩, lm [(0, 0), (1, 1), (2, 2), (3, 3), (4, 4), (5, 5), (6, 6), (7, 7), (8, 8), (9, 9), (10, 10), (11, 11), (12, 12), (13, 13)] hm⟩
         ·refine WpC.block (sr ?_); obtain ⟨b243, hb243, H⟩ := bindS H; refine ix underlying38 info146 hb243 ?_; refine L.loadEp (xs := v234.Creds) (e := eT_Cred) shape146 hF rfl rfl rfl rfl (at?_get hb243).2 rfl rfl ?_; refine alc 14 info146 ?_; refine gn 1 ?_; refine sg 4 ?_; refine cd H (fun hc H => ?_) (fun hc H => ?_)
          ·refine WpC.regionL ?_; refine gn 3 ?_; exact ⟨_, ⟨k21, v232, (IntKind.i64.wrap (v233 + 1)), v234, v235, v236, by omega, H, rfl⟩, lm [(0, 0), (1, 1), (2, 2), (3, 3), (4, 4), (5, 5), (6, 6), (7, 7), (8, 8), (9, 9), (10, 10), (11, 11), (12, 12), (13, 13)] hm⟩
          ·refine WpC.skip ?_; exact ⟨_, ⟨k21, v232, v233, v234, v235, v236, by omega, H, rfl⟩, lm [(0, 0), (1, 1), (2, 2), (3, 3), (4, 4), (5, 5), (6, 6), (7, 7), (8, 8), (9, 9), (10, 10), (11, 11), (12, 12), (13, 13)] hm⟩
        ·refine WpC.exit (sr ?_); refine mv ?_; refine cB 14 ent175 (g175 k21  v233) H fun r244 H => ?_; refine gn 1 ?_; cases H; exact WpC.ret rt
      ·refine sr ?_; refine L.binS hF rfl rfl rfl rfl rfl ?_; refine gn 1 ?_; refine cd H (fun hc H => ?_) (fun hc H => ?_)
       ·refine WpC.seq (sr ?_); refine mv ?_; refine L.nilCheck hF rfl rfl rfl rfl ?_; refine go 2 ?_; obtain ⟨r266, hr266, H⟩ := bindS H; refine ca [false] [12, 13] [] 20 ent14 (g14 k false false o0.Known r266 hr266) ?_; refine L.lenR (xs := r266) (e := eI) underlying24 hF rfl rfl rfl rfl ?_; refine gn 1 ?_; refine WpC.block ?_
        refine WpC.loopL (P := Tryz.prog) (fun n σ => ∃ (v280 : Int) (v281 : List Int) (v282 v283 : Int) (v284 : T_World), n ≤ K ∧ I_World_one.l24 n v280 v281 v282 v283 v284 = some r ∧ σ = mkSt [(2, oI v280), (88, MG.one (Cell.own 1)), (89, oI v282), (90, oI v283)] [(1, ⟨1, List.map eI v281⟩), (2, ⟨1, List.map eI v284.Config.UserRealm⟩), (3, ⟨1, List.map eI v284.Config.ServiceRealm⟩), (4, ⟨2, List.map eT_Pair v284.Config.Links⟩), (5, ⟨2, List.map eT_Pair v284.Config.Proxy⟩), (6, ⟨1, List.map eS v284.Net⟩), (7, ⟨1, List.map eS v284.Known.Terms⟩), (8, ⟨1, List.map eI v284.Known.Keys⟩), (9, ⟨4, List.map eT_Wait v284.Waits⟩), (10, ⟨8, List.map eT_Cred v284.Creds⟩), (11, ⟨2, List.map eT_Cache v284.Caches⟩), (12, ⟨11, List.map eT_Event v284.Log⟩), (13, ⟨15, List.map eT_Accept v284.Accepts⟩), (14, ⟨1, List.map eI v284.Leaked⟩)] [(0, [Cell.own 2, Cell.own 3, Cell.own 4, Cell.own 5, cI v284.Config.Skew, cI v284.Now, cI v284.Fresh, Cell.own 6, Cell.own 7, Cell.own 8, Cell.own 9, Cell.own 10, Cell.own 11, Cell.own 12, Cell.own 13, Cell.own 14])] 15) k ⟨_, ⟨a2, r266, (r266.length : Int), 0, o0, by omega, H, rfl⟩, lm [(0, 0), (1, 20), (2, 4), (3, 5), (4, 6), (5, 7), (6, 11), (7, 12), (8, 13), (9, 14), (10, 15), (11, 16), (12, 17), (13, 18), (14, 19)] hm⟩ ?_; clear H
        rintro k24 _ ⟨v280, v281, v282, v283, v284, hk24, H, rfl⟩
        cases k24 with
        | zero => cases H
        | succ k24 =>
         rw [I_World_one.l24] at H
         refine sg 1 ?_; refine WpC.seq ?_; refine cd H (fun hc H => ?_) (fun hc H => ?_)
         ·refine WpC.skip (WpC.seq (WpC.block (sr ?_))); obtain ⟨b286, hb286, H⟩ := bindS H; refine ix underlying24 info3 hb286 ?_; refine L.loadEp (xs := v281) (e := eI) shape3 hF rfl rfl rfl rfl (at?_get hb286).2 rfl rfl ?_; refine gn 1 ?_; refine sg 3 ?_; refine cd H (fun hc H => ?_) (fun hc H => ?_)
          ·refine sg 1 ?_; cases H; exact WpC.ret rt
          ·refine WpC.skip (WpC.regionL ?_); refine gn 2 ?_; exact ⟨k24, _, by omega, ⟨v280, v281, v282, (IntKind.i64.wrap (v283 + 1)), v284, by omega, H, rfl⟩, lm [(0, 0), (1, 1), (2, 2), (3, 3), (4, 4), (5, 5), (6, 6), (7, 7), (8, 8), (9, 9), (10, 10), (11, 11), (12, 12), (13, 13), (14, 14)] hm⟩
         ·refine WpC.exit (sr ?_); refine gn 1 ?_; cases H; exact WpC.ret rt
       ·refine WpC.skip (sr ?_); refine gn 1 ?_; cases H; exact WpC.ret rt
/-! ### I_World_two -/
def I_World_two.j1 (k : Nat) (v1 : List Int) (v2 : Int) (v3 : T_World) : Option (List UInt8 × T_World) := (at? v1 0).bind fun b4 => (at? v1 1).bind fun b5 => (I_World_act k (⟨v2, b4, b5, 0, 0, (⟨0, 0, 0⟩ : T_Rest), ([] : List UInt8)⟩ : T_Act) v3).bind fun r6 => some (r6.1, r6.2)
def I_World_two (k : Nat) (a1 : List UInt8) (a2 : List Int) (o0 : T_World) : Option (List UInt8 × T_World) := cond (a1 == ([99, 101, 110, 116, 114, 101] : List UInt8)) (I_World_two.j1 k a2 4 o0) (cond (a1 == ([114, 101, 112, 108, 121] : List UInt8)) (I_World_two.j1 k a2 5 o0) (cond (a1 == ([115, 101, 114, 118, 101] : List UInt8)) (I_World_two.j1 k a2 7 o0) (some (([119, 104, 97, 116] : List UInt8), o0))))
theorem ent127 : MG.Enters Tryz.prog 127 := en func127
theorem g127 (k : Nat) (g0 : Bool) (a1 : List UInt8) (a2 : List Int) (o0 : T_World) (r : List UInt8 × T_World) (H : I_World_two k a1 a2 o0 = some r) : Gives Tryz.prog 127 [V.one (Cell.ptr 0 0), V.one (cS a1), V.one (Cell.sl g0 (List.map eI a2))] [[Cell.ow 1 (List.map eI o0.Config.UserRealm), Cell.ow 1 (List.map eI o0.Config.ServiceRealm), Cell.ow 2 (List.map eT_Pair o0.Config.Links), Cell.ow 2 (List.map eT_Pair o0.Config.Proxy), cI o0.Config.Skew, cI o0.Now, cI o0.Fresh, Cell.ow 1 (List.map eS o0.Net), Cell.ow 1 (List.map eS o0.Known.Terms), Cell.ow 1 (List.map eI o0.Known.Keys), Cell.ow 4 (List.map eT_Wait o0.Waits), Cell.ow 8 (List.map eT_Cred o0.Creds), Cell.ow 2 (List.map eT_Cache o0.Caches), Cell.ow 11 (List.map eT_Event o0.Log), Cell.ow 15 (List.map eT_Accept o0.Accepts), Cell.ow 1 (List.map eI o0.Leaked)]] [V.one (cS r.1)] [[Cell.ow 1 (List.map eI r.2.Config.UserRealm), Cell.ow 1 (List.map eI r.2.Config.ServiceRealm), Cell.ow 2 (List.map eT_Pair r.2.Config.Links), Cell.ow 2 (List.map eT_Pair r.2.Config.Proxy), cI r.2.Config.Skew, cI r.2.Now, cI r.2.Fresh, Cell.ow 1 (List.map eS r.2.Net), Cell.ow 1 (List.map eS r.2.Known.Terms), Cell.ow 1 (List.map eI r.2.Known.Keys), Cell.ow 4 (List.map eT_Wait r.2.Waits), Cell.ow 8 (List.map eT_Cred r.2.Creds), Cell.ow 2 (List.map eT_Cache r.2.Caches), Cell.ow 11 (List.map eT_Event r.2.Log), Cell.ow 15 (List.map eT_Accept r.2.Accepts), Cell.ow 1 (List.map eI r.2.Leaked)]] := by
 refine Gives.intro func127 rfl rfl rfl rfl ?_; refine fx fun w0 T S0 ob oh hm => ?_
 have hF := fxe w0 T S0 25 ob oh
 unfold I_World_two at H; obtain ⟨K, hK⟩ := leK k; refine sg 1 ?_; refine sg 1 ?_; refine WpC.join (fun σ => ∃ (kj1 : Nat) (v1 : List Int) (v2 : Int) (v3 : T_World), kj1 ≤ K ∧ I_World_two.j1 kj1 v1 v2 v3 = some r ∧ σ = mkSt [(0, oP 0 0), (2, MG.one (Cell.sl g0 (List.map eI v1))), (7, oI v2)] [(1, ⟨1, List.map eI v3.Config.UserRealm⟩), (2, ⟨1, List.map eI v3.Config.ServiceRealm⟩), (3, ⟨2, List.map eT_Pair v3.Config.Links⟩), (4, ⟨2, List.map eT_Pair v3.Config.Proxy⟩), (5, ⟨1, List.map eS v3.Net⟩), (6, ⟨1, List.map eS v3.Known.Terms⟩), (7, ⟨1, List.map eI v3.Known.Keys⟩), (8, ⟨4, List.map eT_Wait v3.Waits⟩), (9, ⟨8, List.map eT_Cred v3.Creds⟩), (10, ⟨2, List.map eT_Cache v3.Caches⟩), (11, ⟨11, List.map eT_Event v3.Log⟩), (12, ⟨15, List.map eT_Accept v3.Accepts⟩), (13, ⟨1, List.map eI v3.Leaked⟩)] [(0, [Cell.own 1, Cell.own 2, Cell.own 3, Cell.own 4, cI v3.Config.Skew, cI v3.Now, cI v3.Fresh, Cell.own 5, Cell.own 6, Cell.own 7, Cell.own 8, Cell.own 9, Cell.own 10, Cell.own 11, Cell.own 12, Cell.own 13])] 14) ?_ ?_
 ·rintro _ ⟨kj1, v1, v2, v3, hkj1, H, rfl⟩
  unfold I_World_two.j1 at H; refine WpC.seq ?_; obtain ⟨b4, hb4, H⟩ := bindS H; obtain ⟨b5, hb5, H⟩ := bindS H; obtain ⟨r6, hr6, H⟩ := bindS H
  apply ldT ⟨[e0 0 _, e0 2 _, ed 6 11 _, e0 7 _, ed 15 1 _, ed 16 2 _, ed 17 3 _, ed 18 4 _, ed 19 5 _, ed 20 6 _, ed 21 7 _, ed 22 8 _, ed 23 9 _, ed 24 10 _], [(1, [(10, none), (0, some _)]), (2, [(10, none), (0, some _)]), (3, [(10, none), (0, some _)]), (4, [(10, none), (0, some _)]), (5, [(10, none), (0, some _)]), (6, [(10, none), (0, some _)]), (7, [(10, none), (0, some _)]), (8, [(10, none), (0, some _)]), (9, [(10, none), (0, some _)]), (10, [(10, none), (0, some _)]), (11, [(10, none), (0, some _)]), (12, [(10, none), (0, some _)]), (13, [(10, none), (0, some _)]), ed 15 10 _, ed 16 10 _, ed 17 10 _, ed 18 10 _, ed 22 10 _, ed 23 10 _, ed 24 10 _, ed 25 10 _, ed 26 10 _, ed 27 10 _, ed 28 10 _, ed 29 10 _, ed 30 10 _], [(0, [(10, some _), (0, some _)])], 31, []⟩ [(0, 1536), (0, 1792), (0, 1816), (4, 1808), (12, 1792), (0, 1984), (32, 1920), (96, 1792), (254, 1536), (511, 1024), (1023, 0)] mixed ?L1 ?_
  case L1 =>
   repeat refine ls ?_
   apply lc 31 14 0 [18] [] [] ?h1_3 ?q1_3 ?_
   case h1_3 =>
    intro b; refine ix underlying24 info3 hb4 ?_; exact L.nil ⟨rfl, rfl, rfl, rfl⟩
   case' q1_3 => skip
   repeat refine ls ?_
   apply lc 31 14 0 [21] [] [] ?h1_6 ?q1_6 ?_
   case h1_6 =>
    intro b; refine ix underlying24 info3 hb5 ?_; exact L.nil ⟨rfl, rfl, rfl, rfl⟩
   case' q1_6 => skip
   repeat refine ls ?_
   apply lc 31 14 0 [23] [] [] ?h1_8 ?q1_8 ?_
   case h1_8 =>
    intro b; refine bf built63 ?_; exact L.nil ⟨rfl, rfl, rfl, rfl⟩
   case' q1_8 => skip
   apply lc 31 14 17 [24] [15, 16, 17, 18, 22, 23, 24, 25, 26, 27, 28, 29, 30] [0] ?h1_9 ?q1_9 ?_
   case h1_9 =>
    intro b; refine ca [false, false] [] [0] 31 ent123 (g123 kj1  (⟨v2, b4, b5, 0, 0, (⟨0, 0, 0⟩ : T_Rest), ([] : List UInt8)⟩ : T_Act) v3 r6 hr6) ?_; exact L.nil ⟨rfl, rfl, rfl, rfl⟩
   case' q1_9 => skip
   repeat refine ls ?_
   exact trivial
   all_goals exact lq
  cases H; exact WpC.ret rt
 ·refine sg 1 ?_; refine WpC.block (sr ?_); refine L.binS hF rfl rfl rfl rfl rfl ?_; refine gn 1 ?_; refine cd H (fun hc H => ?_) (fun hc H => ?_)
  ·refine WpC.regionL ?_; refine gn 1 ?_; exact ⟨_, ⟨k, a2, 4, o0, by omega, H, rfl⟩, lm [(0, 0), (1, 4), (2, 5), (3, 6), (4, 7), (5, 11), (6, 12), (7, 13), (8, 14), (9, 15), (10, 16), (11, 17), (12, 18), (13, 19)] hm⟩
  ·refine sr ?_; refine L.binS hF rfl rfl rfl rfl rfl ?_; refine gn 1 ?_; refine cd H (fun hc H => ?_) (fun hc H => ?_)
   ·refine WpC.regionL ?_; refine gn 1 ?_; exact ⟨_, ⟨k, a2, 5, o0, by omega, H, rfl⟩, lm [(0, 0), (1, 4), (2, 5), (3, 6), (4, 7), (5, 11), (6, 12), (7, 13), (8, 14), (9, 15), (10, 16), (11, 17), (12, 18), (13, 19)] hm⟩
   ·refine sr ?_; refine L.binS hF rfl rfl rfl rfl rfl ?_; refine gn 1 ?_; refine cd H (fun hc H => ?_) (fun hc H => ?_)
    ·refine WpC.regionL ?_; refine gn 1 ?_; exact ⟨_, ⟨k, a2, 7, o0, by omega, H, rfl⟩, lm [(0, 0), (1, 4), (2, 5), (3, 6), (4, 7), (5, 11), (6, 12), (7, 13), (8, 14), (9, 15), (10, 16), (11, 17), (12, 18), (13, 19)] hm⟩
    ·refine sg 1 ?_; cases H; exact WpC.ret rt
end Go.Proofs.YtnbjjmnohlnplaaGreat.M
