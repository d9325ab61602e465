import Derived.Test.YtgjbgakcfcomdaaSh
import Derived.Test.YtgjbgakcfcomdaaProg
namespace Go.Proofs.Ytgjbgakcfcomdaa.M
open Go Go.MG
set_option linter.unusedVariables false
set_option linter.unusedSimpArgs false
structure Timpl_Rule where
  Kind : Int
  Set : List Int
  N : Int
def eTimpl_Rule (x : Timpl_Rule) : List Cell := [cI x.Kind, Cell.ow 1 (List.map eI x.Set), cI x.N]
def bTimpl_Rule (g0 : Bool) (x : Timpl_Rule) : List Cell := [cI x.Kind, Cell.sl g0 (List.map eI x.Set), cI x.N]
structure Tlaws_Rule where
  Kind : Int
  Set : List Int
  N : Int
def eTlaws_Rule (x : Tlaws_Rule) : List Cell := [cI x.Kind, Cell.sl true (List.map eI x.Set), cI x.N]
theorem mixed : Try.prog.follows .mixedOrders = true := by kernel_rfl
theorem shape3 : MG.shape Try.prog 3 = some (false, 1) := by kernel_rfl
theorem shape39 : MG.shape Try.prog 39 = some (false, 1) := by kernel_rfl
theorem shape96 : MG.shape Try.prog 96 = some (true, 3) := by kernel_rfl
theorem shape121 : MG.shape Try.prog 121 = some (true, 3) := by kernel_rfl
theorem info3 : Try.prog.info? 3 = some Try.t3 := by kernel_rfl
theorem info39 : Try.prog.info? 39 = some Try.t39 := by kernel_rfl
theorem info96 : Try.prog.info? 96 = some Try.t96 := by kernel_rfl
theorem info121 : Try.prog.info? 121 = some Try.t121 := by kernel_rfl
theorem built96 : builtA Try.prog 96 = fillA (fun x => ([(0, 1), (1, 1), (2, 1)] : List (Nat × Nat))[x]?) [cI (0 : Int), Cell.nil, cI (0 : Int)] := by kernel_rfl
abbrev bx (a b c d : Int) : List Cell := [cI a, cI b, cI c, cI d]
theorem Sa1 {π : Nat → Option Nat} {σ : St} {t0 : Nat} {s0 u0 : Slot} {l : List (Nat × Slot)} (k : SlotsOk π σ l) (h0 : renS π s0 = some u0 := by exact rfl) (g0 : σ.slots t0 = some u0 := by exact rfl) : SlotsOk π σ ((t0, s0) :: l) := ⟨⟨_, h0, g0⟩, k⟩
theorem Ra1 {π : Nat → Option Nat} {σ : St} {t0 q0 : Nat} {s0 : Row} {l : List (Nat × Row)} (k : RowsOk π σ l) (h0 : π t0 = some q0 := by exact rfl) (g0 : σ.H.rows q0 = some s0 := by exact rfl) : RowsOk π σ ((t0, s0) :: l) := ⟨⟨_, h0, g0⟩, k⟩
theorem Ba1 {π : Nat → Option Nat} {σ : St} {t0 q0 : Nat} {c0 d0 : List Cell} {l : List (Nat × List Cell)} (k : BoxesOk π σ l) (h0 : π t0 = some q0 := by exact rfl) (g0 : renCs π c0 = some d0 := by exact rfl) (e0 : σ.H.boxes q0 = some d0 := by exact rfl) : BoxesOk π σ ((t0, c0) :: l) := ⟨⟨_, _, h0, g0, e0⟩, k⟩
theorem Sa2 {π : Nat → Option Nat} {σ : St} {t0 t1 : Nat} {s0 u0 s1 u1 : Slot} {l : List (Nat × Slot)} (k : SlotsOk π σ l) (h0 : renS π s0 = some u0 := by exact rfl) (g0 : σ.slots t0 = some u0 := by exact rfl) (h1 : renS π s1 = some u1 := by exact rfl) (g1 : σ.slots t1 = some u1 := by exact rfl) : SlotsOk π σ ((t0, s0) :: (t1, s1) :: l) := ⟨⟨_, h0, g0⟩, ⟨_, h1, g1⟩, k⟩
theorem Ra2 {π : Nat → Option Nat} {σ : St} {t0 q0 t1 q1 : Nat} {s0 s1 : Row} {l : List (Nat × Row)} (k : RowsOk π σ l) (h0 : π t0 = some q0 := by exact rfl) (g0 : σ.H.rows q0 = some s0 := by exact rfl) (h1 : π t1 = some q1 := by exact rfl) (g1 : σ.H.rows q1 = some s1 := by exact rfl) : RowsOk π σ ((t0, s0) :: (t1, s1) :: l) := ⟨⟨_, h0, g0⟩, ⟨_, h1, g1⟩, k⟩
theorem Ba2 {π : Nat → Option Nat} {σ : St} {t0 q0 t1 q1 : Nat} {c0 d0 c1 d1 : List Cell} {l : List (Nat × List Cell)} (k : BoxesOk π σ l) (h0 : π t0 = some q0 := by exact rfl) (g0 : renCs π c0 = some d0 := by exact rfl) (e0 : σ.H.boxes q0 = some d0 := by exact rfl) (h1 : π t1 = some q1 := by exact rfl) (g1 : renCs π c1 = some d1 := by exact rfl) (e1 : σ.H.boxes q1 = some d1 := by exact rfl) : BoxesOk π σ ((t0, c0) :: (t1, c1) :: l) := ⟨⟨_, _, h0, g0, e0⟩, ⟨_, _, h1, g1, e1⟩, k⟩
theorem Sa4 {π : Nat → Option Nat} {σ : St} {t0 t1 t2 t3 : Nat} {s0 u0 s1 u1 s2 u2 s3 u3 : Slot} {l : List (Nat × Slot)} (k : SlotsOk π σ l) (h0 : renS π s0 = some u0 := by exact rfl) (g0 : σ.slots t0 = some u0 := by exact rfl) (h1 : renS π s1 = some u1 := by exact rfl) (g1 : σ.slots t1 = some u1 := by exact rfl) (h2 : renS π s2 = some u2 := by exact rfl) (g2 : σ.slots t2 = some u2 := by exact rfl) (h3 : renS π s3 = some u3 := by exact rfl) (g3 : σ.slots t3 = some u3 := by exact rfl) : SlotsOk π σ ((t0, s0) :: (t1, s1) :: (t2, s2) :: (t3, s3) :: l) := ⟨⟨_, h0, g0⟩, ⟨_, h1, g1⟩, ⟨_, h2, g2⟩, ⟨_, h3, g3⟩, k⟩
theorem Ra4 {π : Nat → Option Nat} {σ : St} {t0 q0 t1 q1 t2 q2 t3 q3 : Nat} {s0 s1 s2 s3 : Row} {l : List (Nat × Row)} (k : RowsOk π σ l) (h0 : π t0 = some q0 := by exact rfl) (g0 : σ.H.rows q0 = some s0 := by exact rfl) (h1 : π t1 = some q1 := by exact rfl) (g1 : σ.H.rows q1 = some s1 := by exact rfl) (h2 : π t2 = some q2 := by exact rfl) (g2 : σ.H.rows q2 = some s2 := by exact rfl) (h3 : π t3 = some q3 := by exact rfl) (g3 : σ.H.rows q3 = some s3 := by exact rfl) : RowsOk π σ ((t0, s0) :: (t1, s1) :: (t2, s2) :: (t3, s3) :: l) := ⟨⟨_, h0, g0⟩, ⟨_, h1, g1⟩, ⟨_, h2, g2⟩, ⟨_, h3, g3⟩, k⟩
theorem Ba4 {π : Nat → Option Nat} {σ : St} {t0 q0 t1 q1 t2 q2 t3 q3 : Nat} {c0 d0 c1 d1 c2 d2 c3 d3 : List Cell} {l : List (Nat × List Cell)} (k : BoxesOk π σ l) (h0 : π t0 = some q0 := by exact rfl) (g0 : renCs π c0 = some d0 := by exact rfl) (e0 : σ.H.boxes q0 = some d0 := by exact rfl) (h1 : π t1 = some q1 := by exact rfl) (g1 : renCs π c1 = some d1 := by exact rfl) (e1 : σ.H.boxes q1 = some d1 := by exact rfl) (h2 : π t2 = some q2 := by exact rfl) (g2 : renCs π c2 = some d2 := by exact rfl) (e2 : σ.H.boxes q2 = some d2 := by exact rfl) (h3 : π t3 = some q3 := by exact rfl) (g3 : renCs π c3 = some d3 := by exact rfl) (e3 : σ.H.boxes q3 = some d3 := by exact rfl) : BoxesOk π σ ((t0, c0) :: (t1, c1) :: (t2, c2) :: (t3, c3) :: l) := ⟨⟨_, _, h0, g0, e0⟩, ⟨_, _, h1, g1, e1⟩, ⟨_, _, h2, g2, e2⟩, ⟨_, _, h3, g3, e3⟩, k⟩
theorem Sa8 {π : Nat → Option Nat} {σ : St} {t0 t1 t2 t3 t4 t5 t6 t7 : Nat} {s0 u0 s1 u1 s2 u2 s3 u3 s4 u4 s5 u5 s6 u6 s7 u7 : Slot} {l : List (Nat × Slot)} (k : SlotsOk π σ l) (h0 : renS π s0 = some u0 := by exact rfl) (g0 : σ.slots t0 = some u0 := by exact rfl) (h1 : renS π s1 = some u1 := by exact rfl) (g1 : σ.slots t1 = some u1 := by exact rfl) (h2 : renS π s2 = some u2 := by exact rfl) (g2 : σ.slots t2 = some u2 := by exact rfl) (h3 : renS π s3 = some u3 := by exact rfl) (g3 : σ.slots t3 = some u3 := by exact rfl) (h4 : renS π s4 = some u4 := by exact rfl) (g4 : σ.slots t4 = some u4 := by exact rfl) (h5 : renS π s5 = some u5 := by exact rfl) (g5 : σ.slots t5 = some u5 := by exact rfl) (h6 : renS π s6 = some u6 := by exact rfl) (g6 : σ.slots t6 = some u6 := by exact rfl) (h7 : renS π s7 = some u7 := by exact rfl) (g7 : σ.slots t7 = some u7 := by exact rfl) : SlotsOk π σ ((t0, s0) :: (t1, s1) :: (t2, s2) :: (t3, s3) :: (t4, s4) :: (t5, s5) :: (t6, s6) :: (t7, s7) :: l) := ⟨⟨_, h0, g0⟩, ⟨_, h1, g1⟩, ⟨_, h2, g2⟩, ⟨_, h3, g3⟩, ⟨_, h4, g4⟩, ⟨_, h5, g5⟩, ⟨_, h6, g6⟩, ⟨_, h7, g7⟩, k⟩
theorem Ra8 {π : Nat → Option Nat} {σ : St} {t0 q0 t1 q1 t2 q2 t3 q3 t4 q4 t5 q5 t6 q6 t7 q7 : Nat} {s0 s1 s2 s3 s4 s5 s6 s7 : Row} {l : List (Nat × Row)} (k : RowsOk π σ l) (h0 : π t0 = some q0 := by exact rfl) (g0 : σ.H.rows q0 = some s0 := by exact rfl) (h1 : π t1 = some q1 := by exact rfl) (g1 : σ.H.rows q1 = some s1 := by exact rfl) (h2 : π t2 = some q2 := by exact rfl) (g2 : σ.H.rows q2 = some s2 := by exact rfl) (h3 : π t3 = some q3 := by exact rfl) (g3 : σ.H.rows q3 = some s3 := by exact rfl) (h4 : π t4 = some q4 := by exact rfl) (g4 : σ.H.rows q4 = some s4 := by exact rfl) (h5 : π t5 = some q5 := by exact rfl) (g5 : σ.H.rows q5 = some s5 := by exact rfl) (h6 : π t6 = some q6 := by exact rfl) (g6 : σ.H.rows q6 = some s6 := by exact rfl) (h7 : π t7 = some q7 := by exact rfl) (g7 : σ.H.rows q7 = some s7 := by exact rfl) : RowsOk π σ ((t0, s0) :: (t1, s1) :: (t2, s2) :: (t3, s3) :: (t4, s4) :: (t5, s5) :: (t6, s6) :: (t7, s7) :: l) := ⟨⟨_, h0, g0⟩, ⟨_, h1, g1⟩, ⟨_, h2, g2⟩, ⟨_, h3, g3⟩, ⟨_, h4, g4⟩, ⟨_, h5, g5⟩, ⟨_, h6, g6⟩, ⟨_, h7, g7⟩, k⟩
theorem Ba8 {π : Nat → Option Nat} {σ : St} {t0 q0 t1 q1 t2 q2 t3 q3 t4 q4 t5 q5 t6 q6 t7 q7 : Nat} {c0 d0 c1 d1 c2 d2 c3 d3 c4 d4 c5 d5 c6 d6 c7 d7 : List Cell} {l : List (Nat × List Cell)} (k : BoxesOk π σ l) (h0 : π t0 = some q0 := by exact rfl) (g0 : renCs π c0 = some d0 := by exact rfl) (e0 : σ.H.boxes q0 = some d0 := by exact rfl) (h1 : π t1 = some q1 := by exact rfl) (g1 : renCs π c1 = some d1 := by exact rfl) (e1 : σ.H.boxes q1 = some d1 := by exact rfl) (h2 : π t2 = some q2 := by exact rfl) (g2 : renCs π c2 = some d2 := by exact rfl) (e2 : σ.H.boxes q2 = some d2 := by exact rfl) (h3 : π t3 = some q3 := by exact rfl) (g3 : renCs π c3 = some d3 := by exact rfl) (e3 : σ.H.boxes q3 = some d3 := by exact rfl) (h4 : π t4 = some q4 := by exact rfl) (g4 : renCs π c4 = some d4 := by exact rfl) (e4 : σ.H.boxes q4 = some d4 := by exact rfl) (h5 : π t5 = some q5 := by exact rfl) (g5 : renCs π c5 = some d5 := by exact rfl) (e5 : σ.H.boxes q5 = some d5 := by exact rfl) (h6 : π t6 = some q6 := by exact rfl) (g6 : renCs π c6 = some d6 := by exact rfl) (e6 : σ.H.boxes q6 = some d6 := by exact rfl) (h7 : π t7 = some q7 := by exact rfl) (g7 : renCs π c7 = some d7 := by exact rfl) (e7 : σ.H.boxes q7 = some d7 := by exact rfl) : BoxesOk π σ ((t0, c0) :: (t1, c1) :: (t2, c2) :: (t3, c3) :: (t4, c4) :: (t5, c5) :: (t6, c6) :: (t7, c7) :: l) := ⟨⟨_, _, h0, g0, e0⟩, ⟨_, _, h1, g1, e1⟩, ⟨_, _, h2, g2, e2⟩, ⟨_, _, h3, g3, e3⟩, ⟨_, _, h4, g4, e4⟩, ⟨_, _, h5, g5, e5⟩, ⟨_, _, h6, g6, e6⟩, ⟨_, _, h7, g7, e7⟩, k⟩
theorem Atk {P : Program} {F : Fix} {ops : Array Oper} {Q : St → Prop} {fuel : Nat} {listed : Array Bool} {sl : Nat → Option Slot} {H : Heap} {σ1 : St} {o : Oper} (i : Nat) (ho : ops[i]? = some o) (hc : CalmAt P F sl H o) (hL : ∀ Q0 : St → Prop, Q0 σ1 → WpL P F ops Q0 [o] ⟨sl, H⟩) (k : WpA P F ops Q fuel (listed.setIfInBounds i true) σ1) (hs : Region.noSelect ops = true := by kernel_rfl) (hf : Region.free .any ops listed i = true := by kernel_rfl) (hr : (Region.ready .any ops listed).contains i = true := by kernel_rfl) (hv : kindV o.op = true := by exact rfl) : WpA P F ops Q (fuel + 1) listed ⟨sl, H⟩ := A.take i ho hs hf hr hv hc hL k
theorem Aof {P : Program} {F : Fix} {ops : Array Oper} {Q : St → Prop} {fuel : Nat} {listed : Array Bool} {sl : Nat → Option Slot} {H : Heap} {o : Oper} {N : Nat} (i : Nat) (ho : ops[i]? = some o) (hn : F.n = N) (k : WpA P F ops Q fuel (listed.setIfInBounds i true) ⟨setD sl o.dst (some (.tup [])), H⟩) (hs : Region.noSelect ops = true := by kernel_rfl) (hf : Region.free .any ops listed i = true := by kernel_rfl) (hr : (Region.ready .any ops listed).contains i = true := by kernel_rfl) (hv : kindV o.op = true := by exact rfl) (hg : guardOf ops sl o = some false := by exact rfl) (hd : dstB N o.dst = true := by exact rfl) : WpA P F ops Q (fuel + 1) listed ⟨sl, H⟩ := A.off i ho hs hf hr hv hn hg hd k
/-! ### Flaws_szIntS -/
def Flaws_szIntS (k : Nat) (a0 : List Int) (a1 : Int) : Option Int := cond (decide ((IntKind.i64.wrap (a1 - (a0.length : Int))) < (0 : Int))) (some (-1 : Int)) (some (IntKind.i64.wrap (a1 - (a0.length : Int))))
theorem ent86 : MG.Enters Try.prog 86 := ⟨Try.f86, Try.func86, rfl, by decide⟩
set_option maxHeartbeats 8000000 in
set_option maxRecDepth 100000 in
theorem Flaws_szIntS_gives (k : Nat) (g0 : Bool) (a0 : List Int) (a1 : Int) (r : Int) (H : Flaws_szIntS k a0 a1 = some r) : Gives Try.prog 86 [V.one (Cell.sl g0 (List.map eI a0)), V.one (cI a1)] [] [V.one (cI r)] [] := by
 refine Gives.intro Try.func86 rfl rfl rfl rfl ?_
 intro F hF hm
 unfold Flaws_szIntS at H
 obtain ⟨K, hK⟩ : ∃ K, k ≤ K := ⟨k, Nat.le_refl k⟩
 refine WpC.seq (WpC.regionL ?_)
 refine L.assign hF rfl rfl rfl (L.nil ?_)
 refine WpC.seq (WpC.regionL ?_)
 refine L.move hF rfl rfl rfl ?_
 refine L.move hF rfl rfl rfl ?_
 refine L.lenR (xs := a0) (e := eI) Try.underlying39 hF rfl rfl rfl rfl ?_
 refine L.bin hF rfl rfl rfl rfl rfl rfl ?_
 refine L.assign hF rfl rfl rfl (L.nil ?_)
 refine WpC.seq (WpC.seq (WpC.regionL ?_))
 refine L.move hF rfl rfl rfl ?_
 refine L.bin hF rfl rfl rfl rfl rfl rfl (L.nil ?_)
 refine WpC.cond rfl (fun hc => ?_) (fun hc => ?_)
 ·replace H := condT hc H
  refine WpC.seq (WpC.regionL ?_)
  refine L.assign hF rfl rfl rfl (L.nil ?_)
  refine WpC.ret ?_
  cases H
  exact Leaves.ret rfl rfl rfl ⟨rfl, rfl⟩
 ·replace H := condF hc H
  refine WpC.skip (WpC.seq (WpC.regionL ?_))
  refine L.move hF rfl rfl rfl ?_
  refine L.assign hF rfl rfl rfl (L.nil ?_)
  refine WpC.ret ?_
  cases H
  exact Leaves.ret rfl rfl rfl ⟨rfl, rfl⟩
/-! ### Flaws_szRule -/
def Flaws_szRule (k : Nat) (a0 : Tlaws_Rule) (a1 : Int) : Option Int := (Flaws_szIntS k a0.Set a1).bind fun r1 => cond (decide (r1 < (0 : Int))) (some (-1 : Int)) (some r1)
theorem ent82 : MG.Enters Try.prog 82 := ⟨Try.f82, Try.func82, rfl, by decide⟩
set_option maxHeartbeats 8000000 in
set_option maxRecDepth 100000 in
theorem Flaws_szRule_gives (k : Nat) (g0 : Bool) (a0 : Tlaws_Rule) (a1 : Int) (r : Int) (H : Flaws_szRule k a0 a1 = some r) : Gives Try.prog 82 [V.agg [cI a0.Kind, Cell.sl g0 (List.map eI a0.Set), cI a0.N], V.one (cI a1)] [] [V.one (cI r)] [] := by
 refine Gives.intro Try.func82 rfl rfl rfl rfl ?_
 intro F hF hm
 unfold Flaws_szRule at H
 obtain ⟨K, hK⟩ : ∃ K, k ≤ K := ⟨k, Nat.le_refl k⟩
 refine WpC.seq (WpC.regionL ?_)
 refine L.box 4 hF rfl rfl rfl rfl ?_
 refine L.assign hF rfl rfl rfl (L.nil ?_)
 refine WpC.seq (WpC.regionL ?_)
 refine L.fieldAddr Try.underlying121 rfl info39 rfl hF rfl rfl rfl rfl rfl ?_
 refine L.loadPtr shape39 hF rfl rfl rfl rfl rfl rfl ?_
 refine L.move hF rfl rfl rfl ?_
 obtain ⟨r1, hr1, H⟩ := bindS H
 refine L.call [false, false] [] [] 5 hF rfl rfl rfl ent86 rfl rfl rfl rfl rfl (Flaws_szIntS_gives k g0 a0.Set a1 r1 hr1) rfl ?_
 refine L.assign hF rfl rfl rfl (L.nil ?_)
 refine WpC.seq (WpC.seq (WpC.regionL ?_))
 refine L.move hF rfl rfl rfl ?_
 refine L.bin hF rfl rfl rfl rfl rfl rfl (L.nil ?_)
 refine WpC.cond rfl (fun hc => ?_) (fun hc => ?_)
 ·replace H := condT hc H
  refine WpC.seq (WpC.regionL ?_)
  refine L.assign hF rfl rfl rfl (L.nil ?_)
  refine WpC.ret ?_
  cases H
  exact Leaves.ret rfl rfl rfl ⟨rfl, rfl⟩
 ·replace H := condF hc H
  refine WpC.skip (WpC.seq (WpC.regionL ?_))
  refine L.move hF rfl rfl rfl ?_
  refine L.assign hF rfl rfl rfl (L.nil ?_)
  refine WpC.ret ?_
  cases H
  exact Leaves.ret rfl rfl rfl ⟨rfl, rfl⟩
/-! ### Flaws_szRuleS -/
def Flaws_szRuleS.l2 : Nat → (List Tlaws_Rule) → Int → Int → Option Int
 | 0, _, _, _ => none
 | k2 + 1, v34, v35, v36 => cond (decide (v36 < (v34.length : Int))) ((at? v34 v36).bind fun b39 => (Flaws_szRule k2 b39 v35).bind fun r40 => cond (decide (r40 < (0 : Int))) (some (-1 : Int)) ((Flaws_szRuleS.l2 k2) v34 r40 (IntKind.i64.wrap (v36 + (1 : Int))))) (some v35)
def Flaws_szRuleS (k : Nat) (a0 : List Tlaws_Rule) (a1 : Int) : Option Int := cond (decide ((IntKind.i64.wrap (a1 - (a0.length : Int))) < (0 : Int))) (some (-1 : Int)) (Flaws_szRuleS.l2 k a0 (IntKind.i64.wrap (a1 - (a0.length : Int))) (0 : Int))
theorem ent36 : MG.Enters Try.prog 36 := ⟨Try.f36, Try.func36, rfl, by decide⟩
set_option maxHeartbeats 8000000 in
set_option maxRecDepth 100000 in
theorem Flaws_szRuleS_gives (k : Nat) (g0 : Bool) (a0 : List Tlaws_Rule) (a1 : Int) (r : Int) (H : Flaws_szRuleS k a0 a1 = some r) : Gives Try.prog 36 [V.one (Cell.sl g0 (List.map eTlaws_Rule a0)), V.one (cI a1)] [] [V.one (cI r)] [] := by
 refine Gives.intro Try.func36 rfl rfl rfl rfl ?_
 intro F hF hm
 unfold Flaws_szRuleS at H
 obtain ⟨K, hK⟩ : ∃ K, k ≤ K := ⟨k, Nat.le_refl k⟩
 refine WpC.seq (WpC.regionL ?_)
 refine L.assign hF rfl rfl rfl (L.nil ?_)
 refine WpC.seq (WpC.regionL ?_)
 refine L.move hF rfl rfl rfl ?_
 refine L.move hF rfl rfl rfl ?_
 refine L.lenR (xs := a0) (e := eTlaws_Rule) Try.underlying49 hF rfl rfl rfl rfl ?_
 refine L.bin hF rfl rfl rfl rfl rfl rfl ?_
 refine L.assign hF rfl rfl rfl (L.nil ?_)
 refine WpC.seq (WpC.seq (WpC.regionL ?_))
 refine L.move hF rfl rfl rfl ?_
 refine L.bin hF rfl rfl rfl rfl rfl rfl (L.nil ?_)
 refine WpC.cond rfl (fun hc => ?_) (fun hc => ?_)
 ·replace H := condT hc H
  refine WpC.seq (WpC.regionL ?_)
  refine L.assign hF rfl rfl rfl (L.nil ?_)
  refine WpC.ret ?_
  cases H
  exact Leaves.ret rfl rfl rfl ⟨rfl, rfl⟩
 ·replace H := condF hc H
  refine WpC.skip (WpC.seq (WpC.seq (WpC.regionL ?_)))
  refine L.assign hF rfl rfl rfl (L.nil ?_)
  refine WpC.block ?_
  refine WpC.loopL (P := Try.prog) (fun n σ => ∃ v34 : List Tlaws_Rule, ∃ v35 : Int, ∃ v36 : Int, n ≤ K ∧ Flaws_szRuleS.l2 n v34 v35 v36 = some r ∧ σ = mkSt [(0, MG.one (Cell.sl g0 (List.map eTlaws_Rule v34))), (1, MG.one (cI v35)), (5, MG.one (cI v36))] [] [] 0) k ⟨_, ⟨a0, (IntKind.i64.wrap (a1 - (a0.length : Int))), (0 : Int), by omega, H, rfl⟩, Le.mk [] hm rfl (Sa2 (Sa1 trivial)) trivial trivial⟩ ?_
  clear H
  rintro k2 _ ⟨v34, v35, v36, hk2, H, rfl⟩
  cases k2 with
  | zero => cases H
  | succ k2 =>
   rw [Flaws_szRuleS.l2] at H
   refine WpC.seq (WpC.seq (WpC.regionL ?_))
   refine L.move hF rfl rfl rfl ?_
   refine L.move hF rfl rfl rfl ?_
   refine L.lenR (xs := v34) (e := eTlaws_Rule) Try.underlying49 hF rfl rfl rfl rfl ?_
   refine L.bin hF rfl rfl rfl rfl rfl rfl (L.nil ?_)
   refine WpC.cond rfl (fun hc => ?_) (fun hc => ?_)
   ·replace H := condT hc H
    refine WpC.skip (WpC.seq (WpC.block (WpC.seq (WpC.regionL ?_))))
    refine L.move hF rfl rfl rfl ?_
    refine L.move hF rfl rfl rfl ?_
    obtain ⟨b39, hb39, H⟩ := bindS H
    refine L.idxR (xs := v34) (e := eTlaws_Rule) Try.underlying49 info121 hF rfl rfl rfl rfl rfl hb39 rfl rfl ?_
    refine L.loadPe shape121 hF rfl rfl rfl rfl rfl ?_
    refine L.move hF rfl rfl rfl ?_
    obtain ⟨r40, hr40, H⟩ := bindS H
    refine L.call [false, false] [] [] 0 hF rfl rfl rfl ent82 rfl rfl rfl rfl rfl (Flaws_szRule_gives k2 true b39 v35 r40 hr40) rfl ?_
    refine L.assign hF rfl rfl rfl (L.nil ?_)
    refine WpC.seq (WpC.regionL ?_)
    refine L.move hF rfl rfl rfl ?_
    refine L.bin hF rfl rfl rfl rfl rfl rfl (L.nil ?_)
    refine WpC.cond rfl (fun hc => ?_) (fun hc => ?_)
    ·replace H := condT hc H
     refine WpC.seq (WpC.regionL ?_)
     refine L.assign hF rfl rfl rfl (L.nil ?_)
     refine WpC.ret ?_
     cases H
     exact Leaves.ret rfl rfl rfl ⟨rfl, rfl⟩
    ·replace H := condF hc H
     refine WpC.skip (WpC.regionL ?_)
     refine L.move hF rfl rfl rfl ?_
     refine L.bin hF rfl rfl rfl rfl rfl rfl ?_
     refine L.assign hF rfl rfl rfl (L.nil ?_)
     exact ⟨k2, _, by omega, ⟨v34, r40, (IntKind.i64.wrap (v36 + (1 : Int))), by omega, H, rfl⟩, Le.mk [] hm rfl (Sa2 (Sa1 trivial)) trivial trivial⟩
   ·replace H := condF hc H
    refine WpC.exit (WpC.seq (WpC.regionL ?_))
    refine L.move hF rfl rfl rfl ?_
    refine L.assign hF rfl rfl rfl (L.nil ?_)
    refine WpC.ret ?_
    cases H
    exact Leaves.ret rfl rfl rfl ⟨rfl, rfl⟩
/-! ### Flaws_toIntS -/
def Flaws_toIntS.l2 : Nat → (List Int) → (List Int) → Int → Option (List Int)
 | 0, _, _, _ => none
 | k2 + 1, v35, v36, v37 => cond (decide (v37 < (v35.length : Int))) ((at? v35 v37).bind fun b40 => (at? v36 v37).bind fun b41 => (Flaws_toIntS.l2 k2) v35 (v36.set v37.toNat b40) (IntKind.i64.wrap (v37 + (1 : Int)))) (some v36)
def Flaws_toIntS (k : Nat) (a0 : List Int) : Option (List Int) := cond (decide (0 ≤ (a0.length : Int) ∧ (a0.length : Int) ≤ (a0.length : Int) ∧ 8 * (a0.length : Int) ≤ 281474976710656 ∧ (a0.length : Int) ≤ 9223372036854775807)) (Flaws_toIntS.l2 k a0 (List.replicate (a0.length : Int).toNat (0 : Int)) (0 : Int)) none
theorem ent91 : MG.Enters Try.prog 91 := ⟨Try.f91, Try.func91, rfl, by decide⟩
set_option maxHeartbeats 8000000 in
set_option maxRecDepth 100000 in
theorem Flaws_toIntS_gives (k : Nat) (g0 : Bool) (a0 : List Int) (r : List Int) (H : Flaws_toIntS k a0 = some r) : Gives Try.prog 91 [V.one (Cell.sl g0 (List.map eI a0))] [] [V.one (Cell.ow 1 (List.map eI r))] [] := by
 refine Gives.intro Try.func91 rfl rfl rfl rfl ?_
 intro F hF hm
 unfold Flaws_toIntS at H
 obtain ⟨K, hK⟩ : ∃ K, k ≤ K := ⟨k, Nat.le_refl k⟩
 refine WpC.seq (WpC.regionL ?_)
 refine L.assign hF rfl rfl rfl (L.nil ?_)
 refine WpC.seq (WpC.regionL ?_)
 refine L.move hF rfl rfl rfl ?_
 refine L.lenR (xs := a0) (e := eI) Try.underlying39 hF rfl rfl rfl rfl ?_
 obtain ⟨h1, H⟩ := condG H
 refine L.makeSlice (e := eI) 1 (0 : Int) Try.underlying39 info3 rfl rfl rfl hF rfl rfl rfl rfl (of_decide_eq_true h1) rfl rfl ?_
 refine L.assign hF rfl rfl rfl (L.nil ?_)
 refine WpC.seq (WpC.seq (WpC.regionL ?_))
 refine L.assign hF rfl rfl rfl (L.nil ?_)
 refine WpC.block ?_
 refine WpC.loopL (P := Try.prog) (fun n σ => ∃ v35 : List Int, ∃ v36 : List Int, ∃ v37 : Int, n ≤ K ∧ Flaws_toIntS.l2 n v35 v36 v37 = some r ∧ σ = mkSt [(0, MG.one (Cell.sl g0 (List.map eI v35))), (3, MG.one (Cell.own 0)), (4, MG.one (cI v37))] [(0, ⟨1, List.map eI v36⟩)] [] 1) k ⟨_, ⟨a0, (List.replicate (a0.length : Int).toNat (0 : Int)), (0 : Int), by omega, H, rfl⟩, Le.mk [(0, 1)] hm rfl (Sa2 (Sa1 trivial)) (Ra1 trivial) trivial⟩ ?_
 clear H
 rintro k2 _ ⟨v35, v36, v37, hk2, H, rfl⟩
 cases k2 with
 | zero => cases H
 | succ k2 =>
  rw [Flaws_toIntS.l2] at H
  refine WpC.seq (WpC.seq (WpC.regionL ?_))
  refine L.move hF rfl rfl rfl ?_
  refine L.move hF rfl rfl rfl ?_
  refine L.lenR (xs := v35) (e := eI) Try.underlying39 hF rfl rfl rfl rfl ?_
  refine L.bin hF rfl rfl rfl rfl rfl rfl (L.nil ?_)
  refine WpC.cond rfl (fun hc => ?_) (fun hc => ?_)
  ·replace H := condT hc H
   refine WpC.skip (WpC.seq (WpC.block (WpC.regionL ?_)))
   refine L.move hF rfl rfl rfl ?_
   refine L.move hF rfl rfl rfl ?_
   refine L.move hF rfl rfl rfl ?_
   refine L.move hF rfl rfl rfl ?_
   obtain ⟨b40, hb40, H⟩ := bindS H
   refine L.idxR (xs := v35) (e := eI) Try.underlying39 info3 hF rfl rfl rfl rfl rfl hb40 rfl rfl ?_
   refine L.loadPe shape3 hF rfl rfl rfl rfl rfl ?_
   obtain ⟨b41, hb41, H⟩ := bindS H
   refine L.idxR (xs := v36) (e := eI) Try.underlying39 info3 hF rfl rfl rfl rfl rfl hb41 rfl rfl ?_
   refine L.storeEp (xs := v36) (e := eI) (a' := b40) shape3 hF rfl rfl rfl rfl rfl rfl rfl (at?_get hb41).2 rfl rfl ?_
   refine L.nil ?_
   refine WpC.regionL ?_
   refine L.move hF rfl rfl rfl ?_
   refine L.bin hF rfl rfl rfl rfl rfl rfl ?_
   refine L.assign hF rfl rfl rfl (L.nil ?_)
   exact ⟨k2, _, by omega, ⟨v35, (v36.set v37.toNat b40), (IntKind.i64.wrap (v37 + (1 : Int))), by omega, H, rfl⟩, Le.mk [(0, 0)] hm rfl (Sa2 (Sa1 trivial)) (Ra1 trivial) trivial⟩
  ·replace H := condF hc H
   refine WpC.exit (WpC.seq (WpC.regionL ?_))
   refine L.move hF rfl rfl rfl ?_
   refine L.assign hF rfl rfl rfl (L.nil ?_)
   refine WpC.ret ?_
   cases H
   exact Leaves.ret rfl rfl rfl ⟨rfl, rfl⟩
/-! ### Flaws_toRule -/
def Flaws_toRule (k : Nat) (a0 : Tlaws_Rule) : Option Timpl_Rule := (Flaws_toIntS k a0.Set).bind fun r1 => some (⟨a0.Kind, r1, a0.N⟩ : Timpl_Rule)
theorem ent84 : MG.Enters Try.prog 84 := ⟨Try.f84, Try.func84, rfl, by decide⟩
set_option maxHeartbeats 8000000 in
set_option maxRecDepth 100000 in
theorem Flaws_toRule_gives (k : Nat) (g0 : Bool) (a0 : Tlaws_Rule) (r : Timpl_Rule) (H : Flaws_toRule k a0 = some r) : Gives Try.prog 84 [V.agg [cI a0.Kind, Cell.sl g0 (List.map eI a0.Set), cI a0.N]] [] [V.agg [cI r.Kind, Cell.ow 1 (List.map eI r.Set), cI r.N]] [] := by
 refine Gives.intro Try.func84 rfl rfl rfl rfl ?_
 intro F hF hm
 unfold Flaws_toRule at H
 obtain ⟨K, hK⟩ : ∃ K, k ≤ K := ⟨k, Nat.le_refl k⟩
 refine WpC.seq (WpC.regionL ?_)
 refine L.box 3 hF rfl rfl rfl rfl ?_
 refine L.alloc 4 info96 rfl hF rfl rfl rfl rfl (L.nil ?_)
 refine WpC.seq (WpC.regionL ?_)
 refine L.alloc 5 info96 rfl hF rfl rfl rfl rfl (L.nil ?_)
 refine WpC.seq (WpC.regionL ?_)
 refine L.fieldAddr Try.underlying121 rfl info3 rfl hF rfl rfl rfl rfl rfl ?_
 refine L.loadPtr shape3 hF rfl rfl rfl rfl rfl rfl ?_
 refine L.fieldAddr Try.underlying96 rfl info3 rfl hF rfl rfl rfl rfl rfl ?_
 refine L.storePtr shape3 hF rfl rfl rfl rfl rfl rfl rfl (L.nil ?_)
 refine WpC.seq (WpC.regionL ?_)
 refine L.fieldAddr Try.underlying121 rfl info39 rfl hF rfl rfl rfl rfl rfl ?_
 refine L.loadPtr shape39 hF rfl rfl rfl rfl rfl rfl ?_
 obtain ⟨r1, hr1, H⟩ := bindS H
 refine L.call [false] [] [] 6 hF rfl rfl rfl ent91 rfl rfl rfl rfl rfl (Flaws_toIntS_gives k g0 a0.Set r1 hr1) rfl ?_
 refine L.fieldAddr Try.underlying96 rfl info39 rfl hF rfl rfl rfl rfl rfl ?_
 refine L.storePtr shape39 hF rfl rfl rfl rfl rfl rfl rfl (L.nil ?_)
 refine WpC.seq (WpC.regionL ?_)
 refine L.fieldAddr Try.underlying121 rfl info3 rfl hF rfl rfl rfl rfl rfl ?_
 refine L.loadPtr shape3 hF rfl rfl rfl rfl rfl rfl ?_
 refine L.fieldAddr Try.underlying96 rfl info3 rfl hF rfl rfl rfl rfl rfl ?_
 refine L.storePtr shape3 hF rfl rfl rfl rfl rfl rfl rfl (L.nil ?_)
 refine WpC.seq (WpC.regionL ?_)
 refine L.loadPtr shape96 hF rfl rfl rfl rfl rfl rfl ?_
 refine L.storePtr shape96 hF rfl rfl rfl rfl rfl rfl rfl (L.nil ?_)
 refine WpC.ret ?_
 cases H
 exact Leaves.ret rfl rfl rfl ⟨rfl, rfl⟩
/-! ### Flaws_toRuleS -/
def Flaws_toRuleS.l2 : Nat → (List Tlaws_Rule) → (List Timpl_Rule) → Int → Option (List Timpl_Rule)
 | 0, _, _, _ => none
 | k2 + 1, v45, v46, v47 => cond (decide (v47 < (v45.length : Int))) ((at? v45 v47).bind fun b51 => (Flaws_toRule k2 b51).bind fun r52 => (at? v46 v47).bind fun b53 => (Flaws_toRuleS.l2 k2) v45 (v46.set v47.toNat r52) (IntKind.i64.wrap (v47 + (1 : Int)))) (some v46)
def Flaws_toRuleS (k : Nat) (a0 : List Tlaws_Rule) : Option (List Timpl_Rule) := cond (decide (0 ≤ (a0.length : Int) ∧ (a0.length : Int) ≤ (a0.length : Int) ∧ 40 * (a0.length : Int) ≤ 281474976710656 ∧ (a0.length : Int) ≤ 9223372036854775807)) (Flaws_toRuleS.l2 k a0 (List.replicate (a0.length : Int).toNat (⟨(0 : Int), [], (0 : Int)⟩ : Timpl_Rule)) (0 : Int)) none
theorem ent38 : MG.Enters Try.prog 38 := ⟨Try.f38, Try.func38, rfl, by decide⟩
set_option maxHeartbeats 8000000 in
set_option maxRecDepth 100000 in
theorem Flaws_toRuleS_gives (k : Nat) (g0 : Bool) (a0 : List Tlaws_Rule) (r : List Timpl_Rule) (H : Flaws_toRuleS k a0 = some r) : Gives Try.prog 38 [V.one (Cell.sl g0 (List.map eTlaws_Rule a0))] [] [V.one (Cell.ow 3 (List.map eTimpl_Rule r))] [] := by
 refine Gives.intro Try.func38 rfl rfl rfl rfl ?_
 intro F hF hm
 unfold Flaws_toRuleS at H
 obtain ⟨K, hK⟩ : ∃ K, k ≤ K := ⟨k, Nat.le_refl k⟩
 refine WpC.seq (WpC.regionL ?_)
 refine L.assign hF rfl rfl rfl (L.nil ?_)
 refine WpC.seq (WpC.regionL ?_)
 refine L.move hF rfl rfl rfl ?_
 refine L.lenR (xs := a0) (e := eTlaws_Rule) Try.underlying49 hF rfl rfl rfl rfl ?_
 obtain ⟨h1, H⟩ := condG H
 refine L.makeSliceN (e := eTimpl_Rule) 1 (⟨(0 : Int), [], (0 : Int)⟩ : Timpl_Rule) Try.underlying28 info96 rfl rfl rfl hF rfl rfl rfl rfl (of_decide_eq_true h1) rfl rfl ⟨rfl, rfl⟩ ?_
 refine L.assign hF rfl rfl rfl (L.nil ?_)
 refine WpC.seq (WpC.seq (WpC.regionL ?_))
 refine L.assign hF rfl rfl rfl (L.nil ?_)
 refine WpC.block ?_
 refine WpC.loopL (P := Try.prog) (fun n σ => ∃ v45 : List Tlaws_Rule, ∃ v46 : List Timpl_Rule, ∃ v47 : Int, n ≤ K ∧ Flaws_toRuleS.l2 n v45 v46 v47 = some r ∧ σ = mkSt [(0, MG.one (Cell.sl g0 (List.map eTlaws_Rule v45))), (3, MG.one (Cell.own 0)), (4, MG.one (cI v47))] [(0, ⟨3, List.map eTimpl_Rule v46⟩)] [] 1) k ⟨_, ⟨a0, (List.replicate (a0.length : Int).toNat (⟨(0 : Int), [], (0 : Int)⟩ : Timpl_Rule)), (0 : Int), by omega, H, rfl⟩, Le.mk [(0, 1)] hm rfl (Sa2 (Sa1 trivial)) (Ra1 trivial) trivial⟩ ?_
 clear H
 rintro k2 _ ⟨v45, v46, v47, hk2, H, rfl⟩
 cases k2 with
 | zero => cases H
 | succ k2 =>
  rw [Flaws_toRuleS.l2] at H
  refine WpC.seq (WpC.seq (WpC.regionL ?_))
  refine L.move hF rfl rfl rfl ?_
  refine L.move hF rfl rfl rfl ?_
  refine L.lenR (xs := v45) (e := eTlaws_Rule) Try.underlying49 hF rfl rfl rfl rfl ?_
  refine L.bin hF rfl rfl rfl rfl rfl rfl (L.nil ?_)
  refine WpC.cond rfl (fun hc => ?_) (fun hc => ?_)
  ·replace H := condT hc H
   refine WpC.skip (WpC.seq (WpC.block (WpC.regionL ?_)))
   refine L.move hF rfl rfl rfl ?_
   refine L.move hF rfl rfl rfl ?_
   refine L.move hF rfl rfl rfl ?_
   refine L.move hF rfl rfl rfl ?_
   obtain ⟨b51, hb51, H⟩ := bindS H
   refine L.idxR (xs := v45) (e := eTlaws_Rule) Try.underlying49 info121 hF rfl rfl rfl rfl rfl hb51 rfl rfl ?_
   refine L.loadPe shape121 hF rfl rfl rfl rfl rfl ?_
   obtain ⟨r52, hr52, H⟩ := bindS H
   refine L.call [false] [] [] 1 hF rfl rfl rfl ent84 rfl rfl rfl rfl rfl (Flaws_toRule_gives k2 true b51 r52 hr52) rfl ?_
   obtain ⟨b53, hb53, H⟩ := bindS H
   refine L.idxR (xs := v46) (e := eTimpl_Rule) Try.underlying28 info96 hF rfl rfl rfl rfl rfl hb53 rfl rfl ?_
   refine L.storeEpN (xs := v46) (e := eTimpl_Rule) (a' := r52) 1 shape96 hF rfl rfl rfl rfl rfl rfl rfl (at?_get hb53).2 rfl rfl ?_
   refine L.nil ?_
   refine WpC.regionL ?_
   refine L.move hF rfl rfl rfl ?_
   refine L.bin hF rfl rfl rfl rfl rfl rfl ?_
   refine L.assign hF rfl rfl rfl (L.nil ?_)
   exact ⟨k2, _, by omega, ⟨v45, (v46.set v47.toNat r52), (IntKind.i64.wrap (v47 + (1 : Int))), by omega, H, rfl⟩, Le.mk [(0, 0)] hm rfl (Sa2 (Sa1 trivial)) (Ra1 trivial) trivial⟩
  ·replace H := condF hc H
   refine WpC.exit (WpC.seq (WpC.regionL ?_))
   refine L.move hF rfl rfl rfl ?_
   refine L.assign hF rfl rfl rfl (L.nil ?_)
   refine WpC.ret ?_
   cases H
   exact Leaves.ret rfl rfl rfl ⟨rfl, rfl⟩
/-! ### Fspec_l1In -/
def Fspec_l1In (k : Nat) (a0 : Int) (a1 : Int) (a2 : Int) : Option Bool := cond (decide (a0 ≥ a1)) (some (decide (a0 ≤ a2))) (some false)
theorem ent121 : MG.Enters Try.prog 121 := ⟨Try.f121, Try.func121, rfl, by decide⟩
set_option maxHeartbeats 8000000 in
set_option maxRecDepth 100000 in
theorem Fspec_l1In_gives (k : Nat) (a0 : Int) (a1 : Int) (a2 : Int) (r : Bool) (H : Fspec_l1In k a0 a1 a2 = some r) : Gives Try.prog 121 [V.one (cI a0), V.one (cI a1), V.one (cI a2)] [] [V.one (cL r)] [] := by
 refine Gives.intro Try.func121 rfl rfl rfl rfl ?_
 intro F hF hm
 unfold Fspec_l1In at H
 obtain ⟨K, hK⟩ : ∃ K, k ≤ K := ⟨k, Nat.le_refl k⟩
 refine WpC.seq (WpC.regionL ?_)
 refine L.assign hF rfl rfl rfl (L.nil ?_)
 refine WpC.seq (WpC.regionL ?_)
 refine L.move hF rfl rfl rfl ?_
 refine L.move hF rfl rfl rfl ?_
 refine L.bin hF rfl rfl rfl rfl rfl rfl ?_
 refine L.move hF rfl rfl rfl ?_
 refine L.split (fun hc => ?_) (fun hc => ?_)
 ·replace H := condT hc H
  refine L.move hF rfl rfl rfl ?_
  refine L.move hF rfl rfl rfl ?_
  refine L.bin hF rfl rfl rfl rfl rfl rfl ?_
  refine L.pick hF rfl rfl rfl rfl ?_
  refine L.assign hF rfl rfl rfl (L.nil ?_)
  refine WpC.ret ?_
  cases H
  exact Leaves.ret rfl rfl rfl ⟨rfl, rfl⟩
 ·replace H := condF hc H
  refine L.off hF rfl rfl ?_
  refine L.off hF rfl rfl ?_
  refine L.off hF rfl rfl ?_
  refine L.pick hF rfl rfl rfl rfl ?_
  refine L.assign hF rfl rfl rfl (L.nil ?_)
  refine WpC.ret ?_
  cases H
  exact Leaves.ret rfl rfl rfl ⟨rfl, rfl⟩
/-! ### Fspec_l17Set -/
def Fspec_l17Set.j8 (cl7 : (List Int) → Int → Option Bool) (k : Nat) (v107 : List Int) (v108 : Int) : Option Bool := cl7 v107 (IntKind.i64.wrap (v108 + (1 : Int)))
def Fspec_l17Set.l7 : Nat → (List Int) → Int → Option Bool
 | 0, _, _ => none
 | k7 + 1, v97, v98 => cond (decide (v98 < (v97.length : Int))) ((at? v97 v98).bind fun b113 => (Fspec_l1In k7 b113 (0 : Int) (30 : Int)).bind fun r114 => cond (!r114) (some false) (cond (decide (v98 > (0 : Int))) ((at? v97 (IntKind.i64.wrap (v98 - (1 : Int)))).bind fun b117 => (at? v97 v98).bind fun b118 => cond (decide (b117 ≥ b118)) (some false) (Fspec_l17Set.j8 (Fspec_l17Set.l7 k7) k7 v97 v98)) (Fspec_l17Set.j8 (Fspec_l17Set.l7 k7) k7 v97 v98))) (some true)
def Fspec_l17Set (k : Nat) (a0 : List Int) : Option Bool := Fspec_l17Set.l7 k a0 (0 : Int)
theorem ent129 : MG.Enters Try.prog 129 := ⟨Try.f129, Try.func129, rfl, by decide⟩
set_option maxHeartbeats 8000000 in
set_option maxRecDepth 100000 in
theorem Fspec_l17Set_gives (k : Nat) (g0 : Bool) (a0 : List Int) (r : Bool) (H : Fspec_l17Set k a0 = some r) : Gives Try.prog 129 [V.one (Cell.sl g0 (List.map eI a0))] [] [V.one (cL r)] [] := by
 refine Gives.intro Try.func129 rfl rfl rfl rfl ?_
 intro F hF hm
 unfold Fspec_l17Set at H
 obtain ⟨K, hK⟩ : ∃ K, k ≤ K := ⟨k, Nat.le_refl k⟩
 refine WpC.seq (WpC.regionL ?_)
 refine L.assign hF rfl rfl rfl (L.nil ?_)
 refine WpC.seq (WpC.seq (WpC.regionL ?_))
 refine L.assign hF rfl rfl rfl (L.nil ?_)
 refine WpC.block ?_
 refine WpC.loopL (P := Try.prog) (fun n σ => ∃ v97 : List Int, ∃ v98 : Int, n ≤ K ∧ Fspec_l17Set.l7 n v97 v98 = some r ∧ σ = mkSt [(0, MG.one (Cell.sl g0 (List.map eI v97))), (3, MG.one (cI v98))] [] [] 0) k ⟨_, ⟨a0, (0 : Int), by omega, H, rfl⟩, Le.mk [] hm rfl (Sa2 trivial) trivial trivial⟩ ?_
 clear H
 rintro k7 _ ⟨v97, v98, hk7, H, rfl⟩
 cases k7 with
 | zero => cases H
 | succ k7 =>
  rw [Fspec_l17Set.l7] at H
  refine WpC.seq (WpC.seq (WpC.regionL ?_))
  refine L.move hF rfl rfl rfl ?_
  refine L.move hF rfl rfl rfl ?_
  refine L.lenR (xs := v97) (e := eI) Try.underlying39 hF rfl rfl rfl rfl ?_
  refine L.bin hF rfl rfl rfl rfl rfl rfl (L.nil ?_)
  refine WpC.cond rfl (fun hc => ?_) (fun hc => ?_)
  ·replace H := condT hc H
   refine WpC.skip ?_
   refine WpC.join (fun σ => ∃ kj8 : Nat, ∃ v107 : List Int, ∃ v108 : Int, kj8 ≤ K ∧ Fspec_l17Set.j8 (Fspec_l17Set.l7 k7) kj8 v107 v108 = some r ∧ σ = mkSt [(0, MG.one (Cell.sl g0 (List.map eI v107))), (3, MG.one (cI v108))] [] [] 0) ?_ ?_
   ·rintro _ ⟨kj8, v107, v108, hkj8, H, rfl⟩
    unfold Fspec_l17Set.j8 at H
    refine WpC.regionL ?_
    refine L.move hF rfl rfl rfl ?_
    refine L.bin hF rfl rfl rfl rfl rfl rfl ?_
    refine L.assign hF rfl rfl rfl (L.nil ?_)
    exact ⟨k7, _, by omega, ⟨v107, (IntKind.i64.wrap (v108 + (1 : Int))), by omega, H, rfl⟩, Le.mk [] hm rfl (Sa2 trivial) trivial trivial⟩
   ·refine WpC.block (WpC.seq ?_)
    obtain ⟨b113, hb113, H⟩ := bindS H
    obtain ⟨r114, hr114, H⟩ := bindS H
    rcases Bool.eq_false_or_eq_true ((!r114)) with hc115 | hc115
    ·replace H := condT hc115 H
     refine A.begin mixed rfl rfl ?_
     intro W hI hO
     refine hI _ _ _ ?_
     refine Atk 0 rfl (Ca.move) (fun Q0 k0 => L.move hF rfl rfl rfl (L.nil k0)) ?_
     refine Atk 1 rfl (Ca.move) (fun Q0 k0 => L.move hF rfl rfl rfl (L.nil k0)) ?_
     refine Atk 2 rfl (Ca.indexAddr) (fun Q0 k0 => L.idxR (xs := v97) (e := eI) Try.underlying39 info3 hF rfl rfl rfl rfl rfl hb113 rfl rfl (L.nil k0)) ?_
     refine A.all [3] (by kernel_rfl) rfl ⟨⟨_, rfl, ?_⟩, trivial⟩
     refine L.loadPe shape3 hF rfl rfl rfl rfl rfl (L.nil ?_)
     refine A.all [4] (by kernel_rfl) rfl ⟨⟨_, rfl, ?_⟩, trivial⟩
     refine L.call [false, false, false] [] [] 0 hF rfl rfl rfl ent121 rfl rfl rfl rfl rfl (Fspec_l1In_gives k7  b113 (0 : Int) (30 : Int) r114 hr114) rfl (L.nil ?_)
     refine Atk 5 rfl (Ca.un rfl rfl) (fun Q0 k0 => L.not hF rfl rfl rfl (L.nil k0)) ?_
     refine Atk 6 rfl (Ca.move) (fun Q0 k0 => L.move hF rfl rfl rfl (L.nil k0)) ?_
     refine A.le (τ := mkSt [(0, MG.one (Cell.sl g0 (List.map eI v97))), (3, MG.one (cI v98)), (16, MG.one (cL true))] [] [] 0) (Le.mk [] hm rfl (Sa2 (Sa1 trivial rfl (congrArg (fun b => some (MG.one (cL b))) hc115))) trivial trivial) ?_
     refine Aof 7 rfl hF ?_
     refine Aof 8 rfl hF ?_
     refine Aof 9 rfl hF ?_
     refine Aof 10 rfl hF ?_
     refine Aof 11 rfl hF ?_
     refine Aof 12 rfl hF ?_
     refine Aof 13 rfl hF ?_
     refine Aof 14 rfl hF ?_
     refine Aof 15 rfl hF ?_
     refine Aof 16 rfl hF ?_
     refine A.le (τ := mkSt [(0, MG.one (Cell.sl g0 (List.map eI v97))), (3, MG.one (cI v98)), (16, MG.one (cL true)), (19, Slot.tup []), (24, Slot.tup []), (25, Slot.tup []), (26, Slot.tup [])] [] [] 0) (Le.mk [] hm rfl (Sa4 (Sa2 (Sa1 trivial))) trivial trivial) ?_
     refine Aof 17 rfl hF ?_
     refine Aof 18 rfl hF ?_
     refine Aof 19 rfl hF ?_
     refine Aof 20 rfl hF ?_
     refine Atk 21 rfl (Ca.pick) (fun Q0 k0 => L.pick hF rfl rfl rfl rfl (L.nil k0)) ?_
     refine A.le (τ := mkSt [(0, MG.one (Cell.sl g0 (List.map eI v97))), (3, MG.one (cI v98)), (31, MG.one (cL true))] [] [] 0) (Le.mk [] hm rfl (Sa2 (Sa1 trivial)) trivial trivial) ?_
     refine A.done (by kernel_rfl) ?_
     refine WpC.cond rfl (fun _ => ?_) (fun hc => by cases hc)
     refine WpC.seq (WpC.regionL ?_)
     refine L.assign hF rfl rfl rfl (L.nil ?_)
     refine WpC.ret ?_
     cases H
     exact Leaves.ret rfl rfl rfl ⟨rfl, rfl⟩
    ·replace H := condF hc115 H
     rcases Bool.eq_false_or_eq_true ((decide (v98 > (0 : Int)))) with hc116 | hc116
     ·replace H := condT hc116 H
      obtain ⟨b117, hb117, H⟩ := bindS H
      obtain ⟨b118, hb118, H⟩ := bindS H
      refine A.begin mixed rfl rfl ?_
      intro W hI hO
      have n524287 : W 3 #[true, true, true, true, true, true, true, true, true, true, true, true, true, true, true, true, true, true, true, false, false, false] (mkSt [(0, MG.one (Cell.sl g0 (List.map eI v97))), (3, MG.one (cI v98)), (16, MG.one (cL false)), (19, MG.one (cL true)), (24, MG.one (cI b117)), (28, MG.one (cI b118))] [] [] 0) := by
       refine hI _ _ _ ?_
       refine Atk 19 rfl (Ca.bin rfl rfl (calm_int _ _ _ _ _ _ _ _)) (fun Q0 k0 => L.bin hF rfl rfl rfl rfl rfl rfl (L.nil k0)) ?_
       refine Atk 20 rfl (Ca.pick) (fun Q0 k0 => L.pick hF rfl rfl rfl rfl (L.nil k0)) ?_
       refine Atk 21 rfl (Ca.pick) (fun Q0 k0 => L.pick hF rfl rfl rfl rfl (L.nil k0)) ?_
       refine A.le (τ := mkSt [(0, MG.one (Cell.sl g0 (List.map eI v97))), (3, MG.one (cI v98)), (31, MG.one (cL (decide (b117 ≥ b118))))] [] [] 0) (Le.mk [] hm rfl (Sa2 (Sa1 trivial)) trivial trivial) ?_
       refine A.done (by kernel_rfl) ?_
       refine WpC.cond rfl (fun hc => ?_) (fun hc => ?_)
       ·replace H := condT hc H
        refine WpC.seq (WpC.regionL ?_)
        refine L.assign hF rfl rfl rfl (L.nil ?_)
        refine WpC.ret ?_
        cases H
        exact Leaves.ret rfl rfl rfl ⟨rfl, rfl⟩
       ·replace H := condF hc H
        refine WpC.skip ?_
        exact ⟨_, ⟨k7, v97, v98, by omega, H, rfl⟩, Le.mk [] hm rfl (Sa2 trivial) trivial trivial⟩
      refine hI _ _ _ ?_
      refine Atk 0 rfl (Ca.move) (fun Q0 k0 => L.move hF rfl rfl rfl (L.nil k0)) ?_
      refine Atk 1 rfl (Ca.move) (fun Q0 k0 => L.move hF rfl rfl rfl (L.nil k0)) ?_
      refine Atk 2 rfl (Ca.indexAddr) (fun Q0 k0 => L.idxR (xs := v97) (e := eI) Try.underlying39 info3 hF rfl rfl rfl rfl rfl hb113 rfl rfl (L.nil k0)) ?_
      refine A.all [3] (by kernel_rfl) rfl ⟨⟨_, rfl, ?_⟩, trivial⟩
      refine L.loadPe shape3 hF rfl rfl rfl rfl rfl (L.nil ?_)
      refine A.all [4] (by kernel_rfl) rfl ⟨⟨_, rfl, ?_⟩, trivial⟩
      refine L.call [false, false, false] [] [] 0 hF rfl rfl rfl ent121 rfl rfl rfl rfl rfl (Fspec_l1In_gives k7  b113 (0 : Int) (30 : Int) r114 hr114) rfl (L.nil ?_)
      refine Atk 5 rfl (Ca.un rfl rfl) (fun Q0 k0 => L.not hF rfl rfl rfl (L.nil k0)) ?_
      refine Atk 6 rfl (Ca.move) (fun Q0 k0 => L.move hF rfl rfl rfl (L.nil k0)) ?_
      refine A.le (τ := mkSt [(0, MG.one (Cell.sl g0 (List.map eI v97))), (3, MG.one (cI v98)), (16, MG.one (cL false))] [] [] 0) (Le.mk [] hm rfl (Sa2 (Sa1 trivial rfl (congrArg (fun b => some (MG.one (cL b))) hc115))) trivial trivial) ?_
      refine Atk 7 rfl (Ca.move) (fun Q0 k0 => L.move hF rfl rfl rfl (L.nil k0)) ?_
      refine Atk 8 rfl (Ca.bin rfl rfl (calm_int _ _ _ _ _ _ _ _)) (fun Q0 k0 => L.bin hF rfl rfl rfl rfl rfl rfl (L.nil k0)) ?_
      refine Atk 9 rfl (Ca.move) (fun Q0 k0 => L.move hF rfl rfl rfl (L.nil k0)) ?_
      refine A.le (τ := mkSt [(0, MG.one (Cell.sl g0 (List.map eI v97))), (3, MG.one (cI v98)), (16, MG.one (cL false)), (19, MG.one (cL true))] [] [] 0) (Le.mk [] hm rfl (Sa2 (Sa1 (Sa1 trivial rfl (congrArg (fun b => some (MG.one (cL b))) hc116)))) trivial trivial) ?_
      refine Atk 10 rfl (Ca.move) (fun Q0 k0 => L.move hF rfl rfl rfl (L.nil k0)) ?_
      refine Atk 11 rfl (Ca.move) (fun Q0 k0 => L.move hF rfl rfl rfl (L.nil k0)) ?_
      refine Atk 12 rfl (Ca.bin rfl rfl (calm_int _ _ _ _ _ _ _ _)) (fun Q0 k0 => L.bin hF rfl rfl rfl rfl rfl rfl (L.nil k0)) ?_
      refine Atk 13 rfl (Ca.indexAddr) (fun Q0 k0 => L.idxR (xs := v97) (e := eI) Try.underlying39 info3 hF rfl rfl rfl rfl rfl hb117 rfl rfl (L.nil k0)) ?_
      refine Atk 15 rfl (Ca.move) (fun Q0 k0 => L.move hF rfl rfl rfl (L.nil k0)) ?_
      refine Atk 16 rfl (Ca.move) (fun Q0 k0 => L.move hF rfl rfl rfl (L.nil k0)) ?_
      refine Atk 17 rfl (Ca.indexAddr) (fun Q0 k0 => L.idxR (xs := v97) (e := eI) Try.underlying39 info3 hF rfl rfl rfl rfl rfl hb118 rfl rfl (L.nil k0)) ?_
      refine A.all [14, 18] (by kernel_rfl) rfl ⟨⟨_, rfl, ?_⟩, ⟨_, rfl, ?_⟩, trivial⟩
      ·refine L.loadPe shape3 hF rfl rfl rfl rfl rfl (L.nil ?_)
       refine A.all [18] (by kernel_rfl) rfl ⟨⟨_, rfl, ?_⟩, trivial⟩
       refine L.loadPe shape3 hF rfl rfl rfl rfl rfl (L.nil ?_)
       exact A.on (hO _ _ _ n524287) (Le.mk [] hm rfl (Sa4 (Sa2 trivial)) trivial trivial)
      ·refine L.loadPe shape3 hF rfl rfl rfl rfl rfl (L.nil ?_)
       refine A.all [14] (by kernel_rfl) rfl ⟨⟨_, rfl, ?_⟩, trivial⟩
       refine L.loadPe shape3 hF rfl rfl rfl rfl rfl (L.nil ?_)
       exact A.on (hO _ _ _ n524287) (Le.mk [] hm rfl (Sa4 (Sa2 trivial)) trivial trivial)
     ·replace H := condF hc116 H
      refine A.begin mixed rfl rfl ?_
      intro W hI hO
      refine hI _ _ _ ?_
      refine Atk 0 rfl (Ca.move) (fun Q0 k0 => L.move hF rfl rfl rfl (L.nil k0)) ?_
      refine Atk 1 rfl (Ca.move) (fun Q0 k0 => L.move hF rfl rfl rfl (L.nil k0)) ?_
      refine Atk 2 rfl (Ca.indexAddr) (fun Q0 k0 => L.idxR (xs := v97) (e := eI) Try.underlying39 info3 hF rfl rfl rfl rfl rfl hb113 rfl rfl (L.nil k0)) ?_
      refine A.all [3] (by kernel_rfl) rfl ⟨⟨_, rfl, ?_⟩, trivial⟩
      refine L.loadPe shape3 hF rfl rfl rfl rfl rfl (L.nil ?_)
      refine A.all [4] (by kernel_rfl) rfl ⟨⟨_, rfl, ?_⟩, trivial⟩
      refine L.call [false, false, false] [] [] 0 hF rfl rfl rfl ent121 rfl rfl rfl rfl rfl (Fspec_l1In_gives k7  b113 (0 : Int) (30 : Int) r114 hr114) rfl (L.nil ?_)
      refine Atk 5 rfl (Ca.un rfl rfl) (fun Q0 k0 => L.not hF rfl rfl rfl (L.nil k0)) ?_
      refine Atk 6 rfl (Ca.move) (fun Q0 k0 => L.move hF rfl rfl rfl (L.nil k0)) ?_
      refine A.le (τ := mkSt [(0, MG.one (Cell.sl g0 (List.map eI v97))), (3, MG.one (cI v98)), (16, MG.one (cL false))] [] [] 0) (Le.mk [] hm rfl (Sa2 (Sa1 trivial rfl (congrArg (fun b => some (MG.one (cL b))) hc115))) trivial trivial) ?_
      refine Atk 7 rfl (Ca.move) (fun Q0 k0 => L.move hF rfl rfl rfl (L.nil k0)) ?_
      refine Atk 8 rfl (Ca.bin rfl rfl (calm_int _ _ _ _ _ _ _ _)) (fun Q0 k0 => L.bin hF rfl rfl rfl rfl rfl rfl (L.nil k0)) ?_
      refine Atk 9 rfl (Ca.move) (fun Q0 k0 => L.move hF rfl rfl rfl (L.nil k0)) ?_
      refine A.le (τ := mkSt [(0, MG.one (Cell.sl g0 (List.map eI v97))), (3, MG.one (cI v98)), (16, MG.one (cL false)), (19, MG.one (cL false))] [] [] 0) (Le.mk [] hm rfl (Sa2 (Sa1 (Sa1 trivial rfl (congrArg (fun b => some (MG.one (cL b))) hc116)))) trivial trivial) ?_
      refine Aof 10 rfl hF ?_
      refine Aof 11 rfl hF ?_
      refine Aof 12 rfl hF ?_
      refine Aof 13 rfl hF ?_
      refine Aof 14 rfl hF ?_
      refine Aof 15 rfl hF ?_
      refine Aof 16 rfl hF ?_
      refine Aof 17 rfl hF ?_
      refine Aof 18 rfl hF ?_
      refine Aof 19 rfl hF ?_
      refine A.le (τ := mkSt [(0, MG.one (Cell.sl g0 (List.map eI v97))), (3, MG.one (cI v98)), (16, MG.one (cL false)), (19, MG.one (cL false)), (29, Slot.tup [])] [] [] 0) (Le.mk [] hm rfl (Sa4 (Sa1 trivial)) trivial trivial) ?_
      refine Atk 20 rfl (Ca.pick) (fun Q0 k0 => L.pick hF rfl rfl rfl rfl (L.nil k0)) ?_
      refine Atk 21 rfl (Ca.pick) (fun Q0 k0 => L.pick hF rfl rfl rfl rfl (L.nil k0)) ?_
      refine A.le (τ := mkSt [(0, MG.one (Cell.sl g0 (List.map eI v97))), (3, MG.one (cI v98)), (31, MG.one (cL false))] [] [] 0) (Le.mk [] hm rfl (Sa2 (Sa1 trivial)) trivial trivial) ?_
      refine A.done (by kernel_rfl) ?_
      refine WpC.cond rfl (fun hc => by cases hc) (fun _ => ?_)
      refine WpC.skip ?_
      exact ⟨_, ⟨k7, v97, v98, by omega, H, rfl⟩, Le.mk [] hm rfl (Sa2 trivial) trivial trivial⟩
  ·replace H := condF hc H
   refine WpC.exit (WpC.seq (WpC.regionL ?_))
   refine L.assign hF rfl rfl rfl (L.nil ?_)
   refine WpC.ret ?_
   cases H
   exact Leaves.ret rfl rfl rfl ⟨rfl, rfl⟩
/-! ### Fspec_l17Ok -/
def Fspec_l17Ok (k : Nat) (a0 : Timpl_Rule) : Option Bool := (Fspec_l1In k a0.Kind (1 : Int) (3 : Int)).bind fun r4 => cond r4 (cond (a0.N == (0 : Int)) ((Fspec_l17Set k a0.Set).bind fun r6 => some r6) (some false)) ((Fspec_l1In k a0.Kind (4 : Int) (5 : Int)).bind fun r9 => cond r9 (cond ((a0.Set.length : Int) == (0 : Int)) ((Fspec_l1In k a0.N (0 : Int) (100000 : Int)).bind fun r10 => some r10) (some false)) (some false))
theorem ent67 : MG.Enters Try.prog 67 := ⟨Try.f67, Try.func67, rfl, by decide⟩
set_option maxHeartbeats 8000000 in
set_option maxRecDepth 100000 in
theorem Fspec_l17Ok_gives (k : Nat) (g0 : Bool) (a0 : Timpl_Rule) (r : Bool) (H : Fspec_l17Ok k a0 = some r) : Gives Try.prog 67 [V.agg [cI a0.Kind, Cell.sl g0 (List.map eI a0.Set), cI a0.N]] [] [V.one (cL r)] [] := by
 refine Gives.intro Try.func67 rfl rfl rfl rfl ?_
 intro F hF hm
 unfold Fspec_l17Ok at H
 obtain ⟨K, hK⟩ : ∃ K, k ≤ K := ⟨k, Nat.le_refl k⟩
 refine WpC.seq (WpC.regionL ?_)
 refine L.box 3 hF rfl rfl rfl rfl ?_
 refine L.assign hF rfl rfl rfl (L.nil ?_)
 refine WpC.seq (WpC.seq (WpC.regionL ?_))
 refine L.fieldAddr Try.underlying96 rfl info3 rfl hF rfl rfl rfl rfl rfl ?_
 refine L.loadPtr shape3 hF rfl rfl rfl rfl rfl rfl ?_
 obtain ⟨r4, hr4, H⟩ := bindS H
 refine L.call [false, false, false] [] [] 4 hF rfl rfl rfl ent121 rfl rfl rfl rfl rfl (Fspec_l1In_gives k  a0.Kind (1 : Int) (3 : Int) r4 hr4) rfl (L.nil ?_)
 refine WpC.cond rfl (fun hc => ?_) (fun hc => ?_)
 ·replace H := condT hc H
  refine WpC.seq (WpC.regionL ?_)
  refine L.fieldAddr Try.underlying96 rfl info3 rfl hF rfl rfl rfl rfl rfl ?_
  refine L.loadPtr shape3 hF rfl rfl rfl rfl rfl rfl ?_
  refine L.bin hF rfl rfl rfl rfl rfl rfl ?_
  refine L.move hF rfl rfl rfl ?_
  refine L.split (fun hc => ?_) (fun hc => ?_)
  ·replace H := condT hc H
   refine L.fieldAddr Try.underlying96 rfl info39 rfl hF rfl rfl rfl rfl rfl ?_
   refine L.loadPtr shape39 hF rfl rfl rfl rfl rfl rfl ?_
   obtain ⟨r6, hr6, H⟩ := bindS H
   refine L.call [false] [] [] 5 hF rfl rfl rfl ent129 rfl rfl rfl rfl rfl (Fspec_l17Set_gives k g0 a0.Set r6 hr6) rfl ?_
   refine L.pick hF rfl rfl rfl rfl ?_
   refine L.assign hF rfl rfl rfl (L.nil ?_)
   refine WpC.ret ?_
   cases H
   exact Leaves.ret rfl rfl rfl ⟨rfl, rfl⟩
  ·replace H := condF hc H
   refine L.off hF rfl rfl ?_
   refine L.off hF rfl rfl ?_
   refine L.off hF rfl rfl ?_
   refine L.pick hF rfl rfl rfl rfl ?_
   refine L.assign hF rfl rfl rfl (L.nil ?_)
   refine WpC.ret ?_
   cases H
   exact Leaves.ret rfl rfl rfl ⟨rfl, rfl⟩
 ·replace H := condF hc H
  refine WpC.skip (WpC.seq (WpC.regionL ?_))
  refine L.fieldAddr Try.underlying96 rfl info3 rfl hF rfl rfl rfl rfl rfl ?_
  refine L.loadPtr shape3 hF rfl rfl rfl rfl rfl rfl ?_
  obtain ⟨r9, hr9, H⟩ := bindS H
  refine L.call [false, false, false] [] [] 5 hF rfl rfl rfl ent121 rfl rfl rfl rfl rfl (Fspec_l1In_gives k  a0.Kind (4 : Int) (5 : Int) r9 hr9) rfl ?_
  refine L.move hF rfl rfl rfl ?_
  refine L.split (fun hc => ?_) (fun hc => ?_)
  ·replace H := condT hc H
   refine L.fieldAddr Try.underlying96 rfl info39 rfl hF rfl rfl rfl rfl rfl ?_
   refine L.loadPtr shape39 hF rfl rfl rfl rfl rfl rfl ?_
   refine L.lenR (xs := a0.Set) (e := eI) Try.underlying39 hF rfl rfl rfl rfl ?_
   refine L.bin hF rfl rfl rfl rfl rfl rfl ?_
   refine L.pick hF rfl rfl rfl rfl ?_
   refine L.move hF rfl rfl rfl ?_
   refine L.split (fun hc => ?_) (fun hc => ?_)
   ·replace H := condT hc H
    refine L.fieldAddr Try.underlying96 rfl info3 rfl hF rfl rfl rfl rfl rfl ?_
    refine L.loadPtr shape3 hF rfl rfl rfl rfl rfl rfl ?_
    obtain ⟨r10, hr10, H⟩ := bindS H
    refine L.call [false, false, false] [] [] 6 hF rfl rfl rfl ent121 rfl rfl rfl rfl rfl (Fspec_l1In_gives k  a0.N (0 : Int) (100000 : Int) r10 hr10) rfl ?_
    refine L.pick hF rfl rfl rfl rfl ?_
    refine L.assign hF rfl rfl rfl (L.nil ?_)
    refine WpC.ret ?_
    cases H
    exact Leaves.ret rfl rfl rfl ⟨rfl, rfl⟩
   ·replace H := condF hc H
    refine L.off hF rfl rfl ?_
    refine L.off hF rfl rfl ?_
    refine L.off hF rfl rfl ?_
    refine L.pick hF rfl rfl rfl rfl ?_
    refine L.assign hF rfl rfl rfl (L.nil ?_)
    refine WpC.ret ?_
    cases H
    exact Leaves.ret rfl rfl rfl ⟨rfl, rfl⟩
  ·replace H := condF hc H
   refine L.off hF rfl rfl ?_
   refine L.off hF rfl rfl ?_
   refine L.off hF rfl rfl ?_
   refine L.off hF rfl rfl ?_
   refine L.pick hF rfl rfl rfl rfl ?_
   refine L.move hF rfl rfl rfl ?_
   refine L.off hF rfl rfl ?_
   refine L.off hF rfl rfl ?_
   refine L.off hF rfl rfl ?_
   refine L.pick hF rfl rfl rfl rfl ?_
   refine L.assign hF rfl rfl rfl (L.nil ?_)
   refine WpC.ret ?_
   cases H
   exact Leaves.ret rfl rfl rfl ⟨rfl, rfl⟩
/-! ### Fspec_RulesOk -/
def Fspec_RulesOk.l2 : Nat → (List Timpl_Rule) → Int → Option Bool
 | 0, _, _ => none
 | k2 + 1, v29, v30 => cond (decide (v30 < (v29.length : Int))) ((at? v29 v30).bind fun b33 => (Fspec_l17Ok k2 b33).bind fun r34 => cond (!r34) (some false) ((Fspec_RulesOk.l2 k2) v29 (IntKind.i64.wrap (v30 + (1 : Int))))) (some true)
def Fspec_RulesOk (k : Nat) (a0 : List Timpl_Rule) : Option Bool := cond (decide ((a0.length : Int) > (20 : Int))) (some false) (Fspec_RulesOk.l2 k a0 (0 : Int))
theorem ent25 : MG.Enters Try.prog 25 := ⟨Try.f25, Try.func25, rfl, by decide⟩
set_option maxHeartbeats 8000000 in
set_option maxRecDepth 100000 in
theorem Fspec_RulesOk_gives (k : Nat) (g0 : Bool) (a0 : List Timpl_Rule) (r : Bool) (H : Fspec_RulesOk k a0 = some r) : Gives Try.prog 25 [V.one (Cell.sl g0 (List.map eTimpl_Rule a0))] [] [V.one (cL r)] [] := by
 refine Gives.intro Try.func25 rfl rfl rfl rfl ?_
 intro F hF hm
 unfold Fspec_RulesOk at H
 obtain ⟨K, hK⟩ : ∃ K, k ≤ K := ⟨k, Nat.le_refl k⟩
 refine WpC.seq (WpC.regionL ?_)
 refine L.assign hF rfl rfl rfl (L.nil ?_)
 refine WpC.seq (WpC.seq (WpC.regionL ?_))
 refine L.move hF rfl rfl rfl ?_
 refine L.lenR (xs := a0) (e := eTimpl_Rule) Try.underlying28 hF rfl rfl rfl rfl ?_
 refine L.bin hF rfl rfl rfl rfl rfl rfl (L.nil ?_)
 refine WpC.cond rfl (fun hc => ?_) (fun hc => ?_)
 ·replace H := condT hc H
  refine WpC.seq (WpC.regionL ?_)
  refine L.assign hF rfl rfl rfl (L.nil ?_)
  refine WpC.ret ?_
  cases H
  exact Leaves.ret rfl rfl rfl ⟨rfl, rfl⟩
 ·replace H := condF hc H
  refine WpC.skip (WpC.seq (WpC.seq (WpC.regionL ?_)))
  refine L.assign hF rfl rfl rfl (L.nil ?_)
  refine WpC.block ?_
  refine WpC.loopL (P := Try.prog) (fun n σ => ∃ v29 : List Timpl_Rule, ∃ v30 : Int, n ≤ K ∧ Fspec_RulesOk.l2 n v29 v30 = some r ∧ σ = mkSt [(0, MG.one (Cell.sl g0 (List.map eTimpl_Rule v29))), (3, MG.one (cI v30))] [] [] 0) k ⟨_, ⟨a0, (0 : Int), by omega, H, rfl⟩, Le.mk [] hm rfl (Sa2 trivial) trivial trivial⟩ ?_
  clear H
  rintro k2 _ ⟨v29, v30, hk2, H, rfl⟩
  cases k2 with
  | zero => cases H
  | succ k2 =>
   rw [Fspec_RulesOk.l2] at H
   refine WpC.seq (WpC.seq (WpC.regionL ?_))
   refine L.move hF rfl rfl rfl ?_
   refine L.move hF rfl rfl rfl ?_
   refine L.lenR (xs := v29) (e := eTimpl_Rule) Try.underlying28 hF rfl rfl rfl rfl ?_
   refine L.bin hF rfl rfl rfl rfl rfl rfl (L.nil ?_)
   refine WpC.cond rfl (fun hc => ?_) (fun hc => ?_)
   ·replace H := condT hc H
    refine WpC.skip (WpC.seq (WpC.block (WpC.seq (WpC.regionL ?_))))
    refine L.move hF rfl rfl rfl ?_
    refine L.move hF rfl rfl rfl ?_
    obtain ⟨b33, hb33, H⟩ := bindS H
    refine L.idxR (xs := v29) (e := eTimpl_Rule) Try.underlying28 info96 hF rfl rfl rfl rfl rfl hb33 rfl rfl ?_
    refine L.loadPe shape96 hF rfl rfl rfl rfl rfl ?_
    obtain ⟨r34, hr34, H⟩ := bindS H
    refine L.call [false] [] [] 0 hF rfl rfl rfl ent67 rfl rfl rfl rfl rfl (Fspec_l17Ok_gives k2 g0 b33 r34 hr34) rfl ?_
    refine L.not hF rfl rfl rfl (L.nil ?_)
    refine WpC.cond rfl (fun hc => ?_) (fun hc => ?_)
    ·replace H := condT hc H
     refine WpC.seq (WpC.regionL ?_)
     refine L.assign hF rfl rfl rfl (L.nil ?_)
     refine WpC.ret ?_
     cases H
     exact Leaves.ret rfl rfl rfl ⟨rfl, rfl⟩
    ·replace H := condF hc H
     refine WpC.skip (WpC.regionL ?_)
     refine L.move hF rfl rfl rfl ?_
     refine L.bin hF rfl rfl rfl rfl rfl rfl ?_
     refine L.assign hF rfl rfl rfl (L.nil ?_)
     exact ⟨k2, _, by omega, ⟨v29, (IntKind.i64.wrap (v30 + (1 : Int))), by omega, H, rfl⟩, Le.mk [] hm rfl (Sa2 trivial) trivial trivial⟩
   ·replace H := condF hc H
    refine WpC.exit (WpC.seq (WpC.regionL ?_))
    refine L.assign hF rfl rfl rfl (L.nil ?_)
    refine WpC.ret ?_
    cases H
    exact Leaves.ret rfl rfl rfl ⟨rfl, rfl⟩
/-! ### Fspec_l16Least -/
def Fspec_l16Least (k : Nat) (a0 : Int) (a1 : Int) : Option Int := cond (decide (a0 < a1)) (some a0) (some a1)
theorem ent155 : MG.Enters Try.prog 155 := ⟨Try.f155, Try.func155, rfl, by decide⟩
set_option maxHeartbeats 8000000 in
set_option maxRecDepth 100000 in
theorem Fspec_l16Least_gives (k : Nat) (a0 : Int) (a1 : Int) (r : Int) (H : Fspec_l16Least k a0 a1 = some r) : Gives Try.prog 155 [V.one (cI a0), V.one (cI a1)] [] [V.one (cI r)] [] := by
 refine Gives.intro Try.func155 rfl rfl rfl rfl ?_
 intro F hF hm
 unfold Fspec_l16Least at H
 obtain ⟨K, hK⟩ : ∃ K, k ≤ K := ⟨k, Nat.le_refl k⟩
 refine WpC.seq (WpC.regionL ?_)
 refine L.assign hF rfl rfl rfl (L.nil ?_)
 refine WpC.seq (WpC.seq (WpC.regionL ?_))
 refine L.move hF rfl rfl rfl ?_
 refine L.move hF rfl rfl rfl ?_
 refine L.bin hF rfl rfl rfl rfl rfl rfl (L.nil ?_)
 refine WpC.cond rfl (fun hc => ?_) (fun hc => ?_)
 ·replace H := condT hc H
  refine WpC.seq (WpC.regionL ?_)
  refine L.move hF rfl rfl rfl ?_
  refine L.assign hF rfl rfl rfl (L.nil ?_)
  refine WpC.ret ?_
  cases H
  exact Leaves.ret rfl rfl rfl ⟨rfl, rfl⟩
 ·replace H := condF hc H
  refine WpC.skip (WpC.seq (WpC.regionL ?_))
  refine L.move hF rfl rfl rfl ?_
  refine L.assign hF rfl rfl rfl (L.nil ?_)
  refine WpC.ret ?_
  cases H
  exact Leaves.ret rfl rfl rfl ⟨rfl, rfl⟩
/-! ### Fspec_l3Has -/
def Fspec_l3Has.l2 : Nat → (List Int) → Int → Int → Option Bool
 | 0, _, _, _ => none
 | k2 + 1, v24, v25, v26 => cond (decide (v26 < (v24.length : Int))) ((at? v24 v26).bind fun b28 => cond (b28 == v25) (some true) ((Fspec_l3Has.l2 k2) v24 v25 (IntKind.i64.wrap (v26 + (1 : Int))))) (some false)
def Fspec_l3Has (k : Nat) (a0 : List Int) (a1 : Int) : Option Bool := Fspec_l3Has.l2 k a0 a1 (0 : Int)
theorem ent156 : MG.Enters Try.prog 156 := ⟨Try.f156, Try.func156, rfl, by decide⟩
set_option maxHeartbeats 8000000 in
set_option maxRecDepth 100000 in
theorem Fspec_l3Has_gives (k : Nat) (g0 : Bool) (a0 : List Int) (a1 : Int) (r : Bool) (H : Fspec_l3Has k a0 a1 = some r) : Gives Try.prog 156 [V.one (Cell.sl g0 (List.map eI a0)), V.one (cI a1)] [] [V.one (cL r)] [] := by
 refine Gives.intro Try.func156 rfl rfl rfl rfl ?_
 intro F hF hm
 unfold Fspec_l3Has at H
 obtain ⟨K, hK⟩ : ∃ K, k ≤ K := ⟨k, Nat.le_refl k⟩
 refine WpC.seq (WpC.regionL ?_)
 refine L.assign hF rfl rfl rfl (L.nil ?_)
 refine WpC.seq (WpC.seq (WpC.regionL ?_))
 refine L.assign hF rfl rfl rfl (L.nil ?_)
 refine WpC.block ?_
 refine WpC.loopL (P := Try.prog) (fun n σ => ∃ v24 : List Int, ∃ v25 : Int, ∃ v26 : Int, n ≤ K ∧ Fspec_l3Has.l2 n v24 v25 v26 = some r ∧ σ = mkSt [(0, MG.one (Cell.sl g0 (List.map eI v24))), (1, MG.one (cI v25)), (5, MG.one (cI v26))] [] [] 0) k ⟨_, ⟨a0, a1, (0 : Int), by omega, H, rfl⟩, Le.mk [] hm rfl (Sa2 (Sa1 trivial)) trivial trivial⟩ ?_
 clear H
 rintro k2 _ ⟨v24, v25, v26, hk2, H, rfl⟩
 cases k2 with
 | zero => cases H
 | succ k2 =>
  rw [Fspec_l3Has.l2] at H
  refine WpC.seq (WpC.seq (WpC.regionL ?_))
  refine L.move hF rfl rfl rfl ?_
  refine L.move hF rfl rfl rfl ?_
  refine L.lenR (xs := v24) (e := eI) Try.underlying39 hF rfl rfl rfl rfl ?_
  refine L.bin hF rfl rfl rfl rfl rfl rfl (L.nil ?_)
  refine WpC.cond rfl (fun hc => ?_) (fun hc => ?_)
  ·replace H := condT hc H
   refine WpC.skip (WpC.seq (WpC.block (WpC.seq (WpC.regionL ?_))))
   refine L.move hF rfl rfl rfl ?_
   refine L.move hF rfl rfl rfl ?_
   obtain ⟨b28, hb28, H⟩ := bindS H
   refine L.idxR (xs := v24) (e := eI) Try.underlying39 info3 hF rfl rfl rfl rfl rfl hb28 rfl rfl ?_
   refine L.loadPe shape3 hF rfl rfl rfl rfl rfl ?_
   refine L.move hF rfl rfl rfl ?_
   refine L.bin hF rfl rfl rfl rfl rfl rfl (L.nil ?_)
   refine WpC.cond rfl (fun hc => ?_) (fun hc => ?_)
   ·replace H := condT hc H
    refine WpC.seq (WpC.regionL ?_)
    refine L.assign hF rfl rfl rfl (L.nil ?_)
    refine WpC.ret ?_
    cases H
    exact Leaves.ret rfl rfl rfl ⟨rfl, rfl⟩
   ·replace H := condF hc H
    refine WpC.skip (WpC.regionL ?_)
    refine L.move hF rfl rfl rfl ?_
    refine L.bin hF rfl rfl rfl rfl rfl rfl ?_
    refine L.assign hF rfl rfl rfl (L.nil ?_)
    exact ⟨k2, _, by omega, ⟨v24, v25, (IntKind.i64.wrap (v26 + (1 : Int))), by omega, H, rfl⟩, Le.mk [] hm rfl (Sa2 (Sa1 trivial)) trivial trivial⟩
  ·replace H := condF hc H
   refine WpC.exit (WpC.seq (WpC.regionL ?_))
   refine L.assign hF rfl rfl rfl (L.nil ?_)
   refine WpC.ret ?_
   cases H
   exact Leaves.ret rfl rfl rfl ⟨rfl, rfl⟩
/-! ### Fspec_l17Meet -/
def Fspec_l17Meet.j19 (cl17 : Int → Timpl_Rule → Timpl_Rule → (List Int) → Option Timpl_Rule) (k : Nat) (v121 : Int) (v122 : Timpl_Rule) (v123 : Timpl_Rule) (v124 : List Int) : Option Timpl_Rule := cl17 (IntKind.i64.wrap (v121 + (1 : Int))) v122 v123 v124
def Fspec_l17Meet.j20 (cl17 : Int → Timpl_Rule → Timpl_Rule → (List Int) → Option Timpl_Rule) (k : Nat) (v127 : Int) (v128 : Bool) (v129 : Timpl_Rule) (v130 : Timpl_Rule) (v131 : List Int) : Option Timpl_Rule := cond v128 (cond (decide ((2 * (v131.length + ([v127] : List Int).length) + 192) * 8 ≤ 281474976710656)) (Fspec_l17Meet.j19 cl17 k v127 v129 v130 (v131 ++ ([v127] : List Int))) none) (Fspec_l17Meet.j19 cl17 k v127 v129 v130 v131)
def Fspec_l17Meet.l17 : Nat → Int → Timpl_Rule → Timpl_Rule → (List Int) → Option Timpl_Rule
 | 0, _, _, _, _ => none
 | k17 + 1, v109, v110, v111, v112 => cond (decide (v109 ≤ (30 : Int))) ((Fspec_l3Has k17 v110.Set v109).bind fun r125 => (Fspec_l3Has k17 v111.Set v109).bind fun r126 => cond r125 (cond r126 (Fspec_l17Meet.j20 (Fspec_l17Meet.l17 k17) k17 v109 true v110 v111 v112) (cond (v110.Kind == (3 : Int)) (cond r125 (Fspec_l17Meet.j20 (Fspec_l17Meet.l17 k17) k17 v109 true v110 v111 v112) (Fspec_l17Meet.j20 (Fspec_l17Meet.l17 k17) k17 v109 r126 v110 v111 v112)) (Fspec_l17Meet.j20 (Fspec_l17Meet.l17 k17) k17 v109 false v110 v111 v112))) (cond (v110.Kind == (3 : Int)) (cond r125 (Fspec_l17Meet.j20 (Fspec_l17Meet.l17 k17) k17 v109 true v110 v111 v112) (Fspec_l17Meet.j20 (Fspec_l17Meet.l17 k17) k17 v109 r126 v110 v111 v112)) (Fspec_l17Meet.j20 (Fspec_l17Meet.l17 k17) k17 v109 false v110 v111 v112))) (some (⟨v110.Kind, v112, (0 : Int)⟩ : Timpl_Rule))
def Fspec_l17Meet (k : Nat) (a0 : Timpl_Rule) (a1 : Timpl_Rule) : Option Timpl_Rule := cond (decide (a0.Kind ≥ (4 : Int))) ((Fspec_l16Least k a0.N a1.N).bind fun r2 => some (⟨a0.Kind, [], r2⟩ : Timpl_Rule)) (Fspec_l17Meet.l17 k (0 : Int) a0 a1 [])
theorem ent131 : MG.Enters Try.prog 131 := ⟨Try.f131, Try.func131, rfl, by decide⟩
set_option maxHeartbeats 8000000 in
set_option maxRecDepth 100000 in
theorem Fspec_l17Meet_gives (k : Nat) (g0 : Bool) (g1 : Bool) (a0 : Timpl_Rule) (a1 : Timpl_Rule) (r : Timpl_Rule) (H : Fspec_l17Meet k a0 a1 = some r) : Gives Try.prog 131 [V.agg [cI a0.Kind, Cell.sl g0 (List.map eI a0.Set), cI a0.N], V.agg [cI a1.Kind, Cell.sl g1 (List.map eI a1.Set), cI a1.N]] [] [V.agg [cI r.Kind, Cell.ow 1 (List.map eI r.Set), cI r.N]] [] := by
 refine Gives.intro Try.func131 rfl rfl rfl rfl ?_
 intro F hF hm
 unfold Fspec_l17Meet at H
 obtain ⟨K, hK⟩ : ∃ K, k ≤ K := ⟨k, Nat.le_refl k⟩
 refine WpC.seq (WpC.regionL ?_)
 refine L.box 6 hF rfl rfl rfl rfl ?_
 refine L.box 7 hF rfl rfl rfl rfl ?_
 refine L.alloc 8 info96 rfl hF rfl rfl rfl rfl (L.nil ?_)
 refine WpC.seq (WpC.regionL ?_)
 refine L.fieldAddr Try.underlying96 rfl info3 rfl hF rfl rfl rfl rfl rfl ?_
 refine L.loadPtr shape3 hF rfl rfl rfl rfl rfl rfl ?_
 refine L.buildF built96 hF rfl rfl rfl rfl ?_
 refine L.alloc 9 info96 rfl hF rfl rfl rfl rfl ?_
 refine L.storePtr shape96 hF rfl rfl rfl rfl rfl rfl rfl (L.nil ?_)
 refine WpC.seq (WpC.seq (WpC.regionL ?_))
 refine L.fieldAddr Try.underlying96 rfl info3 rfl hF rfl rfl rfl rfl rfl ?_
 refine L.loadPtr shape3 hF rfl rfl rfl rfl rfl rfl ?_
 refine L.bin hF rfl rfl rfl rfl rfl rfl (L.nil ?_)
 refine WpC.cond rfl (fun hc => ?_) (fun hc => ?_)
 ·replace H := condT hc H
  refine WpC.seq (WpC.regionL ?_)
  refine L.fieldAddr Try.underlying96 rfl info3 rfl hF rfl rfl rfl rfl rfl ?_
  refine L.loadPtr shape3 hF rfl rfl rfl rfl rfl rfl ?_
  refine L.fieldAddr Try.underlying96 rfl info3 rfl hF rfl rfl rfl rfl rfl ?_
  refine L.loadPtr shape3 hF rfl rfl rfl rfl rfl rfl ?_
  obtain ⟨r2, hr2, H⟩ := bindS H
  refine L.call [false, false] [] [] 10 hF rfl rfl rfl ent155 rfl rfl rfl rfl rfl (Fspec_l16Least_gives k  a0.N a1.N r2 hr2) rfl ?_
  refine L.fieldAddr Try.underlying96 rfl info3 rfl hF rfl rfl rfl rfl rfl ?_
  refine L.storePtr shape3 hF rfl rfl rfl rfl rfl rfl rfl (L.nil ?_)
  refine WpC.seq (WpC.regionL ?_)
  refine L.loadPtr shape96 hF rfl rfl rfl rfl rfl rfl ?_
  refine L.storePtr shape96 hF rfl rfl rfl rfl rfl rfl rfl (L.nil ?_)
  refine WpC.le (Le.ownB 8 1 11 1 rfl rfl rfl) ?_
  refine WpC.ret ?_
  cases H
  exact Leaves.ret rfl rfl rfl ⟨rfl, rfl⟩
 ·replace H := condF hc H
  refine WpC.skip (WpC.seq (WpC.seq (WpC.regionL ?_)))
  refine L.assign hF rfl rfl rfl (L.nil ?_)
  refine WpC.block ?_
  refine WpC.loopL (P := Try.prog) (fun n σ => ∃ v109 : Int, ∃ v110 : Timpl_Rule, ∃ v111 : Timpl_Rule, ∃ v112 : List Int, n ≤ K ∧ Fspec_l17Meet.l17 n v109 v110 v111 v112 = some r ∧ σ = mkSt [(2, MG.one (Cell.ptr 0 0)), (3, MG.one (Cell.ptr 1 0)), (4, MG.one (Cell.ptr 2 0)), (5, MG.one (Cell.ptr 3 0)), (6, MG.one (cI v109))] [(4, ⟨1, List.map eI v112⟩)] [(0, (bTimpl_Rule g0 v110)), (1, (bTimpl_Rule g1 v111)), (2, [cI (0 : Int), Cell.nil, cI (0 : Int)]), (3, [cI v110.Kind, Cell.own 4, cI (0 : Int)])] 5) k ⟨_, ⟨(0 : Int), a0, a1, [], by omega, H, rfl⟩, (Le.ownB 9 1 10 1 rfl rfl rfl).trans (Le.mk [(0, 6), (1, 7), (2, 8), (3, 9), (4, 10)] hm rfl (Sa4 (Sa1 trivial)) (Ra1 trivial) (Ba4 trivial))⟩ ?_
  clear H
  rintro k17 _ ⟨v109, v110, v111, v112, hk17, H, rfl⟩
  cases k17 with
  | zero => cases H
  | succ k17 =>
   rw [Fspec_l17Meet.l17] at H
   refine WpC.seq (WpC.seq (WpC.regionL ?_))
   refine L.move hF rfl rfl rfl ?_
   refine L.bin hF rfl rfl rfl rfl rfl rfl (L.nil ?_)
   refine WpC.cond rfl (fun hc => ?_) (fun hc => ?_)
   ·replace H := condT hc H
    refine WpC.skip ?_
    refine WpC.join (fun σ => ∃ kj19 : Nat, ∃ v121 : Int, ∃ v122 : Timpl_Rule, ∃ v123 : Timpl_Rule, ∃ v124 : List Int, kj19 ≤ K ∧ Fspec_l17Meet.j19 (Fspec_l17Meet.l17 k17) kj19 v121 v122 v123 v124 = some r ∧ σ = mkSt [(2, MG.one (Cell.ptr 0 0)), (3, MG.one (Cell.ptr 1 0)), (4, MG.one (Cell.ptr 2 0)), (5, MG.one (Cell.ptr 3 0)), (6, MG.one (cI v121))] [(4, ⟨1, List.map eI v124⟩)] [(0, (bTimpl_Rule g0 v122)), (1, (bTimpl_Rule g1 v123)), (2, [cI (0 : Int), Cell.nil, cI (0 : Int)]), (3, [cI v122.Kind, Cell.own 4, cI (0 : Int)])] 5) ?_ ?_
    ·rintro _ ⟨kj19, v121, v122, v123, v124, hkj19, H, rfl⟩
     unfold Fspec_l17Meet.j19 at H
     refine WpC.regionL ?_
     refine L.move hF rfl rfl rfl ?_
     refine L.bin hF rfl rfl rfl rfl rfl rfl ?_
     refine L.assign hF rfl rfl rfl (L.nil ?_)
     exact ⟨k17, _, by omega, ⟨(IntKind.i64.wrap (v121 + (1 : Int))), v122, v123, v124, by omega, H, rfl⟩, Le.mk [(0, 0), (1, 1), (2, 2), (3, 3), (4, 4)] hm rfl (Sa4 (Sa1 trivial)) (Ra1 trivial) (Ba4 trivial)⟩
    ·refine WpC.block (WpC.seq (WpC.regionL ?_))
     refine L.fieldAddr Try.underlying96 rfl info39 rfl hF rfl rfl rfl rfl rfl ?_
     refine L.loadPtr shape39 hF rfl rfl rfl rfl rfl rfl ?_
     refine L.move hF rfl rfl rfl ?_
     obtain ⟨r125, hr125, H⟩ := bindS H
     refine L.call [false, false] [] [] 5 hF rfl rfl rfl ent156 rfl rfl rfl rfl rfl (Fspec_l3Has_gives k17 g0 v110.Set v109 r125 hr125) rfl ?_
     refine L.assign hF rfl rfl rfl (L.nil ?_)
     refine WpC.seq (WpC.regionL ?_)
     refine L.fieldAddr Try.underlying96 rfl info39 rfl hF rfl rfl rfl rfl rfl ?_
     refine L.loadPtr shape39 hF rfl rfl rfl rfl rfl rfl ?_
     refine L.move hF rfl rfl rfl ?_
     obtain ⟨r126, hr126, H⟩ := bindS H
     refine L.call [false, false] [] [] 6 hF rfl rfl rfl ent156 rfl rfl rfl rfl rfl (Fspec_l3Has_gives k17 g1 v111.Set v109 r126 hr126) rfl ?_
     refine L.assign hF rfl rfl rfl (L.nil ?_)
     refine WpC.join (fun σ => ∃ kj20 : Nat, ∃ v127 : Int, ∃ v128 : Bool, ∃ v129 : Timpl_Rule, ∃ v130 : Timpl_Rule, ∃ v131 : List Int, kj20 ≤ K ∧ Fspec_l17Meet.j20 (Fspec_l17Meet.l17 k17) kj20 v127 v128 v129 v130 v131 = some r ∧ σ = mkSt [(2, MG.one (Cell.ptr 0 0)), (3, MG.one (Cell.ptr 1 0)), (4, MG.one (Cell.ptr 2 0)), (5, MG.one (Cell.ptr 3 0)), (6, MG.one (cI v127)), (48, MG.one (cL v128))] [(4, ⟨1, List.map eI v131⟩)] [(0, (bTimpl_Rule g0 v129)), (1, (bTimpl_Rule g1 v130)), (2, [cI (0 : Int), Cell.nil, cI (0 : Int)]), (3, [cI v129.Kind, Cell.own 4, cI (0 : Int)])] 5) ?_ ?_
     ·rintro _ ⟨kj20, v127, v128, v129, v130, v131, hkj20, H, rfl⟩
      unfold Fspec_l17Meet.j20 at H
      refine WpC.cond rfl (fun hc => ?_) (fun hc => ?_)
      ·replace H := condT hc H
       refine WpC.regionL ?_
       refine L.fieldAddr Try.underlying96 rfl info39 rfl hF rfl rfl rfl rfl rfl ?_
       refine L.loadPtr shape39 hF rfl rfl rfl rfl rfl rfl ?_
       refine L.move hF rfl rfl rfl ?_
       refine L.buildSlice (e := eI) 5 ([v127] : List Int) Try.underlying39 info3 rfl rfl rfl hF rfl rfl rfl rfl rfl rfl rfl rfl ?_
       obtain ⟨h132, H⟩ := condG H
       refine L.append (xs := v131) (ys := ([v127] : List Int)) (e := eI) 6 Try.underlying39 info3 rfl rfl hF rfl rfl rfl rfl rfl rfl rfl rfl (fun _ => rfl) (fun _ _ h1 h2 => by cases h1; cases h2; rfl) ⟨_, Try.underlying39⟩ (of_decide_eq_true h132) rfl rfl ?_
       refine L.fieldAddr Try.underlying96 rfl info39 rfl hF rfl rfl rfl rfl rfl ?_
       refine L.storePtr shape39 hF rfl rfl rfl rfl rfl rfl rfl (L.nil ?_)
       exact ⟨_, ⟨kj20, v127, v129, v130, (v131 ++ ([v127] : List Int)), by omega, H, rfl⟩, Le.mk [(0, 0), (1, 1), (2, 2), (3, 3), (4, 6)] hm rfl (Sa4 (Sa1 trivial)) (Ra1 trivial) (Ba4 trivial)⟩
      ·replace H := condF hc H
       refine WpC.skip ?_
       exact ⟨_, ⟨kj20, v127, v129, v130, v131, by omega, H, rfl⟩, Le.mk [(0, 0), (1, 1), (2, 2), (3, 3), (4, 4)] hm rfl (Sa4 (Sa1 trivial)) (Ra1 trivial) (Ba4 trivial)⟩
     ·refine WpC.regionL ?_
      refine L.move hF rfl rfl rfl ?_
      refine L.move hF rfl rfl rfl ?_
      refine L.split (fun hc => ?_) (fun hc => ?_)
      ·replace H := condT hc H
       refine L.move hF rfl rfl rfl ?_
       refine L.pick hF rfl rfl rfl rfl ?_
       refine L.move hF rfl rfl rfl ?_
       refine L.split (fun hc => ?_) (fun hc => ?_)
       ·replace H := condT hc H
        refine L.off hF rfl rfl ?_
        refine L.off hF rfl rfl ?_
        refine L.off hF rfl rfl ?_
        refine L.off hF rfl rfl ?_
        refine L.off hF rfl rfl ?_
        refine L.off hF rfl rfl ?_
        refine L.off hF rfl rfl ?_
        refine L.off hF rfl rfl ?_
        refine L.off hF rfl rfl ?_
        refine L.pick hF rfl rfl rfl rfl (L.nil ?_)
        exact ⟨_, ⟨k17, v109, true, v110, v111, v112, by omega, H, rfl⟩, Le.mk [(0, 0), (1, 1), (2, 2), (3, 3), (4, 4)] hm rfl (Sa4 (Sa2 trivial)) (Ra1 trivial) (Ba4 trivial)⟩
       ·replace H := condF hc H
        refine L.fieldAddr Try.underlying96 rfl info3 rfl hF rfl rfl rfl rfl rfl ?_
        refine L.loadPtr shape3 hF rfl rfl rfl rfl rfl rfl ?_
        refine L.bin hF rfl rfl rfl rfl rfl rfl ?_
        refine L.move hF rfl rfl rfl ?_
        refine L.split (fun hc => ?_) (fun hc => ?_)
        ·replace H := condT hc H
         refine L.move hF rfl rfl rfl ?_
         refine L.move hF rfl rfl rfl ?_
         refine L.split (fun hc => ?_) (fun hc => ?_)
         ·replace H := condT hc H
          refine L.off hF rfl rfl ?_
          refine L.pick hF rfl rfl rfl rfl ?_
          refine L.pick hF rfl rfl rfl rfl ?_
          refine L.pick hF rfl rfl rfl rfl (L.nil ?_)
          exact ⟨_, ⟨k17, v109, true, v110, v111, v112, by omega, H, rfl⟩, Le.mk [(0, 0), (1, 1), (2, 2), (3, 3), (4, 4)] hm rfl (Sa4 (Sa2 trivial)) (Ra1 trivial) (Ba4 trivial)⟩
         ·replace H := condF hc H
          refine L.move hF rfl rfl rfl ?_
          refine L.pick hF rfl rfl rfl rfl ?_
          refine L.pick hF rfl rfl rfl rfl ?_
          refine L.pick hF rfl rfl rfl rfl (L.nil ?_)
          exact ⟨_, ⟨k17, v109, r126, v110, v111, v112, by omega, H, rfl⟩, Le.mk [(0, 0), (1, 1), (2, 2), (3, 3), (4, 4)] hm rfl (Sa4 (Sa2 trivial)) (Ra1 trivial) (Ba4 trivial)⟩
        ·replace H := condF hc H
         refine L.off hF rfl rfl ?_
         refine L.off hF rfl rfl ?_
         refine L.off hF rfl rfl ?_
         refine L.off hF rfl rfl ?_
         refine L.pick hF rfl rfl rfl rfl ?_
         refine L.pick hF rfl rfl rfl rfl (L.nil ?_)
         exact ⟨_, ⟨k17, v109, false, v110, v111, v112, by omega, H, rfl⟩, Le.mk [(0, 0), (1, 1), (2, 2), (3, 3), (4, 4)] hm rfl (Sa4 (Sa2 trivial)) (Ra1 trivial) (Ba4 trivial)⟩
      ·replace H := condF hc H
       refine L.off hF rfl rfl ?_
       refine L.pick hF rfl rfl rfl rfl ?_
       refine L.move hF rfl rfl rfl ?_
       refine L.fieldAddr Try.underlying96 rfl info3 rfl hF rfl rfl rfl rfl rfl ?_
       refine L.loadPtr shape3 hF rfl rfl rfl rfl rfl rfl ?_
       refine L.bin hF rfl rfl rfl rfl rfl rfl ?_
       refine L.move hF rfl rfl rfl ?_
       refine L.split (fun hc => ?_) (fun hc => ?_)
       ·replace H := condT hc H
        refine L.move hF rfl rfl rfl ?_
        refine L.move hF rfl rfl rfl ?_
        refine L.split (fun hc => ?_) (fun hc => ?_)
        ·replace H := condT hc H
         refine L.off hF rfl rfl ?_
         refine L.pick hF rfl rfl rfl rfl ?_
         refine L.pick hF rfl rfl rfl rfl ?_
         refine L.pick hF rfl rfl rfl rfl (L.nil ?_)
         exact ⟨_, ⟨k17, v109, true, v110, v111, v112, by omega, H, rfl⟩, Le.mk [(0, 0), (1, 1), (2, 2), (3, 3), (4, 4)] hm rfl (Sa4 (Sa2 trivial)) (Ra1 trivial) (Ba4 trivial)⟩
        ·replace H := condF hc H
         refine L.move hF rfl rfl rfl ?_
         refine L.pick hF rfl rfl rfl rfl ?_
         refine L.pick hF rfl rfl rfl rfl ?_
         refine L.pick hF rfl rfl rfl rfl (L.nil ?_)
         exact ⟨_, ⟨k17, v109, r126, v110, v111, v112, by omega, H, rfl⟩, Le.mk [(0, 0), (1, 1), (2, 2), (3, 3), (4, 4)] hm rfl (Sa4 (Sa2 trivial)) (Ra1 trivial) (Ba4 trivial)⟩
       ·replace H := condF hc H
        refine L.off hF rfl rfl ?_
        refine L.off hF rfl rfl ?_
        refine L.off hF rfl rfl ?_
        refine L.off hF rfl rfl ?_
        refine L.pick hF rfl rfl rfl rfl ?_
        refine L.pick hF rfl rfl rfl rfl (L.nil ?_)
        exact ⟨_, ⟨k17, v109, false, v110, v111, v112, by omega, H, rfl⟩, Le.mk [(0, 0), (1, 1), (2, 2), (3, 3), (4, 4)] hm rfl (Sa4 (Sa2 trivial)) (Ra1 trivial) (Ba4 trivial)⟩
   ·replace H := condF hc H
    refine WpC.exit (WpC.seq (WpC.regionL ?_))
    refine L.loadPtr shape96 hF rfl rfl rfl rfl rfl rfl ?_
    refine L.storePtr shape96 hF rfl rfl rfl rfl rfl rfl rfl (L.nil ?_)
    refine WpC.ret ?_
    cases H
    exact Leaves.ret rfl rfl rfl ⟨rfl, rfl⟩
/-! ### Fspec_l17Kind -/
def Fspec_l17Kind.j8 (cl7 : (List Timpl_Rule) → Int → Bool → Int → Int → (List Int) → Int → Option (Timpl_Rule × Bool)) (k : Nat) (v135 : List Timpl_Rule) (v136 : Int) (v137 : Bool) (v138 : Int) (v139 : Int) (v140 : List Int) (v141 : Int) : Option (Timpl_Rule × Bool) := cl7 v135 v136 v137 (IntKind.i64.wrap (v138 + (1 : Int))) v139 v140 v141
def Fspec_l17Kind.l7 : Nat → (List Timpl_Rule) → Int → Bool → Int → Int → (List Int) → Int → Option (Timpl_Rule × Bool)
 | 0, _, _, _, _, _, _, _ => none
 | k7 + 1, v121, v122, v123, v124, v125, v126, v127 => cond (decide (v124 < (v121.length : Int))) ((at? v121 v124).bind fun b143 => cond (b143.Kind != v122) (Fspec_l17Kind.j8 (Fspec_l17Kind.l7 k7) k7 v121 v122 v123 v124 v125 v126 v127) (cond v123 ((at? v121 v124).bind fun b144 => (Fspec_l17Meet k7 (⟨v125, v126, v127⟩ : Timpl_Rule) b144).bind fun r145 => Fspec_l17Kind.j8 (Fspec_l17Kind.l7 k7) k7 v121 v122 v123 v124 r145.Kind r145.Set r145.N) ((at? v121 v124).bind fun b146 => cond (decide ((2 * (([] : List Int).length + b146.Set.length) + 192) * 8 ≤ 281474976710656)) ((at? v121 v124).bind fun b148 => Fspec_l17Kind.j8 (Fspec_l17Kind.l7 k7) k7 v121 v122 true v124 v122 (([] : List Int) ++ b146.Set) b148.N) none))) (some ((⟨v125, v126, v127⟩ : Timpl_Rule), v123))
def Fspec_l17Kind (k : Nat) (a0 : List Timpl_Rule) (a1 : Int) : Option (Timpl_Rule × Bool) := Fspec_l17Kind.l7 k a0 a1 false (0 : Int) (0 : Int) [] (0 : Int)
theorem ent83 : MG.Enters Try.prog 83 := ⟨Try.f83, Try.func83, rfl, by decide⟩
set_option maxHeartbeats 8000000 in
set_option maxRecDepth 100000 in
theorem Fspec_l17Kind_gives (k : Nat) (g0 : Bool) (a0 : List Timpl_Rule) (a1 : Int) (r : Timpl_Rule × Bool) (H : Fspec_l17Kind k a0 a1 = some r) : Gives Try.prog 83 [V.one (Cell.sl g0 (List.map eTimpl_Rule a0)), V.one (cI a1)] [] [V.agg [cI r.1.Kind, Cell.ow 1 (List.map eI r.1.Set), cI r.1.N], V.one (cL r.2)] [] := by
 refine Gives.intro Try.func83 rfl rfl rfl rfl ?_
 intro F hF hm
 unfold Fspec_l17Kind at H
 obtain ⟨K, hK⟩ : ∃ K, k ≤ K := ⟨k, Nat.le_refl k⟩
 refine WpC.seq (WpC.regionL ?_)
 refine L.alloc 2 info96 rfl hF rfl rfl rfl rfl ?_
 refine L.assign hF rfl rfl rfl (L.nil ?_)
 refine WpC.seq (WpC.regionL ?_)
 refine L.buildF built96 hF rfl rfl rfl rfl ?_
 refine L.alloc 3 info96 rfl hF rfl rfl rfl rfl ?_
 refine L.storePtr shape96 hF rfl rfl rfl rfl rfl rfl rfl (L.nil ?_)
 refine WpC.seq (WpC.regionL ?_)
 refine L.assign hF rfl rfl rfl (L.nil ?_)
 refine WpC.seq (WpC.seq (WpC.regionL ?_))
 refine L.assign hF rfl rfl rfl (L.nil ?_)
 refine WpC.block ?_
 refine WpC.loopL (P := Try.prog) (fun n σ => ∃ v121 : List Timpl_Rule, ∃ v122 : Int, ∃ v123 : Bool, ∃ v124 : Int, ∃ v125 : Int, ∃ v126 : List Int, ∃ v127 : Int, n ≤ K ∧ Fspec_l17Kind.l7 n v121 v122 v123 v124 v125 v126 v127 = some r ∧ σ = mkSt [(0, MG.one (Cell.sl g0 (List.map eTimpl_Rule v121))), (1, MG.one (cI v122)), (4, MG.one (Cell.ptr 0 0)), (6, MG.one (Cell.ptr 1 0)), (7, MG.one (cL v123)), (8, MG.one (cI v124))] [(2, ⟨1, List.map eI v126⟩)] [(0, [cI (0 : Int), Cell.nil, cI (0 : Int)]), (1, [cI v125, Cell.own 2, cI v127])] 3) k ⟨_, ⟨a0, a1, false, (0 : Int), (0 : Int), [], (0 : Int), by omega, H, rfl⟩, (Le.ownB 3 1 4 1 rfl rfl rfl).trans (Le.mk [(0, 2), (1, 3), (2, 4)] hm rfl (Sa4 (Sa2 trivial)) (Ra1 trivial) (Ba2 trivial))⟩ ?_
 clear H
 rintro k7 _ ⟨v121, v122, v123, v124, v125, v126, v127, hk7, H, rfl⟩
 cases k7 with
 | zero => cases H
 | succ k7 =>
  rw [Fspec_l17Kind.l7] at H
  refine WpC.seq (WpC.seq (WpC.regionL ?_))
  refine L.move hF rfl rfl rfl ?_
  refine L.move hF rfl rfl rfl ?_
  refine L.lenR (xs := v121) (e := eTimpl_Rule) Try.underlying28 hF rfl rfl rfl rfl ?_
  refine L.bin hF rfl rfl rfl rfl rfl rfl (L.nil ?_)
  refine WpC.cond rfl (fun hc => ?_) (fun hc => ?_)
  ·replace H := condT hc H
   refine WpC.skip ?_
   refine WpC.join (fun σ => ∃ kj8 : Nat, ∃ v135 : List Timpl_Rule, ∃ v136 : Int, ∃ v137 : Bool, ∃ v138 : Int, ∃ v139 : Int, ∃ v140 : List Int, ∃ v141 : Int, kj8 ≤ K ∧ Fspec_l17Kind.j8 (Fspec_l17Kind.l7 k7) kj8 v135 v136 v137 v138 v139 v140 v141 = some r ∧ σ = mkSt [(0, MG.one (Cell.sl g0 (List.map eTimpl_Rule v135))), (1, MG.one (cI v136)), (4, MG.one (Cell.ptr 0 0)), (6, MG.one (Cell.ptr 1 0)), (7, MG.one (cL v137)), (8, MG.one (cI v138))] [(2, ⟨1, List.map eI v140⟩)] [(0, [cI (0 : Int), Cell.nil, cI (0 : Int)]), (1, [cI v139, Cell.own 2, cI v141])] 3) ?_ ?_
   ·rintro _ ⟨kj8, v135, v136, v137, v138, v139, v140, v141, hkj8, H, rfl⟩
    unfold Fspec_l17Kind.j8 at H
    refine WpC.regionL ?_
    refine L.move hF rfl rfl rfl ?_
    refine L.bin hF rfl rfl rfl rfl rfl rfl ?_
    refine L.assign hF rfl rfl rfl (L.nil ?_)
    exact ⟨k7, _, by omega, ⟨v135, v136, v137, (IntKind.i64.wrap (v138 + (1 : Int))), v139, v140, v141, by omega, H, rfl⟩, Le.mk [(0, 0), (1, 1), (2, 2)] hm rfl (Sa4 (Sa2 trivial)) (Ra1 trivial) (Ba2 trivial)⟩
   ·refine WpC.block (WpC.seq (WpC.seq (WpC.regionL ?_)))
    refine L.move hF rfl rfl rfl ?_
    refine L.move hF rfl rfl rfl ?_
    obtain ⟨b143, hb143, H⟩ := bindS H
    refine L.idxR (xs := v121) (e := eTimpl_Rule) Try.underlying28 info96 hF rfl rfl rfl rfl rfl hb143 rfl rfl ?_
    refine L.fieldAddr Try.underlying96 rfl info3 rfl hF rfl rfl rfl rfl rfl ?_
    refine L.loadPe shape3 hF rfl rfl rfl rfl rfl ?_
    refine L.move hF rfl rfl rfl ?_
    refine L.bin hF rfl rfl rfl rfl rfl rfl (L.nil ?_)
    refine WpC.cond rfl (fun hc => ?_) (fun hc => ?_)
    ·replace H := condT hc H
     refine WpC.exit ?_
     exact ⟨_, ⟨k7, v121, v122, v123, v124, v125, v126, v127, by omega, H, rfl⟩, Le.mk [(0, 0), (1, 1), (2, 2)] hm rfl (Sa4 (Sa2 trivial)) (Ra1 trivial) (Ba2 trivial)⟩
    ·replace H := condF hc H
     refine WpC.skip (WpC.seq (WpC.regionL ?_))
     refine L.move hF rfl rfl rfl (L.nil ?_)
     refine WpC.cond rfl (fun hc => ?_) (fun hc => ?_)
     ·replace H := condT hc H
      obtain ⟨b144, hb144, H⟩ := bindS H
      obtain ⟨r145, hr145, H⟩ := bindS H
      refine A.begin mixed rfl rfl ?_
      intro W hI hO
      have n31 : W 2 #[true, true, true, true, true, false, false] (mkSt [(0, MG.one (Cell.sl g0 (List.map eTimpl_Rule v121))), (1, MG.one (cI v122)), (4, MG.one (Cell.ptr 0 0)), (6, MG.one (Cell.ptr 1 0)), (7, MG.one (cL v123)), (8, MG.one (cI v124)), (24, agg [cI v125, Cell.own 2, cI v127]), (28, agg (bTimpl_Rule g0 b144))] [(2, ⟨1, List.map eI v126⟩)] [(0, [cI (0 : Int), Cell.nil, cI (0 : Int)]), (1, [cI v125, Cell.own 2, cI v127])] 3) := by
       refine hI _ _ _ ?_
       refine A.all [5] (by kernel_rfl) rfl ⟨⟨_, rfl, ?_⟩, trivial⟩
       refine L.call [false, false] [2] [] 3 hF rfl rfl rfl ent131 rfl rfl rfl rfl rfl (Fspec_l17Meet_gives k7 false g0 (⟨v125, v126, v127⟩ : Timpl_Rule) b144 r145 hr145) rfl (L.nil ?_)
       refine A.all [6] (by kernel_rfl) rfl ⟨⟨_, rfl, ?_⟩, trivial⟩
       refine L.storePtr shape96 hF rfl rfl rfl rfl rfl rfl rfl (L.nil ?_)
       refine A.le (τ := mkSt [(0, MG.one (Cell.sl g0 (List.map eTimpl_Rule v121))), (1, MG.one (cI v122)), (4, MG.one (Cell.ptr 0 0)), (6, MG.one (Cell.ptr 1 0)), (7, MG.one (cL v123)), (8, MG.one (cI v124))] [(2, ⟨1, List.map eI r145.Set⟩)] [(0, [cI (0 : Int), Cell.nil, cI (0 : Int)]), (1, [cI r145.Kind, Cell.own 2, cI r145.N])] 3) (Le.mk [(0, 0), (1, 1), (2, 4)] hm rfl (Sa4 (Sa2 trivial)) (Ra1 trivial) (Ba2 trivial)) ?_
       refine A.done (by kernel_rfl) ?_
       exact ⟨_, ⟨k7, v121, v122, v123, v124, r145.Kind, r145.Set, r145.N, by omega, H, rfl⟩, Le.mk [(0, 0), (1, 1), (2, 2)] hm rfl (Sa4 (Sa2 trivial)) (Ra1 trivial) (Ba2 trivial)⟩
      refine hI _ _ _ ?_
      refine Atk 1 rfl (Ca.move) (fun Q0 k0 => L.move hF rfl rfl rfl (L.nil k0)) ?_
      refine Atk 2 rfl (Ca.move) (fun Q0 k0 => L.move hF rfl rfl rfl (L.nil k0)) ?_
      refine Atk 3 rfl (Ca.indexAddr) (fun Q0 k0 => L.idxR (xs := v121) (e := eTimpl_Rule) Try.underlying28 info96 hF rfl rfl rfl rfl rfl hb144 rfl rfl (L.nil k0)) ?_
      refine A.all [0, 4] (by kernel_rfl) rfl ⟨⟨_, rfl, ?_⟩, ⟨_, rfl, ?_⟩, trivial⟩
      ·refine L.loadPtr shape96 hF rfl rfl rfl rfl rfl rfl (L.nil ?_)
       refine A.all [4] (by kernel_rfl) rfl ⟨⟨_, rfl, ?_⟩, trivial⟩
       refine L.loadPe shape96 hF rfl rfl rfl rfl rfl (L.nil ?_)
       exact A.on (hO _ _ _ n31) (Le.mk [(0, 0), (1, 1), (2, 2)] hm rfl (Sa8 trivial) (Ra1 trivial) (Ba2 trivial))
      ·refine L.loadPe shape96 hF rfl rfl rfl rfl rfl (L.nil ?_)
       refine A.all [0] (by kernel_rfl) rfl ⟨⟨_, rfl, ?_⟩, trivial⟩
       refine L.loadPtr shape96 hF rfl rfl rfl rfl rfl rfl (L.nil ?_)
       exact A.on (hO _ _ _ n31) (Le.mk [(0, 0), (1, 1), (2, 2)] hm rfl (Sa8 trivial) (Ra1 trivial) (Ba2 trivial))
     ·replace H := condF hc H
      refine WpC.seq ?_
      obtain ⟨b146, hb146, H⟩ := bindS H
      obtain ⟨h147, H⟩ := condG H
      obtain ⟨b148, hb148, H⟩ := bindS H
      refine A.begin mixed rfl rfl ?_
      intro W hI hO
      have n8191 : W 2 #[true, true, true, true, true, true, true, true, true, true, true, true, true, false, false] (mkSt [(0, MG.one (Cell.sl g0 (List.map eTimpl_Rule v121))), (1, MG.one (cI v122)), (4, MG.one (Cell.ptr 0 0)), (6, MG.one (Cell.ptr 1 0)), (8, MG.one (cI v124)), (30, MG.one (cI v122)), (37, MG.one (Cell.own 2)), (42, MG.one (cI b148.N))] [(2, ⟨1, List.map eI (([] : List Int) ++ b146.Set)⟩), (3, ⟨1, List.map eI v126⟩)] [(0, [cI (0 : Int), Cell.nil, cI (0 : Int)]), (1, [cI v125, Cell.own 3, cI v127])] 4) := by
       refine hI _ _ _ ?_
       refine Atk 13 rfl (Ca.build rfl (by rw [built96]; rfl)) (fun Q0 k0 => L.buildF built96 hF rfl rfl rfl rfl (L.nil k0)) ?_
       refine A.all [14] (by kernel_rfl) rfl ⟨⟨_, rfl, ?_⟩, trivial⟩
       refine L.storePtr shape96 hF rfl rfl rfl rfl rfl rfl rfl (L.nil ?_)
       refine A.le (τ := mkSt [(0, MG.one (Cell.sl g0 (List.map eTimpl_Rule v121))), (1, MG.one (cI v122)), (4, MG.one (Cell.ptr 0 0)), (6, MG.one (Cell.ptr 1 0)), (8, MG.one (cI v124))] [(2, ⟨1, List.map eI (([] : List Int) ++ b146.Set)⟩)] [(0, [cI (0 : Int), Cell.nil, cI (0 : Int)]), (1, [cI v122, Cell.own 2, cI b148.N])] 3) (Le.mk [(0, 0), (1, 1), (2, 2)] hm rfl (Sa4 (Sa1 trivial)) (Ra1 trivial) (Ba2 trivial)) ?_
       refine A.done (by kernel_rfl) ?_
       refine WpC.regionL ?_
       refine L.assign hF rfl rfl rfl (L.nil ?_)
       exact ⟨_, ⟨k7, v121, v122, true, v124, v122, (([] : List Int) ++ b146.Set), b148.N, by omega, H, rfl⟩, Le.mk [(0, 0), (1, 1), (2, 2)] hm rfl (Sa4 (Sa2 trivial)) (Ra1 trivial) (Ba2 trivial)⟩
      have n8063 : W 3 #[true, true, true, true, true, true, true, false, true, true, true, true, true, false, false] (mkSt [(0, MG.one (Cell.sl g0 (List.map eTimpl_Rule v121))), (1, MG.one (cI v122)), (4, MG.one (Cell.ptr 0 0)), (6, MG.one (Cell.ptr 1 0)), (8, MG.one (cI v124)), (30, MG.one (cI v122)), (31, MG.one (Cell.own 2)), (36, MG.one (Cell.sl g0 (List.map eI b146.Set))), (42, MG.one (cI b148.N))] [(2, ⟨1, List.map eI ([] : List Int)⟩), (3, ⟨1, List.map eI v126⟩)] [(0, [cI (0 : Int), Cell.nil, cI (0 : Int)]), (1, [cI v125, Cell.own 3, cI v127])] 4) := by
       refine hI _ _ _ ?_
       refine A.all [7] (by kernel_rfl) rfl ⟨⟨_, rfl, ?_⟩, trivial⟩
       refine L.append (xs := ([] : List Int)) (ys := b146.Set) (e := eI) 4 Try.underlying39 info3 rfl rfl hF rfl rfl rfl rfl rfl rfl rfl rfl (fun _ => rfl) (fun _ _ h1 h2 => by cases h1; cases h2; rfl) ⟨_, Try.underlying39⟩ (of_decide_eq_true h147) rfl rfl (L.nil ?_)
       exact A.on (hO _ _ _ n8191) (Le.mk [(0, 0), (1, 1), (2, 4), (3, 3)] hm rfl (Sa8 trivial) (Ra2 trivial) (Ba2 trivial))
      have n7999 : W 4 #[true, true, true, true, true, true, false, false, true, true, true, true, true, false, false] (mkSt [(0, MG.one (Cell.sl g0 (List.map eTimpl_Rule v121))), (1, MG.one (cI v122)), (4, MG.one (Cell.ptr 0 0)), (6, MG.one (Cell.ptr 1 0)), (8, MG.one (cI v124)), (30, MG.one (cI v122)), (31, MG.one (Cell.own 2)), (35, MG.one (Cell.pe g0 (eTimpl_Rule b146) 1)), (42, MG.one (cI b148.N))] [(2, ⟨1, List.map eI ([] : List Int)⟩), (3, ⟨1, List.map eI v126⟩)] [(0, [cI (0 : Int), Cell.nil, cI (0 : Int)]), (1, [cI v125, Cell.own 3, cI v127])] 4) := by
       refine hI _ _ _ ?_
       refine A.all [6] (by kernel_rfl) rfl ⟨⟨_, rfl, ?_⟩, trivial⟩
       refine L.loadPe shape39 hF rfl rfl rfl rfl rfl (L.nil ?_)
       exact A.on (hO _ _ _ n8063) (Le.mk [(0, 0), (1, 1), (2, 2), (3, 3)] hm rfl (Sa8 (Sa1 trivial)) (Ra2 trivial) (Ba2 trivial))
      have n3967 : W 4 #[true, true, true, true, true, true, true, false, true, true, true, true, false, false, false] (mkSt [(0, MG.one (Cell.sl g0 (List.map eTimpl_Rule v121))), (1, MG.one (cI v122)), (4, MG.one (Cell.ptr 0 0)), (6, MG.one (Cell.ptr 1 0)), (8, MG.one (cI v124)), (30, MG.one (cI v122)), (31, MG.one (Cell.own 2)), (36, MG.one (Cell.sl g0 (List.map eI b146.Set))), (41, MG.one (Cell.pe g0 (eTimpl_Rule b148) 2))] [(2, ⟨1, List.map eI ([] : List Int)⟩), (3, ⟨1, List.map eI v126⟩)] [(0, [cI (0 : Int), Cell.nil, cI (0 : Int)]), (1, [cI v125, Cell.own 3, cI v127])] 4) := by
       refine hI _ _ _ ?_
       refine A.all [7, 12] (by kernel_rfl) rfl ⟨⟨_, rfl, ?_⟩, ⟨_, rfl, ?_⟩, trivial⟩
       ·refine L.append (xs := ([] : List Int)) (ys := b146.Set) (e := eI) 4 Try.underlying39 info3 rfl rfl hF rfl rfl rfl rfl rfl rfl rfl rfl (fun _ => rfl) (fun _ _ h1 h2 => by cases h1; cases h2; rfl) ⟨_, Try.underlying39⟩ (of_decide_eq_true h147) rfl rfl (L.nil ?_)
        refine A.all [12] (by kernel_rfl) rfl ⟨⟨_, rfl, ?_⟩, trivial⟩
        refine L.loadPe shape3 hF rfl rfl rfl rfl rfl (L.nil ?_)
        exact A.on (hO _ _ _ n8191) (Le.mk [(0, 0), (1, 1), (2, 4), (3, 3)] hm rfl (Sa8 trivial) (Ra2 trivial) (Ba2 trivial))
       ·refine L.loadPe shape3 hF rfl rfl rfl rfl rfl (L.nil ?_)
        exact A.on (hO _ _ _ n8063) (Le.mk [(0, 0), (1, 1), (2, 2), (3, 3)] hm rfl (Sa8 (Sa1 trivial)) (Ra2 trivial) (Ba2 trivial))
      have n8061 : W 4 #[true, false, true, true, true, true, true, false, true, true, true, true, true, false, false] (mkSt [(0, MG.one (Cell.sl g0 (List.map eTimpl_Rule v121))), (1, MG.one (cI v122)), (4, MG.one (Cell.ptr 0 0)), (6, MG.one (Cell.ptr 1 0)), (8, MG.one (cI v124)), (30, MG.one (cI v122)), (36, MG.one (Cell.sl g0 (List.map eI b146.Set))), (42, MG.one (cI b148.N))] [(2, ⟨1, List.map eI v126⟩)] [(0, [cI (0 : Int), Cell.nil, cI (0 : Int)]), (1, [cI v125, Cell.own 2, cI v127])] 3) := by
       refine hI _ _ _ ?_
       refine A.all [1] (by kernel_rfl) rfl ⟨⟨_, rfl, ?_⟩, trivial⟩
       refine L.buildSlice (e := eI) 3 ([] : List Int) Try.underlying39 info3 rfl rfl rfl hF rfl rfl rfl rfl rfl rfl rfl rfl (L.nil ?_)
       exact A.on (hO _ _ _ n8063) (Le.mk [(0, 0), (1, 1), (2, 3), (3, 2)] hm rfl (Sa8 (Sa1 trivial)) (Ra2 trivial) (Ba2 trivial))
      refine hI _ _ _ ?_
      refine Atk 0 rfl (Ca.move) (fun Q0 k0 => L.move hF rfl rfl rfl (L.nil k0)) ?_
      refine Atk 2 rfl (Ca.move) (fun Q0 k0 => L.move hF rfl rfl rfl (L.nil k0)) ?_
      refine Atk 3 rfl (Ca.move) (fun Q0 k0 => L.move hF rfl rfl rfl (L.nil k0)) ?_
      refine Atk 4 rfl (Ca.indexAddr) (fun Q0 k0 => L.idxR (xs := v121) (e := eTimpl_Rule) Try.underlying28 info96 hF rfl rfl rfl rfl rfl hb146 rfl rfl (L.nil k0)) ?_
      refine Atk 5 rfl (Ca.fieldAddr Try.underlying96 rfl info39 rfl) (fun Q0 k0 => L.fieldAddr Try.underlying96 rfl info39 rfl hF rfl rfl rfl rfl rfl (L.nil k0)) ?_
      refine Atk 8 rfl (Ca.move) (fun Q0 k0 => L.move hF rfl rfl rfl (L.nil k0)) ?_
      refine Atk 9 rfl (Ca.move) (fun Q0 k0 => L.move hF rfl rfl rfl (L.nil k0)) ?_
      refine Atk 10 rfl (Ca.indexAddr) (fun Q0 k0 => L.idxR (xs := v121) (e := eTimpl_Rule) Try.underlying28 info96 hF rfl rfl rfl rfl rfl hb148 rfl rfl (L.nil k0)) ?_
      refine Atk 11 rfl (Ca.fieldAddr Try.underlying96 rfl info3 rfl) (fun Q0 k0 => L.fieldAddr Try.underlying96 rfl info3 rfl hF rfl rfl rfl rfl rfl (L.nil k0)) ?_
      refine A.all [1, 6, 12] (by kernel_rfl) rfl ⟨⟨_, rfl, ?_⟩, ⟨_, rfl, ?_⟩, ⟨_, rfl, ?_⟩, trivial⟩
      ·refine L.buildSlice (e := eI) 3 ([] : List Int) Try.underlying39 info3 rfl rfl rfl hF rfl rfl rfl rfl rfl rfl rfl rfl (L.nil ?_)
       refine A.le (τ := mkSt [(0, MG.one (Cell.sl g0 (List.map eTimpl_Rule v121))), (1, MG.one (cI v122)), (4, MG.one (Cell.ptr 0 0)), (6, MG.one (Cell.ptr 1 0)), (8, MG.one (cI v124)), (30, MG.one (cI v122)), (31, MG.one (Cell.own 2)), (35, MG.one (Cell.pe g0 (eTimpl_Rule b146) 1)), (41, MG.one (Cell.pe g0 (eTimpl_Rule b148) 2))] [(2, ⟨1, List.map eI ([] : List Int)⟩), (3, ⟨1, List.map eI v126⟩)] [(0, [cI (0 : Int), Cell.nil, cI (0 : Int)]), (1, [cI v125, Cell.own 3, cI v127])] 4) (Le.mk [(0, 0), (1, 1), (2, 3), (3, 2)] hm rfl (Sa8 (Sa1 trivial)) (Ra2 trivial) (Ba2 trivial)) ?_
       refine A.all [6, 12] (by kernel_rfl) rfl ⟨⟨_, rfl, ?_⟩, ⟨_, rfl, ?_⟩, trivial⟩
       ·refine L.loadPe shape39 hF rfl rfl rfl rfl rfl (L.nil ?_)
        exact A.on (hO _ _ _ n3967) (Le.mk [(0, 0), (1, 1), (2, 2), (3, 3)] hm rfl (Sa8 (Sa1 trivial)) (Ra2 trivial) (Ba2 trivial))
       ·refine L.loadPe shape3 hF rfl rfl rfl rfl rfl (L.nil ?_)
        exact A.on (hO _ _ _ n7999) (Le.mk [(0, 0), (1, 1), (2, 2), (3, 3)] hm rfl (Sa8 (Sa1 trivial)) (Ra2 trivial) (Ba2 trivial))
      ·refine L.loadPe shape39 hF rfl rfl rfl rfl rfl (L.nil ?_)
       refine A.le (τ := mkSt [(0, MG.one (Cell.sl g0 (List.map eTimpl_Rule v121))), (1, MG.one (cI v122)), (4, MG.one (Cell.ptr 0 0)), (6, MG.one (Cell.ptr 1 0)), (8, MG.one (cI v124)), (30, MG.one (cI v122)), (36, MG.one (Cell.sl g0 (List.map eI b146.Set))), (41, MG.one (Cell.pe g0 (eTimpl_Rule b148) 2))] [(2, ⟨1, List.map eI v126⟩)] [(0, [cI (0 : Int), Cell.nil, cI (0 : Int)]), (1, [cI v125, Cell.own 2, cI v127])] 3) (Le.mk [(0, 0), (1, 1), (2, 2)] hm rfl (Sa8 trivial) (Ra1 trivial) (Ba2 trivial)) ?_
       refine A.all [1, 12] (by kernel_rfl) rfl ⟨⟨_, rfl, ?_⟩, ⟨_, rfl, ?_⟩, trivial⟩
       ·refine L.buildSlice (e := eI) 3 ([] : List Int) Try.underlying39 info3 rfl rfl rfl hF rfl rfl rfl rfl rfl rfl rfl rfl (L.nil ?_)
        exact A.on (hO _ _ _ n3967) (Le.mk [(0, 0), (1, 1), (2, 3), (3, 2)] hm rfl (Sa8 (Sa1 trivial)) (Ra2 trivial) (Ba2 trivial))
       ·refine L.loadPe shape3 hF rfl rfl rfl rfl rfl (L.nil ?_)
        exact A.on (hO _ _ _ n8061) (Le.mk [(0, 0), (1, 1), (2, 2)] hm rfl (Sa8 trivial) (Ra1 trivial) (Ba2 trivial))
      ·refine L.loadPe shape3 hF rfl rfl rfl rfl rfl (L.nil ?_)
       refine A.le (τ := mkSt [(0, MG.one (Cell.sl g0 (List.map eTimpl_Rule v121))), (1, MG.one (cI v122)), (4, MG.one (Cell.ptr 0 0)), (6, MG.one (Cell.ptr 1 0)), (8, MG.one (cI v124)), (30, MG.one (cI v122)), (35, MG.one (Cell.pe g0 (eTimpl_Rule b146) 1)), (42, MG.one (cI b148.N))] [(2, ⟨1, List.map eI v126⟩)] [(0, [cI (0 : Int), Cell.nil, cI (0 : Int)]), (1, [cI v125, Cell.own 2, cI v127])] 3) (Le.mk [(0, 0), (1, 1), (2, 2)] hm rfl (Sa8 trivial) (Ra1 trivial) (Ba2 trivial)) ?_
       refine A.all [1, 6] (by kernel_rfl) rfl ⟨⟨_, rfl, ?_⟩, ⟨_, rfl, ?_⟩, trivial⟩
       ·refine L.buildSlice (e := eI) 3 ([] : List Int) Try.underlying39 info3 rfl rfl rfl hF rfl rfl rfl rfl rfl rfl rfl rfl (L.nil ?_)
        exact A.on (hO _ _ _ n7999) (Le.mk [(0, 0), (1, 1), (2, 3), (3, 2)] hm rfl (Sa8 (Sa1 trivial)) (Ra2 trivial) (Ba2 trivial))
       ·refine L.loadPe shape39 hF rfl rfl rfl rfl rfl (L.nil ?_)
        exact A.on (hO _ _ _ n8061) (Le.mk [(0, 0), (1, 1), (2, 2)] hm rfl (Sa8 trivial) (Ra1 trivial) (Ba2 trivial))
  ·replace H := condF hc H
   refine WpC.exit (WpC.seq (WpC.regionL ?_))
   refine L.loadPtr shape96 hF rfl rfl rfl rfl rfl rfl ?_
   refine L.move hF rfl rfl rfl ?_
   refine L.storePtr shape96 hF rfl rfl rfl rfl rfl rfl rfl ?_
   refine L.assign hF rfl rfl rfl (L.nil ?_)
   refine WpC.ret ?_
   cases H
   exact Leaves.ret rfl rfl rfl ⟨rfl, rfl⟩
/-! ### Fspec_Normal -/
def Fspec_Normal.j8 (cl7 : (List Timpl_Rule) → (List Timpl_Rule) → Int → Option (List Timpl_Rule)) (k : Nat) (v76 : List Timpl_Rule) (v77 : List Timpl_Rule) (v78 : Int) : Option (List Timpl_Rule) := cl7 v76 v77 (IntKind.i64.wrap (v78 + (1 : Int)))
def Fspec_Normal.l7 : Nat → (List Timpl_Rule) → (List Timpl_Rule) → Int → Option (List Timpl_Rule)
 | 0, _, _, _ => none
 | k7 + 1, v67, v68, v69 => cond (decide (v69 ≤ (5 : Int))) ((Fspec_RulesOk k7 v67).bind fun r73 => cond r73 ((Fspec_l17Kind k7 v67 v69).bind fun r79 => cond r79.2 (cond (decide ((2 * (v68.length + ([r79.1] : List Timpl_Rule).length) + 192) * 40 ≤ 281474976710656)) (Fspec_Normal.j8 (Fspec_Normal.l7 k7) k7 v67 (v68 ++ ([r79.1] : List Timpl_Rule)) v69) none) (Fspec_Normal.j8 (Fspec_Normal.l7 k7) k7 v67 v68 v69)) (some v68)) (some v68)
def Fspec_Normal (k : Nat) (a0 : List Timpl_Rule) : Option (List Timpl_Rule) := Fspec_Normal.l7 k a0 ([] : List Timpl_Rule) (1 : Int)
theorem ent37 : MG.Enters Try.prog 37 := ⟨Try.f37, Try.func37, rfl, by decide⟩
set_option maxHeartbeats 8000000 in
set_option maxRecDepth 100000 in
theorem Fspec_Normal_gives (k : Nat) (g0 : Bool) (a0 : List Timpl_Rule) (r : List Timpl_Rule) (H : Fspec_Normal k a0 = some r) : Gives Try.prog 37 [V.one (Cell.sl g0 (List.map eTimpl_Rule a0))] [] [V.one (Cell.ow 3 (List.map eTimpl_Rule r))] [] := by
 refine Gives.intro Try.func37 rfl rfl rfl rfl ?_
 intro F hF hm
 unfold Fspec_Normal at H
 obtain ⟨K, hK⟩ : ∃ K, k ≤ K := ⟨k, Nat.le_refl k⟩
 refine WpC.seq (WpC.regionL ?_)
 refine L.assign hF rfl rfl rfl (L.nil ?_)
 refine WpC.seq (WpC.regionL ?_)
 refine L.buildSliceN (e := eTimpl_Rule) 1 1 ([] : List Timpl_Rule) Try.underlying28 info96 rfl rfl rfl hF rfl rfl rfl rfl rfl rfl rfl rfl ?_
 refine L.assign hF rfl rfl rfl (L.nil ?_)
 refine WpC.seq (WpC.seq (WpC.regionL ?_))
 refine L.assign hF rfl rfl rfl (L.nil ?_)
 refine WpC.block ?_
 refine WpC.loopL (P := Try.prog) (fun n σ => ∃ v67 : List Timpl_Rule, ∃ v68 : List Timpl_Rule, ∃ v69 : Int, n ≤ K ∧ Fspec_Normal.l7 n v67 v68 v69 = some r ∧ σ = mkSt [(0, MG.one (Cell.sl g0 (List.map eTimpl_Rule v67))), (3, MG.one (Cell.own 0)), (4, MG.one (cI v69))] [(0, ⟨3, List.map eTimpl_Rule v68⟩)] [] 1) k ⟨_, ⟨a0, ([] : List Timpl_Rule), (1 : Int), by omega, H, rfl⟩, Le.mk [(0, 1)] hm rfl (Sa2 (Sa1 trivial)) (Ra1 trivial) trivial⟩ ?_
 clear H
 rintro k7 _ ⟨v67, v68, v69, hk7, H, rfl⟩
 cases k7 with
 | zero => cases H
 | succ k7 =>
  rw [Fspec_Normal.l7] at H
  refine WpC.seq (WpC.seq (WpC.regionL ?_))
  refine L.move hF rfl rfl rfl ?_
  refine L.bin hF rfl rfl rfl rfl rfl rfl ?_
  refine L.move hF rfl rfl rfl ?_
  refine L.split (fun hc => ?_) (fun hc => ?_)
  ·replace H := condT hc H
   refine L.move hF rfl rfl rfl ?_
   obtain ⟨r73, hr73, H⟩ := bindS H
   refine L.call [false] [] [] 1 hF rfl rfl rfl ent25 rfl rfl rfl rfl rfl (Fspec_RulesOk_gives k7 g0 v67 r73 hr73) rfl ?_
   refine L.pick hF rfl rfl rfl rfl (L.nil ?_)
   refine WpC.cond rfl (fun hc => ?_) (fun hc => ?_)
   ·replace H := condT hc H
    refine WpC.skip ?_
    refine WpC.join (fun σ => ∃ kj8 : Nat, ∃ v76 : List Timpl_Rule, ∃ v77 : List Timpl_Rule, ∃ v78 : Int, kj8 ≤ K ∧ Fspec_Normal.j8 (Fspec_Normal.l7 k7) kj8 v76 v77 v78 = some r ∧ σ = mkSt [(0, MG.one (Cell.sl g0 (List.map eTimpl_Rule v76))), (3, MG.one (Cell.own 0)), (4, MG.one (cI v78))] [(0, ⟨3, List.map eTimpl_Rule v77⟩)] [] 1) ?_ ?_
    ·rintro _ ⟨kj8, v76, v77, v78, hkj8, H, rfl⟩
     unfold Fspec_Normal.j8 at H
     refine WpC.regionL ?_
     refine L.move hF rfl rfl rfl ?_
     refine L.bin hF rfl rfl rfl rfl rfl rfl ?_
     refine L.assign hF rfl rfl rfl (L.nil ?_)
     exact ⟨k7, _, by omega, ⟨v76, v77, (IntKind.i64.wrap (v78 + (1 : Int))), by omega, H, rfl⟩, Le.mk [(0, 0)] hm rfl (Sa2 (Sa1 trivial)) (Ra1 trivial) trivial⟩
    ·refine WpC.block (WpC.seq (WpC.regionL ?_))
     refine L.move hF rfl rfl rfl ?_
     refine L.move hF rfl rfl rfl ?_
     obtain ⟨r79, hr79, H⟩ := bindS H
     refine L.call [false, false] [] [] 2 hF rfl rfl rfl ent83 rfl rfl rfl rfl rfl (Fspec_l17Kind_gives k7 g0 v67 v69 r79 hr79) rfl ?_
     refine L.move hF rfl rfl rfl ?_
     refine L.extract hF rfl rfl rfl rfl ?_
     refine L.extract hF rfl rfl rfl rfl ?_
     refine L.alloc 6 info96 rfl hF rfl rfl rfl rfl ?_
     refine L.storePtr shape96 hF rfl rfl rfl rfl rfl rfl rfl ?_
     refine L.assign hF rfl rfl rfl (L.nil ?_)
     refine WpC.seq (WpC.regionL ?_)
     refine L.move hF rfl rfl rfl (L.nil ?_)
     refine WpC.cond rfl (fun hc => ?_) (fun hc => ?_)
     ·replace H := condT hc H
      refine WpC.regionL ?_
      refine L.move hF rfl rfl rfl ?_
      refine L.loadPtr shape96 hF rfl rfl rfl rfl rfl rfl ?_
      refine L.buildSliceN (e := eTimpl_Rule) 1 7 ([r79.1] : List Timpl_Rule) Try.underlying28 info96 rfl rfl rfl hF rfl rfl rfl rfl rfl rfl rfl rfl ?_
      obtain ⟨h80, H⟩ := condG H
      refine L.appendN (xs := v68) (ys := ([r79.1] : List Timpl_Rule)) (e := eTimpl_Rule) 8 Try.underlying28 info96 rfl rfl hF rfl rfl rfl rfl rfl rfl rfl rfl rfl (fun _ _ h1 h2 => by cases h1; cases h2; rfl) Try.underlying28 (of_decide_eq_true h80) rfl rfl ?_
      refine L.assign hF rfl rfl rfl (L.nil ?_)
      exact ⟨_, ⟨k7, v67, (v68 ++ ([r79.1] : List Timpl_Rule)), v69, by omega, H, rfl⟩, Le.mk [(0, 8)] hm rfl (Sa2 (Sa1 trivial)) (Ra1 trivial) trivial⟩
     ·replace H := condF hc H
      refine WpC.skip ?_
      exact ⟨_, ⟨k7, v67, v68, v69, by omega, H, rfl⟩, Le.mk [(0, 0)] hm rfl (Sa2 (Sa1 trivial)) (Ra1 trivial) trivial⟩
   ·replace H := condF hc H
    refine WpC.exit (WpC.seq (WpC.regionL ?_))
    refine L.move hF rfl rfl rfl ?_
    refine L.assign hF rfl rfl rfl (L.nil ?_)
    refine WpC.ret ?_
    cases H
    exact Leaves.ret rfl rfl rfl ⟨rfl, rfl⟩
  ·replace H := condF hc H
   refine L.off hF rfl rfl ?_
   refine L.off hF rfl rfl ?_
   refine L.pick hF rfl rfl rfl rfl (L.nil ?_)
   refine WpC.cond rfl (fun hc => by cases hc) (fun _ => ?_)
   refine WpC.exit (WpC.seq (WpC.regionL ?_))
   refine L.move hF rfl rfl rfl ?_
   refine L.assign hF rfl rfl rfl (L.nil ?_)
   refine WpC.ret ?_
   cases H
   exact Leaves.ret rfl rfl rfl ⟨rfl, rfl⟩
/-! ### Fimpl_rises -/
def Fimpl_rises.l2 : Nat → (List Int) → Int → Option Bool
 | 0, _, _ => none
 | k2 + 1, v29, v30 => cond (decide (v30 < (v29.length : Int))) ((at? v29 (IntKind.i64.wrap (v30 - (1 : Int)))).bind fun b33 => (at? v29 v30).bind fun b34 => cond (decide (b33 ≥ b34)) (some false) ((Fimpl_rises.l2 k2) v29 (IntKind.i64.wrap (v30 + (1 : Int))))) (some true)
def Fimpl_rises (k : Nat) (a0 : List Int) : Option Bool := Fimpl_rises.l2 k a0 (1 : Int)
theorem ent164 : MG.Enters Try.prog 164 := ⟨Try.f164, Try.func164, rfl, by decide⟩
set_option maxHeartbeats 8000000 in
set_option maxRecDepth 100000 in
theorem Fimpl_rises_gives (k : Nat) (g0 : Bool) (a0 : List Int) (r : Bool) (H : Fimpl_rises k a0 = some r) : Gives Try.prog 164 [V.one (Cell.sl g0 (List.map eI a0))] [] [V.one (cL r)] [] := by
 refine Gives.intro Try.func164 rfl rfl rfl rfl ?_
 intro F hF hm
 unfold Fimpl_rises at H
 obtain ⟨K, hK⟩ : ∃ K, k ≤ K := ⟨k, Nat.le_refl k⟩
 refine WpC.seq (WpC.regionL ?_)
 refine L.assign hF rfl rfl rfl (L.nil ?_)
 refine WpC.seq (WpC.seq (WpC.regionL ?_))
 refine L.assign hF rfl rfl rfl (L.nil ?_)
 refine WpC.block ?_
 refine WpC.loopL (P := Try.prog) (fun n σ => ∃ v29 : List Int, ∃ v30 : Int, n ≤ K ∧ Fimpl_rises.l2 n v29 v30 = some r ∧ σ = mkSt [(0, MG.one (Cell.sl g0 (List.map eI v29))), (3, MG.one (cI v30))] [] [] 0) k ⟨_, ⟨a0, (1 : Int), by omega, H, rfl⟩, Le.mk [] hm rfl (Sa2 trivial) trivial trivial⟩ ?_
 clear H
 rintro k2 _ ⟨v29, v30, hk2, H, rfl⟩
 cases k2 with
 | zero => cases H
 | succ k2 =>
  rw [Fimpl_rises.l2] at H
  refine WpC.seq (WpC.seq (WpC.regionL ?_))
  refine L.move hF rfl rfl rfl ?_
  refine L.move hF rfl rfl rfl ?_
  refine L.lenR (xs := v29) (e := eI) Try.underlying39 hF rfl rfl rfl rfl ?_
  refine L.bin hF rfl rfl rfl rfl rfl rfl (L.nil ?_)
  refine WpC.cond rfl (fun hc => ?_) (fun hc => ?_)
  ·replace H := condT hc H
   refine WpC.skip (WpC.seq (WpC.block (WpC.seq ?_)))
   refine S.begin mixed (by kernel_rfl) ?_
   refine S.st 0 rfl rfl ((Ca.move).quiet) (fun Q0 k0 => L.move hF rfl rfl rfl (L.nil k0)) ?_
   refine S.st 1 rfl rfl ((Ca.move).quiet) (fun Q0 k0 => L.move hF rfl rfl rfl (L.nil k0)) ?_
   refine S.st 2 rfl rfl ((Ca.bin rfl rfl (calm_int _ _ _ _ _ _ _ _)).quiet) (fun Q0 k0 => L.bin hF rfl rfl rfl rfl rfl rfl (L.nil k0)) ?_
   obtain ⟨b33, hb33, H⟩ := bindS H
   refine S.st 3 rfl rfl ((Ca.indexAddr).quiet) (fun Q0 k0 => L.idxR (xs := v29) (e := eI) Try.underlying39 info3 hF rfl rfl rfl rfl rfl hb33 rfl rfl (L.nil k0)) ?_
   refine S.st 4 rfl rfl (Qu.load) (fun Q0 k0 => L.loadPe shape3 hF rfl rfl rfl rfl rfl (L.nil k0)) ?_
   refine S.st 5 rfl rfl ((Ca.move).quiet) (fun Q0 k0 => L.move hF rfl rfl rfl (L.nil k0)) ?_
   refine S.st 6 rfl rfl ((Ca.move).quiet) (fun Q0 k0 => L.move hF rfl rfl rfl (L.nil k0)) ?_
   obtain ⟨b34, hb34, H⟩ := bindS H
   refine S.st 7 rfl rfl ((Ca.indexAddr).quiet) (fun Q0 k0 => L.idxR (xs := v29) (e := eI) Try.underlying39 info3 hF rfl rfl rfl rfl rfl hb34 rfl rfl (L.nil k0)) ?_
   refine S.st 8 rfl rfl (Qu.load) (fun Q0 k0 => L.loadPe shape3 hF rfl rfl rfl rfl rfl (L.nil k0)) ?_
   refine S.st 9 rfl rfl ((Ca.bin rfl rfl (calm_int _ _ _ _ _ _ _ _)).quiet) (fun Q0 k0 => L.bin hF rfl rfl rfl rfl rfl rfl (L.nil k0)) ?_
   refine S.nil ?_
   refine WpC.cond rfl (fun hc => ?_) (fun hc => ?_)
   ·replace H := condT hc H
    refine WpC.seq (WpC.regionL ?_)
    refine L.assign hF rfl rfl rfl (L.nil ?_)
    refine WpC.ret ?_
    cases H
    exact Leaves.ret rfl rfl rfl ⟨rfl, rfl⟩
   ·replace H := condF hc H
    refine WpC.skip (WpC.regionL ?_)
    refine L.move hF rfl rfl rfl ?_
    refine L.bin hF rfl rfl rfl rfl rfl rfl ?_
    refine L.assign hF rfl rfl rfl (L.nil ?_)
    exact ⟨k2, _, by omega, ⟨v29, (IntKind.i64.wrap (v30 + (1 : Int))), by omega, H, rfl⟩, Le.mk [] hm rfl (Sa2 trivial) trivial trivial⟩
  ·replace H := condF hc H
   refine WpC.exit (WpC.seq (WpC.regionL ?_))
   refine L.assign hF rfl rfl rfl (L.nil ?_)
   refine WpC.ret ?_
   cases H
   exact Leaves.ret rfl rfl rfl ⟨rfl, rfl⟩
/-! ### Fimpl_within -/
def Fimpl_within (k : Nat) (a0 : Int) (a1 : Int) (a2 : Int) : Option Bool := cond (decide (a0 ≥ a1)) (some (decide (a0 ≤ a2))) (some false)
theorem ent78 : MG.Enters Try.prog 78 := ⟨Try.f78, Try.func78, rfl, by decide⟩
set_option maxHeartbeats 8000000 in
set_option maxRecDepth 100000 in
theorem Fimpl_within_gives (k : Nat) (a0 : Int) (a1 : Int) (a2 : Int) (r : Bool) (H : Fimpl_within k a0 a1 a2 = some r) : Gives Try.prog 78 [V.one (cI a0), V.one (cI a1), V.one (cI a2)] [] [V.one (cL r)] [] := by
 refine Gives.intro Try.func78 rfl rfl rfl rfl ?_
 intro F hF hm
 unfold Fimpl_within at H
 obtain ⟨K, hK⟩ : ∃ K, k ≤ K := ⟨k, Nat.le_refl k⟩
 refine WpC.seq (WpC.regionL ?_)
 refine L.assign hF rfl rfl rfl (L.nil ?_)
 refine WpC.seq (WpC.regionL ?_)
 refine L.move hF rfl rfl rfl ?_
 refine L.move hF rfl rfl rfl ?_
 refine L.bin hF rfl rfl rfl rfl rfl rfl ?_
 refine L.move hF rfl rfl rfl ?_
 refine L.split (fun hc => ?_) (fun hc => ?_)
 ·replace H := condT hc H
  refine L.move hF rfl rfl rfl ?_
  refine L.move hF rfl rfl rfl ?_
  refine L.bin hF rfl rfl rfl rfl rfl rfl ?_
  refine L.pick hF rfl rfl rfl rfl ?_
  refine L.assign hF rfl rfl rfl (L.nil ?_)
  refine WpC.ret ?_
  cases H
  exact Leaves.ret rfl rfl rfl ⟨rfl, rfl⟩
 ·replace H := condF hc H
  refine L.off hF rfl rfl ?_
  refine L.off hF rfl rfl ?_
  refine L.off hF rfl rfl ?_
  refine L.pick hF rfl rfl rfl rfl ?_
  refine L.assign hF rfl rfl rfl (L.nil ?_)
  refine WpC.ret ?_
  cases H
  exact Leaves.ret rfl rfl rfl ⟨rfl, rfl⟩
/-! ### Fimpl_areSet_1 -/
def Fimpl_areSet_1 (k : Nat) (a0 : Int) : Option Bool := (Fimpl_within k a0 (0 : Int) (30 : Int)).bind fun r1 => some r1
theorem ent165 : MG.Enters Try.prog 165 := ⟨Try.f165, Try.func165, rfl, by decide⟩
set_option maxHeartbeats 8000000 in
set_option maxRecDepth 100000 in
theorem Fimpl_areSet_1_gives (k : Nat) (a0 : Int) (r : Bool) (H : Fimpl_areSet_1 k a0 = some r) : Gives Try.prog 165 [V.one (cI a0)] [] [V.one (cL r)] [] := by
 refine Gives.intro Try.func165 rfl rfl rfl rfl ?_
 intro F hF hm
 unfold Fimpl_areSet_1 at H
 obtain ⟨K, hK⟩ : ∃ K, k ≤ K := ⟨k, Nat.le_refl k⟩
 refine WpC.seq (WpC.regionL ?_)
 refine L.assign hF rfl rfl rfl (L.nil ?_)
 refine WpC.seq (WpC.regionL ?_)
 refine L.move hF rfl rfl rfl ?_
 obtain ⟨r1, hr1, H⟩ := bindS H
 refine L.call [false, false, false] [] [] 1 hF rfl rfl rfl ent78 rfl rfl rfl rfl rfl (Fimpl_within_gives k  a0 (0 : Int) (30 : Int) r1 hr1) rfl ?_
 refine L.assign hF rfl rfl rfl (L.nil ?_)
 refine WpC.ret ?_
 cases H
 exact Leaves.ret rfl rfl rfl ⟨rfl, rfl⟩
/-! ### Fimpl_areAll__impl_areSet_1 -/
def Fimpl_areAll__impl_areSet_1.l2 : Nat → (List Int) → Int → Int → Int → Option Bool
 | 0, _, _, _, _ => none
 | k2 + 1, v39, v40, v41, v42 => cond (decide (v42 < v41)) ((at? v39 v42).bind fun b45 => (Fimpl_areSet_1 k2 b45).bind fun r46 => cond (!r46) (some false) ((Fimpl_areAll__impl_areSet_1.l2 k2) v39 v40 v41 (IntKind.i64.wrap (v42 + (1 : Int))))) (some (decide ((v39.length : Int) ≤ v40)))
def Fimpl_areAll__impl_areSet_1 (k : Nat) (a0 : List Int) (a1 : Int) : Option Bool := Fimpl_areAll__impl_areSet_1.l2 k a0 a1 (a0.length : Int) (0 : Int)
theorem ent142 : MG.Enters Try.prog 142 := ⟨Try.f142, Try.func142, rfl, by decide⟩
set_option maxHeartbeats 8000000 in
set_option maxRecDepth 100000 in
theorem Fimpl_areAll__impl_areSet_1_gives (k : Nat) (g0 : Bool) (a0 : List Int) (a1 : Int) (r : Bool) (H : Fimpl_areAll__impl_areSet_1 k a0 a1 = some r) : Gives Try.prog 142 [V.one (Cell.sl g0 (List.map eI a0)), V.one (cI a1), V.one (Cell.clo 165 [])] [] [V.one (cL r)] [] := by
 refine Gives.intro Try.func142 rfl rfl rfl rfl ?_
 intro F hF hm
 unfold Fimpl_areAll__impl_areSet_1 at H
 obtain ⟨K, hK⟩ : ∃ K, k ≤ K := ⟨k, Nat.le_refl k⟩
 refine WpC.seq (WpC.regionL ?_)
 refine L.assign hF rfl rfl rfl (L.nil ?_)
 refine WpC.seq (WpC.seq (WpC.regionL ?_))
 refine L.move hF rfl rfl rfl ?_
 refine L.lenR (xs := a0) (e := eI) Try.underlying39 hF rfl rfl rfl rfl ?_
 refine L.move hF rfl rfl rfl (L.nil ?_)
 refine WpC.block ?_
 refine WpC.loopL (P := Try.prog) (fun n σ => ∃ v39 : List Int, ∃ v40 : Int, ∃ v41 : Int, ∃ v42 : Int, n ≤ K ∧ Fimpl_areAll__impl_areSet_1.l2 n v39 v40 v41 v42 = some r ∧ σ = mkSt [(0, MG.one (Cell.sl g0 (List.map eI v39))), (1, MG.one (cI v40)), (2, MG.one (Cell.clo 165 [])), (9, MG.one (Cell.sl g0 (List.map eI v39))), (10, MG.one (cI v41)), (11, MG.one (cI v42))] [] [] 0) k ⟨_, ⟨a0, a1, (a0.length : Int), (0 : Int), by omega, H, rfl⟩, Le.mk [] hm rfl (Sa4 (Sa2 trivial)) trivial trivial⟩ ?_
 clear H
 rintro k2 _ ⟨v39, v40, v41, v42, hk2, H, rfl⟩
 cases k2 with
 | zero => cases H
 | succ k2 =>
  rw [Fimpl_areAll__impl_areSet_1.l2] at H
  refine WpC.seq (WpC.regionL ?_)
  refine L.bin hF rfl rfl rfl rfl rfl rfl (L.nil ?_)
  refine WpC.seq ?_
  refine WpC.cond rfl (fun hc => ?_) (fun hc => ?_)
  ·replace H := condT hc H
   refine WpC.skip (WpC.seq (WpC.block (WpC.seq (WpC.regionL ?_))))
   obtain ⟨b45, hb45, H⟩ := bindS H
   refine L.idxR (xs := v39) (e := eI) Try.underlying39 info3 hF rfl rfl rfl rfl rfl hb45 rfl rfl ?_
   refine L.loadPe shape3 hF rfl rfl rfl rfl rfl ?_
   refine L.assign hF rfl rfl rfl (L.nil ?_)
   refine WpC.seq (WpC.regionL ?_)
   refine L.move hF rfl rfl rfl ?_
   refine L.move hF rfl rfl rfl ?_
   obtain ⟨r46, hr46, H⟩ := bindS H
   refine L.call [false] [] [] 0 hF rfl rfl rfl ent165 rfl rfl rfl rfl rfl (Fimpl_areSet_1_gives k2  b45 r46 hr46) rfl ?_
   refine L.not hF rfl rfl rfl (L.nil ?_)
   refine WpC.cond rfl (fun hc => ?_) (fun hc => ?_)
   ·replace H := condT hc H
    refine WpC.seq (WpC.regionL ?_)
    refine L.assign hF rfl rfl rfl (L.nil ?_)
    refine WpC.ret ?_
    cases H
    exact Leaves.ret rfl rfl rfl ⟨rfl, rfl⟩
   ·replace H := condF hc H
    refine WpC.skip (WpC.regionL ?_)
    refine L.bin hF rfl rfl rfl rfl rfl rfl ?_
    refine L.move hF rfl rfl rfl (L.nil ?_)
    exact ⟨k2, _, by omega, ⟨v39, v40, v41, (IntKind.i64.wrap (v42 + (1 : Int))), by omega, H, rfl⟩, Le.mk [] hm rfl (Sa4 (Sa2 trivial)) trivial trivial⟩
  ·replace H := condF hc H
   refine WpC.exit (WpC.seq (WpC.regionL ?_))
   refine L.move hF rfl rfl rfl ?_
   refine L.lenR (xs := v39) (e := eI) Try.underlying39 hF rfl rfl rfl rfl ?_
   refine L.move hF rfl rfl rfl ?_
   refine L.bin hF rfl rfl rfl rfl rfl rfl ?_
   refine L.assign hF rfl rfl rfl (L.nil ?_)
   refine WpC.ret ?_
   cases H
   exact Leaves.ret rfl rfl rfl ⟨rfl, rfl⟩
/-! ### Fimpl_areSet -/
def Fimpl_areSet (k : Nat) (a0 : List Int) : Option Bool := (Fimpl_rises k a0).bind fun r3 => cond r3 ((Fimpl_areAll__impl_areSet_1 k a0 (31 : Int)).bind fun r4 => some r4) (some false)
theorem ent153 : MG.Enters Try.prog 153 := ⟨Try.f153, Try.func153, rfl, by decide⟩
set_option maxHeartbeats 8000000 in
set_option maxRecDepth 100000 in
theorem Fimpl_areSet_gives (k : Nat) (g0 : Bool) (a0 : List Int) (r : Bool) (H : Fimpl_areSet k a0 = some r) : Gives Try.prog 153 [V.one (Cell.sl g0 (List.map eI a0))] [] [V.one (cL r)] [] := by
 refine Gives.intro Try.func153 rfl rfl rfl rfl ?_
 intro F hF hm
 unfold Fimpl_areSet at H
 obtain ⟨K, hK⟩ : ∃ K, k ≤ K := ⟨k, Nat.le_refl k⟩
 refine WpC.seq (WpC.regionL ?_)
 refine L.assign hF rfl rfl rfl (L.nil ?_)
 refine WpC.seq (WpC.regionL ?_)
 refine L.move hF rfl rfl rfl ?_
 obtain ⟨r3, hr3, H⟩ := bindS H
 refine L.call [false] [] [] 1 hF rfl rfl rfl ent164 rfl rfl rfl rfl rfl (Fimpl_rises_gives k g0 a0 r3 hr3) rfl ?_
 refine L.move hF rfl rfl rfl ?_
 refine L.split (fun hc => ?_) (fun hc => ?_)
 ·replace H := condT hc H
  refine L.move hF rfl rfl rfl ?_
  obtain ⟨r4, hr4, H⟩ := bindS H
  refine L.call [false, false, false] [] [] 2 hF rfl rfl rfl ent142 rfl rfl rfl rfl rfl (Fimpl_areAll__impl_areSet_1_gives k g0 a0 (31 : Int) r4 hr4) rfl ?_
  refine L.pick hF rfl rfl rfl rfl ?_
  refine L.assign hF rfl rfl rfl (L.nil ?_)
  refine WpC.ret ?_
  cases H
  exact Leaves.ret rfl rfl rfl ⟨rfl, rfl⟩
 ·replace H := condF hc H
  refine L.off hF rfl rfl ?_
  refine L.off hF rfl rfl ?_
  refine L.pick hF rfl rfl rfl rfl ?_
  refine L.assign hF rfl rfl rfl (L.nil ?_)
  refine WpC.ret ?_
  cases H
  exact Leaves.ret rfl rfl rfl ⟨rfl, rfl⟩
/-! ### Fimpl_isTime -/
def Fimpl_isTime (k : Nat) (a0 : Int) : Option Bool := (Fimpl_within k a0 (0 : Int) (100000 : Int)).bind fun r1 => some r1
theorem ent154 : MG.Enters Try.prog 154 := ⟨Try.f154, Try.func154, rfl, by decide⟩
set_option maxHeartbeats 8000000 in
set_option maxRecDepth 100000 in
theorem Fimpl_isTime_gives (k : Nat) (a0 : Int) (r : Bool) (H : Fimpl_isTime k a0 = some r) : Gives Try.prog 154 [V.one (cI a0)] [] [V.one (cL r)] [] := by
 refine Gives.intro Try.func154 rfl rfl rfl rfl ?_
 intro F hF hm
 unfold Fimpl_isTime at H
 obtain ⟨K, hK⟩ : ∃ K, k ≤ K := ⟨k, Nat.le_refl k⟩
 refine WpC.seq (WpC.regionL ?_)
 refine L.assign hF rfl rfl rfl (L.nil ?_)
 refine WpC.seq (WpC.regionL ?_)
 refine L.move hF rfl rfl rfl ?_
 obtain ⟨r1, hr1, H⟩ := bindS H
 refine L.call [false, false, false] [] [] 1 hF rfl rfl rfl ent78 rfl rfl rfl rfl rfl (Fimpl_within_gives k  a0 (0 : Int) (100000 : Int) r1 hr1) rfl ?_
 refine L.assign hF rfl rfl rfl (L.nil ?_)
 refine WpC.ret ?_
 cases H
 exact Leaves.ret rfl rfl rfl ⟨rfl, rfl⟩
/-! ### Fimpl_ruleOk -/
def Fimpl_ruleOk.j4 (k : Nat) (v13 : Bool) (v14 : Timpl_Rule) : Option Bool := cond v13 ((Fimpl_isTime k v14.N).bind fun r16 => cond r16 (some ((v14.Set.length : Int) == (0 : Int))) (some false)) (some false)
def Fimpl_ruleOk.j3 (k : Nat) (v9 : Timpl_Rule) (v10 : Bool) : Option Bool := cond v10 ((Fimpl_areSet k v9.Set).bind fun r12 => cond r12 (some (v9.N == (0 : Int))) (some false)) (cond (v9.Kind == (4 : Int)) (Fimpl_ruleOk.j4 k (v9.Kind == (4 : Int)) v9) (Fimpl_ruleOk.j4 k (v9.Kind == (5 : Int)) v9))
def Fimpl_ruleOk (k : Nat) (a0 : Timpl_Rule) : Option Bool := cond (a0.Kind == (1 : Int)) (Fimpl_ruleOk.j3 k a0 (a0.Kind == (1 : Int))) (cond (a0.Kind == (2 : Int)) (Fimpl_ruleOk.j3 k a0 (a0.Kind == (2 : Int))) (Fimpl_ruleOk.j3 k a0 (a0.Kind == (3 : Int))))
theorem ent127 : MG.Enters Try.prog 127 := ⟨Try.f127, Try.func127, rfl, by decide⟩
set_option maxHeartbeats 8000000 in
set_option maxRecDepth 100000 in
theorem Fimpl_ruleOk_gives (k : Nat) (g0 : Bool) (a0 : Timpl_Rule) (r : Bool) (H : Fimpl_ruleOk k a0 = some r) : Gives Try.prog 127 [V.agg [cI a0.Kind, Cell.sl g0 (List.map eI a0.Set), cI a0.N]] [] [V.one (cL r)] [] := by
 refine Gives.intro Try.func127 rfl rfl rfl rfl ?_
 intro F hF hm
 unfold Fimpl_ruleOk at H
 obtain ⟨K, hK⟩ : ∃ K, k ≤ K := ⟨k, Nat.le_refl k⟩
 refine WpC.seq (WpC.regionL ?_)
 refine L.box 3 hF rfl rfl rfl rfl ?_
 refine L.assign hF rfl rfl rfl (L.nil ?_)
 refine WpC.seq (WpC.seq (WpC.regionL ?_))
 refine L.fieldAddr Try.underlying96 rfl info3 rfl hF rfl rfl rfl rfl rfl ?_
 refine L.loadPtr shape3 hF rfl rfl rfl rfl rfl rfl (L.nil ?_)
 refine WpC.block ?_
 refine WpC.join (fun σ => ∃ kj3 : Nat, ∃ v9 : Timpl_Rule, ∃ v10 : Bool, kj3 ≤ K ∧ Fimpl_ruleOk.j3 kj3 v9 v10 = some r ∧ σ = mkSt [(1, MG.one (Cell.ptr 0 0)), (4, MG.one (cI v9.Kind)), (5, MG.one (cL v10))] [] [(0, (bTimpl_Rule g0 v9))] 1) ?_ ?_
 ·rintro _ ⟨kj3, v9, v10, hkj3, H, rfl⟩
  unfold Fimpl_ruleOk.j3 at H
  refine WpC.cond rfl (fun hc => ?_) (fun hc => ?_)
  ·replace H := condT hc H
   refine WpC.seq (WpC.regionL ?_)
   refine L.fieldAddr Try.underlying96 rfl info39 rfl hF rfl rfl rfl rfl rfl ?_
   refine L.loadPtr shape39 hF rfl rfl rfl rfl rfl rfl ?_
   obtain ⟨r12, hr12, H⟩ := bindS H
   refine L.call [false] [] [] 1 hF rfl rfl rfl ent153 rfl rfl rfl rfl rfl (Fimpl_areSet_gives kj3 g0 v9.Set r12 hr12) rfl ?_
   refine L.move hF rfl rfl rfl ?_
   refine L.split (fun hc => ?_) (fun hc => ?_)
   ·replace H := condT hc H
    refine L.fieldAddr Try.underlying96 rfl info3 rfl hF rfl rfl rfl rfl rfl ?_
    refine L.loadPtr shape3 hF rfl rfl rfl rfl rfl rfl ?_
    refine L.bin hF rfl rfl rfl rfl rfl rfl ?_
    refine L.pick hF rfl rfl rfl rfl ?_
    refine L.assign hF rfl rfl rfl (L.nil ?_)
    refine WpC.ret ?_
    cases H
    exact Leaves.ret rfl rfl rfl ⟨rfl, rfl⟩
   ·replace H := condF hc H
    refine L.off hF rfl rfl ?_
    refine L.off hF rfl rfl ?_
    refine L.off hF rfl rfl ?_
    refine L.pick hF rfl rfl rfl rfl ?_
    refine L.assign hF rfl rfl rfl (L.nil ?_)
    refine WpC.ret ?_
    cases H
    exact Leaves.ret rfl rfl rfl ⟨rfl, rfl⟩
  ·replace H := condF hc H
   refine WpC.join (fun σ => ∃ kj4 : Nat, ∃ v13 : Bool, ∃ v14 : Timpl_Rule, kj4 ≤ K ∧ Fimpl_ruleOk.j4 kj4 v13 v14 = some r ∧ σ = mkSt [(1, MG.one (Cell.ptr 0 0)), (17, MG.one (cL v13))] [] [(0, (bTimpl_Rule g0 v14))] 1) ?_ ?_
   ·rintro _ ⟨kj4, v13, v14, hkj4, H, rfl⟩
    unfold Fimpl_ruleOk.j4 at H
    refine WpC.cond rfl (fun hc => ?_) (fun hc => ?_)
    ·replace H := condT hc H
     refine WpC.seq (WpC.regionL ?_)
     refine L.fieldAddr Try.underlying96 rfl info3 rfl hF rfl rfl rfl rfl rfl ?_
     refine L.loadPtr shape3 hF rfl rfl rfl rfl rfl rfl ?_
     obtain ⟨r16, hr16, H⟩ := bindS H
     refine L.call [false] [] [] 1 hF rfl rfl rfl ent154 rfl rfl rfl rfl rfl (Fimpl_isTime_gives kj4  v14.N r16 hr16) rfl ?_
     refine L.move hF rfl rfl rfl ?_
     refine L.split (fun hc => ?_) (fun hc => ?_)
     ·replace H := condT hc H
      refine L.fieldAddr Try.underlying96 rfl info39 rfl hF rfl rfl rfl rfl rfl ?_
      refine L.loadPtr shape39 hF rfl rfl rfl rfl rfl rfl ?_
      refine L.lenR (xs := v14.Set) (e := eI) Try.underlying39 hF rfl rfl rfl rfl ?_
      refine L.bin hF rfl rfl rfl rfl rfl rfl ?_
      refine L.pick hF rfl rfl rfl rfl ?_
      refine L.assign hF rfl rfl rfl (L.nil ?_)
      refine WpC.ret ?_
      cases H
      exact Leaves.ret rfl rfl rfl ⟨rfl, rfl⟩
     ·replace H := condF hc H
      refine L.off hF rfl rfl ?_
      refine L.off hF rfl rfl ?_
      refine L.off hF rfl rfl ?_
      refine L.off hF rfl rfl ?_
      refine L.pick hF rfl rfl rfl rfl ?_
      refine L.assign hF rfl rfl rfl (L.nil ?_)
      refine WpC.ret ?_
      cases H
      exact Leaves.ret rfl rfl rfl ⟨rfl, rfl⟩
    ·replace H := condF hc H
     refine WpC.skip (WpC.seq (WpC.regionL ?_))
     refine L.assign hF rfl rfl rfl (L.nil ?_)
     refine WpC.ret ?_
     cases H
     exact Leaves.ret rfl rfl rfl ⟨rfl, rfl⟩
   ·refine WpC.seq (WpC.regionL ?_)
    refine L.bin hF rfl rfl rfl rfl rfl rfl ?_
    refine L.assign hF rfl rfl rfl (L.nil ?_)
    refine WpC.cond rfl (fun hc => ?_) (fun hc => ?_)
    ·replace H := condT hc H
     refine WpC.skip ?_
     exact ⟨_, ⟨kj3, (v9.Kind == (4 : Int)), v9, by omega, H, rfl⟩, Le.mk [(0, 0)] hm rfl (Sa2 trivial) trivial (Ba1 trivial)⟩
    ·replace H := condF hc H
     refine WpC.regionL ?_
     refine L.bin hF rfl rfl rfl rfl rfl rfl ?_
     refine L.assign hF rfl rfl rfl (L.nil ?_)
     exact ⟨_, ⟨kj3, (v9.Kind == (5 : Int)), v9, by omega, H, rfl⟩, Le.mk [(0, 0)] hm rfl (Sa2 trivial) trivial (Ba1 trivial)⟩
 ·refine WpC.seq (WpC.regionL ?_)
  refine L.bin hF rfl rfl rfl rfl rfl rfl ?_
  refine L.assign hF rfl rfl rfl (L.nil ?_)
  refine WpC.cond rfl (fun hc => ?_) (fun hc => ?_)
  ·replace H := condT hc H
   refine WpC.skip ?_
   exact ⟨_, ⟨k, a0, (a0.Kind == (1 : Int)), by omega, H, rfl⟩, Le.mk [(0, 3)] hm rfl (Sa2 (Sa1 trivial)) trivial (Ba1 trivial)⟩
  ·replace H := condF hc H
   refine WpC.seq (WpC.regionL ?_)
   refine L.bin hF rfl rfl rfl rfl rfl rfl ?_
   refine L.assign hF rfl rfl rfl (L.nil ?_)
   refine WpC.cond rfl (fun hc => ?_) (fun hc => ?_)
   ·replace H := condT hc H
    refine WpC.skip ?_
    exact ⟨_, ⟨k, a0, (a0.Kind == (2 : Int)), by omega, H, rfl⟩, Le.mk [(0, 3)] hm rfl (Sa2 (Sa1 trivial)) trivial (Ba1 trivial)⟩
   ·replace H := condF hc H
    refine WpC.regionL ?_
    refine L.bin hF rfl rfl rfl rfl rfl rfl ?_
    refine L.assign hF rfl rfl rfl (L.nil ?_)
    exact ⟨_, ⟨k, a0, (a0.Kind == (3 : Int)), by omega, H, rfl⟩, Le.mk [(0, 3)] hm rfl (Sa2 (Sa1 trivial)) trivial (Ba1 trivial)⟩
/-! ### Fimpl_RulesOk_1 -/
def Fimpl_RulesOk_1 (k : Nat) (a0 : Timpl_Rule) : Option Bool := (Fimpl_ruleOk k a0).bind fun r1 => some (!r1)
theorem ent126 : MG.Enters Try.prog 126 := ⟨Try.f126, Try.func126, rfl, by decide⟩
set_option maxHeartbeats 8000000 in
set_option maxRecDepth 100000 in
theorem Fimpl_RulesOk_1_gives (k : Nat) (g0 : Bool) (a0 : Timpl_Rule) (r : Bool) (H : Fimpl_RulesOk_1 k a0 = some r) : Gives Try.prog 126 [V.agg [cI a0.Kind, Cell.sl g0 (List.map eI a0.Set), cI a0.N]] [] [V.one (cL r)] [] := by
 refine Gives.intro Try.func126 rfl rfl rfl rfl ?_
 intro F hF hm
 unfold Fimpl_RulesOk_1 at H
 obtain ⟨K, hK⟩ : ∃ K, k ≤ K := ⟨k, Nat.le_refl k⟩
 refine WpC.seq (WpC.regionL ?_)
 refine L.box 3 hF rfl rfl rfl rfl ?_
 refine L.assign hF rfl rfl rfl (L.nil ?_)
 refine WpC.seq (WpC.regionL ?_)
 refine L.loadPtr shape96 hF rfl rfl rfl rfl rfl rfl ?_
 obtain ⟨r1, hr1, H⟩ := bindS H
 refine L.call [false] [] [] 4 hF rfl rfl rfl ent127 rfl rfl rfl rfl rfl (Fimpl_ruleOk_gives k g0 a0 r1 hr1) rfl ?_
 refine L.not hF rfl rfl rfl ?_
 refine L.assign hF rfl rfl rfl (L.nil ?_)
 refine WpC.ret ?_
 cases H
 exact Leaves.ret rfl rfl rfl ⟨rfl, rfl⟩
/-! ### Fslices_IndexFunc_Rule__impl_RulesOk_1 -/
def Fslices_IndexFunc_Rule__impl_RulesOk_1.l2 : Nat → (List Timpl_Rule) → Int → Int → Option Int
 | 0, _, _, _ => none
 | k2 + 1, v34, v35, v36 => cond (decide (v36 < v35)) ((at? v34 v36).bind fun b39 => (Fimpl_RulesOk_1 k2 b39).bind fun r40 => cond r40 (some v36) ((Fslices_IndexFunc_Rule__impl_RulesOk_1.l2 k2) v34 v35 (IntKind.i64.wrap (v36 + (1 : Int))))) (some (-1 : Int))
def Fslices_IndexFunc_Rule__impl_RulesOk_1 (k : Nat) (a0 : List Timpl_Rule) : Option Int := Fslices_IndexFunc_Rule__impl_RulesOk_1.l2 k a0 (a0.length : Int) (0 : Int)
theorem ent152 : MG.Enters Try.prog 152 := ⟨Try.f152, Try.func152, rfl, by decide⟩
set_option maxHeartbeats 8000000 in
set_option maxRecDepth 100000 in
theorem Fslices_IndexFunc_Rule__impl_RulesOk_1_gives (k : Nat) (g0 : Bool) (a0 : List Timpl_Rule) (r : Int) (H : Fslices_IndexFunc_Rule__impl_RulesOk_1 k a0 = some r) : Gives Try.prog 152 [V.one (Cell.sl g0 (List.map eTimpl_Rule a0)), V.one (Cell.clo 126 [])] [] [V.one (cI r)] [] := by
 refine Gives.intro Try.func152 rfl rfl rfl rfl ?_
 intro F hF hm
 unfold Fslices_IndexFunc_Rule__impl_RulesOk_1 at H
 obtain ⟨K, hK⟩ : ∃ K, k ≤ K := ⟨k, Nat.le_refl k⟩
 refine WpC.seq (WpC.regionL ?_)
 refine L.assign hF rfl rfl rfl (L.nil ?_)
 refine WpC.seq (WpC.seq (WpC.regionL ?_))
 refine L.move hF rfl rfl rfl ?_
 refine L.lenR (xs := a0) (e := eTimpl_Rule) Try.underlying28 hF rfl rfl rfl rfl ?_
 refine L.move hF rfl rfl rfl (L.nil ?_)
 refine WpC.block ?_
 refine WpC.loopL (P := Try.prog) (fun n σ => ∃ v34 : List Timpl_Rule, ∃ v35 : Int, ∃ v36 : Int, n ≤ K ∧ Fslices_IndexFunc_Rule__impl_RulesOk_1.l2 n v34 v35 v36 = some r ∧ σ = mkSt [(0, MG.one (Cell.sl g0 (List.map eTimpl_Rule v34))), (1, MG.one (Cell.clo 126 [])), (7, MG.one (cI v35)), (8, MG.one (cI v36))] [] [] 0) k ⟨_, ⟨a0, (a0.length : Int), (0 : Int), by omega, H, rfl⟩, Le.mk [] hm rfl (Sa4 trivial) trivial trivial⟩ ?_
 clear H
 rintro k2 _ ⟨v34, v35, v36, hk2, H, rfl⟩
 cases k2 with
 | zero => cases H
 | succ k2 =>
  rw [Fslices_IndexFunc_Rule__impl_RulesOk_1.l2] at H
  refine WpC.seq (WpC.regionL ?_)
  refine L.bin hF rfl rfl rfl rfl rfl rfl (L.nil ?_)
  refine WpC.seq ?_
  refine WpC.cond rfl (fun hc => ?_) (fun hc => ?_)
  ·replace H := condT hc H
   refine WpC.skip (WpC.seq (WpC.block (WpC.seq (WpC.regionL ?_))))
   refine L.move hF rfl rfl rfl ?_
   refine L.assign hF rfl rfl rfl (L.nil ?_)
   refine WpC.seq (WpC.regionL ?_)
   refine L.move hF rfl rfl rfl ?_
   refine L.move hF rfl rfl rfl ?_
   refine L.move hF rfl rfl rfl ?_
   obtain ⟨b39, hb39, H⟩ := bindS H
   refine L.idxR (xs := v34) (e := eTimpl_Rule) Try.underlying28 info96 hF rfl rfl rfl rfl rfl hb39 rfl rfl ?_
   refine L.loadPe shape96 hF rfl rfl rfl rfl rfl ?_
   obtain ⟨r40, hr40, H⟩ := bindS H
   refine L.call [false] [] [] 0 hF rfl rfl rfl ent126 rfl rfl rfl rfl rfl (Fimpl_RulesOk_1_gives k2 g0 b39 r40 hr40) rfl (L.nil ?_)
   refine WpC.cond rfl (fun hc => ?_) (fun hc => ?_)
   ·replace H := condT hc H
    refine WpC.seq (WpC.regionL ?_)
    refine L.move hF rfl rfl rfl ?_
    refine L.assign hF rfl rfl rfl (L.nil ?_)
    refine WpC.ret ?_
    cases H
    exact Leaves.ret rfl rfl rfl ⟨rfl, rfl⟩
   ·replace H := condF hc H
    refine WpC.skip (WpC.regionL ?_)
    refine L.bin hF rfl rfl rfl rfl rfl rfl ?_
    refine L.move hF rfl rfl rfl (L.nil ?_)
    exact ⟨k2, _, by omega, ⟨v34, v35, (IntKind.i64.wrap (v36 + (1 : Int))), by omega, H, rfl⟩, Le.mk [] hm rfl (Sa4 trivial) trivial trivial⟩
  ·replace H := condF hc H
   refine WpC.exit (WpC.seq (WpC.regionL ?_))
   refine L.assign hF rfl rfl rfl (L.nil ?_)
   refine WpC.ret ?_
   cases H
   exact Leaves.ret rfl rfl rfl ⟨rfl, rfl⟩
/-! ### Fslices_ContainsFunc_Rule__impl_RulesOk_1 -/
def Fslices_ContainsFunc_Rule__impl_RulesOk_1 (k : Nat) (a0 : List Timpl_Rule) : Option Bool := (Fslices_IndexFunc_Rule__impl_RulesOk_1 k a0).bind fun r1 => some (decide (r1 ≥ (0 : Int)))
theorem ent125 : MG.Enters Try.prog 125 := ⟨Try.f125, Try.func125, rfl, by decide⟩
set_option maxHeartbeats 8000000 in
set_option maxRecDepth 100000 in
theorem Fslices_ContainsFunc_Rule__impl_RulesOk_1_gives (k : Nat) (g0 : Bool) (a0 : List Timpl_Rule) (r : Bool) (H : Fslices_ContainsFunc_Rule__impl_RulesOk_1 k a0 = some r) : Gives Try.prog 125 [V.one (Cell.sl g0 (List.map eTimpl_Rule a0)), V.one (Cell.clo 126 [])] [] [V.one (cL r)] [] := by
 refine Gives.intro Try.func125 rfl rfl rfl rfl ?_
 intro F hF hm
 unfold Fslices_ContainsFunc_Rule__impl_RulesOk_1 at H
 obtain ⟨K, hK⟩ : ∃ K, k ≤ K := ⟨k, Nat.le_refl k⟩
 refine WpC.seq (WpC.regionL ?_)
 refine L.assign hF rfl rfl rfl (L.nil ?_)
 refine WpC.seq (WpC.regionL ?_)
 refine L.move hF rfl rfl rfl ?_
 refine L.move hF rfl rfl rfl ?_
 obtain ⟨r1, hr1, H⟩ := bindS H
 refine L.call [false, false] [] [] 2 hF rfl rfl rfl ent152 rfl rfl rfl rfl rfl (Fslices_IndexFunc_Rule__impl_RulesOk_1_gives k g0 a0 r1 hr1) rfl ?_
 refine L.bin hF rfl rfl rfl rfl rfl rfl ?_
 refine L.assign hF rfl rfl rfl (L.nil ?_)
 refine WpC.ret ?_
 cases H
 exact Leaves.ret rfl rfl rfl ⟨rfl, rfl⟩
/-! ### Fimpl_RulesOk -/
def Fimpl_RulesOk (k : Nat) (a0 : List Timpl_Rule) : Option Bool := cond (decide ((a0.length : Int) ≤ (20 : Int))) ((Fslices_ContainsFunc_Rule__impl_RulesOk_1 k a0).bind fun r2 => some (!r2)) (some false)
theorem ent63 : MG.Enters Try.prog 63 := ⟨Try.f63, Try.func63, rfl, by decide⟩
set_option maxHeartbeats 8000000 in
set_option maxRecDepth 100000 in
theorem Fimpl_RulesOk_gives (k : Nat) (g0 : Bool) (a0 : List Timpl_Rule) (r : Bool) (H : Fimpl_RulesOk k a0 = some r) : Gives Try.prog 63 [V.one (Cell.sl g0 (List.map eTimpl_Rule a0))] [] [V.one (cL r)] [] := by
 refine Gives.intro Try.func63 rfl rfl rfl rfl ?_
 intro F hF hm
 unfold Fimpl_RulesOk at H
 obtain ⟨K, hK⟩ : ∃ K, k ≤ K := ⟨k, Nat.le_refl k⟩
 refine WpC.seq (WpC.regionL ?_)
 refine L.assign hF rfl rfl rfl (L.nil ?_)
 refine WpC.seq (WpC.regionL ?_)
 refine L.move hF rfl rfl rfl ?_
 refine L.lenR (xs := a0) (e := eTimpl_Rule) Try.underlying28 hF rfl rfl rfl rfl ?_
 refine L.bin hF rfl rfl rfl rfl rfl rfl ?_
 refine L.move hF rfl rfl rfl ?_
 refine L.split (fun hc => ?_) (fun hc => ?_)
 ·replace H := condT hc H
  refine L.move hF rfl rfl rfl ?_
  obtain ⟨r2, hr2, H⟩ := bindS H
  refine L.call [false, false] [] [] 1 hF rfl rfl rfl ent125 rfl rfl rfl rfl rfl (Fslices_ContainsFunc_Rule__impl_RulesOk_1_gives k g0 a0 r2 hr2) rfl ?_
  refine L.not hF rfl rfl rfl ?_
  refine L.pick hF rfl rfl rfl rfl ?_
  refine L.assign hF rfl rfl rfl (L.nil ?_)
  refine WpC.ret ?_
  cases H
  exact Leaves.ret rfl rfl rfl ⟨rfl, rfl⟩
 ·replace H := condF hc H
  refine L.off hF rfl rfl ?_
  refine L.off hF rfl rfl ?_
  refine L.off hF rfl rfl ?_
  refine L.pick hF rfl rfl rfl rfl ?_
  refine L.assign hF rfl rfl rfl (L.nil ?_)
  refine WpC.ret ?_
  cases H
  exact Leaves.ret rfl rfl rfl ⟨rfl, rfl⟩
/-! ### Fimpl_copyInts -/
def Fimpl_copyInts (k : Nat) (a0 : List Int) : Option (List Int) := cond (decide ((2 * (([] : List Int).length + a0.length) + 192) * 8 ≤ 281474976710656)) (some (([] : List Int) ++ a0)) none
theorem ent133 : MG.Enters Try.prog 133 := ⟨Try.f133, Try.func133, rfl, by decide⟩
set_option maxHeartbeats 8000000 in
set_option maxRecDepth 100000 in
theorem Fimpl_copyInts_gives (k : Nat) (g0 : Bool) (a0 : List Int) (r : List Int) (H : Fimpl_copyInts k a0 = some r) : Gives Try.prog 133 [V.one (Cell.sl g0 (List.map eI a0))] [] [V.one (Cell.ow 1 (List.map eI r))] [] := by
 refine Gives.intro Try.func133 rfl rfl rfl rfl ?_
 intro F hF hm
 unfold Fimpl_copyInts at H
 obtain ⟨K, hK⟩ : ∃ K, k ≤ K := ⟨k, Nat.le_refl k⟩
 refine WpC.seq (WpC.regionL ?_)
 refine L.assign hF rfl rfl rfl (L.nil ?_)
 refine WpC.seq (WpC.regionL ?_)
 refine L.move hF rfl rfl rfl ?_
 obtain ⟨h1, H⟩ := condG H
 refine L.append (xs := ([] : List Int)) (ys := a0) (e := eI) 1 Try.underlying39 info3 rfl rfl hF rfl rfl rfl rfl rfl rfl rfl rfl (fun _ => rfl) (fun _ _ h1 _ => by cases h1) ⟨_, Try.underlying39⟩ (of_decide_eq_true h1) rfl rfl ?_
 refine L.assign hF rfl rfl rfl (L.nil ?_)
 refine WpC.ret ?_
 cases H
 exact Leaves.ret rfl rfl rfl ⟨rfl, rfl⟩
/-! ### Fslices_Sort_int (shelf) -/
theorem ent166 : MG.Enters Try.prog 166 := ⟨Try.f166, Try.func166, rfl, by decide⟩
/-! ### Fslices_Compact_int (shelf) -/
theorem ent167 : MG.Enters Try.prog 167 := ⟨Try.f167, Try.func167, rfl, by decide⟩
/-! ### Fimpl_risen -/
def Fimpl_risen (k : Nat) (a0 : List Int) : Option (List Int) := (Fslices_Sort_int k a0).bind fun r1 => (Fslices_Compact_int k r1).bind fun r2 => some r2
theorem ent157 : MG.Enters Try.prog 157 := ⟨Try.f157, Try.func157, rfl, by decide⟩
set_option maxHeartbeats 8000000 in
set_option maxRecDepth 100000 in
theorem Fimpl_risen_gives (k : Nat) (a0 : List Int) (r : List Int) (H : Fimpl_risen k a0 = some r) : Gives Try.prog 157 [V.one (Cell.ow 1 (List.map eI a0))] [] [V.one (Cell.ow 1 (List.map eI r))] [] := by
 refine Gives.intro Try.func157 rfl rfl rfl rfl ?_
 intro F hF hm
 unfold Fimpl_risen at H
 obtain ⟨K, hK⟩ : ∃ K, k ≤ K := ⟨k, Nat.le_refl k⟩
 refine WpC.seq (WpC.regionL ?_)
 refine L.assign hF rfl rfl rfl (L.nil ?_)
 refine WpC.seq (WpC.regionL ?_)
 refine L.move hF rfl rfl rfl ?_
 obtain ⟨r1, hr1, H⟩ := bindS H
 refine L.callB [true] [] [] 1 [0] hF rfl rfl rfl ent166 rfl rfl rfl rfl rfl (Fslices_Sort_int_gives k  a0 r1 hr1) rfl rfl rfl (L.nil ?_)
 refine WpC.seq (WpC.regionL ?_)
 refine L.move hF rfl rfl rfl ?_
 obtain ⟨r2, hr2, H⟩ := bindS H
 refine L.call [true] [] [] 1 hF rfl rfl rfl ent167 rfl rfl rfl rfl rfl (Fslices_Compact_int_gives k  r1 r2 hr2) rfl ?_
 refine L.assign hF rfl rfl rfl (L.nil ?_)
 refine WpC.ret ?_
 cases H
 exact Leaves.ret rfl rfl rfl ⟨rfl, rfl⟩
/-! ### Fslices_Index_int -/
def Fslices_Index_int.l2 : Nat → (List Int) → Int → Int → Int → Option Int
 | 0, _, _, _, _ => none
 | k2 + 1, v29, v30, v31, v32 => cond (decide (v32 < v31)) ((at? v29 v32).bind fun b34 => cond (v30 == b34) (some v32) ((Fslices_Index_int.l2 k2) v29 v30 v31 (IntKind.i64.wrap (v32 + (1 : Int))))) (some (-1 : Int))
def Fslices_Index_int (k : Nat) (a0 : List Int) (a1 : Int) : Option Int := Fslices_Index_int.l2 k a0 a1 (a0.length : Int) (0 : Int)
theorem ent168 : MG.Enters Try.prog 168 := ⟨Try.f168, Try.func168, rfl, by decide⟩
set_option maxHeartbeats 8000000 in
set_option maxRecDepth 100000 in
theorem Fslices_Index_int_gives (k : Nat) (g0 : Bool) (a0 : List Int) (a1 : Int) (r : Int) (H : Fslices_Index_int k a0 a1 = some r) : Gives Try.prog 168 [V.one (Cell.sl g0 (List.map eI a0)), V.one (cI a1)] [] [V.one (cI r)] [] := by
 refine Gives.intro Try.func168 rfl rfl rfl rfl ?_
 intro F hF hm
 unfold Fslices_Index_int at H
 obtain ⟨K, hK⟩ : ∃ K, k ≤ K := ⟨k, Nat.le_refl k⟩
 refine WpC.seq (WpC.regionL ?_)
 refine L.assign hF rfl rfl rfl (L.nil ?_)
 refine WpC.seq (WpC.seq (WpC.regionL ?_))
 refine L.move hF rfl rfl rfl ?_
 refine L.lenR (xs := a0) (e := eI) Try.underlying39 hF rfl rfl rfl rfl ?_
 refine L.move hF rfl rfl rfl (L.nil ?_)
 refine WpC.block ?_
 refine WpC.loopL (P := Try.prog) (fun n σ => ∃ v29 : List Int, ∃ v30 : Int, ∃ v31 : Int, ∃ v32 : Int, n ≤ K ∧ Fslices_Index_int.l2 n v29 v30 v31 v32 = some r ∧ σ = mkSt [(0, MG.one (Cell.sl g0 (List.map eI v29))), (1, MG.one (cI v30)), (7, MG.one (cI v31)), (8, MG.one (cI v32))] [] [] 0) k ⟨_, ⟨a0, a1, (a0.length : Int), (0 : Int), by omega, H, rfl⟩, Le.mk [] hm rfl (Sa4 trivial) trivial trivial⟩ ?_
 clear H
 rintro k2 _ ⟨v29, v30, v31, v32, hk2, H, rfl⟩
 cases k2 with
 | zero => cases H
 | succ k2 =>
  rw [Fslices_Index_int.l2] at H
  refine WpC.seq (WpC.regionL ?_)
  refine L.bin hF rfl rfl rfl rfl rfl rfl (L.nil ?_)
  refine WpC.seq ?_
  refine WpC.cond rfl (fun hc => ?_) (fun hc => ?_)
  ·replace H := condT hc H
   refine WpC.skip (WpC.seq (WpC.block (WpC.seq (WpC.regionL ?_))))
   refine L.move hF rfl rfl rfl ?_
   refine L.assign hF rfl rfl rfl (L.nil ?_)
   refine WpC.seq (WpC.regionL ?_)
   refine L.move hF rfl rfl rfl ?_
   refine L.move hF rfl rfl rfl ?_
   refine L.move hF rfl rfl rfl ?_
   obtain ⟨b34, hb34, H⟩ := bindS H
   refine L.idxR (xs := v29) (e := eI) Try.underlying39 info3 hF rfl rfl rfl rfl rfl hb34 rfl rfl ?_
   refine L.loadPe shape3 hF rfl rfl rfl rfl rfl ?_
   refine L.bin hF rfl rfl rfl rfl rfl rfl (L.nil ?_)
   refine WpC.cond rfl (fun hc => ?_) (fun hc => ?_)
   ·replace H := condT hc H
    refine WpC.seq (WpC.regionL ?_)
    refine L.move hF rfl rfl rfl ?_
    refine L.assign hF rfl rfl rfl (L.nil ?_)
    refine WpC.ret ?_
    cases H
    exact Leaves.ret rfl rfl rfl ⟨rfl, rfl⟩
   ·replace H := condF hc H
    refine WpC.skip (WpC.regionL ?_)
    refine L.bin hF rfl rfl rfl rfl rfl rfl ?_
    refine L.move hF rfl rfl rfl (L.nil ?_)
    exact ⟨k2, _, by omega, ⟨v29, v30, v31, (IntKind.i64.wrap (v32 + (1 : Int))), by omega, H, rfl⟩, Le.mk [] hm rfl (Sa4 trivial) trivial trivial⟩
  ·replace H := condF hc H
   refine WpC.exit (WpC.seq (WpC.regionL ?_))
   refine L.assign hF rfl rfl rfl (L.nil ?_)
   refine WpC.ret ?_
   cases H
   exact Leaves.ret rfl rfl rfl ⟨rfl, rfl⟩
/-! ### Fslices_Contains_int -/
def Fslices_Contains_int (k : Nat) (a0 : List Int) (a1 : Int) : Option Bool := (Fslices_Index_int k a0 a1).bind fun r1 => some (decide (r1 ≥ (0 : Int)))
theorem ent158 : MG.Enters Try.prog 158 := ⟨Try.f158, Try.func158, rfl, by decide⟩
set_option maxHeartbeats 8000000 in
set_option maxRecDepth 100000 in
theorem Fslices_Contains_int_gives (k : Nat) (g0 : Bool) (a0 : List Int) (a1 : Int) (r : Bool) (H : Fslices_Contains_int k a0 a1 = some r) : Gives Try.prog 158 [V.one (Cell.sl g0 (List.map eI a0)), V.one (cI a1)] [] [V.one (cL r)] [] := by
 refine Gives.intro Try.func158 rfl rfl rfl rfl ?_
 intro F hF hm
 unfold Fslices_Contains_int at H
 obtain ⟨K, hK⟩ : ∃ K, k ≤ K := ⟨k, Nat.le_refl k⟩
 refine WpC.seq (WpC.regionL ?_)
 refine L.assign hF rfl rfl rfl (L.nil ?_)
 refine WpC.seq (WpC.regionL ?_)
 refine L.move hF rfl rfl rfl ?_
 refine L.move hF rfl rfl rfl ?_
 obtain ⟨r1, hr1, H⟩ := bindS H
 refine L.call [false, false] [] [] 2 hF rfl rfl rfl ent168 rfl rfl rfl rfl rfl (Fslices_Index_int_gives k g0 a0 a1 r1 hr1) rfl ?_
 refine L.bin hF rfl rfl rfl rfl rfl rfl ?_
 refine L.assign hF rfl rfl rfl (L.nil ?_)
 refine WpC.ret ?_
 cases H
 exact Leaves.ret rfl rfl rfl ⟨rfl, rfl⟩
/-! ### Fimpl_both -/
def Fimpl_both.j5 (k : Nat) (v55 : List Int) (v56 : Timpl_Rule) (v57 : Int) : Option Timpl_Rule := some (⟨v56.Kind, v55, v57⟩ : Timpl_Rule)
def Fimpl_both.j9 (cl8 : (List Int) → Timpl_Rule → Int → Int → Int → Timpl_Rule → Option Timpl_Rule) (k : Nat) (v103 : List Int) (v104 : Timpl_Rule) (v105 : Int) (v106 : Int) (v107 : Int) (v108 : Timpl_Rule) : Option Timpl_Rule := cl8 v103 v104 v105 (IntKind.i64.wrap (v106 + (1 : Int))) v107 v108
def Fimpl_both.l8 : Nat → (List Int) → Timpl_Rule → Int → Int → Int → Timpl_Rule → Option Timpl_Rule
 | 0, _, _, _, _, _, _ => none
 | k8 + 1, v94, v95, v96, v97, v98, v99 => cond (decide (v97 < v96)) ((at? v95.Set v97).bind fun b109 => (Fslices_Contains_int k8 v99.Set b109).bind fun r110 => cond r110 (cond (decide ((2 * (v94.length + ([b109] : List Int).length) + 192) * 8 ≤ 281474976710656)) (Fimpl_both.j9 (Fimpl_both.l8 k8) k8 (v94 ++ ([b109] : List Int)) v95 v96 v97 v98 v99) none) (Fimpl_both.j9 (Fimpl_both.l8 k8) k8 v94 v95 v96 v97 v98 v99)) (Fimpl_both.j5 k8 v94 v95 v98)
def Fimpl_both (k : Nat) (a0 : Timpl_Rule) (a1 : Timpl_Rule) : Option Timpl_Rule := cond (a0.Kind == (3 : Int)) ((Fimpl_copyInts k a0.Set).bind fun r58 => cond (decide ((2 * (r58.length + a1.Set.length) + 192) * 8 ≤ 281474976710656)) ((Fimpl_risen k (r58 ++ a1.Set)).bind fun r60 => Fimpl_both.j5 k r60 a0 (if a1.N < a0.N then a1.N else a0.N)) none) (Fimpl_both.l8 k ([] : List Int) a0 (a0.Set.length : Int) (0 : Int) (if a1.N < a0.N then a1.N else a0.N) a1)
theorem ent132 : MG.Enters Try.prog 132 := ⟨Try.f132, Try.func132, rfl, by decide⟩
set_option maxHeartbeats 8000000 in
set_option maxRecDepth 100000 in
theorem Fimpl_both_gives (k : Nat) (g0 : Bool) (g1 : Bool) (a0 : Timpl_Rule) (a1 : Timpl_Rule) (r : Timpl_Rule) (H : Fimpl_both k a0 a1 = some r) : Gives Try.prog 132 [V.agg [cI a0.Kind, Cell.sl g0 (List.map eI a0.Set), cI a0.N], V.agg [cI a1.Kind, Cell.sl g1 (List.map eI a1.Set), cI a1.N]] [] [V.agg [cI r.Kind, Cell.ow 1 (List.map eI r.Set), cI r.N]] [] := by
 refine Gives.intro Try.func132 rfl rfl rfl rfl ?_
 intro F hF hm
 unfold Fimpl_both at H
 obtain ⟨K, hK⟩ : ∃ K, k ≤ K := ⟨k, Nat.le_refl k⟩
 refine WpC.seq (WpC.regionL ?_)
 refine L.box 6 hF rfl rfl rfl rfl ?_
 refine L.box 7 hF rfl rfl rfl rfl ?_
 refine L.alloc 8 info96 rfl hF rfl rfl rfl rfl (L.nil ?_)
 refine WpC.seq (WpC.regionL ?_)
 refine L.fieldAddr Try.underlying96 rfl info3 rfl hF rfl rfl rfl rfl rfl ?_
 refine L.loadPtr shape3 hF rfl rfl rfl rfl rfl rfl ?_
 refine L.fieldAddr Try.underlying96 rfl info3 rfl hF rfl rfl rfl rfl rfl ?_
 refine L.loadPtr shape3 hF rfl rfl rfl rfl rfl rfl ?_
 refine L.minI hF rfl rfl rfl rfl ?_
 refine L.fieldAddr Try.underlying96 rfl info3 rfl hF rfl rfl rfl rfl rfl ?_
 refine L.storePtr shape3 hF rfl rfl rfl rfl rfl rfl rfl (L.nil ?_)
 refine WpC.seq (WpC.regionL ?_)
 refine L.buildSlice (e := eI) 9 ([] : List Int) Try.underlying39 info3 rfl rfl rfl hF rfl rfl rfl rfl rfl rfl rfl rfl ?_
 refine L.assign hF rfl rfl rfl (L.nil ?_)
 refine WpC.join (fun σ => ∃ kj5 : Nat, ∃ v55 : List Int, ∃ v56 : Timpl_Rule, ∃ v57 : Int, kj5 ≤ K ∧ Fimpl_both.j5 kj5 v55 v56 v57 = some r ∧ σ = mkSt [(2, MG.one (Cell.ptr 0 0)), (4, MG.one (Cell.ptr 1 0)), (5, MG.one (Cell.own 2))] [(2, ⟨1, List.map eI v55⟩)] [(0, [cI v56.Kind, Cell.sl g0 (List.map eI v56.Set), cI v57]), (1, [cI (0 : Int), Cell.nil, cI (0 : Int)])] 3) ?_ ?_
 ·rintro _ ⟨kj5, v55, v56, v57, hkj5, H, rfl⟩
  unfold Fimpl_both.j5 at H
  refine WpC.seq (WpC.regionL ?_)
  refine L.move hF rfl rfl rfl ?_
  refine L.fieldAddr Try.underlying96 rfl info39 rfl hF rfl rfl rfl rfl rfl ?_
  refine L.storePtr shape39 hF rfl rfl rfl rfl rfl rfl rfl (L.nil ?_)
  refine WpC.seq (WpC.regionL ?_)
  refine L.loadPtr shape96 hF rfl rfl rfl rfl rfl rfl ?_
  refine L.storePtr shape96 hF rfl rfl rfl rfl rfl rfl rfl (L.nil ?_)
  refine WpC.ret ?_
  cases H
  exact Leaves.ret rfl rfl rfl ⟨rfl, rfl⟩
 ·refine WpC.seq (WpC.regionL ?_)
  refine L.fieldAddr Try.underlying96 rfl info3 rfl hF rfl rfl rfl rfl rfl ?_
  refine L.loadPtr shape3 hF rfl rfl rfl rfl rfl rfl ?_
  refine L.bin hF rfl rfl rfl rfl rfl rfl (L.nil ?_)
  refine WpC.cond rfl (fun hc => ?_) (fun hc => ?_)
  ·replace H := condT hc H
   obtain ⟨r58, hr58, H⟩ := bindS H
   obtain ⟨h59, H⟩ := condG H
   obtain ⟨r60, hr60, H⟩ := bindS H
   refine A.begin mixed rfl rfl ?_
   intro W hI hO
   have n31 : W 3 #[true, true, true, true, true, false, false, false] (mkSt [(2, MG.one (Cell.ptr 0 0)), (4, MG.one (Cell.ptr 1 0)), (5, MG.one (Cell.own 2)), (20, MG.one (Cell.own 3)), (22, MG.one (Cell.sl g1 (List.map eI a1.Set)))] [(2, ⟨1, List.map eI ([] : List Int)⟩), (3, ⟨1, List.map eI r58⟩)] [(0, [cI a0.Kind, Cell.sl g0 (List.map eI a0.Set), cI (if a1.N < a0.N then a1.N else a0.N)]), (1, [cI (0 : Int), Cell.nil, cI (0 : Int)])] 4) := by
    refine hI _ _ _ ?_
    refine A.all [5] (by kernel_rfl) rfl ⟨⟨_, rfl, ?_⟩, trivial⟩
    refine L.append (xs := r58) (ys := a1.Set) (e := eI) 4 Try.underlying39 info3 rfl rfl hF rfl rfl rfl rfl rfl rfl rfl rfl (fun _ => rfl) (fun _ _ h1 h2 => by cases h1; cases h2; rfl) ⟨_, Try.underlying39⟩ (of_decide_eq_true h59) rfl rfl (L.nil ?_)
    refine A.all [6] (by kernel_rfl) rfl ⟨⟨_, rfl, ?_⟩, trivial⟩
    refine L.call [true] [] [] 5 hF rfl rfl rfl ent157 rfl rfl rfl rfl rfl (Fimpl_risen_gives k  (r58 ++ a1.Set) r60 hr60) rfl (L.nil ?_)
    refine Atk 7 rfl (Ca.assign) (fun Q0 k0 => L.assign hF rfl rfl rfl (L.nil k0)) ?_
    refine A.le (τ := mkSt [(2, MG.one (Cell.ptr 0 0)), (4, MG.one (Cell.ptr 1 0)), (5, MG.one (Cell.own 2))] [(2, ⟨1, List.map eI r60⟩)] [(0, [cI a0.Kind, Cell.sl g0 (List.map eI a0.Set), cI (if a1.N < a0.N then a1.N else a0.N)]), (1, [cI (0 : Int), Cell.nil, cI (0 : Int)])] 3) (Le.mk [(0, 0), (1, 1), (2, 5)] hm rfl (Sa2 (Sa1 trivial)) (Ra1 trivial) (Ba2 trivial)) ?_
    refine A.done (by kernel_rfl) ?_
    exact ⟨_, ⟨k, r60, a0, (if a1.N < a0.N then a1.N else a0.N), by omega, H, rfl⟩, Le.mk [(0, 0), (1, 1), (2, 2)] hm rfl (Sa2 (Sa1 trivial)) (Ra1 trivial) (Ba2 trivial)⟩
   have n27 : W 4 #[true, true, false, true, true, false, false, false] (mkSt [(2, MG.one (Cell.ptr 0 0)), (4, MG.one (Cell.ptr 1 0)), (5, MG.one (Cell.own 2)), (19, MG.one (Cell.sl g0 (List.map eI a0.Set))), (22, MG.one (Cell.sl g1 (List.map eI a1.Set)))] [(2, ⟨1, List.map eI ([] : List Int)⟩)] [(0, [cI a0.Kind, Cell.sl g0 (List.map eI a0.Set), cI (if a1.N < a0.N then a1.N else a0.N)]), (1, [cI (0 : Int), Cell.nil, cI (0 : Int)])] 3) := by
    refine hI _ _ _ ?_
    refine A.all [2] (by kernel_rfl) rfl ⟨⟨_, rfl, ?_⟩, trivial⟩
    refine L.call [false] [] [] 3 hF rfl rfl rfl ent133 rfl rfl rfl rfl rfl (Fimpl_copyInts_gives k g0 a0.Set r58 hr58) rfl (L.nil ?_)
    exact A.on (hO _ _ _ n31) (Le.mk [(0, 0), (1, 1), (2, 2), (3, 3)] hm rfl (Sa4 (Sa1 trivial)) (Ra2 trivial) (Ba2 trivial))
   refine hI _ _ _ ?_
   refine Atk 0 rfl (Ca.fieldAddr Try.underlying96 rfl info39 rfl) (fun Q0 k0 => L.fieldAddr Try.underlying96 rfl info39 rfl hF rfl rfl rfl rfl rfl (L.nil k0)) ?_
   refine Atk 3 rfl (Ca.fieldAddr Try.underlying96 rfl info39 rfl) (fun Q0 k0 => L.fieldAddr Try.underlying96 rfl info39 rfl hF rfl rfl rfl rfl rfl (L.nil k0)) ?_
   refine A.all [1, 4] (by kernel_rfl) rfl ⟨⟨_, rfl, ?_⟩, ⟨_, rfl, ?_⟩, trivial⟩
   ·refine L.loadPtr shape39 hF rfl rfl rfl rfl rfl rfl (L.nil ?_)
    refine A.all [2, 4] (by kernel_rfl) rfl ⟨⟨_, rfl, ?_⟩, ⟨_, rfl, ?_⟩, trivial⟩
    ·refine L.call [false] [] [] 10 hF rfl rfl rfl ent133 rfl rfl rfl rfl rfl (Fimpl_copyInts_gives k g0 a0.Set r58 hr58) rfl (L.nil ?_)
     refine A.all [4] (by kernel_rfl) rfl ⟨⟨_, rfl, ?_⟩, trivial⟩
     refine L.loadPtr shape39 hF rfl rfl rfl rfl rfl rfl (L.nil ?_)
     exact A.on (hO _ _ _ n31) (Le.mk [(0, 6), (1, 8), (2, 9), (3, 10)] hm rfl (Sa4 (Sa1 trivial)) (Ra2 trivial) (Ba2 trivial))
    ·refine L.loadPtr shape39 hF rfl rfl rfl rfl rfl rfl (L.nil ?_)
     exact A.on (hO _ _ _ n27) (Le.mk [(0, 6), (1, 8), (2, 9)] hm rfl (Sa4 (Sa1 trivial)) (Ra1 trivial) (Ba2 trivial))
   ·refine L.loadPtr shape39 hF rfl rfl rfl rfl rfl rfl (L.nil ?_)
    refine A.all [1] (by kernel_rfl) rfl ⟨⟨_, rfl, ?_⟩, trivial⟩
    refine L.loadPtr shape39 hF rfl rfl rfl rfl rfl rfl (L.nil ?_)
    exact A.on (hO _ _ _ n27) (Le.mk [(0, 6), (1, 8), (2, 9)] hm rfl (Sa4 (Sa1 trivial)) (Ra1 trivial) (Ba2 trivial))
  ·replace H := condF hc H
   refine WpC.seq (WpC.regionL ?_)
   refine L.fieldAddr Try.underlying96 rfl info39 rfl hF rfl rfl rfl rfl rfl ?_
   refine L.loadPtr shape39 hF rfl rfl rfl rfl rfl rfl ?_
   refine L.lenR (xs := a0.Set) (e := eI) Try.underlying39 hF rfl rfl rfl rfl ?_
   refine L.move hF rfl rfl rfl (L.nil ?_)
   refine WpC.block ?_
   refine WpC.loopL (P := Try.prog) (fun n σ => ∃ v94 : List Int, ∃ v95 : Timpl_Rule, ∃ v96 : Int, ∃ v97 : Int, ∃ v98 : Int, ∃ v99 : Timpl_Rule, n ≤ K ∧ Fimpl_both.l8 n v94 v95 v96 v97 v98 v99 = some r ∧ σ = mkSt [(2, MG.one (Cell.ptr 0 0)), (3, MG.one (Cell.ptr 1 0)), (4, MG.one (Cell.ptr 2 0)), (5, MG.one (Cell.own 3)), (26, MG.one (Cell.sl g0 (List.map eI v95.Set))), (27, MG.one (cI v96)), (28, MG.one (cI v97))] [(3, ⟨1, List.map eI v94⟩)] [(0, [cI v95.Kind, Cell.sl g0 (List.map eI v95.Set), cI v98]), (1, (bTimpl_Rule g1 v99)), (2, [cI (0 : Int), Cell.nil, cI (0 : Int)])] 4) k ⟨_, ⟨([] : List Int), a0, (a0.Set.length : Int), (0 : Int), (if a1.N < a0.N then a1.N else a0.N), a1, by omega, H, rfl⟩, Le.mk [(0, 6), (1, 7), (2, 8), (3, 9)] hm rfl (Sa4 (Sa2 (Sa1 trivial))) (Ra1 trivial) (Ba2 (Ba1 trivial))⟩ ?_
   clear H
   rintro k8 _ ⟨v94, v95, v96, v97, v98, v99, hk8, H, rfl⟩
   cases k8 with
   | zero => cases H
   | succ k8 =>
    rw [Fimpl_both.l8] at H
    refine WpC.seq (WpC.regionL ?_)
    refine L.bin hF rfl rfl rfl rfl rfl rfl (L.nil ?_)
    refine WpC.seq ?_
    refine WpC.cond rfl (fun hc => ?_) (fun hc => ?_)
    ·replace H := condT hc H
     refine WpC.skip ?_
     refine WpC.join (fun σ => ∃ kj9 : Nat, ∃ v103 : List Int, ∃ v104 : Timpl_Rule, ∃ v105 : Int, ∃ v106 : Int, ∃ v107 : Int, ∃ v108 : Timpl_Rule, kj9 ≤ K ∧ Fimpl_both.j9 (Fimpl_both.l8 k8) kj9 v103 v104 v105 v106 v107 v108 = some r ∧ σ = mkSt [(2, MG.one (Cell.ptr 0 0)), (3, MG.one (Cell.ptr 1 0)), (4, MG.one (Cell.ptr 2 0)), (5, MG.one (Cell.own 3)), (26, MG.one (Cell.sl g0 (List.map eI v104.Set))), (27, MG.one (cI v105)), (28, MG.one (cI v106))] [(3, ⟨1, List.map eI v103⟩)] [(0, [cI v104.Kind, Cell.sl g0 (List.map eI v104.Set), cI v107]), (1, (bTimpl_Rule g1 v108)), (2, [cI (0 : Int), Cell.nil, cI (0 : Int)])] 4) ?_ ?_
     ·rintro _ ⟨kj9, v103, v104, v105, v106, v107, v108, hkj9, H, rfl⟩
      unfold Fimpl_both.j9 at H
      refine WpC.regionL ?_
      refine L.bin hF rfl rfl rfl rfl rfl rfl ?_
      refine L.move hF rfl rfl rfl (L.nil ?_)
      exact ⟨k8, _, by omega, ⟨v103, v104, v105, (IntKind.i64.wrap (v106 + (1 : Int))), v107, v108, by omega, H, rfl⟩, Le.mk [(0, 0), (1, 1), (2, 2), (3, 3)] hm rfl (Sa4 (Sa2 (Sa1 trivial))) (Ra1 trivial) (Ba2 (Ba1 trivial))⟩
     ·refine WpC.block (WpC.seq (WpC.regionL ?_))
      obtain ⟨b109, hb109, H⟩ := bindS H
      refine L.idxR (xs := v95.Set) (e := eI) Try.underlying39 info3 hF rfl rfl rfl rfl rfl hb109 rfl rfl ?_
      refine L.loadPe shape3 hF rfl rfl rfl rfl rfl ?_
      refine L.assign hF rfl rfl rfl (L.nil ?_)
      refine WpC.seq (WpC.regionL ?_)
      refine L.fieldAddr Try.underlying96 rfl info39 rfl hF rfl rfl rfl rfl rfl ?_
      refine L.loadPtr shape39 hF rfl rfl rfl rfl rfl rfl ?_
      refine L.move hF rfl rfl rfl ?_
      obtain ⟨r110, hr110, H⟩ := bindS H
      refine L.call [false, false] [] [] 4 hF rfl rfl rfl ent158 rfl rfl rfl rfl rfl (Fslices_Contains_int_gives k8 g1 v99.Set b109 r110 hr110) rfl (L.nil ?_)
      refine WpC.cond rfl (fun hc => ?_) (fun hc => ?_)
      ·replace H := condT hc H
       refine WpC.regionL ?_
       refine L.move hF rfl rfl rfl ?_
       refine L.move hF rfl rfl rfl ?_
       refine L.buildSlice (e := eI) 5 ([b109] : List Int) Try.underlying39 info3 rfl rfl rfl hF rfl rfl rfl rfl rfl rfl rfl rfl ?_
       obtain ⟨h111, H⟩ := condG H
       refine L.append (xs := v94) (ys := ([b109] : List Int)) (e := eI) 6 Try.underlying39 info3 rfl rfl hF rfl rfl rfl rfl rfl rfl rfl rfl (fun _ => rfl) (fun _ _ h1 h2 => by cases h1; cases h2; rfl) ⟨_, Try.underlying39⟩ (of_decide_eq_true h111) rfl rfl ?_
       refine L.assign hF rfl rfl rfl (L.nil ?_)
       exact ⟨_, ⟨k8, (v94 ++ ([b109] : List Int)), v95, v96, v97, v98, v99, by omega, H, rfl⟩, Le.mk [(0, 0), (1, 1), (2, 2), (3, 6)] hm rfl (Sa4 (Sa2 (Sa1 trivial))) (Ra1 trivial) (Ba2 (Ba1 trivial))⟩
      ·replace H := condF hc H
       refine WpC.skip ?_
       exact ⟨_, ⟨k8, v94, v95, v96, v97, v98, v99, by omega, H, rfl⟩, Le.mk [(0, 0), (1, 1), (2, 2), (3, 3)] hm rfl (Sa4 (Sa2 (Sa1 trivial))) (Ra1 trivial) (Ba2 (Ba1 trivial))⟩
    ·replace H := condF hc H
     refine WpC.exit ?_
     exact ⟨_, ⟨k8, v94, v95, v98, by omega, H, rfl⟩, Le.mk [(0, 0), (1, 2), (2, 3)] hm rfl (Sa2 (Sa1 trivial)) (Ra1 trivial) (Ba2 trivial)⟩
/-! ### Fimpl_normal -/
def Fimpl_normal.j50 (cl49 : (List Timpl_Rule) → (List Timpl_Rule) → Int → Bool → Int → Int → Option (List Timpl_Rule)) (k : Nat) (v737 : List Timpl_Rule) (v738 : List Timpl_Rule) (v739 : Int) (v740 : Bool) (v741 : Int) (v742 : Int) : Option (List Timpl_Rule) := cl49 v737 v738 v739 v740 v741 (IntKind.i64.wrap (v742 + (1 : Int)))
def Fimpl_normal.l49 (cl42 : (List Timpl_Rule) → (List Timpl_Rule) → Int → Option (List Timpl_Rule)) : Nat → (List Timpl_Rule) → (List Timpl_Rule) → Int → Bool → Int → Int → Option (List Timpl_Rule)
 | 0, _, _, _, _, _, _ => none
 | k49 + 1, v725, v726, v727, v728, v729, v730 => cond (decide (v730 < v729)) ((at? v725 v730).bind fun b743 => cond (b743.Kind != v727) (Fimpl_normal.j50 (Fimpl_normal.l49 cl42 k49) k49 v725 v726 v727 v728 v729 v730) (cond v728 ((at? v726 (IntKind.i64.wrap ((v726.length : Int) - (1 : Int)))).bind fun b744 => (Fimpl_both k49 b744 b743).bind fun r745 => (at? v726 (IntKind.i64.wrap ((v726.length : Int) - (1 : Int)))).bind fun b746 => Fimpl_normal.j50 (Fimpl_normal.l49 cl42 k49) k49 v725 (v726.set ((IntKind.i64.wrap ((v726.length : Int) - (1 : Int))).toNat) r745) v727 v728 v729 v730) ((Fimpl_copyInts k49 b743.Set).bind fun r747 => cond (decide ((2 * (v726.length + ([(⟨v727, r747, b743.N⟩ : Timpl_Rule)] : List Timpl_Rule).length) + 192) * 40 ≤ 281474976710656)) (Fimpl_normal.j50 (Fimpl_normal.l49 cl42 k49) k49 v725 (v726 ++ ([(⟨v727, r747, b743.N⟩ : Timpl_Rule)] : List Timpl_Rule)) v727 true v729 v730) none))) (cl42 v725 v726 (IntKind.i64.wrap (v727 + (1 : Int))))
def Fimpl_normal.l42 : Nat → (List Timpl_Rule) → (List Timpl_Rule) → Int → Option (List Timpl_Rule)
 | 0, _, _, _ => none
 | k42 + 1, v620, v621, v622 => cond (decide (v622 ≤ (5 : Int))) (Fimpl_normal.l49 (Fimpl_normal.l42 k42) k42 v620 v621 v622 false (v620.length : Int) (0 : Int)) (some v621)
def Fimpl_normal (k : Nat) (a0 : List Timpl_Rule) : Option (List Timpl_Rule) := Fimpl_normal.l42 k a0 ([] : List Timpl_Rule) (1 : Int)
theorem ent85 : MG.Enters Try.prog 85 := ⟨Try.f85, Try.func85, rfl, by decide⟩
set_option maxHeartbeats 8000000 in
set_option maxRecDepth 100000 in
theorem Fimpl_normal_gives (k : Nat) (g0 : Bool) (a0 : List Timpl_Rule) (r : List Timpl_Rule) (H : Fimpl_normal k a0 = some r) : Gives Try.prog 85 [V.one (Cell.sl g0 (List.map eTimpl_Rule a0))] [] [V.one (Cell.ow 3 (List.map eTimpl_Rule r))] [] := by
 refine Gives.intro Try.func85 rfl rfl rfl rfl ?_
 intro F hF hm
 unfold Fimpl_normal at H
 obtain ⟨K, hK⟩ : ∃ K, k ≤ K := ⟨k, Nat.le_refl k⟩
 refine WpC.seq (WpC.regionL ?_)
 refine L.assign hF rfl rfl rfl (L.nil ?_)
 refine WpC.seq (WpC.regionL ?_)
 refine L.buildSliceN (e := eTimpl_Rule) 1 1 ([] : List Timpl_Rule) Try.underlying28 info96 rfl rfl rfl hF rfl rfl rfl rfl rfl rfl rfl rfl ?_
 refine L.assign hF rfl rfl rfl (L.nil ?_)
 refine WpC.seq (WpC.seq (WpC.regionL ?_))
 refine L.assign hF rfl rfl rfl (L.nil ?_)
 refine WpC.block ?_
 refine WpC.loopL (P := Try.prog) (fun n σ => ∃ v620 : List Timpl_Rule, ∃ v621 : List Timpl_Rule, ∃ v622 : Int, n ≤ K ∧ Fimpl_normal.l42 n v620 v621 v622 = some r ∧ σ = mkSt [(0, MG.one (Cell.sl g0 (List.map eTimpl_Rule v620))), (3, MG.one (Cell.own 0)), (4, MG.one (cI v622))] [(0, ⟨3, List.map eTimpl_Rule v621⟩)] [] 1) k ⟨_, ⟨a0, ([] : List Timpl_Rule), (1 : Int), by omega, H, rfl⟩, Le.mk [(0, 1)] hm rfl (Sa2 (Sa1 trivial)) (Ra1 trivial) trivial⟩ ?_
 clear H
 rintro k42 _ ⟨v620, v621, v622, hk42, H, rfl⟩
 cases k42 with
 | zero => cases H
 | succ k42 =>
  rw [Fimpl_normal.l42] at H
  refine WpC.seq (WpC.seq (WpC.regionL ?_))
  refine L.move hF rfl rfl rfl ?_
  refine L.bin hF rfl rfl rfl rfl rfl rfl (L.nil ?_)
  refine WpC.cond rfl (fun hc => ?_) (fun hc => ?_)
  ·replace H := condT hc H
   refine WpC.skip (WpC.seq (WpC.block (WpC.seq (WpC.regionL ?_))))
   refine L.assign hF rfl rfl rfl (L.nil ?_)
   refine WpC.seq (WpC.regionL ?_)
   refine L.move hF rfl rfl rfl ?_
   refine L.lenR (xs := v620) (e := eTimpl_Rule) Try.underlying28 hF rfl rfl rfl rfl ?_
   refine L.move hF rfl rfl rfl (L.nil ?_)
   refine WpC.block ?_
   refine WpC.loopL (P := Try.prog) (fun n σ => ∃ v725 : List Timpl_Rule, ∃ v726 : List Timpl_Rule, ∃ v727 : Int, ∃ v728 : Bool, ∃ v729 : Int, ∃ v730 : Int, n ≤ K ∧ Fimpl_normal.l49 (Fimpl_normal.l42 k42) n v725 v726 v727 v728 v729 v730 = some r ∧ σ = mkSt [(0, MG.one (Cell.sl g0 (List.map eTimpl_Rule v725))), (3, MG.one (Cell.own 0)), (4, MG.one (cI v727)), (5, MG.one (cL v728)), (13, MG.one (Cell.sl g0 (List.map eTimpl_Rule v725))), (14, MG.one (cI v729)), (15, MG.one (cI v730))] [(0, ⟨3, List.map eTimpl_Rule v726⟩)] [] 1) k42 ⟨_, ⟨v620, v621, v622, false, (v620.length : Int), (0 : Int), by omega, H, rfl⟩, Le.mk [(0, 0)] hm rfl (Sa4 (Sa2 (Sa1 trivial))) (Ra1 trivial) trivial⟩ ?_
   clear H
   rintro k49 _ ⟨v725, v726, v727, v728, v729, v730, hk49, H, rfl⟩
   cases k49 with
   | zero => cases H
   | succ k49 =>
    rw [Fimpl_normal.l49] at H
    refine WpC.seq (WpC.regionL ?_)
    refine L.bin hF rfl rfl rfl rfl rfl rfl (L.nil ?_)
    refine WpC.seq ?_
    refine WpC.cond rfl (fun hc => ?_) (fun hc => ?_)
    ·replace H := condT hc H
     refine WpC.skip ?_
     refine WpC.join (fun σ => ∃ kj50 : Nat, ∃ v737 : List Timpl_Rule, ∃ v738 : List Timpl_Rule, ∃ v739 : Int, ∃ v740 : Bool, ∃ v741 : Int, ∃ v742 : Int, kj50 ≤ K ∧ Fimpl_normal.j50 (Fimpl_normal.l49 (Fimpl_normal.l42 k42) k49) kj50 v737 v738 v739 v740 v741 v742 = some r ∧ σ = mkSt [(0, MG.one (Cell.sl g0 (List.map eTimpl_Rule v737))), (3, MG.one (Cell.own 0)), (4, MG.one (cI v739)), (5, MG.one (cL v740)), (13, MG.one (Cell.sl g0 (List.map eTimpl_Rule v737))), (14, MG.one (cI v741)), (15, MG.one (cI v742))] [(0, ⟨3, List.map eTimpl_Rule v738⟩)] [] 1) ?_ ?_
     ·rintro _ ⟨kj50, v737, v738, v739, v740, v741, v742, hkj50, H, rfl⟩
      unfold Fimpl_normal.j50 at H
      refine WpC.regionL ?_
      refine L.bin hF rfl rfl rfl rfl rfl rfl ?_
      refine L.move hF rfl rfl rfl (L.nil ?_)
      exact ⟨k49, _, by omega, ⟨v737, v738, v739, v740, v741, (IntKind.i64.wrap (v742 + (1 : Int))), by omega, H, rfl⟩, Le.mk [(0, 0)] hm rfl (Sa4 (Sa2 (Sa1 trivial))) (Ra1 trivial) trivial⟩
     ·refine WpC.block (WpC.seq (WpC.regionL ?_))
      obtain ⟨b743, hb743, H⟩ := bindS H
      refine L.idxR (xs := v725) (e := eTimpl_Rule) Try.underlying28 info96 hF rfl rfl rfl rfl rfl hb743 rfl rfl ?_
      refine L.loadPe shape96 hF rfl rfl rfl rfl rfl ?_
      refine L.alloc 1 info96 rfl hF rfl rfl rfl rfl ?_
      refine L.storePtr shape96 hF rfl rfl rfl rfl rfl rfl rfl (L.nil ?_)
      refine WpC.block (WpC.seq (WpC.regionL ?_))
      refine L.fieldAddr Try.underlying96 rfl info3 rfl hF rfl rfl rfl rfl rfl ?_
      refine L.loadPtr shape3 hF rfl rfl rfl rfl rfl rfl ?_
      refine L.move hF rfl rfl rfl ?_
      refine L.bin hF rfl rfl rfl rfl rfl rfl ?_
      refine L.assign hF rfl rfl rfl (L.nil ?_)
      refine WpC.cond rfl (fun hc => ?_) (fun hc => ?_)
      ·replace H := condT hc H
       refine WpC.skip ?_
       exact ⟨_, ⟨k49, v725, v726, v727, v728, v729, v730, by omega, H, rfl⟩, Le.mk [(0, 0)] hm rfl (Sa4 (Sa2 (Sa1 trivial))) (Ra1 trivial) trivial⟩
      ·replace H := condF hc H
       refine WpC.seq (WpC.regionL ?_)
       refine L.move hF rfl rfl rfl ?_
       refine L.assign hF rfl rfl rfl (L.nil ?_)
       refine WpC.cond rfl (fun hc => ?_) (fun hc => ?_)
       ·replace H := condT hc H
        obtain ⟨b744, hb744, H⟩ := bindS H
        obtain ⟨r745, hr745, H⟩ := bindS H
        obtain ⟨b746, hb746, H⟩ := bindS H
        refine WpC.out (xs := v726) (e := eTimpl_Rule) (a := b744) 0 ((IntKind.i64.wrap ((v726.length : Int) - (1 : Int))).toNat) 1 2 rfl (at?_get hb744).2 rfl rfl (fun ub744 => ?_)
        refine A.begin mixed rfl rfl ?_
        intro W hI hO
        have n2047 : W 3 #[true, true, true, true, true, true, true, true, true, true, true, false, false, false] (mkStH [(0, MG.one (Cell.sl g0 (List.map eTimpl_Rule v725))), (3, MG.one (Cell.own 0)), (4, MG.one (cI v727)), (5, MG.one (cL v728)), (13, MG.one (Cell.sl g0 (List.map eTimpl_Rule v725))), (14, MG.one (cI v729)), (15, MG.one (cI v730)), (36, MG.one (Cell.own 0)), (39, MG.one (cI (IntKind.i64.wrap ((v726.length : Int) - (1 : Int))))), (45, agg [cI b744.Kind, Cell.own 1, cI b744.N]), (46, agg (bTimpl_Rule g0 b743))] [(0, ⟨3, (List.map eTimpl_Rule v726).set ((IntKind.i64.wrap ((v726.length : Int) - (1 : Int))).toNat) ((eTimpl_Rule b744).set 1 (Cell.raw ub744))⟩), (1, ⟨1, List.map eI b744.Set⟩)] [] 2 [(1, ub744)]) := by
         refine hI _ _ _ ?_
         refine A.all [11] (by kernel_rfl) rfl ⟨⟨_, rfl, ?_⟩, trivial⟩
         refine L.call [false, false] [1] [] 2 hF rfl rfl rfl ent132 rfl rfl rfl rfl rfl (Fimpl_both_gives k49 false g0 b744 b743 r745 hr745) rfl (L.nil ?_)
         refine Atk 12 rfl (Ca.indexAddr) (fun Q0 k0 => L.idxRH (xs := v726) (e := eTimpl_Rule) Try.underlying28 info96 hF rfl rfl rfl rfl rfl hb746 rfl rfl (L.nil k0)) ?_
         refine A.all [13] (by kernel_rfl) rfl ⟨⟨_, rfl, ?_⟩, trivial⟩
         refine L.storeEpH (xs := v726) (e := eTimpl_Rule) (a' := r745) 1 shape96 hF rfl rfl rfl rfl rfl rfl rfl (at?_get hb744).2 rfl rfl ?_
         refine L.nil ?_
         refine A.le (τ := mkSt [(0, MG.one (Cell.sl g0 (List.map eTimpl_Rule v725))), (3, MG.one (Cell.own 0)), (4, MG.one (cI v727)), (5, MG.one (cL v728)), (13, MG.one (Cell.sl g0 (List.map eTimpl_Rule v725))), (14, MG.one (cI v729)), (15, MG.one (cI v730))] [(0, ⟨3, List.map eTimpl_Rule (v726.set ((IntKind.i64.wrap ((v726.length : Int) - (1 : Int))).toNat) r745)⟩)] [] 1) (Le.mk [(0, 0)] hm rfl (Sa4 (Sa2 (Sa1 trivial))) (Ra1 trivial) trivial) ?_
         refine A.done (by kernel_rfl) ?_
         exact ⟨_, ⟨k49, v725, (v726.set ((IntKind.i64.wrap ((v726.length : Int) - (1 : Int))).toNat) r745), v727, v728, v729, v730, by omega, H, rfl⟩, Le.mk [(0, 0)] hm rfl (Sa4 (Sa2 (Sa1 trivial))) (Ra1 trivial) trivial⟩
        refine hI _ _ _ ?_
        refine Atk 0 rfl (Ca.move) (fun Q0 k0 => L.move hF rfl rfl rfl (L.nil k0)) ?_
        refine Atk 1 rfl (Ca.move) (fun Q0 k0 => L.move hF rfl rfl rfl (L.nil k0)) ?_
        refine Atk 2 rfl (Ca.lenRH (xs := v726) (e := eTimpl_Rule) Try.underlying28 rfl rfl) (fun Q0 k0 => L.lenRH (xs := v726) (e := eTimpl_Rule) Try.underlying28 hF rfl rfl rfl rfl (L.nil k0)) ?_
        refine Atk 3 rfl (Ca.bin rfl rfl (calm_int _ _ _ _ _ _ _ _)) (fun Q0 k0 => L.bin hF rfl rfl rfl rfl rfl rfl (L.nil k0)) ?_
        refine Atk 4 rfl (Ca.move) (fun Q0 k0 => L.move hF rfl rfl rfl (L.nil k0)) ?_
        refine Atk 5 rfl (Ca.move) (fun Q0 k0 => L.move hF rfl rfl rfl (L.nil k0)) ?_
        refine Atk 6 rfl (Ca.lenRH (xs := v726) (e := eTimpl_Rule) Try.underlying28 rfl rfl) (fun Q0 k0 => L.lenRH (xs := v726) (e := eTimpl_Rule) Try.underlying28 hF rfl rfl rfl rfl (L.nil k0)) ?_
        refine Atk 7 rfl (Ca.bin rfl rfl (calm_int _ _ _ _ _ _ _ _)) (fun Q0 k0 => L.bin hF rfl rfl rfl rfl rfl rfl (L.nil k0)) ?_
        refine Atk 8 rfl (Ca.indexAddr) (fun Q0 k0 => L.idxRH (xs := v726) (e := eTimpl_Rule) Try.underlying28 info96 hF rfl rfl rfl rfl rfl hb744 rfl rfl (L.nil k0)) ?_
        refine A.all [9, 10] (by kernel_rfl) rfl ⟨⟨_, rfl, ?_⟩, ⟨_, rfl, ?_⟩, trivial⟩
        ·refine L.loadEpR (xs := v726) (e := eTimpl_Rule) 1 2 shape96 hF rfl rfl rfl rfl (at?_get hb744).2 rfl rfl rfl rfl rfl ?_
         refine L.nil ?_
         refine A.le (τ := mkStH [(0, MG.one (Cell.sl g0 (List.map eTimpl_Rule v725))), (3, MG.one (Cell.own 0)), (4, MG.one (cI v727)), (5, MG.one (cL v728)), (7, MG.one (Cell.ptr 1 0)), (13, MG.one (Cell.sl g0 (List.map eTimpl_Rule v725))), (14, MG.one (cI v729)), (15, MG.one (cI v730)), (36, MG.one (Cell.own 0)), (39, MG.one (cI (IntKind.i64.wrap ((v726.length : Int) - (1 : Int))))), (45, agg [cI b744.Kind, Cell.own 2, cI b744.N])] [(0, ⟨3, (List.map eTimpl_Rule v726).set ((IntKind.i64.wrap ((v726.length : Int) - (1 : Int))).toNat) ((eTimpl_Rule b744).set 1 (Cell.raw ub744))⟩), (2, ⟨1, List.map eI b744.Set⟩)] [(1, (bTimpl_Rule g0 b743))] 3 [(2, ub744)]) (Le.mkH [(0, 0), (1, 1), (2, 2)] hm rfl (Sa8 (Sa2 (Sa1 trivial))) (Ra2 trivial) (Ba1 trivial) (hvOk1 rfl rfl)) ?_
         refine A.all [10] (by kernel_rfl) rfl ⟨⟨_, rfl, ?_⟩, trivial⟩
         refine L.loadPtr shape96 hF rfl rfl rfl rfl rfl rfl (L.nil ?_)
         exact A.on (hO _ _ _ n2047) (Le.mkH [(0, 0), (1, 2)] hm rfl (Sa8 (Sa2 (Sa1 trivial))) (Ra2 trivial) trivial (hvOk1 rfl rfl))
        ·refine L.loadPtr shape96 hF rfl rfl rfl rfl rfl rfl (L.nil ?_)
         refine A.le (τ := mkStH [(0, MG.one (Cell.sl g0 (List.map eTimpl_Rule v725))), (3, MG.one (Cell.own 0)), (4, MG.one (cI v727)), (5, MG.one (cL v728)), (13, MG.one (Cell.sl g0 (List.map eTimpl_Rule v725))), (14, MG.one (cI v729)), (15, MG.one (cI v730)), (36, MG.one (Cell.own 0)), (39, MG.one (cI (IntKind.i64.wrap ((v726.length : Int) - (1 : Int))))), (44, MG.one (Cell.ep 0 ((IntKind.i64.wrap ((v726.length : Int) - (1 : Int))).toNat) 0)), (46, agg (bTimpl_Rule g0 b743))] [(0, ⟨3, (List.map eTimpl_Rule v726).set ((IntKind.i64.wrap ((v726.length : Int) - (1 : Int))).toNat) ((eTimpl_Rule b744).set 1 (Cell.raw ub744))⟩), (1, ⟨1, List.map eI b744.Set⟩)] [] 2 [(1, ub744)]) (Le.mkH [(0, 0), (1, 2)] hm rfl (Sa8 (Sa2 (Sa1 trivial))) (Ra2 trivial) trivial (hvOk1 rfl rfl)) ?_
         refine A.all [9] (by kernel_rfl) rfl ⟨⟨_, rfl, ?_⟩, trivial⟩
         refine L.loadEpR (xs := v726) (e := eTimpl_Rule) 1 1 shape96 hF rfl rfl rfl rfl (at?_get hb744).2 rfl rfl rfl rfl rfl ?_
         refine L.nil ?_
         exact A.on (hO _ _ _ n2047) (Le.mkH [(0, 0), (1, 1)] hm rfl (Sa8 (Sa2 (Sa1 trivial))) (Ra2 trivial) trivial (hvOk1 rfl rfl))
       ·replace H := condF hc H
        refine WpC.seq (WpC.regionL ?_)
        refine L.assign hF rfl rfl rfl (L.nil ?_)
        obtain ⟨r747, hr747, H⟩ := bindS H
        obtain ⟨h748, H⟩ := condG H
        refine A.begin mixed rfl rfl ?_
        intro W hI hO
        have n127 : W 4 #[true, true, true, true, true, true, true, false, false, false, false] (mkSt [(0, MG.one (Cell.sl g0 (List.map eTimpl_Rule v725))), (3, MG.one (Cell.own 0)), (4, MG.one (cI v727)), (5, MG.one (cL true)), (13, MG.one (Cell.sl g0 (List.map eTimpl_Rule v725))), (14, MG.one (cI v729)), (15, MG.one (cI v730)), (19, MG.one (Cell.own 0)), (20, MG.one (cI v727)), (23, MG.one (Cell.own 1)), (25, MG.one (cI b743.N))] [(0, ⟨3, List.map eTimpl_Rule v726⟩), (1, ⟨1, List.map eI r747⟩)] [] 2) := by
         refine hI _ _ _ ?_
         refine Atk 7 rfl (Ca.build rfl (by rw [built96]; rfl)) (fun Q0 k0 => L.buildF built96 hF rfl rfl rfl rfl (L.nil k0)) ?_
         refine A.all [8] (by kernel_rfl) rfl ⟨⟨_, rfl, ?_⟩, trivial⟩
         refine L.buildSliceN (e := eTimpl_Rule) 1 2 ([(⟨v727, r747, b743.N⟩ : Timpl_Rule)] : List Timpl_Rule) Try.underlying28 info96 rfl rfl rfl hF rfl rfl rfl rfl rfl rfl rfl rfl (L.nil ?_)
         refine A.all [9] (by kernel_rfl) rfl ⟨⟨_, rfl, ?_⟩, trivial⟩
         refine L.appendN (xs := v726) (ys := ([(⟨v727, r747, b743.N⟩ : Timpl_Rule)] : List Timpl_Rule)) (e := eTimpl_Rule) 3 Try.underlying28 info96 rfl rfl hF rfl rfl rfl rfl rfl rfl rfl rfl rfl (fun _ _ h1 h2 => by cases h1; cases h2; rfl) Try.underlying28 (of_decide_eq_true h748) rfl rfl (L.nil ?_)
         refine Atk 10 rfl (Ca.assign) (fun Q0 k0 => L.assign hF rfl rfl rfl (L.nil k0)) ?_
         refine A.le (τ := mkSt [(0, MG.one (Cell.sl g0 (List.map eTimpl_Rule v725))), (3, MG.one (Cell.own 0)), (4, MG.one (cI v727)), (5, MG.one (cL true)), (13, MG.one (Cell.sl g0 (List.map eTimpl_Rule v725))), (14, MG.one (cI v729)), (15, MG.one (cI v730))] [(0, ⟨3, List.map eTimpl_Rule (v726 ++ ([(⟨v727, r747, b743.N⟩ : Timpl_Rule)] : List Timpl_Rule))⟩)] [] 1) (Le.mk [(0, 3)] hm rfl (Sa4 (Sa2 (Sa1 trivial))) (Ra1 trivial) trivial) ?_
         refine A.done (by kernel_rfl) ?_
         exact ⟨_, ⟨k49, v725, (v726 ++ ([(⟨v727, r747, b743.N⟩ : Timpl_Rule)] : List Timpl_Rule)), v727, true, v729, v730, by omega, H, rfl⟩, Le.mk [(0, 0)] hm rfl (Sa4 (Sa2 (Sa1 trivial))) (Ra1 trivial) trivial⟩
        have n111 : W 5 #[true, true, true, true, false, true, true, false, false, false, false] (mkSt [(0, MG.one (Cell.sl g0 (List.map eTimpl_Rule v725))), (3, MG.one (Cell.own 0)), (4, MG.one (cI v727)), (5, MG.one (cL true)), (13, MG.one (Cell.sl g0 (List.map eTimpl_Rule v725))), (14, MG.one (cI v729)), (15, MG.one (cI v730)), (19, MG.one (Cell.own 0)), (20, MG.one (cI v727)), (22, MG.one (Cell.sl g0 (List.map eI b743.Set))), (25, MG.one (cI b743.N))] [(0, ⟨3, List.map eTimpl_Rule v726⟩)] [] 1) := by
         refine hI _ _ _ ?_
         refine A.all [4] (by kernel_rfl) rfl ⟨⟨_, rfl, ?_⟩, trivial⟩
         refine L.call [false] [] [] 1 hF rfl rfl rfl ent133 rfl rfl rfl rfl rfl (Fimpl_copyInts_gives k49 g0 b743.Set r747 hr747) rfl (L.nil ?_)
         exact A.on (hO _ _ _ n127) (Le.mk [(0, 0), (1, 1)] hm rfl (Sa8 (Sa2 (Sa1 trivial))) (Ra2 trivial) trivial)
        refine hI _ _ _ ?_
        refine Atk 0 rfl (Ca.move) (fun Q0 k0 => L.move hF rfl rfl rfl (L.nil k0)) ?_
        refine Atk 1 rfl (Ca.move) (fun Q0 k0 => L.move hF rfl rfl rfl (L.nil k0)) ?_
        refine Atk 2 rfl (Ca.fieldAddr Try.underlying96 rfl info39 rfl) (fun Q0 k0 => L.fieldAddr Try.underlying96 rfl info39 rfl hF rfl rfl rfl rfl rfl (L.nil k0)) ?_
        refine Atk 5 rfl (Ca.fieldAddr Try.underlying96 rfl info3 rfl) (fun Q0 k0 => L.fieldAddr Try.underlying96 rfl info3 rfl hF rfl rfl rfl rfl rfl (L.nil k0)) ?_
        refine A.all [3, 6] (by kernel_rfl) rfl ⟨⟨_, rfl, ?_⟩, ⟨_, rfl, ?_⟩, trivial⟩
        ·refine L.loadPtr shape39 hF rfl rfl rfl rfl rfl rfl (L.nil ?_)
         refine A.all [4, 6] (by kernel_rfl) rfl ⟨⟨_, rfl, ?_⟩, ⟨_, rfl, ?_⟩, trivial⟩
         ·refine L.call [false] [] [] 2 hF rfl rfl rfl ent133 rfl rfl rfl rfl rfl (Fimpl_copyInts_gives k49 g0 b743.Set r747 hr747) rfl (L.nil ?_)
          refine A.all [6] (by kernel_rfl) rfl ⟨⟨_, rfl, ?_⟩, trivial⟩
          refine L.loadPtr shape3 hF rfl rfl rfl rfl rfl rfl (L.nil ?_)
          exact A.on (hO _ _ _ n127) (Le.mk [(0, 0), (1, 2)] hm rfl (Sa8 (Sa2 (Sa1 trivial))) (Ra2 trivial) trivial)
         ·refine L.loadPtr shape3 hF rfl rfl rfl rfl rfl rfl (L.nil ?_)
          exact A.on (hO _ _ _ n111) (Le.mk [(0, 0)] hm rfl (Sa8 (Sa2 (Sa1 trivial))) (Ra1 trivial) trivial)
        ·refine L.loadPtr shape3 hF rfl rfl rfl rfl rfl rfl (L.nil ?_)
         refine A.all [3] (by kernel_rfl) rfl ⟨⟨_, rfl, ?_⟩, trivial⟩
         refine L.loadPtr shape39 hF rfl rfl rfl rfl rfl rfl (L.nil ?_)
         exact A.on (hO _ _ _ n111) (Le.mk [(0, 0)] hm rfl (Sa8 (Sa2 (Sa1 trivial))) (Ra1 trivial) trivial)
    ·replace H := condF hc H
     refine WpC.exit (WpC.regionL ?_)
     refine L.move hF rfl rfl rfl ?_
     refine L.bin hF rfl rfl rfl rfl rfl rfl ?_
     refine L.assign hF rfl rfl rfl (L.nil ?_)
     exact ⟨k42, _, by omega, ⟨v725, v726, (IntKind.i64.wrap (v727 + (1 : Int))), by omega, H, rfl⟩, Le.mk [(0, 0)] hm rfl (Sa2 (Sa1 trivial)) (Ra1 trivial) trivial⟩
  ·replace H := condF hc H
   refine WpC.exit (WpC.seq (WpC.regionL ?_))
   refine L.move hF rfl rfl rfl ?_
   refine L.assign hF rfl rfl rfl (L.nil ?_)
   refine WpC.ret ?_
   cases H
   exact Leaves.ret rfl rfl rfl ⟨rfl, rfl⟩
/-! ### Fimpl_Normal -/
def Fimpl_Normal (k : Nat) (a0 : List Timpl_Rule) : Option (List Timpl_Rule) := (Fimpl_RulesOk k a0).bind fun r2 => cond (!r2) (some ([] : List Timpl_Rule)) ((Fimpl_normal k a0).bind fun r3 => some r3)
theorem ent39 : MG.Enters Try.prog 39 := ⟨Try.f39, Try.func39, rfl, by decide⟩
set_option maxHeartbeats 8000000 in
set_option maxRecDepth 100000 in
theorem Fimpl_Normal_gives (k : Nat) (g0 : Bool) (a0 : List Timpl_Rule) (r : List Timpl_Rule) (H : Fimpl_Normal k a0 = some r) : Gives Try.prog 39 [V.one (Cell.sl g0 (List.map eTimpl_Rule a0))] [] [V.one (Cell.ow 3 (List.map eTimpl_Rule r))] [] := by
 refine Gives.intro Try.func39 rfl rfl rfl rfl ?_
 intro F hF hm
 unfold Fimpl_Normal at H
 obtain ⟨K, hK⟩ : ∃ K, k ≤ K := ⟨k, Nat.le_refl k⟩
 refine WpC.seq (WpC.regionL ?_)
 refine L.assign hF rfl rfl rfl (L.nil ?_)
 refine WpC.seq (WpC.seq (WpC.regionL ?_))
 refine L.move hF rfl rfl rfl ?_
 obtain ⟨r2, hr2, H⟩ := bindS H
 refine L.call [false] [] [] 1 hF rfl rfl rfl ent63 rfl rfl rfl rfl rfl (Fimpl_RulesOk_gives k g0 a0 r2 hr2) rfl ?_
 refine L.not hF rfl rfl rfl (L.nil ?_)
 refine WpC.cond rfl (fun hc => ?_) (fun hc => ?_)
 ·replace H := condT hc H
  refine WpC.seq (WpC.regionL ?_)
  refine L.buildSliceN (e := eTimpl_Rule) 1 2 ([] : List Timpl_Rule) Try.underlying28 info96 rfl rfl rfl hF rfl rfl rfl rfl rfl rfl rfl rfl ?_
  refine L.assign hF rfl rfl rfl (L.nil ?_)
  refine WpC.ret ?_
  cases H
  exact Leaves.ret rfl rfl rfl ⟨rfl, rfl⟩
 ·replace H := condF hc H
  refine WpC.skip (WpC.seq (WpC.regionL ?_))
  refine L.move hF rfl rfl rfl ?_
  obtain ⟨r3, hr3, H⟩ := bindS H
  refine L.call [false] [] [] 2 hF rfl rfl rfl ent85 rfl rfl rfl rfl rfl (Fimpl_normal_gives k g0 a0 r3 hr3) rfl ?_
  refine L.assign hF rfl rfl rfl (L.nil ?_)
  refine WpC.ret ?_
  cases H
  exact Leaves.ret rfl rfl rfl ⟨rfl, rfl⟩
/-! ### Flaws_eqIntS -/
def Flaws_eqIntS.l2 : Nat → (List Int) → (List Int) → Int → Option Bool
 | 0, _, _, _ => none
 | k2 + 1, v34, v35, v36 => cond (decide (v36 < (v34.length : Int))) ((at? v34 v36).bind fun b39 => (at? v35 v36).bind fun b40 => cond (b39 != b40) (some false) ((Flaws_eqIntS.l2 k2) v34 v35 (IntKind.i64.wrap (v36 + (1 : Int))))) (some true)
def Flaws_eqIntS (k : Nat) (a0 : List Int) (a1 : List Int) : Option Bool := cond ((a0.length : Int) != (a1.length : Int)) (some false) (Flaws_eqIntS.l2 k a0 a1 (0 : Int))
theorem ent103 : MG.Enters Try.prog 103 := ⟨Try.f103, Try.func103, rfl, by decide⟩
set_option maxHeartbeats 8000000 in
set_option maxRecDepth 100000 in
theorem Flaws_eqIntS_gives (k : Nat) (g0 : Bool) (g1 : Bool) (a0 : List Int) (a1 : List Int) (r : Bool) (H : Flaws_eqIntS k a0 a1 = some r) : Gives Try.prog 103 [V.one (Cell.sl g0 (List.map eI a0)), V.one (Cell.sl g1 (List.map eI a1))] [] [V.one (cL r)] [] := by
 refine Gives.intro Try.func103 rfl rfl rfl rfl ?_
 intro F hF hm
 unfold Flaws_eqIntS at H
 obtain ⟨K, hK⟩ : ∃ K, k ≤ K := ⟨k, Nat.le_refl k⟩
 refine WpC.seq (WpC.regionL ?_)
 refine L.assign hF rfl rfl rfl (L.nil ?_)
 refine WpC.seq (WpC.seq (WpC.regionL ?_))
 refine L.move hF rfl rfl rfl ?_
 refine L.lenR (xs := a0) (e := eI) Try.underlying39 hF rfl rfl rfl rfl ?_
 refine L.move hF rfl rfl rfl ?_
 refine L.lenR (xs := a1) (e := eI) Try.underlying39 hF rfl rfl rfl rfl ?_
 refine L.bin hF rfl rfl rfl rfl rfl rfl (L.nil ?_)
 refine WpC.cond rfl (fun hc => ?_) (fun hc => ?_)
 ·replace H := condT hc H
  refine WpC.seq (WpC.regionL ?_)
  refine L.assign hF rfl rfl rfl (L.nil ?_)
  refine WpC.ret ?_
  cases H
  exact Leaves.ret rfl rfl rfl ⟨rfl, rfl⟩
 ·replace H := condF hc H
  refine WpC.skip (WpC.seq (WpC.seq (WpC.regionL ?_)))
  refine L.assign hF rfl rfl rfl (L.nil ?_)
  refine WpC.block ?_
  refine WpC.loopL (P := Try.prog) (fun n σ => ∃ v34 : List Int, ∃ v35 : List Int, ∃ v36 : Int, n ≤ K ∧ Flaws_eqIntS.l2 n v34 v35 v36 = some r ∧ σ = mkSt [(0, MG.one (Cell.sl g0 (List.map eI v34))), (1, MG.one (Cell.sl g1 (List.map eI v35))), (5, MG.one (cI v36))] [] [] 0) k ⟨_, ⟨a0, a1, (0 : Int), by omega, H, rfl⟩, Le.mk [] hm rfl (Sa2 (Sa1 trivial)) trivial trivial⟩ ?_
  clear H
  rintro k2 _ ⟨v34, v35, v36, hk2, H, rfl⟩
  cases k2 with
  | zero => cases H
  | succ k2 =>
   rw [Flaws_eqIntS.l2] at H
   refine WpC.seq (WpC.seq (WpC.regionL ?_))
   refine L.move hF rfl rfl rfl ?_
   refine L.move hF rfl rfl rfl ?_
   refine L.lenR (xs := v34) (e := eI) Try.underlying39 hF rfl rfl rfl rfl ?_
   refine L.bin hF rfl rfl rfl rfl rfl rfl (L.nil ?_)
   refine WpC.cond rfl (fun hc => ?_) (fun hc => ?_)
   ·replace H := condT hc H
    refine WpC.skip (WpC.seq (WpC.block (WpC.seq ?_)))
    refine S.begin mixed (by kernel_rfl) ?_
    refine S.st 0 rfl rfl ((Ca.move).quiet) (fun Q0 k0 => L.move hF rfl rfl rfl (L.nil k0)) ?_
    refine S.st 1 rfl rfl ((Ca.move).quiet) (fun Q0 k0 => L.move hF rfl rfl rfl (L.nil k0)) ?_
    obtain ⟨b39, hb39, H⟩ := bindS H
    refine S.st 2 rfl rfl ((Ca.indexAddr).quiet) (fun Q0 k0 => L.idxR (xs := v34) (e := eI) Try.underlying39 info3 hF rfl rfl rfl rfl rfl hb39 rfl rfl (L.nil k0)) ?_
    refine S.st 3 rfl rfl (Qu.load) (fun Q0 k0 => L.loadPe shape3 hF rfl rfl rfl rfl rfl (L.nil k0)) ?_
    refine S.st 4 rfl rfl ((Ca.move).quiet) (fun Q0 k0 => L.move hF rfl rfl rfl (L.nil k0)) ?_
    refine S.st 5 rfl rfl ((Ca.move).quiet) (fun Q0 k0 => L.move hF rfl rfl rfl (L.nil k0)) ?_
    obtain ⟨b40, hb40, H⟩ := bindS H
    refine S.st 6 rfl rfl ((Ca.indexAddr).quiet) (fun Q0 k0 => L.idxR (xs := v35) (e := eI) Try.underlying39 info3 hF rfl rfl rfl rfl rfl hb40 rfl rfl (L.nil k0)) ?_
    refine S.st 7 rfl rfl (Qu.load) (fun Q0 k0 => L.loadPe shape3 hF rfl rfl rfl rfl rfl (L.nil k0)) ?_
    refine S.st 8 rfl rfl ((Ca.bin rfl rfl (calm_int _ _ _ _ _ _ _ _)).quiet) (fun Q0 k0 => L.bin hF rfl rfl rfl rfl rfl rfl (L.nil k0)) ?_
    refine S.nil ?_
    refine WpC.cond rfl (fun hc => ?_) (fun hc => ?_)
    ·replace H := condT hc H
     refine WpC.seq (WpC.regionL ?_)
     refine L.assign hF rfl rfl rfl (L.nil ?_)
     refine WpC.ret ?_
     cases H
     exact Leaves.ret rfl rfl rfl ⟨rfl, rfl⟩
    ·replace H := condF hc H
     refine WpC.skip (WpC.regionL ?_)
     refine L.move hF rfl rfl rfl ?_
     refine L.bin hF rfl rfl rfl rfl rfl rfl ?_
     refine L.assign hF rfl rfl rfl (L.nil ?_)
     exact ⟨k2, _, by omega, ⟨v34, v35, (IntKind.i64.wrap (v36 + (1 : Int))), by omega, H, rfl⟩, Le.mk [] hm rfl (Sa2 (Sa1 trivial)) trivial trivial⟩
   ·replace H := condF hc H
    refine WpC.exit (WpC.seq (WpC.regionL ?_))
    refine L.assign hF rfl rfl rfl (L.nil ?_)
    refine WpC.ret ?_
    cases H
    exact Leaves.ret rfl rfl rfl ⟨rfl, rfl⟩
/-! ### Flaws_eqRule -/
def Flaws_eqRule (k : Nat) (a0 : Timpl_Rule) (a1 : Timpl_Rule) : Option Bool := cond (a0.Kind != a1.Kind) (some false) ((Flaws_eqIntS k a0.Set a1.Set).bind fun r2 => cond (!r2) (some false) (cond (a0.N != a1.N) (some false) (some true)))
theorem ent60 : MG.Enters Try.prog 60 := ⟨Try.f60, Try.func60, rfl, by decide⟩
set_option maxHeartbeats 8000000 in
set_option maxRecDepth 100000 in
theorem Flaws_eqRule_gives (k : Nat) (g0 : Bool) (g1 : Bool) (a0 : Timpl_Rule) (a1 : Timpl_Rule) (r : Bool) (H : Flaws_eqRule k a0 a1 = some r) : Gives Try.prog 60 [V.agg [cI a0.Kind, Cell.sl g0 (List.map eI a0.Set), cI a0.N], V.agg [cI a1.Kind, Cell.sl g1 (List.map eI a1.Set), cI a1.N]] [] [V.one (cL r)] [] := by
 refine Gives.intro Try.func60 rfl rfl rfl rfl ?_
 intro F hF hm
 unfold Flaws_eqRule at H
 obtain ⟨K, hK⟩ : ∃ K, k ≤ K := ⟨k, Nat.le_refl k⟩
 refine WpC.seq (WpC.regionL ?_)
 refine L.box 6 hF rfl rfl rfl rfl ?_
 refine L.box 7 hF rfl rfl rfl rfl ?_
 refine L.assign hF rfl rfl rfl (L.nil ?_)
 refine WpC.seq (WpC.seq (WpC.regionL ?_))
 refine L.fieldAddr Try.underlying96 rfl info3 rfl hF rfl rfl rfl rfl rfl ?_
 refine L.loadPtr shape3 hF rfl rfl rfl rfl rfl rfl ?_
 refine L.fieldAddr Try.underlying96 rfl info3 rfl hF rfl rfl rfl rfl rfl ?_
 refine L.loadPtr shape3 hF rfl rfl rfl rfl rfl rfl ?_
 refine L.bin hF rfl rfl rfl rfl rfl rfl (L.nil ?_)
 refine WpC.cond rfl (fun hc => ?_) (fun hc => ?_)
 ·replace H := condT hc H
  refine WpC.seq (WpC.regionL ?_)
  refine L.assign hF rfl rfl rfl (L.nil ?_)
  refine WpC.ret ?_
  cases H
  exact Leaves.ret rfl rfl rfl ⟨rfl, rfl⟩
 ·replace H := condF hc H
  refine WpC.skip (WpC.seq (WpC.seq (WpC.regionL ?_)))
  refine L.fieldAddr Try.underlying96 rfl info39 rfl hF rfl rfl rfl rfl rfl ?_
  refine L.loadPtr shape39 hF rfl rfl rfl rfl rfl rfl ?_
  refine L.fieldAddr Try.underlying96 rfl info39 rfl hF rfl rfl rfl rfl rfl ?_
  refine L.loadPtr shape39 hF rfl rfl rfl rfl rfl rfl ?_
  obtain ⟨r2, hr2, H⟩ := bindS H
  refine L.call [false, false] [] [] 8 hF rfl rfl rfl ent103 rfl rfl rfl rfl rfl (Flaws_eqIntS_gives k g0 g1 a0.Set a1.Set r2 hr2) rfl ?_
  refine L.not hF rfl rfl rfl (L.nil ?_)
  refine WpC.cond rfl (fun hc => ?_) (fun hc => ?_)
  ·replace H := condT hc H
   refine WpC.seq (WpC.regionL ?_)
   refine L.assign hF rfl rfl rfl (L.nil ?_)
   refine WpC.ret ?_
   cases H
   exact Leaves.ret rfl rfl rfl ⟨rfl, rfl⟩
  ·replace H := condF hc H
   refine WpC.skip (WpC.seq (WpC.seq (WpC.regionL ?_)))
   refine L.fieldAddr Try.underlying96 rfl info3 rfl hF rfl rfl rfl rfl rfl ?_
   refine L.loadPtr shape3 hF rfl rfl rfl rfl rfl rfl ?_
   refine L.fieldAddr Try.underlying96 rfl info3 rfl hF rfl rfl rfl rfl rfl ?_
   refine L.loadPtr shape3 hF rfl rfl rfl rfl rfl rfl ?_
   refine L.bin hF rfl rfl rfl rfl rfl rfl (L.nil ?_)
   refine WpC.cond rfl (fun hc => ?_) (fun hc => ?_)
   ·replace H := condT hc H
    refine WpC.seq (WpC.regionL ?_)
    refine L.assign hF rfl rfl rfl (L.nil ?_)
    refine WpC.ret ?_
    cases H
    exact Leaves.ret rfl rfl rfl ⟨rfl, rfl⟩
   ·replace H := condF hc H
    refine WpC.skip (WpC.seq (WpC.regionL ?_))
    refine L.assign hF rfl rfl rfl (L.nil ?_)
    refine WpC.ret ?_
    cases H
    exact Leaves.ret rfl rfl rfl ⟨rfl, rfl⟩
/-! ### Flaws_eqRuleS -/
def Flaws_eqRuleS.l2 : Nat → (List Timpl_Rule) → (List Timpl_Rule) → Int → Option Bool
 | 0, _, _, _ => none
 | k2 + 1, v44, v45, v46 => cond (decide (v46 < (v44.length : Int))) ((at? v44 v46).bind fun b50 => (at? v45 v46).bind fun b51 => (Flaws_eqRule k2 b50 b51).bind fun r52 => cond (!r52) (some false) ((Flaws_eqRuleS.l2 k2) v44 v45 (IntKind.i64.wrap (v46 + (1 : Int))))) (some true)
def Flaws_eqRuleS (k : Nat) (a0 : List Timpl_Rule) (a1 : List Timpl_Rule) : Option Bool := cond ((a0.length : Int) != (a1.length : Int)) (some false) (Flaws_eqRuleS.l2 k a0 a1 (0 : Int))
theorem ent18 : MG.Enters Try.prog 18 := ⟨Try.f18, Try.func18, rfl, by decide⟩
set_option maxHeartbeats 8000000 in
set_option maxRecDepth 100000 in
theorem Flaws_eqRuleS_gives (k : Nat) (g0 : Bool) (g1 : Bool) (a0 : List Timpl_Rule) (a1 : List Timpl_Rule) (r : Bool) (H : Flaws_eqRuleS k a0 a1 = some r) : Gives Try.prog 18 [V.one (Cell.sl g0 (List.map eTimpl_Rule a0)), V.one (Cell.sl g1 (List.map eTimpl_Rule a1))] [] [V.one (cL r)] [] := by
 refine Gives.intro Try.func18 rfl rfl rfl rfl ?_
 intro F hF hm
 unfold Flaws_eqRuleS at H
 obtain ⟨K, hK⟩ : ∃ K, k ≤ K := ⟨k, Nat.le_refl k⟩
 refine WpC.seq (WpC.regionL ?_)
 refine L.assign hF rfl rfl rfl (L.nil ?_)
 refine WpC.seq (WpC.seq (WpC.regionL ?_))
 refine L.move hF rfl rfl rfl ?_
 refine L.lenR (xs := a0) (e := eTimpl_Rule) Try.underlying28 hF rfl rfl rfl rfl ?_
 refine L.move hF rfl rfl rfl ?_
 refine L.lenR (xs := a1) (e := eTimpl_Rule) Try.underlying28 hF rfl rfl rfl rfl ?_
 refine L.bin hF rfl rfl rfl rfl rfl rfl (L.nil ?_)
 refine WpC.cond rfl (fun hc => ?_) (fun hc => ?_)
 ·replace H := condT hc H
  refine WpC.seq (WpC.regionL ?_)
  refine L.assign hF rfl rfl rfl (L.nil ?_)
  refine WpC.ret ?_
  cases H
  exact Leaves.ret rfl rfl rfl ⟨rfl, rfl⟩
 ·replace H := condF hc H
  refine WpC.skip (WpC.seq (WpC.seq (WpC.regionL ?_)))
  refine L.assign hF rfl rfl rfl (L.nil ?_)
  refine WpC.block ?_
  refine WpC.loopL (P := Try.prog) (fun n σ => ∃ v44 : List Timpl_Rule, ∃ v45 : List Timpl_Rule, ∃ v46 : Int, n ≤ K ∧ Flaws_eqRuleS.l2 n v44 v45 v46 = some r ∧ σ = mkSt [(0, MG.one (Cell.sl g0 (List.map eTimpl_Rule v44))), (1, MG.one (Cell.sl g1 (List.map eTimpl_Rule v45))), (5, MG.one (cI v46))] [] [] 0) k ⟨_, ⟨a0, a1, (0 : Int), by omega, H, rfl⟩, Le.mk [] hm rfl (Sa2 (Sa1 trivial)) trivial trivial⟩ ?_
  clear H
  rintro k2 _ ⟨v44, v45, v46, hk2, H, rfl⟩
  cases k2 with
  | zero => cases H
  | succ k2 =>
   rw [Flaws_eqRuleS.l2] at H
   refine WpC.seq (WpC.seq (WpC.regionL ?_))
   refine L.move hF rfl rfl rfl ?_
   refine L.move hF rfl rfl rfl ?_
   refine L.lenR (xs := v44) (e := eTimpl_Rule) Try.underlying28 hF rfl rfl rfl rfl ?_
   refine L.bin hF rfl rfl rfl rfl rfl rfl (L.nil ?_)
   refine WpC.cond rfl (fun hc => ?_) (fun hc => ?_)
   ·replace H := condT hc H
    refine WpC.skip (WpC.seq (WpC.block (WpC.seq ?_)))
    obtain ⟨b50, hb50, H⟩ := bindS H
    obtain ⟨b51, hb51, H⟩ := bindS H
    obtain ⟨r52, hr52, H⟩ := bindS H
    refine A.begin mixed rfl rfl ?_
    intro W hI hO
    have n255 : W 2 #[true, true, true, true, true, true, true, true, false, false] (mkSt [(0, MG.one (Cell.sl g0 (List.map eTimpl_Rule v44))), (1, MG.one (Cell.sl g1 (List.map eTimpl_Rule v45))), (5, MG.one (cI v46)), (20, agg (bTimpl_Rule g0 b50)), (24, agg (bTimpl_Rule g1 b51))] [] [] 0) := by
     refine hI _ _ _ ?_
     refine A.all [8] (by kernel_rfl) rfl ⟨⟨_, rfl, ?_⟩, trivial⟩
     refine L.call [false, false] [] [] 0 hF rfl rfl rfl ent60 rfl rfl rfl rfl rfl (Flaws_eqRule_gives k2 g0 g1 b50 b51 r52 hr52) rfl (L.nil ?_)
     refine Atk 9 rfl (Ca.un rfl rfl) (fun Q0 k0 => L.not hF rfl rfl rfl (L.nil k0)) ?_
     refine A.le (τ := mkSt [(0, MG.one (Cell.sl g0 (List.map eTimpl_Rule v44))), (1, MG.one (Cell.sl g1 (List.map eTimpl_Rule v45))), (5, MG.one (cI v46)), (26, MG.one (cL (!r52)))] [] [] 0) (Le.mk [] hm rfl (Sa4 trivial) trivial trivial) ?_
     refine A.done (by kernel_rfl) ?_
     refine WpC.cond rfl (fun hc => ?_) (fun hc => ?_)
     ·replace H := condT hc H
      refine WpC.seq (WpC.regionL ?_)
      refine L.assign hF rfl rfl rfl (L.nil ?_)
      refine WpC.ret ?_
      cases H
      exact Leaves.ret rfl rfl rfl ⟨rfl, rfl⟩
     ·replace H := condF hc H
      refine WpC.skip (WpC.regionL ?_)
      refine L.move hF rfl rfl rfl ?_
      refine L.bin hF rfl rfl rfl rfl rfl rfl ?_
      refine L.assign hF rfl rfl rfl (L.nil ?_)
      exact ⟨k2, _, by omega, ⟨v44, v45, (IntKind.i64.wrap (v46 + (1 : Int))), by omega, H, rfl⟩, Le.mk [] hm rfl (Sa2 (Sa1 trivial)) trivial trivial⟩
    refine hI _ _ _ ?_
    refine Atk 0 rfl (Ca.move) (fun Q0 k0 => L.move hF rfl rfl rfl (L.nil k0)) ?_
    refine Atk 1 rfl (Ca.move) (fun Q0 k0 => L.move hF rfl rfl rfl (L.nil k0)) ?_
    refine Atk 2 rfl (Ca.indexAddr) (fun Q0 k0 => L.idxR (xs := v44) (e := eTimpl_Rule) Try.underlying28 info96 hF rfl rfl rfl rfl rfl hb50 rfl rfl (L.nil k0)) ?_
    refine Atk 4 rfl (Ca.move) (fun Q0 k0 => L.move hF rfl rfl rfl (L.nil k0)) ?_
    refine Atk 5 rfl (Ca.move) (fun Q0 k0 => L.move hF rfl rfl rfl (L.nil k0)) ?_
    refine Atk 6 rfl (Ca.indexAddr) (fun Q0 k0 => L.idxR (xs := v45) (e := eTimpl_Rule) Try.underlying28 info96 hF rfl rfl rfl rfl rfl hb51 rfl rfl (L.nil k0)) ?_
    refine A.all [3, 7] (by kernel_rfl) rfl ⟨⟨_, rfl, ?_⟩, ⟨_, rfl, ?_⟩, trivial⟩
    ·refine L.loadPe shape96 hF rfl rfl rfl rfl rfl (L.nil ?_)
     refine A.all [7] (by kernel_rfl) rfl ⟨⟨_, rfl, ?_⟩, trivial⟩
     refine L.loadPe shape96 hF rfl rfl rfl rfl rfl (L.nil ?_)
     exact A.on (hO _ _ _ n255) (Le.mk [] hm rfl (Sa4 (Sa1 trivial)) trivial trivial)
    ·refine L.loadPe shape96 hF rfl rfl rfl rfl rfl (L.nil ?_)
     refine A.all [3] (by kernel_rfl) rfl ⟨⟨_, rfl, ?_⟩, trivial⟩
     refine L.loadPe shape96 hF rfl rfl rfl rfl rfl (L.nil ?_)
     exact A.on (hO _ _ _ n255) (Le.mk [] hm rfl (Sa4 (Sa1 trivial)) trivial trivial)
   ·replace H := condF hc H
    refine WpC.exit (WpC.seq (WpC.regionL ?_))
    refine L.assign hF rfl rfl rfl (L.nil ?_)
    refine WpC.ret ?_
    cases H
    exact Leaves.ret rfl rfl rfl ⟨rfl, rfl⟩
/-! ### Flaws_markIntS -/
def Flaws_markIntS.l2 : Nat → (List Int) → Int → Int → Option (Int × List Int)
 | 0, _, _, _ => none
 | k2 + 1, v24, v25, v26 => cond (decide (v26 < (v24.length : Int))) ((at? v24 v26).bind fun b28 => (Flaws_markIntS.l2 k2) (v24.set v26.toNat v25) (IntKind.i64.wrap (v25 + (1 : Int))) (IntKind.i64.wrap (v26 + (1 : Int)))) (some (v25, v24))
def Flaws_markIntS (k : Nat) (a0 : List Int) (a1 : Int) : Option (Int × List Int) := Flaws_markIntS.l2 k a0 a1 (0 : Int)
theorem ent55 : MG.Enters Try.prog 55 := ⟨Try.f55, Try.func55, rfl, by decide⟩
set_option maxHeartbeats 8000000 in
set_option maxRecDepth 100000 in
theorem Flaws_markIntS_gives (k : Nat) (a0 : List Int) (a1 : Int) (r : Int × List Int) (H : Flaws_markIntS k a0 a1 = some r) : GivesB Try.prog 55 [V.one (Cell.ow 1 (List.map eI a0)), V.one (cI a1)] [] [0] [V.one (cI r.1)] [] [V.one (Cell.ow 1 (List.map eI r.2))] := by
 refine GivesB.intro Try.func55 rfl rfl rfl rfl rfl rfl ?_
 intro F hF hm
 unfold Flaws_markIntS at H
 obtain ⟨K, hK⟩ : ∃ K, k ≤ K := ⟨k, Nat.le_refl k⟩
 refine WpC.seq (WpC.regionL ?_)
 refine L.assign hF rfl rfl rfl (L.nil ?_)
 refine WpC.seq (WpC.seq (WpC.regionL ?_))
 refine L.assign hF rfl rfl rfl (L.nil ?_)
 refine WpC.block ?_
 refine WpC.loopL (P := Try.prog) (fun n σ => ∃ v24 : List Int, ∃ v25 : Int, ∃ v26 : Int, n ≤ K ∧ Flaws_markIntS.l2 n v24 v25 v26 = some r ∧ σ = mkSt [(0, MG.one (Cell.own 0)), (1, MG.one (cI v25)), (5, MG.one (cI v26))] [(0, ⟨1, List.map eI v24⟩)] [] 2) k ⟨_, ⟨a0, a1, (0 : Int), by omega, H, rfl⟩, Le.mk [(0, 0)] hm rfl (Sa2 (Sa1 trivial)) (Ra1 trivial) trivial⟩ ?_
 clear H
 rintro k2 _ ⟨v24, v25, v26, hk2, H, rfl⟩
 cases k2 with
 | zero => cases H
 | succ k2 =>
  rw [Flaws_markIntS.l2] at H
  refine WpC.seq (WpC.seq (WpC.regionL ?_))
  refine L.move hF rfl rfl rfl ?_
  refine L.move hF rfl rfl rfl ?_
  refine L.lenR (xs := v24) (e := eI) Try.underlying39 hF rfl rfl rfl rfl ?_
  refine L.bin hF rfl rfl rfl rfl rfl rfl (L.nil ?_)
  refine WpC.cond rfl (fun hc => ?_) (fun hc => ?_)
  ·replace H := condT hc H
   refine WpC.skip (WpC.seq (WpC.block (WpC.seq (WpC.regionL ?_))))
   refine L.move hF rfl rfl rfl ?_
   refine L.move hF rfl rfl rfl ?_
   refine L.move hF rfl rfl rfl ?_
   obtain ⟨b28, hb28, H⟩ := bindS H
   refine L.idxR (xs := v24) (e := eI) Try.underlying39 info3 hF rfl rfl rfl rfl rfl hb28 rfl rfl ?_
   refine L.storeEp (xs := v24) (e := eI) (a' := v25) shape3 hF rfl rfl rfl rfl rfl rfl rfl (at?_get hb28).2 rfl rfl ?_
   refine L.nil ?_
   refine WpC.regionL ?_
   refine L.move hF rfl rfl rfl ?_
   refine L.bin hF rfl rfl rfl rfl rfl rfl ?_
   refine L.assign hF rfl rfl rfl (L.nil ?_)
   refine WpC.regionL ?_
   refine L.move hF rfl rfl rfl ?_
   refine L.bin hF rfl rfl rfl rfl rfl rfl ?_
   refine L.assign hF rfl rfl rfl (L.nil ?_)
   exact ⟨k2, _, by omega, ⟨(v24.set v26.toNat v25), (IntKind.i64.wrap (v25 + (1 : Int))), (IntKind.i64.wrap (v26 + (1 : Int))), by omega, H, rfl⟩, Le.mk [(0, 0)] hm rfl (Sa2 (Sa1 trivial)) (Ra1 trivial) trivial⟩
  ·replace H := condF hc H
   refine WpC.exit (WpC.seq (WpC.regionL ?_))
   refine L.move hF rfl rfl rfl ?_
   refine L.assign hF rfl rfl rfl (L.nil ?_)
   refine WpC.ret ?_
   cases H
   exact Leaves.retB rfl rfl rfl rfl ⟨rfl, rfl, rfl⟩
/-! ### Flaws_markRuleS -/
def Flaws_markRuleS.l2 : Nat → (List Timpl_Rule) → Int → Int → Option (Int × List Timpl_Rule)
 | 0, _, _, _ => none
 | k2 + 1, v54, v55, v56 => cond (decide (v56 < (v54.length : Int))) ((at? v54 v56).bind fun b61 => (at? (v54.set v56.toNat (⟨v55, b61.Set, b61.N⟩ : Timpl_Rule)) v56).bind fun b62 => (Flaws_markIntS k2 b62.Set (IntKind.i64.wrap (v55 + (1 : Int)))).bind fun r63 => (at? ((v54.set v56.toNat (⟨v55, b61.Set, b61.N⟩ : Timpl_Rule)).set v56.toNat (⟨b62.Kind, r63.2, b62.N⟩ : Timpl_Rule)) v56).bind fun b64 => (Flaws_markRuleS.l2 k2) (((v54.set v56.toNat (⟨v55, b61.Set, b61.N⟩ : Timpl_Rule)).set v56.toNat (⟨b62.Kind, r63.2, b62.N⟩ : Timpl_Rule)).set v56.toNat (⟨b64.Kind, b64.Set, r63.1⟩ : Timpl_Rule)) (IntKind.i64.wrap (r63.1 + (1 : Int))) (IntKind.i64.wrap (v56 + (1 : Int)))) (some (v55, v54))
def Flaws_markRuleS (k : Nat) (a0 : List Timpl_Rule) (a1 : Int) : Option (Int × List Timpl_Rule) := Flaws_markRuleS.l2 k a0 a1 (0 : Int)
theorem ent19 : MG.Enters Try.prog 19 := ⟨Try.f19, Try.func19, rfl, by decide⟩
set_option maxHeartbeats 8000000 in
set_option maxRecDepth 100000 in
theorem Flaws_markRuleS_gives (k : Nat) (a0 : List Timpl_Rule) (a1 : Int) (r : Int × List Timpl_Rule) (H : Flaws_markRuleS k a0 a1 = some r) : GivesB Try.prog 19 [V.one (Cell.ow 3 (List.map eTimpl_Rule a0)), V.one (cI a1)] [] [0] [V.one (cI r.1)] [] [V.one (Cell.ow 3 (List.map eTimpl_Rule r.2))] := by
 refine GivesB.intro Try.func19 rfl rfl rfl rfl rfl rfl ?_
 intro F hF hm
 unfold Flaws_markRuleS at H
 obtain ⟨K, hK⟩ : ∃ K, k ≤ K := ⟨k, Nat.le_refl k⟩
 refine WpC.seq (WpC.regionL ?_)
 refine L.assign hF rfl rfl rfl (L.nil ?_)
 refine WpC.seq (WpC.seq (WpC.regionL ?_))
 refine L.assign hF rfl rfl rfl (L.nil ?_)
 refine WpC.block ?_
 refine WpC.loopL (P := Try.prog) (fun n σ => ∃ v54 : List Timpl_Rule, ∃ v55 : Int, ∃ v56 : Int, n ≤ K ∧ Flaws_markRuleS.l2 n v54 v55 v56 = some r ∧ σ = mkSt [(0, MG.one (Cell.own 0)), (1, MG.one (cI v55)), (5, MG.one (cI v56))] [(0, ⟨3, List.map eTimpl_Rule v54⟩)] [] 2) k ⟨_, ⟨a0, a1, (0 : Int), by omega, H, rfl⟩, Le.mk [(0, 0)] hm rfl (Sa2 (Sa1 trivial)) (Ra1 trivial) trivial⟩ ?_
 clear H
 rintro k2 _ ⟨v54, v55, v56, hk2, H, rfl⟩
 cases k2 with
 | zero => cases H
 | succ k2 =>
  rw [Flaws_markRuleS.l2] at H
  refine WpC.seq (WpC.seq (WpC.regionL ?_))
  refine L.move hF rfl rfl rfl ?_
  refine L.move hF rfl rfl rfl ?_
  refine L.lenR (xs := v54) (e := eTimpl_Rule) Try.underlying28 hF rfl rfl rfl rfl ?_
  refine L.bin hF rfl rfl rfl rfl rfl rfl (L.nil ?_)
  refine WpC.cond rfl (fun hc => ?_) (fun hc => ?_)
  ·replace H := condT hc H
   refine WpC.skip (WpC.seq (WpC.block (WpC.seq (WpC.regionL ?_))))
   refine L.move hF rfl rfl rfl ?_
   refine L.move hF rfl rfl rfl ?_
   refine L.move hF rfl rfl rfl ?_
   obtain ⟨b61, hb61, H⟩ := bindS H
   refine L.idxR (xs := v54) (e := eTimpl_Rule) Try.underlying28 info96 hF rfl rfl rfl rfl rfl hb61 rfl rfl ?_
   refine L.fieldAddr Try.underlying96 rfl info3 rfl hF rfl rfl rfl rfl rfl ?_
   refine L.storeEp (xs := v54) (e := eTimpl_Rule) (a' := (⟨v55, b61.Set, b61.N⟩ : Timpl_Rule)) shape3 hF rfl rfl rfl rfl rfl rfl rfl (at?_get hb61).2 rfl rfl ?_
   refine L.nil ?_
   refine WpC.seq (WpC.regionL ?_)
   refine L.move hF rfl rfl rfl ?_
   refine L.bin hF rfl rfl rfl rfl rfl rfl ?_
   refine L.assign hF rfl rfl rfl (L.nil ?_)
   refine WpC.seq (WpC.regionL ?_)
   refine L.move hF rfl rfl rfl ?_
   refine L.move hF rfl rfl rfl ?_
   obtain ⟨b62, hb62, H⟩ := bindS H
   refine L.idxR (xs := (v54.set v56.toNat (⟨v55, b61.Set, b61.N⟩ : Timpl_Rule))) (e := eTimpl_Rule) Try.underlying28 info96 hF rfl rfl rfl rfl rfl hb62 rfl rfl ?_
   refine L.fieldAddr Try.underlying96 rfl info39 rfl hF rfl rfl rfl rfl rfl ?_
   refine L.out (xs := (v54.set v56.toNat (⟨v55, b61.Set, b61.N⟩ : Timpl_Rule))) (e := eTimpl_Rule) (a := b62) 0 v56.toNat 1 2 rfl (at?_get hb62).2 rfl rfl (fun ub62 => ?_)
   refine L.loadEpR (xs := (v54.set v56.toNat (⟨v55, b61.Set, b61.N⟩ : Timpl_Rule))) (e := eTimpl_Rule) 1 2 shape39 hF rfl rfl rfl rfl (at?_get hb62).2 rfl rfl rfl rfl rfl ?_
   refine L.move hF rfl rfl rfl ?_
   obtain ⟨r63, hr63, H⟩ := bindS H
   refine L.callB [true, false] [] [] 3 [0] hF rfl rfl rfl ent55 rfl rfl rfl rfl rfl (Flaws_markIntS_gives k2  b62.Set (IntKind.i64.wrap (v55 + (1 : Int))) r63 hr63) rfl rfl rfl ?_
   refine L.assign hF rfl rfl rfl ?_
   refine L.le (Le.back (xs := (v54.set v56.toNat (⟨v55, b61.Set, b61.N⟩ : Timpl_Rule))) (e := eTimpl_Rule) (a' := (⟨b62.Kind, r63.2, b62.N⟩ : Timpl_Rule)) 0 v56.toNat 1 2 rfl (at?_get hb62).2 rfl rfl rfl rfl rfl) ?_
   refine L.nil ?_
   refine WpC.seq (WpC.regionL ?_)
   refine L.move hF rfl rfl rfl ?_
   refine L.move hF rfl rfl rfl ?_
   refine L.move hF rfl rfl rfl ?_
   obtain ⟨b64, hb64, H⟩ := bindS H
   refine L.idxR (xs := ((v54.set v56.toNat (⟨v55, b61.Set, b61.N⟩ : Timpl_Rule)).set v56.toNat (⟨b62.Kind, r63.2, b62.N⟩ : Timpl_Rule))) (e := eTimpl_Rule) Try.underlying28 info96 hF rfl rfl rfl rfl rfl hb64 rfl rfl ?_
   refine L.fieldAddr Try.underlying96 rfl info3 rfl hF rfl rfl rfl rfl rfl ?_
   refine L.storeEp (xs := ((v54.set v56.toNat (⟨v55, b61.Set, b61.N⟩ : Timpl_Rule)).set v56.toNat (⟨b62.Kind, r63.2, b62.N⟩ : Timpl_Rule))) (e := eTimpl_Rule) (a' := (⟨b64.Kind, b64.Set, r63.1⟩ : Timpl_Rule)) shape3 hF rfl rfl rfl rfl rfl rfl rfl (at?_get hb64).2 rfl rfl ?_
   refine L.nil ?_
   refine WpC.regionL ?_
   refine L.move hF rfl rfl rfl ?_
   refine L.bin hF rfl rfl rfl rfl rfl rfl ?_
   refine L.assign hF rfl rfl rfl (L.nil ?_)
   refine WpC.regionL ?_
   refine L.move hF rfl rfl rfl ?_
   refine L.bin hF rfl rfl rfl rfl rfl rfl ?_
   refine L.assign hF rfl rfl rfl (L.nil ?_)
   exact ⟨k2, _, by omega, ⟨(((v54.set v56.toNat (⟨v55, b61.Set, b61.N⟩ : Timpl_Rule)).set v56.toNat (⟨b62.Kind, r63.2, b62.N⟩ : Timpl_Rule)).set v56.toNat (⟨b64.Kind, b64.Set, r63.1⟩ : Timpl_Rule)), (IntKind.i64.wrap (r63.1 + (1 : Int))), (IntKind.i64.wrap (v56 + (1 : Int))), by omega, H, rfl⟩, Le.mk [(0, 0)] hm rfl (Sa2 (Sa1 trivial)) (Ra1 trivial) trivial⟩
  ·replace H := condF hc H
   refine WpC.exit (WpC.seq (WpC.regionL ?_))
   refine L.move hF rfl rfl rfl ?_
   refine L.assign hF rfl rfl rfl (L.nil ?_)
   refine WpC.ret ?_
   cases H
   exact Leaves.retB rfl rfl rfl rfl ⟨rfl, rfl, rfl⟩
/-! ### Flaws_heldIntS -/
def Flaws_heldIntS.l2 : Nat → (List Int) → Int → Int → Option Int
 | 0, _, _, _ => none
 | k2 + 1, v34, v35, v36 => cond (decide (v36 < (v34.length : Int))) ((at? v34 v36).bind fun b40 => cond (b40 != v35) (some (-1 : Int)) ((Flaws_heldIntS.l2 k2) v34 (IntKind.i64.wrap (v35 + (1 : Int))) (IntKind.i64.wrap (v36 + (1 : Int))))) (some v35)
def Flaws_heldIntS (k : Nat) (a0 : List Int) (a1 : Int) : Option Int := Flaws_heldIntS.l2 k a0 a1 (0 : Int)
theorem ent56 : MG.Enters Try.prog 56 := ⟨Try.f56, Try.func56, rfl, by decide⟩
set_option maxHeartbeats 8000000 in
set_option maxRecDepth 100000 in
theorem Flaws_heldIntS_gives (k : Nat) (g0 : Bool) (a0 : List Int) (a1 : Int) (r : Int) (H : Flaws_heldIntS k a0 a1 = some r) : Gives Try.prog 56 [V.one (Cell.sl g0 (List.map eI a0)), V.one (cI a1)] [] [V.one (cI r)] [] := by
 refine Gives.intro Try.func56 rfl rfl rfl rfl ?_
 intro F hF hm
 unfold Flaws_heldIntS at H
 obtain ⟨K, hK⟩ : ∃ K, k ≤ K := ⟨k, Nat.le_refl k⟩
 refine WpC.seq (WpC.regionL ?_)
 refine L.assign hF rfl rfl rfl (L.nil ?_)
 refine WpC.seq (WpC.seq (WpC.regionL ?_))
 refine L.assign hF rfl rfl rfl (L.nil ?_)
 refine WpC.block ?_
 refine WpC.loopL (P := Try.prog) (fun n σ => ∃ v34 : List Int, ∃ v35 : Int, ∃ v36 : Int, n ≤ K ∧ Flaws_heldIntS.l2 n v34 v35 v36 = some r ∧ σ = mkSt [(0, MG.one (Cell.sl g0 (List.map eI v34))), (1, MG.one (cI v35)), (5, MG.one (cI v36))] [] [] 0) k ⟨_, ⟨a0, a1, (0 : Int), by omega, H, rfl⟩, Le.mk [] hm rfl (Sa2 (Sa1 trivial)) trivial trivial⟩ ?_
 clear H
 rintro k2 _ ⟨v34, v35, v36, hk2, H, rfl⟩
 cases k2 with
 | zero => cases H
 | succ k2 =>
  rw [Flaws_heldIntS.l2] at H
  refine WpC.seq (WpC.seq (WpC.regionL ?_))
  refine L.move hF rfl rfl rfl ?_
  refine L.move hF rfl rfl rfl ?_
  refine L.lenR (xs := v34) (e := eI) Try.underlying39 hF rfl rfl rfl rfl ?_
  refine L.bin hF rfl rfl rfl rfl rfl rfl (L.nil ?_)
  refine WpC.cond rfl (fun hc => ?_) (fun hc => ?_)
  ·replace H := condT hc H
   refine WpC.skip (WpC.seq (WpC.block (WpC.seq (WpC.seq (WpC.regionL ?_)))))
   refine L.move hF rfl rfl rfl ?_
   refine L.move hF rfl rfl rfl ?_
   obtain ⟨b40, hb40, H⟩ := bindS H
   refine L.idxR (xs := v34) (e := eI) Try.underlying39 info3 hF rfl rfl rfl rfl rfl hb40 rfl rfl ?_
   refine L.loadPe shape3 hF rfl rfl rfl rfl rfl ?_
   refine L.move hF rfl rfl rfl ?_
   refine L.bin hF rfl rfl rfl rfl rfl rfl (L.nil ?_)
   refine WpC.cond rfl (fun hc => ?_) (fun hc => ?_)
   ·replace H := condT hc H
    refine WpC.seq (WpC.regionL ?_)
    refine L.assign hF rfl rfl rfl (L.nil ?_)
    refine WpC.ret ?_
    cases H
    exact Leaves.ret rfl rfl rfl ⟨rfl, rfl⟩
   ·replace H := condF hc H
    refine WpC.skip (WpC.regionL ?_)
    refine L.move hF rfl rfl rfl ?_
    refine L.bin hF rfl rfl rfl rfl rfl rfl ?_
    refine L.assign hF rfl rfl rfl (L.nil ?_)
    refine WpC.regionL ?_
    refine L.move hF rfl rfl rfl ?_
    refine L.bin hF rfl rfl rfl rfl rfl rfl ?_
    refine L.assign hF rfl rfl rfl (L.nil ?_)
    exact ⟨k2, _, by omega, ⟨v34, (IntKind.i64.wrap (v35 + (1 : Int))), (IntKind.i64.wrap (v36 + (1 : Int))), by omega, H, rfl⟩, Le.mk [] hm rfl (Sa2 (Sa1 trivial)) trivial trivial⟩
  ·replace H := condF hc H
   refine WpC.exit (WpC.seq (WpC.regionL ?_))
   refine L.move hF rfl rfl rfl ?_
   refine L.assign hF rfl rfl rfl (L.nil ?_)
   refine WpC.ret ?_
   cases H
   exact Leaves.ret rfl rfl rfl ⟨rfl, rfl⟩
/-! ### Flaws_heldRuleS -/
def Flaws_heldRuleS.l2 : Nat → (List Timpl_Rule) → Int → Int → Option Int
 | 0, _, _, _ => none
 | k2 + 1, v74, v75, v76 => cond (decide (v76 < (v74.length : Int))) ((at? v74 v76).bind fun b84 => cond (b84.Kind != v75) (some (-1 : Int)) ((at? v74 v76).bind fun b85 => (Flaws_heldIntS k2 b85.Set (IntKind.i64.wrap (v75 + (1 : Int)))).bind fun r86 => cond (decide (r86 < (0 : Int))) (some (-1 : Int)) ((at? v74 v76).bind fun b88 => cond (b88.N != r86) (some (-1 : Int)) ((Flaws_heldRuleS.l2 k2) v74 (IntKind.i64.wrap (r86 + (1 : Int))) (IntKind.i64.wrap (v76 + (1 : Int))))))) (some v75)
def Flaws_heldRuleS (k : Nat) (a0 : List Timpl_Rule) (a1 : Int) : Option Int := Flaws_heldRuleS.l2 k a0 a1 (0 : Int)
theorem ent20 : MG.Enters Try.prog 20 := ⟨Try.f20, Try.func20, rfl, by decide⟩
set_option maxHeartbeats 8000000 in
set_option maxRecDepth 100000 in
theorem Flaws_heldRuleS_gives (k : Nat) (g0 : Bool) (a0 : List Timpl_Rule) (a1 : Int) (r : Int) (H : Flaws_heldRuleS k a0 a1 = some r) : Gives Try.prog 20 [V.one (Cell.sl g0 (List.map eTimpl_Rule a0)), V.one (cI a1)] [] [V.one (cI r)] [] := by
 refine Gives.intro Try.func20 rfl rfl rfl rfl ?_
 intro F hF hm
 unfold Flaws_heldRuleS at H
 obtain ⟨K, hK⟩ : ∃ K, k ≤ K := ⟨k, Nat.le_refl k⟩
 refine WpC.seq (WpC.regionL ?_)
 refine L.assign hF rfl rfl rfl (L.nil ?_)
 refine WpC.seq (WpC.seq (WpC.regionL ?_))
 refine L.assign hF rfl rfl rfl (L.nil ?_)
 refine WpC.block ?_
 refine WpC.loopL (P := Try.prog) (fun n σ => ∃ v74 : List Timpl_Rule, ∃ v75 : Int, ∃ v76 : Int, n ≤ K ∧ Flaws_heldRuleS.l2 n v74 v75 v76 = some r ∧ σ = mkSt [(0, MG.one (Cell.sl g0 (List.map eTimpl_Rule v74))), (1, MG.one (cI v75)), (5, MG.one (cI v76))] [] [] 0) k ⟨_, ⟨a0, a1, (0 : Int), by omega, H, rfl⟩, Le.mk [] hm rfl (Sa2 (Sa1 trivial)) trivial trivial⟩ ?_
 clear H
 rintro k2 _ ⟨v74, v75, v76, hk2, H, rfl⟩
 cases k2 with
 | zero => cases H
 | succ k2 =>
  rw [Flaws_heldRuleS.l2] at H
  refine WpC.seq (WpC.seq (WpC.regionL ?_))
  refine L.move hF rfl rfl rfl ?_
  refine L.move hF rfl rfl rfl ?_
  refine L.lenR (xs := v74) (e := eTimpl_Rule) Try.underlying28 hF rfl rfl rfl rfl ?_
  refine L.bin hF rfl rfl rfl rfl rfl rfl (L.nil ?_)
  refine WpC.cond rfl (fun hc => ?_) (fun hc => ?_)
  ·replace H := condT hc H
   refine WpC.skip (WpC.seq (WpC.block (WpC.seq (WpC.seq (WpC.regionL ?_)))))
   refine L.move hF rfl rfl rfl ?_
   refine L.move hF rfl rfl rfl ?_
   obtain ⟨b84, hb84, H⟩ := bindS H
   refine L.idxR (xs := v74) (e := eTimpl_Rule) Try.underlying28 info96 hF rfl rfl rfl rfl rfl hb84 rfl rfl ?_
   refine L.fieldAddr Try.underlying96 rfl info3 rfl hF rfl rfl rfl rfl rfl ?_
   refine L.loadPe shape3 hF rfl rfl rfl rfl rfl ?_
   refine L.move hF rfl rfl rfl ?_
   refine L.bin hF rfl rfl rfl rfl rfl rfl (L.nil ?_)
   refine WpC.cond rfl (fun hc => ?_) (fun hc => ?_)
   ·replace H := condT hc H
    refine WpC.seq (WpC.regionL ?_)
    refine L.assign hF rfl rfl rfl (L.nil ?_)
    refine WpC.ret ?_
    cases H
    exact Leaves.ret rfl rfl rfl ⟨rfl, rfl⟩
   ·replace H := condF hc H
    refine WpC.skip (WpC.seq (WpC.regionL ?_))
    refine L.move hF rfl rfl rfl ?_
    refine L.bin hF rfl rfl rfl rfl rfl rfl ?_
    refine L.assign hF rfl rfl rfl (L.nil ?_)
    refine WpC.seq (WpC.regionL ?_)
    refine L.move hF rfl rfl rfl ?_
    refine L.move hF rfl rfl rfl ?_
    obtain ⟨b85, hb85, H⟩ := bindS H
    refine L.idxR (xs := v74) (e := eTimpl_Rule) Try.underlying28 info96 hF rfl rfl rfl rfl rfl hb85 rfl rfl ?_
    refine L.fieldAddr Try.underlying96 rfl info39 rfl hF rfl rfl rfl rfl rfl ?_
    refine L.loadPe shape39 hF rfl rfl rfl rfl rfl ?_
    refine L.move hF rfl rfl rfl ?_
    obtain ⟨r86, hr86, H⟩ := bindS H
    refine L.call [false, false] [] [] 0 hF rfl rfl rfl ent56 rfl rfl rfl rfl rfl (Flaws_heldIntS_gives k2 g0 b85.Set (IntKind.i64.wrap (v75 + (1 : Int))) r86 hr86) rfl ?_
    refine L.assign hF rfl rfl rfl (L.nil ?_)
    refine WpC.seq (WpC.seq (WpC.regionL ?_))
    refine L.move hF rfl rfl rfl ?_
    refine L.bin hF rfl rfl rfl rfl rfl rfl (L.nil ?_)
    refine WpC.cond rfl (fun hc => ?_) (fun hc => ?_)
    ·replace H := condT hc H
     refine WpC.seq (WpC.regionL ?_)
     refine L.assign hF rfl rfl rfl (L.nil ?_)
     refine WpC.ret ?_
     cases H
     exact Leaves.ret rfl rfl rfl ⟨rfl, rfl⟩
    ·replace H := condF hc H
     refine WpC.skip (WpC.seq (WpC.seq (WpC.regionL ?_)))
     refine L.move hF rfl rfl rfl ?_
     refine L.move hF rfl rfl rfl ?_
     obtain ⟨b88, hb88, H⟩ := bindS H
     refine L.idxR (xs := v74) (e := eTimpl_Rule) Try.underlying28 info96 hF rfl rfl rfl rfl rfl hb88 rfl rfl ?_
     refine L.fieldAddr Try.underlying96 rfl info3 rfl hF rfl rfl rfl rfl rfl ?_
     refine L.loadPe shape3 hF rfl rfl rfl rfl rfl ?_
     refine L.move hF rfl rfl rfl ?_
     refine L.bin hF rfl rfl rfl rfl rfl rfl (L.nil ?_)
     refine WpC.cond rfl (fun hc => ?_) (fun hc => ?_)
     ·replace H := condT hc H
      refine WpC.seq (WpC.regionL ?_)
      refine L.assign hF rfl rfl rfl (L.nil ?_)
      refine WpC.ret ?_
      cases H
      exact Leaves.ret rfl rfl rfl ⟨rfl, rfl⟩
     ·replace H := condF hc H
      refine WpC.skip (WpC.regionL ?_)
      refine L.move hF rfl rfl rfl ?_
      refine L.bin hF rfl rfl rfl rfl rfl rfl ?_
      refine L.assign hF rfl rfl rfl (L.nil ?_)
      refine WpC.regionL ?_
      refine L.move hF rfl rfl rfl ?_
      refine L.bin hF rfl rfl rfl rfl rfl rfl ?_
      refine L.assign hF rfl rfl rfl (L.nil ?_)
      exact ⟨k2, _, by omega, ⟨v74, (IntKind.i64.wrap (r86 + (1 : Int))), (IntKind.i64.wrap (v76 + (1 : Int))), by omega, H, rfl⟩, Le.mk [] hm rfl (Sa2 (Sa1 trivial)) trivial trivial⟩
  ·replace H := condF hc H
   refine WpC.exit (WpC.seq (WpC.regionL ?_))
   refine L.move hF rfl rfl rfl ?_
   refine L.assign hF rfl rfl rfl (L.nil ?_)
   refine WpC.ret ?_
   cases H
   exact Leaves.ret rfl rfl rfl ⟨rfl, rfl⟩
/-! ### Flaws_FnExactNormal -/
def Flaws_FnExactNormal (k : Nat) (a0 : List Tlaws_Rule) : Option Bool := (Flaws_szRuleS k a0 (1048576 : Int)).bind fun r1 => cond (decide (r1 < (0 : Int))) (some true) ((Flaws_toRuleS k a0).bind fun r2 => (Fspec_Normal k r2).bind fun r3 => (Flaws_toRuleS k a0).bind fun r4 => (Fimpl_Normal k r4).bind fun r5 => (Flaws_eqRuleS k r5 r3).bind fun r7 => cond (!r7) (some false) ((Flaws_toRuleS k a0).bind fun r10 => (Flaws_eqRuleS k r4 r10).bind fun r11 => cond (!r11) (some false) ((Flaws_markRuleS k r4 (1 : Int)).bind fun r12 => cond (decide (r12.1 < (0 : Int))) (some false) ((Flaws_eqRuleS k r5 r3).bind fun r16 => cond (!r16) (some false) ((Flaws_markRuleS k r5 (1 : Int)).bind fun r17 => (Flaws_heldRuleS k r17.2 (1 : Int)).bind fun r18 => cond (decide (r18 < (0 : Int))) (some false) (cond (r18 != r17.1) (some false) ((Flaws_toRuleS k a0).bind fun r19 => (Fimpl_Normal k r19).bind fun r20 => (Flaws_eqRuleS k r20 r3).bind fun r22 => cond (!r22) (some false) ((Flaws_heldRuleS k r17.2 (1 : Int)).bind fun r23 => cond (decide (r23 < (0 : Int))) (some false) (cond (r23 != r17.1) (some false) (some true))))))))))
theorem ent8 : MG.Enters Try.prog 8 := ⟨Try.f8, Try.func8, rfl, by decide⟩
set_option maxHeartbeats 8000000 in
set_option maxRecDepth 100000 in
theorem Flaws_FnExactNormal_gives (k : Nat) (g0 : Bool) (a0 : List Tlaws_Rule) (r : Bool) (H : Flaws_FnExactNormal k a0 = some r) : Gives Try.prog 8 [V.one (Cell.sl g0 (List.map eTlaws_Rule a0))] [] [V.one (cL r)] [] := by
 refine Gives.intro Try.func8 rfl rfl rfl rfl ?_
 intro F hF hm
 unfold Flaws_FnExactNormal at H
 obtain ⟨K, hK⟩ : ∃ K, k ≤ K := ⟨k, Nat.le_refl k⟩
 refine WpC.seq (WpC.regionL ?_)
 refine L.assign hF rfl rfl rfl (L.nil ?_)
 refine WpC.seq (WpC.regionL ?_)
 refine L.assign hF rfl rfl rfl (L.nil ?_)
 refine WpC.seq (WpC.regionL ?_)
 refine L.move hF rfl rfl rfl ?_
 refine L.move hF rfl rfl rfl ?_
 obtain ⟨r1, hr1, H⟩ := bindS H
 refine L.call [false, false] [] [] 1 hF rfl rfl rfl ent36 rfl rfl rfl rfl rfl (Flaws_szRuleS_gives k g0 a0 (1048576 : Int) r1 hr1) rfl ?_
 refine L.assign hF rfl rfl rfl (L.nil ?_)
 refine WpC.seq (WpC.seq (WpC.regionL ?_))
 refine L.move hF rfl rfl rfl ?_
 refine L.bin hF rfl rfl rfl rfl rfl rfl (L.nil ?_)
 refine WpC.cond rfl (fun hc => ?_) (fun hc => ?_)
 ·replace H := condT hc H
  refine WpC.seq (WpC.regionL ?_)
  refine L.assign hF rfl rfl rfl (L.nil ?_)
  refine WpC.ret ?_
  cases H
  exact Leaves.ret rfl rfl rfl ⟨rfl, rfl⟩
 ·replace H := condF hc H
  refine WpC.skip (WpC.seq (WpC.regionL ?_))
  refine L.move hF rfl rfl rfl ?_
  obtain ⟨r2, hr2, H⟩ := bindS H
  refine L.call [false] [] [] 2 hF rfl rfl rfl ent38 rfl rfl rfl rfl rfl (Flaws_toRuleS_gives k g0 a0 r2 hr2) rfl ?_
  obtain ⟨r3, hr3, H⟩ := bindS H
  refine L.call [false] [2] [] 3 hF rfl rfl rfl ent37 rfl rfl rfl rfl rfl (Fspec_Normal_gives k false r2 r3 hr3) rfl ?_
  refine L.assign hF rfl rfl rfl (L.nil ?_)
  refine WpC.seq (WpC.regionL ?_)
  refine L.move hF rfl rfl rfl ?_
  obtain ⟨r4, hr4, H⟩ := bindS H
  refine L.call [false] [] [] 4 hF rfl rfl rfl ent38 rfl rfl rfl rfl rfl (Flaws_toRuleS_gives k g0 a0 r4 hr4) rfl ?_
  refine L.assign hF rfl rfl rfl (L.nil ?_)
  refine WpC.seq (WpC.regionL ?_)
  refine L.move hF rfl rfl rfl ?_
  obtain ⟨r5, hr5, H⟩ := bindS H
  refine L.call [false] [4] [] 5 hF rfl rfl rfl ent39 rfl rfl rfl rfl rfl (Fimpl_Normal_gives k false r4 r5 hr5) rfl ?_
  refine L.assign hF rfl rfl rfl (L.nil ?_)
  refine WpC.seq (WpC.seq (WpC.regionL ?_))
  refine L.move hF rfl rfl rfl ?_
  refine L.move hF rfl rfl rfl ?_
  obtain ⟨r7, hr7, H⟩ := bindS H
  refine L.call [false, false] [5, 3] [] 6 hF rfl rfl rfl ent18 rfl rfl rfl rfl rfl (Flaws_eqRuleS_gives k false false r5 r3 r7 hr7) rfl ?_
  refine L.not hF rfl rfl rfl (L.nil ?_)
  refine WpC.cond rfl (fun hc => ?_) (fun hc => ?_)
  ·replace H := condT hc H
   refine WpC.seq (WpC.regionL ?_)
   refine L.assign hF rfl rfl rfl (L.nil ?_)
   refine WpC.ret ?_
   cases H
   exact Leaves.ret rfl rfl rfl ⟨rfl, rfl⟩
  ·replace H := condF hc H
   refine WpC.skip (WpC.seq (WpC.seq (WpC.regionL ?_)))
   refine L.move hF rfl rfl rfl ?_
   refine L.move hF rfl rfl rfl ?_
   obtain ⟨r10, hr10, H⟩ := bindS H
   refine L.call [false] [] [] 7 hF rfl rfl rfl ent38 rfl rfl rfl rfl rfl (Flaws_toRuleS_gives k g0 a0 r10 hr10) rfl ?_
   obtain ⟨r11, hr11, H⟩ := bindS H
   refine L.call [false, false] [4, 7] [] 8 hF rfl rfl rfl ent18 rfl rfl rfl rfl rfl (Flaws_eqRuleS_gives k false false r4 r10 r11 hr11) rfl ?_
   refine L.not hF rfl rfl rfl (L.nil ?_)
   refine WpC.cond rfl (fun hc => ?_) (fun hc => ?_)
   ·replace H := condT hc H
    refine WpC.seq (WpC.regionL ?_)
    refine L.assign hF rfl rfl rfl (L.nil ?_)
    refine WpC.ret ?_
    cases H
    exact Leaves.ret rfl rfl rfl ⟨rfl, rfl⟩
   ·replace H := condF hc H
    refine WpC.skip (WpC.seq (WpC.regionL ?_))
    refine L.assign hF rfl rfl rfl (L.nil ?_)
    refine WpC.seq (WpC.regionL ?_)
    refine L.move hF rfl rfl rfl ?_
    refine L.move hF rfl rfl rfl ?_
    obtain ⟨r12, hr12, H⟩ := bindS H
    refine L.callB [true, false] [] [] 9 [0] hF rfl rfl rfl ent19 rfl rfl rfl rfl rfl (Flaws_markRuleS_gives k  r4 (1 : Int) r12 hr12) rfl rfl rfl ?_
    refine L.assign hF rfl rfl rfl (L.nil ?_)
    refine WpC.seq (WpC.seq (WpC.regionL ?_))
    refine L.move hF rfl rfl rfl ?_
    refine L.bin hF rfl rfl rfl rfl rfl rfl ?_
    refine L.move hF rfl rfl rfl ?_
    refine L.split (fun hc => ?_) (fun hc => ?_)
    ·replace H := condT hc H
     refine L.off hF rfl rfl ?_
     refine L.off hF rfl rfl ?_
     refine L.off hF rfl rfl ?_
     refine L.off hF rfl rfl ?_
     refine L.pick hF rfl rfl rfl rfl (L.nil ?_)
     refine WpC.cond rfl (fun _ => ?_) (fun hc => by cases hc)
     refine WpC.seq (WpC.regionL ?_)
     refine L.assign hF rfl rfl rfl (L.nil ?_)
     refine WpC.ret ?_
     cases H
     exact Leaves.ret rfl rfl rfl ⟨rfl, rfl⟩
    ·replace H := condF hc H
     refine L.move hF rfl rfl rfl ?_
     refine L.move hF rfl rfl rfl ?_
     obtain ⟨r16, hr16, H⟩ := bindS H
     refine L.call [false, false] [5, 3] [] 10 hF rfl rfl rfl ent18 rfl rfl rfl rfl rfl (Flaws_eqRuleS_gives k false false r5 r3 r16 hr16) rfl ?_
     refine L.not hF rfl rfl rfl ?_
     refine L.pick hF rfl rfl rfl rfl (L.nil ?_)
     refine WpC.cond rfl (fun hc => ?_) (fun hc => ?_)
     ·replace H := condT hc H
      refine WpC.seq (WpC.regionL ?_)
      refine L.assign hF rfl rfl rfl (L.nil ?_)
      refine WpC.ret ?_
      cases H
      exact Leaves.ret rfl rfl rfl ⟨rfl, rfl⟩
     ·replace H := condF hc H
      refine WpC.skip (WpC.seq (WpC.regionL ?_))
      refine L.assign hF rfl rfl rfl (L.nil ?_)
      refine WpC.seq (WpC.regionL ?_)
      refine L.move hF rfl rfl rfl ?_
      refine L.move hF rfl rfl rfl ?_
      obtain ⟨r17, hr17, H⟩ := bindS H
      refine L.callB [true, false] [] [] 11 [0] hF rfl rfl rfl ent19 rfl rfl rfl rfl rfl (Flaws_markRuleS_gives k  r5 (1 : Int) r17 hr17) rfl rfl rfl ?_
      refine L.assign hF rfl rfl rfl (L.nil ?_)
      refine WpC.seq (WpC.regionL ?_)
      refine L.assign hF rfl rfl rfl (L.nil ?_)
      refine WpC.seq (WpC.regionL ?_)
      refine L.move hF rfl rfl rfl ?_
      refine L.move hF rfl rfl rfl ?_
      obtain ⟨r18, hr18, H⟩ := bindS H
      refine L.call [false, false] [5] [] 12 hF rfl rfl rfl ent20 rfl rfl rfl rfl rfl (Flaws_heldRuleS_gives k false r17.2 (1 : Int) r18 hr18) rfl ?_
      refine L.assign hF rfl rfl rfl (L.nil ?_)
      refine WpC.seq (WpC.seq (WpC.regionL ?_))
      refine L.move hF rfl rfl rfl ?_
      refine L.bin hF rfl rfl rfl rfl rfl rfl (L.nil ?_)
      refine WpC.cond rfl (fun hc => ?_) (fun hc => ?_)
      ·replace H := condT hc H
       refine WpC.seq (WpC.regionL ?_)
       refine L.assign hF rfl rfl rfl (L.nil ?_)
       refine WpC.ret ?_
       cases H
       exact Leaves.ret rfl rfl rfl ⟨rfl, rfl⟩
      ·replace H := condF hc H
       refine WpC.skip (WpC.seq (WpC.seq (WpC.regionL ?_)))
       refine L.move hF rfl rfl rfl ?_
       refine L.move hF rfl rfl rfl ?_
       refine L.bin hF rfl rfl rfl rfl rfl rfl (L.nil ?_)
       refine WpC.cond rfl (fun hc => ?_) (fun hc => ?_)
       ·replace H := condT hc H
        refine WpC.seq (WpC.regionL ?_)
        refine L.assign hF rfl rfl rfl (L.nil ?_)
        refine WpC.ret ?_
        cases H
        exact Leaves.ret rfl rfl rfl ⟨rfl, rfl⟩
       ·replace H := condF hc H
        refine WpC.skip (WpC.seq (WpC.regionL ?_))
        refine L.move hF rfl rfl rfl ?_
        obtain ⟨r19, hr19, H⟩ := bindS H
        refine L.call [false] [] [] 13 hF rfl rfl rfl ent38 rfl rfl rfl rfl rfl (Flaws_toRuleS_gives k g0 a0 r19 hr19) rfl ?_
        obtain ⟨r20, hr20, H⟩ := bindS H
        refine L.call [false] [13] [] 14 hF rfl rfl rfl ent39 rfl rfl rfl rfl rfl (Fimpl_Normal_gives k false r19 r20 hr20) rfl ?_
        refine L.assign hF rfl rfl rfl (L.nil ?_)
        refine WpC.seq (WpC.seq (WpC.regionL ?_))
        refine L.move hF rfl rfl rfl ?_
        refine L.move hF rfl rfl rfl ?_
        obtain ⟨r22, hr22, H⟩ := bindS H
        refine L.call [false, false] [14, 3] [] 15 hF rfl rfl rfl ent18 rfl rfl rfl rfl rfl (Flaws_eqRuleS_gives k false false r20 r3 r22 hr22) rfl ?_
        refine L.not hF rfl rfl rfl (L.nil ?_)
        refine WpC.cond rfl (fun hc => ?_) (fun hc => ?_)
        ·replace H := condT hc H
         refine WpC.seq (WpC.regionL ?_)
         refine L.assign hF rfl rfl rfl (L.nil ?_)
         refine WpC.ret ?_
         cases H
         exact Leaves.ret rfl rfl rfl ⟨rfl, rfl⟩
        ·replace H := condF hc H
         refine WpC.skip (WpC.seq (WpC.regionL ?_))
         refine L.assign hF rfl rfl rfl (L.nil ?_)
         refine WpC.seq (WpC.regionL ?_)
         refine L.move hF rfl rfl rfl ?_
         refine L.move hF rfl rfl rfl ?_
         obtain ⟨r23, hr23, H⟩ := bindS H
         refine L.call [false, false] [5] [] 16 hF rfl rfl rfl ent20 rfl rfl rfl rfl rfl (Flaws_heldRuleS_gives k false r17.2 (1 : Int) r23 hr23) rfl ?_
         refine L.assign hF rfl rfl rfl (L.nil ?_)
         refine WpC.seq (WpC.seq (WpC.regionL ?_))
         refine L.move hF rfl rfl rfl ?_
         refine L.bin hF rfl rfl rfl rfl rfl rfl (L.nil ?_)
         refine WpC.cond rfl (fun hc => ?_) (fun hc => ?_)
         ·replace H := condT hc H
          refine WpC.seq (WpC.regionL ?_)
          refine L.assign hF rfl rfl rfl (L.nil ?_)
          refine WpC.ret ?_
          cases H
          exact Leaves.ret rfl rfl rfl ⟨rfl, rfl⟩
         ·replace H := condF hc H
          refine WpC.skip (WpC.seq (WpC.seq (WpC.regionL ?_)))
          refine L.move hF rfl rfl rfl ?_
          refine L.move hF rfl rfl rfl ?_
          refine L.bin hF rfl rfl rfl rfl rfl rfl (L.nil ?_)
          refine WpC.cond rfl (fun hc => ?_) (fun hc => ?_)
          ·replace H := condT hc H
           refine WpC.seq (WpC.regionL ?_)
           refine L.assign hF rfl rfl rfl (L.nil ?_)
           refine WpC.ret ?_
           cases H
           exact Leaves.ret rfl rfl rfl ⟨rfl, rfl⟩
          ·replace H := condF hc H
           refine WpC.skip (WpC.seq (WpC.regionL ?_))
           refine L.assign hF rfl rfl rfl (L.nil ?_)
           refine WpC.ret ?_
           cases H
           exact Leaves.ret rfl rfl rfl ⟨rfl, rfl⟩
theorem open39 : Go.MG.Opens Try.prog 39 (Go.MG.eR Go.MG.eI) (Go.MG.wfR Go.MG.wfI) := Go.MG.Opens.slice Try.underlying39 (Go.MG.Opens.int Try.underlying3) (fun _ => (by kernel_rfl : Try.prog.cellsOf 3 = 1).symm) (fun _ => rfl) (fun _ => rfl) (by kernel_rfl)
def wfTlaws_Rule (x : Tlaws_Rule) : Prop := Go.MG.wfI x.Kind ∧ (Go.MG.wfR Go.MG.wfI) x.Set ∧ Go.MG.wfI x.N
theorem open121 : Go.MG.Opens Try.prog 121 eTlaws_Rule wfTlaws_Rule := by
  intro H enc W fuel cs x h
  obtain ⟨n, hp⟩ := Go.MG.struct_parts Try.underlying121 (by kernel_rfl : Try.prog.cellsOf 121 = 3) (by kernel_rfl) h
  obtain ⟨c0, k0, y0, rfl, h0, hp⟩ := hp
  obtain ⟨c1, k1, y1, rfl, h1, hp⟩ := hp
  obtain ⟨c2, k2, y2, rfl, h2, hp⟩ := hp
  obtain rfl := hp
  obtain ⟨a0, r0, w0⟩ := (Go.MG.Opens.int Try.underlying3) _ _ _ _ _ _ h0
  obtain ⟨a1, r1, w1⟩ := open39 _ _ _ _ _ _ h1
  obtain ⟨a2, r2, w2⟩ := (Go.MG.Opens.int Try.underlying3) _ _ _ _ _ _ h2
  exact ⟨⟨a0, a1, a2⟩, (r0.append (r1.append (r2.append (rfl : Go.MG.RCs _ [] [])))), w0, w1, w2⟩
theorem open49 : Go.MG.Opens Try.prog 49 (Go.MG.eR eTlaws_Rule) (Go.MG.wfR wfTlaws_Rule) := Go.MG.Opens.slice Try.underlying49 open121 (fun _ => (by kernel_rfl : Try.prog.cellsOf 121 = 3).symm) (fun _ => rfl) (fun _ => rfl) (by kernel_rfl)
end Go.Proofs.Ytgjbgakcfcomdaa.M
