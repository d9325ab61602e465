import Derived.Test.YtgjbgakcfcomdaaMgZf
import Derived.Test.YtgjbgakcfcomdaaProg
namespace Go.Proofs.Ytgjbgakcfcomdaa.M
open Go Go.MG
set_option linter.unusedVariables false
set_option linter.unusedSimpArgs false
structure Timpl_Rule where
  Kind : Int
  Set : List Int
  N : Int
def eTimpl_Rule (x : Timpl_Rule) : List Cell := [cI x.Kind, Cell.ow 1 (List.map eI x.Set), cI x.N]
def bTimpl_Rule (g0 : Bool) (x : Timpl_Rule) : List Cell := [cI x.Kind, Cell.sl g0 (List.map eI x.Set), cI x.N]
structure Timpl_vars where
  s : List UInt8
  at_ : Int
  bad : Bool
def eTimpl_vars (x : Timpl_vars) : List Cell := [cS x.s, cI x.at_, cL x.bad]
def bTimpl_vars (x : Timpl_vars) : List Cell := [cS x.s, cI x.at_, cL x.bad]
theorem mixed : Try.prog.follows .mixedOrders = true := by kernel_rfl
theorem shape3 : MG.shape Try.prog 3 = some (false, 1) := by kernel_rfl
theorem shape4 : MG.shape Try.prog 4 = some (false, 1) := by kernel_rfl
theorem shape9 : MG.shape Try.prog 9 = some (false, 1) := by kernel_rfl
theorem shape39 : MG.shape Try.prog 39 = some (false, 1) := by kernel_rfl
theorem shape96 : MG.shape Try.prog 96 = some (true, 3) := by kernel_rfl
theorem info3 : Try.prog.info? 3 = some Try.t3 := by kernel_rfl
theorem info4 : Try.prog.info? 4 = some Try.t4 := by kernel_rfl
theorem info5 : Try.prog.info? 5 = some Try.t5 := by kernel_rfl
theorem info9 : Try.prog.info? 9 = some Try.t9 := by kernel_rfl
theorem info39 : Try.prog.info? 39 = some Try.t39 := by kernel_rfl
theorem info96 : Try.prog.info? 96 = some Try.t96 := by kernel_rfl
theorem info99 : Try.prog.info? 99 = some Try.t99 := by kernel_rfl
theorem built96 : builtA Try.prog 96 = fillA (fun x => ([(0, 1), (1, 1), (2, 1)] : List (Nat × Nat))[x]?) [cI (0 : Int), Cell.nil, cI (0 : Int)] := by kernel_rfl
theorem built99 : builtA Try.prog 99 = fillA (fun x => ([(0, 1), (1, 1), (2, 1)] : List (Nat × Nat))[x]?) [cS ([] : List UInt8), cI (0 : Int), cL false] := by kernel_rfl
abbrev bx (a b c d : Int) : List Cell := [cI a, cI b, cI c, cI d]
theorem Sa1 {π : Nat → Option Nat} {σ : St} {t0 : Nat} {s0 u0 : Slot} {l : List (Nat × Slot)} (k : SlotsOk π σ l) (h0 : renS π s0 = some u0 := by exact rfl) (g0 : σ.slots t0 = some u0 := by exact rfl) : SlotsOk π σ ((t0, s0) :: l) := ⟨⟨_, h0, g0⟩, k⟩
theorem Ra1 {π : Nat → Option Nat} {σ : St} {t0 q0 : Nat} {s0 : Row} {l : List (Nat × Row)} (k : RowsOk π σ l) (h0 : π t0 = some q0 := by exact rfl) (g0 : σ.H.rows q0 = some s0 := by exact rfl) : RowsOk π σ ((t0, s0) :: l) := ⟨⟨_, h0, g0⟩, k⟩
theorem Ba1 {π : Nat → Option Nat} {σ : St} {t0 q0 : Nat} {c0 d0 : List Cell} {l : List (Nat × List Cell)} (k : BoxesOk π σ l) (h0 : π t0 = some q0 := by exact rfl) (g0 : renCs π c0 = some d0 := by exact rfl) (e0 : σ.H.boxes q0 = some d0 := by exact rfl) : BoxesOk π σ ((t0, c0) :: l) := ⟨⟨_, _, h0, g0, e0⟩, k⟩
theorem Sa2 {π : Nat → Option Nat} {σ : St} {t0 t1 : Nat} {s0 u0 s1 u1 : Slot} {l : List (Nat × Slot)} (k : SlotsOk π σ l) (h0 : renS π s0 = some u0 := by exact rfl) (g0 : σ.slots t0 = some u0 := by exact rfl) (h1 : renS π s1 = some u1 := by exact rfl) (g1 : σ.slots t1 = some u1 := by exact rfl) : SlotsOk π σ ((t0, s0) :: (t1, s1) :: l) := ⟨⟨_, h0, g0⟩, ⟨_, h1, g1⟩, k⟩
theorem Ra2 {π : Nat → Option Nat} {σ : St} {t0 q0 t1 q1 : Nat} {s0 s1 : Row} {l : List (Nat × Row)} (k : RowsOk π σ l) (h0 : π t0 = some q0 := by exact rfl) (g0 : σ.H.rows q0 = some s0 := by exact rfl) (h1 : π t1 = some q1 := by exact rfl) (g1 : σ.H.rows q1 = some s1 := by exact rfl) : RowsOk π σ ((t0, s0) :: (t1, s1) :: l) := ⟨⟨_, h0, g0⟩, ⟨_, h1, g1⟩, k⟩
theorem Ba2 {π : Nat → Option Nat} {σ : St} {t0 q0 t1 q1 : Nat} {c0 d0 c1 d1 : List Cell} {l : List (Nat × List Cell)} (k : BoxesOk π σ l) (h0 : π t0 = some q0 := by exact rfl) (g0 : renCs π c0 = some d0 := by exact rfl) (e0 : σ.H.boxes q0 = some d0 := by exact rfl) (h1 : π t1 = some q1 := by exact rfl) (g1 : renCs π c1 = some d1 := by exact rfl) (e1 : σ.H.boxes q1 = some d1 := by exact rfl) : BoxesOk π σ ((t0, c0) :: (t1, c1) :: l) := ⟨⟨_, _, h0, g0, e0⟩, ⟨_, _, h1, g1, e1⟩, k⟩
theorem Sa4 {π : Nat → Option Nat} {σ : St} {t0 t1 t2 t3 : Nat} {s0 u0 s1 u1 s2 u2 s3 u3 : Slot} {l : List (Nat × Slot)} (k : SlotsOk π σ l) (h0 : renS π s0 = some u0 := by exact rfl) (g0 : σ.slots t0 = some u0 := by exact rfl) (h1 : renS π s1 = some u1 := by exact rfl) (g1 : σ.slots t1 = some u1 := by exact rfl) (h2 : renS π s2 = some u2 := by exact rfl) (g2 : σ.slots t2 = some u2 := by exact rfl) (h3 : renS π s3 = some u3 := by exact rfl) (g3 : σ.slots t3 = some u3 := by exact rfl) : SlotsOk π σ ((t0, s0) :: (t1, s1) :: (t2, s2) :: (t3, s3) :: l) := ⟨⟨_, h0, g0⟩, ⟨_, h1, g1⟩, ⟨_, h2, g2⟩, ⟨_, h3, g3⟩, k⟩
theorem Ra4 {π : Nat → Option Nat} {σ : St} {t0 q0 t1 q1 t2 q2 t3 q3 : Nat} {s0 s1 s2 s3 : Row} {l : List (Nat × Row)} (k : RowsOk π σ l) (h0 : π t0 = some q0 := by exact rfl) (g0 : σ.H.rows q0 = some s0 := by exact rfl) (h1 : π t1 = some q1 := by exact rfl) (g1 : σ.H.rows q1 = some s1 := by exact rfl) (h2 : π t2 = some q2 := by exact rfl) (g2 : σ.H.rows q2 = some s2 := by exact rfl) (h3 : π t3 = some q3 := by exact rfl) (g3 : σ.H.rows q3 = some s3 := by exact rfl) : RowsOk π σ ((t0, s0) :: (t1, s1) :: (t2, s2) :: (t3, s3) :: l) := ⟨⟨_, h0, g0⟩, ⟨_, h1, g1⟩, ⟨_, h2, g2⟩, ⟨_, h3, g3⟩, k⟩
theorem Ba4 {π : Nat → Option Nat} {σ : St} {t0 q0 t1 q1 t2 q2 t3 q3 : Nat} {c0 d0 c1 d1 c2 d2 c3 d3 : List Cell} {l : List (Nat × List Cell)} (k : BoxesOk π σ l) (h0 : π t0 = some q0 := by exact rfl) (g0 : renCs π c0 = some d0 := by exact rfl) (e0 : σ.H.boxes q0 = some d0 := by exact rfl) (h1 : π t1 = some q1 := by exact rfl) (g1 : renCs π c1 = some d1 := by exact rfl) (e1 : σ.H.boxes q1 = some d1 := by exact rfl) (h2 : π t2 = some q2 := by exact rfl) (g2 : renCs π c2 = some d2 := by exact rfl) (e2 : σ.H.boxes q2 = some d2 := by exact rfl) (h3 : π t3 = some q3 := by exact rfl) (g3 : renCs π c3 = some d3 := by exact rfl) (e3 : σ.H.boxes q3 = some d3 := by exact rfl) : BoxesOk π σ ((t0, c0) :: (t1, c1) :: (t2, c2) :: (t3, c3) :: l) := ⟨⟨_, _, h0, g0, e0⟩, ⟨_, _, h1, g1, e1⟩, ⟨_, _, h2, g2, e2⟩, ⟨_, _, h3, g3, e3⟩, k⟩
theorem Sa8 {π : Nat → Option Nat} {σ : St} {t0 t1 t2 t3 t4 t5 t6 t7 : Nat} {s0 u0 s1 u1 s2 u2 s3 u3 s4 u4 s5 u5 s6 u6 s7 u7 : Slot} {l : List (Nat × Slot)} (k : SlotsOk π σ l) (h0 : renS π s0 = some u0 := by exact rfl) (g0 : σ.slots t0 = some u0 := by exact rfl) (h1 : renS π s1 = some u1 := by exact rfl) (g1 : σ.slots t1 = some u1 := by exact rfl) (h2 : renS π s2 = some u2 := by exact rfl) (g2 : σ.slots t2 = some u2 := by exact rfl) (h3 : renS π s3 = some u3 := by exact rfl) (g3 : σ.slots t3 = some u3 := by exact rfl) (h4 : renS π s4 = some u4 := by exact rfl) (g4 : σ.slots t4 = some u4 := by exact rfl) (h5 : renS π s5 = some u5 := by exact rfl) (g5 : σ.slots t5 = some u5 := by exact rfl) (h6 : renS π s6 = some u6 := by exact rfl) (g6 : σ.slots t6 = some u6 := by exact rfl) (h7 : renS π s7 = some u7 := by exact rfl) (g7 : σ.slots t7 = some u7 := by exact rfl) : SlotsOk π σ ((t0, s0) :: (t1, s1) :: (t2, s2) :: (t3, s3) :: (t4, s4) :: (t5, s5) :: (t6, s6) :: (t7, s7) :: l) := ⟨⟨_, h0, g0⟩, ⟨_, h1, g1⟩, ⟨_, h2, g2⟩, ⟨_, h3, g3⟩, ⟨_, h4, g4⟩, ⟨_, h5, g5⟩, ⟨_, h6, g6⟩, ⟨_, h7, g7⟩, k⟩
theorem Ra8 {π : Nat → Option Nat} {σ : St} {t0 q0 t1 q1 t2 q2 t3 q3 t4 q4 t5 q5 t6 q6 t7 q7 : Nat} {s0 s1 s2 s3 s4 s5 s6 s7 : Row} {l : List (Nat × Row)} (k : RowsOk π σ l) (h0 : π t0 = some q0 := by exact rfl) (g0 : σ.H.rows q0 = some s0 := by exact rfl) (h1 : π t1 = some q1 := by exact rfl) (g1 : σ.H.rows q1 = some s1 := by exact rfl) (h2 : π t2 = some q2 := by exact rfl) (g2 : σ.H.rows q2 = some s2 := by exact rfl) (h3 : π t3 = some q3 := by exact rfl) (g3 : σ.H.rows q3 = some s3 := by exact rfl) (h4 : π t4 = some q4 := by exact rfl) (g4 : σ.H.rows q4 = some s4 := by exact rfl) (h5 : π t5 = some q5 := by exact rfl) (g5 : σ.H.rows q5 = some s5 := by exact rfl) (h6 : π t6 = some q6 := by exact rfl) (g6 : σ.H.rows q6 = some s6 := by exact rfl) (h7 : π t7 = some q7 := by exact rfl) (g7 : σ.H.rows q7 = some s7 := by exact rfl) : RowsOk π σ ((t0, s0) :: (t1, s1) :: (t2, s2) :: (t3, s3) :: (t4, s4) :: (t5, s5) :: (t6, s6) :: (t7, s7) :: l) := ⟨⟨_, h0, g0⟩, ⟨_, h1, g1⟩, ⟨_, h2, g2⟩, ⟨_, h3, g3⟩, ⟨_, h4, g4⟩, ⟨_, h5, g5⟩, ⟨_, h6, g6⟩, ⟨_, h7, g7⟩, k⟩
theorem Ba8 {π : Nat → Option Nat} {σ : St} {t0 q0 t1 q1 t2 q2 t3 q3 t4 q4 t5 q5 t6 q6 t7 q7 : Nat} {c0 d0 c1 d1 c2 d2 c3 d3 c4 d4 c5 d5 c6 d6 c7 d7 : List Cell} {l : List (Nat × List Cell)} (k : BoxesOk π σ l) (h0 : π t0 = some q0 := by exact rfl) (g0 : renCs π c0 = some d0 := by exact rfl) (e0 : σ.H.boxes q0 = some d0 := by exact rfl) (h1 : π t1 = some q1 := by exact rfl) (g1 : renCs π c1 = some d1 := by exact rfl) (e1 : σ.H.boxes q1 = some d1 := by exact rfl) (h2 : π t2 = some q2 := by exact rfl) (g2 : renCs π c2 = some d2 := by exact rfl) (e2 : σ.H.boxes q2 = some d2 := by exact rfl) (h3 : π t3 = some q3 := by exact rfl) (g3 : renCs π c3 = some d3 := by exact rfl) (e3 : σ.H.boxes q3 = some d3 := by exact rfl) (h4 : π t4 = some q4 := by exact rfl) (g4 : renCs π c4 = some d4 := by exact rfl) (e4 : σ.H.boxes q4 = some d4 := by exact rfl) (h5 : π t5 = some q5 := by exact rfl) (g5 : renCs π c5 = some d5 := by exact rfl) (e5 : σ.H.boxes q5 = some d5 := by exact rfl) (h6 : π t6 = some q6 := by exact rfl) (g6 : renCs π c6 = some d6 := by exact rfl) (e6 : σ.H.boxes q6 = some d6 := by exact rfl) (h7 : π t7 = some q7 := by exact rfl) (g7 : renCs π c7 = some d7 := by exact rfl) (e7 : σ.H.boxes q7 = some d7 := by exact rfl) : BoxesOk π σ ((t0, c0) :: (t1, c1) :: (t2, c2) :: (t3, c3) :: (t4, c4) :: (t5, c5) :: (t6, c6) :: (t7, c7) :: l) := ⟨⟨_, _, h0, g0, e0⟩, ⟨_, _, h1, g1, e1⟩, ⟨_, _, h2, g2, e2⟩, ⟨_, _, h3, g3, e3⟩, ⟨_, _, h4, g4, e4⟩, ⟨_, _, h5, g5, e5⟩, ⟨_, _, h6, g6, e6⟩, ⟨_, _, h7, g7, e7⟩, k⟩
theorem Atk {P : Program} {F : Fix} {ops : Array Oper} {Q : St → Prop} {fuel : Nat} {listed : Array Bool} {sl : Nat → Option Slot} {H : Heap} {σ1 : St} {o : Oper} (i : Nat) (ho : ops[i]? = some o) (hc : CalmAt P F sl H o) (hL : ∀ Q0 : St → Prop, Q0 σ1 → WpL P F ops Q0 [o] ⟨sl, H⟩) (k : WpA P F ops Q fuel (listed.setIfInBounds i true) σ1) (hs : Region.noSelect ops = true := by kernel_rfl) (hf : Region.free .any ops listed i = true := by kernel_rfl) (hr : (Region.ready .any ops listed).contains i = true := by kernel_rfl) (hv : kindV o.op = true := by exact rfl) : WpA P F ops Q (fuel + 1) listed ⟨sl, H⟩ := A.take i ho hs hf hr hv hc hL k
theorem Aof {P : Program} {F : Fix} {ops : Array Oper} {Q : St → Prop} {fuel : Nat} {listed : Array Bool} {sl : Nat → Option Slot} {H : Heap} {o : Oper} {N : Nat} (i : Nat) (ho : ops[i]? = some o) (hn : F.n = N) (k : WpA P F ops Q fuel (listed.setIfInBounds i true) ⟨setD sl o.dst (some (.tup [])), H⟩) (hs : Region.noSelect ops = true := by kernel_rfl) (hf : Region.free .any ops listed i = true := by kernel_rfl) (hr : (Region.ready .any ops listed).contains i = true := by kernel_rfl) (hv : kindV o.op = true := by exact rfl) (hg : guardOf ops sl o = some false := by exact rfl) (hd : dstB N o.dst = true := by exact rfl) : WpA P F ops Q (fuel + 1) listed ⟨sl, H⟩ := A.off i ho hs hf hr hv hn hg hd k
/-! ### Fspec_l1In -/
def Fspec_l1In (k : Nat) (a0 : Int) (a1 : Int) (a2 : Int) : Option Bool := cond (decide (a0 ≥ a1)) (some (decide (a0 ≤ a2))) (some false)
theorem ent121 : MG.Enters Try.prog 121 := ⟨Try.f121, Try.func121, rfl, by decide⟩
set_option maxHeartbeats 8000000 in
set_option maxRecDepth 100000 in
theorem Fspec_l1In_gives (k : Nat) (a0 : Int) (a1 : Int) (a2 : Int) (r : Bool) (H : Fspec_l1In k a0 a1 a2 = some r) : Gives Try.prog 121 [V.one (cI a0), V.one (cI a1), V.one (cI a2)] [] [V.one (cL r)] [] := by
 refine Gives.intro Try.func121 rfl rfl rfl rfl ?_
 intro F hF hm
 unfold Fspec_l1In at H
 obtain ⟨K, hK⟩ : ∃ K, k ≤ K := ⟨k, Nat.le_refl k⟩
 refine WpC.seq (WpC.regionL ?_)
 refine L.assign hF rfl rfl rfl (L.nil ?_)
 refine WpC.seq (WpC.regionL ?_)
 refine L.move hF rfl rfl rfl ?_
 refine L.move hF rfl rfl rfl ?_
 refine L.bin hF rfl rfl rfl rfl rfl rfl ?_
 refine L.move hF rfl rfl rfl ?_
 refine L.split (fun hc => ?_) (fun hc => ?_)
 ·replace H := condT hc H
  refine L.move hF rfl rfl rfl ?_
  refine L.move hF rfl rfl rfl ?_
  refine L.bin hF rfl rfl rfl rfl rfl rfl ?_
  refine L.pick hF rfl rfl rfl rfl ?_
  refine L.assign hF rfl rfl rfl (L.nil ?_)
  refine WpC.ret ?_
  cases H
  exact Leaves.ret rfl rfl rfl ⟨rfl, rfl⟩
 ·replace H := condF hc H
  refine L.off hF rfl rfl ?_
  refine L.off hF rfl rfl ?_
  refine L.off hF rfl rfl ?_
  refine L.pick hF rfl rfl rfl rfl ?_
  refine L.assign hF rfl rfl rfl (L.nil ?_)
  refine WpC.ret ?_
  cases H
  exact Leaves.ret rfl rfl rfl ⟨rfl, rfl⟩
/-! ### Fspec_Var -/
def Fspec_Var.l2 : Nat → Int → (List UInt8) → Option (List UInt8)
 | 0, _, _ => none
 | k2 + 1, v16, v17 => cond (decide (v16 ≥ (128 : Int))) (cond (decide ((2 * (v17.length + ([(ofI (IntKind.i64.wrap ((128 : Int) + (Int.tmod v16 (128 : Int)))))] : List UInt8).length) + 192) * 1 ≤ 281474976710656)) ((Fspec_Var.l2 k2) (IntKind.i64.wrap (Int.tdiv v16 (128 : Int))) (v17 ++ ([(ofI (IntKind.i64.wrap ((128 : Int) + (Int.tmod v16 (128 : Int)))))] : List UInt8))) none) (cond (decide ((2 * (v17.length + ([(ofI v16)] : List UInt8).length) + 192) * 1 ≤ 281474976710656)) (some (v17 ++ ([(ofI v16)] : List UInt8))) none)
def Fspec_Var (k : Nat) (a0 : Int) : Option (List UInt8) := (Fspec_l1In k a0 (0 : Int) (562949953421311 : Int)).bind fun r2 => cond (!r2) (some ([] : List UInt8)) (Fspec_Var.l2 k a0 ([] : List UInt8))
theorem ent68 : MG.Enters Try.prog 68 := ⟨Try.f68, Try.func68, rfl, by decide⟩
set_option maxHeartbeats 8000000 in
set_option maxRecDepth 100000 in
theorem Fspec_Var_gives (k : Nat) (a0 : Int) (r : List UInt8) (H : Fspec_Var k a0 = some r) : Gives Try.prog 68 [V.one (cI a0)] [] [V.one (cS r)] [] := by
 refine Gives.intro Try.func68 rfl rfl rfl rfl ?_
 intro F hF hm
 unfold Fspec_Var at H
 obtain ⟨K, hK⟩ : ∃ K, k ≤ K := ⟨k, Nat.le_refl k⟩
 refine WpC.seq (WpC.regionL ?_)
 refine L.assign hF rfl rfl rfl (L.nil ?_)
 refine WpC.seq (WpC.seq (WpC.regionL ?_))
 refine L.move hF rfl rfl rfl ?_
 obtain ⟨r2, hr2, H⟩ := bindS H
 refine L.call [false, false, false] [] [] 1 hF rfl rfl rfl ent121 rfl rfl rfl rfl rfl (Fspec_l1In_gives k  a0 (0 : Int) (562949953421311 : Int) r2 hr2) rfl ?_
 refine L.not hF rfl rfl rfl (L.nil ?_)
 refine WpC.cond rfl (fun hc => ?_) (fun hc => ?_)
 ·replace H := condT hc H
  refine WpC.seq (WpC.regionL ?_)
  refine L.assign hF rfl rfl rfl (L.nil ?_)
  refine WpC.ret ?_
  cases H
  exact Leaves.ret rfl rfl rfl ⟨rfl, rfl⟩
 ·replace H := condF hc H
  refine WpC.skip (WpC.seq (WpC.regionL ?_))
  refine L.buildSlice (e := eB) 2 ([] : List UInt8) Try.underlying33 info5 rfl rfl rfl hF rfl rfl rfl rfl rfl rfl rfl rfl ?_
  refine L.assign hF rfl rfl rfl (L.nil ?_)
  refine WpC.seq (WpC.block ?_)
  refine WpC.loopL (P := Try.prog) (fun n σ => ∃ v16 : Int, ∃ v17 : List UInt8, n ≤ K ∧ Fspec_Var.l2 n v16 v17 = some r ∧ σ = mkSt [(0, one (cI v16)), (3, one (Cell.own 0))] [(0, ⟨1, List.map eB v17⟩)] [] 1) k ⟨_, ⟨a0, ([] : List UInt8), by omega, H, rfl⟩, Le.mk [(0, 2)] hm rfl (Sa2 trivial) (Ra1 trivial) trivial⟩ ?_
  clear H
  rintro k2 _ ⟨v16, v17, hk2, H, rfl⟩
  cases k2 with
  | zero => cases H
  | succ k2 =>
   rw [Fspec_Var.l2] at H
   refine WpC.seq (WpC.seq (WpC.regionL ?_))
   refine L.move hF rfl rfl rfl ?_
   refine L.bin hF rfl rfl rfl rfl rfl rfl (L.nil ?_)
   refine WpC.cond rfl (fun hc => ?_) (fun hc => ?_)
   ·replace H := condT hc H
    refine WpC.skip (WpC.block (WpC.seq (WpC.regionL ?_)))
    refine L.move hF rfl rfl rfl ?_
    refine L.move hF rfl rfl rfl ?_
    refine L.rem hF rfl rfl rfl rfl (by decide) ?_
    refine L.bin hF rfl rfl rfl rfl rfl rfl ?_
    refine L.toB Try.underlying3 Try.underlying5 hF rfl rfl rfl ?_
    refine L.buildSlice (e := eB) 1 ([(ofI (IntKind.i64.wrap ((128 : Int) + (Int.tmod v16 (128 : Int)))))] : List UInt8) Try.underlying33 info5 rfl rfl rfl hF rfl rfl rfl rfl rfl rfl rfl rfl ?_
    obtain ⟨h18, H⟩ := condG H
    refine L.append (xs := v17) (ys := ([(ofI (IntKind.i64.wrap ((128 : Int) + (Int.tmod v16 (128 : Int)))))] : List UInt8)) (e := eB) 2 Try.underlying33 info5 rfl rfl hF rfl rfl rfl rfl rfl rfl rfl rfl (fun _ => rfl) (fun _ _ h1 h2 => by cases h1; cases h2; rfl) ⟨_, Try.underlying33⟩ (of_decide_eq_true h18) rfl rfl ?_
    refine L.assign hF rfl rfl rfl (L.nil ?_)
    refine WpC.regionL ?_
    refine L.move hF rfl rfl rfl ?_
    refine L.quo hF rfl rfl rfl rfl (by decide) ?_
    refine L.assign hF rfl rfl rfl (L.nil ?_)
    exact ⟨k2, _, by omega, ⟨(IntKind.i64.wrap (Int.tdiv v16 (128 : Int))), (v17 ++ ([(ofI (IntKind.i64.wrap ((128 : Int) + (Int.tmod v16 (128 : Int)))))] : List UInt8)), by omega, H, rfl⟩, Le.mk [(0, 2)] hm rfl (Sa2 trivial) (Ra1 trivial) trivial⟩
   ·replace H := condF hc H
    refine WpC.exit (WpC.seq (WpC.regionL ?_))
    refine L.move hF rfl rfl rfl ?_
    refine L.move hF rfl rfl rfl ?_
    refine L.toB Try.underlying3 Try.underlying5 hF rfl rfl rfl ?_
    refine L.buildSlice (e := eB) 1 ([(ofI v16)] : List UInt8) Try.underlying33 info5 rfl rfl rfl hF rfl rfl rfl rfl rfl rfl rfl rfl ?_
    obtain ⟨h19, H⟩ := condG H
    refine L.append (xs := v17) (ys := ([(ofI v16)] : List UInt8)) (e := eB) 2 Try.underlying33 info5 rfl rfl hF rfl rfl rfl rfl rfl rfl rfl rfl (fun _ => rfl) (fun _ _ h1 h2 => by cases h1; cases h2; rfl) ⟨_, Try.underlying33⟩ (of_decide_eq_true h19) rfl rfl ?_
    refine L.b2s (xs := (v17 ++ ([(ofI v16)] : List UInt8))) Try.underlying33 Try.underlying5 Try.underlying9 hF rfl rfl rfl rfl ?_
    refine L.assign hF rfl rfl rfl (L.nil ?_)
    refine WpC.ret ?_
    cases H
    exact Leaves.ret rfl rfl rfl ⟨rfl, rfl⟩
/-! ### Fspec_ReadVar -/
def Fspec_ReadVar.l26 (cl22 : (List UInt8) → Int → Option (Int × Int)) : Nat → (List UInt8) → Int → Int → Int → Option (Int × Int)
 | 0, _, _, _, _ => none
 | k26 + 1, v411, v412, v413, v414 => cond (decide (v414 ≥ (0 : Int))) ((at? v411 v414).bind fun b416 => (Fspec_ReadVar.l26 cl22 k26) v411 v412 (IntKind.i64.wrap ((IntKind.i64.wrap (v413 * (128 : Int))) + (Int.tmod (b416.toNat : Int) (128 : Int)))) (IntKind.i64.wrap (v414 - (1 : Int)))) ((Fspec_Var k26 v413).bind fun r417 => (cut? v411 (0 : Int) v412).bind fun b418 => cond (r417 == b418) (some (v413, v412)) (cl22 v411 (IntKind.i64.wrap (v412 + (1 : Int)))))
def Fspec_ReadVar.l22 : Nat → (List UInt8) → Int → Option (Int × Int)
 | 0, _, _ => none
 | k22 + 1, v345, v346 => cond (decide (v346 ≤ (7 : Int))) (cond (decide (v346 ≤ (v345.length : Int))) (Fspec_ReadVar.l26 (Fspec_ReadVar.l22 k22) k22 v345 v346 (0 : Int) (IntKind.i64.wrap (v346 - (1 : Int)))) (some ((0 : Int), (0 : Int)))) (some ((0 : Int), (0 : Int)))
def Fspec_ReadVar (k : Nat) (a0 : List UInt8) : Option (Int × Int) := Fspec_ReadVar.l22 k a0 (1 : Int)
theorem ent122 : MG.Enters Try.prog 122 := ⟨Try.f122, Try.func122, rfl, by decide⟩
set_option maxHeartbeats 8000000 in
set_option maxRecDepth 100000 in
theorem Fspec_ReadVar_gives (k : Nat) (a0 : List UInt8) (r : Int × Int) (H : Fspec_ReadVar k a0 = some r) : Gives Try.prog 122 [V.one (cS a0)] [] [V.one (cI r.1), V.one (cI r.2)] [] := by
 refine Gives.intro Try.func122 rfl rfl rfl rfl ?_
 intro F hF hm
 unfold Fspec_ReadVar at H
 obtain ⟨K, hK⟩ : ∃ K, k ≤ K := ⟨k, Nat.le_refl k⟩
 refine WpC.seq (WpC.regionL ?_)
 refine L.assign hF rfl rfl rfl ?_
 refine L.assign hF rfl rfl rfl (L.nil ?_)
 refine WpC.seq (WpC.seq (WpC.regionL ?_))
 refine L.assign hF rfl rfl rfl (L.nil ?_)
 refine WpC.block ?_
 refine WpC.loopL (P := Try.prog) (fun n σ => ∃ v345 : List UInt8, ∃ v346 : Int, n ≤ K ∧ Fspec_ReadVar.l22 n v345 v346 = some r ∧ σ = mkSt [(0, one (cS v345)), (4, one (cI v346))] [] [] 0) k ⟨_, ⟨a0, (1 : Int), by omega, H, rfl⟩, Le.mk [] hm rfl (Sa2 trivial) trivial trivial⟩ ?_
 clear H
 rintro k22 _ ⟨v345, v346, hk22, H, rfl⟩
 cases k22 with
 | zero => cases H
 | succ k22 =>
  rw [Fspec_ReadVar.l22] at H
  refine WpC.seq (WpC.seq (WpC.regionL ?_))
  refine L.move hF rfl rfl rfl ?_
  refine L.bin hF rfl rfl rfl rfl rfl rfl ?_
  refine L.move hF rfl rfl rfl ?_
  refine L.split (fun hc => ?_) (fun hc => ?_)
  ·replace H := condT hc H
   refine L.move hF rfl rfl rfl ?_
   refine L.move hF rfl rfl rfl ?_
   refine L.lenS Try.underlying9 hF rfl rfl rfl ?_
   refine L.bin hF rfl rfl rfl rfl rfl rfl ?_
   refine L.pick hF rfl rfl rfl rfl (L.nil ?_)
   refine WpC.cond rfl (fun hc => ?_) (fun hc => ?_)
   ·replace H := condT hc H
    refine WpC.skip (WpC.seq (WpC.block (WpC.seq (WpC.regionL ?_))))
    refine L.assign hF rfl rfl rfl (L.nil ?_)
    refine WpC.seq (WpC.seq (WpC.regionL ?_))
    refine L.move hF rfl rfl rfl ?_
    refine L.bin hF rfl rfl rfl rfl rfl rfl ?_
    refine L.assign hF rfl rfl rfl (L.nil ?_)
    refine WpC.block ?_
    refine WpC.loopL (P := Try.prog) (fun n σ => ∃ v411 : List UInt8, ∃ v412 : Int, ∃ v413 : Int, ∃ v414 : Int, n ≤ K ∧ Fspec_ReadVar.l26 (Fspec_ReadVar.l22 k22) n v411 v412 v413 v414 = some r ∧ σ = mkSt [(0, one (cS v411)), (4, one (cI v412)), (5, one (cI v413)), (6, one (cI v414))] [] [] 0) k22 ⟨_, ⟨v345, v346, (0 : Int), (IntKind.i64.wrap (v346 - (1 : Int))), by omega, H, rfl⟩, Le.mk [] hm rfl (Sa4 trivial) trivial trivial⟩ ?_
    clear H
    rintro k26 _ ⟨v411, v412, v413, v414, hk26, H, rfl⟩
    cases k26 with
    | zero => cases H
    | succ k26 =>
     rw [Fspec_ReadVar.l26] at H
     refine WpC.seq (WpC.seq (WpC.regionL ?_))
     refine L.move hF rfl rfl rfl ?_
     refine L.bin hF rfl rfl rfl rfl rfl rfl (L.nil ?_)
     refine WpC.cond rfl (fun hc => ?_) (fun hc => ?_)
     ·replace H := condT hc H
      refine WpC.skip (WpC.seq (WpC.block (WpC.regionL ?_)))
      refine L.move hF rfl rfl rfl ?_
      refine L.bin hF rfl rfl rfl rfl rfl rfl ?_
      refine L.move hF rfl rfl rfl ?_
      refine L.move hF rfl rfl rfl ?_
      obtain ⟨b416, hb416, H⟩ := bindS H
      refine L.idxS Try.underlying9 hF rfl rfl rfl rfl hb416 ?_
      refine L.ofB Try.underlying5 Try.underlying3 hF rfl rfl rfl ?_
      refine L.rem hF rfl rfl rfl rfl (by decide) ?_
      refine L.bin hF rfl rfl rfl rfl rfl rfl ?_
      refine L.assign hF rfl rfl rfl (L.nil ?_)
      refine WpC.regionL ?_
      refine L.move hF rfl rfl rfl ?_
      refine L.bin hF rfl rfl rfl rfl rfl rfl ?_
      refine L.assign hF rfl rfl rfl (L.nil ?_)
      exact ⟨k26, _, by omega, ⟨v411, v412, (IntKind.i64.wrap ((IntKind.i64.wrap (v413 * (128 : Int))) + (Int.tmod (b416.toNat : Int) (128 : Int)))), (IntKind.i64.wrap (v414 - (1 : Int))), by omega, H, rfl⟩, Le.mk [] hm rfl (Sa4 trivial) trivial trivial⟩
     ·replace H := condF hc H
      refine WpC.exit (WpC.seq ?_)
      obtain ⟨r417, hr417, H⟩ := bindS H
      obtain ⟨b418, hb418, H⟩ := bindS H
      refine A.begin mixed rfl rfl ?_
      intro W hI hO
      refine hI _ _ _ ?_
      refine Atk 0 rfl (Ca.move) (fun Q0 k0 => L.move hF rfl rfl rfl (L.nil k0)) ?_
      refine Atk 2 rfl (Ca.move) (fun Q0 k0 => L.move hF rfl rfl rfl (L.nil k0)) ?_
      refine Atk 3 rfl (Ca.move) (fun Q0 k0 => L.move hF rfl rfl rfl (L.nil k0)) ?_
      refine Atk 4 rfl (Ca.slice) (fun Q0 k0 => L.cutS Try.underlying9 hF rfl rfl rfl rfl rfl hb418 (L.nil k0)) ?_
      refine A.all [1] (by kernel_rfl) rfl ⟨⟨_, rfl, ?_⟩, trivial⟩
      refine L.call [false] [] [] 0 hF rfl rfl rfl ent68 rfl rfl rfl rfl rfl (Fspec_Var_gives k26  v413 r417 hr417) rfl (L.nil ?_)
      refine Atk 5 rfl (Ca.bin rfl rfl (calm_str _ _ _ _ _ _)) (fun Q0 k0 => L.binS hF rfl rfl rfl rfl rfl (L.nil k0)) ?_
      refine A.le (τ := mkSt [(0, one (cS v411)), (4, one (cI v412)), (5, one (cI v413)), (36, one (cL (r417 == b418)))] [] [] 0) (Le.mk [] hm rfl (Sa4 trivial) trivial trivial) ?_
      refine A.done (by kernel_rfl) ?_
      refine WpC.cond rfl (fun hc => ?_) (fun hc => ?_)
      ·replace H := condT hc H
       refine WpC.seq (WpC.regionL ?_)
       refine L.move hF rfl rfl rfl ?_
       refine L.move hF rfl rfl rfl ?_
       refine L.assign hF rfl rfl rfl ?_
       refine L.assign hF rfl rfl rfl (L.nil ?_)
       refine WpC.ret ?_
       cases H
       exact Leaves.ret rfl rfl rfl ⟨rfl, rfl⟩
      ·replace H := condF hc H
       refine WpC.skip (WpC.regionL ?_)
       refine L.move hF rfl rfl rfl ?_
       refine L.bin hF rfl rfl rfl rfl rfl rfl ?_
       refine L.assign hF rfl rfl rfl (L.nil ?_)
       exact ⟨k22, _, by omega, ⟨v411, (IntKind.i64.wrap (v412 + (1 : Int))), by omega, H, rfl⟩, Le.mk [] hm rfl (Sa2 trivial) trivial trivial⟩
   ·replace H := condF hc H
    refine WpC.exit (WpC.seq (WpC.regionL ?_))
    refine L.assign hF rfl rfl rfl ?_
    refine L.assign hF rfl rfl rfl (L.nil ?_)
    refine WpC.ret ?_
    cases H
    exact Leaves.ret rfl rfl rfl ⟨rfl, rfl⟩
  ·replace H := condF hc H
   refine L.off hF rfl rfl ?_
   refine L.off hF rfl rfl ?_
   refine L.off hF rfl rfl ?_
   refine L.off hF rfl rfl ?_
   refine L.pick hF rfl rfl rfl rfl (L.nil ?_)
   refine WpC.cond rfl (fun hc => by cases hc) (fun _ => ?_)
   refine WpC.exit (WpC.seq (WpC.regionL ?_))
   refine L.assign hF rfl rfl rfl ?_
   refine L.assign hF rfl rfl rfl (L.nil ?_)
   refine WpC.ret ?_
   cases H
   exact Leaves.ret rfl rfl rfl ⟨rfl, rfl⟩
/-! ### Fspec_l17Vars -/
def Fspec_l17Vars.j26 (cl22 : (List UInt8) → Int → Int → (List Int) → Int → Option (List Int × Int)) (k : Nat) (v182 : List UInt8) (v183 : Int) (v184 : Int) (v185 : List Int) (v186 : Int) (v187 : Bool) : Option (List Int × Int) := cond v187 (some (v185, (-1 : Int))) ((cut? v182 v183 (v182.length : Int)).bind fun b188 => (Fspec_ReadVar k b188).bind fun r189 => cond (r189.2 == (0 : Int)) (some (v185, (-1 : Int))) (cond (decide ((2 * (v185.length + ([r189.1] : List Int).length) + 192) * 8 ≤ 281474976710656)) (cl22 v182 (IntKind.i64.wrap (v183 + r189.2)) v184 (v185 ++ ([r189.1] : List Int)) (IntKind.i64.wrap (v186 + (1 : Int)))) none))
def Fspec_l17Vars.l22 : Nat → (List UInt8) → Int → Int → (List Int) → Int → Option (List Int × Int)
 | 0, _, _, _, _, _ => none
 | k22 + 1, v156, v157, v158, v159, v160 => cond (decide (v160 < v158)) (cond (decide (v157 < (0 : Int))) (Fspec_l17Vars.j26 (Fspec_l17Vars.l22 k22) k22 v156 v157 v158 v159 v160 true) (Fspec_l17Vars.j26 (Fspec_l17Vars.l22 k22) k22 v156 v157 v158 v159 v160 (decide (v157 > (v156.length : Int))))) (some (v159, v157))
def Fspec_l17Vars (k : Nat) (a0 : List UInt8) (a1 : Int) (a2 : Int) : Option (List Int × Int) := Fspec_l17Vars.l22 k a0 a1 a2 ([] : List Int) (0 : Int)
theorem ent57 : MG.Enters Try.prog 57 := ⟨Try.f57, Try.func57, rfl, by decide⟩
set_option maxHeartbeats 8000000 in
set_option maxRecDepth 100000 in
theorem Fspec_l17Vars_gives (k : Nat) (a0 : List UInt8) (a1 : Int) (a2 : Int) (r : List Int × Int) (H : Fspec_l17Vars k a0 a1 a2 = some r) : Gives Try.prog 57 [V.one (cS a0), V.one (cI a1), V.one (cI a2)] [] [V.one (Cell.ow 1 (List.map eI r.1)), V.one (cI r.2)] [] := by
 refine Gives.intro Try.func57 rfl rfl rfl rfl ?_
 intro F hF hm
 unfold Fspec_l17Vars at H
 obtain ⟨K, hK⟩ : ∃ K, k ≤ K := ⟨k, Nat.le_refl k⟩
 refine WpC.seq (WpC.regionL ?_)
 refine L.assign hF rfl rfl rfl ?_
 refine L.assign hF rfl rfl rfl (L.nil ?_)
 refine WpC.seq (WpC.regionL ?_)
 refine L.buildSlice (e := eI) 3 ([] : List Int) Try.underlying39 info3 rfl rfl rfl hF rfl rfl rfl rfl rfl rfl rfl rfl ?_
 refine L.assign hF rfl rfl rfl (L.nil ?_)
 refine WpC.seq (WpC.seq (WpC.regionL ?_))
 refine L.assign hF rfl rfl rfl (L.nil ?_)
 refine WpC.block ?_
 refine WpC.loopL (P := Try.prog) (fun n σ => ∃ v156 : List UInt8, ∃ v157 : Int, ∃ v158 : Int, ∃ v159 : List Int, ∃ v160 : Int, n ≤ K ∧ Fspec_l17Vars.l22 n v156 v157 v158 v159 v160 = some r ∧ σ = mkSt [(0, one (cS v156)), (1, one (cI v157)), (2, one (cI v158)), (8, one (Cell.own 0)), (9, one (cI v160))] [(0, ⟨1, List.map eI v159⟩)] [] 1) k ⟨_, ⟨a0, a1, a2, ([] : List Int), (0 : Int), by omega, H, rfl⟩, Le.mk [(0, 3)] hm rfl (Sa4 (Sa1 trivial)) (Ra1 trivial) trivial⟩ ?_
 clear H
 rintro k22 _ ⟨v156, v157, v158, v159, v160, hk22, H, rfl⟩
 cases k22 with
 | zero => cases H
 | succ k22 =>
  rw [Fspec_l17Vars.l22] at H
  refine WpC.seq (WpC.seq (WpC.regionL ?_))
  refine L.move hF rfl rfl rfl ?_
  refine L.move hF rfl rfl rfl ?_
  refine L.bin hF rfl rfl rfl rfl rfl rfl (L.nil ?_)
  refine WpC.cond rfl (fun hc => ?_) (fun hc => ?_)
  ·replace H := condT hc H
   refine WpC.skip (WpC.seq (WpC.block (WpC.seq ?_)))
   refine WpC.join (fun σ => ∃ kj26 : Nat, ∃ v182 : List UInt8, ∃ v183 : Int, ∃ v184 : Int, ∃ v185 : List Int, ∃ v186 : Int, ∃ v187 : Bool, kj26 ≤ K ∧ Fspec_l17Vars.j26 (Fspec_l17Vars.l22 k22) kj26 v182 v183 v184 v185 v186 v187 = some r ∧ σ = mkSt [(0, one (cS v182)), (1, one (cI v183)), (2, one (cI v184)), (8, one (Cell.own 0)), (9, one (cI v186)), (25, one (cL v187))] [(0, ⟨1, List.map eI v185⟩)] [] 1) ?_ ?_
   ·rintro _ ⟨kj26, v182, v183, v184, v185, v186, v187, hkj26, H, rfl⟩
    unfold Fspec_l17Vars.j26 at H
    refine WpC.cond rfl (fun hc => ?_) (fun hc => ?_)
    ·replace H := condT hc H
     refine WpC.seq (WpC.regionL ?_)
     refine L.move hF rfl rfl rfl ?_
     refine L.assign hF rfl rfl rfl ?_
     refine L.assign hF rfl rfl rfl (L.nil ?_)
     refine WpC.ret ?_
     cases H
     exact Leaves.ret rfl rfl rfl ⟨rfl, rfl⟩
    ·replace H := condF hc H
     refine WpC.skip (WpC.seq (WpC.regionL ?_))
     refine L.move hF rfl rfl rfl ?_
     refine L.move hF rfl rfl rfl ?_
     obtain ⟨b188, hb188, H⟩ := bindS H
     refine L.cutS Try.underlying9 hF rfl rfl rfl rfl rfl hb188 ?_
     obtain ⟨r189, hr189, H⟩ := bindS H
     refine L.call [false] [] [] 1 hF rfl rfl rfl ent122 rfl rfl rfl rfl rfl (Fspec_ReadVar_gives kj26  b188 r189 hr189) rfl ?_
     refine L.move hF rfl rfl rfl ?_
     refine L.extract hF rfl rfl rfl rfl ?_
     refine L.extract hF rfl rfl rfl rfl ?_
     refine L.assign hF rfl rfl rfl ?_
     refine L.assign hF rfl rfl rfl (L.nil ?_)
     refine WpC.seq (WpC.seq (WpC.regionL ?_))
     refine L.move hF rfl rfl rfl ?_
     refine L.bin hF rfl rfl rfl rfl rfl rfl (L.nil ?_)
     refine WpC.cond rfl (fun hc => ?_) (fun hc => ?_)
     ·replace H := condT hc H
      refine WpC.seq (WpC.regionL ?_)
      refine L.move hF rfl rfl rfl ?_
      refine L.assign hF rfl rfl rfl ?_
      refine L.assign hF rfl rfl rfl (L.nil ?_)
      refine WpC.ret ?_
      cases H
      exact Leaves.ret rfl rfl rfl ⟨rfl, rfl⟩
     ·replace H := condF hc H
      refine WpC.skip (WpC.seq (WpC.regionL ?_))
      refine L.move hF rfl rfl rfl ?_
      refine L.move hF rfl rfl rfl ?_
      refine L.buildSlice (e := eI) 3 ([r189.1] : List Int) Try.underlying39 info3 rfl rfl rfl hF rfl rfl rfl rfl rfl rfl rfl rfl ?_
      obtain ⟨h190, H⟩ := condG H
      refine L.append (xs := v185) (ys := ([r189.1] : List Int)) (e := eI) 4 Try.underlying39 info3 rfl rfl hF rfl rfl rfl rfl rfl rfl rfl rfl (fun _ => rfl) (fun _ _ h1 h2 => by cases h1; cases h2; rfl) ⟨_, Try.underlying39⟩ (of_decide_eq_true h190) rfl rfl ?_
      refine L.assign hF rfl rfl rfl (L.nil ?_)
      refine WpC.regionL ?_
      refine L.move hF rfl rfl rfl ?_
      refine L.move hF rfl rfl rfl ?_
      refine L.bin hF rfl rfl rfl rfl rfl rfl ?_
      refine L.assign hF rfl rfl rfl (L.nil ?_)
      refine WpC.regionL ?_
      refine L.move hF rfl rfl rfl ?_
      refine L.bin hF rfl rfl rfl rfl rfl rfl ?_
      refine L.assign hF rfl rfl rfl (L.nil ?_)
      exact ⟨k22, _, by omega, ⟨v182, (IntKind.i64.wrap (v183 + r189.2)), v184, (v185 ++ ([r189.1] : List Int)), (IntKind.i64.wrap (v186 + (1 : Int))), by omega, H, rfl⟩, Le.mk [(0, 4)] hm rfl (Sa4 (Sa1 trivial)) (Ra1 trivial) trivial⟩
   ·refine WpC.regionL ?_
    refine L.move hF rfl rfl rfl ?_
    refine L.bin hF rfl rfl rfl rfl rfl rfl ?_
    refine L.move hF rfl rfl rfl ?_
    refine L.split (fun hc => ?_) (fun hc => ?_)
    ·replace H := condT hc H
     refine L.off hF rfl rfl ?_
     refine L.off hF rfl rfl ?_
     refine L.off hF rfl rfl ?_
     refine L.off hF rfl rfl ?_
     refine L.pick hF rfl rfl rfl rfl (L.nil ?_)
     exact ⟨_, ⟨k22, v156, v157, v158, v159, v160, true, by omega, H, rfl⟩, Le.mk [(0, 0)] hm rfl (Sa4 (Sa2 trivial)) (Ra1 trivial) trivial⟩
    ·replace H := condF hc H
     refine L.move hF rfl rfl rfl ?_
     refine L.move hF rfl rfl rfl ?_
     refine L.lenS Try.underlying9 hF rfl rfl rfl ?_
     refine L.bin hF rfl rfl rfl rfl rfl rfl ?_
     refine L.pick hF rfl rfl rfl rfl (L.nil ?_)
     exact ⟨_, ⟨k22, v156, v157, v158, v159, v160, (decide (v157 > (v156.length : Int))), by omega, H, rfl⟩, Le.mk [(0, 0)] hm rfl (Sa4 (Sa2 trivial)) (Ra1 trivial) trivial⟩
  ·replace H := condF hc H
   refine WpC.exit (WpC.seq (WpC.regionL ?_))
   refine L.move hF rfl rfl rfl ?_
   refine L.move hF rfl rfl rfl ?_
   refine L.assign hF rfl rfl rfl ?_
   refine L.assign hF rfl rfl rfl (L.nil ?_)
   refine WpC.ret ?_
   cases H
   exact Leaves.ret rfl rfl rfl ⟨rfl, rfl⟩
/-! ### Fspec_l17Set -/
def Fspec_l17Set.j8 (cl7 : (List Int) → Int → Option Bool) (k : Nat) (v107 : List Int) (v108 : Int) : Option Bool := cl7 v107 (IntKind.i64.wrap (v108 + (1 : Int)))
def Fspec_l17Set.l7 : Nat → (List Int) → Int → Option Bool
 | 0, _, _ => none
 | k7 + 1, v97, v98 => cond (decide (v98 < (v97.length : Int))) ((at? v97 v98).bind fun b113 => (Fspec_l1In k7 b113 (0 : Int) (30 : Int)).bind fun r114 => cond (!r114) (some false) (cond (decide (v98 > (0 : Int))) ((at? v97 (IntKind.i64.wrap (v98 - (1 : Int)))).bind fun b117 => (at? v97 v98).bind fun b118 => cond (decide (b117 ≥ b118)) (some false) (Fspec_l17Set.j8 (Fspec_l17Set.l7 k7) k7 v97 v98)) (Fspec_l17Set.j8 (Fspec_l17Set.l7 k7) k7 v97 v98))) (some true)
def Fspec_l17Set (k : Nat) (a0 : List Int) : Option Bool := Fspec_l17Set.l7 k a0 (0 : Int)
theorem ent129 : MG.Enters Try.prog 129 := ⟨Try.f129, Try.func129, rfl, by decide⟩
set_option maxHeartbeats 8000000 in
set_option maxRecDepth 100000 in
theorem Fspec_l17Set_gives (k : Nat) (g0 : Bool) (a0 : List Int) (r : Bool) (H : Fspec_l17Set k a0 = some r) : Gives Try.prog 129 [V.one (Cell.sl g0 (List.map eI a0))] [] [V.one (cL r)] [] := by
 refine Gives.intro Try.func129 rfl rfl rfl rfl ?_
 intro F hF hm
 unfold Fspec_l17Set at H
 obtain ⟨K, hK⟩ : ∃ K, k ≤ K := ⟨k, Nat.le_refl k⟩
 refine WpC.seq (WpC.regionL ?_)
 refine L.assign hF rfl rfl rfl (L.nil ?_)
 refine WpC.seq (WpC.seq (WpC.regionL ?_))
 refine L.assign hF rfl rfl rfl (L.nil ?_)
 refine WpC.block ?_
 refine WpC.loopL (P := Try.prog) (fun n σ => ∃ v97 : List Int, ∃ v98 : Int, n ≤ K ∧ Fspec_l17Set.l7 n v97 v98 = some r ∧ σ = mkSt [(0, one (Cell.sl g0 (List.map eI v97))), (3, one (cI v98))] [] [] 0) k ⟨_, ⟨a0, (0 : Int), by omega, H, rfl⟩, Le.mk [] hm rfl (Sa2 trivial) trivial trivial⟩ ?_
 clear H
 rintro k7 _ ⟨v97, v98, hk7, H, rfl⟩
 cases k7 with
 | zero => cases H
 | succ k7 =>
  rw [Fspec_l17Set.l7] at H
  refine WpC.seq (WpC.seq (WpC.regionL ?_))
  refine L.move hF rfl rfl rfl ?_
  refine L.move hF rfl rfl rfl ?_
  refine L.lenR (xs := v97) (e := eI) Try.underlying39 hF rfl rfl rfl rfl ?_
  refine L.bin hF rfl rfl rfl rfl rfl rfl (L.nil ?_)
  refine WpC.cond rfl (fun hc => ?_) (fun hc => ?_)
  ·replace H := condT hc H
   refine WpC.skip ?_
   refine WpC.join (fun σ => ∃ kj8 : Nat, ∃ v107 : List Int, ∃ v108 : Int, kj8 ≤ K ∧ Fspec_l17Set.j8 (Fspec_l17Set.l7 k7) kj8 v107 v108 = some r ∧ σ = mkSt [(0, one (Cell.sl g0 (List.map eI v107))), (3, one (cI v108))] [] [] 0) ?_ ?_
   ·rintro _ ⟨kj8, v107, v108, hkj8, H, rfl⟩
    unfold Fspec_l17Set.j8 at H
    refine WpC.regionL ?_
    refine L.move hF rfl rfl rfl ?_
    refine L.bin hF rfl rfl rfl rfl rfl rfl ?_
    refine L.assign hF rfl rfl rfl (L.nil ?_)
    exact ⟨k7, _, by omega, ⟨v107, (IntKind.i64.wrap (v108 + (1 : Int))), by omega, H, rfl⟩, Le.mk [] hm rfl (Sa2 trivial) trivial trivial⟩
   ·refine WpC.block (WpC.seq ?_)
    obtain ⟨b113, hb113, H⟩ := bindS H
    obtain ⟨r114, hr114, H⟩ := bindS H
    rcases Bool.eq_false_or_eq_true ((!r114)) with hc115 | hc115
    ·replace H := condT hc115 H
     refine A.begin mixed rfl rfl ?_
     intro W hI hO
     refine hI _ _ _ ?_
     refine Atk 0 rfl (Ca.move) (fun Q0 k0 => L.move hF rfl rfl rfl (L.nil k0)) ?_
     refine Atk 1 rfl (Ca.move) (fun Q0 k0 => L.move hF rfl rfl rfl (L.nil k0)) ?_
     refine Atk 2 rfl (Ca.indexAddr) (fun Q0 k0 => L.idxR (xs := v97) (e := eI) Try.underlying39 info3 hF rfl rfl rfl rfl rfl hb113 rfl rfl (L.nil k0)) ?_
     refine A.all [3] (by kernel_rfl) rfl ⟨⟨_, rfl, ?_⟩, trivial⟩
     refine L.loadPe shape3 hF rfl rfl rfl rfl rfl (L.nil ?_)
     refine A.all [4] (by kernel_rfl) rfl ⟨⟨_, rfl, ?_⟩, trivial⟩
     refine L.call [false, false, false] [] [] 0 hF rfl rfl rfl ent121 rfl rfl rfl rfl rfl (Fspec_l1In_gives k7  b113 (0 : Int) (30 : Int) r114 hr114) rfl (L.nil ?_)
     refine Atk 5 rfl (Ca.un rfl rfl) (fun Q0 k0 => L.not hF rfl rfl rfl (L.nil k0)) ?_
     refine Atk 6 rfl (Ca.move) (fun Q0 k0 => L.move hF rfl rfl rfl (L.nil k0)) ?_
     refine A.le (τ := mkSt [(0, one (Cell.sl g0 (List.map eI v97))), (3, one (cI v98)), (16, one (cL true))] [] [] 0) (Le.mk [] hm rfl (Sa2 (Sa1 trivial rfl (congrArg (fun b => some (one (cL b))) hc115))) trivial trivial) ?_
     refine Aof 7 rfl hF ?_
     refine Aof 8 rfl hF ?_
     refine Aof 9 rfl hF ?_
     refine Aof 10 rfl hF ?_
     refine Aof 11 rfl hF ?_
     refine Aof 12 rfl hF ?_
     refine Aof 13 rfl hF ?_
     refine Aof 14 rfl hF ?_
     refine Aof 15 rfl hF ?_
     refine Aof 16 rfl hF ?_
     refine A.le (τ := mkSt [(0, one (Cell.sl g0 (List.map eI v97))), (3, one (cI v98)), (16, one (cL true)), (19, Slot.tup []), (24, Slot.tup []), (25, Slot.tup []), (26, Slot.tup [])] [] [] 0) (Le.mk [] hm rfl (Sa4 (Sa2 (Sa1 trivial))) trivial trivial) ?_
     refine Aof 17 rfl hF ?_
     refine Aof 18 rfl hF ?_
     refine Aof 19 rfl hF ?_
     refine Aof 20 rfl hF ?_
     refine Atk 21 rfl (Ca.pick) (fun Q0 k0 => L.pick hF rfl rfl rfl rfl (L.nil k0)) ?_
     refine A.le (τ := mkSt [(0, one (Cell.sl g0 (List.map eI v97))), (3, one (cI v98)), (31, one (cL true))] [] [] 0) (Le.mk [] hm rfl (Sa2 (Sa1 trivial)) trivial trivial) ?_
     refine A.done (by kernel_rfl) ?_
     refine WpC.cond rfl (fun _ => ?_) (fun hc => by cases hc)
     refine WpC.seq (WpC.regionL ?_)
     refine L.assign hF rfl rfl rfl (L.nil ?_)
     refine WpC.ret ?_
     cases H
     exact Leaves.ret rfl rfl rfl ⟨rfl, rfl⟩
    ·replace H := condF hc115 H
     rcases Bool.eq_false_or_eq_true ((decide (v98 > (0 : Int)))) with hc116 | hc116
     ·replace H := condT hc116 H
      obtain ⟨b117, hb117, H⟩ := bindS H
      obtain ⟨b118, hb118, H⟩ := bindS H
      refine A.begin mixed rfl rfl ?_
      intro W hI hO
      have n524287 : W 3 #[true, true, true, true, true, true, true, true, true, true, true, true, true, true, true, true, true, true, true, false, false, false] (mkSt [(0, one (Cell.sl g0 (List.map eI v97))), (3, one (cI v98)), (16, one (cL false)), (19, one (cL true)), (24, one (cI b117)), (28, one (cI b118))] [] [] 0) := by
       refine hI _ _ _ ?_
       refine Atk 19 rfl (Ca.bin rfl rfl (calm_int _ _ _ _ _ _ _ _)) (fun Q0 k0 => L.bin hF rfl rfl rfl rfl rfl rfl (L.nil k0)) ?_
       refine Atk 20 rfl (Ca.pick) (fun Q0 k0 => L.pick hF rfl rfl rfl rfl (L.nil k0)) ?_
       refine Atk 21 rfl (Ca.pick) (fun Q0 k0 => L.pick hF rfl rfl rfl rfl (L.nil k0)) ?_
       refine A.le (τ := mkSt [(0, one (Cell.sl g0 (List.map eI v97))), (3, one (cI v98)), (31, one (cL (decide (b117 ≥ b118))))] [] [] 0) (Le.mk [] hm rfl (Sa2 (Sa1 trivial)) trivial trivial) ?_
       refine A.done (by kernel_rfl) ?_
       refine WpC.cond rfl (fun hc => ?_) (fun hc => ?_)
       ·replace H := condT hc H
        refine WpC.seq (WpC.regionL ?_)
        refine L.assign hF rfl rfl rfl (L.nil ?_)
        refine WpC.ret ?_
        cases H
        exact Leaves.ret rfl rfl rfl ⟨rfl, rfl⟩
       ·replace H := condF hc H
        refine WpC.skip ?_
        exact ⟨_, ⟨k7, v97, v98, by omega, H, rfl⟩, Le.mk [] hm rfl (Sa2 trivial) trivial trivial⟩
      refine hI _ _ _ ?_
      refine Atk 0 rfl (Ca.move) (fun Q0 k0 => L.move hF rfl rfl rfl (L.nil k0)) ?_
      refine Atk 1 rfl (Ca.move) (fun Q0 k0 => L.move hF rfl rfl rfl (L.nil k0)) ?_
      refine Atk 2 rfl (Ca.indexAddr) (fun Q0 k0 => L.idxR (xs := v97) (e := eI) Try.underlying39 info3 hF rfl rfl rfl rfl rfl hb113 rfl rfl (L.nil k0)) ?_
      refine A.all [3] (by kernel_rfl) rfl ⟨⟨_, rfl, ?_⟩, trivial⟩
      refine L.loadPe shape3 hF rfl rfl rfl rfl rfl (L.nil ?_)
      refine A.all [4] (by kernel_rfl) rfl ⟨⟨_, rfl, ?_⟩, trivial⟩
      refine L.call [false, false, false] [] [] 0 hF rfl rfl rfl ent121 rfl rfl rfl rfl rfl (Fspec_l1In_gives k7  b113 (0 : Int) (30 : Int) r114 hr114) rfl (L.nil ?_)
      refine Atk 5 rfl (Ca.un rfl rfl) (fun Q0 k0 => L.not hF rfl rfl rfl (L.nil k0)) ?_
      refine Atk 6 rfl (Ca.move) (fun Q0 k0 => L.move hF rfl rfl rfl (L.nil k0)) ?_
      refine A.le (τ := mkSt [(0, one (Cell.sl g0 (List.map eI v97))), (3, one (cI v98)), (16, one (cL false))] [] [] 0) (Le.mk [] hm rfl (Sa2 (Sa1 trivial rfl (congrArg (fun b => some (one (cL b))) hc115))) trivial trivial) ?_
      refine Atk 7 rfl (Ca.move) (fun Q0 k0 => L.move hF rfl rfl rfl (L.nil k0)) ?_
      refine Atk 8 rfl (Ca.bin rfl rfl (calm_int _ _ _ _ _ _ _ _)) (fun Q0 k0 => L.bin hF rfl rfl rfl rfl rfl rfl (L.nil k0)) ?_
      refine Atk 9 rfl (Ca.move) (fun Q0 k0 => L.move hF rfl rfl rfl (L.nil k0)) ?_
      refine A.le (τ := mkSt [(0, one (Cell.sl g0 (List.map eI v97))), (3, one (cI v98)), (16, one (cL false)), (19, one (cL true))] [] [] 0) (Le.mk [] hm rfl (Sa2 (Sa1 (Sa1 trivial rfl (congrArg (fun b => some (one (cL b))) hc116)))) trivial trivial) ?_
      refine Atk 10 rfl (Ca.move) (fun Q0 k0 => L.move hF rfl rfl rfl (L.nil k0)) ?_
      refine Atk 11 rfl (Ca.move) (fun Q0 k0 => L.move hF rfl rfl rfl (L.nil k0)) ?_
      refine Atk 12 rfl (Ca.bin rfl rfl (calm_int _ _ _ _ _ _ _ _)) (fun Q0 k0 => L.bin hF rfl rfl rfl rfl rfl rfl (L.nil k0)) ?_
      refine Atk 13 rfl (Ca.indexAddr) (fun Q0 k0 => L.idxR (xs := v97) (e := eI) Try.underlying39 info3 hF rfl rfl rfl rfl rfl hb117 rfl rfl (L.nil k0)) ?_
      refine Atk 15 rfl (Ca.move) (fun Q0 k0 => L.move hF rfl rfl rfl (L.nil k0)) ?_
      refine Atk 16 rfl (Ca.move) (fun Q0 k0 => L.move hF rfl rfl rfl (L.nil k0)) ?_
      refine Atk 17 rfl (Ca.indexAddr) (fun Q0 k0 => L.idxR (xs := v97) (e := eI) Try.underlying39 info3 hF rfl rfl rfl rfl rfl hb118 rfl rfl (L.nil k0)) ?_
      refine A.all [14, 18] (by kernel_rfl) rfl ⟨⟨_, rfl, ?_⟩, ⟨_, rfl, ?_⟩, trivial⟩
      ·refine L.loadPe shape3 hF rfl rfl rfl rfl rfl (L.nil ?_)
       refine A.all [18] (by kernel_rfl) rfl ⟨⟨_, rfl, ?_⟩, trivial⟩
       refine L.loadPe shape3 hF rfl rfl rfl rfl rfl (L.nil ?_)
       exact A.on (hO _ _ _ n524287) (Le.mk [] hm rfl (Sa4 (Sa2 trivial)) trivial trivial)
      ·refine L.loadPe shape3 hF rfl rfl rfl rfl rfl (L.nil ?_)
       refine A.all [14] (by kernel_rfl) rfl ⟨⟨_, rfl, ?_⟩, trivial⟩
       refine L.loadPe shape3 hF rfl rfl rfl rfl rfl (L.nil ?_)
       exact A.on (hO _ _ _ n524287) (Le.mk [] hm rfl (Sa4 (Sa2 trivial)) trivial trivial)
     ·replace H := condF hc116 H
      refine A.begin mixed rfl rfl ?_
      intro W hI hO
      refine hI _ _ _ ?_
      refine Atk 0 rfl (Ca.move) (fun Q0 k0 => L.move hF rfl rfl rfl (L.nil k0)) ?_
      refine Atk 1 rfl (Ca.move) (fun Q0 k0 => L.move hF rfl rfl rfl (L.nil k0)) ?_
      refine Atk 2 rfl (Ca.indexAddr) (fun Q0 k0 => L.idxR (xs := v97) (e := eI) Try.underlying39 info3 hF rfl rfl rfl rfl rfl hb113 rfl rfl (L.nil k0)) ?_
      refine A.all [3] (by kernel_rfl) rfl ⟨⟨_, rfl, ?_⟩, trivial⟩
      refine L.loadPe shape3 hF rfl rfl rfl rfl rfl (L.nil ?_)
      refine A.all [4] (by kernel_rfl) rfl ⟨⟨_, rfl, ?_⟩, trivial⟩
      refine L.call [false, false, false] [] [] 0 hF rfl rfl rfl ent121 rfl rfl rfl rfl rfl (Fspec_l1In_gives k7  b113 (0 : Int) (30 : Int) r114 hr114) rfl (L.nil ?_)
      refine Atk 5 rfl (Ca.un rfl rfl) (fun Q0 k0 => L.not hF rfl rfl rfl (L.nil k0)) ?_
      refine Atk 6 rfl (Ca.move) (fun Q0 k0 => L.move hF rfl rfl rfl (L.nil k0)) ?_
      refine A.le (τ := mkSt [(0, one (Cell.sl g0 (List.map eI v97))), (3, one (cI v98)), (16, one (cL false))] [] [] 0) (Le.mk [] hm rfl (Sa2 (Sa1 trivial rfl (congrArg (fun b => some (one (cL b))) hc115))) trivial trivial) ?_
      refine Atk 7 rfl (Ca.move) (fun Q0 k0 => L.move hF rfl rfl rfl (L.nil k0)) ?_
      refine Atk 8 rfl (Ca.bin rfl rfl (calm_int _ _ _ _ _ _ _ _)) (fun Q0 k0 => L.bin hF rfl rfl rfl rfl rfl rfl (L.nil k0)) ?_
      refine Atk 9 rfl (Ca.move) (fun Q0 k0 => L.move hF rfl rfl rfl (L.nil k0)) ?_
      refine A.le (τ := mkSt [(0, one (Cell.sl g0 (List.map eI v97))), (3, one (cI v98)), (16, one (cL false)), (19, one (cL false))] [] [] 0) (Le.mk [] hm rfl (Sa2 (Sa1 (Sa1 trivial rfl (congrArg (fun b => some (one (cL b))) hc116)))) trivial trivial) ?_
      refine Aof 10 rfl hF ?_
      refine Aof 11 rfl hF ?_
      refine Aof 12 rfl hF ?_
      refine Aof 13 rfl hF ?_
      refine Aof 14 rfl hF ?_
      refine Aof 15 rfl hF ?_
      refine Aof 16 rfl hF ?_
      refine Aof 17 rfl hF ?_
      refine Aof 18 rfl hF ?_
      refine Aof 19 rfl hF ?_
      refine A.le (τ := mkSt [(0, one (Cell.sl g0 (List.map eI v97))), (3, one (cI v98)), (16, one (cL false)), (19, one (cL false)), (29, Slot.tup [])] [] [] 0) (Le.mk [] hm rfl (Sa4 (Sa1 trivial)) trivial trivial) ?_
      refine Atk 20 rfl (Ca.pick) (fun Q0 k0 => L.pick hF rfl rfl rfl rfl (L.nil k0)) ?_
      refine Atk 21 rfl (Ca.pick) (fun Q0 k0 => L.pick hF rfl rfl rfl rfl (L.nil k0)) ?_
      refine A.le (τ := mkSt [(0, one (Cell.sl g0 (List.map eI v97))), (3, one (cI v98)), (31, one (cL false))] [] [] 0) (Le.mk [] hm rfl (Sa2 (Sa1 trivial)) trivial trivial) ?_
      refine A.done (by kernel_rfl) ?_
      refine WpC.cond rfl (fun hc => by cases hc) (fun _ => ?_)
      refine WpC.skip ?_
      exact ⟨_, ⟨k7, v97, v98, by omega, H, rfl⟩, Le.mk [] hm rfl (Sa2 trivial) trivial trivial⟩
  ·replace H := condF hc H
   refine WpC.exit (WpC.seq (WpC.regionL ?_))
   refine L.assign hF rfl rfl rfl (L.nil ?_)
   refine WpC.ret ?_
   cases H
   exact Leaves.ret rfl rfl rfl ⟨rfl, rfl⟩
/-! ### Fspec_l17Ok -/
def Fspec_l17Ok (k : Nat) (a0 : Timpl_Rule) : Option Bool := (Fspec_l1In k a0.Kind (1 : Int) (3 : Int)).bind fun r4 => cond r4 (cond (a0.N == (0 : Int)) ((Fspec_l17Set k a0.Set).bind fun r6 => some r6) (some false)) ((Fspec_l1In k a0.Kind (4 : Int) (5 : Int)).bind fun r9 => cond r9 (cond ((a0.Set.length : Int) == (0 : Int)) ((Fspec_l1In k a0.N (0 : Int) (100000 : Int)).bind fun r10 => some r10) (some false)) (some false))
theorem ent67 : MG.Enters Try.prog 67 := ⟨Try.f67, Try.func67, rfl, by decide⟩
set_option maxHeartbeats 8000000 in
set_option maxRecDepth 100000 in
theorem Fspec_l17Ok_gives (k : Nat) (g0 : Bool) (a0 : Timpl_Rule) (r : Bool) (H : Fspec_l17Ok k a0 = some r) : Gives Try.prog 67 [V.agg [cI a0.Kind, Cell.sl g0 (List.map eI a0.Set), cI a0.N]] [] [V.one (cL r)] [] := by
 refine Gives.intro Try.func67 rfl rfl rfl rfl ?_
 intro F hF hm
 unfold Fspec_l17Ok at H
 obtain ⟨K, hK⟩ : ∃ K, k ≤ K := ⟨k, Nat.le_refl k⟩
 refine WpC.seq (WpC.regionL ?_)
 refine L.box 3 hF rfl rfl rfl rfl ?_
 refine L.assign hF rfl rfl rfl (L.nil ?_)
 refine WpC.seq (WpC.seq (WpC.regionL ?_))
 refine L.fieldAddr Try.underlying96 rfl info3 rfl hF rfl rfl rfl rfl rfl ?_
 refine L.loadPtr shape3 hF rfl rfl rfl rfl rfl rfl ?_
 obtain ⟨r4, hr4, H⟩ := bindS H
 refine L.call [false, false, false] [] [] 4 hF rfl rfl rfl ent121 rfl rfl rfl rfl rfl (Fspec_l1In_gives k  a0.Kind (1 : Int) (3 : Int) r4 hr4) rfl (L.nil ?_)
 refine WpC.cond rfl (fun hc => ?_) (fun hc => ?_)
 ·replace H := condT hc H
  refine WpC.seq (WpC.regionL ?_)
  refine L.fieldAddr Try.underlying96 rfl info3 rfl hF rfl rfl rfl rfl rfl ?_
  refine L.loadPtr shape3 hF rfl rfl rfl rfl rfl rfl ?_
  refine L.bin hF rfl rfl rfl rfl rfl rfl ?_
  refine L.move hF rfl rfl rfl ?_
  refine L.split (fun hc => ?_) (fun hc => ?_)
  ·replace H := condT hc H
   refine L.fieldAddr Try.underlying96 rfl info39 rfl hF rfl rfl rfl rfl rfl ?_
   refine L.loadPtr shape39 hF rfl rfl rfl rfl rfl rfl ?_
   obtain ⟨r6, hr6, H⟩ := bindS H
   refine L.call [false] [] [] 5 hF rfl rfl rfl ent129 rfl rfl rfl rfl rfl (Fspec_l17Set_gives k g0 a0.Set r6 hr6) rfl ?_
   refine L.pick hF rfl rfl rfl rfl ?_
   refine L.assign hF rfl rfl rfl (L.nil ?_)
   refine WpC.ret ?_
   cases H
   exact Leaves.ret rfl rfl rfl ⟨rfl, rfl⟩
  ·replace H := condF hc H
   refine L.off hF rfl rfl ?_
   refine L.off hF rfl rfl ?_
   refine L.off hF rfl rfl ?_
   refine L.pick hF rfl rfl rfl rfl ?_
   refine L.assign hF rfl rfl rfl (L.nil ?_)
   refine WpC.ret ?_
   cases H
   exact Leaves.ret rfl rfl rfl ⟨rfl, rfl⟩
 ·replace H := condF hc H
  refine WpC.skip (WpC.seq (WpC.regionL ?_))
  refine L.fieldAddr Try.underlying96 rfl info3 rfl hF rfl rfl rfl rfl rfl ?_
  refine L.loadPtr shape3 hF rfl rfl rfl rfl rfl rfl ?_
  obtain ⟨r9, hr9, H⟩ := bindS H
  refine L.call [false, false, false] [] [] 5 hF rfl rfl rfl ent121 rfl rfl rfl rfl rfl (Fspec_l1In_gives k  a0.Kind (4 : Int) (5 : Int) r9 hr9) rfl ?_
  refine L.move hF rfl rfl rfl ?_
  refine L.split (fun hc => ?_) (fun hc => ?_)
  ·replace H := condT hc H
   refine L.fieldAddr Try.underlying96 rfl info39 rfl hF rfl rfl rfl rfl rfl ?_
   refine L.loadPtr shape39 hF rfl rfl rfl rfl rfl rfl ?_
   refine L.lenR (xs := a0.Set) (e := eI) Try.underlying39 hF rfl rfl rfl rfl ?_
   refine L.bin hF rfl rfl rfl rfl rfl rfl ?_
   refine L.pick hF rfl rfl rfl rfl ?_
   refine L.move hF rfl rfl rfl ?_
   refine L.split (fun hc => ?_) (fun hc => ?_)
   ·replace H := condT hc H
    refine L.fieldAddr Try.underlying96 rfl info3 rfl hF rfl rfl rfl rfl rfl ?_
    refine L.loadPtr shape3 hF rfl rfl rfl rfl rfl rfl ?_
    obtain ⟨r10, hr10, H⟩ := bindS H
    refine L.call [false, false, false] [] [] 6 hF rfl rfl rfl ent121 rfl rfl rfl rfl rfl (Fspec_l1In_gives k  a0.N (0 : Int) (100000 : Int) r10 hr10) rfl ?_
    refine L.pick hF rfl rfl rfl rfl ?_
    refine L.assign hF rfl rfl rfl (L.nil ?_)
    refine WpC.ret ?_
    cases H
    exact Leaves.ret rfl rfl rfl ⟨rfl, rfl⟩
   ·replace H := condF hc H
    refine L.off hF rfl rfl ?_
    refine L.off hF rfl rfl ?_
    refine L.off hF rfl rfl ?_
    refine L.pick hF rfl rfl rfl rfl ?_
    refine L.assign hF rfl rfl rfl (L.nil ?_)
    refine WpC.ret ?_
    cases H
    exact Leaves.ret rfl rfl rfl ⟨rfl, rfl⟩
  ·replace H := condF hc H
   refine L.off hF rfl rfl ?_
   refine L.off hF rfl rfl ?_
   refine L.off hF rfl rfl ?_
   refine L.off hF rfl rfl ?_
   refine L.pick hF rfl rfl rfl rfl ?_
   refine L.move hF rfl rfl rfl ?_
   refine L.off hF rfl rfl ?_
   refine L.off hF rfl rfl ?_
   refine L.off hF rfl rfl ?_
   refine L.pick hF rfl rfl rfl rfl ?_
   refine L.assign hF rfl rfl rfl (L.nil ?_)
   refine WpC.ret ?_
   cases H
   exact Leaves.ret rfl rfl rfl ⟨rfl, rfl⟩
/-! ### Fspec_RulesOk -/
def Fspec_RulesOk.l2 : Nat → (List Timpl_Rule) → Int → Option Bool
 | 0, _, _ => none
 | k2 + 1, v29, v30 => cond (decide (v30 < (v29.length : Int))) ((at? v29 v30).bind fun b33 => (Fspec_l17Ok k2 b33).bind fun r34 => cond (!r34) (some false) ((Fspec_RulesOk.l2 k2) v29 (IntKind.i64.wrap (v30 + (1 : Int))))) (some true)
def Fspec_RulesOk (k : Nat) (a0 : List Timpl_Rule) : Option Bool := cond (decide ((a0.length : Int) > (20 : Int))) (some false) (Fspec_RulesOk.l2 k a0 (0 : Int))
theorem ent25 : MG.Enters Try.prog 25 := ⟨Try.f25, Try.func25, rfl, by decide⟩
set_option maxHeartbeats 8000000 in
set_option maxRecDepth 100000 in
theorem Fspec_RulesOk_gives (k : Nat) (g0 : Bool) (a0 : List Timpl_Rule) (r : Bool) (H : Fspec_RulesOk k a0 = some r) : Gives Try.prog 25 [V.one (Cell.sl g0 (List.map eTimpl_Rule a0))] [] [V.one (cL r)] [] := by
 refine Gives.intro Try.func25 rfl rfl rfl rfl ?_
 intro F hF hm
 unfold Fspec_RulesOk at H
 obtain ⟨K, hK⟩ : ∃ K, k ≤ K := ⟨k, Nat.le_refl k⟩
 refine WpC.seq (WpC.regionL ?_)
 refine L.assign hF rfl rfl rfl (L.nil ?_)
 refine WpC.seq (WpC.seq (WpC.regionL ?_))
 refine L.move hF rfl rfl rfl ?_
 refine L.lenR (xs := a0) (e := eTimpl_Rule) Try.underlying28 hF rfl rfl rfl rfl ?_
 refine L.bin hF rfl rfl rfl rfl rfl rfl (L.nil ?_)
 refine WpC.cond rfl (fun hc => ?_) (fun hc => ?_)
 ·replace H := condT hc H
  refine WpC.seq (WpC.regionL ?_)
  refine L.assign hF rfl rfl rfl (L.nil ?_)
  refine WpC.ret ?_
  cases H
  exact Leaves.ret rfl rfl rfl ⟨rfl, rfl⟩
 ·replace H := condF hc H
  refine WpC.skip (WpC.seq (WpC.seq (WpC.regionL ?_)))
  refine L.assign hF rfl rfl rfl (L.nil ?_)
  refine WpC.block ?_
  refine WpC.loopL (P := Try.prog) (fun n σ => ∃ v29 : List Timpl_Rule, ∃ v30 : Int, n ≤ K ∧ Fspec_RulesOk.l2 n v29 v30 = some r ∧ σ = mkSt [(0, one (Cell.sl g0 (List.map eTimpl_Rule v29))), (3, one (cI v30))] [] [] 0) k ⟨_, ⟨a0, (0 : Int), by omega, H, rfl⟩, Le.mk [] hm rfl (Sa2 trivial) trivial trivial⟩ ?_
  clear H
  rintro k2 _ ⟨v29, v30, hk2, H, rfl⟩
  cases k2 with
  | zero => cases H
  | succ k2 =>
   rw [Fspec_RulesOk.l2] at H
   refine WpC.seq (WpC.seq (WpC.regionL ?_))
   refine L.move hF rfl rfl rfl ?_
   refine L.move hF rfl rfl rfl ?_
   refine L.lenR (xs := v29) (e := eTimpl_Rule) Try.underlying28 hF rfl rfl rfl rfl ?_
   refine L.bin hF rfl rfl rfl rfl rfl rfl (L.nil ?_)
   refine WpC.cond rfl (fun hc => ?_) (fun hc => ?_)
   ·replace H := condT hc H
    refine WpC.skip (WpC.seq (WpC.block (WpC.seq (WpC.regionL ?_))))
    refine L.move hF rfl rfl rfl ?_
    refine L.move hF rfl rfl rfl ?_
    obtain ⟨b33, hb33, H⟩ := bindS H
    refine L.idxR (xs := v29) (e := eTimpl_Rule) Try.underlying28 info96 hF rfl rfl rfl rfl rfl hb33 rfl rfl ?_
    refine L.loadPe shape96 hF rfl rfl rfl rfl rfl ?_
    obtain ⟨r34, hr34, H⟩ := bindS H
    refine L.call [false] [] [] 0 hF rfl rfl rfl ent67 rfl rfl rfl rfl rfl (Fspec_l17Ok_gives k2 g0 b33 r34 hr34) rfl ?_
    refine L.not hF rfl rfl rfl (L.nil ?_)
    refine WpC.cond rfl (fun hc => ?_) (fun hc => ?_)
    ·replace H := condT hc H
     refine WpC.seq (WpC.regionL ?_)
     refine L.assign hF rfl rfl rfl (L.nil ?_)
     refine WpC.ret ?_
     cases H
     exact Leaves.ret rfl rfl rfl ⟨rfl, rfl⟩
    ·replace H := condF hc H
     refine WpC.skip (WpC.regionL ?_)
     refine L.move hF rfl rfl rfl ?_
     refine L.bin hF rfl rfl rfl rfl rfl rfl ?_
     refine L.assign hF rfl rfl rfl (L.nil ?_)
     exact ⟨k2, _, by omega, ⟨v29, (IntKind.i64.wrap (v30 + (1 : Int))), by omega, H, rfl⟩, Le.mk [] hm rfl (Sa2 trivial) trivial trivial⟩
   ·replace H := condF hc H
    refine WpC.exit (WpC.seq (WpC.regionL ?_))
    refine L.assign hF rfl rfl rfl (L.nil ?_)
    refine WpC.ret ?_
    cases H
    exact Leaves.ret rfl rfl rfl ⟨rfl, rfl⟩
/-! ### Fspec_ShowRules -/
def Fspec_ShowRules.l14 (cl12 : (List Timpl_Rule) → (List UInt8) → Int → Option (List UInt8)) : Nat → (List Timpl_Rule) → (List UInt8) → Int → Int → Option (List UInt8)
 | 0, _, _, _, _ => none
 | k14 + 1, v594, v595, v596, v597 => (at? v594 v596).bind fun b599 => cond (decide (v597 < (b599.Set.length : Int))) ((at? v594 v596).bind fun b604 => (at? b604.Set v597).bind fun b605 => (Fspec_Var k14 b605).bind fun r606 => cond (decide (v595.length + r606.length ≤ 9223372036854775807)) ((Fspec_ShowRules.l14 cl12 k14) v594 (v595 ++ r606) v596 (IntKind.i64.wrap (v597 + (1 : Int)))) none) (cl12 v594 v595 (IntKind.i64.wrap (v596 + (1 : Int))))
def Fspec_ShowRules.l12 : Nat → (List Timpl_Rule) → (List UInt8) → Int → Option (List UInt8)
 | 0, _, _, _ => none
 | k12 + 1, v505, v506, v507 => cond (decide (v507 < (v505.length : Int))) ((at? v505 v507).bind fun b558 => (Fspec_Var k12 b558.Kind).bind fun r559 => cond (decide (v506.length + r559.length ≤ 9223372036854775807)) ((at? v505 v507).bind fun b561 => (Fspec_Var k12 b561.N).bind fun r562 => cond (decide ((v506 ++ r559).length + r562.length ≤ 9223372036854775807)) ((at? v505 v507).bind fun b564 => (Fspec_Var k12 (b564.Set.length : Int)).bind fun r565 => cond (decide (((v506 ++ r559) ++ r562).length + r565.length ≤ 9223372036854775807)) (Fspec_ShowRules.l14 (Fspec_ShowRules.l12 k12) k12 v505 (((v506 ++ r559) ++ r562) ++ r565) v507 (0 : Int)) none) none) none) (some v506)
def Fspec_ShowRules (k : Nat) (a0 : List Timpl_Rule) : Option (List UInt8) := (Fspec_RulesOk k a0).bind fun r2 => cond (!r2) (some ([] : List UInt8)) ((Fspec_Var k (a0.length : Int)).bind fun r3 => Fspec_ShowRules.l12 k a0 r3 (0 : Int))
theorem ent26 : MG.Enters Try.prog 26 := ⟨Try.f26, Try.func26, rfl, by decide⟩
set_option maxHeartbeats 8000000 in
set_option maxRecDepth 100000 in
theorem Fspec_ShowRules_gives (k : Nat) (g0 : Bool) (a0 : List Timpl_Rule) (r : List UInt8) (H : Fspec_ShowRules k a0 = some r) : Gives Try.prog 26 [V.one (Cell.sl g0 (List.map eTimpl_Rule a0))] [] [V.one (cS r)] [] := by
 refine Gives.intro Try.func26 rfl rfl rfl rfl ?_
 intro F hF hm
 unfold Fspec_ShowRules at H
 obtain ⟨K, hK⟩ : ∃ K, k ≤ K := ⟨k, Nat.le_refl k⟩
 refine WpC.seq (WpC.regionL ?_)
 refine L.assign hF rfl rfl rfl (L.nil ?_)
 refine WpC.seq (WpC.seq (WpC.regionL ?_))
 refine L.move hF rfl rfl rfl ?_
 obtain ⟨r2, hr2, H⟩ := bindS H
 refine L.call [false] [] [] 1 hF rfl rfl rfl ent25 rfl rfl rfl rfl rfl (Fspec_RulesOk_gives k g0 a0 r2 hr2) rfl ?_
 refine L.not hF rfl rfl rfl (L.nil ?_)
 refine WpC.cond rfl (fun hc => ?_) (fun hc => ?_)
 ·replace H := condT hc H
  refine WpC.seq (WpC.regionL ?_)
  refine L.assign hF rfl rfl rfl (L.nil ?_)
  refine WpC.ret ?_
  cases H
  exact Leaves.ret rfl rfl rfl ⟨rfl, rfl⟩
 ·replace H := condF hc H
  refine WpC.skip (WpC.seq (WpC.regionL ?_))
  refine L.move hF rfl rfl rfl ?_
  refine L.lenR (xs := a0) (e := eTimpl_Rule) Try.underlying28 hF rfl rfl rfl rfl ?_
  obtain ⟨r3, hr3, H⟩ := bindS H
  refine L.call [false] [] [] 2 hF rfl rfl rfl ent68 rfl rfl rfl rfl rfl (Fspec_Var_gives k  (a0.length : Int) r3 hr3) rfl ?_
  refine L.assign hF rfl rfl rfl (L.nil ?_)
  refine WpC.seq (WpC.seq (WpC.regionL ?_))
  refine L.assign hF rfl rfl rfl (L.nil ?_)
  refine WpC.block ?_
  refine WpC.loopL (P := Try.prog) (fun n σ => ∃ v505 : List Timpl_Rule, ∃ v506 : List UInt8, ∃ v507 : Int, n ≤ K ∧ Fspec_ShowRules.l12 n v505 v506 v507 = some r ∧ σ = mkSt [(0, one (Cell.sl g0 (List.map eTimpl_Rule v505))), (3, one (cS v506)), (4, one (cI v507))] [] [] 0) k ⟨_, ⟨a0, r3, (0 : Int), by omega, H, rfl⟩, Le.mk [] hm rfl (Sa2 (Sa1 trivial)) trivial trivial⟩ ?_
  clear H
  rintro k12 _ ⟨v505, v506, v507, hk12, H, rfl⟩
  cases k12 with
  | zero => cases H
  | succ k12 =>
   rw [Fspec_ShowRules.l12] at H
   refine WpC.seq (WpC.seq (WpC.regionL ?_))
   refine L.move hF rfl rfl rfl ?_
   refine L.move hF rfl rfl rfl ?_
   refine L.lenR (xs := v505) (e := eTimpl_Rule) Try.underlying28 hF rfl rfl rfl rfl ?_
   refine L.bin hF rfl rfl rfl rfl rfl rfl (L.nil ?_)
   refine WpC.cond rfl (fun hc => ?_) (fun hc => ?_)
   ·replace H := condT hc H
    refine WpC.skip (WpC.seq (WpC.block (WpC.seq ?_)))
    obtain ⟨b558, hb558, H⟩ := bindS H
    obtain ⟨r559, hr559, H⟩ := bindS H
    obtain ⟨h560, H⟩ := condG H
    obtain ⟨b561, hb561, H⟩ := bindS H
    obtain ⟨r562, hr562, H⟩ := bindS H
    obtain ⟨h563, H⟩ := condG H
    obtain ⟨b564, hb564, H⟩ := bindS H
    obtain ⟨r565, hr565, H⟩ := bindS H
    obtain ⟨h566, H⟩ := condG H
    refine A.begin mixed rfl rfl ?_
    intro W hI hO
    have n2097151 : W 3 #[true, true, true, true, true, true, true, true, true, true, true, true, true, true, true, true, true, true, true, true, true, false, false, false] (mkSt [(0, one (Cell.sl g0 (List.map eTimpl_Rule v505))), (3, one (cS v506)), (4, one (cI v507)), (32, one (cS ((v506 ++ r559) ++ r562))), (38, one (cI (b564.Set.length : Int)))] [] [] 0) := by
     refine hI _ _ _ ?_
     refine A.all [21] (by kernel_rfl) rfl ⟨⟨_, rfl, ?_⟩, trivial⟩
     refine L.call [false] [] [] 0 hF rfl rfl rfl ent68 rfl rfl rfl rfl rfl (Fspec_Var_gives k12  (b564.Set.length : Int) r565 hr565) rfl (L.nil ?_)
     refine Atk 22 rfl (Ca.bin rfl rfl (calm_str _ _ _ _ _ _)) (fun Q0 k0 => L.catS hF rfl rfl rfl rfl (of_decide_eq_true h566) (L.nil k0)) ?_
     refine Atk 23 rfl (Ca.assign) (fun Q0 k0 => L.assign hF rfl rfl rfl (L.nil k0)) ?_
     refine A.le (τ := mkSt [(0, one (Cell.sl g0 (List.map eTimpl_Rule v505))), (3, one (cS (((v506 ++ r559) ++ r562) ++ r565))), (4, one (cI v507))] [] [] 0) (Le.mk [] hm rfl (Sa2 (Sa1 trivial)) trivial trivial) ?_
     refine A.done (by kernel_rfl) ?_
     refine WpC.seq (WpC.regionL ?_)
     refine L.assign hF rfl rfl rfl (L.nil ?_)
     refine WpC.block ?_
     refine WpC.loopL (P := Try.prog) (fun n σ => ∃ v594 : List Timpl_Rule, ∃ v595 : List UInt8, ∃ v596 : Int, ∃ v597 : Int, n ≤ K ∧ Fspec_ShowRules.l14 (Fspec_ShowRules.l12 k12) n v594 v595 v596 v597 = some r ∧ σ = mkSt [(0, one (Cell.sl g0 (List.map eTimpl_Rule v594))), (3, one (cS v595)), (4, one (cI v596)), (5, one (cI v597))] [] [] 0) k12 ⟨_, ⟨v505, (((v506 ++ r559) ++ r562) ++ r565), v507, (0 : Int), by omega, H, rfl⟩, Le.mk [] hm rfl (Sa4 trivial) trivial trivial⟩ ?_
     clear H
     rintro k14 _ ⟨v594, v595, v596, v597, hk14, H, rfl⟩
     cases k14 with
     | zero => cases H
     | succ k14 =>
      rw [Fspec_ShowRules.l14] at H
      refine WpC.seq (WpC.seq (WpC.regionL ?_))
      refine L.move hF rfl rfl rfl ?_
      refine L.move hF rfl rfl rfl ?_
      refine L.move hF rfl rfl rfl ?_
      obtain ⟨b599, hb599, H⟩ := bindS H
      refine L.idxR (xs := v594) (e := eTimpl_Rule) Try.underlying28 info96 hF rfl rfl rfl rfl rfl hb599 rfl rfl ?_
      refine L.fieldAddr Try.underlying96 rfl info39 rfl hF rfl rfl rfl rfl rfl ?_
      refine L.loadPe shape39 hF rfl rfl rfl rfl rfl ?_
      refine L.lenR (xs := b599.Set) (e := eI) Try.underlying39 hF rfl rfl rfl rfl ?_
      refine L.bin hF rfl rfl rfl rfl rfl rfl (L.nil ?_)
      refine WpC.cond rfl (fun hc => ?_) (fun hc => ?_)
      ·replace H := condT hc H
       refine WpC.skip (WpC.seq (WpC.block (WpC.regionL ?_)))
       refine L.move hF rfl rfl rfl ?_
       refine L.move hF rfl rfl rfl ?_
       refine L.move hF rfl rfl rfl ?_
       obtain ⟨b604, hb604, H⟩ := bindS H
       refine L.idxR (xs := v594) (e := eTimpl_Rule) Try.underlying28 info96 hF rfl rfl rfl rfl rfl hb604 rfl rfl ?_
       refine L.fieldAddr Try.underlying96 rfl info39 rfl hF rfl rfl rfl rfl rfl ?_
       refine L.loadPe shape39 hF rfl rfl rfl rfl rfl ?_
       refine L.move hF rfl rfl rfl ?_
       obtain ⟨b605, hb605, H⟩ := bindS H
       refine L.idxR (xs := b604.Set) (e := eI) Try.underlying39 info3 hF rfl rfl rfl rfl rfl hb605 rfl rfl ?_
       refine L.loadPe shape3 hF rfl rfl rfl rfl rfl ?_
       obtain ⟨r606, hr606, H⟩ := bindS H
       refine L.call [false] [] [] 0 hF rfl rfl rfl ent68 rfl rfl rfl rfl rfl (Fspec_Var_gives k14  b605 r606 hr606) rfl ?_
       obtain ⟨h607, H⟩ := condG H
       refine L.catS hF rfl rfl rfl rfl (of_decide_eq_true h607) ?_
       refine L.assign hF rfl rfl rfl (L.nil ?_)
       refine WpC.regionL ?_
       refine L.move hF rfl rfl rfl ?_
       refine L.bin hF rfl rfl rfl rfl rfl rfl ?_
       refine L.assign hF rfl rfl rfl (L.nil ?_)
       exact ⟨k14, _, by omega, ⟨v594, (v595 ++ r606), v596, (IntKind.i64.wrap (v597 + (1 : Int))), by omega, H, rfl⟩, Le.mk [] hm rfl (Sa4 trivial) trivial trivial⟩
      ·replace H := condF hc H
       refine WpC.exit (WpC.regionL ?_)
       refine L.move hF rfl rfl rfl ?_
       refine L.bin hF rfl rfl rfl rfl rfl rfl ?_
       refine L.assign hF rfl rfl rfl (L.nil ?_)
       exact ⟨k12, _, by omega, ⟨v594, v595, (IntKind.i64.wrap (v596 + (1 : Int))), by omega, H, rfl⟩, Le.mk [] hm rfl (Sa2 (Sa1 trivial)) trivial trivial⟩
    have n2072575 : W 5 #[true, true, true, true, true, true, true, true, true, true, true, true, true, false, false, true, true, true, true, true, true, false, false, false] (mkSt [(0, one (Cell.sl g0 (List.map eTimpl_Rule v505))), (3, one (cS v506)), (4, one (cI v507)), (25, one (cS (v506 ++ r559))), (30, one (cI b561.N)), (38, one (cI (b564.Set.length : Int)))] [] [] 0) := by
     refine hI _ _ _ ?_
     refine A.all [13] (by kernel_rfl) rfl ⟨⟨_, rfl, ?_⟩, trivial⟩
     refine L.call [false] [] [] 0 hF rfl rfl rfl ent68 rfl rfl rfl rfl rfl (Fspec_Var_gives k12  b561.N r562 hr562) rfl (L.nil ?_)
     refine Atk 14 rfl (Ca.bin rfl rfl (calm_str _ _ _ _ _ _)) (fun Q0 k0 => L.catS hF rfl rfl rfl rfl (of_decide_eq_true h563) (L.nil k0)) ?_
     exact A.on (hO _ _ _ n2097151) (Le.mk [] hm rfl (Sa4 (Sa1 trivial)) trivial trivial)
    have n2068479 : W 6 #[true, true, true, true, true, true, true, true, true, true, true, true, false, false, false, true, true, true, true, true, true, false, false, false] (mkSt [(0, one (Cell.sl g0 (List.map eTimpl_Rule v505))), (3, one (cS v506)), (4, one (cI v507)), (25, one (cS (v506 ++ r559))), (29, one (Cell.pe g0 (eTimpl_Rule b561) 2)), (38, one (cI (b564.Set.length : Int)))] [] [] 0) := by
     refine hI _ _ _ ?_
     refine A.all [12] (by kernel_rfl) rfl ⟨⟨_, rfl, ?_⟩, trivial⟩
     refine L.loadPe shape3 hF rfl rfl rfl rfl rfl (L.nil ?_)
     exact A.on (hO _ _ _ n2072575) (Le.mk [] hm rfl (Sa4 (Sa2 trivial)) trivial trivial)
    have n2072383 : W 7 #[true, true, true, true, true, true, false, false, true, true, true, true, true, false, false, true, true, true, true, true, true, false, false, false] (mkSt [(0, one (Cell.sl g0 (List.map eTimpl_Rule v505))), (3, one (cS v506)), (4, one (cI v507)), (18, one (cS v506)), (23, one (cI b558.Kind)), (30, one (cI b561.N)), (38, one (cI (b564.Set.length : Int)))] [] [] 0) := by
     refine hI _ _ _ ?_
     refine A.all [6] (by kernel_rfl) rfl ⟨⟨_, rfl, ?_⟩, trivial⟩
     refine L.call [false] [] [] 0 hF rfl rfl rfl ent68 rfl rfl rfl rfl rfl (Fspec_Var_gives k12  b558.Kind r559 hr559) rfl (L.nil ?_)
     refine Atk 7 rfl (Ca.bin rfl rfl (calm_str _ _ _ _ _ _)) (fun Q0 k0 => L.catS hF rfl rfl rfl rfl (of_decide_eq_true h560) (L.nil k0)) ?_
     exact A.on (hO _ _ _ n2072575) (Le.mk [] hm rfl (Sa4 (Sa2 trivial)) trivial trivial)
    have n499711 : W 7 #[true, true, true, true, true, true, true, true, true, true, true, true, true, false, false, true, true, true, true, false, false, false, false, false] (mkSt [(0, one (Cell.sl g0 (List.map eTimpl_Rule v505))), (3, one (cS v506)), (4, one (cI v507)), (25, one (cS (v506 ++ r559))), (30, one (cI b561.N)), (36, one (Cell.pe g0 (eTimpl_Rule b564) 1))] [] [] 0) := by
     refine hI _ _ _ ?_
     refine A.all [13, 19] (by kernel_rfl) rfl ⟨⟨_, rfl, ?_⟩, ⟨_, rfl, ?_⟩, trivial⟩
     ·refine L.call [false] [] [] 0 hF rfl rfl rfl ent68 rfl rfl rfl rfl rfl (Fspec_Var_gives k12  b561.N r562 hr562) rfl (L.nil ?_)
      refine Atk 14 rfl (Ca.bin rfl rfl (calm_str _ _ _ _ _ _)) (fun Q0 k0 => L.catS hF rfl rfl rfl rfl (of_decide_eq_true h563) (L.nil k0)) ?_
      refine A.all [19] (by kernel_rfl) rfl ⟨⟨_, rfl, ?_⟩, trivial⟩
      refine L.loadPe shape39 hF rfl rfl rfl rfl rfl (L.nil ?_)
      refine Atk 20 rfl (Ca.lenR (xs := b564.Set) (e := eI) Try.underlying39 rfl rfl) (fun Q0 k0 => L.lenR (xs := b564.Set) (e := eI) Try.underlying39 hF rfl rfl rfl rfl (L.nil k0)) ?_
      exact A.on (hO _ _ _ n2097151) (Le.mk [] hm rfl (Sa4 (Sa1 trivial)) trivial trivial)
     ·refine L.loadPe shape39 hF rfl rfl rfl rfl rfl (L.nil ?_)
      refine Atk 20 rfl (Ca.lenR (xs := b564.Set) (e := eI) Try.underlying39 rfl rfl) (fun Q0 k0 => L.lenR (xs := b564.Set) (e := eI) Try.underlying39 hF rfl rfl rfl rfl (L.nil k0)) ?_
      exact A.on (hO _ _ _ n2072575) (Le.mk [] hm rfl (Sa4 (Sa2 trivial)) trivial trivial)
    have n2072351 : W 8 #[true, true, true, true, true, false, false, false, true, true, true, true, true, false, false, true, true, true, true, true, true, false, false, false] (mkSt [(0, one (Cell.sl g0 (List.map eTimpl_Rule v505))), (3, one (cS v506)), (4, one (cI v507)), (18, one (cS v506)), (22, one (Cell.pe g0 (eTimpl_Rule b558) 0)), (30, one (cI b561.N)), (38, one (cI (b564.Set.length : Int)))] [] [] 0) := by
     refine hI _ _ _ ?_
     refine A.all [5] (by kernel_rfl) rfl ⟨⟨_, rfl, ?_⟩, trivial⟩
     refine L.loadPe shape3 hF rfl rfl rfl rfl rfl (L.nil ?_)
     exact A.on (hO _ _ _ n2072383) (Le.mk [] hm rfl (Sa4 (Sa2 (Sa1 trivial))) trivial trivial)
    have n2068287 : W 8 #[true, true, true, true, true, true, false, false, true, true, true, true, false, false, false, true, true, true, true, true, true, false, false, false] (mkSt [(0, one (Cell.sl g0 (List.map eTimpl_Rule v505))), (3, one (cS v506)), (4, one (cI v507)), (18, one (cS v506)), (23, one (cI b558.Kind)), (29, one (Cell.pe g0 (eTimpl_Rule b561) 2)), (38, one (cI (b564.Set.length : Int)))] [] [] 0) := by
     refine hI _ _ _ ?_
     refine A.all [6, 12] (by kernel_rfl) rfl ⟨⟨_, rfl, ?_⟩, ⟨_, rfl, ?_⟩, trivial⟩
     ·refine L.call [false] [] [] 0 hF rfl rfl rfl ent68 rfl rfl rfl rfl rfl (Fspec_Var_gives k12  b558.Kind r559 hr559) rfl (L.nil ?_)
      refine Atk 7 rfl (Ca.bin rfl rfl (calm_str _ _ _ _ _ _)) (fun Q0 k0 => L.catS hF rfl rfl rfl rfl (of_decide_eq_true h560) (L.nil k0)) ?_
      exact A.on (hO _ _ _ n2068479) (Le.mk [] hm rfl (Sa4 (Sa2 trivial)) trivial trivial)
     ·refine L.loadPe shape3 hF rfl rfl rfl rfl rfl (L.nil ?_)
      exact A.on (hO _ _ _ n2072383) (Le.mk [] hm rfl (Sa4 (Sa2 (Sa1 trivial))) trivial trivial)
    have n499519 : W 9 #[true, true, true, true, true, true, false, false, true, true, true, true, true, false, false, true, true, true, true, false, false, false, false, false] (mkSt [(0, one (Cell.sl g0 (List.map eTimpl_Rule v505))), (3, one (cS v506)), (4, one (cI v507)), (18, one (cS v506)), (23, one (cI b558.Kind)), (30, one (cI b561.N)), (36, one (Cell.pe g0 (eTimpl_Rule b564) 1))] [] [] 0) := by
     refine hI _ _ _ ?_
     refine A.all [6, 19] (by kernel_rfl) rfl ⟨⟨_, rfl, ?_⟩, ⟨_, rfl, ?_⟩, trivial⟩
     ·refine L.call [false] [] [] 0 hF rfl rfl rfl ent68 rfl rfl rfl rfl rfl (Fspec_Var_gives k12  b558.Kind r559 hr559) rfl (L.nil ?_)
      refine Atk 7 rfl (Ca.bin rfl rfl (calm_str _ _ _ _ _ _)) (fun Q0 k0 => L.catS hF rfl rfl rfl rfl (of_decide_eq_true h560) (L.nil k0)) ?_
      exact A.on (hO _ _ _ n499711) (Le.mk [] hm rfl (Sa4 (Sa2 trivial)) trivial trivial)
     ·refine L.loadPe shape39 hF rfl rfl rfl rfl rfl (L.nil ?_)
      refine Atk 20 rfl (Ca.lenR (xs := b564.Set) (e := eI) Try.underlying39 rfl rfl) (fun Q0 k0 => L.lenR (xs := b564.Set) (e := eI) Try.underlying39 hF rfl rfl rfl rfl (L.nil k0)) ?_
      exact A.on (hO _ _ _ n2072383) (Le.mk [] hm rfl (Sa4 (Sa2 (Sa1 trivial))) trivial trivial)
    refine hI _ _ _ ?_
    refine Atk 0 rfl (Ca.move) (fun Q0 k0 => L.move hF rfl rfl rfl (L.nil k0)) ?_
    refine Atk 1 rfl (Ca.move) (fun Q0 k0 => L.move hF rfl rfl rfl (L.nil k0)) ?_
    refine Atk 2 rfl (Ca.move) (fun Q0 k0 => L.move hF rfl rfl rfl (L.nil k0)) ?_
    refine Atk 3 rfl (Ca.indexAddr) (fun Q0 k0 => L.idxR (xs := v505) (e := eTimpl_Rule) Try.underlying28 info96 hF rfl rfl rfl rfl rfl hb558 rfl rfl (L.nil k0)) ?_
    refine Atk 4 rfl (Ca.fieldAddr Try.underlying96 rfl info3 rfl) (fun Q0 k0 => L.fieldAddr Try.underlying96 rfl info3 rfl hF rfl rfl rfl rfl rfl (L.nil k0)) ?_
    refine Atk 8 rfl (Ca.move) (fun Q0 k0 => L.move hF rfl rfl rfl (L.nil k0)) ?_
    refine Atk 9 rfl (Ca.move) (fun Q0 k0 => L.move hF rfl rfl rfl (L.nil k0)) ?_
    refine Atk 10 rfl (Ca.indexAddr) (fun Q0 k0 => L.idxR (xs := v505) (e := eTimpl_Rule) Try.underlying28 info96 hF rfl rfl rfl rfl rfl hb561 rfl rfl (L.nil k0)) ?_
    refine Atk 11 rfl (Ca.fieldAddr Try.underlying96 rfl info3 rfl) (fun Q0 k0 => L.fieldAddr Try.underlying96 rfl info3 rfl hF rfl rfl rfl rfl rfl (L.nil k0)) ?_
    refine Atk 15 rfl (Ca.move) (fun Q0 k0 => L.move hF rfl rfl rfl (L.nil k0)) ?_
    refine A.le (τ := mkSt [(0, one (Cell.sl g0 (List.map eTimpl_Rule v505))), (3, one (cS v506)), (4, one (cI v507)), (18, one (cS v506)), (22, one (Cell.pe g0 (eTimpl_Rule b558) 0)), (29, one (Cell.pe g0 (eTimpl_Rule b561) 2)), (33, one (Cell.sl g0 (List.map eTimpl_Rule v505)))] [] [] 0) (Le.mk [] hm rfl (Sa4 (Sa2 (Sa1 trivial))) trivial trivial) ?_
    refine Atk 16 rfl (Ca.move) (fun Q0 k0 => L.move hF rfl rfl rfl (L.nil k0)) ?_
    refine Atk 17 rfl (Ca.indexAddr) (fun Q0 k0 => L.idxR (xs := v505) (e := eTimpl_Rule) Try.underlying28 info96 hF rfl rfl rfl rfl rfl hb564 rfl rfl (L.nil k0)) ?_
    refine Atk 18 rfl (Ca.fieldAddr Try.underlying96 rfl info39 rfl) (fun Q0 k0 => L.fieldAddr Try.underlying96 rfl info39 rfl hF rfl rfl rfl rfl rfl (L.nil k0)) ?_
    refine A.all [5, 12, 19] (by kernel_rfl) rfl ⟨⟨_, rfl, ?_⟩, ⟨_, rfl, ?_⟩, ⟨_, rfl, ?_⟩, trivial⟩
    ·refine L.loadPe shape3 hF rfl rfl rfl rfl rfl (L.nil ?_)
     refine A.all [6, 12, 19] (by kernel_rfl) rfl ⟨⟨_, rfl, ?_⟩, ⟨_, rfl, ?_⟩, ⟨_, rfl, ?_⟩, trivial⟩
     ·refine L.call [false] [] [] 0 hF rfl rfl rfl ent68 rfl rfl rfl rfl rfl (Fspec_Var_gives k12  b558.Kind r559 hr559) rfl (L.nil ?_)
      refine Atk 7 rfl (Ca.bin rfl rfl (calm_str _ _ _ _ _ _)) (fun Q0 k0 => L.catS hF rfl rfl rfl rfl (of_decide_eq_true h560) (L.nil k0)) ?_
      refine A.all [12, 19] (by kernel_rfl) rfl ⟨⟨_, rfl, ?_⟩, ⟨_, rfl, ?_⟩, trivial⟩
      ·refine L.loadPe shape3 hF rfl rfl rfl rfl rfl (L.nil ?_)
       exact A.on (hO _ _ _ n499711) (Le.mk [] hm rfl (Sa4 (Sa2 trivial)) trivial trivial)
      ·refine L.loadPe shape39 hF rfl rfl rfl rfl rfl (L.nil ?_)
       refine Atk 20 rfl (Ca.lenR (xs := b564.Set) (e := eI) Try.underlying39 rfl rfl) (fun Q0 k0 => L.lenR (xs := b564.Set) (e := eI) Try.underlying39 hF rfl rfl rfl rfl (L.nil k0)) ?_
       exact A.on (hO _ _ _ n2068479) (Le.mk [] hm rfl (Sa4 (Sa2 trivial)) trivial trivial)
     ·refine L.loadPe shape3 hF rfl rfl rfl rfl rfl (L.nil ?_)
      exact A.on (hO _ _ _ n499519) (Le.mk [] hm rfl (Sa4 (Sa2 (Sa1 trivial))) trivial trivial)
     ·refine L.loadPe shape39 hF rfl rfl rfl rfl rfl (L.nil ?_)
      refine Atk 20 rfl (Ca.lenR (xs := b564.Set) (e := eI) Try.underlying39 rfl rfl) (fun Q0 k0 => L.lenR (xs := b564.Set) (e := eI) Try.underlying39 hF rfl rfl rfl rfl (L.nil k0)) ?_
      exact A.on (hO _ _ _ n2068287) (Le.mk [] hm rfl (Sa4 (Sa2 (Sa1 trivial))) trivial trivial)
    ·refine L.loadPe shape3 hF rfl rfl rfl rfl rfl (L.nil ?_)
     refine A.all [5, 19] (by kernel_rfl) rfl ⟨⟨_, rfl, ?_⟩, ⟨_, rfl, ?_⟩, trivial⟩
     ·refine L.loadPe shape3 hF rfl rfl rfl rfl rfl (L.nil ?_)
      exact A.on (hO _ _ _ n499519) (Le.mk [] hm rfl (Sa4 (Sa2 (Sa1 trivial))) trivial trivial)
     ·refine L.loadPe shape39 hF rfl rfl rfl rfl rfl (L.nil ?_)
      refine Atk 20 rfl (Ca.lenR (xs := b564.Set) (e := eI) Try.underlying39 rfl rfl) (fun Q0 k0 => L.lenR (xs := b564.Set) (e := eI) Try.underlying39 hF rfl rfl rfl rfl (L.nil k0)) ?_
      exact A.on (hO _ _ _ n2072351) (Le.mk [] hm rfl (Sa4 (Sa2 (Sa1 trivial))) trivial trivial)
    ·refine L.loadPe shape39 hF rfl rfl rfl rfl rfl (L.nil ?_)
     refine Atk 20 rfl (Ca.lenR (xs := b564.Set) (e := eI) Try.underlying39 rfl rfl) (fun Q0 k0 => L.lenR (xs := b564.Set) (e := eI) Try.underlying39 hF rfl rfl rfl rfl (L.nil k0)) ?_
     refine A.all [5, 12] (by kernel_rfl) rfl ⟨⟨_, rfl, ?_⟩, ⟨_, rfl, ?_⟩, trivial⟩
     ·refine L.loadPe shape3 hF rfl rfl rfl rfl rfl (L.nil ?_)
      exact A.on (hO _ _ _ n2068287) (Le.mk [] hm rfl (Sa4 (Sa2 (Sa1 trivial))) trivial trivial)
     ·refine L.loadPe shape3 hF rfl rfl rfl rfl rfl (L.nil ?_)
      exact A.on (hO _ _ _ n2072351) (Le.mk [] hm rfl (Sa4 (Sa2 (Sa1 trivial))) trivial trivial)
   ·replace H := condF hc H
    refine WpC.exit (WpC.seq (WpC.regionL ?_))
    refine L.move hF rfl rfl rfl ?_
    refine L.assign hF rfl rfl rfl (L.nil ?_)
    refine WpC.ret ?_
    cases H
    exact Leaves.ret rfl rfl rfl ⟨rfl, rfl⟩
/-! ### Fspec_ReadRules -/
def Fspec_ReadRules.j28 (cl24 : (List UInt8) → (List Timpl_Rule) → (List Int) → Int → Int → Option (List Timpl_Rule × Bool)) (k : Nat) (v322 : List UInt8) (v323 : List Timpl_Rule) (v324 : List Int) (v325 : Int) (v326 : List Int) (v327 : Int) (v328 : Bool) : Option (List Timpl_Rule × Bool) := cond v328 (some (([] : List Timpl_Rule), false)) ((at? v326 (2 : Int)).bind fun b329 => (Fspec_l17Vars k v322 v327 b329).bind fun r330 => cond (decide (r330.2 < (0 : Int))) (some (([] : List Timpl_Rule), false)) ((at? v326 (0 : Int)).bind fun b331 => (at? v326 (1 : Int)).bind fun b332 => cond (decide ((2 * (v323.length + ([(⟨b331, r330.1, b332⟩ : Timpl_Rule)] : List Timpl_Rule).length) + 192) * 40 ≤ 281474976710656)) (cl24 v322 (v323 ++ ([(⟨b331, r330.1, b332⟩ : Timpl_Rule)] : List Timpl_Rule)) v324 r330.2 (IntKind.i64.wrap (v325 + (1 : Int)))) none))
def Fspec_ReadRules.l24 : Nat → (List UInt8) → (List Timpl_Rule) → (List Int) → Int → Int → Option (List Timpl_Rule × Bool)
 | 0, _, _, _, _, _ => none
 | k24 + 1, v280, v281, v282, v283, v284 => (at? v282 (0 : Int)).bind fun b286 => cond (decide (v284 < b286)) ((Fspec_l17Vars k24 v280 v283 (3 : Int)).bind fun r311 => cond (decide (r311.2 < (0 : Int))) (Fspec_ReadRules.j28 (Fspec_ReadRules.l24 k24) k24 v280 v281 v282 v284 r311.1 r311.2 true) ((at? r311.1 (2 : Int)).bind fun b334 => Fspec_ReadRules.j28 (Fspec_ReadRules.l24 k24) k24 v280 v281 v282 v284 r311.1 r311.2 (decide (b334 > (31 : Int))))) ((Fspec_ShowRules k24 v281).bind fun r336 => cond (r336 != v280) (some (([] : List Timpl_Rule), false)) (some (v281, true)))
def Fspec_ReadRules.j2 (k : Nat) (v10 : List UInt8) (v11 : List Timpl_Rule) (v12 : List Int) (v13 : Int) (v14 : Bool) : Option (List Timpl_Rule × Bool) := cond v14 (some (v11, false)) (Fspec_ReadRules.l24 k v10 v11 v12 v13 (0 : Int))
def Fspec_ReadRules (k : Nat) (a0 : List UInt8) : Option (List Timpl_Rule × Bool) := (Fspec_l17Vars k a0 (0 : Int) (1 : Int)).bind fun r1 => cond (decide (r1.2 < (0 : Int))) (Fspec_ReadRules.j2 k a0 ([] : List Timpl_Rule) r1.1 r1.2 true) ((at? r1.1 (0 : Int)).bind fun b337 => Fspec_ReadRules.j2 k a0 ([] : List Timpl_Rule) r1.1 r1.2 (decide (b337 > (20 : Int))))
theorem ent16 : MG.Enters Try.prog 16 := ⟨Try.f16, Try.func16, rfl, by decide⟩
set_option maxHeartbeats 8000000 in
set_option maxRecDepth 100000 in
theorem Fspec_ReadRules_gives (k : Nat) (a0 : List UInt8) (r : List Timpl_Rule × Bool) (H : Fspec_ReadRules k a0 = some r) : Gives Try.prog 16 [V.one (cS a0)] [] [V.one (Cell.ow 3 (List.map eTimpl_Rule r.1)), V.one (cL r.2)] [] := by
 refine Gives.intro Try.func16 rfl rfl rfl rfl ?_
 intro F hF hm
 unfold Fspec_ReadRules at H
 obtain ⟨K, hK⟩ : ∃ K, k ≤ K := ⟨k, Nat.le_refl k⟩
 refine WpC.seq (WpC.regionL ?_)
 refine L.assign hF rfl rfl rfl ?_
 refine L.assign hF rfl rfl rfl (L.nil ?_)
 refine WpC.seq (WpC.regionL ?_)
 refine L.buildSliceN (e := eTimpl_Rule) 1 1 ([] : List Timpl_Rule) Try.underlying28 info96 rfl rfl rfl hF rfl rfl rfl rfl rfl rfl rfl rfl ?_
 refine L.assign hF rfl rfl rfl (L.nil ?_)
 refine WpC.seq (WpC.regionL ?_)
 refine L.move hF rfl rfl rfl ?_
 obtain ⟨r1, hr1, H⟩ := bindS H
 refine L.call [false, false, false] [] [] 2 hF rfl rfl rfl ent57 rfl rfl rfl rfl rfl (Fspec_l17Vars_gives k  a0 (0 : Int) (1 : Int) r1 hr1) rfl ?_
 refine L.move hF rfl rfl rfl ?_
 refine L.extract hF rfl rfl rfl rfl ?_
 refine L.extract hF rfl rfl rfl rfl ?_
 refine L.assign hF rfl rfl rfl ?_
 refine L.assign hF rfl rfl rfl (L.nil ?_)
 refine WpC.seq ?_
 refine WpC.join (fun σ => ∃ kj2 : Nat, ∃ v10 : List UInt8, ∃ v11 : List Timpl_Rule, ∃ v12 : List Int, ∃ v13 : Int, ∃ v14 : Bool, kj2 ≤ K ∧ Fspec_ReadRules.j2 kj2 v10 v11 v12 v13 v14 = some r ∧ σ = mkSt [(0, one (cS v10)), (4, one (Cell.own 0)), (5, one (Cell.own 1)), (6, one (cI v13)), (24, one (cL v14))] [(0, ⟨3, List.map eTimpl_Rule v11⟩), (1, ⟨1, List.map eI v12⟩)] [] 2) ?_ ?_
 ·rintro _ ⟨kj2, v10, v11, v12, v13, v14, hkj2, H, rfl⟩
  unfold Fspec_ReadRules.j2 at H
  refine WpC.cond rfl (fun hc => ?_) (fun hc => ?_)
  ·replace H := condT hc H
   refine WpC.seq (WpC.regionL ?_)
   refine L.move hF rfl rfl rfl ?_
   refine L.assign hF rfl rfl rfl ?_
   refine L.assign hF rfl rfl rfl (L.nil ?_)
   refine WpC.ret ?_
   cases H
   exact Leaves.ret rfl rfl rfl ⟨rfl, rfl⟩
  ·replace H := condF hc H
   refine WpC.skip (WpC.seq (WpC.seq (WpC.regionL ?_)))
   refine L.assign hF rfl rfl rfl (L.nil ?_)
   refine WpC.block ?_
   refine WpC.loopL (P := Try.prog) (fun n σ => ∃ v280 : List UInt8, ∃ v281 : List Timpl_Rule, ∃ v282 : List Int, ∃ v283 : Int, ∃ v284 : Int, n ≤ K ∧ Fspec_ReadRules.l24 n v280 v281 v282 v283 v284 = some r ∧ σ = mkSt [(0, one (cS v280)), (4, one (Cell.own 0)), (5, one (Cell.own 1)), (6, one (cI v283)), (7, one (cI v284))] [(0, ⟨3, List.map eTimpl_Rule v281⟩), (1, ⟨1, List.map eI v282⟩)] [] 2) kj2 ⟨_, ⟨v10, v11, v12, v13, (0 : Int), by omega, H, rfl⟩, Le.mk [(0, 0), (1, 1)] hm rfl (Sa4 (Sa1 trivial)) (Ra2 trivial) trivial⟩ ?_
   clear H
   rintro k24 _ ⟨v280, v281, v282, v283, v284, hk24, H, rfl⟩
   cases k24 with
   | zero => cases H
   | succ k24 =>
    rw [Fspec_ReadRules.l24] at H
    refine WpC.seq (WpC.seq (WpC.regionL ?_))
    refine L.move hF rfl rfl rfl ?_
    refine L.move hF rfl rfl rfl ?_
    obtain ⟨b286, hb286, H⟩ := bindS H
    refine L.idxR (xs := v282) (e := eI) Try.underlying39 info3 hF rfl rfl rfl rfl rfl hb286 rfl rfl ?_
    refine L.loadEp (xs := v282) (e := eI) shape3 hF rfl rfl rfl rfl (at?_get hb286).2 rfl rfl ?_
    refine L.bin hF rfl rfl rfl rfl rfl rfl (L.nil ?_)
    refine WpC.cond rfl (fun hc => ?_) (fun hc => ?_)
    ·replace H := condT hc H
     refine WpC.skip (WpC.seq (WpC.block (WpC.seq (WpC.regionL ?_))))
     refine L.move hF rfl rfl rfl ?_
     refine L.move hF rfl rfl rfl ?_
     obtain ⟨r311, hr311, H⟩ := bindS H
     refine L.call [false, false, false] [] [] 2 hF rfl rfl rfl ent57 rfl rfl rfl rfl rfl (Fspec_l17Vars_gives k24  v280 v283 (3 : Int) r311 hr311) rfl ?_
     refine L.move hF rfl rfl rfl ?_
     refine L.extract hF rfl rfl rfl rfl ?_
     refine L.extract hF rfl rfl rfl rfl ?_
     refine L.assign hF rfl rfl rfl ?_
     refine L.assign hF rfl rfl rfl (L.nil ?_)
     refine WpC.seq ?_
     refine WpC.join (fun σ => ∃ kj28 : Nat, ∃ v322 : List UInt8, ∃ v323 : List Timpl_Rule, ∃ v324 : List Int, ∃ v325 : Int, ∃ v326 : List Int, ∃ v327 : Int, ∃ v328 : Bool, kj28 ≤ K ∧ Fspec_ReadRules.j28 (Fspec_ReadRules.l24 k24) kj28 v322 v323 v324 v325 v326 v327 v328 = some r ∧ σ = mkSt [(0, one (cS v322)), (4, one (Cell.own 0)), (5, one (Cell.own 1)), (7, one (cI v325)), (8, one (Cell.own 2)), (9, one (cI v327)), (46, one (cL v328))] [(0, ⟨3, List.map eTimpl_Rule v323⟩), (1, ⟨1, List.map eI v324⟩), (2, ⟨1, List.map eI v326⟩)] [] 3) ?_ ?_
     ·rintro _ ⟨kj28, v322, v323, v324, v325, v326, v327, v328, hkj28, H, rfl⟩
      unfold Fspec_ReadRules.j28 at H
      refine WpC.cond rfl (fun hc => ?_) (fun hc => ?_)
      ·replace H := condT hc H
       refine WpC.seq (WpC.regionL ?_)
       refine L.buildSliceN (e := eTimpl_Rule) 1 3 ([] : List Timpl_Rule) Try.underlying28 info96 rfl rfl rfl hF rfl rfl rfl rfl rfl rfl rfl rfl ?_
       refine L.assign hF rfl rfl rfl ?_
       refine L.assign hF rfl rfl rfl (L.nil ?_)
       refine WpC.ret ?_
       cases H
       exact Leaves.ret rfl rfl rfl ⟨rfl, rfl⟩
      ·replace H := condF hc H
       refine WpC.skip (WpC.seq (WpC.regionL ?_))
       refine L.move hF rfl rfl rfl ?_
       refine L.move hF rfl rfl rfl ?_
       refine L.move hF rfl rfl rfl ?_
       obtain ⟨b329, hb329, H⟩ := bindS H
       refine L.idxR (xs := v326) (e := eI) Try.underlying39 info3 hF rfl rfl rfl rfl rfl hb329 rfl rfl ?_
       refine L.loadEp (xs := v326) (e := eI) shape3 hF rfl rfl rfl rfl (at?_get hb329).2 rfl rfl ?_
       obtain ⟨r330, hr330, H⟩ := bindS H
       refine L.call [false, false, false] [] [] 3 hF rfl rfl rfl ent57 rfl rfl rfl rfl rfl (Fspec_l17Vars_gives kj28  v322 v327 b329 r330 hr330) rfl ?_
       refine L.move hF rfl rfl rfl ?_
       refine L.extract hF rfl rfl rfl rfl ?_
       refine L.extract hF rfl rfl rfl rfl ?_
       refine L.assign hF rfl rfl rfl ?_
       refine L.assign hF rfl rfl rfl (L.nil ?_)
       refine WpC.seq (WpC.seq (WpC.regionL ?_))
       refine L.move hF rfl rfl rfl ?_
       refine L.bin hF rfl rfl rfl rfl rfl rfl (L.nil ?_)
       refine WpC.cond rfl (fun hc => ?_) (fun hc => ?_)
       ·replace H := condT hc H
        refine WpC.seq (WpC.regionL ?_)
        refine L.buildSliceN (e := eTimpl_Rule) 1 5 ([] : List Timpl_Rule) Try.underlying28 info96 rfl rfl rfl hF rfl rfl rfl rfl rfl rfl rfl rfl ?_
        refine L.assign hF rfl rfl rfl ?_
        refine L.assign hF rfl rfl rfl (L.nil ?_)
        refine WpC.ret ?_
        cases H
        exact Leaves.ret rfl rfl rfl ⟨rfl, rfl⟩
       ·replace H := condF hc H
        refine WpC.skip (WpC.seq ?_)
        obtain ⟨b331, hb331, H⟩ := bindS H
        obtain ⟨b332, hb332, H⟩ := bindS H
        obtain ⟨h333, H⟩ := condG H
        refine A.begin mixed rfl rfl ?_
        intro W hI hO
        have n255 : W 4 #[true, true, true, true, true, true, true, true, false, false, false, false] (mkSt [(0, one (cS v322)), (4, one (Cell.own 0)), (5, one (Cell.own 1)), (7, one (cI v325)), (9, one (cI r330.2)), (60, one (Cell.own 0)), (63, one (cI b331)), (66, one (cI b332)), (67, one (Cell.own 2))] [(0, ⟨3, List.map eTimpl_Rule v323⟩), (1, ⟨1, List.map eI v324⟩), (2, ⟨1, List.map eI r330.1⟩)] [] 3) := by
         refine hI _ _ _ ?_
         refine Atk 8 rfl (Ca.build rfl (by rw [built96]; rfl)) (fun Q0 k0 => L.buildF built96 hF rfl rfl rfl rfl (L.nil k0)) ?_
         refine A.all [9] (by kernel_rfl) rfl ⟨⟨_, rfl, ?_⟩, trivial⟩
         refine L.buildSliceN (e := eTimpl_Rule) 1 3 ([(⟨b331, r330.1, b332⟩ : Timpl_Rule)] : List Timpl_Rule) Try.underlying28 info96 rfl rfl rfl hF rfl rfl rfl rfl rfl rfl rfl rfl (L.nil ?_)
         refine A.all [10] (by kernel_rfl) rfl ⟨⟨_, rfl, ?_⟩, trivial⟩
         refine L.appendN (xs := v323) (ys := ([(⟨b331, r330.1, b332⟩ : Timpl_Rule)] : List Timpl_Rule)) (e := eTimpl_Rule) 4 Try.underlying28 info96 rfl rfl hF rfl rfl rfl rfl rfl rfl rfl rfl rfl (fun _ _ h1 h2 => by cases h1; cases h2; rfl) Try.underlying28 (of_decide_eq_true h333) rfl rfl (L.nil ?_)
         refine Atk 11 rfl (Ca.assign) (fun Q0 k0 => L.assign hF rfl rfl rfl (L.nil k0)) ?_
         refine A.le (τ := mkSt [(0, one (cS v322)), (4, one (Cell.own 0)), (5, one (Cell.own 1)), (7, one (cI v325)), (9, one (cI r330.2))] [(0, ⟨3, List.map eTimpl_Rule (v323 ++ ([(⟨b331, r330.1, b332⟩ : Timpl_Rule)] : List Timpl_Rule))⟩), (1, ⟨1, List.map eI v324⟩)] [] 2) (Le.mk [(0, 4), (1, 1)] hm rfl (Sa4 (Sa1 trivial)) (Ra2 trivial) trivial) ?_
         refine A.done (by kernel_rfl) ?_
         refine WpC.regionL ?_
         refine L.move hF rfl rfl rfl ?_
         refine L.assign hF rfl rfl rfl (L.nil ?_)
         refine WpC.regionL ?_
         refine L.move hF rfl rfl rfl ?_
         refine L.bin hF rfl rfl rfl rfl rfl rfl ?_
         refine L.assign hF rfl rfl rfl (L.nil ?_)
         exact ⟨k24, _, by omega, ⟨v322, (v323 ++ ([(⟨b331, r330.1, b332⟩ : Timpl_Rule)] : List Timpl_Rule)), v324, r330.2, (IntKind.i64.wrap (v325 + (1 : Int))), by omega, H, rfl⟩, Le.mk [(0, 0), (1, 1)] hm rfl (Sa4 (Sa1 trivial)) (Ra2 trivial) trivial⟩
        refine hI _ _ _ ?_
        refine Atk 0 rfl (Ca.move) (fun Q0 k0 => L.move hF rfl rfl rfl (L.nil k0)) ?_
        refine Atk 1 rfl (Ca.move) (fun Q0 k0 => L.move hF rfl rfl rfl (L.nil k0)) ?_
        refine Atk 2 rfl (Ca.indexAddr) (fun Q0 k0 => L.idxR (xs := v326) (e := eI) Try.underlying39 info3 hF rfl rfl rfl rfl rfl hb331 rfl rfl (L.nil k0)) ?_
        refine Atk 4 rfl (Ca.move) (fun Q0 k0 => L.move hF rfl rfl rfl (L.nil k0)) ?_
        refine Atk 5 rfl (Ca.indexAddr) (fun Q0 k0 => L.idxR (xs := v326) (e := eI) Try.underlying39 info3 hF rfl rfl rfl rfl rfl hb332 rfl rfl (L.nil k0)) ?_
        refine Atk 7 rfl (Ca.move) (fun Q0 k0 => L.move hF rfl rfl rfl (L.nil k0)) ?_
        refine A.all [3, 6] (by kernel_rfl) rfl ⟨⟨_, rfl, ?_⟩, ⟨_, rfl, ?_⟩, trivial⟩
        ·refine L.loadEp (xs := v326) (e := eI) shape3 hF rfl rfl rfl rfl (at?_get hb331).2 rfl rfl ?_
         refine L.nil ?_
         refine A.all [6] (by kernel_rfl) rfl ⟨⟨_, rfl, ?_⟩, trivial⟩
         refine L.loadEp (xs := v326) (e := eI) shape3 hF rfl rfl rfl rfl (at?_get hb332).2 rfl rfl ?_
         refine L.nil ?_
         exact A.on (hO _ _ _ n255) (Le.mk [(0, 0), (1, 1), (2, 3)] hm rfl (Sa8 (Sa1 trivial)) (Ra2 (Ra1 trivial)) trivial)
        ·refine L.loadEp (xs := v326) (e := eI) shape3 hF rfl rfl rfl rfl (at?_get hb332).2 rfl rfl ?_
         refine L.nil ?_
         refine A.all [3] (by kernel_rfl) rfl ⟨⟨_, rfl, ?_⟩, trivial⟩
         refine L.loadEp (xs := v326) (e := eI) shape3 hF rfl rfl rfl rfl (at?_get hb331).2 rfl rfl ?_
         refine L.nil ?_
         exact A.on (hO _ _ _ n255) (Le.mk [(0, 0), (1, 1), (2, 3)] hm rfl (Sa8 (Sa1 trivial)) (Ra2 (Ra1 trivial)) trivial)
     ·refine WpC.regionL ?_
      refine L.move hF rfl rfl rfl ?_
      refine L.bin hF rfl rfl rfl rfl rfl rfl ?_
      refine L.move hF rfl rfl rfl ?_
      refine L.split (fun hc => ?_) (fun hc => ?_)
      ·replace H := condT hc H
       refine L.off hF rfl rfl ?_
       refine L.off hF rfl rfl ?_
       refine L.off hF rfl rfl ?_
       refine L.off hF rfl rfl ?_
       refine L.pick hF rfl rfl rfl rfl (L.nil ?_)
       exact ⟨_, ⟨k24, v280, v281, v282, v284, r311.1, r311.2, true, by omega, H, rfl⟩, Le.mk [(0, 0), (1, 1), (2, 2)] hm rfl (Sa4 (Sa2 (Sa1 trivial))) (Ra2 (Ra1 trivial)) trivial⟩
      ·replace H := condF hc H
       refine L.move hF rfl rfl rfl ?_
       obtain ⟨b334, hb334, H⟩ := bindS H
       refine L.idxR (xs := r311.1) (e := eI) Try.underlying39 info3 hF rfl rfl rfl rfl rfl hb334 rfl rfl ?_
       refine L.loadEp (xs := r311.1) (e := eI) shape3 hF rfl rfl rfl rfl (at?_get hb334).2 rfl rfl ?_
       refine L.bin hF rfl rfl rfl rfl rfl rfl ?_
       refine L.pick hF rfl rfl rfl rfl (L.nil ?_)
       exact ⟨_, ⟨k24, v280, v281, v282, v284, r311.1, r311.2, (decide (b334 > (31 : Int))), by omega, H, rfl⟩, Le.mk [(0, 0), (1, 1), (2, 2)] hm rfl (Sa4 (Sa2 (Sa1 trivial))) (Ra2 (Ra1 trivial)) trivial⟩
    ·replace H := condF hc H
     refine WpC.exit (WpC.seq (WpC.seq (WpC.regionL ?_)))
     refine L.move hF rfl rfl rfl ?_
     obtain ⟨r336, hr336, H⟩ := bindS H
     refine L.call [false] [0] [] 2 hF rfl rfl rfl ent26 rfl rfl rfl rfl rfl (Fspec_ShowRules_gives k24 false v281 r336 hr336) rfl ?_
     refine L.move hF rfl rfl rfl ?_
     refine L.binS hF rfl rfl rfl rfl rfl (L.nil ?_)
     refine WpC.cond rfl (fun hc => ?_) (fun hc => ?_)
     ·replace H := condT hc H
      refine WpC.seq (WpC.regionL ?_)
      refine L.buildSliceN (e := eTimpl_Rule) 1 3 ([] : List Timpl_Rule) Try.underlying28 info96 rfl rfl rfl hF rfl rfl rfl rfl rfl rfl rfl rfl ?_
      refine L.assign hF rfl rfl rfl ?_
      refine L.assign hF rfl rfl rfl (L.nil ?_)
      refine WpC.ret ?_
      cases H
      exact Leaves.ret rfl rfl rfl ⟨rfl, rfl⟩
     ·replace H := condF hc H
      refine WpC.skip (WpC.seq (WpC.regionL ?_))
      refine L.move hF rfl rfl rfl ?_
      refine L.assign hF rfl rfl rfl ?_
      refine L.assign hF rfl rfl rfl (L.nil ?_)
      refine WpC.ret ?_
      cases H
      exact Leaves.ret rfl rfl rfl ⟨rfl, rfl⟩
 ·refine WpC.regionL ?_
  refine L.move hF rfl rfl rfl ?_
  refine L.bin hF rfl rfl rfl rfl rfl rfl ?_
  refine L.move hF rfl rfl rfl ?_
  refine L.split (fun hc => ?_) (fun hc => ?_)
  ·replace H := condT hc H
   refine L.off hF rfl rfl ?_
   refine L.off hF rfl rfl ?_
   refine L.off hF rfl rfl ?_
   refine L.off hF rfl rfl ?_
   refine L.pick hF rfl rfl rfl rfl (L.nil ?_)
   exact ⟨_, ⟨k, a0, ([] : List Timpl_Rule), r1.1, r1.2, true, by omega, H, rfl⟩, Le.mk [(0, 1), (1, 2)] hm rfl (Sa4 (Sa1 trivial)) (Ra2 trivial) trivial⟩
  ·replace H := condF hc H
   refine L.move hF rfl rfl rfl ?_
   obtain ⟨b337, hb337, H⟩ := bindS H
   refine L.idxR (xs := r1.1) (e := eI) Try.underlying39 info3 hF rfl rfl rfl rfl rfl hb337 rfl rfl ?_
   refine L.loadEp (xs := r1.1) (e := eI) shape3 hF rfl rfl rfl rfl (at?_get hb337).2 rfl rfl ?_
   refine L.bin hF rfl rfl rfl rfl rfl rfl ?_
   refine L.pick hF rfl rfl rfl rfl (L.nil ?_)
   exact ⟨_, ⟨k, a0, ([] : List Timpl_Rule), r1.1, r1.2, (decide (b337 > (20 : Int))), by omega, H, rfl⟩, Le.mk [(0, 1), (1, 2)] hm rfl (Sa4 (Sa1 trivial)) (Ra2 trivial) trivial⟩
/-! ### Fimpl_within -/
def Fimpl_within (k : Nat) (a0 : Int) (a1 : Int) (a2 : Int) : Option Bool := cond (decide (a0 ≥ a1)) (some (decide (a0 ≤ a2))) (some false)
theorem ent78 : MG.Enters Try.prog 78 := ⟨Try.f78, Try.func78, rfl, by decide⟩
set_option maxHeartbeats 8000000 in
set_option maxRecDepth 100000 in
theorem Fimpl_within_gives (k : Nat) (a0 : Int) (a1 : Int) (a2 : Int) (r : Bool) (H : Fimpl_within k a0 a1 a2 = some r) : Gives Try.prog 78 [V.one (cI a0), V.one (cI a1), V.one (cI a2)] [] [V.one (cL r)] [] := by
 refine Gives.intro Try.func78 rfl rfl rfl rfl ?_
 intro F hF hm
 unfold Fimpl_within at H
 obtain ⟨K, hK⟩ : ∃ K, k ≤ K := ⟨k, Nat.le_refl k⟩
 refine WpC.seq (WpC.regionL ?_)
 refine L.assign hF rfl rfl rfl (L.nil ?_)
 refine WpC.seq (WpC.regionL ?_)
 refine L.move hF rfl rfl rfl ?_
 refine L.move hF rfl rfl rfl ?_
 refine L.bin hF rfl rfl rfl rfl rfl rfl ?_
 refine L.move hF rfl rfl rfl ?_
 refine L.split (fun hc => ?_) (fun hc => ?_)
 ·replace H := condT hc H
  refine L.move hF rfl rfl rfl ?_
  refine L.move hF rfl rfl rfl ?_
  refine L.bin hF rfl rfl rfl rfl rfl rfl ?_
  refine L.pick hF rfl rfl rfl rfl ?_
  refine L.assign hF rfl rfl rfl (L.nil ?_)
  refine WpC.ret ?_
  cases H
  exact Leaves.ret rfl rfl rfl ⟨rfl, rfl⟩
 ·replace H := condF hc H
  refine L.off hF rfl rfl ?_
  refine L.off hF rfl rfl ?_
  refine L.off hF rfl rfl ?_
  refine L.pick hF rfl rfl rfl rfl ?_
  refine L.assign hF rfl rfl rfl (L.nil ?_)
  refine WpC.ret ?_
  cases H
  exact Leaves.ret rfl rfl rfl ⟨rfl, rfl⟩
/-! ### Fimpl_Var -/
def Fimpl_Var.l2 : Nat → Int → (List UInt8) → Option (List UInt8)
 | 0, _, _ => none
 | k2 + 1, v16, v17 => cond (decide (v16 > (127 : Int))) (cond (decide ((2 * (v17.length + ([(ofI (Go.bits .or .i64 (Go.bits .and .i64 v16 (127 : Int)) (128 : Int)))] : List UInt8).length) + 192) * 1 ≤ 281474976710656)) ((Fimpl_Var.l2 k2) (shrI .i64 v16 (7 : Int)) (v17 ++ ([(ofI (Go.bits .or .i64 (Go.bits .and .i64 v16 (127 : Int)) (128 : Int)))] : List UInt8))) none) (cond (decide ((2 * (v17.length + ([(ofI v16)] : List UInt8).length) + 192) * 1 ≤ 281474976710656)) (some (v17 ++ ([(ofI v16)] : List UInt8))) none)
def Fimpl_Var (k : Nat) (a0 : Int) : Option (List UInt8) := (Fimpl_within k a0 (0 : Int) (562949953421311 : Int)).bind fun r2 => cond (!r2) (some ([] : List UInt8)) (Fimpl_Var.l2 k a0 ([] : List UInt8))
theorem ent64 : MG.Enters Try.prog 64 := ⟨Try.f64, Try.func64, rfl, by decide⟩
set_option maxHeartbeats 8000000 in
set_option maxRecDepth 100000 in
theorem Fimpl_Var_gives (k : Nat) (a0 : Int) (r : List UInt8) (H : Fimpl_Var k a0 = some r) : Gives Try.prog 64 [V.one (cI a0)] [] [V.one (cS r)] [] := by
 refine Gives.intro Try.func64 rfl rfl rfl rfl ?_
 intro F hF hm
 unfold Fimpl_Var at H
 obtain ⟨K, hK⟩ : ∃ K, k ≤ K := ⟨k, Nat.le_refl k⟩
 refine WpC.seq (WpC.regionL ?_)
 refine L.assign hF rfl rfl rfl (L.nil ?_)
 refine WpC.seq (WpC.seq (WpC.regionL ?_))
 refine L.move hF rfl rfl rfl ?_
 obtain ⟨r2, hr2, H⟩ := bindS H
 refine L.call [false, false, false] [] [] 1 hF rfl rfl rfl ent78 rfl rfl rfl rfl rfl (Fimpl_within_gives k  a0 (0 : Int) (562949953421311 : Int) r2 hr2) rfl ?_
 refine L.not hF rfl rfl rfl (L.nil ?_)
 refine WpC.cond rfl (fun hc => ?_) (fun hc => ?_)
 ·replace H := condT hc H
  refine WpC.seq (WpC.regionL ?_)
  refine L.assign hF rfl rfl rfl (L.nil ?_)
  refine WpC.ret ?_
  cases H
  exact Leaves.ret rfl rfl rfl ⟨rfl, rfl⟩
 ·replace H := condF hc H
  refine WpC.skip (WpC.seq (WpC.regionL ?_))
  refine L.buildSlice (e := eB) 2 ([] : List UInt8) Try.underlying33 info5 rfl rfl rfl hF rfl rfl rfl rfl rfl rfl rfl rfl ?_
  refine L.assign hF rfl rfl rfl (L.nil ?_)
  refine WpC.seq (WpC.block ?_)
  refine WpC.loopL (P := Try.prog) (fun n σ => ∃ v16 : Int, ∃ v17 : List UInt8, n ≤ K ∧ Fimpl_Var.l2 n v16 v17 = some r ∧ σ = mkSt [(0, one (cI v16)), (3, one (Cell.own 0))] [(0, ⟨1, List.map eB v17⟩)] [] 1) k ⟨_, ⟨a0, ([] : List UInt8), by omega, H, rfl⟩, Le.mk [(0, 2)] hm rfl (Sa2 trivial) (Ra1 trivial) trivial⟩ ?_
  clear H
  rintro k2 _ ⟨v16, v17, hk2, H, rfl⟩
  cases k2 with
  | zero => cases H
  | succ k2 =>
   rw [Fimpl_Var.l2] at H
   refine WpC.seq (WpC.seq (WpC.regionL ?_))
   refine L.move hF rfl rfl rfl ?_
   refine L.bin hF rfl rfl rfl rfl rfl rfl (L.nil ?_)
   refine WpC.cond rfl (fun hc => ?_) (fun hc => ?_)
   ·replace H := condT hc H
    refine WpC.skip (WpC.block (WpC.seq (WpC.regionL ?_)))
    refine L.move hF rfl rfl rfl ?_
    refine L.move hF rfl rfl rfl ?_
    refine L.bin hF rfl rfl rfl rfl rfl rfl ?_
    refine L.bin hF rfl rfl rfl rfl rfl rfl ?_
    refine L.toB Try.underlying3 Try.underlying5 hF rfl rfl rfl ?_
    refine L.buildSlice (e := eB) 1 ([(ofI (Go.bits .or .i64 (Go.bits .and .i64 v16 (127 : Int)) (128 : Int)))] : List UInt8) Try.underlying33 info5 rfl rfl rfl hF rfl rfl rfl rfl rfl rfl rfl rfl ?_
    obtain ⟨h18, H⟩ := condG H
    refine L.append (xs := v17) (ys := ([(ofI (Go.bits .or .i64 (Go.bits .and .i64 v16 (127 : Int)) (128 : Int)))] : List UInt8)) (e := eB) 2 Try.underlying33 info5 rfl rfl hF rfl rfl rfl rfl rfl rfl rfl rfl (fun _ => rfl) (fun _ _ h1 h2 => by cases h1; cases h2; rfl) ⟨_, Try.underlying33⟩ (of_decide_eq_true h18) rfl rfl ?_
    refine L.assign hF rfl rfl rfl (L.nil ?_)
    refine WpC.regionL ?_
    refine L.move hF rfl rfl rfl ?_
    refine L.shr hF rfl rfl rfl rfl (by decide) ?_
    refine L.assign hF rfl rfl rfl (L.nil ?_)
    exact ⟨k2, _, by omega, ⟨(shrI .i64 v16 (7 : Int)), (v17 ++ ([(ofI (Go.bits .or .i64 (Go.bits .and .i64 v16 (127 : Int)) (128 : Int)))] : List UInt8)), by omega, H, rfl⟩, Le.mk [(0, 2)] hm rfl (Sa2 trivial) (Ra1 trivial) trivial⟩
   ·replace H := condF hc H
    refine WpC.exit (WpC.seq (WpC.regionL ?_))
    refine L.move hF rfl rfl rfl ?_
    refine L.move hF rfl rfl rfl ?_
    refine L.toB Try.underlying3 Try.underlying5 hF rfl rfl rfl ?_
    refine L.buildSlice (e := eB) 1 ([(ofI v16)] : List UInt8) Try.underlying33 info5 rfl rfl rfl hF rfl rfl rfl rfl rfl rfl rfl rfl ?_
    obtain ⟨h19, H⟩ := condG H
    refine L.append (xs := v17) (ys := ([(ofI v16)] : List UInt8)) (e := eB) 2 Try.underlying33 info5 rfl rfl hF rfl rfl rfl rfl rfl rfl rfl rfl (fun _ => rfl) (fun _ _ h1 h2 => by cases h1; cases h2; rfl) ⟨_, Try.underlying33⟩ (of_decide_eq_true h19) rfl rfl ?_
    refine L.b2s (xs := (v17 ++ ([(ofI v16)] : List UInt8))) Try.underlying33 Try.underlying5 Try.underlying9 hF rfl rfl rfl rfl ?_
    refine L.assign hF rfl rfl rfl (L.nil ?_)
    refine WpC.ret ?_
    cases H
    exact Leaves.ret rfl rfl rfl ⟨rfl, rfl⟩
/-! ### Fimpl_ReadVar -/
def Fimpl_ReadVar.l2 : Nat → (List UInt8) → Int → Int → Option (Int × Int)
 | 0, _, _, _ => none
 | k2 + 1, v82, v83, v84 => cond (decide (v84 < (v82.length : Int))) (cond (decide (v84 < (7 : Int))) ((at? v82 v84).bind fun b92 => cond (!(decide ((IntKind.i64.wrap ((7 : Int) * v84)) < 0))) ((at? v82 v84).bind fun b94 => cond (decide (b94 < (128 : UInt8))) ((Fimpl_Var k2 (Go.bits .or .i64 v83 (shlI .i64 ((b92 &&& (127 : UInt8)).toNat : Int) (IntKind.i64.wrap ((7 : Int) * v84))))).bind fun r97 => (cut? v82 (0 : Int) (IntKind.i64.wrap (v84 + (1 : Int)))).bind fun b98 => cond (r97 != b98) (some ((0 : Int), (0 : Int))) (some ((Go.bits .or .i64 v83 (shlI .i64 ((b92 &&& (127 : UInt8)).toNat : Int) (IntKind.i64.wrap ((7 : Int) * v84)))), (IntKind.i64.wrap (v84 + (1 : Int)))))) ((Fimpl_ReadVar.l2 k2) v82 (Go.bits .or .i64 v83 (shlI .i64 ((b92 &&& (127 : UInt8)).toNat : Int) (IntKind.i64.wrap ((7 : Int) * v84)))) (IntKind.i64.wrap (v84 + (1 : Int))))) none) (some ((0 : Int), (0 : Int)))) (some ((0 : Int), (0 : Int)))
def Fimpl_ReadVar (k : Nat) (a0 : List UInt8) : Option (Int × Int) := Fimpl_ReadVar.l2 k a0 (0 : Int) (0 : Int)
theorem ent123 : MG.Enters Try.prog 123 := ⟨Try.f123, Try.func123, rfl, by decide⟩
set_option maxHeartbeats 8000000 in
set_option maxRecDepth 100000 in
theorem Fimpl_ReadVar_gives (k : Nat) (a0 : List UInt8) (r : Int × Int) (H : Fimpl_ReadVar k a0 = some r) : Gives Try.prog 123 [V.one (cS a0)] [] [V.one (cI r.1), V.one (cI r.2)] [] := by
 refine Gives.intro Try.func123 rfl rfl rfl rfl ?_
 intro F hF hm
 unfold Fimpl_ReadVar at H
 obtain ⟨K, hK⟩ : ∃ K, k ≤ K := ⟨k, Nat.le_refl k⟩
 refine WpC.seq (WpC.regionL ?_)
 refine L.assign hF rfl rfl rfl ?_
 refine L.assign hF rfl rfl rfl (L.nil ?_)
 refine WpC.seq (WpC.regionL ?_)
 refine L.assign hF rfl rfl rfl (L.nil ?_)
 refine WpC.seq (WpC.seq (WpC.regionL ?_))
 refine L.assign hF rfl rfl rfl (L.nil ?_)
 refine WpC.block ?_
 refine WpC.loopL (P := Try.prog) (fun n σ => ∃ v82 : List UInt8, ∃ v83 : Int, ∃ v84 : Int, n ≤ K ∧ Fimpl_ReadVar.l2 n v82 v83 v84 = some r ∧ σ = mkSt [(0, one (cS v82)), (4, one (cI v83)), (5, one (cI v84))] [] [] 0) k ⟨_, ⟨a0, (0 : Int), (0 : Int), by omega, H, rfl⟩, Le.mk [] hm rfl (Sa2 (Sa1 trivial)) trivial trivial⟩ ?_
 clear H
 rintro k2 _ ⟨v82, v83, v84, hk2, H, rfl⟩
 cases k2 with
 | zero => cases H
 | succ k2 =>
  rw [Fimpl_ReadVar.l2] at H
  refine WpC.seq (WpC.seq (WpC.regionL ?_))
  refine L.move hF rfl rfl rfl ?_
  refine L.move hF rfl rfl rfl ?_
  refine L.lenS Try.underlying9 hF rfl rfl rfl ?_
  refine L.bin hF rfl rfl rfl rfl rfl rfl ?_
  refine L.move hF rfl rfl rfl ?_
  refine L.split (fun hc => ?_) (fun hc => ?_)
  ·replace H := condT hc H
   refine L.move hF rfl rfl rfl ?_
   refine L.bin hF rfl rfl rfl rfl rfl rfl ?_
   refine L.pick hF rfl rfl rfl rfl (L.nil ?_)
   refine WpC.cond rfl (fun hc => ?_) (fun hc => ?_)
   ·replace H := condT hc H
    refine WpC.skip (WpC.seq (WpC.block (WpC.seq (WpC.regionL ?_))))
    refine L.move hF rfl rfl rfl ?_
    refine L.move hF rfl rfl rfl ?_
    refine L.move hF rfl rfl rfl ?_
    obtain ⟨b92, hb92, H⟩ := bindS H
    refine L.idxS Try.underlying9 hF rfl rfl rfl rfl hb92 ?_
    refine L.binB (a := b92) (b := (127 : UInt8)) hF rfl rfl rfl rfl rfl ?_
    refine L.ofB Try.underlying5 Try.underlying3 hF rfl rfl rfl ?_
    refine L.move hF rfl rfl rfl ?_
    refine L.bin hF rfl rfl rfl rfl rfl rfl ?_
    obtain ⟨h93, H⟩ := condG H
    refine L.shl hF rfl rfl rfl rfl (by simpa using h93) ?_
    refine L.bin hF rfl rfl rfl rfl rfl rfl ?_
    refine L.assign hF rfl rfl rfl (L.nil ?_)
    refine WpC.seq (WpC.regionL ?_)
    refine L.move hF rfl rfl rfl ?_
    refine L.move hF rfl rfl rfl ?_
    obtain ⟨b94, hb94, H⟩ := bindS H
    refine L.idxS Try.underlying9 hF rfl rfl rfl rfl hb94 ?_
    refine L.binB (a := b94) (b := (128 : UInt8)) hF rfl rfl rfl rfl rfl (L.nil ?_)
    refine WpC.cond rfl (fun hc => ?_) (fun hc => ?_)
    ·replace H := condT hc H
     refine WpC.seq (WpC.seq ?_)
     obtain ⟨r97, hr97, H⟩ := bindS H
     obtain ⟨b98, hb98, H⟩ := bindS H
     refine A.begin mixed rfl rfl ?_
     intro W hI hO
     refine hI _ _ _ ?_
     refine Atk 0 rfl (Ca.move) (fun Q0 k0 => L.move hF rfl rfl rfl (L.nil k0)) ?_
     refine Atk 2 rfl (Ca.move) (fun Q0 k0 => L.move hF rfl rfl rfl (L.nil k0)) ?_
     refine Atk 3 rfl (Ca.move) (fun Q0 k0 => L.move hF rfl rfl rfl (L.nil k0)) ?_
     refine Atk 4 rfl (Ca.bin rfl rfl (calm_int _ _ _ _ _ _ _ _)) (fun Q0 k0 => L.bin hF rfl rfl rfl rfl rfl rfl (L.nil k0)) ?_
     refine Atk 5 rfl (Ca.slice) (fun Q0 k0 => L.cutS Try.underlying9 hF rfl rfl rfl rfl rfl hb98 (L.nil k0)) ?_
     refine A.all [1] (by kernel_rfl) rfl ⟨⟨_, rfl, ?_⟩, trivial⟩
     refine L.call [false] [] [] 0 hF rfl rfl rfl ent64 rfl rfl rfl rfl rfl (Fimpl_Var_gives k2  (Go.bits .or .i64 v83 (shlI .i64 ((b92 &&& (127 : UInt8)).toNat : Int) (IntKind.i64.wrap ((7 : Int) * v84)))) r97 hr97) rfl (L.nil ?_)
     refine Atk 6 rfl (Ca.bin rfl rfl (calm_str _ _ _ _ _ _)) (fun Q0 k0 => L.binS hF rfl rfl rfl rfl rfl (L.nil k0)) ?_
     refine A.le (τ := mkSt [(4, one (cI (Go.bits .or .i64 v83 (shlI .i64 ((b92 &&& (127 : UInt8)).toNat : Int) (IntKind.i64.wrap ((7 : Int) * v84)))))), (5, one (cI v84)), (36, one (cL (r97 != b98)))] [] [] 0) (Le.mk [] hm rfl (Sa2 (Sa1 trivial)) trivial trivial) ?_
     refine A.done (by kernel_rfl) ?_
     refine WpC.cond rfl (fun hc => ?_) (fun hc => ?_)
     ·replace H := condT hc H
      refine WpC.seq (WpC.regionL ?_)
      refine L.assign hF rfl rfl rfl ?_
      refine L.assign hF rfl rfl rfl (L.nil ?_)
      refine WpC.ret ?_
      cases H
      exact Leaves.ret rfl rfl rfl ⟨rfl, rfl⟩
     ·replace H := condF hc H
      refine WpC.skip (WpC.seq (WpC.regionL ?_))
      refine L.move hF rfl rfl rfl ?_
      refine L.move hF rfl rfl rfl ?_
      refine L.bin hF rfl rfl rfl rfl rfl rfl ?_
      refine L.assign hF rfl rfl rfl ?_
      refine L.assign hF rfl rfl rfl (L.nil ?_)
      refine WpC.ret ?_
      cases H
      exact Leaves.ret rfl rfl rfl ⟨rfl, rfl⟩
    ·replace H := condF hc H
     refine WpC.skip (WpC.regionL ?_)
     refine L.move hF rfl rfl rfl ?_
     refine L.bin hF rfl rfl rfl rfl rfl rfl ?_
     refine L.assign hF rfl rfl rfl (L.nil ?_)
     exact ⟨k2, _, by omega, ⟨v82, (Go.bits .or .i64 v83 (shlI .i64 ((b92 &&& (127 : UInt8)).toNat : Int) (IntKind.i64.wrap ((7 : Int) * v84)))), (IntKind.i64.wrap (v84 + (1 : Int))), by omega, H, rfl⟩, Le.mk [] hm rfl (Sa2 (Sa1 trivial)) trivial trivial⟩
   ·replace H := condF hc H
    refine WpC.exit (WpC.seq (WpC.regionL ?_))
    refine L.assign hF rfl rfl rfl ?_
    refine L.assign hF rfl rfl rfl (L.nil ?_)
    refine WpC.ret ?_
    cases H
    exact Leaves.ret rfl rfl rfl ⟨rfl, rfl⟩
  ·replace H := condF hc H
   refine L.off hF rfl rfl ?_
   refine L.off hF rfl rfl ?_
   refine L.pick hF rfl rfl rfl rfl (L.nil ?_)
   refine WpC.cond rfl (fun hc => by cases hc) (fun _ => ?_)
   refine WpC.exit (WpC.seq (WpC.regionL ?_))
   refine L.assign hF rfl rfl rfl ?_
   refine L.assign hF rfl rfl rfl (L.nil ?_)
   refine WpC.ret ?_
   cases H
   exact Leaves.ret rfl rfl rfl ⟨rfl, rfl⟩
/-! ### Fimpl_varAt -/
def Fimpl_varAt (k : Nat) (a0 : List UInt8) (a1 : Int) : Option (Int × Int) := (cut? a0 a1 (a0.length : Int)).bind fun b1 => (Fimpl_ReadVar k b1).bind fun r2 => cond (r2.2 == (0 : Int)) (some ((-1 : Int), a1)) (some (r2.1, (IntKind.i64.wrap (a1 + r2.2))))
theorem ent124 : MG.Enters Try.prog 124 := ⟨Try.f124, Try.func124, rfl, by decide⟩
set_option maxHeartbeats 8000000 in
set_option maxRecDepth 100000 in
theorem Fimpl_varAt_gives (k : Nat) (a0 : List UInt8) (a1 : Int) (r : Int × Int) (H : Fimpl_varAt k a0 a1 = some r) : Gives Try.prog 124 [V.one (cS a0), V.one (cI a1)] [] [V.one (cI r.1), V.one (cI r.2)] [] := by
 refine Gives.intro Try.func124 rfl rfl rfl rfl ?_
 intro F hF hm
 unfold Fimpl_varAt at H
 obtain ⟨K, hK⟩ : ∃ K, k ≤ K := ⟨k, Nat.le_refl k⟩
 refine WpC.seq (WpC.regionL ?_)
 refine L.assign hF rfl rfl rfl ?_
 refine L.assign hF rfl rfl rfl (L.nil ?_)
 refine WpC.seq (WpC.regionL ?_)
 refine L.move hF rfl rfl rfl ?_
 refine L.move hF rfl rfl rfl ?_
 obtain ⟨b1, hb1, H⟩ := bindS H
 refine L.cutS Try.underlying9 hF rfl rfl rfl rfl rfl hb1 ?_
 obtain ⟨r2, hr2, H⟩ := bindS H
 refine L.call [false] [] [] 2 hF rfl rfl rfl ent123 rfl rfl rfl rfl rfl (Fimpl_ReadVar_gives k  b1 r2 hr2) rfl ?_
 refine L.move hF rfl rfl rfl ?_
 refine L.extract hF rfl rfl rfl rfl ?_
 refine L.extract hF rfl rfl rfl rfl ?_
 refine L.assign hF rfl rfl rfl ?_
 refine L.assign hF rfl rfl rfl (L.nil ?_)
 refine WpC.seq (WpC.seq (WpC.regionL ?_))
 refine L.move hF rfl rfl rfl ?_
 refine L.bin hF rfl rfl rfl rfl rfl rfl (L.nil ?_)
 refine WpC.cond rfl (fun hc => ?_) (fun hc => ?_)
 ·replace H := condT hc H
  refine WpC.seq (WpC.regionL ?_)
  refine L.move hF rfl rfl rfl ?_
  refine L.assign hF rfl rfl rfl ?_
  refine L.assign hF rfl rfl rfl (L.nil ?_)
  refine WpC.ret ?_
  cases H
  exact Leaves.ret rfl rfl rfl ⟨rfl, rfl⟩
 ·replace H := condF hc H
  refine WpC.skip (WpC.seq (WpC.regionL ?_))
  refine L.move hF rfl rfl rfl ?_
  refine L.move hF rfl rfl rfl ?_
  refine L.move hF rfl rfl rfl ?_
  refine L.bin hF rfl rfl rfl rfl rfl rfl ?_
  refine L.assign hF rfl rfl rfl ?_
  refine L.assign hF rfl rfl rfl (L.nil ?_)
  refine WpC.ret ?_
  cases H
  exact Leaves.ret rfl rfl rfl ⟨rfl, rfl⟩
/-! ### Fimpl_vars_next -/
def Fimpl_vars_next.j2 (k : Nat) (v6 : Int) (v7 : Int) (v8 : Bool) (v9 : Timpl_vars) : Option (Int × Timpl_vars) := cond v8 (some ((0 : Int), (⟨v9.s, v9.at_, true⟩ : Timpl_vars))) (some (v6, (⟨v9.s, v7, v9.bad⟩ : Timpl_vars)))
def Fimpl_vars_next (k : Nat) (o0 : Timpl_vars) : Option (Int × Timpl_vars) := (Fimpl_varAt k o0.s o0.at_).bind fun r1 => cond o0.bad (Fimpl_vars_next.j2 k r1.1 r1.2 true o0) (Fimpl_vars_next.j2 k r1.1 r1.2 (decide (r1.1 < (0 : Int))) o0)
theorem ent59 : MG.Enters Try.prog 59 := ⟨Try.f59, Try.func59, rfl, by decide⟩
set_option maxHeartbeats 8000000 in
set_option maxRecDepth 100000 in
theorem Fimpl_vars_next_gives (k : Nat) (o0 : Timpl_vars) (r : Int × Timpl_vars) (H : Fimpl_vars_next k o0 = some r) : Gives Try.prog 59 [V.one (Cell.ptr 0 0)] [[cS o0.s, cI o0.at_, cL o0.bad]] [V.one (cI r.1)] [[cS r.2.s, cI r.2.at_, cL r.2.bad]] := by
 refine Gives.intro Try.func59 rfl rfl rfl rfl ?_
 intro F hF hm
 unfold Fimpl_vars_next at H
 obtain ⟨K, hK⟩ : ∃ K, k ≤ K := ⟨k, Nat.le_refl k⟩
 refine WpC.seq (WpC.regionL ?_)
 refine L.assign hF rfl rfl rfl (L.nil ?_)
 refine WpC.seq ?_
 obtain ⟨r1, hr1, H⟩ := bindS H
 refine A.begin mixed rfl rfl ?_
 intro W hI hO
 have n255 : W 6 #[true, true, true, true, true, true, true, true, false, false, false, false, false, false] (mkSt [(0, one (Cell.ptr 0 0)), (9, one (cS o0.s)), (13, one (cI o0.at_))] [] [(0, (bTimpl_vars o0))] 1) := by
  refine hI _ _ _ ?_
  refine A.all [8] (by kernel_rfl) rfl ⟨⟨_, rfl, ?_⟩, trivial⟩
  refine L.call [false, false] [] [] 1 hF rfl rfl rfl ent124 rfl rfl rfl rfl rfl (Fimpl_varAt_gives k  o0.s o0.at_ r1 hr1) rfl (L.nil ?_)
  refine Atk 9 rfl (Ca.move) (fun Q0 k0 => L.move hF rfl rfl rfl (L.nil k0)) ?_
  refine Atk 10 rfl (Ca.extract) (fun Q0 k0 => L.extract hF rfl rfl rfl rfl (L.nil k0)) ?_
  refine Atk 11 rfl (Ca.extract) (fun Q0 k0 => L.extract hF rfl rfl rfl rfl (L.nil k0)) ?_
  refine Atk 12 rfl (Ca.assign) (fun Q0 k0 => L.assign hF rfl rfl rfl (L.nil k0)) ?_
  refine Atk 13 rfl (Ca.assign) (fun Q0 k0 => L.assign hF rfl rfl rfl (L.nil k0)) ?_
  refine A.le (τ := mkSt [(0, one (Cell.ptr 0 0)), (3, one (cI r1.1)), (4, one (cI r1.2))] [] [(0, (bTimpl_vars o0))] 1) (Le.mk [(0, 0)] hm rfl (Sa2 (Sa1 trivial)) trivial (Ba1 trivial)) ?_
  refine A.done (by kernel_rfl) ?_
  refine WpC.seq ?_
  refine WpC.join (fun σ => ∃ kj2 : Nat, ∃ v6 : Int, ∃ v7 : Int, ∃ v8 : Bool, ∃ v9 : Timpl_vars, kj2 ≤ K ∧ Fimpl_vars_next.j2 kj2 v6 v7 v8 v9 = some r ∧ σ = mkSt [(0, one (Cell.ptr 0 0)), (3, one (cI v6)), (4, one (cI v7)), (24, one (cL v8))] [] [(0, (bTimpl_vars v9))] 1) ?_ ?_
  ·rintro _ ⟨kj2, v6, v7, v8, v9, hkj2, H, rfl⟩
   unfold Fimpl_vars_next.j2 at H
   refine WpC.cond rfl (fun hc => ?_) (fun hc => ?_)
   ·replace H := condT hc H
    refine WpC.seq (WpC.regionL ?_)
    refine L.move hF rfl rfl rfl ?_
    refine L.nilCheck hF rfl rfl rfl rfl ?_
    refine L.fieldAddr Try.underlying99 rfl info4 rfl hF rfl rfl rfl rfl rfl ?_
    refine L.storePtr shape4 hF rfl rfl rfl rfl rfl rfl rfl (L.nil ?_)
    refine WpC.seq (WpC.regionL ?_)
    refine L.assign hF rfl rfl rfl (L.nil ?_)
    refine WpC.ret ?_
    cases H
    exact Leaves.ret rfl rfl rfl ⟨rfl, rfl⟩
   ·replace H := condF hc H
    refine WpC.skip (WpC.seq (WpC.regionL ?_))
    refine L.move hF rfl rfl rfl ?_
    refine L.move hF rfl rfl rfl ?_
    refine L.nilCheck hF rfl rfl rfl rfl ?_
    refine L.fieldAddr Try.underlying99 rfl info3 rfl hF rfl rfl rfl rfl rfl ?_
    refine L.storePtr shape3 hF rfl rfl rfl rfl rfl rfl rfl (L.nil ?_)
    refine WpC.seq (WpC.regionL ?_)
    refine L.move hF rfl rfl rfl ?_
    refine L.assign hF rfl rfl rfl (L.nil ?_)
    refine WpC.ret ?_
    cases H
    exact Leaves.ret rfl rfl rfl ⟨rfl, rfl⟩
  ·refine WpC.regionL ?_
   refine L.move hF rfl rfl rfl ?_
   refine L.nilCheck hF rfl rfl rfl rfl ?_
   refine L.fieldAddr Try.underlying99 rfl info4 rfl hF rfl rfl rfl rfl rfl ?_
   refine L.loadPtr shape4 hF rfl rfl rfl rfl rfl rfl ?_
   refine L.move hF rfl rfl rfl ?_
   refine L.split (fun hc => ?_) (fun hc => ?_)
   ·replace H := condT hc H
    refine L.off hF rfl rfl ?_
    refine L.off hF rfl rfl ?_
    refine L.pick hF rfl rfl rfl rfl (L.nil ?_)
    exact ⟨_, ⟨k, r1.1, r1.2, true, o0, by omega, H, rfl⟩, Le.mk [(0, 0)] hm rfl (Sa4 trivial) trivial (Ba1 trivial)⟩
   ·replace H := condF hc H
    refine L.move hF rfl rfl rfl ?_
    refine L.bin hF rfl rfl rfl rfl rfl rfl ?_
    refine L.pick hF rfl rfl rfl rfl (L.nil ?_)
    exact ⟨_, ⟨k, r1.1, r1.2, (decide (r1.1 < (0 : Int))), o0, by omega, H, rfl⟩, Le.mk [(0, 0)] hm rfl (Sa4 trivial) trivial (Ba1 trivial)⟩
 refine hI _ _ _ ?_
 refine Atk 0 rfl (Ca.move) (fun Q0 k0 => L.move hF rfl rfl rfl (L.nil k0)) ?_
 refine Atk 1 rfl (Ca.nilCheck rfl rfl) (fun Q0 k0 => L.nilCheck hF rfl rfl rfl rfl (L.nil k0)) ?_
 refine Atk 2 rfl (Ca.fieldAddr Try.underlying99 rfl info9 rfl) (fun Q0 k0 => L.fieldAddr Try.underlying99 rfl info9 rfl hF rfl rfl rfl rfl rfl (L.nil k0)) ?_
 refine Atk 4 rfl (Ca.move) (fun Q0 k0 => L.move hF rfl rfl rfl (L.nil k0)) ?_
 refine Atk 5 rfl (Ca.nilCheck rfl rfl) (fun Q0 k0 => L.nilCheck hF rfl rfl rfl rfl (L.nil k0)) ?_
 refine Atk 6 rfl (Ca.fieldAddr Try.underlying99 rfl info3 rfl) (fun Q0 k0 => L.fieldAddr Try.underlying99 rfl info3 rfl hF rfl rfl rfl rfl rfl (L.nil k0)) ?_
 refine A.all [3, 7] (by kernel_rfl) rfl ⟨⟨_, rfl, ?_⟩, ⟨_, rfl, ?_⟩, trivial⟩
 ·refine L.loadPtr shape9 hF rfl rfl rfl rfl rfl rfl (L.nil ?_)
  refine A.all [7] (by kernel_rfl) rfl ⟨⟨_, rfl, ?_⟩, trivial⟩
  refine L.loadPtr shape3 hF rfl rfl rfl rfl rfl rfl (L.nil ?_)
  exact A.on (hO _ _ _ n255) (Le.mk [(0, 0)] hm rfl (Sa2 (Sa1 trivial)) trivial (Ba1 trivial))
 ·refine L.loadPtr shape3 hF rfl rfl rfl rfl rfl rfl (L.nil ?_)
  refine A.all [3] (by kernel_rfl) rfl ⟨⟨_, rfl, ?_⟩, trivial⟩
  refine L.loadPtr shape9 hF rfl rfl rfl rfl rfl rfl (L.nil ?_)
  exact A.on (hO _ _ _ n255) (Le.mk [(0, 0)] hm rfl (Sa2 (Sa1 trivial)) trivial (Ba1 trivial))
/-! ### Fimpl_vars_many -/
def Fimpl_vars_many.j1 (k : Nat) (v2 : Int) (v3 : List UInt8) (v4 : Int) (v5 : Bool) : Option (Int × Timpl_vars) := cond v5 (some ((0 : Int), (⟨v3, v4, v5⟩ : Timpl_vars))) (some (v2, (⟨v3, v4, v5⟩ : Timpl_vars)))
def Fimpl_vars_many (k : Nat) (a1 : Int) (o0 : Timpl_vars) : Option (Int × Timpl_vars) := (Fimpl_vars_next k o0).bind fun r1 => cond (decide (r1.1 > a1)) (Fimpl_vars_many.j1 k r1.1 r1.2.s r1.2.at_ true) (Fimpl_vars_many.j1 k r1.1 r1.2.s r1.2.at_ r1.2.bad)
theorem ent58 : MG.Enters Try.prog 58 := ⟨Try.f58, Try.func58, rfl, by decide⟩
set_option maxHeartbeats 8000000 in
set_option maxRecDepth 100000 in
theorem Fimpl_vars_many_gives (k : Nat) (a1 : Int) (o0 : Timpl_vars) (r : Int × Timpl_vars) (H : Fimpl_vars_many k a1 o0 = some r) : Gives Try.prog 58 [V.one (Cell.ptr 0 0), V.one (cI a1)] [[cS o0.s, cI o0.at_, cL o0.bad]] [V.one (cI r.1)] [[cS r.2.s, cI r.2.at_, cL r.2.bad]] := by
 refine Gives.intro Try.func58 rfl rfl rfl rfl ?_
 intro F hF hm
 unfold Fimpl_vars_many at H
 obtain ⟨K, hK⟩ : ∃ K, k ≤ K := ⟨k, Nat.le_refl k⟩
 refine WpC.seq (WpC.regionL ?_)
 refine L.assign hF rfl rfl rfl (L.nil ?_)
 refine WpC.seq (WpC.regionL ?_)
 refine L.move hF rfl rfl rfl ?_
 obtain ⟨r1, hr1, H⟩ := bindS H
 refine L.call [false] [] [0] 6 hF rfl rfl rfl ent59 rfl rfl rfl rfl rfl (Fimpl_vars_next_gives k  o0 r1 hr1) rfl ?_
 refine L.assign hF rfl rfl rfl (L.nil ?_)
 refine WpC.join (fun σ => ∃ kj1 : Nat, ∃ v2 : Int, ∃ v3 : List UInt8, ∃ v4 : Int, ∃ v5 : Bool, kj1 ≤ K ∧ Fimpl_vars_many.j1 kj1 v2 v3 v4 v5 = some r ∧ σ = mkSt [(0, one (Cell.ptr 0 0)), (5, one (cI v2))] [] [(0, [cS v3, cI v4, cL v5])] 1) ?_ ?_
 ·rintro _ ⟨kj1, v2, v3, v4, v5, hkj1, H, rfl⟩
  unfold Fimpl_vars_many.j1 at H
  refine WpC.seq (WpC.seq (WpC.regionL ?_))
  refine L.move hF rfl rfl rfl ?_
  refine L.nilCheck hF rfl rfl rfl rfl ?_
  refine L.fieldAddr Try.underlying99 rfl info4 rfl hF rfl rfl rfl rfl rfl ?_
  refine L.loadPtr shape4 hF rfl rfl rfl rfl rfl rfl (L.nil ?_)
  refine WpC.cond rfl (fun hc => ?_) (fun hc => ?_)
  ·replace H := condT hc H
   refine WpC.seq (WpC.regionL ?_)
   refine L.assign hF rfl rfl rfl (L.nil ?_)
   refine WpC.ret ?_
   cases H
   exact Leaves.ret rfl rfl rfl ⟨rfl, rfl⟩
  ·replace H := condF hc H
   refine WpC.skip (WpC.seq (WpC.regionL ?_))
   refine L.move hF rfl rfl rfl ?_
   refine L.assign hF rfl rfl rfl (L.nil ?_)
   refine WpC.ret ?_
   cases H
   exact Leaves.ret rfl rfl rfl ⟨rfl, rfl⟩
 ·refine WpC.seq (WpC.regionL ?_)
  refine L.move hF rfl rfl rfl ?_
  refine L.move hF rfl rfl rfl ?_
  refine L.bin hF rfl rfl rfl rfl rfl rfl (L.nil ?_)
  refine WpC.cond rfl (fun hc => ?_) (fun hc => ?_)
  ·replace H := condT hc H
   refine WpC.regionL ?_
   refine L.move hF rfl rfl rfl ?_
   refine L.nilCheck hF rfl rfl rfl rfl ?_
   refine L.fieldAddr Try.underlying99 rfl info4 rfl hF rfl rfl rfl rfl rfl ?_
   refine L.storePtr shape4 hF rfl rfl rfl rfl rfl rfl rfl (L.nil ?_)
   exact ⟨_, ⟨k, r1.1, r1.2.s, r1.2.at_, true, by omega, H, rfl⟩, Le.mk [(0, 0)] hm rfl (Sa2 trivial) trivial (Ba1 trivial)⟩
  ·replace H := condF hc H
   refine WpC.skip ?_
   exact ⟨_, ⟨k, r1.1, r1.2.s, r1.2.at_, r1.2.bad, by omega, H, rfl⟩, Le.mk [(0, 0)] hm rfl (Sa2 trivial) trivial (Ba1 trivial)⟩
/-! ### Fimpl_rises -/
def Fimpl_rises.l2 : Nat → (List Int) → Int → Option Bool
 | 0, _, _ => none
 | k2 + 1, v29, v30 => cond (decide (v30 < (v29.length : Int))) ((at? v29 (IntKind.i64.wrap (v30 - (1 : Int)))).bind fun b33 => (at? v29 v30).bind fun b34 => cond (decide (b33 ≥ b34)) (some false) ((Fimpl_rises.l2 k2) v29 (IntKind.i64.wrap (v30 + (1 : Int))))) (some true)
def Fimpl_rises (k : Nat) (a0 : List Int) : Option Bool := Fimpl_rises.l2 k a0 (1 : Int)
theorem ent164 : MG.Enters Try.prog 164 := ⟨Try.f164, Try.func164, rfl, by decide⟩
set_option maxHeartbeats 8000000 in
set_option maxRecDepth 100000 in
theorem Fimpl_rises_gives (k : Nat) (g0 : Bool) (a0 : List Int) (r : Bool) (H : Fimpl_rises k a0 = some r) : Gives Try.prog 164 [V.one (Cell.sl g0 (List.map eI a0))] [] [V.one (cL r)] [] := by
 refine Gives.intro Try.func164 rfl rfl rfl rfl ?_
 intro F hF hm
 unfold Fimpl_rises at H
 obtain ⟨K, hK⟩ : ∃ K, k ≤ K := ⟨k, Nat.le_refl k⟩
 refine WpC.seq (WpC.regionL ?_)
 refine L.assign hF rfl rfl rfl (L.nil ?_)
 refine WpC.seq (WpC.seq (WpC.regionL ?_))
 refine L.assign hF rfl rfl rfl (L.nil ?_)
 refine WpC.block ?_
 refine WpC.loopL (P := Try.prog) (fun n σ => ∃ v29 : List Int, ∃ v30 : Int, n ≤ K ∧ Fimpl_rises.l2 n v29 v30 = some r ∧ σ = mkSt [(0, one (Cell.sl g0 (List.map eI v29))), (3, one (cI v30))] [] [] 0) k ⟨_, ⟨a0, (1 : Int), by omega, H, rfl⟩, Le.mk [] hm rfl (Sa2 trivial) trivial trivial⟩ ?_
 clear H
 rintro k2 _ ⟨v29, v30, hk2, H, rfl⟩
 cases k2 with
 | zero => cases H
 | succ k2 =>
  rw [Fimpl_rises.l2] at H
  refine WpC.seq (WpC.seq (WpC.regionL ?_))
  refine L.move hF rfl rfl rfl ?_
  refine L.move hF rfl rfl rfl ?_
  refine L.lenR (xs := v29) (e := eI) Try.underlying39 hF rfl rfl rfl rfl ?_
  refine L.bin hF rfl rfl rfl rfl rfl rfl (L.nil ?_)
  refine WpC.cond rfl (fun hc => ?_) (fun hc => ?_)
  ·replace H := condT hc H
   refine WpC.skip (WpC.seq (WpC.block (WpC.seq ?_)))
   refine S.begin mixed (by kernel_rfl) ?_
   refine S.st 0 rfl rfl ((Ca.move).quiet) (fun Q0 k0 => L.move hF rfl rfl rfl (L.nil k0)) ?_
   refine S.st 1 rfl rfl ((Ca.move).quiet) (fun Q0 k0 => L.move hF rfl rfl rfl (L.nil k0)) ?_
   refine S.st 2 rfl rfl ((Ca.bin rfl rfl (calm_int _ _ _ _ _ _ _ _)).quiet) (fun Q0 k0 => L.bin hF rfl rfl rfl rfl rfl rfl (L.nil k0)) ?_
   obtain ⟨b33, hb33, H⟩ := bindS H
   refine S.st 3 rfl rfl ((Ca.indexAddr).quiet) (fun Q0 k0 => L.idxR (xs := v29) (e := eI) Try.underlying39 info3 hF rfl rfl rfl rfl rfl hb33 rfl rfl (L.nil k0)) ?_
   refine S.st 4 rfl rfl (Qu.load) (fun Q0 k0 => L.loadPe shape3 hF rfl rfl rfl rfl rfl (L.nil k0)) ?_
   refine S.st 5 rfl rfl ((Ca.move).quiet) (fun Q0 k0 => L.move hF rfl rfl rfl (L.nil k0)) ?_
   refine S.st 6 rfl rfl ((Ca.move).quiet) (fun Q0 k0 => L.move hF rfl rfl rfl (L.nil k0)) ?_
   obtain ⟨b34, hb34, H⟩ := bindS H
   refine S.st 7 rfl rfl ((Ca.indexAddr).quiet) (fun Q0 k0 => L.idxR (xs := v29) (e := eI) Try.underlying39 info3 hF rfl rfl rfl rfl rfl hb34 rfl rfl (L.nil k0)) ?_
   refine S.st 8 rfl rfl (Qu.load) (fun Q0 k0 => L.loadPe shape3 hF rfl rfl rfl rfl rfl (L.nil k0)) ?_
   refine S.st 9 rfl rfl ((Ca.bin rfl rfl (calm_int _ _ _ _ _ _ _ _)).quiet) (fun Q0 k0 => L.bin hF rfl rfl rfl rfl rfl rfl (L.nil k0)) ?_
   refine S.nil ?_
   refine WpC.cond rfl (fun hc => ?_) (fun hc => ?_)
   ·replace H := condT hc H
    refine WpC.seq (WpC.regionL ?_)
    refine L.assign hF rfl rfl rfl (L.nil ?_)
    refine WpC.ret ?_
    cases H
    exact Leaves.ret rfl rfl rfl ⟨rfl, rfl⟩
   ·replace H := condF hc H
    refine WpC.skip (WpC.regionL ?_)
    refine L.move hF rfl rfl rfl ?_
    refine L.bin hF rfl rfl rfl rfl rfl rfl ?_
    refine L.assign hF rfl rfl rfl (L.nil ?_)
    exact ⟨k2, _, by omega, ⟨v29, (IntKind.i64.wrap (v30 + (1 : Int))), by omega, H, rfl⟩, Le.mk [] hm rfl (Sa2 trivial) trivial trivial⟩
  ·replace H := condF hc H
   refine WpC.exit (WpC.seq (WpC.regionL ?_))
   refine L.assign hF rfl rfl rfl (L.nil ?_)
   refine WpC.ret ?_
   cases H
   exact Leaves.ret rfl rfl rfl ⟨rfl, rfl⟩
/-! ### Fimpl_areSet_1 -/
def Fimpl_areSet_1 (k : Nat) (a0 : Int) : Option Bool := (Fimpl_within k a0 (0 : Int) (30 : Int)).bind fun r1 => some r1
theorem ent165 : MG.Enters Try.prog 165 := ⟨Try.f165, Try.func165, rfl, by decide⟩
set_option maxHeartbeats 8000000 in
set_option maxRecDepth 100000 in
theorem Fimpl_areSet_1_gives (k : Nat) (a0 : Int) (r : Bool) (H : Fimpl_areSet_1 k a0 = some r) : Gives Try.prog 165 [V.one (cI a0)] [] [V.one (cL r)] [] := by
 refine Gives.intro Try.func165 rfl rfl rfl rfl ?_
 intro F hF hm
 unfold Fimpl_areSet_1 at H
 obtain ⟨K, hK⟩ : ∃ K, k ≤ K := ⟨k, Nat.le_refl k⟩
 refine WpC.seq (WpC.regionL ?_)
 refine L.assign hF rfl rfl rfl (L.nil ?_)
 refine WpC.seq (WpC.regionL ?_)
 refine L.move hF rfl rfl rfl ?_
 obtain ⟨r1, hr1, H⟩ := bindS H
 refine L.call [false, false, false] [] [] 1 hF rfl rfl rfl ent78 rfl rfl rfl rfl rfl (Fimpl_within_gives k  a0 (0 : Int) (30 : Int) r1 hr1) rfl ?_
 refine L.assign hF rfl rfl rfl (L.nil ?_)
 refine WpC.ret ?_
 cases H
 exact Leaves.ret rfl rfl rfl ⟨rfl, rfl⟩
/-! ### Fimpl_areAll__impl_areSet_1 -/
def Fimpl_areAll__impl_areSet_1.l2 : Nat → (List Int) → Int → Int → Int → Option Bool
 | 0, _, _, _, _ => none
 | k2 + 1, v39, v40, v41, v42 => cond (decide (v42 < v41)) ((at? v39 v42).bind fun b45 => (Fimpl_areSet_1 k2 b45).bind fun r46 => cond (!r46) (some false) ((Fimpl_areAll__impl_areSet_1.l2 k2) v39 v40 v41 (IntKind.i64.wrap (v42 + (1 : Int))))) (some (decide ((v39.length : Int) ≤ v40)))
def Fimpl_areAll__impl_areSet_1 (k : Nat) (a0 : List Int) (a1 : Int) : Option Bool := Fimpl_areAll__impl_areSet_1.l2 k a0 a1 (a0.length : Int) (0 : Int)
theorem ent142 : MG.Enters Try.prog 142 := ⟨Try.f142, Try.func142, rfl, by decide⟩
set_option maxHeartbeats 8000000 in
set_option maxRecDepth 100000 in
theorem Fimpl_areAll__impl_areSet_1_gives (k : Nat) (g0 : Bool) (a0 : List Int) (a1 : Int) (r : Bool) (H : Fimpl_areAll__impl_areSet_1 k a0 a1 = some r) : Gives Try.prog 142 [V.one (Cell.sl g0 (List.map eI a0)), V.one (cI a1), V.one (Cell.clo 165 [])] [] [V.one (cL r)] [] := by
 refine Gives.intro Try.func142 rfl rfl rfl rfl ?_
 intro F hF hm
 unfold Fimpl_areAll__impl_areSet_1 at H
 obtain ⟨K, hK⟩ : ∃ K, k ≤ K := ⟨k, Nat.le_refl k⟩
 refine WpC.seq (WpC.regionL ?_)
 refine L.assign hF rfl rfl rfl (L.nil ?_)
 refine WpC.seq (WpC.seq (WpC.regionL ?_))
 refine L.move hF rfl rfl rfl ?_
 refine L.lenR (xs := a0) (e := eI) Try.underlying39 hF rfl rfl rfl rfl ?_
 refine L.move hF rfl rfl rfl (L.nil ?_)
 refine WpC.block ?_
 refine WpC.loopL (P := Try.prog) (fun n σ => ∃ v39 : List Int, ∃ v40 : Int, ∃ v41 : Int, ∃ v42 : Int, n ≤ K ∧ Fimpl_areAll__impl_areSet_1.l2 n v39 v40 v41 v42 = some r ∧ σ = mkSt [(0, one (Cell.sl g0 (List.map eI v39))), (1, one (cI v40)), (2, one (Cell.clo 165 [])), (9, one (Cell.sl g0 (List.map eI v39))), (10, one (cI v41)), (11, one (cI v42))] [] [] 0) k ⟨_, ⟨a0, a1, (a0.length : Int), (0 : Int), by omega, H, rfl⟩, Le.mk [] hm rfl (Sa4 (Sa2 trivial)) trivial trivial⟩ ?_
 clear H
 rintro k2 _ ⟨v39, v40, v41, v42, hk2, H, rfl⟩
 cases k2 with
 | zero => cases H
 | succ k2 =>
  rw [Fimpl_areAll__impl_areSet_1.l2] at H
  refine WpC.seq (WpC.regionL ?_)
  refine L.bin hF rfl rfl rfl rfl rfl rfl (L.nil ?_)
  refine WpC.seq ?_
  refine WpC.cond rfl (fun hc => ?_) (fun hc => ?_)
  ·replace H := condT hc H
   refine WpC.skip (WpC.seq (WpC.block (WpC.seq (WpC.regionL ?_))))
   obtain ⟨b45, hb45, H⟩ := bindS H
   refine L.idxR (xs := v39) (e := eI) Try.underlying39 info3 hF rfl rfl rfl rfl rfl hb45 rfl rfl ?_
   refine L.loadPe shape3 hF rfl rfl rfl rfl rfl ?_
   refine L.assign hF rfl rfl rfl (L.nil ?_)
   refine WpC.seq (WpC.regionL ?_)
   refine L.move hF rfl rfl rfl ?_
   refine L.move hF rfl rfl rfl ?_
   obtain ⟨r46, hr46, H⟩ := bindS H
   refine L.call [false] [] [] 0 hF rfl rfl rfl ent165 rfl rfl rfl rfl rfl (Fimpl_areSet_1_gives k2  b45 r46 hr46) rfl ?_
   refine L.not hF rfl rfl rfl (L.nil ?_)
   refine WpC.cond rfl (fun hc => ?_) (fun hc => ?_)
   ·replace H := condT hc H
    refine WpC.seq (WpC.regionL ?_)
    refine L.assign hF rfl rfl rfl (L.nil ?_)
    refine WpC.ret ?_
    cases H
    exact Leaves.ret rfl rfl rfl ⟨rfl, rfl⟩
   ·replace H := condF hc H
    refine WpC.skip (WpC.regionL ?_)
    refine L.bin hF rfl rfl rfl rfl rfl rfl ?_
    refine L.move hF rfl rfl rfl (L.nil ?_)
    exact ⟨k2, _, by omega, ⟨v39, v40, v41, (IntKind.i64.wrap (v42 + (1 : Int))), by omega, H, rfl⟩, Le.mk [] hm rfl (Sa4 (Sa2 trivial)) trivial trivial⟩
  ·replace H := condF hc H
   refine WpC.exit (WpC.seq (WpC.regionL ?_))
   refine L.move hF rfl rfl rfl ?_
   refine L.lenR (xs := v39) (e := eI) Try.underlying39 hF rfl rfl rfl rfl ?_
   refine L.move hF rfl rfl rfl ?_
   refine L.bin hF rfl rfl rfl rfl rfl rfl ?_
   refine L.assign hF rfl rfl rfl (L.nil ?_)
   refine WpC.ret ?_
   cases H
   exact Leaves.ret rfl rfl rfl ⟨rfl, rfl⟩
/-! ### Fimpl_areSet -/
def Fimpl_areSet (k : Nat) (a0 : List Int) : Option Bool := (Fimpl_rises k a0).bind fun r3 => cond r3 ((Fimpl_areAll__impl_areSet_1 k a0 (31 : Int)).bind fun r4 => some r4) (some false)
theorem ent153 : MG.Enters Try.prog 153 := ⟨Try.f153, Try.func153, rfl, by decide⟩
set_option maxHeartbeats 8000000 in
set_option maxRecDepth 100000 in
theorem Fimpl_areSet_gives (k : Nat) (g0 : Bool) (a0 : List Int) (r : Bool) (H : Fimpl_areSet k a0 = some r) : Gives Try.prog 153 [V.one (Cell.sl g0 (List.map eI a0))] [] [V.one (cL r)] [] := by
 refine Gives.intro Try.func153 rfl rfl rfl rfl ?_
 intro F hF hm
 unfold Fimpl_areSet at H
 obtain ⟨K, hK⟩ : ∃ K, k ≤ K := ⟨k, Nat.le_refl k⟩
 refine WpC.seq (WpC.regionL ?_)
 refine L.assign hF rfl rfl rfl (L.nil ?_)
 refine WpC.seq (WpC.regionL ?_)
 refine L.move hF rfl rfl rfl ?_
 obtain ⟨r3, hr3, H⟩ := bindS H
 refine L.call [false] [] [] 1 hF rfl rfl rfl ent164 rfl rfl rfl rfl rfl (Fimpl_rises_gives k g0 a0 r3 hr3) rfl ?_
 refine L.move hF rfl rfl rfl ?_
 refine L.split (fun hc => ?_) (fun hc => ?_)
 ·replace H := condT hc H
  refine L.move hF rfl rfl rfl ?_
  obtain ⟨r4, hr4, H⟩ := bindS H
  refine L.call [false, false, false] [] [] 2 hF rfl rfl rfl ent142 rfl rfl rfl rfl rfl (Fimpl_areAll__impl_areSet_1_gives k g0 a0 (31 : Int) r4 hr4) rfl ?_
  refine L.pick hF rfl rfl rfl rfl ?_
  refine L.assign hF rfl rfl rfl (L.nil ?_)
  refine WpC.ret ?_
  cases H
  exact Leaves.ret rfl rfl rfl ⟨rfl, rfl⟩
 ·replace H := condF hc H
  refine L.off hF rfl rfl ?_
  refine L.off hF rfl rfl ?_
  refine L.pick hF rfl rfl rfl rfl ?_
  refine L.assign hF rfl rfl rfl (L.nil ?_)
  refine WpC.ret ?_
  cases H
  exact Leaves.ret rfl rfl rfl ⟨rfl, rfl⟩
/-! ### Fimpl_isTime -/
def Fimpl_isTime (k : Nat) (a0 : Int) : Option Bool := (Fimpl_within k a0 (0 : Int) (100000 : Int)).bind fun r1 => some r1
theorem ent154 : MG.Enters Try.prog 154 := ⟨Try.f154, Try.func154, rfl, by decide⟩
set_option maxHeartbeats 8000000 in
set_option maxRecDepth 100000 in
theorem Fimpl_isTime_gives (k : Nat) (a0 : Int) (r : Bool) (H : Fimpl_isTime k a0 = some r) : Gives Try.prog 154 [V.one (cI a0)] [] [V.one (cL r)] [] := by
 refine Gives.intro Try.func154 rfl rfl rfl rfl ?_
 intro F hF hm
 unfold Fimpl_isTime at H
 obtain ⟨K, hK⟩ : ∃ K, k ≤ K := ⟨k, Nat.le_refl k⟩
 refine WpC.seq (WpC.regionL ?_)
 refine L.assign hF rfl rfl rfl (L.nil ?_)
 refine WpC.seq (WpC.regionL ?_)
 refine L.move hF rfl rfl rfl ?_
 obtain ⟨r1, hr1, H⟩ := bindS H
 refine L.call [false, false, false] [] [] 1 hF rfl rfl rfl ent78 rfl rfl rfl rfl rfl (Fimpl_within_gives k  a0 (0 : Int) (100000 : Int) r1 hr1) rfl ?_
 refine L.assign hF rfl rfl rfl (L.nil ?_)
 refine WpC.ret ?_
 cases H
 exact Leaves.ret rfl rfl rfl ⟨rfl, rfl⟩
/-! ### Fimpl_ruleOk -/
def Fimpl_ruleOk.j4 (k : Nat) (v13 : Bool) (v14 : Timpl_Rule) : Option Bool := cond v13 ((Fimpl_isTime k v14.N).bind fun r16 => cond r16 (some ((v14.Set.length : Int) == (0 : Int))) (some false)) (some false)
def Fimpl_ruleOk.j3 (k : Nat) (v9 : Timpl_Rule) (v10 : Bool) : Option Bool := cond v10 ((Fimpl_areSet k v9.Set).bind fun r12 => cond r12 (some (v9.N == (0 : Int))) (some false)) (cond (v9.Kind == (4 : Int)) (Fimpl_ruleOk.j4 k (v9.Kind == (4 : Int)) v9) (Fimpl_ruleOk.j4 k (v9.Kind == (5 : Int)) v9))
def Fimpl_ruleOk (k : Nat) (a0 : Timpl_Rule) : Option Bool := cond (a0.Kind == (1 : Int)) (Fimpl_ruleOk.j3 k a0 (a0.Kind == (1 : Int))) (cond (a0.Kind == (2 : Int)) (Fimpl_ruleOk.j3 k a0 (a0.Kind == (2 : Int))) (Fimpl_ruleOk.j3 k a0 (a0.Kind == (3 : Int))))
theorem ent127 : MG.Enters Try.prog 127 := ⟨Try.f127, Try.func127, rfl, by decide⟩
set_option maxHeartbeats 8000000 in
set_option maxRecDepth 100000 in
theorem Fimpl_ruleOk_gives (k : Nat) (g0 : Bool) (a0 : Timpl_Rule) (r : Bool) (H : Fimpl_ruleOk k a0 = some r) : Gives Try.prog 127 [V.agg [cI a0.Kind, Cell.sl g0 (List.map eI a0.Set), cI a0.N]] [] [V.one (cL r)] [] := by
 refine Gives.intro Try.func127 rfl rfl rfl rfl ?_
 intro F hF hm
 unfold Fimpl_ruleOk at H
 obtain ⟨K, hK⟩ : ∃ K, k ≤ K := ⟨k, Nat.le_refl k⟩
 refine WpC.seq (WpC.regionL ?_)
 refine L.box 3 hF rfl rfl rfl rfl ?_
 refine L.assign hF rfl rfl rfl (L.nil ?_)
 refine WpC.seq (WpC.seq (WpC.regionL ?_))
 refine L.fieldAddr Try.underlying96 rfl info3 rfl hF rfl rfl rfl rfl rfl ?_
 refine L.loadPtr shape3 hF rfl rfl rfl rfl rfl rfl (L.nil ?_)
 refine WpC.block ?_
 refine WpC.join (fun σ => ∃ kj3 : Nat, ∃ v9 : Timpl_Rule, ∃ v10 : Bool, kj3 ≤ K ∧ Fimpl_ruleOk.j3 kj3 v9 v10 = some r ∧ σ = mkSt [(1, one (Cell.ptr 0 0)), (4, one (cI v9.Kind)), (5, one (cL v10))] [] [(0, (bTimpl_Rule g0 v9))] 1) ?_ ?_
 ·rintro _ ⟨kj3, v9, v10, hkj3, H, rfl⟩
  unfold Fimpl_ruleOk.j3 at H
  refine WpC.cond rfl (fun hc => ?_) (fun hc => ?_)
  ·replace H := condT hc H
   refine WpC.seq (WpC.regionL ?_)
   refine L.fieldAddr Try.underlying96 rfl info39 rfl hF rfl rfl rfl rfl rfl ?_
   refine L.loadPtr shape39 hF rfl rfl rfl rfl rfl rfl ?_
   obtain ⟨r12, hr12, H⟩ := bindS H
   refine L.call [false] [] [] 1 hF rfl rfl rfl ent153 rfl rfl rfl rfl rfl (Fimpl_areSet_gives kj3 g0 v9.Set r12 hr12) rfl ?_
   refine L.move hF rfl rfl rfl ?_
   refine L.split (fun hc => ?_) (fun hc => ?_)
   ·replace H := condT hc H
    refine L.fieldAddr Try.underlying96 rfl info3 rfl hF rfl rfl rfl rfl rfl ?_
    refine L.loadPtr shape3 hF rfl rfl rfl rfl rfl rfl ?_
    refine L.bin hF rfl rfl rfl rfl rfl rfl ?_
    refine L.pick hF rfl rfl rfl rfl ?_
    refine L.assign hF rfl rfl rfl (L.nil ?_)
    refine WpC.ret ?_
    cases H
    exact Leaves.ret rfl rfl rfl ⟨rfl, rfl⟩
   ·replace H := condF hc H
    refine L.off hF rfl rfl ?_
    refine L.off hF rfl rfl ?_
    refine L.off hF rfl rfl ?_
    refine L.pick hF rfl rfl rfl rfl ?_
    refine L.assign hF rfl rfl rfl (L.nil ?_)
    refine WpC.ret ?_
    cases H
    exact Leaves.ret rfl rfl rfl ⟨rfl, rfl⟩
  ·replace H := condF hc H
   refine WpC.join (fun σ => ∃ kj4 : Nat, ∃ v13 : Bool, ∃ v14 : Timpl_Rule, kj4 ≤ K ∧ Fimpl_ruleOk.j4 kj4 v13 v14 = some r ∧ σ = mkSt [(1, one (Cell.ptr 0 0)), (17, one (cL v13))] [] [(0, (bTimpl_Rule g0 v14))] 1) ?_ ?_
   ·rintro _ ⟨kj4, v13, v14, hkj4, H, rfl⟩
    unfold Fimpl_ruleOk.j4 at H
    refine WpC.cond rfl (fun hc => ?_) (fun hc => ?_)
    ·replace H := condT hc H
     refine WpC.seq (WpC.regionL ?_)
     refine L.fieldAddr Try.underlying96 rfl info3 rfl hF rfl rfl rfl rfl rfl ?_
     refine L.loadPtr shape3 hF rfl rfl rfl rfl rfl rfl ?_
     obtain ⟨r16, hr16, H⟩ := bindS H
     refine L.call [false] [] [] 1 hF rfl rfl rfl ent154 rfl rfl rfl rfl rfl (Fimpl_isTime_gives kj4  v14.N r16 hr16) rfl ?_
     refine L.move hF rfl rfl rfl ?_
     refine L.split (fun hc => ?_) (fun hc => ?_)
     ·replace H := condT hc H
      refine L.fieldAddr Try.underlying96 rfl info39 rfl hF rfl rfl rfl rfl rfl ?_
      refine L.loadPtr shape39 hF rfl rfl rfl rfl rfl rfl ?_
      refine L.lenR (xs := v14.Set) (e := eI) Try.underlying39 hF rfl rfl rfl rfl ?_
      refine L.bin hF rfl rfl rfl rfl rfl rfl ?_
      refine L.pick hF rfl rfl rfl rfl ?_
      refine L.assign hF rfl rfl rfl (L.nil ?_)
      refine WpC.ret ?_
      cases H
      exact Leaves.ret rfl rfl rfl ⟨rfl, rfl⟩
     ·replace H := condF hc H
      refine L.off hF rfl rfl ?_
      refine L.off hF rfl rfl ?_
      refine L.off hF rfl rfl ?_
      refine L.off hF rfl rfl ?_
      refine L.pick hF rfl rfl rfl rfl ?_
      refine L.assign hF rfl rfl rfl (L.nil ?_)
      refine WpC.ret ?_
      cases H
      exact Leaves.ret rfl rfl rfl ⟨rfl, rfl⟩
    ·replace H := condF hc H
     refine WpC.skip (WpC.seq (WpC.regionL ?_))
     refine L.assign hF rfl rfl rfl (L.nil ?_)
     refine WpC.ret ?_
     cases H
     exact Leaves.ret rfl rfl rfl ⟨rfl, rfl⟩
   ·refine WpC.seq (WpC.regionL ?_)
    refine L.bin hF rfl rfl rfl rfl rfl rfl ?_
    refine L.assign hF rfl rfl rfl (L.nil ?_)
    refine WpC.cond rfl (fun hc => ?_) (fun hc => ?_)
    ·replace H := condT hc H
     refine WpC.skip ?_
     exact ⟨_, ⟨kj3, (v9.Kind == (4 : Int)), v9, by omega, H, rfl⟩, Le.mk [(0, 0)] hm rfl (Sa2 trivial) trivial (Ba1 trivial)⟩
    ·replace H := condF hc H
     refine WpC.regionL ?_
     refine L.bin hF rfl rfl rfl rfl rfl rfl ?_
     refine L.assign hF rfl rfl rfl (L.nil ?_)
     exact ⟨_, ⟨kj3, (v9.Kind == (5 : Int)), v9, by omega, H, rfl⟩, Le.mk [(0, 0)] hm rfl (Sa2 trivial) trivial (Ba1 trivial)⟩
 ·refine WpC.seq (WpC.regionL ?_)
  refine L.bin hF rfl rfl rfl rfl rfl rfl ?_
  refine L.assign hF rfl rfl rfl (L.nil ?_)
  refine WpC.cond rfl (fun hc => ?_) (fun hc => ?_)
  ·replace H := condT hc H
   refine WpC.skip ?_
   exact ⟨_, ⟨k, a0, (a0.Kind == (1 : Int)), by omega, H, rfl⟩, Le.mk [(0, 3)] hm rfl (Sa2 (Sa1 trivial)) trivial (Ba1 trivial)⟩
  ·replace H := condF hc H
   refine WpC.seq (WpC.regionL ?_)
   refine L.bin hF rfl rfl rfl rfl rfl rfl ?_
   refine L.assign hF rfl rfl rfl (L.nil ?_)
   refine WpC.cond rfl (fun hc => ?_) (fun hc => ?_)
   ·replace H := condT hc H
    refine WpC.skip ?_
    exact ⟨_, ⟨k, a0, (a0.Kind == (2 : Int)), by omega, H, rfl⟩, Le.mk [(0, 3)] hm rfl (Sa2 (Sa1 trivial)) trivial (Ba1 trivial)⟩
   ·replace H := condF hc H
    refine WpC.regionL ?_
    refine L.bin hF rfl rfl rfl rfl rfl rfl ?_
    refine L.assign hF rfl rfl rfl (L.nil ?_)
    exact ⟨_, ⟨k, a0, (a0.Kind == (3 : Int)), by omega, H, rfl⟩, Le.mk [(0, 3)] hm rfl (Sa2 (Sa1 trivial)) trivial (Ba1 trivial)⟩
/-! ### Fimpl_RulesOk_1 -/
def Fimpl_RulesOk_1 (k : Nat) (a0 : Timpl_Rule) : Option Bool := (Fimpl_ruleOk k a0).bind fun r1 => some (!r1)
theorem ent126 : MG.Enters Try.prog 126 := ⟨Try.f126, Try.func126, rfl, by decide⟩
set_option maxHeartbeats 8000000 in
set_option maxRecDepth 100000 in
theorem Fimpl_RulesOk_1_gives (k : Nat) (g0 : Bool) (a0 : Timpl_Rule) (r : Bool) (H : Fimpl_RulesOk_1 k a0 = some r) : Gives Try.prog 126 [V.agg [cI a0.Kind, Cell.sl g0 (List.map eI a0.Set), cI a0.N]] [] [V.one (cL r)] [] := by
 refine Gives.intro Try.func126 rfl rfl rfl rfl ?_
 intro F hF hm
 unfold Fimpl_RulesOk_1 at H
 obtain ⟨K, hK⟩ : ∃ K, k ≤ K := ⟨k, Nat.le_refl k⟩
 refine WpC.seq (WpC.regionL ?_)
 refine L.box 3 hF rfl rfl rfl rfl ?_
 refine L.assign hF rfl rfl rfl (L.nil ?_)
 refine WpC.seq (WpC.regionL ?_)
 refine L.loadPtr shape96 hF rfl rfl rfl rfl rfl rfl ?_
 obtain ⟨r1, hr1, H⟩ := bindS H
 refine L.call [false] [] [] 4 hF rfl rfl rfl ent127 rfl rfl rfl rfl rfl (Fimpl_ruleOk_gives k g0 a0 r1 hr1) rfl ?_
 refine L.not hF rfl rfl rfl ?_
 refine L.assign hF rfl rfl rfl (L.nil ?_)
 refine WpC.ret ?_
 cases H
 exact Leaves.ret rfl rfl rfl ⟨rfl, rfl⟩
/-! ### Fslices_IndexFunc_Rule__impl_RulesOk_1 -/
def Fslices_IndexFunc_Rule__impl_RulesOk_1.l2 : Nat → (List Timpl_Rule) → Int → Int → Option Int
 | 0, _, _, _ => none
 | k2 + 1, v34, v35, v36 => cond (decide (v36 < v35)) ((at? v34 v36).bind fun b39 => (Fimpl_RulesOk_1 k2 b39).bind fun r40 => cond r40 (some v36) ((Fslices_IndexFunc_Rule__impl_RulesOk_1.l2 k2) v34 v35 (IntKind.i64.wrap (v36 + (1 : Int))))) (some (-1 : Int))
def Fslices_IndexFunc_Rule__impl_RulesOk_1 (k : Nat) (a0 : List Timpl_Rule) : Option Int := Fslices_IndexFunc_Rule__impl_RulesOk_1.l2 k a0 (a0.length : Int) (0 : Int)
theorem ent152 : MG.Enters Try.prog 152 := ⟨Try.f152, Try.func152, rfl, by decide⟩
set_option maxHeartbeats 8000000 in
set_option maxRecDepth 100000 in
theorem Fslices_IndexFunc_Rule__impl_RulesOk_1_gives (k : Nat) (g0 : Bool) (a0 : List Timpl_Rule) (r : Int) (H : Fslices_IndexFunc_Rule__impl_RulesOk_1 k a0 = some r) : Gives Try.prog 152 [V.one (Cell.sl g0 (List.map eTimpl_Rule a0)), V.one (Cell.clo 126 [])] [] [V.one (cI r)] [] := by
 refine Gives.intro Try.func152 rfl rfl rfl rfl ?_
 intro F hF hm
 unfold Fslices_IndexFunc_Rule__impl_RulesOk_1 at H
 obtain ⟨K, hK⟩ : ∃ K, k ≤ K := ⟨k, Nat.le_refl k⟩
 refine WpC.seq (WpC.regionL ?_)
 refine L.assign hF rfl rfl rfl (L.nil ?_)
 refine WpC.seq (WpC.seq (WpC.regionL ?_))
 refine L.move hF rfl rfl rfl ?_
 refine L.lenR (xs := a0) (e := eTimpl_Rule) Try.underlying28 hF rfl rfl rfl rfl ?_
 refine L.move hF rfl rfl rfl (L.nil ?_)
 refine WpC.block ?_
 refine WpC.loopL (P := Try.prog) (fun n σ => ∃ v34 : List Timpl_Rule, ∃ v35 : Int, ∃ v36 : Int, n ≤ K ∧ Fslices_IndexFunc_Rule__impl_RulesOk_1.l2 n v34 v35 v36 = some r ∧ σ = mkSt [(0, one (Cell.sl g0 (List.map eTimpl_Rule v34))), (1, one (Cell.clo 126 [])), (7, one (cI v35)), (8, one (cI v36))] [] [] 0) k ⟨_, ⟨a0, (a0.length : Int), (0 : Int), by omega, H, rfl⟩, Le.mk [] hm rfl (Sa4 trivial) trivial trivial⟩ ?_
 clear H
 rintro k2 _ ⟨v34, v35, v36, hk2, H, rfl⟩
 cases k2 with
 | zero => cases H
 | succ k2 =>
  rw [Fslices_IndexFunc_Rule__impl_RulesOk_1.l2] at H
  refine WpC.seq (WpC.regionL ?_)
  refine L.bin hF rfl rfl rfl rfl rfl rfl (L.nil ?_)
  refine WpC.seq ?_
  refine WpC.cond rfl (fun hc => ?_) (fun hc => ?_)
  ·replace H := condT hc H
   refine WpC.skip (WpC.seq (WpC.block (WpC.seq (WpC.regionL ?_))))
   refine L.move hF rfl rfl rfl ?_
   refine L.assign hF rfl rfl rfl (L.nil ?_)
   refine WpC.seq (WpC.regionL ?_)
   refine L.move hF rfl rfl rfl ?_
   refine L.move hF rfl rfl rfl ?_
   refine L.move hF rfl rfl rfl ?_
   obtain ⟨b39, hb39, H⟩ := bindS H
   refine L.idxR (xs := v34) (e := eTimpl_Rule) Try.underlying28 info96 hF rfl rfl rfl rfl rfl hb39 rfl rfl ?_
   refine L.loadPe shape96 hF rfl rfl rfl rfl rfl ?_
   obtain ⟨r40, hr40, H⟩ := bindS H
   refine L.call [false] [] [] 0 hF rfl rfl rfl ent126 rfl rfl rfl rfl rfl (Fimpl_RulesOk_1_gives k2 g0 b39 r40 hr40) rfl (L.nil ?_)
   refine WpC.cond rfl (fun hc => ?_) (fun hc => ?_)
   ·replace H := condT hc H
    refine WpC.seq (WpC.regionL ?_)
    refine L.move hF rfl rfl rfl ?_
    refine L.assign hF rfl rfl rfl (L.nil ?_)
    refine WpC.ret ?_
    cases H
    exact Leaves.ret rfl rfl rfl ⟨rfl, rfl⟩
   ·replace H := condF hc H
    refine WpC.skip (WpC.regionL ?_)
    refine L.bin hF rfl rfl rfl rfl rfl rfl ?_
    refine L.move hF rfl rfl rfl (L.nil ?_)
    exact ⟨k2, _, by omega, ⟨v34, v35, (IntKind.i64.wrap (v36 + (1 : Int))), by omega, H, rfl⟩, Le.mk [] hm rfl (Sa4 trivial) trivial trivial⟩
  ·replace H := condF hc H
   refine WpC.exit (WpC.seq (WpC.regionL ?_))
   refine L.assign hF rfl rfl rfl (L.nil ?_)
   refine WpC.ret ?_
   cases H
   exact Leaves.ret rfl rfl rfl ⟨rfl, rfl⟩
/-! ### Fslices_ContainsFunc_Rule__impl_RulesOk_1 -/
def Fslices_ContainsFunc_Rule__impl_RulesOk_1 (k : Nat) (a0 : List Timpl_Rule) : Option Bool := (Fslices_IndexFunc_Rule__impl_RulesOk_1 k a0).bind fun r1 => some (decide (r1 ≥ (0 : Int)))
theorem ent125 : MG.Enters Try.prog 125 := ⟨Try.f125, Try.func125, rfl, by decide⟩
set_option maxHeartbeats 8000000 in
set_option maxRecDepth 100000 in
theorem Fslices_ContainsFunc_Rule__impl_RulesOk_1_gives (k : Nat) (g0 : Bool) (a0 : List Timpl_Rule) (r : Bool) (H : Fslices_ContainsFunc_Rule__impl_RulesOk_1 k a0 = some r) : Gives Try.prog 125 [V.one (Cell.sl g0 (List.map eTimpl_Rule a0)), V.one (Cell.clo 126 [])] [] [V.one (cL r)] [] := by
 refine Gives.intro Try.func125 rfl rfl rfl rfl ?_
 intro F hF hm
 unfold Fslices_ContainsFunc_Rule__impl_RulesOk_1 at H
 obtain ⟨K, hK⟩ : ∃ K, k ≤ K := ⟨k, Nat.le_refl k⟩
 refine WpC.seq (WpC.regionL ?_)
 refine L.assign hF rfl rfl rfl (L.nil ?_)
 refine WpC.seq (WpC.regionL ?_)
 refine L.move hF rfl rfl rfl ?_
 refine L.move hF rfl rfl rfl ?_
 obtain ⟨r1, hr1, H⟩ := bindS H
 refine L.call [false, false] [] [] 2 hF rfl rfl rfl ent152 rfl rfl rfl rfl rfl (Fslices_IndexFunc_Rule__impl_RulesOk_1_gives k g0 a0 r1 hr1) rfl ?_
 refine L.bin hF rfl rfl rfl rfl rfl rfl ?_
 refine L.assign hF rfl rfl rfl (L.nil ?_)
 refine WpC.ret ?_
 cases H
 exact Leaves.ret rfl rfl rfl ⟨rfl, rfl⟩
/-! ### Fimpl_RulesOk -/
def Fimpl_RulesOk (k : Nat) (a0 : List Timpl_Rule) : Option Bool := cond (decide ((a0.length : Int) ≤ (20 : Int))) ((Fslices_ContainsFunc_Rule__impl_RulesOk_1 k a0).bind fun r2 => some (!r2)) (some false)
theorem ent63 : MG.Enters Try.prog 63 := ⟨Try.f63, Try.func63, rfl, by decide⟩
set_option maxHeartbeats 8000000 in
set_option maxRecDepth 100000 in
theorem Fimpl_RulesOk_gives (k : Nat) (g0 : Bool) (a0 : List Timpl_Rule) (r : Bool) (H : Fimpl_RulesOk k a0 = some r) : Gives Try.prog 63 [V.one (Cell.sl g0 (List.map eTimpl_Rule a0))] [] [V.one (cL r)] [] := by
 refine Gives.intro Try.func63 rfl rfl rfl rfl ?_
 intro F hF hm
 unfold Fimpl_RulesOk at H
 obtain ⟨K, hK⟩ : ∃ K, k ≤ K := ⟨k, Nat.le_refl k⟩
 refine WpC.seq (WpC.regionL ?_)
 refine L.assign hF rfl rfl rfl (L.nil ?_)
 refine WpC.seq (WpC.regionL ?_)
 refine L.move hF rfl rfl rfl ?_
 refine L.lenR (xs := a0) (e := eTimpl_Rule) Try.underlying28 hF rfl rfl rfl rfl ?_
 refine L.bin hF rfl rfl rfl rfl rfl rfl ?_
 refine L.move hF rfl rfl rfl ?_
 refine L.split (fun hc => ?_) (fun hc => ?_)
 ·replace H := condT hc H
  refine L.move hF rfl rfl rfl ?_
  obtain ⟨r2, hr2, H⟩ := bindS H
  refine L.call [false, false] [] [] 1 hF rfl rfl rfl ent125 rfl rfl rfl rfl rfl (Fslices_ContainsFunc_Rule__impl_RulesOk_1_gives k g0 a0 r2 hr2) rfl ?_
  refine L.not hF rfl rfl rfl ?_
  refine L.pick hF rfl rfl rfl rfl ?_
  refine L.assign hF rfl rfl rfl (L.nil ?_)
  refine WpC.ret ?_
  cases H
  exact Leaves.ret rfl rfl rfl ⟨rfl, rfl⟩
 ·replace H := condF hc H
  refine L.off hF rfl rfl ?_
  refine L.off hF rfl rfl ?_
  refine L.off hF rfl rfl ?_
  refine L.pick hF rfl rfl rfl rfl ?_
  refine L.assign hF rfl rfl rfl (L.nil ?_)
  refine WpC.ret ?_
  cases H
  exact Leaves.ret rfl rfl rfl ⟨rfl, rfl⟩
/-! ### Fimpl_ShowRules -/
def Fimpl_ShowRules.l14 (cl12 : (List UInt8) → (List Timpl_Rule) → Int → Int → Option (List UInt8)) : Nat → (List UInt8) → (List Timpl_Rule) → Int → Int → Timpl_Rule → Int → Int → Option (List UInt8)
 | 0, _, _, _, _, _, _, _ => none
 | k14 + 1, v541, v542, v543, v544, v545, v546, v547 => cond (decide (v547 < v546)) ((at? v545.Set v547).bind fun b551 => (Fimpl_Var k14 b551).bind fun r552 => cond (decide (v541.length + r552.length ≤ 9223372036854775807)) ((Fimpl_ShowRules.l14 cl12 k14) (v541 ++ r552) v542 v543 v544 v545 v546 (IntKind.i64.wrap (v547 + (1 : Int)))) none) (cl12 v541 v542 v543 (IntKind.i64.wrap (v544 + (1 : Int))))
def Fimpl_ShowRules.l12 : Nat → (List UInt8) → (List Timpl_Rule) → Int → Int → Option (List UInt8)
 | 0, _, _, _, _ => none
 | k12 + 1, v460, v461, v462, v463 => cond (decide (v463 < v462)) ((at? v461 v463).bind fun b509 => (Fimpl_Var k12 b509.Kind).bind fun r510 => cond (decide (v460.length + r510.length ≤ 9223372036854775807)) ((Fimpl_Var k12 b509.N).bind fun r512 => cond (decide ((v460 ++ r510).length + r512.length ≤ 9223372036854775807)) ((Fimpl_Var k12 (b509.Set.length : Int)).bind fun r514 => cond (decide (((v460 ++ r510) ++ r512).length + r514.length ≤ 9223372036854775807)) (Fimpl_ShowRules.l14 (Fimpl_ShowRules.l12 k12) k12 (((v460 ++ r510) ++ r512) ++ r514) v461 v462 v463 b509 (b509.Set.length : Int) (0 : Int)) none) none) none) (some v460)
def Fimpl_ShowRules (k : Nat) (a0 : List Timpl_Rule) : Option (List UInt8) := (Fimpl_RulesOk k a0).bind fun r2 => cond (!r2) (some ([] : List UInt8)) ((Fimpl_Var k (a0.length : Int)).bind fun r3 => Fimpl_ShowRules.l12 k r3 a0 (a0.length : Int) (0 : Int))
theorem ent23 : MG.Enters Try.prog 23 := ⟨Try.f23, Try.func23, rfl, by decide⟩
set_option maxHeartbeats 8000000 in
set_option maxRecDepth 100000 in
theorem Fimpl_ShowRules_gives (k : Nat) (g0 : Bool) (a0 : List Timpl_Rule) (r : List UInt8) (H : Fimpl_ShowRules k a0 = some r) : Gives Try.prog 23 [V.one (Cell.sl g0 (List.map eTimpl_Rule a0))] [] [V.one (cS r)] [] := by
 refine Gives.intro Try.func23 rfl rfl rfl rfl ?_
 intro F hF hm
 unfold Fimpl_ShowRules at H
 obtain ⟨K, hK⟩ : ∃ K, k ≤ K := ⟨k, Nat.le_refl k⟩
 refine WpC.seq (WpC.regionL ?_)
 refine L.assign hF rfl rfl rfl (L.nil ?_)
 refine WpC.seq (WpC.seq (WpC.regionL ?_))
 refine L.move hF rfl rfl rfl ?_
 obtain ⟨r2, hr2, H⟩ := bindS H
 refine L.call [false] [] [] 1 hF rfl rfl rfl ent63 rfl rfl rfl rfl rfl (Fimpl_RulesOk_gives k g0 a0 r2 hr2) rfl ?_
 refine L.not hF rfl rfl rfl (L.nil ?_)
 refine WpC.cond rfl (fun hc => ?_) (fun hc => ?_)
 ·replace H := condT hc H
  refine WpC.seq (WpC.regionL ?_)
  refine L.assign hF rfl rfl rfl (L.nil ?_)
  refine WpC.ret ?_
  cases H
  exact Leaves.ret rfl rfl rfl ⟨rfl, rfl⟩
 ·replace H := condF hc H
  refine WpC.skip (WpC.seq (WpC.regionL ?_))
  refine L.move hF rfl rfl rfl ?_
  refine L.lenR (xs := a0) (e := eTimpl_Rule) Try.underlying28 hF rfl rfl rfl rfl ?_
  obtain ⟨r3, hr3, H⟩ := bindS H
  refine L.call [false] [] [] 2 hF rfl rfl rfl ent64 rfl rfl rfl rfl rfl (Fimpl_Var_gives k  (a0.length : Int) r3 hr3) rfl ?_
  refine L.assign hF rfl rfl rfl (L.nil ?_)
  refine WpC.seq (WpC.seq (WpC.regionL ?_))
  refine L.move hF rfl rfl rfl ?_
  refine L.lenR (xs := a0) (e := eTimpl_Rule) Try.underlying28 hF rfl rfl rfl rfl ?_
  refine L.move hF rfl rfl rfl (L.nil ?_)
  refine WpC.block ?_
  refine WpC.loopL (P := Try.prog) (fun n σ => ∃ v460 : List UInt8, ∃ v461 : List Timpl_Rule, ∃ v462 : Int, ∃ v463 : Int, n ≤ K ∧ Fimpl_ShowRules.l12 n v460 v461 v462 v463 = some r ∧ σ = mkSt [(3, one (cS v460)), (14, one (Cell.sl g0 (List.map eTimpl_Rule v461))), (15, one (cI v462)), (16, one (cI v463))] [] [] 0) k ⟨_, ⟨r3, a0, (a0.length : Int), (0 : Int), by omega, H, rfl⟩, Le.mk [] hm rfl (Sa4 trivial) trivial trivial⟩ ?_
  clear H
  rintro k12 _ ⟨v460, v461, v462, v463, hk12, H, rfl⟩
  cases k12 with
  | zero => cases H
  | succ k12 =>
   rw [Fimpl_ShowRules.l12] at H
   refine WpC.seq (WpC.regionL ?_)
   refine L.bin hF rfl rfl rfl rfl rfl rfl (L.nil ?_)
   refine WpC.seq ?_
   refine WpC.cond rfl (fun hc => ?_) (fun hc => ?_)
   ·replace H := condT hc H
    refine WpC.skip (WpC.seq (WpC.block (WpC.seq (WpC.regionL ?_))))
    obtain ⟨b509, hb509, H⟩ := bindS H
    refine L.idxR (xs := v461) (e := eTimpl_Rule) Try.underlying28 info96 hF rfl rfl rfl rfl rfl hb509 rfl rfl ?_
    refine L.loadPe shape96 hF rfl rfl rfl rfl rfl ?_
    refine L.alloc 0 info96 rfl hF rfl rfl rfl rfl ?_
    refine L.storePtr shape96 hF rfl rfl rfl rfl rfl rfl rfl (L.nil ?_)
    refine WpC.seq ?_
    obtain ⟨r510, hr510, H⟩ := bindS H
    obtain ⟨h511, H⟩ := condG H
    obtain ⟨r512, hr512, H⟩ := bindS H
    obtain ⟨h513, H⟩ := condG H
    obtain ⟨r514, hr514, H⟩ := bindS H
    obtain ⟨h515, H⟩ := condG H
    refine A.begin mixed rfl rfl ?_
    intro W hI hO
    have n4095 : W 3 #[true, true, true, true, true, true, true, true, true, true, true, true, false, false, false] (mkSt [(3, one (cS v460)), (5, one (Cell.ptr 0 0)), (14, one (Cell.sl g0 (List.map eTimpl_Rule v461))), (15, one (cI v462)), (16, one (cI v463)), (28, one (cS ((v460 ++ r510) ++ r512))), (31, one (cI (b509.Set.length : Int)))] [] [(0, (bTimpl_Rule g0 b509))] 1) := by
     refine hI _ _ _ ?_
     refine A.all [12] (by kernel_rfl) rfl ⟨⟨_, rfl, ?_⟩, trivial⟩
     refine L.call [false] [] [] 1 hF rfl rfl rfl ent64 rfl rfl rfl rfl rfl (Fimpl_Var_gives k12  (b509.Set.length : Int) r514 hr514) rfl (L.nil ?_)
     refine Atk 13 rfl (Ca.bin rfl rfl (calm_str _ _ _ _ _ _)) (fun Q0 k0 => L.catS hF rfl rfl rfl rfl (of_decide_eq_true h515) (L.nil k0)) ?_
     refine Atk 14 rfl (Ca.assign) (fun Q0 k0 => L.assign hF rfl rfl rfl (L.nil k0)) ?_
     refine A.le (τ := mkSt [(3, one (cS (((v460 ++ r510) ++ r512) ++ r514))), (5, one (Cell.ptr 0 0)), (14, one (Cell.sl g0 (List.map eTimpl_Rule v461))), (15, one (cI v462)), (16, one (cI v463))] [] [(0, (bTimpl_Rule g0 b509))] 1) (Le.mk [(0, 0)] hm rfl (Sa4 (Sa1 trivial)) trivial (Ba1 trivial)) ?_
     refine A.done (by kernel_rfl) ?_
     refine WpC.seq (WpC.regionL ?_)
     refine L.fieldAddr Try.underlying96 rfl info39 rfl hF rfl rfl rfl rfl rfl ?_
     refine L.loadPtr shape39 hF rfl rfl rfl rfl rfl rfl ?_
     refine L.lenR (xs := b509.Set) (e := eI) Try.underlying39 hF rfl rfl rfl rfl ?_
     refine L.move hF rfl rfl rfl (L.nil ?_)
     refine WpC.block ?_
     refine WpC.loopL (P := Try.prog) (fun n σ => ∃ v541 : List UInt8, ∃ v542 : List Timpl_Rule, ∃ v543 : Int, ∃ v544 : Int, ∃ v545 : Timpl_Rule, ∃ v546 : Int, ∃ v547 : Int, n ≤ K ∧ Fimpl_ShowRules.l14 (Fimpl_ShowRules.l12 k12) n v541 v542 v543 v544 v545 v546 v547 = some r ∧ σ = mkSt [(3, one (cS v541)), (14, one (Cell.sl g0 (List.map eTimpl_Rule v542))), (15, one (cI v543)), (16, one (cI v544)), (35, one (Cell.sl g0 (List.map eI v545.Set))), (36, one (cI v546)), (37, one (cI v547))] [] [] 0) k12 ⟨_, ⟨(((v460 ++ r510) ++ r512) ++ r514), v461, v462, v463, b509, (b509.Set.length : Int), (0 : Int), by omega, H, rfl⟩, Le.mk [] hm rfl (Sa4 (Sa2 (Sa1 trivial))) trivial trivial⟩ ?_
     clear H
     rintro k14 _ ⟨v541, v542, v543, v544, v545, v546, v547, hk14, H, rfl⟩
     cases k14 with
     | zero => cases H
     | succ k14 =>
      rw [Fimpl_ShowRules.l14] at H
      refine WpC.seq (WpC.regionL ?_)
      refine L.bin hF rfl rfl rfl rfl rfl rfl (L.nil ?_)
      refine WpC.seq ?_
      refine WpC.cond rfl (fun hc => ?_) (fun hc => ?_)
      ·replace H := condT hc H
       refine WpC.skip (WpC.seq (WpC.block (WpC.seq (WpC.regionL ?_))))
       obtain ⟨b551, hb551, H⟩ := bindS H
       refine L.idxR (xs := v545.Set) (e := eI) Try.underlying39 info3 hF rfl rfl rfl rfl rfl hb551 rfl rfl ?_
       refine L.loadPe shape3 hF rfl rfl rfl rfl rfl ?_
       refine L.assign hF rfl rfl rfl (L.nil ?_)
       refine WpC.regionL ?_
       refine L.move hF rfl rfl rfl ?_
       refine L.move hF rfl rfl rfl ?_
       obtain ⟨r552, hr552, H⟩ := bindS H
       refine L.call [false] [] [] 0 hF rfl rfl rfl ent64 rfl rfl rfl rfl rfl (Fimpl_Var_gives k14  b551 r552 hr552) rfl ?_
       obtain ⟨h553, H⟩ := condG H
       refine L.catS hF rfl rfl rfl rfl (of_decide_eq_true h553) ?_
       refine L.assign hF rfl rfl rfl (L.nil ?_)
       refine WpC.regionL ?_
       refine L.bin hF rfl rfl rfl rfl rfl rfl ?_
       refine L.move hF rfl rfl rfl (L.nil ?_)
       exact ⟨k14, _, by omega, ⟨(v541 ++ r552), v542, v543, v544, v545, v546, (IntKind.i64.wrap (v547 + (1 : Int))), by omega, H, rfl⟩, Le.mk [] hm rfl (Sa4 (Sa2 (Sa1 trivial))) trivial trivial⟩
      ·replace H := condF hc H
       refine WpC.exit (WpC.regionL ?_)
       refine L.bin hF rfl rfl rfl rfl rfl rfl ?_
       refine L.move hF rfl rfl rfl (L.nil ?_)
       exact ⟨k12, _, by omega, ⟨v541, v542, v543, (IntKind.i64.wrap (v544 + (1 : Int))), by omega, H, rfl⟩, Le.mk [] hm rfl (Sa4 trivial) trivial trivial⟩
    have n3711 : W 5 #[true, true, true, true, true, true, true, false, false, true, true, true, false, false, false] (mkSt [(3, one (cS v460)), (5, one (Cell.ptr 0 0)), (14, one (Cell.sl g0 (List.map eTimpl_Rule v461))), (15, one (cI v462)), (16, one (cI v463)), (24, one (cS (v460 ++ r510))), (26, one (cI b509.N)), (31, one (cI (b509.Set.length : Int)))] [] [(0, (bTimpl_Rule g0 b509))] 1) := by
     refine hI _ _ _ ?_
     refine A.all [7] (by kernel_rfl) rfl ⟨⟨_, rfl, ?_⟩, trivial⟩
     refine L.call [false] [] [] 1 hF rfl rfl rfl ent64 rfl rfl rfl rfl rfl (Fimpl_Var_gives k12  b509.N r512 hr512) rfl (L.nil ?_)
     refine Atk 8 rfl (Ca.bin rfl rfl (calm_str _ _ _ _ _ _)) (fun Q0 k0 => L.catS hF rfl rfl rfl rfl (of_decide_eq_true h513) (L.nil k0)) ?_
     exact A.on (hO _ _ _ n4095) (Le.mk [(0, 0)] hm rfl (Sa4 (Sa2 (Sa1 trivial))) trivial (Ba1 trivial))
    have n3647 : W 6 #[true, true, true, true, true, true, false, false, false, true, true, true, false, false, false] (mkSt [(3, one (cS v460)), (5, one (Cell.ptr 0 0)), (14, one (Cell.sl g0 (List.map eTimpl_Rule v461))), (15, one (cI v462)), (16, one (cI v463)), (24, one (cS (v460 ++ r510))), (25, one (Cell.ptr 0 2)), (31, one (cI (b509.Set.length : Int)))] [] [(0, (bTimpl_Rule g0 b509))] 1) := by
     refine hI _ _ _ ?_
     refine A.all [6] (by kernel_rfl) rfl ⟨⟨_, rfl, ?_⟩, trivial⟩
     refine L.loadPtr shape3 hF rfl rfl rfl rfl rfl rfl (L.nil ?_)
     exact A.on (hO _ _ _ n3711) (Le.mk [(0, 0)] hm rfl (Sa8 trivial) trivial (Ba1 trivial))
    have n639 : W 7 #[true, true, true, true, true, true, true, false, false, true, false, false, false, false, false] (mkSt [(3, one (cS v460)), (5, one (Cell.ptr 0 0)), (14, one (Cell.sl g0 (List.map eTimpl_Rule v461))), (15, one (cI v462)), (16, one (cI v463)), (24, one (cS (v460 ++ r510))), (26, one (cI b509.N)), (29, one (Cell.ptr 0 1))] [] [(0, (bTimpl_Rule g0 b509))] 1) := by
     refine hI _ _ _ ?_
     refine A.all [7, 10] (by kernel_rfl) rfl ⟨⟨_, rfl, ?_⟩, ⟨_, rfl, ?_⟩, trivial⟩
     ·refine L.call [false] [] [] 1 hF rfl rfl rfl ent64 rfl rfl rfl rfl rfl (Fimpl_Var_gives k12  b509.N r512 hr512) rfl (L.nil ?_)
      refine Atk 8 rfl (Ca.bin rfl rfl (calm_str _ _ _ _ _ _)) (fun Q0 k0 => L.catS hF rfl rfl rfl rfl (of_decide_eq_true h513) (L.nil k0)) ?_
      refine A.all [10] (by kernel_rfl) rfl ⟨⟨_, rfl, ?_⟩, trivial⟩
      refine L.loadPtr shape39 hF rfl rfl rfl rfl rfl rfl (L.nil ?_)
      refine Atk 11 rfl (Ca.lenR (xs := b509.Set) (e := eI) Try.underlying39 rfl rfl) (fun Q0 k0 => L.lenR (xs := b509.Set) (e := eI) Try.underlying39 hF rfl rfl rfl rfl (L.nil k0)) ?_
      exact A.on (hO _ _ _ n4095) (Le.mk [(0, 0)] hm rfl (Sa4 (Sa2 (Sa1 trivial))) trivial (Ba1 trivial))
     ·refine L.loadPtr shape39 hF rfl rfl rfl rfl rfl rfl (L.nil ?_)
      refine Atk 11 rfl (Ca.lenR (xs := b509.Set) (e := eI) Try.underlying39 rfl rfl) (fun Q0 k0 => L.lenR (xs := b509.Set) (e := eI) Try.underlying39 hF rfl rfl rfl rfl (L.nil k0)) ?_
      exact A.on (hO _ _ _ n3711) (Le.mk [(0, 0)] hm rfl (Sa8 trivial) trivial (Ba1 trivial))
    have n3687 : W 7 #[true, true, true, false, false, true, true, false, false, true, true, true, false, false, false] (mkSt [(3, one (cS v460)), (5, one (Cell.ptr 0 0)), (14, one (Cell.sl g0 (List.map eTimpl_Rule v461))), (15, one (cI v462)), (16, one (cI v463)), (20, one (cS v460)), (22, one (cI b509.Kind)), (26, one (cI b509.N)), (31, one (cI (b509.Set.length : Int)))] [] [(0, (bTimpl_Rule g0 b509))] 1) := by
     refine hI _ _ _ ?_
     refine A.all [3] (by kernel_rfl) rfl ⟨⟨_, rfl, ?_⟩, trivial⟩
     refine L.call [false] [] [] 1 hF rfl rfl rfl ent64 rfl rfl rfl rfl rfl (Fimpl_Var_gives k12  b509.Kind r510 hr510) rfl (L.nil ?_)
     refine Atk 4 rfl (Ca.bin rfl rfl (calm_str _ _ _ _ _ _)) (fun Q0 k0 => L.catS hF rfl rfl rfl rfl (of_decide_eq_true h511) (L.nil k0)) ?_
     exact A.on (hO _ _ _ n3711) (Le.mk [(0, 0)] hm rfl (Sa8 trivial) trivial (Ba1 trivial))
    have n3623 : W 8 #[true, true, true, false, false, true, false, false, false, true, true, true, false, false, false] (mkSt [(3, one (cS v460)), (5, one (Cell.ptr 0 0)), (14, one (Cell.sl g0 (List.map eTimpl_Rule v461))), (15, one (cI v462)), (16, one (cI v463)), (20, one (cS v460)), (22, one (cI b509.Kind)), (25, one (Cell.ptr 0 2)), (31, one (cI (b509.Set.length : Int)))] [] [(0, (bTimpl_Rule g0 b509))] 1) := by
     refine hI _ _ _ ?_
     refine A.all [3, 6] (by kernel_rfl) rfl ⟨⟨_, rfl, ?_⟩, ⟨_, rfl, ?_⟩, trivial⟩
     ·refine L.call [false] [] [] 1 hF rfl rfl rfl ent64 rfl rfl rfl rfl rfl (Fimpl_Var_gives k12  b509.Kind r510 hr510) rfl (L.nil ?_)
      refine Atk 4 rfl (Ca.bin rfl rfl (calm_str _ _ _ _ _ _)) (fun Q0 k0 => L.catS hF rfl rfl rfl rfl (of_decide_eq_true h511) (L.nil k0)) ?_
      exact A.on (hO _ _ _ n3647) (Le.mk [(0, 0)] hm rfl (Sa8 trivial) trivial (Ba1 trivial))
     ·refine L.loadPtr shape3 hF rfl rfl rfl rfl rfl rfl (L.nil ?_)
      exact A.on (hO _ _ _ n3687) (Le.mk [(0, 0)] hm rfl (Sa8 (Sa1 trivial)) trivial (Ba1 trivial))
    have n3683 : W 8 #[true, true, false, false, false, true, true, false, false, true, true, true, false, false, false] (mkSt [(3, one (cS v460)), (5, one (Cell.ptr 0 0)), (14, one (Cell.sl g0 (List.map eTimpl_Rule v461))), (15, one (cI v462)), (16, one (cI v463)), (20, one (cS v460)), (21, one (Cell.ptr 0 0)), (26, one (cI b509.N)), (31, one (cI (b509.Set.length : Int)))] [] [(0, (bTimpl_Rule g0 b509))] 1) := by
     refine hI _ _ _ ?_
     refine A.all [2] (by kernel_rfl) rfl ⟨⟨_, rfl, ?_⟩, trivial⟩
     refine L.loadPtr shape3 hF rfl rfl rfl rfl rfl rfl (L.nil ?_)
     exact A.on (hO _ _ _ n3687) (Le.mk [(0, 0)] hm rfl (Sa8 (Sa1 trivial)) trivial (Ba1 trivial))
    have n615 : W 9 #[true, true, true, false, false, true, true, false, false, true, false, false, false, false, false] (mkSt [(3, one (cS v460)), (5, one (Cell.ptr 0 0)), (14, one (Cell.sl g0 (List.map eTimpl_Rule v461))), (15, one (cI v462)), (16, one (cI v463)), (20, one (cS v460)), (22, one (cI b509.Kind)), (26, one (cI b509.N)), (29, one (Cell.ptr 0 1))] [] [(0, (bTimpl_Rule g0 b509))] 1) := by
     refine hI _ _ _ ?_
     refine A.all [3, 10] (by kernel_rfl) rfl ⟨⟨_, rfl, ?_⟩, ⟨_, rfl, ?_⟩, trivial⟩
     ·refine L.call [false] [] [] 1 hF rfl rfl rfl ent64 rfl rfl rfl rfl rfl (Fimpl_Var_gives k12  b509.Kind r510 hr510) rfl (L.nil ?_)
      refine Atk 4 rfl (Ca.bin rfl rfl (calm_str _ _ _ _ _ _)) (fun Q0 k0 => L.catS hF rfl rfl rfl rfl (of_decide_eq_true h511) (L.nil k0)) ?_
      exact A.on (hO _ _ _ n639) (Le.mk [(0, 0)] hm rfl (Sa8 trivial) trivial (Ba1 trivial))
     ·refine L.loadPtr shape39 hF rfl rfl rfl rfl rfl rfl (L.nil ?_)
      refine Atk 11 rfl (Ca.lenR (xs := b509.Set) (e := eI) Try.underlying39 rfl rfl) (fun Q0 k0 => L.lenR (xs := b509.Set) (e := eI) Try.underlying39 hF rfl rfl rfl rfl (L.nil k0)) ?_
      exact A.on (hO _ _ _ n3687) (Le.mk [(0, 0)] hm rfl (Sa8 (Sa1 trivial)) trivial (Ba1 trivial))
    refine hI _ _ _ ?_
    refine Atk 0 rfl (Ca.move) (fun Q0 k0 => L.move hF rfl rfl rfl (L.nil k0)) ?_
    refine Atk 1 rfl (Ca.fieldAddr Try.underlying96 rfl info3 rfl) (fun Q0 k0 => L.fieldAddr Try.underlying96 rfl info3 rfl hF rfl rfl rfl rfl rfl (L.nil k0)) ?_
    refine Atk 5 rfl (Ca.fieldAddr Try.underlying96 rfl info3 rfl) (fun Q0 k0 => L.fieldAddr Try.underlying96 rfl info3 rfl hF rfl rfl rfl rfl rfl (L.nil k0)) ?_
    refine Atk 9 rfl (Ca.fieldAddr Try.underlying96 rfl info39 rfl) (fun Q0 k0 => L.fieldAddr Try.underlying96 rfl info39 rfl hF rfl rfl rfl rfl rfl (L.nil k0)) ?_
    refine A.all [2, 6, 10] (by kernel_rfl) rfl ⟨⟨_, rfl, ?_⟩, ⟨_, rfl, ?_⟩, ⟨_, rfl, ?_⟩, trivial⟩
    ·refine L.loadPtr shape3 hF rfl rfl rfl rfl rfl rfl (L.nil ?_)
     refine A.all [3, 6, 10] (by kernel_rfl) rfl ⟨⟨_, rfl, ?_⟩, ⟨_, rfl, ?_⟩, ⟨_, rfl, ?_⟩, trivial⟩
     ·refine L.call [false] [] [] 1 hF rfl rfl rfl ent64 rfl rfl rfl rfl rfl (Fimpl_Var_gives k12  b509.Kind r510 hr510) rfl (L.nil ?_)
      refine Atk 4 rfl (Ca.bin rfl rfl (calm_str _ _ _ _ _ _)) (fun Q0 k0 => L.catS hF rfl rfl rfl rfl (of_decide_eq_true h511) (L.nil k0)) ?_
      refine A.all [6, 10] (by kernel_rfl) rfl ⟨⟨_, rfl, ?_⟩, ⟨_, rfl, ?_⟩, trivial⟩
      ·refine L.loadPtr shape3 hF rfl rfl rfl rfl rfl rfl (L.nil ?_)
       exact A.on (hO _ _ _ n639) (Le.mk [(0, 0)] hm rfl (Sa8 trivial) trivial (Ba1 trivial))
      ·refine L.loadPtr shape39 hF rfl rfl rfl rfl rfl rfl (L.nil ?_)
       refine Atk 11 rfl (Ca.lenR (xs := b509.Set) (e := eI) Try.underlying39 rfl rfl) (fun Q0 k0 => L.lenR (xs := b509.Set) (e := eI) Try.underlying39 hF rfl rfl rfl rfl (L.nil k0)) ?_
       exact A.on (hO _ _ _ n3647) (Le.mk [(0, 0)] hm rfl (Sa8 trivial) trivial (Ba1 trivial))
     ·refine L.loadPtr shape3 hF rfl rfl rfl rfl rfl rfl (L.nil ?_)
      exact A.on (hO _ _ _ n615) (Le.mk [(0, 0)] hm rfl (Sa8 (Sa1 trivial)) trivial (Ba1 trivial))
     ·refine L.loadPtr shape39 hF rfl rfl rfl rfl rfl rfl (L.nil ?_)
      refine Atk 11 rfl (Ca.lenR (xs := b509.Set) (e := eI) Try.underlying39 rfl rfl) (fun Q0 k0 => L.lenR (xs := b509.Set) (e := eI) Try.underlying39 hF rfl rfl rfl rfl (L.nil k0)) ?_
      exact A.on (hO _ _ _ n3623) (Le.mk [(0, 0)] hm rfl (Sa8 (Sa1 trivial)) trivial (Ba1 trivial))
    ·refine L.loadPtr shape3 hF rfl rfl rfl rfl rfl rfl (L.nil ?_)
     refine A.all [2, 10] (by kernel_rfl) rfl ⟨⟨_, rfl, ?_⟩, ⟨_, rfl, ?_⟩, trivial⟩
     ·refine L.loadPtr shape3 hF rfl rfl rfl rfl rfl rfl (L.nil ?_)
      exact A.on (hO _ _ _ n615) (Le.mk [(0, 0)] hm rfl (Sa8 (Sa1 trivial)) trivial (Ba1 trivial))
     ·refine L.loadPtr shape39 hF rfl rfl rfl rfl rfl rfl (L.nil ?_)
      refine Atk 11 rfl (Ca.lenR (xs := b509.Set) (e := eI) Try.underlying39 rfl rfl) (fun Q0 k0 => L.lenR (xs := b509.Set) (e := eI) Try.underlying39 hF rfl rfl rfl rfl (L.nil k0)) ?_
      exact A.on (hO _ _ _ n3683) (Le.mk [(0, 0)] hm rfl (Sa8 (Sa1 trivial)) trivial (Ba1 trivial))
    ·refine L.loadPtr shape39 hF rfl rfl rfl rfl rfl rfl (L.nil ?_)
     refine Atk 11 rfl (Ca.lenR (xs := b509.Set) (e := eI) Try.underlying39 rfl rfl) (fun Q0 k0 => L.lenR (xs := b509.Set) (e := eI) Try.underlying39 hF rfl rfl rfl rfl (L.nil k0)) ?_
     refine A.all [2, 6] (by kernel_rfl) rfl ⟨⟨_, rfl, ?_⟩, ⟨_, rfl, ?_⟩, trivial⟩
     ·refine L.loadPtr shape3 hF rfl rfl rfl rfl rfl rfl (L.nil ?_)
      exact A.on (hO _ _ _ n3623) (Le.mk [(0, 0)] hm rfl (Sa8 (Sa1 trivial)) trivial (Ba1 trivial))
     ·refine L.loadPtr shape3 hF rfl rfl rfl rfl rfl rfl (L.nil ?_)
      exact A.on (hO _ _ _ n3683) (Le.mk [(0, 0)] hm rfl (Sa8 (Sa1 trivial)) trivial (Ba1 trivial))
   ·replace H := condF hc H
    refine WpC.exit (WpC.seq (WpC.regionL ?_))
    refine L.move hF rfl rfl rfl ?_
    refine L.assign hF rfl rfl rfl (L.nil ?_)
    refine WpC.ret ?_
    cases H
    exact Leaves.ret rfl rfl rfl ⟨rfl, rfl⟩
/-! ### Fimpl_ReadRules -/
def Fimpl_ReadRules.l26 (cl22 : (List UInt8) → (List Timpl_Rule) → Int → Int → (List UInt8) → Int → Bool → Option (List Timpl_Rule × Bool)) : Nat → (List UInt8) → (List Timpl_Rule) → Int → Int → Int → Int → (List UInt8) → Int → Bool → Int → (List Int) → Int → Option (List Timpl_Rule × Bool)
 | 0, _, _, _, _, _, _, _, _, _, _, _, _ => none
 | k26 + 1, v1153, v1154, v1155, v1156, v1157, v1158, v1159, v1160, v1161, v1162, v1163, v1164 => cond (decide (v1158 < v1157)) ((Fimpl_vars_next k26 (⟨v1159, v1160, v1161⟩ : Timpl_vars)).bind fun r1167 => cond (decide ((2 * (v1163.length + ([r1167.1] : List Int).length) + 192) * 8 ≤ 281474976710656)) ((Fimpl_ReadRules.l26 cl22 k26) v1153 v1154 v1155 v1156 v1157 (IntKind.i64.wrap (v1158 + (1 : Int))) r1167.2.s r1167.2.at_ r1167.2.bad v1162 (v1163 ++ ([r1167.1] : List Int)) v1164) none) (cond (decide ((2 * (v1154.length + ([(⟨v1162, v1163, v1164⟩ : Timpl_Rule)] : List Timpl_Rule).length) + 192) * 40 ≤ 281474976710656)) (cl22 v1153 (v1154 ++ ([(⟨v1162, v1163, v1164⟩ : Timpl_Rule)] : List Timpl_Rule)) v1155 (IntKind.i64.wrap (v1156 + (1 : Int))) v1159 v1160 v1161) none)
def Fimpl_ReadRules.l22 : Nat → (List UInt8) → (List Timpl_Rule) → Int → Int → (List UInt8) → Int → Bool → Option (List Timpl_Rule × Bool)
 | 0, _, _, _, _, _, _, _ => none
 | k22 + 1, v971, v972, v973, v974, v975, v976, v977 => cond (decide (v974 < v973)) ((Fimpl_vars_next k22 (⟨v975, v976, v977⟩ : Timpl_vars)).bind fun r1074 => (Fimpl_vars_next k22 r1074.2).bind fun r1075 => (Fimpl_vars_many k22 (31 : Int) r1075.2).bind fun r1076 => Fimpl_ReadRules.l26 (Fimpl_ReadRules.l22 k22) k22 v971 v972 v973 v974 r1076.1 (0 : Int) r1076.2.s r1076.2.at_ r1076.2.bad r1074.1 [] r1075.1) (cond v977 (some ([], false)) (cond (v971 == ([] : List UInt8)) (some ([], false)) ((Fimpl_ShowRules k22 v972).bind fun r1173 => cond (r1173 != v971) (some ([], false)) (some (v972, true)))))
def Fimpl_ReadRules (k : Nat) (a0 : List UInt8) : Option (List Timpl_Rule × Bool) := (Fimpl_vars_many k (20 : Int) (⟨a0, (0 : Int), false⟩ : Timpl_vars)).bind fun r1 => Fimpl_ReadRules.l22 k a0 ([] : List Timpl_Rule) r1.1 (0 : Int) r1.2.s r1.2.at_ r1.2.bad
theorem ent17 : MG.Enters Try.prog 17 := ⟨Try.f17, Try.func17, rfl, by decide⟩
set_option maxHeartbeats 8000000 in
set_option maxRecDepth 100000 in
theorem Fimpl_ReadRules_gives (k : Nat) (a0 : List UInt8) (r : List Timpl_Rule × Bool) (H : Fimpl_ReadRules k a0 = some r) : Gives Try.prog 17 [V.one (cS a0)] [] [V.one (Cell.ow 3 (List.map eTimpl_Rule r.1)), V.one (cL r.2)] [] := by
 refine Gives.intro Try.func17 rfl rfl rfl rfl ?_
 intro F hF hm
 unfold Fimpl_ReadRules at H
 obtain ⟨K, hK⟩ : ∃ K, k ≤ K := ⟨k, Nat.le_refl k⟩
 refine WpC.seq (WpC.regionL ?_)
 refine L.assign hF rfl rfl rfl ?_
 refine L.assign hF rfl rfl rfl (L.nil ?_)
 refine WpC.seq (WpC.regionL ?_)
 refine L.move hF rfl rfl rfl ?_
 refine L.buildF built99 hF rfl rfl rfl rfl ?_
 refine L.box 1 hF rfl rfl rfl rfl ?_
 refine L.assign hF rfl rfl rfl (L.nil ?_)
 refine WpC.seq (WpC.regionL ?_)
 refine L.buildSliceN (e := eTimpl_Rule) 1 2 ([] : List Timpl_Rule) Try.underlying28 info96 rfl rfl rfl hF rfl rfl rfl rfl rfl rfl rfl rfl ?_
 refine L.assign hF rfl rfl rfl (L.nil ?_)
 refine WpC.seq (WpC.regionL ?_)
 refine L.move hF rfl rfl rfl ?_
 obtain ⟨r1, hr1, H⟩ := bindS H
 refine L.call [false, false] [] [1] 3 hF rfl rfl rfl ent58 rfl rfl rfl rfl rfl (Fimpl_vars_many_gives k  (20 : Int) (⟨a0, (0 : Int), false⟩ : Timpl_vars) r1 hr1) rfl ?_
 refine L.assign hF rfl rfl rfl (L.nil ?_)
 refine WpC.seq (WpC.seq (WpC.regionL ?_))
 refine L.move hF rfl rfl rfl ?_
 refine L.move hF rfl rfl rfl (L.nil ?_)
 refine WpC.block ?_
 refine WpC.loopL (P := Try.prog) (fun n σ => ∃ v971 : List UInt8, ∃ v972 : List Timpl_Rule, ∃ v973 : Int, ∃ v974 : Int, ∃ v975 : List UInt8, ∃ v976 : Int, ∃ v977 : Bool, n ≤ K ∧ Fimpl_ReadRules.l22 n v971 v972 v973 v974 v975 v976 v977 = some r ∧ σ = mkSt [(0, one (cS v971)), (4, one (Cell.ptr 0 0)), (5, one (Cell.own 1)), (16, one (cI v973)), (17, one (cI v974))] [(1, ⟨3, List.map eTimpl_Rule v972⟩)] [(0, [cS v975, cI v976, cL v977])] 2) k ⟨_, ⟨a0, ([] : List Timpl_Rule), r1.1, (0 : Int), r1.2.s, r1.2.at_, r1.2.bad, by omega, H, rfl⟩, Le.mk [(0, 1), (1, 2)] hm rfl (Sa4 (Sa1 trivial)) (Ra1 trivial) (Ba1 trivial)⟩ ?_
 clear H
 rintro k22 _ ⟨v971, v972, v973, v974, v975, v976, v977, hk22, H, rfl⟩
 cases k22 with
 | zero => cases H
 | succ k22 =>
  rw [Fimpl_ReadRules.l22] at H
  refine WpC.seq (WpC.regionL ?_)
  refine L.bin hF rfl rfl rfl rfl rfl rfl (L.nil ?_)
  refine WpC.seq ?_
  refine WpC.cond rfl (fun hc => ?_) (fun hc => ?_)
  ·replace H := condT hc H
   refine WpC.skip (WpC.seq (WpC.block (WpC.seq (WpC.regionL ?_))))
   refine L.move hF rfl rfl rfl ?_
   obtain ⟨r1074, hr1074, H⟩ := bindS H
   refine L.call [false] [] [0] 2 hF rfl rfl rfl ent59 rfl rfl rfl rfl rfl (Fimpl_vars_next_gives k22  (⟨v975, v976, v977⟩ : Timpl_vars) r1074 hr1074) rfl ?_
   refine L.buildF built96 hF rfl rfl rfl rfl ?_
   refine L.alloc 6 info96 rfl hF rfl rfl rfl rfl ?_
   refine L.storePtr shape96 hF rfl rfl rfl rfl rfl rfl rfl (L.nil ?_)
   refine WpC.seq (WpC.regionL ?_)
   refine L.move hF rfl rfl rfl ?_
   obtain ⟨r1075, hr1075, H⟩ := bindS H
   refine L.call [false] [] [0] 7 hF rfl rfl rfl ent59 rfl rfl rfl rfl rfl (Fimpl_vars_next_gives k22  r1074.2 r1075 hr1075) rfl ?_
   refine L.fieldAddr Try.underlying96 rfl info3 rfl hF rfl rfl rfl rfl rfl ?_
   refine L.storePtr shape3 hF rfl rfl rfl rfl rfl rfl rfl (L.nil ?_)
   refine WpC.seq (WpC.regionL ?_)
   refine L.move hF rfl rfl rfl ?_
   obtain ⟨r1076, hr1076, H⟩ := bindS H
   refine L.call [false, false] [] [0] 11 hF rfl rfl rfl ent58 rfl rfl rfl rfl rfl (Fimpl_vars_many_gives k22  (31 : Int) r1075.2 r1076 hr1076) rfl ?_
   refine L.assign hF rfl rfl rfl (L.nil ?_)
   refine WpC.seq (WpC.seq (WpC.regionL ?_))
   refine L.move hF rfl rfl rfl ?_
   refine L.move hF rfl rfl rfl (L.nil ?_)
   refine WpC.block ?_
   refine WpC.loopL (P := Try.prog) (fun n σ => ∃ v1153 : List UInt8, ∃ v1154 : List Timpl_Rule, ∃ v1155 : Int, ∃ v1156 : Int, ∃ v1157 : Int, ∃ v1158 : Int, ∃ v1159 : List UInt8, ∃ v1160 : Int, ∃ v1161 : Bool, ∃ v1162 : Int, ∃ v1163 : List Int, ∃ v1164 : Int, n ≤ K ∧ Fimpl_ReadRules.l26 (Fimpl_ReadRules.l22 k22) n v1153 v1154 v1155 v1156 v1157 v1158 v1159 v1160 v1161 v1162 v1163 v1164 = some r ∧ σ = mkSt [(0, one (cS v1153)), (4, one (Cell.ptr 0 0)), (5, one (Cell.own 1)), (7, one (Cell.ptr 2 0)), (16, one (cI v1155)), (17, one (cI v1156)), (27, one (cI v1157)), (28, one (cI v1158))] [(1, ⟨3, List.map eTimpl_Rule v1154⟩), (3, ⟨1, List.map eI v1163⟩)] [(0, [cS v1159, cI v1160, cL v1161]), (2, [cI v1162, Cell.own 3, cI v1164])] 4) k22 ⟨_, ⟨v971, v972, v973, v974, r1076.1, (0 : Int), r1076.2.s, r1076.2.at_, r1076.2.bad, r1074.1, [], r1075.1, by omega, H, rfl⟩, (Le.ownB 6 1 15 1 rfl rfl rfl).trans (Le.mk [(0, 0), (1, 1), (2, 6), (3, 15)] hm rfl (Sa8 trivial) (Ra2 trivial) (Ba2 trivial))⟩ ?_
   clear H
   rintro k26 _ ⟨v1153, v1154, v1155, v1156, v1157, v1158, v1159, v1160, v1161, v1162, v1163, v1164, hk26, H, rfl⟩
   cases k26 with
   | zero => cases H
   | succ k26 =>
    rw [Fimpl_ReadRules.l26] at H
    refine WpC.seq (WpC.regionL ?_)
    refine L.bin hF rfl rfl rfl rfl rfl rfl (L.nil ?_)
    refine WpC.seq ?_
    refine WpC.cond rfl (fun hc => ?_) (fun hc => ?_)
    ·replace H := condT hc H
     refine WpC.skip (WpC.seq (WpC.block (WpC.seq (WpC.regionL ?_))))
     refine L.move hF rfl rfl rfl ?_
     obtain ⟨r1167, hr1167, H⟩ := bindS H
     refine L.call [false] [] [0] 4 hF rfl rfl rfl ent59 rfl rfl rfl rfl rfl (Fimpl_vars_next_gives k26  (⟨v1159, v1160, v1161⟩ : Timpl_vars) r1167 hr1167) rfl ?_
     refine L.assign hF rfl rfl rfl (L.nil ?_)
     refine WpC.regionL ?_
     refine L.fieldAddr Try.underlying96 rfl info39 rfl hF rfl rfl rfl rfl rfl ?_
     refine L.loadPtr shape39 hF rfl rfl rfl rfl rfl rfl ?_
     refine L.move hF rfl rfl rfl ?_
     refine L.buildSlice (e := eI) 8 ([r1167.1] : List Int) Try.underlying39 info3 rfl rfl rfl hF rfl rfl rfl rfl rfl rfl rfl rfl ?_
     obtain ⟨h1168, H⟩ := condG H
     refine L.append (xs := v1163) (ys := ([r1167.1] : List Int)) (e := eI) 9 Try.underlying39 info3 rfl rfl hF rfl rfl rfl rfl rfl rfl rfl rfl (fun _ => rfl) (fun _ _ h1 h2 => by cases h1; cases h2; rfl) ⟨_, Try.underlying39⟩ (of_decide_eq_true h1168) rfl rfl ?_
     refine L.fieldAddr Try.underlying96 rfl info39 rfl hF rfl rfl rfl rfl rfl ?_
     refine L.storePtr shape39 hF rfl rfl rfl rfl rfl rfl rfl (L.nil ?_)
     refine WpC.regionL ?_
     refine L.bin hF rfl rfl rfl rfl rfl rfl ?_
     refine L.move hF rfl rfl rfl (L.nil ?_)
     exact ⟨k26, _, by omega, ⟨v1153, v1154, v1155, v1156, v1157, (IntKind.i64.wrap (v1158 + (1 : Int))), r1167.2.s, r1167.2.at_, r1167.2.bad, v1162, (v1163 ++ ([r1167.1] : List Int)), v1164, by omega, H, rfl⟩, Le.mk [(0, 0), (1, 1), (2, 2), (3, 9)] hm rfl (Sa8 trivial) (Ra2 trivial) (Ba2 trivial)⟩
    ·replace H := condF hc H
     refine WpC.exit (WpC.regionL ?_)
     refine L.move hF rfl rfl rfl ?_
     refine L.loadPtr shape96 hF rfl rfl rfl rfl rfl rfl ?_
     refine L.buildSliceN (e := eTimpl_Rule) 1 4 ([(⟨v1162, v1163, v1164⟩ : Timpl_Rule)] : List Timpl_Rule) Try.underlying28 info96 rfl rfl rfl hF rfl rfl rfl rfl rfl rfl rfl rfl ?_
     obtain ⟨h1169, H⟩ := condG H
     refine L.appendN (xs := v1154) (ys := ([(⟨v1162, v1163, v1164⟩ : Timpl_Rule)] : List Timpl_Rule)) (e := eTimpl_Rule) 5 Try.underlying28 info96 rfl rfl hF rfl rfl rfl rfl rfl rfl rfl rfl rfl (fun _ _ h1 h2 => by cases h1; cases h2; rfl) Try.underlying28 (of_decide_eq_true h1169) rfl rfl ?_
     refine L.assign hF rfl rfl rfl (L.nil ?_)
     refine WpC.regionL ?_
     refine L.bin hF rfl rfl rfl rfl rfl rfl ?_
     refine L.move hF rfl rfl rfl (L.nil ?_)
     exact ⟨k22, _, by omega, ⟨v1153, (v1154 ++ ([(⟨v1162, v1163, v1164⟩ : Timpl_Rule)] : List Timpl_Rule)), v1155, (IntKind.i64.wrap (v1156 + (1 : Int))), v1159, v1160, v1161, by omega, H, rfl⟩, Le.mk [(0, 0), (1, 5)] hm rfl (Sa4 (Sa1 trivial)) (Ra1 trivial) (Ba1 trivial)⟩
  ·replace H := condF hc H
   refine WpC.exit (WpC.seq (WpC.seq (WpC.regionL ?_)))
   refine L.move hF rfl rfl rfl ?_
   refine L.nilCheck hF rfl rfl rfl rfl ?_
   refine L.fieldAddr Try.underlying99 rfl info4 rfl hF rfl rfl rfl rfl rfl ?_
   refine L.loadPtr shape4 hF rfl rfl rfl rfl rfl rfl ?_
   refine L.move hF rfl rfl rfl ?_
   refine L.split (fun hc => ?_) (fun hc => ?_)
   ·replace H := condT hc H
    refine L.off hF rfl rfl ?_
    refine L.off hF rfl rfl ?_
    refine L.pick hF rfl rfl rfl rfl ?_
    refine L.move hF rfl rfl rfl ?_
    refine L.off hF rfl rfl ?_
    refine L.off hF rfl rfl ?_
    refine L.off hF rfl rfl ?_
    refine L.off hF rfl rfl ?_
    refine L.pick hF rfl rfl rfl rfl (L.nil ?_)
    refine WpC.cond rfl (fun _ => ?_) (fun hc => by cases hc)
    refine WpC.seq (WpC.regionL ?_)
    refine L.assign hF rfl rfl rfl ?_
    refine L.assign hF rfl rfl rfl (L.nil ?_)
    refine WpC.le (Le.own 2 0 2 3 rfl rfl rfl) ?_
    refine WpC.ret ?_
    cases H
    exact Leaves.ret rfl rfl rfl ⟨rfl, rfl⟩
   ·replace H := condF hc H
    refine L.move hF rfl rfl rfl ?_
    refine L.binS hF rfl rfl rfl rfl rfl ?_
    refine L.pick hF rfl rfl rfl rfl ?_
    refine L.move hF rfl rfl rfl ?_
    refine L.split (fun hc => ?_) (fun hc => ?_)
    ·replace H := condT hc H
     refine L.off hF rfl rfl ?_
     refine L.off hF rfl rfl ?_
     refine L.off hF rfl rfl ?_
     refine L.off hF rfl rfl ?_
     refine L.pick hF rfl rfl rfl rfl (L.nil ?_)
     refine WpC.cond rfl (fun _ => ?_) (fun hc => by cases hc)
     refine WpC.seq (WpC.regionL ?_)
     refine L.assign hF rfl rfl rfl ?_
     refine L.assign hF rfl rfl rfl (L.nil ?_)
     refine WpC.le (Le.own 2 0 2 3 rfl rfl rfl) ?_
     refine WpC.ret ?_
     cases H
     exact Leaves.ret rfl rfl rfl ⟨rfl, rfl⟩
    ·replace H := condF hc H
     refine L.move hF rfl rfl rfl ?_
     obtain ⟨r1173, hr1173, H⟩ := bindS H
     refine L.call [false] [1] [] 2 hF rfl rfl rfl ent23 rfl rfl rfl rfl rfl (Fimpl_ShowRules_gives k22 false v972 r1173 hr1173) rfl ?_
     refine L.move hF rfl rfl rfl ?_
     refine L.binS hF rfl rfl rfl rfl rfl ?_
     refine L.pick hF rfl rfl rfl rfl (L.nil ?_)
     refine WpC.cond rfl (fun hc => ?_) (fun hc => ?_)
     ·replace H := condT hc H
      refine WpC.seq (WpC.regionL ?_)
      refine L.assign hF rfl rfl rfl ?_
      refine L.assign hF rfl rfl rfl (L.nil ?_)
      refine WpC.le (Le.own 2 0 3 3 rfl rfl rfl) ?_
      refine WpC.ret ?_
      cases H
      exact Leaves.ret rfl rfl rfl ⟨rfl, rfl⟩
     ·replace H := condF hc H
      refine WpC.skip (WpC.seq (WpC.regionL ?_))
      refine L.move hF rfl rfl rfl ?_
      refine L.assign hF rfl rfl rfl ?_
      refine L.assign hF rfl rfl rfl (L.nil ?_)
      refine WpC.ret ?_
      cases H
      exact Leaves.ret rfl rfl rfl ⟨rfl, rfl⟩
/-! ### Flaws_eqIntS -/
def Flaws_eqIntS.l2 : Nat → (List Int) → (List Int) → Int → Option Bool
 | 0, _, _, _ => none
 | k2 + 1, v34, v35, v36 => cond (decide (v36 < (v34.length : Int))) ((at? v34 v36).bind fun b39 => (at? v35 v36).bind fun b40 => cond (b39 != b40) (some false) ((Flaws_eqIntS.l2 k2) v34 v35 (IntKind.i64.wrap (v36 + (1 : Int))))) (some true)
def Flaws_eqIntS (k : Nat) (a0 : List Int) (a1 : List Int) : Option Bool := cond ((a0.length : Int) != (a1.length : Int)) (some false) (Flaws_eqIntS.l2 k a0 a1 (0 : Int))
theorem ent103 : MG.Enters Try.prog 103 := ⟨Try.f103, Try.func103, rfl, by decide⟩
set_option maxHeartbeats 8000000 in
set_option maxRecDepth 100000 in
theorem Flaws_eqIntS_gives (k : Nat) (g0 : Bool) (g1 : Bool) (a0 : List Int) (a1 : List Int) (r : Bool) (H : Flaws_eqIntS k a0 a1 = some r) : Gives Try.prog 103 [V.one (Cell.sl g0 (List.map eI a0)), V.one (Cell.sl g1 (List.map eI a1))] [] [V.one (cL r)] [] := by
 refine Gives.intro Try.func103 rfl rfl rfl rfl ?_
 intro F hF hm
 unfold Flaws_eqIntS at H
 obtain ⟨K, hK⟩ : ∃ K, k ≤ K := ⟨k, Nat.le_refl k⟩
 refine WpC.seq (WpC.regionL ?_)
 refine L.assign hF rfl rfl rfl (L.nil ?_)
 refine WpC.seq (WpC.seq (WpC.regionL ?_))
 refine L.move hF rfl rfl rfl ?_
 refine L.lenR (xs := a0) (e := eI) Try.underlying39 hF rfl rfl rfl rfl ?_
 refine L.move hF rfl rfl rfl ?_
 refine L.lenR (xs := a1) (e := eI) Try.underlying39 hF rfl rfl rfl rfl ?_
 refine L.bin hF rfl rfl rfl rfl rfl rfl (L.nil ?_)
 refine WpC.cond rfl (fun hc => ?_) (fun hc => ?_)
 ·replace H := condT hc H
  refine WpC.seq (WpC.regionL ?_)
  refine L.assign hF rfl rfl rfl (L.nil ?_)
  refine WpC.ret ?_
  cases H
  exact Leaves.ret rfl rfl rfl ⟨rfl, rfl⟩
 ·replace H := condF hc H
  refine WpC.skip (WpC.seq (WpC.seq (WpC.regionL ?_)))
  refine L.assign hF rfl rfl rfl (L.nil ?_)
  refine WpC.block ?_
  refine WpC.loopL (P := Try.prog) (fun n σ => ∃ v34 : List Int, ∃ v35 : List Int, ∃ v36 : Int, n ≤ K ∧ Flaws_eqIntS.l2 n v34 v35 v36 = some r ∧ σ = mkSt [(0, one (Cell.sl g0 (List.map eI v34))), (1, one (Cell.sl g1 (List.map eI v35))), (5, one (cI v36))] [] [] 0) k ⟨_, ⟨a0, a1, (0 : Int), by omega, H, rfl⟩, Le.mk [] hm rfl (Sa2 (Sa1 trivial)) trivial trivial⟩ ?_
  clear H
  rintro k2 _ ⟨v34, v35, v36, hk2, H, rfl⟩
  cases k2 with
  | zero => cases H
  | succ k2 =>
   rw [Flaws_eqIntS.l2] at H
   refine WpC.seq (WpC.seq (WpC.regionL ?_))
   refine L.move hF rfl rfl rfl ?_
   refine L.move hF rfl rfl rfl ?_
   refine L.lenR (xs := v34) (e := eI) Try.underlying39 hF rfl rfl rfl rfl ?_
   refine L.bin hF rfl rfl rfl rfl rfl rfl (L.nil ?_)
   refine WpC.cond rfl (fun hc => ?_) (fun hc => ?_)
   ·replace H := condT hc H
    refine WpC.skip (WpC.seq (WpC.block (WpC.seq ?_)))
    refine S.begin mixed (by kernel_rfl) ?_
    refine S.st 0 rfl rfl ((Ca.move).quiet) (fun Q0 k0 => L.move hF rfl rfl rfl (L.nil k0)) ?_
    refine S.st 1 rfl rfl ((Ca.move).quiet) (fun Q0 k0 => L.move hF rfl rfl rfl (L.nil k0)) ?_
    obtain ⟨b39, hb39, H⟩ := bindS H
    refine S.st 2 rfl rfl ((Ca.indexAddr).quiet) (fun Q0 k0 => L.idxR (xs := v34) (e := eI) Try.underlying39 info3 hF rfl rfl rfl rfl rfl hb39 rfl rfl (L.nil k0)) ?_
    refine S.st 3 rfl rfl (Qu.load) (fun Q0 k0 => L.loadPe shape3 hF rfl rfl rfl rfl rfl (L.nil k0)) ?_
    refine S.st 4 rfl rfl ((Ca.move).quiet) (fun Q0 k0 => L.move hF rfl rfl rfl (L.nil k0)) ?_
    refine S.st 5 rfl rfl ((Ca.move).quiet) (fun Q0 k0 => L.move hF rfl rfl rfl (L.nil k0)) ?_
    obtain ⟨b40, hb40, H⟩ := bindS H
    refine S.st 6 rfl rfl ((Ca.indexAddr).quiet) (fun Q0 k0 => L.idxR (xs := v35) (e := eI) Try.underlying39 info3 hF rfl rfl rfl rfl rfl hb40 rfl rfl (L.nil k0)) ?_
    refine S.st 7 rfl rfl (Qu.load) (fun Q0 k0 => L.loadPe shape3 hF rfl rfl rfl rfl rfl (L.nil k0)) ?_
    refine S.st 8 rfl rfl ((Ca.bin rfl rfl (calm_int _ _ _ _ _ _ _ _)).quiet) (fun Q0 k0 => L.bin hF rfl rfl rfl rfl rfl rfl (L.nil k0)) ?_
    refine S.nil ?_
    refine WpC.cond rfl (fun hc => ?_) (fun hc => ?_)
    ·replace H := condT hc H
     refine WpC.seq (WpC.regionL ?_)
     refine L.assign hF rfl rfl rfl (L.nil ?_)
     refine WpC.ret ?_
     cases H
     exact Leaves.ret rfl rfl rfl ⟨rfl, rfl⟩
    ·replace H := condF hc H
     refine WpC.skip (WpC.regionL ?_)
     refine L.move hF rfl rfl rfl ?_
     refine L.bin hF rfl rfl rfl rfl rfl rfl ?_
     refine L.assign hF rfl rfl rfl (L.nil ?_)
     exact ⟨k2, _, by omega, ⟨v34, v35, (IntKind.i64.wrap (v36 + (1 : Int))), by omega, H, rfl⟩, Le.mk [] hm rfl (Sa2 (Sa1 trivial)) trivial trivial⟩
   ·replace H := condF hc H
    refine WpC.exit (WpC.seq (WpC.regionL ?_))
    refine L.assign hF rfl rfl rfl (L.nil ?_)
    refine WpC.ret ?_
    cases H
    exact Leaves.ret rfl rfl rfl ⟨rfl, rfl⟩
/-! ### Flaws_eqRule -/
def Flaws_eqRule (k : Nat) (a0 : Timpl_Rule) (a1 : Timpl_Rule) : Option Bool := cond (a0.Kind != a1.Kind) (some false) ((Flaws_eqIntS k a0.Set a1.Set).bind fun r2 => cond (!r2) (some false) (cond (a0.N != a1.N) (some false) (some true)))
theorem ent60 : MG.Enters Try.prog 60 := ⟨Try.f60, Try.func60, rfl, by decide⟩
set_option maxHeartbeats 8000000 in
set_option maxRecDepth 100000 in
theorem Flaws_eqRule_gives (k : Nat) (g0 : Bool) (g1 : Bool) (a0 : Timpl_Rule) (a1 : Timpl_Rule) (r : Bool) (H : Flaws_eqRule k a0 a1 = some r) : Gives Try.prog 60 [V.agg [cI a0.Kind, Cell.sl g0 (List.map eI a0.Set), cI a0.N], V.agg [cI a1.Kind, Cell.sl g1 (List.map eI a1.Set), cI a1.N]] [] [V.one (cL r)] [] := by
 refine Gives.intro Try.func60 rfl rfl rfl rfl ?_
 intro F hF hm
 unfold Flaws_eqRule at H
 obtain ⟨K, hK⟩ : ∃ K, k ≤ K := ⟨k, Nat.le_refl k⟩
 refine WpC.seq (WpC.regionL ?_)
 refine L.box 6 hF rfl rfl rfl rfl ?_
 refine L.box 7 hF rfl rfl rfl rfl ?_
 refine L.assign hF rfl rfl rfl (L.nil ?_)
 refine WpC.seq (WpC.seq (WpC.regionL ?_))
 refine L.fieldAddr Try.underlying96 rfl info3 rfl hF rfl rfl rfl rfl rfl ?_
 refine L.loadPtr shape3 hF rfl rfl rfl rfl rfl rfl ?_
 refine L.fieldAddr Try.underlying96 rfl info3 rfl hF rfl rfl rfl rfl rfl ?_
 refine L.loadPtr shape3 hF rfl rfl rfl rfl rfl rfl ?_
 refine L.bin hF rfl rfl rfl rfl rfl rfl (L.nil ?_)
 refine WpC.cond rfl (fun hc => ?_) (fun hc => ?_)
 ·replace H := condT hc H
  refine WpC.seq (WpC.regionL ?_)
  refine L.assign hF rfl rfl rfl (L.nil ?_)
  refine WpC.ret ?_
  cases H
  exact Leaves.ret rfl rfl rfl ⟨rfl, rfl⟩
 ·replace H := condF hc H
  refine WpC.skip (WpC.seq (WpC.seq (WpC.regionL ?_)))
  refine L.fieldAddr Try.underlying96 rfl info39 rfl hF rfl rfl rfl rfl rfl ?_
  refine L.loadPtr shape39 hF rfl rfl rfl rfl rfl rfl ?_
  refine L.fieldAddr Try.underlying96 rfl info39 rfl hF rfl rfl rfl rfl rfl ?_
  refine L.loadPtr shape39 hF rfl rfl rfl rfl rfl rfl ?_
  obtain ⟨r2, hr2, H⟩ := bindS H
  refine L.call [false, false] [] [] 8 hF rfl rfl rfl ent103 rfl rfl rfl rfl rfl (Flaws_eqIntS_gives k g0 g1 a0.Set a1.Set r2 hr2) rfl ?_
  refine L.not hF rfl rfl rfl (L.nil ?_)
  refine WpC.cond rfl (fun hc => ?_) (fun hc => ?_)
  ·replace H := condT hc H
   refine WpC.seq (WpC.regionL ?_)
   refine L.assign hF rfl rfl rfl (L.nil ?_)
   refine WpC.ret ?_
   cases H
   exact Leaves.ret rfl rfl rfl ⟨rfl, rfl⟩
  ·replace H := condF hc H
   refine WpC.skip (WpC.seq (WpC.seq (WpC.regionL ?_)))
   refine L.fieldAddr Try.underlying96 rfl info3 rfl hF rfl rfl rfl rfl rfl ?_
   refine L.loadPtr shape3 hF rfl rfl rfl rfl rfl rfl ?_
   refine L.fieldAddr Try.underlying96 rfl info3 rfl hF rfl rfl rfl rfl rfl ?_
   refine L.loadPtr shape3 hF rfl rfl rfl rfl rfl rfl ?_
   refine L.bin hF rfl rfl rfl rfl rfl rfl (L.nil ?_)
   refine WpC.cond rfl (fun hc => ?_) (fun hc => ?_)
   ·replace H := condT hc H
    refine WpC.seq (WpC.regionL ?_)
    refine L.assign hF rfl rfl rfl (L.nil ?_)
    refine WpC.ret ?_
    cases H
    exact Leaves.ret rfl rfl rfl ⟨rfl, rfl⟩
   ·replace H := condF hc H
    refine WpC.skip (WpC.seq (WpC.regionL ?_))
    refine L.assign hF rfl rfl rfl (L.nil ?_)
    refine WpC.ret ?_
    cases H
    exact Leaves.ret rfl rfl rfl ⟨rfl, rfl⟩
/-! ### Flaws_eqRuleS -/
def Flaws_eqRuleS.l2 : Nat → (List Timpl_Rule) → (List Timpl_Rule) → Int → Option Bool
 | 0, _, _, _ => none
 | k2 + 1, v44, v45, v46 => cond (decide (v46 < (v44.length : Int))) ((at? v44 v46).bind fun b50 => (at? v45 v46).bind fun b51 => (Flaws_eqRule k2 b50 b51).bind fun r52 => cond (!r52) (some false) ((Flaws_eqRuleS.l2 k2) v44 v45 (IntKind.i64.wrap (v46 + (1 : Int))))) (some true)
def Flaws_eqRuleS (k : Nat) (a0 : List Timpl_Rule) (a1 : List Timpl_Rule) : Option Bool := cond ((a0.length : Int) != (a1.length : Int)) (some false) (Flaws_eqRuleS.l2 k a0 a1 (0 : Int))
theorem ent18 : MG.Enters Try.prog 18 := ⟨Try.f18, Try.func18, rfl, by decide⟩
set_option maxHeartbeats 8000000 in
set_option maxRecDepth 100000 in
theorem Flaws_eqRuleS_gives (k : Nat) (g0 : Bool) (g1 : Bool) (a0 : List Timpl_Rule) (a1 : List Timpl_Rule) (r : Bool) (H : Flaws_eqRuleS k a0 a1 = some r) : Gives Try.prog 18 [V.one (Cell.sl g0 (List.map eTimpl_Rule a0)), V.one (Cell.sl g1 (List.map eTimpl_Rule a1))] [] [V.one (cL r)] [] := by
 refine Gives.intro Try.func18 rfl rfl rfl rfl ?_
 intro F hF hm
 unfold Flaws_eqRuleS at H
 obtain ⟨K, hK⟩ : ∃ K, k ≤ K := ⟨k, Nat.le_refl k⟩
 refine WpC.seq (WpC.regionL ?_)
 refine L.assign hF rfl rfl rfl (L.nil ?_)
 refine WpC.seq (WpC.seq (WpC.regionL ?_))
 refine L.move hF rfl rfl rfl ?_
 refine L.lenR (xs := a0) (e := eTimpl_Rule) Try.underlying28 hF rfl rfl rfl rfl ?_
 refine L.move hF rfl rfl rfl ?_
 refine L.lenR (xs := a1) (e := eTimpl_Rule) Try.underlying28 hF rfl rfl rfl rfl ?_
 refine L.bin hF rfl rfl rfl rfl rfl rfl (L.nil ?_)
 refine WpC.cond rfl (fun hc => ?_) (fun hc => ?_)
 ·replace H := condT hc H
  refine WpC.seq (WpC.regionL ?_)
  refine L.assign hF rfl rfl rfl (L.nil ?_)
  refine WpC.ret ?_
  cases H
  exact Leaves.ret rfl rfl rfl ⟨rfl, rfl⟩
 ·replace H := condF hc H
  refine WpC.skip (WpC.seq (WpC.seq (WpC.regionL ?_)))
  refine L.assign hF rfl rfl rfl (L.nil ?_)
  refine WpC.block ?_
  refine WpC.loopL (P := Try.prog) (fun n σ => ∃ v44 : List Timpl_Rule, ∃ v45 : List Timpl_Rule, ∃ v46 : Int, n ≤ K ∧ Flaws_eqRuleS.l2 n v44 v45 v46 = some r ∧ σ = mkSt [(0, one (Cell.sl g0 (List.map eTimpl_Rule v44))), (1, one (Cell.sl g1 (List.map eTimpl_Rule v45))), (5, one (cI v46))] [] [] 0) k ⟨_, ⟨a0, a1, (0 : Int), by omega, H, rfl⟩, Le.mk [] hm rfl (Sa2 (Sa1 trivial)) trivial trivial⟩ ?_
  clear H
  rintro k2 _ ⟨v44, v45, v46, hk2, H, rfl⟩
  cases k2 with
  | zero => cases H
  | succ k2 =>
   rw [Flaws_eqRuleS.l2] at H
   refine WpC.seq (WpC.seq (WpC.regionL ?_))
   refine L.move hF rfl rfl rfl ?_
   refine L.move hF rfl rfl rfl ?_
   refine L.lenR (xs := v44) (e := eTimpl_Rule) Try.underlying28 hF rfl rfl rfl rfl ?_
   refine L.bin hF rfl rfl rfl rfl rfl rfl (L.nil ?_)
   refine WpC.cond rfl (fun hc => ?_) (fun hc => ?_)
   ·replace H := condT hc H
    refine WpC.skip (WpC.seq (WpC.block (WpC.seq ?_)))
    obtain ⟨b50, hb50, H⟩ := bindS H
    obtain ⟨b51, hb51, H⟩ := bindS H
    obtain ⟨r52, hr52, H⟩ := bindS H
    refine A.begin mixed rfl rfl ?_
    intro W hI hO
    have n255 : W 2 #[true, true, true, true, true, true, true, true, false, false] (mkSt [(0, one (Cell.sl g0 (List.map eTimpl_Rule v44))), (1, one (Cell.sl g1 (List.map eTimpl_Rule v45))), (5, one (cI v46)), (20, agg (bTimpl_Rule g0 b50)), (24, agg (bTimpl_Rule g1 b51))] [] [] 0) := by
     refine hI _ _ _ ?_
     refine A.all [8] (by kernel_rfl) rfl ⟨⟨_, rfl, ?_⟩, trivial⟩
     refine L.call [false, false] [] [] 0 hF rfl rfl rfl ent60 rfl rfl rfl rfl rfl (Flaws_eqRule_gives k2 g0 g1 b50 b51 r52 hr52) rfl (L.nil ?_)
     refine Atk 9 rfl (Ca.un rfl rfl) (fun Q0 k0 => L.not hF rfl rfl rfl (L.nil k0)) ?_
     refine A.le (τ := mkSt [(0, one (Cell.sl g0 (List.map eTimpl_Rule v44))), (1, one (Cell.sl g1 (List.map eTimpl_Rule v45))), (5, one (cI v46)), (26, one (cL (!r52)))] [] [] 0) (Le.mk [] hm rfl (Sa4 trivial) trivial trivial) ?_
     refine A.done (by kernel_rfl) ?_
     refine WpC.cond rfl (fun hc => ?_) (fun hc => ?_)
     ·replace H := condT hc H
      refine WpC.seq (WpC.regionL ?_)
      refine L.assign hF rfl rfl rfl (L.nil ?_)
      refine WpC.ret ?_
      cases H
      exact Leaves.ret rfl rfl rfl ⟨rfl, rfl⟩
     ·replace H := condF hc H
      refine WpC.skip (WpC.regionL ?_)
      refine L.move hF rfl rfl rfl ?_
      refine L.bin hF rfl rfl rfl rfl rfl rfl ?_
      refine L.assign hF rfl rfl rfl (L.nil ?_)
      exact ⟨k2, _, by omega, ⟨v44, v45, (IntKind.i64.wrap (v46 + (1 : Int))), by omega, H, rfl⟩, Le.mk [] hm rfl (Sa2 (Sa1 trivial)) trivial trivial⟩
    refine hI _ _ _ ?_
    refine Atk 0 rfl (Ca.move) (fun Q0 k0 => L.move hF rfl rfl rfl (L.nil k0)) ?_
    refine Atk 1 rfl (Ca.move) (fun Q0 k0 => L.move hF rfl rfl rfl (L.nil k0)) ?_
    refine Atk 2 rfl (Ca.indexAddr) (fun Q0 k0 => L.idxR (xs := v44) (e := eTimpl_Rule) Try.underlying28 info96 hF rfl rfl rfl rfl rfl hb50 rfl rfl (L.nil k0)) ?_
    refine Atk 4 rfl (Ca.move) (fun Q0 k0 => L.move hF rfl rfl rfl (L.nil k0)) ?_
    refine Atk 5 rfl (Ca.move) (fun Q0 k0 => L.move hF rfl rfl rfl (L.nil k0)) ?_
    refine Atk 6 rfl (Ca.indexAddr) (fun Q0 k0 => L.idxR (xs := v45) (e := eTimpl_Rule) Try.underlying28 info96 hF rfl rfl rfl rfl rfl hb51 rfl rfl (L.nil k0)) ?_
    refine A.all [3, 7] (by kernel_rfl) rfl ⟨⟨_, rfl, ?_⟩, ⟨_, rfl, ?_⟩, trivial⟩
    ·refine L.loadPe shape96 hF rfl rfl rfl rfl rfl (L.nil ?_)
     refine A.all [7] (by kernel_rfl) rfl ⟨⟨_, rfl, ?_⟩, trivial⟩
     refine L.loadPe shape96 hF rfl rfl rfl rfl rfl (L.nil ?_)
     exact A.on (hO _ _ _ n255) (Le.mk [] hm rfl (Sa4 (Sa1 trivial)) trivial trivial)
    ·refine L.loadPe shape96 hF rfl rfl rfl rfl rfl (L.nil ?_)
     refine A.all [3] (by kernel_rfl) rfl ⟨⟨_, rfl, ?_⟩, trivial⟩
     refine L.loadPe shape96 hF rfl rfl rfl rfl rfl (L.nil ?_)
     exact A.on (hO _ _ _ n255) (Le.mk [] hm rfl (Sa4 (Sa1 trivial)) trivial trivial)
   ·replace H := condF hc H
    refine WpC.exit (WpC.seq (WpC.regionL ?_))
    refine L.assign hF rfl rfl rfl (L.nil ?_)
    refine WpC.ret ?_
    cases H
    exact Leaves.ret rfl rfl rfl ⟨rfl, rfl⟩
/-! ### Flaws_markIntS -/
def Flaws_markIntS.l2 : Nat → (List Int) → Int → Int → Option (Int × List Int)
 | 0, _, _, _ => none
 | k2 + 1, v24, v25, v26 => cond (decide (v26 < (v24.length : Int))) ((at? v24 v26).bind fun b28 => (Flaws_markIntS.l2 k2) (v24.set v26.toNat v25) (IntKind.i64.wrap (v25 + (1 : Int))) (IntKind.i64.wrap (v26 + (1 : Int)))) (some (v25, v24))
def Flaws_markIntS (k : Nat) (a0 : List Int) (a1 : Int) : Option (Int × List Int) := Flaws_markIntS.l2 k a0 a1 (0 : Int)
theorem ent55 : MG.Enters Try.prog 55 := ⟨Try.f55, Try.func55, rfl, by decide⟩
set_option maxHeartbeats 8000000 in
set_option maxRecDepth 100000 in
theorem Flaws_markIntS_gives (k : Nat) (a0 : List Int) (a1 : Int) (r : Int × List Int) (H : Flaws_markIntS k a0 a1 = some r) : GivesB Try.prog 55 [V.one (Cell.ow 1 (List.map eI a0)), V.one (cI a1)] [] [0] [V.one (cI r.1)] [] [V.one (Cell.ow 1 (List.map eI r.2))] := by
 refine GivesB.intro Try.func55 rfl rfl rfl rfl rfl rfl ?_
 intro F hF hm
 unfold Flaws_markIntS at H
 obtain ⟨K, hK⟩ : ∃ K, k ≤ K := ⟨k, Nat.le_refl k⟩
 refine WpC.seq (WpC.regionL ?_)
 refine L.assign hF rfl rfl rfl (L.nil ?_)
 refine WpC.seq (WpC.seq (WpC.regionL ?_))
 refine L.assign hF rfl rfl rfl (L.nil ?_)
 refine WpC.block ?_
 refine WpC.loopL (P := Try.prog) (fun n σ => ∃ v24 : List Int, ∃ v25 : Int, ∃ v26 : Int, n ≤ K ∧ Flaws_markIntS.l2 n v24 v25 v26 = some r ∧ σ = mkSt [(0, one (Cell.own 0)), (1, one (cI v25)), (5, one (cI v26))] [(0, ⟨1, List.map eI v24⟩)] [] 2) k ⟨_, ⟨a0, a1, (0 : Int), by omega, H, rfl⟩, Le.mk [(0, 0)] hm rfl (Sa2 (Sa1 trivial)) (Ra1 trivial) trivial⟩ ?_
 clear H
 rintro k2 _ ⟨v24, v25, v26, hk2, H, rfl⟩
 cases k2 with
 | zero => cases H
 | succ k2 =>
  rw [Flaws_markIntS.l2] at H
  refine WpC.seq (WpC.seq (WpC.regionL ?_))
  refine L.move hF rfl rfl rfl ?_
  refine L.move hF rfl rfl rfl ?_
  refine L.lenR (xs := v24) (e := eI) Try.underlying39 hF rfl rfl rfl rfl ?_
  refine L.bin hF rfl rfl rfl rfl rfl rfl (L.nil ?_)
  refine WpC.cond rfl (fun hc => ?_) (fun hc => ?_)
  ·replace H := condT hc H
   refine WpC.skip (WpC.seq (WpC.block (WpC.seq (WpC.regionL ?_))))
   refine L.move hF rfl rfl rfl ?_
   refine L.move hF rfl rfl rfl ?_
   refine L.move hF rfl rfl rfl ?_
   obtain ⟨b28, hb28, H⟩ := bindS H
   refine L.idxR (xs := v24) (e := eI) Try.underlying39 info3 hF rfl rfl rfl rfl rfl hb28 rfl rfl ?_
   refine L.storeEp (xs := v24) (e := eI) (a' := v25) shape3 hF rfl rfl rfl rfl rfl rfl rfl (at?_get hb28).2 rfl rfl ?_
   refine L.nil ?_
   refine WpC.regionL ?_
   refine L.move hF rfl rfl rfl ?_
   refine L.bin hF rfl rfl rfl rfl rfl rfl ?_
   refine L.assign hF rfl rfl rfl (L.nil ?_)
   refine WpC.regionL ?_
   refine L.move hF rfl rfl rfl ?_
   refine L.bin hF rfl rfl rfl rfl rfl rfl ?_
   refine L.assign hF rfl rfl rfl (L.nil ?_)
   exact ⟨k2, _, by omega, ⟨(v24.set v26.toNat v25), (IntKind.i64.wrap (v25 + (1 : Int))), (IntKind.i64.wrap (v26 + (1 : Int))), by omega, H, rfl⟩, Le.mk [(0, 0)] hm rfl (Sa2 (Sa1 trivial)) (Ra1 trivial) trivial⟩
  ·replace H := condF hc H
   refine WpC.exit (WpC.seq (WpC.regionL ?_))
   refine L.move hF rfl rfl rfl ?_
   refine L.assign hF rfl rfl rfl (L.nil ?_)
   refine WpC.ret ?_
   cases H
   exact Leaves.retB rfl rfl rfl rfl ⟨rfl, rfl, rfl⟩
/-! ### Flaws_markRuleS -/
def Flaws_markRuleS.l2 : Nat → (List Timpl_Rule) → Int → Int → Option (Int × List Timpl_Rule)
 | 0, _, _, _ => none
 | k2 + 1, v54, v55, v56 => cond (decide (v56 < (v54.length : Int))) ((at? v54 v56).bind fun b61 => (at? (v54.set v56.toNat (⟨v55, b61.Set, b61.N⟩ : Timpl_Rule)) v56).bind fun b62 => (Flaws_markIntS k2 b62.Set (IntKind.i64.wrap (v55 + (1 : Int)))).bind fun r63 => (at? ((v54.set v56.toNat (⟨v55, b61.Set, b61.N⟩ : Timpl_Rule)).set v56.toNat (⟨b62.Kind, r63.2, b62.N⟩ : Timpl_Rule)) v56).bind fun b64 => (Flaws_markRuleS.l2 k2) (((v54.set v56.toNat (⟨v55, b61.Set, b61.N⟩ : Timpl_Rule)).set v56.toNat (⟨b62.Kind, r63.2, b62.N⟩ : Timpl_Rule)).set v56.toNat (⟨b64.Kind, b64.Set, r63.1⟩ : Timpl_Rule)) (IntKind.i64.wrap (r63.1 + (1 : Int))) (IntKind.i64.wrap (v56 + (1 : Int)))) (some (v55, v54))
def Flaws_markRuleS (k : Nat) (a0 : List Timpl_Rule) (a1 : Int) : Option (Int × List Timpl_Rule) := Flaws_markRuleS.l2 k a0 a1 (0 : Int)
theorem ent19 : MG.Enters Try.prog 19 := ⟨Try.f19, Try.func19, rfl, by decide⟩
set_option maxHeartbeats 8000000 in
set_option maxRecDepth 100000 in
theorem Flaws_markRuleS_gives (k : Nat) (a0 : List Timpl_Rule) (a1 : Int) (r : Int × List Timpl_Rule) (H : Flaws_markRuleS k a0 a1 = some r) : GivesB Try.prog 19 [V.one (Cell.ow 3 (List.map eTimpl_Rule a0)), V.one (cI a1)] [] [0] [V.one (cI r.1)] [] [V.one (Cell.ow 3 (List.map eTimpl_Rule r.2))] := by
 refine GivesB.intro Try.func19 rfl rfl rfl rfl rfl rfl ?_
 intro F hF hm
 unfold Flaws_markRuleS at H
 obtain ⟨K, hK⟩ : ∃ K, k ≤ K := ⟨k, Nat.le_refl k⟩
 refine WpC.seq (WpC.regionL ?_)
 refine L.assign hF rfl rfl rfl (L.nil ?_)
 refine WpC.seq (WpC.seq (WpC.regionL ?_))
 refine L.assign hF rfl rfl rfl (L.nil ?_)
 refine WpC.block ?_
 refine WpC.loopL (P := Try.prog) (fun n σ => ∃ v54 : List Timpl_Rule, ∃ v55 : Int, ∃ v56 : Int, n ≤ K ∧ Flaws_markRuleS.l2 n v54 v55 v56 = some r ∧ σ = mkSt [(0, one (Cell.own 0)), (1, one (cI v55)), (5, one (cI v56))] [(0, ⟨3, List.map eTimpl_Rule v54⟩)] [] 2) k ⟨_, ⟨a0, a1, (0 : Int), by omega, H, rfl⟩, Le.mk [(0, 0)] hm rfl (Sa2 (Sa1 trivial)) (Ra1 trivial) trivial⟩ ?_
 clear H
 rintro k2 _ ⟨v54, v55, v56, hk2, H, rfl⟩
 cases k2 with
 | zero => cases H
 | succ k2 =>
  rw [Flaws_markRuleS.l2] at H
  refine WpC.seq (WpC.seq (WpC.regionL ?_))
  refine L.move hF rfl rfl rfl ?_
  refine L.move hF rfl rfl rfl ?_
  refine L.lenR (xs := v54) (e := eTimpl_Rule) Try.underlying28 hF rfl rfl rfl rfl ?_
  refine L.bin hF rfl rfl rfl rfl rfl rfl (L.nil ?_)
  refine WpC.cond rfl (fun hc => ?_) (fun hc => ?_)
  ·replace H := condT hc H
   refine WpC.skip (WpC.seq (WpC.block (WpC.seq (WpC.regionL ?_))))
   refine L.move hF rfl rfl rfl ?_
   refine L.move hF rfl rfl rfl ?_
   refine L.move hF rfl rfl rfl ?_
   obtain ⟨b61, hb61, H⟩ := bindS H
   refine L.idxR (xs := v54) (e := eTimpl_Rule) Try.underlying28 info96 hF rfl rfl rfl rfl rfl hb61 rfl rfl ?_
   refine L.fieldAddr Try.underlying96 rfl info3 rfl hF rfl rfl rfl rfl rfl ?_
   refine L.storeEp (xs := v54) (e := eTimpl_Rule) (a' := (⟨v55, b61.Set, b61.N⟩ : Timpl_Rule)) shape3 hF rfl rfl rfl rfl rfl rfl rfl (at?_get hb61).2 rfl rfl ?_
   refine L.nil ?_
   refine WpC.seq (WpC.regionL ?_)
   refine L.move hF rfl rfl rfl ?_
   refine L.bin hF rfl rfl rfl rfl rfl rfl ?_
   refine L.assign hF rfl rfl rfl (L.nil ?_)
   refine WpC.seq (WpC.regionL ?_)
   refine L.move hF rfl rfl rfl ?_
   refine L.move hF rfl rfl rfl ?_
   obtain ⟨b62, hb62, H⟩ := bindS H
   refine L.idxR (xs := (v54.set v56.toNat (⟨v55, b61.Set, b61.N⟩ : Timpl_Rule))) (e := eTimpl_Rule) Try.underlying28 info96 hF rfl rfl rfl rfl rfl hb62 rfl rfl ?_
   refine L.fieldAddr Try.underlying96 rfl info39 rfl hF rfl rfl rfl rfl rfl ?_
   refine L.out (xs := (v54.set v56.toNat (⟨v55, b61.Set, b61.N⟩ : Timpl_Rule))) (e := eTimpl_Rule) (a := b62) 0 v56.toNat 1 2 rfl (at?_get hb62).2 rfl rfl (fun ub62 => ?_)
   refine L.loadEpR (xs := (v54.set v56.toNat (⟨v55, b61.Set, b61.N⟩ : Timpl_Rule))) (e := eTimpl_Rule) 1 2 shape39 hF rfl rfl rfl rfl (at?_get hb62).2 rfl rfl rfl rfl rfl ?_
   refine L.move hF rfl rfl rfl ?_
   obtain ⟨r63, hr63, H⟩ := bindS H
   refine L.callB [true, false] [] [] 3 [0] hF rfl rfl rfl ent55 rfl rfl rfl rfl rfl (Flaws_markIntS_gives k2  b62.Set (IntKind.i64.wrap (v55 + (1 : Int))) r63 hr63) rfl rfl rfl ?_
   refine L.assign hF rfl rfl rfl ?_
   refine L.le (Le.back (xs := (v54.set v56.toNat (⟨v55, b61.Set, b61.N⟩ : Timpl_Rule))) (e := eTimpl_Rule) (a' := (⟨b62.Kind, r63.2, b62.N⟩ : Timpl_Rule)) 0 v56.toNat 1 2 rfl (at?_get hb62).2 rfl rfl rfl rfl rfl) ?_
   refine L.nil ?_
   refine WpC.seq (WpC.regionL ?_)
   refine L.move hF rfl rfl rfl ?_
   refine L.move hF rfl rfl rfl ?_
   refine L.move hF rfl rfl rfl ?_
   obtain ⟨b64, hb64, H⟩ := bindS H
   refine L.idxR (xs := ((v54.set v56.toNat (⟨v55, b61.Set, b61.N⟩ : Timpl_Rule)).set v56.toNat (⟨b62.Kind, r63.2, b62.N⟩ : Timpl_Rule))) (e := eTimpl_Rule) Try.underlying28 info96 hF rfl rfl rfl rfl rfl hb64 rfl rfl ?_
   refine L.fieldAddr Try.underlying96 rfl info3 rfl hF rfl rfl rfl rfl rfl ?_
   refine L.storeEp (xs := ((v54.set v56.toNat (⟨v55, b61.Set, b61.N⟩ : Timpl_Rule)).set v56.toNat (⟨b62.Kind, r63.2, b62.N⟩ : Timpl_Rule))) (e := eTimpl_Rule) (a' := (⟨b64.Kind, b64.Set, r63.1⟩ : Timpl_Rule)) shape3 hF rfl rfl rfl rfl rfl rfl rfl (at?_get hb64).2 rfl rfl ?_
   refine L.nil ?_
   refine WpC.regionL ?_
   refine L.move hF rfl rfl rfl ?_
   refine L.bin hF rfl rfl rfl rfl rfl rfl ?_
   refine L.assign hF rfl rfl rfl (L.nil ?_)
   refine WpC.regionL ?_
   refine L.move hF rfl rfl rfl ?_
   refine L.bin hF rfl rfl rfl rfl rfl rfl ?_
   refine L.assign hF rfl rfl rfl (L.nil ?_)
   exact ⟨k2, _, by omega, ⟨(((v54.set v56.toNat (⟨v55, b61.Set, b61.N⟩ : Timpl_Rule)).set v56.toNat (⟨b62.Kind, r63.2, b62.N⟩ : Timpl_Rule)).set v56.toNat (⟨b64.Kind, b64.Set, r63.1⟩ : Timpl_Rule)), (IntKind.i64.wrap (r63.1 + (1 : Int))), (IntKind.i64.wrap (v56 + (1 : Int))), by omega, H, rfl⟩, Le.mk [(0, 0)] hm rfl (Sa2 (Sa1 trivial)) (Ra1 trivial) trivial⟩
  ·replace H := condF hc H
   refine WpC.exit (WpC.seq (WpC.regionL ?_))
   refine L.move hF rfl rfl rfl ?_
   refine L.assign hF rfl rfl rfl (L.nil ?_)
   refine WpC.ret ?_
   cases H
   exact Leaves.retB rfl rfl rfl rfl ⟨rfl, rfl, rfl⟩
/-! ### Flaws_heldIntS -/
def Flaws_heldIntS.l2 : Nat → (List Int) → Int → Int → Option Int
 | 0, _, _, _ => none
 | k2 + 1, v34, v35, v36 => cond (decide (v36 < (v34.length : Int))) ((at? v34 v36).bind fun b40 => cond (b40 != v35) (some (-1 : Int)) ((Flaws_heldIntS.l2 k2) v34 (IntKind.i64.wrap (v35 + (1 : Int))) (IntKind.i64.wrap (v36 + (1 : Int))))) (some v35)
def Flaws_heldIntS (k : Nat) (a0 : List Int) (a1 : Int) : Option Int := Flaws_heldIntS.l2 k a0 a1 (0 : Int)
theorem ent56 : MG.Enters Try.prog 56 := ⟨Try.f56, Try.func56, rfl, by decide⟩
set_option maxHeartbeats 8000000 in
set_option maxRecDepth 100000 in
theorem Flaws_heldIntS_gives (k : Nat) (g0 : Bool) (a0 : List Int) (a1 : Int) (r : Int) (H : Flaws_heldIntS k a0 a1 = some r) : Gives Try.prog 56 [V.one (Cell.sl g0 (List.map eI a0)), V.one (cI a1)] [] [V.one (cI r)] [] := by
 refine Gives.intro Try.func56 rfl rfl rfl rfl ?_
 intro F hF hm
 unfold Flaws_heldIntS at H
 obtain ⟨K, hK⟩ : ∃ K, k ≤ K := ⟨k, Nat.le_refl k⟩
 refine WpC.seq (WpC.regionL ?_)
 refine L.assign hF rfl rfl rfl (L.nil ?_)
 refine WpC.seq (WpC.seq (WpC.regionL ?_))
 refine L.assign hF rfl rfl rfl (L.nil ?_)
 refine WpC.block ?_
 refine WpC.loopL (P := Try.prog) (fun n σ => ∃ v34 : List Int, ∃ v35 : Int, ∃ v36 : Int, n ≤ K ∧ Flaws_heldIntS.l2 n v34 v35 v36 = some r ∧ σ = mkSt [(0, one (Cell.sl g0 (List.map eI v34))), (1, one (cI v35)), (5, one (cI v36))] [] [] 0) k ⟨_, ⟨a0, a1, (0 : Int), by omega, H, rfl⟩, Le.mk [] hm rfl (Sa2 (Sa1 trivial)) trivial trivial⟩ ?_
 clear H
 rintro k2 _ ⟨v34, v35, v36, hk2, H, rfl⟩
 cases k2 with
 | zero => cases H
 | succ k2 =>
  rw [Flaws_heldIntS.l2] at H
  refine WpC.seq (WpC.seq (WpC.regionL ?_))
  refine L.move hF rfl rfl rfl ?_
  refine L.move hF rfl rfl rfl ?_
  refine L.lenR (xs := v34) (e := eI) Try.underlying39 hF rfl rfl rfl rfl ?_
  refine L.bin hF rfl rfl rfl rfl rfl rfl (L.nil ?_)
  refine WpC.cond rfl (fun hc => ?_) (fun hc => ?_)
  ·replace H := condT hc H
   refine WpC.skip (WpC.seq (WpC.block (WpC.seq (WpC.seq (WpC.regionL ?_)))))
   refine L.move hF rfl rfl rfl ?_
   refine L.move hF rfl rfl rfl ?_
   obtain ⟨b40, hb40, H⟩ := bindS H
   refine L.idxR (xs := v34) (e := eI) Try.underlying39 info3 hF rfl rfl rfl rfl rfl hb40 rfl rfl ?_
   refine L.loadPe shape3 hF rfl rfl rfl rfl rfl ?_
   refine L.move hF rfl rfl rfl ?_
   refine L.bin hF rfl rfl rfl rfl rfl rfl (L.nil ?_)
   refine WpC.cond rfl (fun hc => ?_) (fun hc => ?_)
   ·replace H := condT hc H
    refine WpC.seq (WpC.regionL ?_)
    refine L.assign hF rfl rfl rfl (L.nil ?_)
    refine WpC.ret ?_
    cases H
    exact Leaves.ret rfl rfl rfl ⟨rfl, rfl⟩
   ·replace H := condF hc H
    refine WpC.skip (WpC.regionL ?_)
    refine L.move hF rfl rfl rfl ?_
    refine L.bin hF rfl rfl rfl rfl rfl rfl ?_
    refine L.assign hF rfl rfl rfl (L.nil ?_)
    refine WpC.regionL ?_
    refine L.move hF rfl rfl rfl ?_
    refine L.bin hF rfl rfl rfl rfl rfl rfl ?_
    refine L.assign hF rfl rfl rfl (L.nil ?_)
    exact ⟨k2, _, by omega, ⟨v34, (IntKind.i64.wrap (v35 + (1 : Int))), (IntKind.i64.wrap (v36 + (1 : Int))), by omega, H, rfl⟩, Le.mk [] hm rfl (Sa2 (Sa1 trivial)) trivial trivial⟩
  ·replace H := condF hc H
   refine WpC.exit (WpC.seq (WpC.regionL ?_))
   refine L.move hF rfl rfl rfl ?_
   refine L.assign hF rfl rfl rfl (L.nil ?_)
   refine WpC.ret ?_
   cases H
   exact Leaves.ret rfl rfl rfl ⟨rfl, rfl⟩
/-! ### Flaws_heldRuleS -/
def Flaws_heldRuleS.l2 : Nat → (List Timpl_Rule) → Int → Int → Option Int
 | 0, _, _, _ => none
 | k2 + 1, v74, v75, v76 => cond (decide (v76 < (v74.length : Int))) ((at? v74 v76).bind fun b84 => cond (b84.Kind != v75) (some (-1 : Int)) ((at? v74 v76).bind fun b85 => (Flaws_heldIntS k2 b85.Set (IntKind.i64.wrap (v75 + (1 : Int)))).bind fun r86 => cond (decide (r86 < (0 : Int))) (some (-1 : Int)) ((at? v74 v76).bind fun b88 => cond (b88.N != r86) (some (-1 : Int)) ((Flaws_heldRuleS.l2 k2) v74 (IntKind.i64.wrap (r86 + (1 : Int))) (IntKind.i64.wrap (v76 + (1 : Int))))))) (some v75)
def Flaws_heldRuleS (k : Nat) (a0 : List Timpl_Rule) (a1 : Int) : Option Int := Flaws_heldRuleS.l2 k a0 a1 (0 : Int)
theorem ent20 : MG.Enters Try.prog 20 := ⟨Try.f20, Try.func20, rfl, by decide⟩
set_option maxHeartbeats 8000000 in
set_option maxRecDepth 100000 in
theorem Flaws_heldRuleS_gives (k : Nat) (g0 : Bool) (a0 : List Timpl_Rule) (a1 : Int) (r : Int) (H : Flaws_heldRuleS k a0 a1 = some r) : Gives Try.prog 20 [V.one (Cell.sl g0 (List.map eTimpl_Rule a0)), V.one (cI a1)] [] [V.one (cI r)] [] := by
 refine Gives.intro Try.func20 rfl rfl rfl rfl ?_
 intro F hF hm
 unfold Flaws_heldRuleS at H
 obtain ⟨K, hK⟩ : ∃ K, k ≤ K := ⟨k, Nat.le_refl k⟩
 refine WpC.seq (WpC.regionL ?_)
 refine L.assign hF rfl rfl rfl (L.nil ?_)
 refine WpC.seq (WpC.seq (WpC.regionL ?_))
 refine L.assign hF rfl rfl rfl (L.nil ?_)
 refine WpC.block ?_
 refine WpC.loopL (P := Try.prog) (fun n σ => ∃ v74 : List Timpl_Rule, ∃ v75 : Int, ∃ v76 : Int, n ≤ K ∧ Flaws_heldRuleS.l2 n v74 v75 v76 = some r ∧ σ = mkSt [(0, one (Cell.sl g0 (List.map eTimpl_Rule v74))), (1, one (cI v75)), (5, one (cI v76))] [] [] 0) k ⟨_, ⟨a0, a1, (0 : Int), by omega, H, rfl⟩, Le.mk [] hm rfl (Sa2 (Sa1 trivial)) trivial trivial⟩ ?_
 clear H
 rintro k2 _ ⟨v74, v75, v76, hk2, H, rfl⟩
 cases k2 with
 | zero => cases H
 | succ k2 =>
  rw [Flaws_heldRuleS.l2] at H
  refine WpC.seq (WpC.seq (WpC.regionL ?_))
  refine L.move hF rfl rfl rfl ?_
  refine L.move hF rfl rfl rfl ?_
  refine L.lenR (xs := v74) (e := eTimpl_Rule) Try.underlying28 hF rfl rfl rfl rfl ?_
  refine L.bin hF rfl rfl rfl rfl rfl rfl (L.nil ?_)
  refine WpC.cond rfl (fun hc => ?_) (fun hc => ?_)
  ·replace H := condT hc H
   refine WpC.skip (WpC.seq (WpC.block (WpC.seq (WpC.seq (WpC.regionL ?_)))))
   refine L.move hF rfl rfl rfl ?_
   refine L.move hF rfl rfl rfl ?_
   obtain ⟨b84, hb84, H⟩ := bindS H
   refine L.idxR (xs := v74) (e := eTimpl_Rule) Try.underlying28 info96 hF rfl rfl rfl rfl rfl hb84 rfl rfl ?_
   refine L.fieldAddr Try.underlying96 rfl info3 rfl hF rfl rfl rfl rfl rfl ?_
   refine L.loadPe shape3 hF rfl rfl rfl rfl rfl ?_
   refine L.move hF rfl rfl rfl ?_
   refine L.bin hF rfl rfl rfl rfl rfl rfl (L.nil ?_)
   refine WpC.cond rfl (fun hc => ?_) (fun hc => ?_)
   ·replace H := condT hc H
    refine WpC.seq (WpC.regionL ?_)
    refine L.assign hF rfl rfl rfl (L.nil ?_)
    refine WpC.ret ?_
    cases H
    exact Leaves.ret rfl rfl rfl ⟨rfl, rfl⟩
   ·replace H := condF hc H
    refine WpC.skip (WpC.seq (WpC.regionL ?_))
    refine L.move hF rfl rfl rfl ?_
    refine L.bin hF rfl rfl rfl rfl rfl rfl ?_
    refine L.assign hF rfl rfl rfl (L.nil ?_)
    refine WpC.seq (WpC.regionL ?_)
    refine L.move hF rfl rfl rfl ?_
    refine L.move hF rfl rfl rfl ?_
    obtain ⟨b85, hb85, H⟩ := bindS H
    refine L.idxR (xs := v74) (e := eTimpl_Rule) Try.underlying28 info96 hF rfl rfl rfl rfl rfl hb85 rfl rfl ?_
    refine L.fieldAddr Try.underlying96 rfl info39 rfl hF rfl rfl rfl rfl rfl ?_
    refine L.loadPe shape39 hF rfl rfl rfl rfl rfl ?_
    refine L.move hF rfl rfl rfl ?_
    obtain ⟨r86, hr86, H⟩ := bindS H
    refine L.call [false, false] [] [] 0 hF rfl rfl rfl ent56 rfl rfl rfl rfl rfl (Flaws_heldIntS_gives k2 g0 b85.Set (IntKind.i64.wrap (v75 + (1 : Int))) r86 hr86) rfl ?_
    refine L.assign hF rfl rfl rfl (L.nil ?_)
    refine WpC.seq (WpC.seq (WpC.regionL ?_))
    refine L.move hF rfl rfl rfl ?_
    refine L.bin hF rfl rfl rfl rfl rfl rfl (L.nil ?_)
    refine WpC.cond rfl (fun hc => ?_) (fun hc => ?_)
    ·replace H := condT hc H
     refine WpC.seq (WpC.regionL ?_)
     refine L.assign hF rfl rfl rfl (L.nil ?_)
     refine WpC.ret ?_
     cases H
     exact Leaves.ret rfl rfl rfl ⟨rfl, rfl⟩
    ·replace H := condF hc H
     refine WpC.skip (WpC.seq (WpC.seq (WpC.regionL ?_)))
     refine L.move hF rfl rfl rfl ?_
     refine L.move hF rfl rfl rfl ?_
     obtain ⟨b88, hb88, H⟩ := bindS H
     refine L.idxR (xs := v74) (e := eTimpl_Rule) Try.underlying28 info96 hF rfl rfl rfl rfl rfl hb88 rfl rfl ?_
     refine L.fieldAddr Try.underlying96 rfl info3 rfl hF rfl rfl rfl rfl rfl ?_
     refine L.loadPe shape3 hF rfl rfl rfl rfl rfl ?_
     refine L.move hF rfl rfl rfl ?_
     refine L.bin hF rfl rfl rfl rfl rfl rfl (L.nil ?_)
     refine WpC.cond rfl (fun hc => ?_) (fun hc => ?_)
     ·replace H := condT hc H
      refine WpC.seq (WpC.regionL ?_)
      refine L.assign hF rfl rfl rfl (L.nil ?_)
      refine WpC.ret ?_
      cases H
      exact Leaves.ret rfl rfl rfl ⟨rfl, rfl⟩
     ·replace H := condF hc H
      refine WpC.skip (WpC.regionL ?_)
      refine L.move hF rfl rfl rfl ?_
      refine L.bin hF rfl rfl rfl rfl rfl rfl ?_
      refine L.assign hF rfl rfl rfl (L.nil ?_)
      refine WpC.regionL ?_
      refine L.move hF rfl rfl rfl ?_
      refine L.bin hF rfl rfl rfl rfl rfl rfl ?_
      refine L.assign hF rfl rfl rfl (L.nil ?_)
      exact ⟨k2, _, by omega, ⟨v74, (IntKind.i64.wrap (r86 + (1 : Int))), (IntKind.i64.wrap (v76 + (1 : Int))), by omega, H, rfl⟩, Le.mk [] hm rfl (Sa2 (Sa1 trivial)) trivial trivial⟩
  ·replace H := condF hc H
   refine WpC.exit (WpC.seq (WpC.regionL ?_))
   refine L.move hF rfl rfl rfl ?_
   refine L.assign hF rfl rfl rfl (L.nil ?_)
   refine WpC.ret ?_
   cases H
   exact Leaves.ret rfl rfl rfl ⟨rfl, rfl⟩
/-! ### Flaws_FnExactReadRules -/
def Flaws_FnExactReadRules (k : Nat) (a0 : List UInt8) : Option Bool := cond (decide ((a0.length : Int) > (1048576 : Int))) (some true) ((Fspec_ReadRules k a0).bind fun r1 => (Fimpl_ReadRules k a0).bind fun r2 => (Flaws_eqRuleS k r2.1 r1.1).bind fun r6 => cond (!r6) (some false) (cond (r2.2 != r1.2) (some false) ((Flaws_markRuleS k r2.1 (1 : Int)).bind fun r7 => (Flaws_heldRuleS k r7.2 (1 : Int)).bind fun r8 => cond (decide (r8 < (0 : Int))) (some false) (cond (r8 != r7.1) (some false) ((Fimpl_ReadRules k a0).bind fun r9 => (Flaws_eqRuleS k r9.1 r1.1).bind fun r13 => cond (!r13) (some false) (cond (r9.2 != r1.2) (some false) ((Flaws_heldRuleS k r7.2 (1 : Int)).bind fun r14 => cond (decide (r14 < (0 : Int))) (some false) (cond (r14 != r7.1) (some false) (some true)))))))))
theorem ent4 : MG.Enters Try.prog 4 := ⟨Try.f4, Try.func4, rfl, by decide⟩
set_option maxHeartbeats 8000000 in
set_option maxRecDepth 100000 in
theorem Flaws_FnExactReadRules_gives (k : Nat) (a0 : List UInt8) (r : Bool) (H : Flaws_FnExactReadRules k a0 = some r) : Gives Try.prog 4 [V.one (cS a0)] [] [V.one (cL r)] [] := by
 refine Gives.intro Try.func4 rfl rfl rfl rfl ?_
 intro F hF hm
 unfold Flaws_FnExactReadRules at H
 obtain ⟨K, hK⟩ : ∃ K, k ≤ K := ⟨k, Nat.le_refl k⟩
 refine WpC.seq (WpC.regionL ?_)
 refine L.assign hF rfl rfl rfl (L.nil ?_)
 refine WpC.seq (WpC.seq (WpC.regionL ?_))
 refine L.move hF rfl rfl rfl ?_
 refine L.lenS Try.underlying9 hF rfl rfl rfl ?_
 refine L.bin hF rfl rfl rfl rfl rfl rfl (L.nil ?_)
 refine WpC.cond rfl (fun hc => ?_) (fun hc => ?_)
 ·replace H := condT hc H
  refine WpC.seq (WpC.regionL ?_)
  refine L.assign hF rfl rfl rfl (L.nil ?_)
  refine WpC.ret ?_
  cases H
  exact Leaves.ret rfl rfl rfl ⟨rfl, rfl⟩
 ·replace H := condF hc H
  refine WpC.skip (WpC.seq (WpC.regionL ?_))
  refine L.move hF rfl rfl rfl ?_
  obtain ⟨r1, hr1, H⟩ := bindS H
  refine L.call [false] [] [] 1 hF rfl rfl rfl ent16 rfl rfl rfl rfl rfl (Fspec_ReadRules_gives k  a0 r1 hr1) rfl ?_
  refine L.move hF rfl rfl rfl ?_
  refine L.extract hF rfl rfl rfl rfl ?_
  refine L.extract hF rfl rfl rfl rfl ?_
  refine L.assign hF rfl rfl rfl ?_
  refine L.assign hF rfl rfl rfl (L.nil ?_)
  refine WpC.seq (WpC.regionL ?_)
  refine L.move hF rfl rfl rfl ?_
  obtain ⟨r2, hr2, H⟩ := bindS H
  refine L.call [false] [] [] 3 hF rfl rfl rfl ent17 rfl rfl rfl rfl rfl (Fimpl_ReadRules_gives k  a0 r2 hr2) rfl ?_
  refine L.move hF rfl rfl rfl ?_
  refine L.extract hF rfl rfl rfl rfl ?_
  refine L.extract hF rfl rfl rfl rfl ?_
  refine L.assign hF rfl rfl rfl ?_
  refine L.assign hF rfl rfl rfl (L.nil ?_)
  refine WpC.seq (WpC.seq (WpC.regionL ?_))
  refine L.move hF rfl rfl rfl ?_
  refine L.move hF rfl rfl rfl ?_
  obtain ⟨r6, hr6, H⟩ := bindS H
  refine L.call [false, false] [3, 1] [] 5 hF rfl rfl rfl ent18 rfl rfl rfl rfl rfl (Flaws_eqRuleS_gives k false false r2.1 r1.1 r6 hr6) rfl ?_
  refine L.not hF rfl rfl rfl ?_
  refine L.move hF rfl rfl rfl ?_
  refine L.split (fun hc => ?_) (fun hc => ?_)
  ·replace H := condT hc H
   refine L.off hF rfl rfl ?_
   refine L.off hF rfl rfl ?_
   refine L.off hF rfl rfl ?_
   refine L.pick hF rfl rfl rfl rfl (L.nil ?_)
   refine WpC.cond rfl (fun _ => ?_) (fun hc => by cases hc)
   refine WpC.seq (WpC.regionL ?_)
   refine L.assign hF rfl rfl rfl (L.nil ?_)
   refine WpC.ret ?_
   cases H
   exact Leaves.ret rfl rfl rfl ⟨rfl, rfl⟩
  ·replace H := condF hc H
   refine L.move hF rfl rfl rfl ?_
   refine L.move hF rfl rfl rfl ?_
   refine L.neL Try.underlying4 hF rfl rfl rfl rfl ?_
   refine L.pick hF rfl rfl rfl rfl (L.nil ?_)
   refine WpC.cond rfl (fun hc => ?_) (fun hc => ?_)
   ·replace H := condT hc H
    refine WpC.seq (WpC.regionL ?_)
    refine L.assign hF rfl rfl rfl (L.nil ?_)
    refine WpC.ret ?_
    cases H
    exact Leaves.ret rfl rfl rfl ⟨rfl, rfl⟩
   ·replace H := condF hc H
    refine WpC.skip (WpC.seq (WpC.regionL ?_))
    refine L.assign hF rfl rfl rfl (L.nil ?_)
    refine WpC.seq (WpC.regionL ?_)
    refine L.move hF rfl rfl rfl ?_
    refine L.move hF rfl rfl rfl ?_
    obtain ⟨r7, hr7, H⟩ := bindS H
    refine L.callB [true, false] [] [] 6 [0] hF rfl rfl rfl ent19 rfl rfl rfl rfl rfl (Flaws_markRuleS_gives k  r2.1 (1 : Int) r7 hr7) rfl rfl rfl ?_
    refine L.assign hF rfl rfl rfl (L.nil ?_)
    refine WpC.seq (WpC.regionL ?_)
    refine L.assign hF rfl rfl rfl (L.nil ?_)
    refine WpC.seq (WpC.regionL ?_)
    refine L.move hF rfl rfl rfl ?_
    refine L.move hF rfl rfl rfl ?_
    obtain ⟨r8, hr8, H⟩ := bindS H
    refine L.call [false, false] [3] [] 7 hF rfl rfl rfl ent20 rfl rfl rfl rfl rfl (Flaws_heldRuleS_gives k false r7.2 (1 : Int) r8 hr8) rfl ?_
    refine L.assign hF rfl rfl rfl (L.nil ?_)
    refine WpC.seq (WpC.seq (WpC.regionL ?_))
    refine L.move hF rfl rfl rfl ?_
    refine L.bin hF rfl rfl rfl rfl rfl rfl (L.nil ?_)
    refine WpC.cond rfl (fun hc => ?_) (fun hc => ?_)
    ·replace H := condT hc H
     refine WpC.seq (WpC.regionL ?_)
     refine L.assign hF rfl rfl rfl (L.nil ?_)
     refine WpC.ret ?_
     cases H
     exact Leaves.ret rfl rfl rfl ⟨rfl, rfl⟩
    ·replace H := condF hc H
     refine WpC.skip (WpC.seq (WpC.seq (WpC.regionL ?_)))
     refine L.move hF rfl rfl rfl ?_
     refine L.move hF rfl rfl rfl ?_
     refine L.bin hF rfl rfl rfl rfl rfl rfl (L.nil ?_)
     refine WpC.cond rfl (fun hc => ?_) (fun hc => ?_)
     ·replace H := condT hc H
      refine WpC.seq (WpC.regionL ?_)
      refine L.assign hF rfl rfl rfl (L.nil ?_)
      refine WpC.ret ?_
      cases H
      exact Leaves.ret rfl rfl rfl ⟨rfl, rfl⟩
     ·replace H := condF hc H
      refine WpC.skip (WpC.seq (WpC.regionL ?_))
      refine L.move hF rfl rfl rfl ?_
      obtain ⟨r9, hr9, H⟩ := bindS H
      refine L.call [false] [] [] 8 hF rfl rfl rfl ent17 rfl rfl rfl rfl rfl (Fimpl_ReadRules_gives k  a0 r9 hr9) rfl ?_
      refine L.move hF rfl rfl rfl ?_
      refine L.extract hF rfl rfl rfl rfl ?_
      refine L.extract hF rfl rfl rfl rfl ?_
      refine L.assign hF rfl rfl rfl ?_
      refine L.assign hF rfl rfl rfl (L.nil ?_)
      refine WpC.seq (WpC.seq (WpC.regionL ?_))
      refine L.move hF rfl rfl rfl ?_
      refine L.move hF rfl rfl rfl ?_
      obtain ⟨r13, hr13, H⟩ := bindS H
      refine L.call [false, false] [8, 1] [] 10 hF rfl rfl rfl ent18 rfl rfl rfl rfl rfl (Flaws_eqRuleS_gives k false false r9.1 r1.1 r13 hr13) rfl ?_
      refine L.not hF rfl rfl rfl ?_
      refine L.move hF rfl rfl rfl ?_
      refine L.split (fun hc => ?_) (fun hc => ?_)
      ·replace H := condT hc H
       refine L.off hF rfl rfl ?_
       refine L.off hF rfl rfl ?_
       refine L.off hF rfl rfl ?_
       refine L.pick hF rfl rfl rfl rfl (L.nil ?_)
       refine WpC.cond rfl (fun _ => ?_) (fun hc => by cases hc)
       refine WpC.seq (WpC.regionL ?_)
       refine L.assign hF rfl rfl rfl (L.nil ?_)
       refine WpC.ret ?_
       cases H
       exact Leaves.ret rfl rfl rfl ⟨rfl, rfl⟩
      ·replace H := condF hc H
       refine L.move hF rfl rfl rfl ?_
       refine L.move hF rfl rfl rfl ?_
       refine L.neL Try.underlying4 hF rfl rfl rfl rfl ?_
       refine L.pick hF rfl rfl rfl rfl (L.nil ?_)
       refine WpC.cond rfl (fun hc => ?_) (fun hc => ?_)
       ·replace H := condT hc H
        refine WpC.seq (WpC.regionL ?_)
        refine L.assign hF rfl rfl rfl (L.nil ?_)
        refine WpC.ret ?_
        cases H
        exact Leaves.ret rfl rfl rfl ⟨rfl, rfl⟩
       ·replace H := condF hc H
        refine WpC.skip (WpC.seq (WpC.regionL ?_))
        refine L.assign hF rfl rfl rfl (L.nil ?_)
        refine WpC.seq (WpC.regionL ?_)
        refine L.move hF rfl rfl rfl ?_
        refine L.move hF rfl rfl rfl ?_
        obtain ⟨r14, hr14, H⟩ := bindS H
        refine L.call [false, false] [3] [] 11 hF rfl rfl rfl ent20 rfl rfl rfl rfl rfl (Flaws_heldRuleS_gives k false r7.2 (1 : Int) r14 hr14) rfl ?_
        refine L.assign hF rfl rfl rfl (L.nil ?_)
        refine WpC.seq (WpC.seq (WpC.regionL ?_))
        refine L.move hF rfl rfl rfl ?_
        refine L.bin hF rfl rfl rfl rfl rfl rfl (L.nil ?_)
        refine WpC.cond rfl (fun hc => ?_) (fun hc => ?_)
        ·replace H := condT hc H
         refine WpC.seq (WpC.regionL ?_)
         refine L.assign hF rfl rfl rfl (L.nil ?_)
         refine WpC.ret ?_
         cases H
         exact Leaves.ret rfl rfl rfl ⟨rfl, rfl⟩
        ·replace H := condF hc H
         refine WpC.skip (WpC.seq (WpC.seq (WpC.regionL ?_)))
         refine L.move hF rfl rfl rfl ?_
         refine L.move hF rfl rfl rfl ?_
         refine L.bin hF rfl rfl rfl rfl rfl rfl (L.nil ?_)
         refine WpC.cond rfl (fun hc => ?_) (fun hc => ?_)
         ·replace H := condT hc H
          refine WpC.seq (WpC.regionL ?_)
          refine L.assign hF rfl rfl rfl (L.nil ?_)
          refine WpC.ret ?_
          cases H
          exact Leaves.ret rfl rfl rfl ⟨rfl, rfl⟩
         ·replace H := condF hc H
          refine WpC.skip (WpC.seq (WpC.regionL ?_))
          refine L.assign hF rfl rfl rfl (L.nil ?_)
          refine WpC.ret ?_
          cases H
          exact Leaves.ret rfl rfl rfl ⟨rfl, rfl⟩
end Go.Proofs.Ytgjbgakcfcomdaa.M
