import Derived.Test.YtgjbgakcfcomdaaMgZf
import Derived.Test.YtgjbgakcfcomdaaProg
namespace Go.Proofs.Ytgjbgakcfcomdaa.M
open Go Go.MG
set_option linter.unusedVariables false
set_option linter.unusedSimpArgs false
structure Timpl_Rule where
  Kind : Int
  Set : List Int
  N : Int
def eTimpl_Rule (x : Timpl_Rule) : List Cell := [cI x.Kind, Cell.ow 1 (List.map eI x.Set), cI x.N]
def bTimpl_Rule (g0 : Bool) (x : Timpl_Rule) : List Cell := [cI x.Kind, Cell.sl g0 (List.map eI x.Set), cI x.N]
structure Timpl_vars where
  s : List UInt8
  at_ : Int
  bad : Bool
def eTimpl_vars (x : Timpl_vars) : List Cell := [cS x.s, cI x.at_, cL x.bad]
def bTimpl_vars (x : Timpl_vars) : List Cell := [cS x.s, cI x.at_, cL x.bad]
structure Tspec_l1Cur where
  b : List UInt8
  i : Int
  h : Int
def eTspec_l1Cur (x : Tspec_l1Cur) : List Cell := [Cell.sl true (List.map eB x.b), cI x.i, cI x.h]
def bTspec_l1Cur (g0 : Bool) (x : Tspec_l1Cur) : List Cell := [Cell.sl g0 (List.map eB x.b), cI x.i, cI x.h]
theorem mixed : Try.prog.follows .mixedOrders = true := by kernel_rfl
theorem shape3 : MG.shape Try.prog 3 = some (false, 1) := by kernel_rfl
theorem shape4 : MG.shape Try.prog 4 = some (false, 1) := by kernel_rfl
theorem shape5 : MG.shape Try.prog 5 = some (false, 1) := by kernel_rfl
theorem shape9 : MG.shape Try.prog 9 = some (false, 1) := by kernel_rfl
theorem shape33 : MG.shape Try.prog 33 = some (false, 1) := by kernel_rfl
theorem shape39 : MG.shape Try.prog 39 = some (false, 1) := by kernel_rfl
theorem shape96 : MG.shape Try.prog 96 = some (true, 3) := by kernel_rfl
theorem info3 : Try.prog.info? 3 = some Try.t3 := by kernel_rfl
theorem info4 : Try.prog.info? 4 = some Try.t4 := by kernel_rfl
theorem info5 : Try.prog.info? 5 = some Try.t5 := by kernel_rfl
theorem info9 : Try.prog.info? 9 = some Try.t9 := by kernel_rfl
theorem info33 : Try.prog.info? 33 = some Try.t33 := by kernel_rfl
theorem info39 : Try.prog.info? 39 = some Try.t39 := by kernel_rfl
theorem info96 : Try.prog.info? 96 = some Try.t96 := by kernel_rfl
theorem info99 : Try.prog.info? 99 = some Try.t99 := by kernel_rfl
theorem info154 : Try.prog.info? 154 = some Try.t154 := by kernel_rfl
theorem built96 : builtA Try.prog 96 = fillA (fun x => ([(0, 1), (1, 1), (2, 1)] : List (Nat × Nat))[x]?) [cI (0 : Int), Cell.nil, cI (0 : Int)] := by kernel_rfl
theorem built99 : builtA Try.prog 99 = fillA (fun x => ([(0, 1), (1, 1), (2, 1)] : List (Nat × Nat))[x]?) [cS ([] : List UInt8), cI (0 : Int), cL false] := by kernel_rfl
theorem built154 : builtA Try.prog 154 = fillA (fun x => ([(0, 1), (1, 1), (2, 1)] : List (Nat × Nat))[x]?) [Cell.nil, cI (0 : Int), cI (0 : Int)] := by kernel_rfl
abbrev bx (a b c d : Int) : List Cell := [cI a, cI b, cI c, cI d]
theorem Sa1 {π : Nat → Option Nat} {σ : St} {t0 : Nat} {s0 u0 : Slot} {l : List (Nat × Slot)} (k : SlotsOk π σ l) (h0 : renS π s0 = some u0 := by exact rfl) (g0 : σ.slots t0 = some u0 := by exact rfl) : SlotsOk π σ ((t0, s0) :: l) := ⟨⟨_, h0, g0⟩, k⟩
theorem Ra1 {π : Nat → Option Nat} {σ : St} {t0 q0 : Nat} {s0 : Row} {l : List (Nat × Row)} (k : RowsOk π σ l) (h0 : π t0 = some q0 := by exact rfl) (g0 : σ.H.rows q0 = some s0 := by exact rfl) : RowsOk π σ ((t0, s0) :: l) := ⟨⟨_, h0, g0⟩, k⟩
theorem Ba1 {π : Nat → Option Nat} {σ : St} {t0 q0 : Nat} {c0 d0 : List Cell} {l : List (Nat × List Cell)} (k : BoxesOk π σ l) (h0 : π t0 = some q0 := by exact rfl) (g0 : renCs π c0 = some d0 := by exact rfl) (e0 : σ.H.boxes q0 = some d0 := by exact rfl) : BoxesOk π σ ((t0, c0) :: l) := ⟨⟨_, _, h0, g0, e0⟩, k⟩
theorem Sa2 {π : Nat → Option Nat} {σ : St} {t0 t1 : Nat} {s0 u0 s1 u1 : Slot} {l : List (Nat × Slot)} (k : SlotsOk π σ l) (h0 : renS π s0 = some u0 := by exact rfl) (g0 : σ.slots t0 = some u0 := by exact rfl) (h1 : renS π s1 = some u1 := by exact rfl) (g1 : σ.slots t1 = some u1 := by exact rfl) : SlotsOk π σ ((t0, s0) :: (t1, s1) :: l) := ⟨⟨_, h0, g0⟩, ⟨_, h1, g1⟩, k⟩
theorem Ra2 {π : Nat → Option Nat} {σ : St} {t0 q0 t1 q1 : Nat} {s0 s1 : Row} {l : List (Nat × Row)} (k : RowsOk π σ l) (h0 : π t0 = some q0 := by exact rfl) (g0 : σ.H.rows q0 = some s0 := by exact rfl) (h1 : π t1 = some q1 := by exact rfl) (g1 : σ.H.rows q1 = some s1 := by exact rfl) : RowsOk π σ ((t0, s0) :: (t1, s1) :: l) := ⟨⟨_, h0, g0⟩, ⟨_, h1, g1⟩, k⟩
theorem Ba2 {π : Nat → Option Nat} {σ : St} {t0 q0 t1 q1 : Nat} {c0 d0 c1 d1 : List Cell} {l : List (Nat × List Cell)} (k : BoxesOk π σ l) (h0 : π t0 = some q0 := by exact rfl) (g0 : renCs π c0 = some d0 := by exact rfl) (e0 : σ.H.boxes q0 = some d0 := by exact rfl) (h1 : π t1 = some q1 := by exact rfl) (g1 : renCs π c1 = some d1 := by exact rfl) (e1 : σ.H.boxes q1 = some d1 := by exact rfl) : BoxesOk π σ ((t0, c0) :: (t1, c1) :: l) := ⟨⟨_, _, h0, g0, e0⟩, ⟨_, _, h1, g1, e1⟩, k⟩
theorem Sa4 {π : Nat → Option Nat} {σ : St} {t0 t1 t2 t3 : Nat} {s0 u0 s1 u1 s2 u2 s3 u3 : Slot} {l : List (Nat × Slot)} (k : SlotsOk π σ l) (h0 : renS π s0 = some u0 := by exact rfl) (g0 : σ.slots t0 = some u0 := by exact rfl) (h1 : renS π s1 = some u1 := by exact rfl) (g1 : σ.slots t1 = some u1 := by exact rfl) (h2 : renS π s2 = some u2 := by exact rfl) (g2 : σ.slots t2 = some u2 := by exact rfl) (h3 : renS π s3 = some u3 := by exact rfl) (g3 : σ.slots t3 = some u3 := by exact rfl) : SlotsOk π σ ((t0, s0) :: (t1, s1) :: (t2, s2) :: (t3, s3) :: l) := ⟨⟨_, h0, g0⟩, ⟨_, h1, g1⟩, ⟨_, h2, g2⟩, ⟨_, h3, g3⟩, k⟩
theorem Ra4 {π : Nat → Option Nat} {σ : St} {t0 q0 t1 q1 t2 q2 t3 q3 : Nat} {s0 s1 s2 s3 : Row} {l : List (Nat × Row)} (k : RowsOk π σ l) (h0 : π t0 = some q0 := by exact rfl) (g0 : σ.H.rows q0 = some s0 := by exact rfl) (h1 : π t1 = some q1 := by exact rfl) (g1 : σ.H.rows q1 = some s1 := by exact rfl) (h2 : π t2 = some q2 := by exact rfl) (g2 : σ.H.rows q2 = some s2 := by exact rfl) (h3 : π t3 = some q3 := by exact rfl) (g3 : σ.H.rows q3 = some s3 := by exact rfl) : RowsOk π σ ((t0, s0) :: (t1, s1) :: (t2, s2) :: (t3, s3) :: l) := ⟨⟨_, h0, g0⟩, ⟨_, h1, g1⟩, ⟨_, h2, g2⟩, ⟨_, h3, g3⟩, k⟩
theorem Ba4 {π : Nat → Option Nat} {σ : St} {t0 q0 t1 q1 t2 q2 t3 q3 : Nat} {c0 d0 c1 d1 c2 d2 c3 d3 : List Cell} {l : List (Nat × List Cell)} (k : BoxesOk π σ l) (h0 : π t0 = some q0 := by exact rfl) (g0 : renCs π c0 = some d0 := by exact rfl) (e0 : σ.H.boxes q0 = some d0 := by exact rfl) (h1 : π t1 = some q1 := by exact rfl) (g1 : renCs π c1 = some d1 := by exact rfl) (e1 : σ.H.boxes q1 = some d1 := by exact rfl) (h2 : π t2 = some q2 := by exact rfl) (g2 : renCs π c2 = some d2 := by exact rfl) (e2 : σ.H.boxes q2 = some d2 := by exact rfl) (h3 : π t3 = some q3 := by exact rfl) (g3 : renCs π c3 = some d3 := by exact rfl) (e3 : σ.H.boxes q3 = some d3 := by exact rfl) : BoxesOk π σ ((t0, c0) :: (t1, c1) :: (t2, c2) :: (t3, c3) :: l) := ⟨⟨_, _, h0, g0, e0⟩, ⟨_, _, h1, g1, e1⟩, ⟨_, _, h2, g2, e2⟩, ⟨_, _, h3, g3, e3⟩, k⟩
theorem Sa8 {π : Nat → Option Nat} {σ : St} {t0 t1 t2 t3 t4 t5 t6 t7 : Nat} {s0 u0 s1 u1 s2 u2 s3 u3 s4 u4 s5 u5 s6 u6 s7 u7 : Slot} {l : List (Nat × Slot)} (k : SlotsOk π σ l) (h0 : renS π s0 = some u0 := by exact rfl) (g0 : σ.slots t0 = some u0 := by exact rfl) (h1 : renS π s1 = some u1 := by exact rfl) (g1 : σ.slots t1 = some u1 := by exact rfl) (h2 : renS π s2 = some u2 := by exact rfl) (g2 : σ.slots t2 = some u2 := by exact rfl) (h3 : renS π s3 = some u3 := by exact rfl) (g3 : σ.slots t3 = some u3 := by exact rfl) (h4 : renS π s4 = some u4 := by exact rfl) (g4 : σ.slots t4 = some u4 := by exact rfl) (h5 : renS π s5 = some u5 := by exact rfl) (g5 : σ.slots t5 = some u5 := by exact rfl) (h6 : renS π s6 = some u6 := by exact rfl) (g6 : σ.slots t6 = some u6 := by exact rfl) (h7 : renS π s7 = some u7 := by exact rfl) (g7 : σ.slots t7 = some u7 := by exact rfl) : SlotsOk π σ ((t0, s0) :: (t1, s1) :: (t2, s2) :: (t3, s3) :: (t4, s4) :: (t5, s5) :: (t6, s6) :: (t7, s7) :: l) := ⟨⟨_, h0, g0⟩, ⟨_, h1, g1⟩, ⟨_, h2, g2⟩, ⟨_, h3, g3⟩, ⟨_, h4, g4⟩, ⟨_, h5, g5⟩, ⟨_, h6, g6⟩, ⟨_, h7, g7⟩, k⟩
theorem Ra8 {π : Nat → Option Nat} {σ : St} {t0 q0 t1 q1 t2 q2 t3 q3 t4 q4 t5 q5 t6 q6 t7 q7 : Nat} {s0 s1 s2 s3 s4 s5 s6 s7 : Row} {l : List (Nat × Row)} (k : RowsOk π σ l) (h0 : π t0 = some q0 := by exact rfl) (g0 : σ.H.rows q0 = some s0 := by exact rfl) (h1 : π t1 = some q1 := by exact rfl) (g1 : σ.H.rows q1 = some s1 := by exact rfl) (h2 : π t2 = some q2 := by exact rfl) (g2 : σ.H.rows q2 = some s2 := by exact rfl) (h3 : π t3 = some q3 := by exact rfl) (g3 : σ.H.rows q3 = some s3 := by exact rfl) (h4 : π t4 = some q4 := by exact rfl) (g4 : σ.H.rows q4 = some s4 := by exact rfl) (h5 : π t5 = some q5 := by exact rfl) (g5 : σ.H.rows q5 = some s5 := by exact rfl) (h6 : π t6 = some q6 := by exact rfl) (g6 : σ.H.rows q6 = some s6 := by exact rfl) (h7 : π t7 = some q7 := by exact rfl) (g7 : σ.H.rows q7 = some s7 := by exact rfl) : RowsOk π σ ((t0, s0) :: (t1, s1) :: (t2, s2) :: (t3, s3) :: (t4, s4) :: (t5, s5) :: (t6, s6) :: (t7, s7) :: l) := ⟨⟨_, h0, g0⟩, ⟨_, h1, g1⟩, ⟨_, h2, g2⟩, ⟨_, h3, g3⟩, ⟨_, h4, g4⟩, ⟨_, h5, g5⟩, ⟨_, h6, g6⟩, ⟨_, h7, g7⟩, k⟩
theorem Ba8 {π : Nat → Option Nat} {σ : St} {t0 q0 t1 q1 t2 q2 t3 q3 t4 q4 t5 q5 t6 q6 t7 q7 : Nat} {c0 d0 c1 d1 c2 d2 c3 d3 c4 d4 c5 d5 c6 d6 c7 d7 : List Cell} {l : List (Nat × List Cell)} (k : BoxesOk π σ l) (h0 : π t0 = some q0 := by exact rfl) (g0 : renCs π c0 = some d0 := by exact rfl) (e0 : σ.H.boxes q0 = some d0 := by exact rfl) (h1 : π t1 = some q1 := by exact rfl) (g1 : renCs π c1 = some d1 := by exact rfl) (e1 : σ.H.boxes q1 = some d1 := by exact rfl) (h2 : π t2 = some q2 := by exact rfl) (g2 : renCs π c2 = some d2 := by exact rfl) (e2 : σ.H.boxes q2 = some d2 := by exact rfl) (h3 : π t3 = some q3 := by exact rfl) (g3 : renCs π c3 = some d3 := by exact rfl) (e3 : σ.H.boxes q3 = some d3 := by exact rfl) (h4 : π t4 = some q4 := by exact rfl) (g4 : renCs π c4 = some d4 := by exact rfl) (e4 : σ.H.boxes q4 = some d4 := by exact rfl) (h5 : π t5 = some q5 := by exact rfl) (g5 : renCs π c5 = some d5 := by exact rfl) (e5 : σ.H.boxes q5 = some d5 := by exact rfl) (h6 : π t6 = some q6 := by exact rfl) (g6 : renCs π c6 = some d6 := by exact rfl) (e6 : σ.H.boxes q6 = some d6 := by exact rfl) (h7 : π t7 = some q7 := by exact rfl) (g7 : renCs π c7 = some d7 := by exact rfl) (e7 : σ.H.boxes q7 = some d7 := by exact rfl) : BoxesOk π σ ((t0, c0) :: (t1, c1) :: (t2, c2) :: (t3, c3) :: (t4, c4) :: (t5, c5) :: (t6, c6) :: (t7, c7) :: l) := ⟨⟨_, _, h0, g0, e0⟩, ⟨_, _, h1, g1, e1⟩, ⟨_, _, h2, g2, e2⟩, ⟨_, _, h3, g3, e3⟩, ⟨_, _, h4, g4, e4⟩, ⟨_, _, h5, g5, e5⟩, ⟨_, _, h6, g6, e6⟩, ⟨_, _, h7, g7, e7⟩, k⟩
theorem Atk {P : Program} {F : Fix} {ops : Array Oper} {Q : St → Prop} {fuel : Nat} {listed : Array Bool} {sl : Nat → Option Slot} {H : Heap} {σ1 : St} {o : Oper} (i : Nat) (ho : ops[i]? = some o) (hc : CalmAt P F sl H o) (hL : ∀ Q0 : St → Prop, Q0 σ1 → WpL P F ops Q0 [o] ⟨sl, H⟩) (k : WpA P F ops Q fuel (listed.setIfInBounds i true) σ1) (hs : Region.noSelect ops = true := by kernel_rfl) (hf : Region.free .any ops listed i = true := by kernel_rfl) (hr : (Region.ready .any ops listed).contains i = true := by kernel_rfl) (hv : kindV o.op = true := by exact rfl) : WpA P F ops Q (fuel + 1) listed ⟨sl, H⟩ := A.take i ho hs hf hr hv hc hL k
theorem Aof {P : Program} {F : Fix} {ops : Array Oper} {Q : St → Prop} {fuel : Nat} {listed : Array Bool} {sl : Nat → Option Slot} {H : Heap} {o : Oper} {N : Nat} (i : Nat) (ho : ops[i]? = some o) (hn : F.n = N) (k : WpA P F ops Q fuel (listed.setIfInBounds i true) ⟨setD sl o.dst (some (.tup [])), H⟩) (hs : Region.noSelect ops = true := by kernel_rfl) (hf : Region.free .any ops listed i = true := by kernel_rfl) (hr : (Region.ready .any ops listed).contains i = true := by kernel_rfl) (hv : kindV o.op = true := by exact rfl) (hg : guardOf ops sl o = some false := by exact rfl) (hd : dstB N o.dst = true := by exact rfl) : WpA P F ops Q (fuel + 1) listed ⟨sl, H⟩ := A.off i ho hs hf hr hv hn hg hd k
/-! ### Flaws_big -/
def Flaws_big (k : Nat) (a0 : List UInt8) : Option Bool := some (decide ((a0.length : Int) > (1048576 : Int)))
theorem ent21 : MG.Enters Try.prog 21 := ⟨Try.f21, Try.func21, rfl, by decide⟩
set_option maxHeartbeats 8000000 in
set_option maxRecDepth 100000 in
theorem Flaws_big_gives (k : Nat) (g0 : Bool) (a0 : List UInt8) (r : Bool) (H : Flaws_big k a0 = some r) : Gives Try.prog 21 [V.one (Cell.sl g0 (List.map eB a0))] [] [V.one (cL r)] [] := by
 refine Gives.intro Try.func21 rfl rfl rfl rfl ?_
 intro F hF hm
 unfold Flaws_big at H
 obtain ⟨K, hK⟩ : ∃ K, k ≤ K := ⟨k, Nat.le_refl k⟩
 refine WpC.seq (WpC.regionL ?_)
 refine L.assign hF rfl rfl rfl (L.nil ?_)
 refine WpC.seq (WpC.regionL ?_)
 refine L.move hF rfl rfl rfl ?_
 refine L.lenR (xs := a0) (e := eB) Try.underlying33 hF rfl rfl rfl rfl ?_
 refine L.bin hF rfl rfl rfl rfl rfl rfl ?_
 refine L.assign hF rfl rfl rfl (L.nil ?_)
 refine WpC.ret ?_
 cases H
 exact Leaves.ret rfl rfl rfl ⟨rfl, rfl⟩
/-! ### Fspec_l1New -/
def Fspec_l1New.j2 (k : Nat) (v15 : List UInt8) (v16 : Int) : Option Tspec_l1Cur := some (⟨v15, (0 : Int), v16⟩ : Tspec_l1Cur)
def Fspec_l1New.l3 : Nat → (List UInt8) → Int → Int → Option Tspec_l1Cur
 | 0, _, _, _ => none
 | k3 + 1, v26, v27, v28 => cond (decide (v28 < (v26.length : Int))) (cond (decide (v28 < (4000 : Int))) ((at? v26 v28).bind fun b30 => (Fspec_l1New.l3 k3) v26 (Go.bits .and .i64 (IntKind.i64.wrap ((IntKind.i64.wrap ((IntKind.i64.wrap (v27 * (131 : Int))) + (b30.toNat : Int))) + (7 : Int))) (1073741823 : Int)) (IntKind.i64.wrap (v28 + (1 : Int)))) (Fspec_l1New.j2 k3 v26 v27)) (Fspec_l1New.j2 k3 v26 v27)
def Fspec_l1New (k : Nat) (a0 : List UInt8) : Option Tspec_l1Cur := Fspec_l1New.l3 k a0 (IntKind.i64.wrap ((10101 : Int) + (a0.length : Int))) (0 : Int)
theorem ent61 : MG.Enters Try.prog 61 := ⟨Try.f61, Try.func61, rfl, by decide⟩
set_option maxHeartbeats 8000000 in
set_option maxRecDepth 100000 in
theorem Fspec_l1New_gives (k : Nat) (a0 : List UInt8) (r : Tspec_l1Cur) (H : Fspec_l1New k a0 = some r) : Gives Try.prog 61 [V.one (Cell.sl true (List.map eB a0))] [] [V.one (Cell.bx [Cell.sl true (List.map eB r.b), cI r.i, cI r.h])] [] := by
 refine Gives.intro Try.func61 rfl rfl rfl rfl ?_
 intro F hF hm
 unfold Fspec_l1New at H
 obtain ⟨K, hK⟩ : ∃ K, k ≤ K := ⟨k, Nat.le_refl k⟩
 refine WpC.seq (WpC.regionL ?_)
 refine L.assign hF rfl rfl rfl (L.nil ?_)
 refine WpC.seq (WpC.regionL ?_)
 refine L.move hF rfl rfl rfl ?_
 refine L.lenR (xs := a0) (e := eB) Try.underlying33 hF rfl rfl rfl rfl ?_
 refine L.bin hF rfl rfl rfl rfl rfl rfl ?_
 refine L.assign hF rfl rfl rfl (L.nil ?_)
 refine WpC.join (fun σ => ∃ kj2 : Nat, ∃ v15 : List UInt8, ∃ v16 : Int, kj2 ≤ K ∧ Fspec_l1New.j2 kj2 v15 v16 = some r ∧ σ = mkSt [(0, one (Cell.sl true (List.map eB v15))), (3, one (cI v16))] [] [] 0) ?_ ?_
 ·rintro _ ⟨kj2, v15, v16, hkj2, H, rfl⟩
  unfold Fspec_l1New.j2 at H
  refine WpC.seq (WpC.regionL ?_)
  refine L.move hF rfl rfl rfl ?_
  refine L.move hF rfl rfl rfl ?_
  refine L.buildF built154 hF rfl rfl rfl rfl ?_
  refine L.box 0 hF rfl rfl rfl rfl ?_
  refine L.assign hF rfl rfl rfl (L.nil ?_)
  refine WpC.ret ?_
  cases H
  exact Leaves.ret rfl rfl rfl ⟨rfl, rfl⟩
 ·refine WpC.seq (WpC.regionL ?_)
  refine L.assign hF rfl rfl rfl (L.nil ?_)
  refine WpC.block ?_
  refine WpC.loopL (P := Try.prog) (fun n σ => ∃ v26 : List UInt8, ∃ v27 : Int, ∃ v28 : Int, n ≤ K ∧ Fspec_l1New.l3 n v26 v27 v28 = some r ∧ σ = mkSt [(0, one (Cell.sl true (List.map eB v26))), (3, one (cI v27)), (4, one (cI v28))] [] [] 0) k ⟨_, ⟨a0, (IntKind.i64.wrap ((10101 : Int) + (a0.length : Int))), (0 : Int), by omega, H, rfl⟩, Le.mk [] hm rfl (Sa2 (Sa1 trivial)) trivial trivial⟩ ?_
  clear H
  rintro k3 _ ⟨v26, v27, v28, hk3, H, rfl⟩
  cases k3 with
  | zero => cases H
  | succ k3 =>
   rw [Fspec_l1New.l3] at H
   refine WpC.seq (WpC.seq (WpC.regionL ?_))
   refine L.move hF rfl rfl rfl ?_
   refine L.move hF rfl rfl rfl ?_
   refine L.lenR (xs := v26) (e := eB) Try.underlying33 hF rfl rfl rfl rfl ?_
   refine L.bin hF rfl rfl rfl rfl rfl rfl ?_
   refine L.move hF rfl rfl rfl ?_
   refine L.split (fun hc => ?_) (fun hc => ?_)
   ·replace H := condT hc H
    refine L.move hF rfl rfl rfl ?_
    refine L.bin hF rfl rfl rfl rfl rfl rfl ?_
    refine L.pick hF rfl rfl rfl rfl (L.nil ?_)
    refine WpC.cond rfl (fun hc => ?_) (fun hc => ?_)
    ·replace H := condT hc H
     refine WpC.skip (WpC.seq (WpC.block (WpC.regionL ?_)))
     refine L.move hF rfl rfl rfl ?_
     refine L.bin hF rfl rfl rfl rfl rfl rfl ?_
     refine L.move hF rfl rfl rfl ?_
     refine L.move hF rfl rfl rfl ?_
     obtain ⟨b30, hb30, H⟩ := bindS H
     refine L.idxR (xs := v26) (e := eB) Try.underlying33 info5 hF rfl rfl rfl rfl rfl hb30 rfl rfl ?_
     refine L.loadPe shape5 hF rfl rfl rfl rfl rfl ?_
     refine L.ofB Try.underlying5 Try.underlying3 hF rfl rfl rfl ?_
     refine L.bin hF rfl rfl rfl rfl rfl rfl ?_
     refine L.bin hF rfl rfl rfl rfl rfl rfl ?_
     refine L.bin hF rfl rfl rfl rfl rfl rfl ?_
     refine L.assign hF rfl rfl rfl (L.nil ?_)
     refine WpC.regionL ?_
     refine L.move hF rfl rfl rfl ?_
     refine L.bin hF rfl rfl rfl rfl rfl rfl ?_
     refine L.assign hF rfl rfl rfl (L.nil ?_)
     exact ⟨k3, _, by omega, ⟨v26, (Go.bits .and .i64 (IntKind.i64.wrap ((IntKind.i64.wrap ((IntKind.i64.wrap (v27 * (131 : Int))) + (b30.toNat : Int))) + (7 : Int))) (1073741823 : Int)), (IntKind.i64.wrap (v28 + (1 : Int))), by omega, H, rfl⟩, Le.mk [] hm rfl (Sa2 (Sa1 trivial)) trivial trivial⟩
    ·replace H := condF hc H
     refine WpC.exit ?_
     exact ⟨_, ⟨k3, v26, v27, by omega, H, rfl⟩, Le.mk [] hm rfl (Sa2 trivial) trivial trivial⟩
   ·replace H := condF hc H
    refine L.off hF rfl rfl ?_
    refine L.off hF rfl rfl ?_
    refine L.pick hF rfl rfl rfl rfl (L.nil ?_)
    refine WpC.cond rfl (fun hc => by cases hc) (fun _ => ?_)
    refine WpC.exit ?_
    exact ⟨_, ⟨k3, v26, v27, by omega, H, rfl⟩, Le.mk [] hm rfl (Sa2 trivial) trivial trivial⟩
/-! ### Fspec_l1Byte -/
def Fspec_l1Byte (k : Nat) (o0 : Tspec_l1Cur) : Option (Int × Tspec_l1Cur) := cond (decide (o0.i < (o0.b.length : Int))) ((at? o0.b o0.i).bind fun b2 => some ((Go.bits .and .i64 (IntKind.i64.wrap ((Go.bits .and .i64 (Go.bits .xor .i64 (shrI .i64 (IntKind.i64.wrap ((IntKind.i64.wrap (o0.h * (6364136223846793005 : Int))) + (1442695040888963407 : Int))) (33 : Int)) (shrI .i64 (IntKind.i64.wrap ((IntKind.i64.wrap (o0.h * (6364136223846793005 : Int))) + (1442695040888963407 : Int))) (45 : Int))) (255 : Int)) + (b2.toNat : Int))) (255 : Int)), (⟨o0.b, (IntKind.i64.wrap (o0.i + (1 : Int))), (IntKind.i64.wrap ((IntKind.i64.wrap (o0.h * (6364136223846793005 : Int))) + (1442695040888963407 : Int)))⟩ : Tspec_l1Cur))) (some ((Go.bits .and .i64 (Go.bits .xor .i64 (shrI .i64 (IntKind.i64.wrap ((IntKind.i64.wrap (o0.h * (6364136223846793005 : Int))) + (1442695040888963407 : Int))) (33 : Int)) (shrI .i64 (IntKind.i64.wrap ((IntKind.i64.wrap (o0.h * (6364136223846793005 : Int))) + (1442695040888963407 : Int))) (45 : Int))) (255 : Int)), (⟨o0.b, o0.i, (IntKind.i64.wrap ((IntKind.i64.wrap (o0.h * (6364136223846793005 : Int))) + (1442695040888963407 : Int)))⟩ : Tspec_l1Cur)))
theorem ent128 : MG.Enters Try.prog 128 := ⟨Try.f128, Try.func128, rfl, by decide⟩
set_option maxHeartbeats 8000000 in
set_option maxRecDepth 100000 in
theorem Fspec_l1Byte_gives (k : Nat) (o0 : Tspec_l1Cur) (r : Int × Tspec_l1Cur) (H : Fspec_l1Byte k o0 = some r) : Gives Try.prog 128 [V.one (Cell.ptr 0 0)] [[Cell.sl true (List.map eB o0.b), cI o0.i, cI o0.h]] [V.one (cI r.1)] [[Cell.sl true (List.map eB r.2.b), cI r.2.i, cI r.2.h]] := by
 refine Gives.intro Try.func128 rfl rfl rfl rfl ?_
 intro F hF hm
 unfold Fspec_l1Byte at H
 obtain ⟨K, hK⟩ : ∃ K, k ≤ K := ⟨k, Nat.le_refl k⟩
 refine WpC.seq (WpC.regionL ?_)
 refine L.assign hF rfl rfl rfl (L.nil ?_)
 refine WpC.seq (WpC.regionL ?_)
 refine L.move hF rfl rfl rfl ?_
 refine L.move hF rfl rfl rfl ?_
 refine L.nilCheck hF rfl rfl rfl rfl ?_
 refine L.fieldAddr Try.underlying154 rfl info3 rfl hF rfl rfl rfl rfl rfl ?_
 refine L.loadPtr shape3 hF rfl rfl rfl rfl rfl rfl ?_
 refine L.bin hF rfl rfl rfl rfl rfl rfl ?_
 refine L.bin hF rfl rfl rfl rfl rfl rfl ?_
 refine L.nilCheck hF rfl rfl rfl rfl ?_
 refine L.fieldAddr Try.underlying154 rfl info3 rfl hF rfl rfl rfl rfl rfl ?_
 refine L.storePtr shape3 hF rfl rfl rfl rfl rfl rfl rfl (L.nil ?_)
 refine WpC.seq ?_
 refine S.begin mixed (by kernel_rfl) ?_
 refine S.st 0 rfl rfl ((Ca.move).quiet) (fun Q0 k0 => L.move hF rfl rfl rfl (L.nil k0)) ?_
 refine S.st 1 rfl rfl ((Ca.nilCheck rfl rfl).quiet) (fun Q0 k0 => L.nilCheck hF rfl rfl rfl rfl (L.nil k0)) ?_
 refine S.st 2 rfl rfl ((Ca.fieldAddr Try.underlying154 rfl info3 rfl).quiet) (fun Q0 k0 => L.fieldAddr Try.underlying154 rfl info3 rfl hF rfl rfl rfl rfl rfl (L.nil k0)) ?_
 refine S.st 3 rfl rfl (Qu.load) (fun Q0 k0 => L.loadPtr shape3 hF rfl rfl rfl rfl rfl rfl (L.nil k0)) ?_
 refine S.st 4 rfl rfl ((Ca.bin rfl rfl (calm_int _ _ _ _ _ _ _ _)).quiet) (fun Q0 k0 => L.shr hF rfl rfl rfl rfl (by decide) (L.nil k0)) ?_
 refine S.st 5 rfl rfl ((Ca.move).quiet) (fun Q0 k0 => L.move hF rfl rfl rfl (L.nil k0)) ?_
 refine S.st 6 rfl rfl ((Ca.nilCheck rfl rfl).quiet) (fun Q0 k0 => L.nilCheck hF rfl rfl rfl rfl (L.nil k0)) ?_
 refine S.st 7 rfl rfl ((Ca.fieldAddr Try.underlying154 rfl info3 rfl).quiet) (fun Q0 k0 => L.fieldAddr Try.underlying154 rfl info3 rfl hF rfl rfl rfl rfl rfl (L.nil k0)) ?_
 refine S.st 8 rfl rfl (Qu.load) (fun Q0 k0 => L.loadPtr shape3 hF rfl rfl rfl rfl rfl rfl (L.nil k0)) ?_
 refine S.st 9 rfl rfl ((Ca.bin rfl rfl (calm_int _ _ _ _ _ _ _ _)).quiet) (fun Q0 k0 => L.shr hF rfl rfl rfl rfl (by decide) (L.nil k0)) ?_
 refine S.st 10 rfl rfl ((Ca.bin rfl rfl (calm_int _ _ _ _ _ _ _ _)).quiet) (fun Q0 k0 => L.bin hF rfl rfl rfl rfl rfl rfl (L.nil k0)) ?_
 refine S.st 11 rfl rfl ((Ca.bin rfl rfl (calm_int _ _ _ _ _ _ _ _)).quiet) (fun Q0 k0 => L.bin hF rfl rfl rfl rfl rfl rfl (L.nil k0)) ?_
 refine S.st 12 rfl rfl ((Ca.assign).quiet) (fun Q0 k0 => L.assign hF rfl rfl rfl (L.nil k0)) ?_
 refine S.nil ?_
 refine WpC.seq (WpC.seq ?_)
 refine S.begin mixed (by kernel_rfl) ?_
 refine S.st 0 rfl rfl ((Ca.move).quiet) (fun Q0 k0 => L.move hF rfl rfl rfl (L.nil k0)) ?_
 refine S.st 1 rfl rfl ((Ca.nilCheck rfl rfl).quiet) (fun Q0 k0 => L.nilCheck hF rfl rfl rfl rfl (L.nil k0)) ?_
 refine S.st 2 rfl rfl ((Ca.fieldAddr Try.underlying154 rfl info3 rfl).quiet) (fun Q0 k0 => L.fieldAddr Try.underlying154 rfl info3 rfl hF rfl rfl rfl rfl rfl (L.nil k0)) ?_
 refine S.st 3 rfl rfl (Qu.load) (fun Q0 k0 => L.loadPtr shape3 hF rfl rfl rfl rfl rfl rfl (L.nil k0)) ?_
 refine S.st 4 rfl rfl ((Ca.move).quiet) (fun Q0 k0 => L.move hF rfl rfl rfl (L.nil k0)) ?_
 refine S.st 5 rfl rfl ((Ca.nilCheck rfl rfl).quiet) (fun Q0 k0 => L.nilCheck hF rfl rfl rfl rfl (L.nil k0)) ?_
 refine S.st 6 rfl rfl ((Ca.fieldAddr Try.underlying154 rfl info33 rfl).quiet) (fun Q0 k0 => L.fieldAddr Try.underlying154 rfl info33 rfl hF rfl rfl rfl rfl rfl (L.nil k0)) ?_
 refine S.st 7 rfl rfl (Qu.load) (fun Q0 k0 => L.loadPtr shape33 hF rfl rfl rfl rfl rfl rfl (L.nil k0)) ?_
 refine S.st 8 rfl rfl ((Ca.lenR (xs := o0.b) (e := eB) Try.underlying33 rfl rfl).quiet) (fun Q0 k0 => L.lenR (xs := o0.b) (e := eB) Try.underlying33 hF rfl rfl rfl rfl (L.nil k0)) ?_
 refine S.st 9 rfl rfl ((Ca.bin rfl rfl (calm_int _ _ _ _ _ _ _ _)).quiet) (fun Q0 k0 => L.bin hF rfl rfl rfl rfl rfl rfl (L.nil k0)) ?_
 refine S.nil ?_
 refine WpC.cond rfl (fun hc => ?_) (fun hc => ?_)
 ·replace H := condT hc H
  refine WpC.seq ?_
  refine S.begin mixed (by kernel_rfl) ?_
  refine S.st 0 rfl rfl ((Ca.move).quiet) (fun Q0 k0 => L.move hF rfl rfl rfl (L.nil k0)) ?_
  refine S.st 1 rfl rfl ((Ca.move).quiet) (fun Q0 k0 => L.move hF rfl rfl rfl (L.nil k0)) ?_
  refine S.st 2 rfl rfl ((Ca.nilCheck rfl rfl).quiet) (fun Q0 k0 => L.nilCheck hF rfl rfl rfl rfl (L.nil k0)) ?_
  refine S.st 3 rfl rfl ((Ca.fieldAddr Try.underlying154 rfl info33 rfl).quiet) (fun Q0 k0 => L.fieldAddr Try.underlying154 rfl info33 rfl hF rfl rfl rfl rfl rfl (L.nil k0)) ?_
  refine S.st 4 rfl rfl (Qu.load) (fun Q0 k0 => L.loadPtr shape33 hF rfl rfl rfl rfl rfl rfl (L.nil k0)) ?_
  refine S.st 5 rfl rfl ((Ca.move).quiet) (fun Q0 k0 => L.move hF rfl rfl rfl (L.nil k0)) ?_
  refine S.st 6 rfl rfl ((Ca.nilCheck rfl rfl).quiet) (fun Q0 k0 => L.nilCheck hF rfl rfl rfl rfl (L.nil k0)) ?_
  refine S.st 7 rfl rfl ((Ca.fieldAddr Try.underlying154 rfl info3 rfl).quiet) (fun Q0 k0 => L.fieldAddr Try.underlying154 rfl info3 rfl hF rfl rfl rfl rfl rfl (L.nil k0)) ?_
  refine S.st 8 rfl rfl (Qu.load) (fun Q0 k0 => L.loadPtr shape3 hF rfl rfl rfl rfl rfl rfl (L.nil k0)) ?_
  obtain ⟨b2, hb2, H⟩ := bindS H
  refine S.st 9 rfl rfl ((Ca.indexAddr).quiet) (fun Q0 k0 => L.idxR (xs := o0.b) (e := eB) Try.underlying33 info5 hF rfl rfl rfl rfl rfl hb2 rfl rfl (L.nil k0)) ?_
  refine S.st 10 rfl rfl (Qu.load) (fun Q0 k0 => L.loadPe shape5 hF rfl rfl rfl rfl rfl (L.nil k0)) ?_
  refine S.st 11 rfl rfl ((Ca.conv Try.underlying5 Try.underlying3 rfl).quiet) (fun Q0 k0 => L.ofB Try.underlying5 Try.underlying3 hF rfl rfl rfl (L.nil k0)) ?_
  refine S.st 12 rfl rfl ((Ca.bin rfl rfl (calm_int _ _ _ _ _ _ _ _)).quiet) (fun Q0 k0 => L.bin hF rfl rfl rfl rfl rfl rfl (L.nil k0)) ?_
  refine S.st 13 rfl rfl ((Ca.bin rfl rfl (calm_int _ _ _ _ _ _ _ _)).quiet) (fun Q0 k0 => L.bin hF rfl rfl rfl rfl rfl rfl (L.nil k0)) ?_
  refine S.st 14 rfl rfl ((Ca.assign).quiet) (fun Q0 k0 => L.assign hF rfl rfl rfl (L.nil k0)) ?_
  refine S.nil ?_
  refine WpC.regionL ?_
  refine L.move hF rfl rfl rfl ?_
  refine L.move hF rfl rfl rfl ?_
  refine L.nilCheck hF rfl rfl rfl rfl ?_
  refine L.fieldAddr Try.underlying154 rfl info3 rfl hF rfl rfl rfl rfl rfl ?_
  refine L.loadPtr shape3 hF rfl rfl rfl rfl rfl rfl ?_
  refine L.bin hF rfl rfl rfl rfl rfl rfl ?_
  refine L.nilCheck hF rfl rfl rfl rfl ?_
  refine L.fieldAddr Try.underlying154 rfl info3 rfl hF rfl rfl rfl rfl rfl ?_
  refine L.storePtr shape3 hF rfl rfl rfl rfl rfl rfl rfl (L.nil ?_)
  refine WpC.seq (WpC.regionL ?_)
  refine L.move hF rfl rfl rfl ?_
  refine L.assign hF rfl rfl rfl (L.nil ?_)
  refine WpC.ret ?_
  cases H
  exact Leaves.ret rfl rfl rfl ⟨rfl, rfl⟩
 ·replace H := condF hc H
  refine WpC.skip (WpC.seq (WpC.regionL ?_))
  refine L.move hF rfl rfl rfl ?_
  refine L.assign hF rfl rfl rfl (L.nil ?_)
  refine WpC.ret ?_
  cases H
  exact Leaves.ret rfl rfl rfl ⟨rfl, rfl⟩
/-! ### Fspec_l1Below -/
def Fspec_l1Below (k : Nat) (a1 : Int) (o0 : Tspec_l1Cur) : Option (Int × Tspec_l1Cur) := cond (decide (a1 ≤ (0 : Int))) (some ((0 : Int), o0)) (cond (decide (a1 ≤ (256 : Int))) ((Fspec_l1Byte k o0).bind fun r3 => cond (!(a1 == 0)) (some ((Int.tmod r3.1 a1), r3.2)) none) ((Fspec_l1Byte k o0).bind fun r5 => (Fspec_l1Byte k r5.2).bind fun r6 => (Fspec_l1Byte k r6.2).bind fun r7 => (Fspec_l1Byte k r7.2).bind fun r8 => cond (!(a1 == 0)) (some ((Int.tmod (IntKind.i64.wrap ((IntKind.i64.wrap ((IntKind.i64.wrap ((IntKind.i64.wrap (r5.1 * (16777216 : Int))) + (IntKind.i64.wrap (r6.1 * (65536 : Int))))) + (IntKind.i64.wrap (r7.1 * (256 : Int))))) + r8.1)) a1), r8.2)) none))
theorem ent70 : MG.Enters Try.prog 70 := ⟨Try.f70, Try.func70, rfl, by decide⟩
set_option maxHeartbeats 8000000 in
set_option maxRecDepth 100000 in
theorem Fspec_l1Below_gives (k : Nat) (a1 : Int) (o0 : Tspec_l1Cur) (r : Int × Tspec_l1Cur) (H : Fspec_l1Below k a1 o0 = some r) : Gives Try.prog 70 [V.one (Cell.ptr 0 0), V.one (cI a1)] [[Cell.sl true (List.map eB o0.b), cI o0.i, cI o0.h]] [V.one (cI r.1)] [[Cell.sl true (List.map eB r.2.b), cI r.2.i, cI r.2.h]] := by
 refine Gives.intro Try.func70 rfl rfl rfl rfl ?_
 intro F hF hm
 unfold Fspec_l1Below at H
 obtain ⟨K, hK⟩ : ∃ K, k ≤ K := ⟨k, Nat.le_refl k⟩
 refine WpC.seq (WpC.regionL ?_)
 refine L.assign hF rfl rfl rfl (L.nil ?_)
 refine WpC.seq (WpC.seq (WpC.regionL ?_))
 refine L.move hF rfl rfl rfl ?_
 refine L.bin hF rfl rfl rfl rfl rfl rfl (L.nil ?_)
 refine WpC.cond rfl (fun hc => ?_) (fun hc => ?_)
 ·replace H := condT hc H
  refine WpC.seq (WpC.regionL ?_)
  refine L.assign hF rfl rfl rfl (L.nil ?_)
  refine WpC.ret ?_
  cases H
  exact Leaves.ret rfl rfl rfl ⟨rfl, rfl⟩
 ·replace H := condF hc H
  refine WpC.skip (WpC.seq (WpC.seq (WpC.regionL ?_)))
  refine L.move hF rfl rfl rfl ?_
  refine L.bin hF rfl rfl rfl rfl rfl rfl (L.nil ?_)
  refine WpC.cond rfl (fun hc => ?_) (fun hc => ?_)
  ·replace H := condT hc H
   refine WpC.seq (WpC.regionL ?_)
   refine L.move hF rfl rfl rfl ?_
   obtain ⟨r3, hr3, H⟩ := bindS H
   refine L.call [false] [] [0] 6 hF rfl rfl rfl ent128 rfl rfl rfl rfl rfl (Fspec_l1Byte_gives k  o0 r3 hr3) rfl ?_
   refine L.move hF rfl rfl rfl ?_
   obtain ⟨h4, H⟩ := condG H
   refine L.rem hF rfl rfl rfl rfl (by simpa using h4) ?_
   refine L.assign hF rfl rfl rfl (L.nil ?_)
   refine WpC.ret ?_
   cases H
   exact Leaves.ret rfl rfl rfl ⟨rfl, rfl⟩
  ·replace H := condF hc H
   refine WpC.skip (WpC.seq (WpC.regionL ?_))
   refine L.move hF rfl rfl rfl ?_
   obtain ⟨r5, hr5, H⟩ := bindS H
   refine L.call [false] [] [0] 6 hF rfl rfl rfl ent128 rfl rfl rfl rfl rfl (Fspec_l1Byte_gives k  o0 r5 hr5) rfl ?_
   refine L.assign hF rfl rfl rfl (L.nil ?_)
   refine WpC.seq (WpC.regionL ?_)
   refine L.move hF rfl rfl rfl ?_
   obtain ⟨r6, hr6, H⟩ := bindS H
   refine L.call [false] [] [0] 10 hF rfl rfl rfl ent128 rfl rfl rfl rfl rfl (Fspec_l1Byte_gives k  r5.2 r6 hr6) rfl ?_
   refine L.assign hF rfl rfl rfl (L.nil ?_)
   refine WpC.seq (WpC.regionL ?_)
   refine L.move hF rfl rfl rfl ?_
   obtain ⟨r7, hr7, H⟩ := bindS H
   refine L.call [false] [] [0] 14 hF rfl rfl rfl ent128 rfl rfl rfl rfl rfl (Fspec_l1Byte_gives k  r6.2 r7 hr7) rfl ?_
   refine L.assign hF rfl rfl rfl (L.nil ?_)
   refine WpC.seq (WpC.regionL ?_)
   refine L.move hF rfl rfl rfl ?_
   obtain ⟨r8, hr8, H⟩ := bindS H
   refine L.call [false] [] [0] 18 hF rfl rfl rfl ent128 rfl rfl rfl rfl rfl (Fspec_l1Byte_gives k  r7.2 r8 hr8) rfl ?_
   refine L.assign hF rfl rfl rfl (L.nil ?_)
   refine WpC.seq (WpC.regionL ?_)
   refine L.move hF rfl rfl rfl ?_
   refine L.bin hF rfl rfl rfl rfl rfl rfl ?_
   refine L.move hF rfl rfl rfl ?_
   refine L.bin hF rfl rfl rfl rfl rfl rfl ?_
   refine L.bin hF rfl rfl rfl rfl rfl rfl ?_
   refine L.move hF rfl rfl rfl ?_
   refine L.bin hF rfl rfl rfl rfl rfl rfl ?_
   refine L.bin hF rfl rfl rfl rfl rfl rfl ?_
   refine L.move hF rfl rfl rfl ?_
   refine L.bin hF rfl rfl rfl rfl rfl rfl ?_
   refine L.move hF rfl rfl rfl ?_
   obtain ⟨h9, H⟩ := condG H
   refine L.rem hF rfl rfl rfl rfl (by simpa using h9) ?_
   refine L.assign hF rfl rfl rfl (L.nil ?_)
   refine WpC.ret ?_
   cases H
   exact Leaves.ret rfl rfl rfl ⟨rfl, rfl⟩
/-! ### Fspec_l1Once -/
def Fspec_l1Once (k : Nat) (a1 : Int) (o0 : Tspec_l1Cur) : Option (Bool × Tspec_l1Cur) := (Fspec_l1Below k a1 o0).bind fun r1 => some ((r1.1 == (0 : Int)), r1.2)
theorem ent65 : MG.Enters Try.prog 65 := ⟨Try.f65, Try.func65, rfl, by decide⟩
set_option maxHeartbeats 8000000 in
set_option maxRecDepth 100000 in
theorem Fspec_l1Once_gives (k : Nat) (a1 : Int) (o0 : Tspec_l1Cur) (r : Bool × Tspec_l1Cur) (H : Fspec_l1Once k a1 o0 = some r) : Gives Try.prog 65 [V.one (Cell.ptr 0 0), V.one (cI a1)] [[Cell.sl true (List.map eB o0.b), cI o0.i, cI o0.h]] [V.one (cL r.1)] [[Cell.sl true (List.map eB r.2.b), cI r.2.i, cI r.2.h]] := by
 refine Gives.intro Try.func65 rfl rfl rfl rfl ?_
 intro F hF hm
 unfold Fspec_l1Once at H
 obtain ⟨K, hK⟩ : ∃ K, k ≤ K := ⟨k, Nat.le_refl k⟩
 refine WpC.seq (WpC.regionL ?_)
 refine L.assign hF rfl rfl rfl (L.nil ?_)
 refine WpC.seq (WpC.regionL ?_)
 refine L.move hF rfl rfl rfl ?_
 refine L.move hF rfl rfl rfl ?_
 obtain ⟨r1, hr1, H⟩ := bindS H
 refine L.call [false, false] [] [0] 6 hF rfl rfl rfl ent70 rfl rfl rfl rfl rfl (Fspec_l1Below_gives k  a1 o0 r1 hr1) rfl ?_
 refine L.bin hF rfl rfl rfl rfl rfl rfl ?_
 refine L.assign hF rfl rfl rfl (L.nil ?_)
 refine WpC.ret ?_
 cases H
 exact Leaves.ret rfl rfl rfl ⟨rfl, rfl⟩
/-! ### Fspec_l1PickInt -/
def Fspec_l1PickInt (k : Nat) (a1 : List Int) (o0 : Tspec_l1Cur) : Option (Int × Tspec_l1Cur) := (Fspec_l1Below k (a1.length : Int) o0).bind fun r1 => (at? a1 r1.1).bind fun b2 => some (b2, r1.2)
theorem ent71 : MG.Enters Try.prog 71 := ⟨Try.f71, Try.func71, rfl, by decide⟩
set_option maxHeartbeats 8000000 in
set_option maxRecDepth 100000 in
theorem Fspec_l1PickInt_gives (k : Nat) (g0 : Bool) (a1 : List Int) (o0 : Tspec_l1Cur) (r : Int × Tspec_l1Cur) (H : Fspec_l1PickInt k a1 o0 = some r) : Gives Try.prog 71 [V.one (Cell.ptr 0 0), V.one (Cell.sl g0 (List.map eI a1))] [[Cell.sl true (List.map eB o0.b), cI o0.i, cI o0.h]] [V.one (cI r.1)] [[Cell.sl true (List.map eB r.2.b), cI r.2.i, cI r.2.h]] := by
 refine Gives.intro Try.func71 rfl rfl rfl rfl ?_
 intro F hF hm
 unfold Fspec_l1PickInt at H
 obtain ⟨K, hK⟩ : ∃ K, k ≤ K := ⟨k, Nat.le_refl k⟩
 refine WpC.seq (WpC.regionL ?_)
 refine L.assign hF rfl rfl rfl (L.nil ?_)
 refine WpC.seq (WpC.regionL ?_)
 refine L.move hF rfl rfl rfl ?_
 refine L.move hF rfl rfl rfl ?_
 refine L.move hF rfl rfl rfl ?_
 refine L.lenR (xs := a1) (e := eI) Try.underlying39 hF rfl rfl rfl rfl ?_
 obtain ⟨r1, hr1, H⟩ := bindS H
 refine L.call [false, false] [] [0] 6 hF rfl rfl rfl ent70 rfl rfl rfl rfl rfl (Fspec_l1Below_gives k  (a1.length : Int) o0 r1 hr1) rfl ?_
 obtain ⟨b2, hb2, H⟩ := bindS H
 refine L.idxR (xs := a1) (e := eI) Try.underlying39 info3 hF rfl rfl rfl rfl rfl hb2 rfl rfl ?_
 refine L.loadPe shape3 hF rfl rfl rfl rfl rfl ?_
 refine L.assign hF rfl rfl rfl (L.nil ?_)
 refine WpC.ret ?_
 cases H
 exact Leaves.ret rfl rfl rfl ⟨rfl, rfl⟩
/-! ### Fspec_l17Some -/
def Fspec_l17Some.j70 (cl56 : (List Timpl_Rule) → Int → (List UInt8) → Int → Int → Option (List Timpl_Rule × Tspec_l1Cur)) (k : Nat) (v964 : List Timpl_Rule) (v965 : Int) (v966 : List UInt8) (v967 : Int) (v968 : Int) (v969 : Int) (v970 : List Int) (v971 : Int) : Option (List Timpl_Rule × Tspec_l1Cur) := cond (decide ((2 * (v964.length + ([(⟨v969, v970, v971⟩ : Timpl_Rule)] : List Timpl_Rule).length) + 192) * 40 ≤ 281474976710656)) (cl56 (v964 ++ ([(⟨v969, v970, v971⟩ : Timpl_Rule)] : List Timpl_Rule)) (IntKind.i64.wrap (v965 - (1 : Int))) v966 v967 v968) none
def Fspec_l17Some.j74 (cl73 : (List Timpl_Rule) → Int → Int → (List UInt8) → Int → Int → Int → (List Int) → Option (List Timpl_Rule × Tspec_l1Cur)) (k : Nat) (v1020 : List Timpl_Rule) (v1021 : Int) (v1022 : Int) (v1023 : List UInt8) (v1024 : Int) (v1025 : Int) (v1026 : Int) (v1027 : List Int) : Option (List Timpl_Rule × Tspec_l1Cur) := cl73 v1020 v1021 (IntKind.i64.wrap (v1022 + (1 : Int))) v1023 v1024 v1025 v1026 v1027
def Fspec_l17Some.l73 (cl56 : (List Timpl_Rule) → Int → (List UInt8) → Int → Int → Option (List Timpl_Rule × Tspec_l1Cur)) : Nat → (List Timpl_Rule) → Int → Int → (List UInt8) → Int → Int → Int → (List Int) → Option (List Timpl_Rule × Tspec_l1Cur)
 | 0, _, _, _, _, _, _, _, _ => none
 | k73 + 1, v1010, v1011, v1012, v1013, v1014, v1015, v1016, v1017 => cond (decide (v1012 < (5 : Int))) ((Fspec_l1Once k73 (3 : Int) (⟨v1013, v1014, v1015⟩ : Tspec_l1Cur)).bind fun r1028 => cond (!r1028.1) (cond (decide ((2 * (v1017.length + ([v1012] : List Int).length) + 192) * 8 ≤ 281474976710656)) (Fspec_l17Some.j74 (Fspec_l17Some.l73 cl56 k73) k73 v1010 v1011 v1012 r1028.2.b r1028.2.i r1028.2.h v1016 (v1017 ++ ([v1012] : List Int))) none) (Fspec_l17Some.j74 (Fspec_l17Some.l73 cl56 k73) k73 v1010 v1011 v1012 r1028.2.b r1028.2.i r1028.2.h v1016 v1017)) (Fspec_l17Some.j70 cl56 k73 v1010 v1011 v1013 v1014 v1015 v1016 v1017 (0 : Int))
def Fspec_l17Some.l78 : Nat → (List Timpl_Rule) → Int → (List UInt8) → Int → Int → Option (List Timpl_Rule × Tspec_l1Cur)
 | 0, _, _, _, _, _ => none
 | k78 + 1, v1084, v1085, v1086, v1087, v1088 => cond (decide ((v1084.length : Int) < v1085)) (cond (decide ((2 * (v1084.length + ([(⟨(4 : Int), [], (0 : Int)⟩ : Timpl_Rule)] : List Timpl_Rule).length) + 192) * 40 ≤ 281474976710656)) ((Fspec_l17Some.l78 k78) (v1084 ++ ([(⟨(4 : Int), [], (0 : Int)⟩ : Timpl_Rule)] : List Timpl_Rule)) v1085 v1086 v1087 v1088) none) (some (v1084, (⟨v1086, v1087, v1088⟩ : Tspec_l1Cur)))
def Fspec_l17Some.j77 (k : Nat) (v1062 : List Timpl_Rule) (v1063 : Bool) (v1064 : List UInt8) (v1065 : Int) (v1066 : Int) : Option (List Timpl_Rule × Tspec_l1Cur) := cond v1063 ((Fspec_l1Below k (v1062.length : Int) (⟨v1064, v1065, v1066⟩ : Tspec_l1Cur)).bind fun r1067 => (Fspec_l1Below k (4 : Int) r1067.2).bind fun r1068 => cond (r1068.1 == (0 : Int)) ((Fspec_l1PickInt k ([(0 : Int), (6 : Int), (3 : Int), (4 : Int)] : List Int) r1068.2).bind fun r1069 => (at? v1062 r1067.1).bind fun b1070 => some ((v1062.set r1067.1.toNat (⟨r1069.1, b1070.Set, b1070.N⟩ : Timpl_Rule)), r1069.2)) (cond (r1068.1 == (1 : Int)) ((Fspec_l1PickInt k ([(-1 : Int), (1 : Int), (100001 : Int)] : List Int) r1068.2).bind fun r1071 => (at? v1062 r1067.1).bind fun b1072 => some ((v1062.set r1067.1.toNat (⟨b1072.Kind, b1072.Set, r1071.1⟩ : Timpl_Rule)), r1071.2)) (cond (r1068.1 == (2 : Int)) ((at? v1062 r1067.1).bind fun b1073 => (Fspec_l1PickInt k ([(2 : Int), (30 : Int), (31 : Int)] : List Int) r1068.2).bind fun r1074 => cond (decide ((2 * (b1073.Set.length + ([r1074.1] : List Int).length) + 192) * 8 ≤ 281474976710656)) ((at? v1062 r1067.1).bind fun b1076 => some ((v1062.set r1067.1.toNat (⟨b1073.Kind, (b1073.Set ++ ([r1074.1] : List Int)), b1073.N⟩ : Timpl_Rule)), r1074.2)) none) ((Fspec_l1Below k (2 : Int) r1068.2).bind fun r1077 => Fspec_l17Some.l78 k v1062 (IntKind.i64.wrap ((20 : Int) + r1077.1)) r1077.2.b r1077.2.i r1077.2.h)))) (some (v1062, (⟨v1064, v1065, v1066⟩ : Tspec_l1Cur)))
def Fspec_l17Some.l56 : Nat → (List Timpl_Rule) → Int → (List UInt8) → Int → Int → Option (List Timpl_Rule × Tspec_l1Cur)
 | 0, _, _, _, _, _ => none
 | k56 + 1, v774, v775, v776, v777, v778 => cond (decide (v775 > (0 : Int))) ((Fspec_l1Below k56 (5 : Int) (⟨v776, v777, v778⟩ : Tspec_l1Cur)).bind fun r905 => cond (decide ((IntKind.i64.wrap ((1 : Int) + r905.1)) ≤ (3 : Int))) (Fspec_l17Some.l73 (Fspec_l17Some.l56 k56) k56 v774 v775 (0 : Int) r905.2.b r905.2.i r905.2.h (IntKind.i64.wrap ((1 : Int) + r905.1)) []) ((Fspec_l1Below k56 (12 : Int) r905.2).bind fun r1030 => Fspec_l17Some.j70 (Fspec_l17Some.l56 k56) k56 v774 v775 r1030.2.b r1030.2.i r1030.2.h (IntKind.i64.wrap ((1 : Int) + r905.1)) [] r1030.1)) (cond (decide ((v774.length : Int) > (0 : Int))) ((Fspec_l1Once k56 (10 : Int) (⟨v776, v777, v778⟩ : Tspec_l1Cur)).bind fun r1090 => Fspec_l17Some.j77 k56 v774 r1090.1 r1090.2.b r1090.2.i r1090.2.h) (Fspec_l17Some.j77 k56 v774 false v776 v777 v778))
def Fspec_l17Some (k : Nat) (a1 : Int) (o0 : Tspec_l1Cur) : Option (List Timpl_Rule × Tspec_l1Cur) := (Fspec_l1Below k a1 o0).bind fun r516 => Fspec_l17Some.l56 k ([] : List Timpl_Rule) r516.1 r516.2.b r516.2.i r516.2.h
theorem ent62 : MG.Enters Try.prog 62 := ⟨Try.f62, Try.func62, rfl, by decide⟩
set_option maxHeartbeats 8000000 in
set_option maxRecDepth 100000 in
theorem Fspec_l17Some_gives (k : Nat) (a1 : Int) (o0 : Tspec_l1Cur) (r : List Timpl_Rule × Tspec_l1Cur) (H : Fspec_l17Some k a1 o0 = some r) : Gives Try.prog 62 [V.one (Cell.ptr 0 0), V.one (cI a1)] [[Cell.sl true (List.map eB o0.b), cI o0.i, cI o0.h]] [V.one (Cell.ow 3 (List.map eTimpl_Rule r.1))] [[Cell.sl true (List.map eB r.2.b), cI r.2.i, cI r.2.h]] := by
 refine Gives.intro Try.func62 rfl rfl rfl rfl ?_
 intro F hF hm
 unfold Fspec_l17Some at H
 obtain ⟨K, hK⟩ : ∃ K, k ≤ K := ⟨k, Nat.le_refl k⟩
 refine WpC.seq (WpC.regionL ?_)
 refine L.assign hF rfl rfl rfl (L.nil ?_)
 refine WpC.seq (WpC.regionL ?_)
 refine L.buildSliceN (e := eTimpl_Rule) 1 6 ([] : List Timpl_Rule) Try.underlying28 info96 rfl rfl rfl hF rfl rfl rfl rfl rfl rfl rfl rfl ?_
 refine L.assign hF rfl rfl rfl (L.nil ?_)
 refine WpC.seq (WpC.seq (WpC.regionL ?_))
 refine L.move hF rfl rfl rfl ?_
 refine L.move hF rfl rfl rfl ?_
 obtain ⟨r516, hr516, H⟩ := bindS H
 refine L.call [false, false] [] [0] 7 hF rfl rfl rfl ent70 rfl rfl rfl rfl rfl (Fspec_l1Below_gives k  a1 o0 r516 hr516) rfl ?_
 refine L.assign hF rfl rfl rfl (L.nil ?_)
 refine WpC.block ?_
 refine WpC.loopL (P := Try.prog) (fun n σ => ∃ v774 : List Timpl_Rule, ∃ v775 : Int, ∃ v776 : List UInt8, ∃ v777 : Int, ∃ v778 : Int, n ≤ K ∧ Fspec_l17Some.l56 n v774 v775 v776 v777 v778 = some r ∧ σ = mkSt [(0, one (Cell.ptr 0 0)), (5, one (Cell.own 1)), (6, one (cI v775))] [(1, ⟨3, List.map eTimpl_Rule v774⟩)] [(0, [Cell.sl true (List.map eB v776), cI v777, cI v778])] 2) k ⟨_, ⟨([] : List Timpl_Rule), r516.1, r516.2.b, r516.2.i, r516.2.h, by omega, H, rfl⟩, Le.mk [(0, 0), (1, 6)] hm rfl (Sa2 (Sa1 trivial)) (Ra1 trivial) (Ba1 trivial)⟩ ?_
 clear H
 rintro k56 _ ⟨v774, v775, v776, v777, v778, hk56, H, rfl⟩
 cases k56 with
 | zero => cases H
 | succ k56 =>
  rw [Fspec_l17Some.l56] at H
  refine WpC.seq (WpC.seq (WpC.regionL ?_))
  refine L.move hF rfl rfl rfl ?_
  refine L.bin hF rfl rfl rfl rfl rfl rfl (L.nil ?_)
  refine WpC.cond rfl (fun hc => ?_) (fun hc => ?_)
  ·replace H := condT hc H
   refine WpC.skip (WpC.seq (WpC.block (WpC.seq (WpC.regionL ?_))))
   refine L.move hF rfl rfl rfl ?_
   obtain ⟨r905, hr905, H⟩ := bindS H
   refine L.call [false, false] [] [0] 2 hF rfl rfl rfl ent70 rfl rfl rfl rfl rfl (Fspec_l1Below_gives k56  (5 : Int) (⟨v776, v777, v778⟩ : Tspec_l1Cur) r905 hr905) rfl ?_
   refine L.bin hF rfl rfl rfl rfl rfl rfl ?_
   refine L.buildF built96 hF rfl rfl rfl rfl ?_
   refine L.alloc 6 info96 rfl hF rfl rfl rfl rfl ?_
   refine L.storePtr shape96 hF rfl rfl rfl rfl rfl rfl rfl (L.nil ?_)
   refine WpC.join (fun σ => ∃ kj70 : Nat, ∃ v964 : List Timpl_Rule, ∃ v965 : Int, ∃ v966 : List UInt8, ∃ v967 : Int, ∃ v968 : Int, ∃ v969 : Int, ∃ v970 : List Int, ∃ v971 : Int, kj70 ≤ K ∧ Fspec_l17Some.j70 (Fspec_l17Some.l56 k56) kj70 v964 v965 v966 v967 v968 v969 v970 v971 = some r ∧ σ = mkSt [(0, one (Cell.ptr 0 0)), (5, one (Cell.own 1)), (6, one (cI v965)), (7, one (Cell.ptr 2 0))] [(1, ⟨3, List.map eTimpl_Rule v964⟩), (3, ⟨1, List.map eI v970⟩)] [(0, [Cell.sl true (List.map eB v966), cI v967, cI v968]), (2, [cI v969, Cell.own 3, cI v971])] 4) ?_ ?_
   ·rintro _ ⟨kj70, v964, v965, v966, v967, v968, v969, v970, v971, hkj70, H, rfl⟩
    unfold Fspec_l17Some.j70 at H
    refine WpC.regionL ?_
    refine L.move hF rfl rfl rfl ?_
    refine L.loadPtr shape96 hF rfl rfl rfl rfl rfl rfl ?_
    refine L.buildSliceN (e := eTimpl_Rule) 1 4 ([(⟨v969, v970, v971⟩ : Timpl_Rule)] : List Timpl_Rule) Try.underlying28 info96 rfl rfl rfl hF rfl rfl rfl rfl rfl rfl rfl rfl ?_
    obtain ⟨h972, H⟩ := condG H
    refine L.appendN (xs := v964) (ys := ([(⟨v969, v970, v971⟩ : Timpl_Rule)] : List Timpl_Rule)) (e := eTimpl_Rule) 5 Try.underlying28 info96 rfl rfl hF rfl rfl rfl rfl rfl rfl rfl rfl rfl (fun _ _ h1 h2 => by cases h1; cases h2; rfl) Try.underlying28 (of_decide_eq_true h972) rfl rfl ?_
    refine L.assign hF rfl rfl rfl (L.nil ?_)
    refine WpC.regionL ?_
    refine L.move hF rfl rfl rfl ?_
    refine L.bin hF rfl rfl rfl rfl rfl rfl ?_
    refine L.assign hF rfl rfl rfl (L.nil ?_)
    exact ⟨k56, _, by omega, ⟨(v964 ++ ([(⟨v969, v970, v971⟩ : Timpl_Rule)] : List Timpl_Rule)), (IntKind.i64.wrap (v965 - (1 : Int))), v966, v967, v968, by omega, H, rfl⟩, Le.mk [(0, 0), (1, 5)] hm rfl (Sa2 (Sa1 trivial)) (Ra1 trivial) (Ba1 trivial)⟩
   ·refine WpC.seq (WpC.regionL ?_)
    refine L.fieldAddr Try.underlying96 rfl info3 rfl hF rfl rfl rfl rfl rfl ?_
    refine L.loadPtr shape3 hF rfl rfl rfl rfl rfl rfl ?_
    refine L.bin hF rfl rfl rfl rfl rfl rfl (L.nil ?_)
    refine WpC.cond rfl (fun hc => ?_) (fun hc => ?_)
    ·replace H := condT hc H
     refine WpC.seq (WpC.regionL ?_)
     refine L.assign hF rfl rfl rfl (L.nil ?_)
     refine WpC.block ?_
     refine WpC.loopL (P := Try.prog) (fun n σ => ∃ v1010 : List Timpl_Rule, ∃ v1011 : Int, ∃ v1012 : Int, ∃ v1013 : List UInt8, ∃ v1014 : Int, ∃ v1015 : Int, ∃ v1016 : Int, ∃ v1017 : List Int, n ≤ K ∧ Fspec_l17Some.l73 (Fspec_l17Some.l56 k56) n v1010 v1011 v1012 v1013 v1014 v1015 v1016 v1017 = some r ∧ σ = mkSt [(0, one (Cell.ptr 0 0)), (5, one (Cell.own 1)), (6, one (cI v1011)), (7, one (Cell.ptr 2 0)), (8, one (cI v1012))] [(1, ⟨3, List.map eTimpl_Rule v1010⟩), (3, ⟨1, List.map eI v1017⟩)] [(0, [Cell.sl true (List.map eB v1013), cI v1014, cI v1015]), (2, [cI v1016, Cell.own 3, cI (0 : Int)])] 4) k56 ⟨_, ⟨v774, v775, (0 : Int), r905.2.b, r905.2.i, r905.2.h, (IntKind.i64.wrap ((1 : Int) + r905.1)), [], by omega, H, rfl⟩, (Le.ownB 6 1 7 1 rfl rfl rfl).trans (Le.mk [(0, 0), (1, 1), (2, 6), (3, 7)] hm rfl (Sa4 (Sa1 trivial)) (Ra2 trivial) (Ba2 trivial))⟩ ?_
     clear H
     rintro k73 _ ⟨v1010, v1011, v1012, v1013, v1014, v1015, v1016, v1017, hk73, H, rfl⟩
     cases k73 with
     | zero => cases H
     | succ k73 =>
      rw [Fspec_l17Some.l73] at H
      refine WpC.seq (WpC.seq (WpC.regionL ?_))
      refine L.move hF rfl rfl rfl ?_
      refine L.bin hF rfl rfl rfl rfl rfl rfl (L.nil ?_)
      refine WpC.cond rfl (fun hc => ?_) (fun hc => ?_)
      ·replace H := condT hc H
       refine WpC.skip ?_
       refine WpC.join (fun σ => ∃ kj74 : Nat, ∃ v1020 : List Timpl_Rule, ∃ v1021 : Int, ∃ v1022 : Int, ∃ v1023 : List UInt8, ∃ v1024 : Int, ∃ v1025 : Int, ∃ v1026 : Int, ∃ v1027 : List Int, kj74 ≤ K ∧ Fspec_l17Some.j74 (Fspec_l17Some.l73 (Fspec_l17Some.l56 k56) k73) kj74 v1020 v1021 v1022 v1023 v1024 v1025 v1026 v1027 = some r ∧ σ = mkSt [(0, one (Cell.ptr 0 0)), (5, one (Cell.own 1)), (6, one (cI v1021)), (7, one (Cell.ptr 2 0)), (8, one (cI v1022))] [(1, ⟨3, List.map eTimpl_Rule v1020⟩), (3, ⟨1, List.map eI v1027⟩)] [(0, [Cell.sl true (List.map eB v1023), cI v1024, cI v1025]), (2, [cI v1026, Cell.own 3, cI (0 : Int)])] 4) ?_ ?_
       ·rintro _ ⟨kj74, v1020, v1021, v1022, v1023, v1024, v1025, v1026, v1027, hkj74, H, rfl⟩
        unfold Fspec_l17Some.j74 at H
        refine WpC.regionL ?_
        refine L.move hF rfl rfl rfl ?_
        refine L.bin hF rfl rfl rfl rfl rfl rfl ?_
        refine L.assign hF rfl rfl rfl (L.nil ?_)
        exact ⟨k73, _, by omega, ⟨v1020, v1021, (IntKind.i64.wrap (v1022 + (1 : Int))), v1023, v1024, v1025, v1026, v1027, by omega, H, rfl⟩, Le.mk [(0, 0), (1, 1), (2, 2), (3, 3)] hm rfl (Sa4 (Sa1 trivial)) (Ra2 trivial) (Ba2 trivial)⟩
       ·refine WpC.block (WpC.seq (WpC.regionL ?_))
        refine L.move hF rfl rfl rfl ?_
        obtain ⟨r1028, hr1028, H⟩ := bindS H
        refine L.call [false, false] [] [0] 4 hF rfl rfl rfl ent65 rfl rfl rfl rfl rfl (Fspec_l1Once_gives k73  (3 : Int) (⟨v1013, v1014, v1015⟩ : Tspec_l1Cur) r1028 hr1028) rfl ?_
        refine L.not hF rfl rfl rfl (L.nil ?_)
        refine WpC.cond rfl (fun hc => ?_) (fun hc => ?_)
        ·replace H := condT hc H
         refine WpC.regionL ?_
         refine L.fieldAddr Try.underlying96 rfl info39 rfl hF rfl rfl rfl rfl rfl ?_
         refine L.loadPtr shape39 hF rfl rfl rfl rfl rfl rfl ?_
         refine L.move hF rfl rfl rfl ?_
         refine L.buildSlice (e := eI) 8 ([v1012] : List Int) Try.underlying39 info3 rfl rfl rfl hF rfl rfl rfl rfl rfl rfl rfl rfl ?_
         obtain ⟨h1029, H⟩ := condG H
         refine L.append (xs := v1017) (ys := ([v1012] : List Int)) (e := eI) 9 Try.underlying39 info3 rfl rfl hF rfl rfl rfl rfl rfl rfl rfl rfl (fun _ => rfl) (fun _ _ h1 h2 => by cases h1; cases h2; rfl) ⟨_, Try.underlying39⟩ (of_decide_eq_true h1029) rfl rfl ?_
         refine L.fieldAddr Try.underlying96 rfl info39 rfl hF rfl rfl rfl rfl rfl ?_
         refine L.storePtr shape39 hF rfl rfl rfl rfl rfl rfl rfl (L.nil ?_)
         exact ⟨_, ⟨k73, v1010, v1011, v1012, r1028.2.b, r1028.2.i, r1028.2.h, v1016, (v1017 ++ ([v1012] : List Int)), by omega, H, rfl⟩, Le.mk [(0, 0), (1, 1), (2, 2), (3, 9)] hm rfl (Sa4 (Sa1 trivial)) (Ra2 trivial) (Ba2 trivial)⟩
        ·replace H := condF hc H
         refine WpC.skip ?_
         exact ⟨_, ⟨k73, v1010, v1011, v1012, r1028.2.b, r1028.2.i, r1028.2.h, v1016, v1017, by omega, H, rfl⟩, Le.mk [(0, 0), (1, 1), (2, 2), (3, 3)] hm rfl (Sa4 (Sa1 trivial)) (Ra2 trivial) (Ba2 trivial)⟩
      ·replace H := condF hc H
       refine WpC.exit ?_
       exact ⟨_, ⟨k73, v1010, v1011, v1013, v1014, v1015, v1016, v1017, (0 : Int), by omega, H, rfl⟩, Le.mk [(0, 0), (1, 1), (2, 2), (3, 3)] hm rfl (Sa4 trivial) (Ra2 trivial) (Ba2 trivial)⟩
    ·replace H := condF hc H
     refine WpC.regionL ?_
     refine L.move hF rfl rfl rfl ?_
     obtain ⟨r1030, hr1030, H⟩ := bindS H
     refine L.call [false, false] [] [0] 7 hF rfl rfl rfl ent70 rfl rfl rfl rfl rfl (Fspec_l1Below_gives k56  (12 : Int) r905.2 r1030 hr1030) rfl ?_
     refine L.fieldAddr Try.underlying96 rfl info3 rfl hF rfl rfl rfl rfl rfl ?_
     refine L.storePtr shape3 hF rfl rfl rfl rfl rfl rfl rfl (L.nil ?_)
     exact ⟨_, ⟨k56, v774, v775, r1030.2.b, r1030.2.i, r1030.2.h, (IntKind.i64.wrap ((1 : Int) + r905.1)), [], r1030.1, by omega, H, rfl⟩, (Le.ownB 6 1 11 1 rfl rfl rfl).trans (Le.mk [(0, 0), (1, 1), (2, 6), (3, 11)] hm rfl (Sa4 trivial) (Ra2 trivial) (Ba2 trivial))⟩
  ·replace H := condF hc H
   refine WpC.exit (WpC.seq ?_)
   refine WpC.join (fun σ => ∃ kj77 : Nat, ∃ v1062 : List Timpl_Rule, ∃ v1063 : Bool, ∃ v1064 : List UInt8, ∃ v1065 : Int, ∃ v1066 : Int, kj77 ≤ K ∧ Fspec_l17Some.j77 kj77 v1062 v1063 v1064 v1065 v1066 = some r ∧ σ = mkSt [(0, one (Cell.ptr 0 0)), (5, one (Cell.own 1)), (52, one (cL v1063))] [(1, ⟨3, List.map eTimpl_Rule v1062⟩)] [(0, [Cell.sl true (List.map eB v1064), cI v1065, cI v1066])] 2) ?_ ?_
   ·rintro _ ⟨kj77, v1062, v1063, v1064, v1065, v1066, hkj77, H, rfl⟩
    unfold Fspec_l17Some.j77 at H
    refine WpC.cond rfl (fun hc => ?_) (fun hc => ?_)
    ·replace H := condT hc H
     refine WpC.seq (WpC.regionL ?_)
     refine L.move hF rfl rfl rfl ?_
     refine L.move hF rfl rfl rfl ?_
     refine L.lenR (xs := v1062) (e := eTimpl_Rule) Try.underlying28 hF rfl rfl rfl rfl ?_
     obtain ⟨r1067, hr1067, H⟩ := bindS H
     refine L.call [false, false] [] [0] 2 hF rfl rfl rfl ent70 rfl rfl rfl rfl rfl (Fspec_l1Below_gives kj77  (v1062.length : Int) (⟨v1064, v1065, v1066⟩ : Tspec_l1Cur) r1067 hr1067) rfl ?_
     refine L.assign hF rfl rfl rfl (L.nil ?_)
     refine WpC.seq (WpC.regionL ?_)
     refine L.move hF rfl rfl rfl ?_
     obtain ⟨r1068, hr1068, H⟩ := bindS H
     refine L.call [false, false] [] [0] 6 hF rfl rfl rfl ent70 rfl rfl rfl rfl rfl (Fspec_l1Below_gives kj77  (4 : Int) r1067.2 r1068 hr1068) rfl (L.nil ?_)
     refine WpC.block (WpC.seq (WpC.regionL ?_))
     refine L.bin hF rfl rfl rfl rfl rfl rfl ?_
     refine L.assign hF rfl rfl rfl (L.nil ?_)
     refine WpC.cond rfl (fun hc => ?_) (fun hc => ?_)
     ·replace H := condT hc H
      refine WpC.regionL ?_
      refine L.move hF rfl rfl rfl ?_
      refine L.move hF rfl rfl rfl ?_
      refine L.move hF rfl rfl rfl ?_
      refine L.buildSlice (e := eI) 10 ([(0 : Int), (6 : Int), (3 : Int), (4 : Int)] : List Int) Try.underlying39 info3 rfl rfl rfl hF rfl rfl rfl rfl rfl rfl rfl rfl ?_
      obtain ⟨r1069, hr1069, H⟩ := bindS H
      refine L.call [false, false] [10] [0] 11 hF rfl rfl rfl ent71 rfl rfl rfl rfl rfl (Fspec_l1PickInt_gives kj77 false ([(0 : Int), (6 : Int), (3 : Int), (4 : Int)] : List Int) r1068.2 r1069 hr1069) rfl ?_
      obtain ⟨b1070, hb1070, H⟩ := bindS H
      refine L.idxR (xs := v1062) (e := eTimpl_Rule) Try.underlying28 info96 hF rfl rfl rfl rfl rfl hb1070 rfl rfl ?_
      refine L.fieldAddr Try.underlying96 rfl info3 rfl hF rfl rfl rfl rfl rfl ?_
      refine L.storeEp (xs := v1062) (e := eTimpl_Rule) (a' := (⟨r1069.1, b1070.Set, b1070.N⟩ : Timpl_Rule)) shape3 hF rfl rfl rfl rfl rfl rfl rfl (at?_get hb1070).2 rfl rfl ?_
      refine L.nil ?_
      refine WpC.seq (WpC.regionL ?_)
      refine L.move hF rfl rfl rfl ?_
      refine L.assign hF rfl rfl rfl (L.nil ?_)
      refine WpC.ret ?_
      cases H
      exact Leaves.ret rfl rfl rfl ⟨rfl, rfl⟩
     ·replace H := condF hc H
      refine WpC.seq (WpC.regionL ?_)
      refine L.bin hF rfl rfl rfl rfl rfl rfl ?_
      refine L.assign hF rfl rfl rfl (L.nil ?_)
      refine WpC.cond rfl (fun hc => ?_) (fun hc => ?_)
      ·replace H := condT hc H
       refine WpC.regionL ?_
       refine L.move hF rfl rfl rfl ?_
       refine L.move hF rfl rfl rfl ?_
       refine L.move hF rfl rfl rfl ?_
       refine L.buildSlice (e := eI) 10 ([(-1 : Int), (1 : Int), (100001 : Int)] : List Int) Try.underlying39 info3 rfl rfl rfl hF rfl rfl rfl rfl rfl rfl rfl rfl ?_
       obtain ⟨r1071, hr1071, H⟩ := bindS H
       refine L.call [false, false] [10] [0] 11 hF rfl rfl rfl ent71 rfl rfl rfl rfl rfl (Fspec_l1PickInt_gives kj77 false ([(-1 : Int), (1 : Int), (100001 : Int)] : List Int) r1068.2 r1071 hr1071) rfl ?_
       obtain ⟨b1072, hb1072, H⟩ := bindS H
       refine L.idxR (xs := v1062) (e := eTimpl_Rule) Try.underlying28 info96 hF rfl rfl rfl rfl rfl hb1072 rfl rfl ?_
       refine L.fieldAddr Try.underlying96 rfl info3 rfl hF rfl rfl rfl rfl rfl ?_
       refine L.storeEp (xs := v1062) (e := eTimpl_Rule) (a' := (⟨b1072.Kind, b1072.Set, r1071.1⟩ : Timpl_Rule)) shape3 hF rfl rfl rfl rfl rfl rfl rfl (at?_get hb1072).2 rfl rfl ?_
       refine L.nil ?_
       refine WpC.seq (WpC.regionL ?_)
       refine L.move hF rfl rfl rfl ?_
       refine L.assign hF rfl rfl rfl (L.nil ?_)
       refine WpC.ret ?_
       cases H
       exact Leaves.ret rfl rfl rfl ⟨rfl, rfl⟩
      ·replace H := condF hc H
       refine WpC.seq (WpC.regionL ?_)
       refine L.bin hF rfl rfl rfl rfl rfl rfl ?_
       refine L.assign hF rfl rfl rfl (L.nil ?_)
       refine WpC.cond rfl (fun hc => ?_) (fun hc => ?_)
       ·replace H := condT hc H
        obtain ⟨b1073, hb1073, H⟩ := bindS H
        obtain ⟨r1074, hr1074, H⟩ := bindS H
        obtain ⟨h1075, H⟩ := condG H
        obtain ⟨b1076, hb1076, H⟩ := bindS H
        refine WpC.out (xs := v1062) (e := eTimpl_Rule) (a := b1073) 1 r1067.1.toNat 1 10 rfl (at?_get hb1073).2 rfl rfl (fun ub1073 => ?_)
        refine A.begin mixed rfl rfl ?_
        intro W hI hO
        have n2047 : W 4 #[true, true, true, true, true, true, true, true, true, true, true, false, false, false, false] (mkStH [(5, one (Cell.own 1)), (90, one (Cell.own 1)), (91, one (cI r1067.1)), (96, one (Cell.own 2)), (100, one (Cell.own 3))] [(1, ⟨3, (List.map eTimpl_Rule v1062).set r1067.1.toNat ((eTimpl_Rule b1073).set 1 (Cell.raw ub1073))⟩), (2, ⟨1, List.map eI b1073.Set⟩), (3, ⟨1, List.map eI ([r1074.1] : List Int)⟩)] [(0, (bTspec_l1Cur true r1074.2))] 4 [(2, ub1073)]) := by
         refine hI _ _ _ ?_
         refine A.all [11] (by kernel_rfl) rfl ⟨⟨_, rfl, ?_⟩, trivial⟩
         refine L.append (xs := b1073.Set) (ys := ([r1074.1] : List Int)) (e := eI) 4 Try.underlying39 info3 rfl rfl hF rfl rfl rfl rfl rfl rfl rfl rfl (fun _ => rfl) (fun _ _ h1 h2 => by cases h1; cases h2; rfl) ⟨_, Try.underlying39⟩ (of_decide_eq_true h1075) rfl rfl (L.nil ?_)
         refine Atk 12 rfl (Ca.indexAddr) (fun Q0 k0 => L.idxRH (xs := v1062) (e := eTimpl_Rule) Try.underlying28 info96 hF rfl rfl rfl rfl rfl hb1076 rfl rfl (L.nil k0)) ?_
         refine Atk 13 rfl (Ca.fieldAddr Try.underlying96 rfl info39 rfl) (fun Q0 k0 => L.fieldAddr Try.underlying96 rfl info39 rfl hF rfl rfl rfl rfl rfl (L.nil k0)) ?_
         refine A.all [14] (by kernel_rfl) rfl ⟨⟨_, rfl, ?_⟩, trivial⟩
         refine L.storeEpH (xs := v1062) (e := eTimpl_Rule) (a' := (⟨b1073.Kind, (b1073.Set ++ ([r1074.1] : List Int)), b1073.N⟩ : Timpl_Rule)) 1 shape39 hF rfl rfl rfl rfl rfl rfl rfl (at?_get hb1073).2 rfl rfl ?_
         refine L.nil ?_
         refine A.le (τ := mkSt [(5, one (Cell.own 1))] [(1, ⟨3, List.map eTimpl_Rule (v1062.set r1067.1.toNat (⟨b1073.Kind, (b1073.Set ++ ([r1074.1] : List Int)), b1073.N⟩ : Timpl_Rule))⟩)] [(0, (bTspec_l1Cur true r1074.2))] 2) (Le.mk [(0, 0), (1, 1)] hm rfl (Sa1 trivial) (Ra1 trivial) (Ba1 trivial)) ?_
         refine A.done (by kernel_rfl) ?_
         refine WpC.seq (WpC.regionL ?_)
         refine L.move hF rfl rfl rfl ?_
         refine L.assign hF rfl rfl rfl (L.nil ?_)
         refine WpC.ret ?_
         cases H
         exact Leaves.ret rfl rfl rfl ⟨rfl, rfl⟩
        have n1023 : W 5 #[true, true, true, true, true, true, true, true, true, true, false, false, false, false, false] (mkStH [(5, one (Cell.own 1)), (90, one (Cell.own 1)), (91, one (cI r1067.1)), (96, one (Cell.own 2)), (99, one (cI r1074.1))] [(1, ⟨3, (List.map eTimpl_Rule v1062).set r1067.1.toNat ((eTimpl_Rule b1073).set 1 (Cell.raw ub1073))⟩), (2, ⟨1, List.map eI b1073.Set⟩)] [(0, (bTspec_l1Cur true r1074.2))] 3 [(2, ub1073)]) := by
         refine hI _ _ _ ?_
         refine A.all [10] (by kernel_rfl) rfl ⟨⟨_, rfl, ?_⟩, trivial⟩
         refine L.buildSlice (e := eI) 3 ([r1074.1] : List Int) Try.underlying39 info3 rfl rfl rfl hF rfl rfl rfl rfl rfl rfl rfl rfl (L.nil ?_)
         exact A.on (hO _ _ _ n2047) (Le.mkH [(0, 0), (1, 1), (2, 2), (3, 3)] hm rfl (Sa4 (Sa1 trivial)) (Ra2 (Ra1 trivial)) (Ba1 trivial) (hvOk1 rfl rfl))
        have n511 : W 6 #[true, true, true, true, true, true, true, true, true, false, false, false, false, false, false] (mkStH [(5, one (Cell.own 1)), (90, one (Cell.own 1)), (91, one (cI r1067.1)), (96, one (Cell.own 2)), (97, one (Cell.ptr 0 0)), (98, one (Cell.own 3))] [(1, ⟨3, (List.map eTimpl_Rule v1062).set r1067.1.toNat ((eTimpl_Rule b1073).set 1 (Cell.raw ub1073))⟩), (2, ⟨1, List.map eI b1073.Set⟩), (3, ⟨1, List.map eI ([(2 : Int), (30 : Int), (31 : Int)] : List Int)⟩)] [(0, (bTspec_l1Cur true r1068.2))] 4 [(2, ub1073)]) := by
         refine hI _ _ _ ?_
         refine A.all [9] (by kernel_rfl) rfl ⟨⟨_, rfl, ?_⟩, trivial⟩
         refine L.call [false, false] [3] [0] 4 hF rfl rfl rfl ent71 rfl rfl rfl rfl rfl (Fspec_l1PickInt_gives kj77 false ([(2 : Int), (30 : Int), (31 : Int)] : List Int) r1068.2 r1074 hr1074) rfl (L.nil ?_)
         exact A.on (hO _ _ _ n1023) (Le.mkH [(0, 0), (1, 1), (2, 2)] hm rfl (Sa4 (Sa1 trivial)) (Ra2 trivial) (Ba1 trivial) (hvOk1 rfl rfl))
        refine hI _ _ _ ?_
        refine Atk 0 rfl (Ca.move) (fun Q0 k0 => L.move hF rfl rfl rfl (L.nil k0)) ?_
        refine Atk 1 rfl (Ca.move) (fun Q0 k0 => L.move hF rfl rfl rfl (L.nil k0)) ?_
        refine Atk 2 rfl (Ca.move) (fun Q0 k0 => L.move hF rfl rfl rfl (L.nil k0)) ?_
        refine Atk 3 rfl (Ca.move) (fun Q0 k0 => L.move hF rfl rfl rfl (L.nil k0)) ?_
        refine Atk 4 rfl (Ca.indexAddr) (fun Q0 k0 => L.idxRH (xs := v1062) (e := eTimpl_Rule) Try.underlying28 info96 hF rfl rfl rfl rfl rfl hb1073 rfl rfl (L.nil k0)) ?_
        refine Atk 5 rfl (Ca.fieldAddr Try.underlying96 rfl info39 rfl) (fun Q0 k0 => L.fieldAddr Try.underlying96 rfl info39 rfl hF rfl rfl rfl rfl rfl (L.nil k0)) ?_
        refine Atk 7 rfl (Ca.move) (fun Q0 k0 => L.move hF rfl rfl rfl (L.nil k0)) ?_
        refine A.all [6, 8] (by kernel_rfl) rfl ⟨⟨_, rfl, ?_⟩, ⟨_, rfl, ?_⟩, trivial⟩
        ·refine L.loadEpR (xs := v1062) (e := eTimpl_Rule) 1 10 shape39 hF rfl rfl rfl rfl (at?_get hb1073).2 rfl rfl rfl rfl rfl ?_
         refine L.nil ?_
         refine A.all [8] (by kernel_rfl) rfl ⟨⟨_, rfl, ?_⟩, trivial⟩
         refine L.buildSlice (e := eI) 11 ([(2 : Int), (30 : Int), (31 : Int)] : List Int) Try.underlying39 info3 rfl rfl rfl hF rfl rfl rfl rfl rfl rfl rfl rfl (L.nil ?_)
         exact A.on (hO _ _ _ n511) (Le.mkH [(0, 0), (1, 1), (2, 10), (3, 11)] hm rfl (Sa4 (Sa2 trivial)) (Ra2 (Ra1 trivial)) (Ba1 trivial) (hvOk1 rfl rfl))
        ·refine L.buildSlice (e := eI) 11 ([(2 : Int), (30 : Int), (31 : Int)] : List Int) Try.underlying39 info3 rfl rfl rfl hF rfl rfl rfl rfl rfl rfl rfl rfl (L.nil ?_)
         refine A.all [6, 9] (by kernel_rfl) rfl ⟨⟨_, rfl, ?_⟩, ⟨_, rfl, ?_⟩, trivial⟩
         ·refine L.loadEpR (xs := v1062) (e := eTimpl_Rule) 1 10 shape39 hF rfl rfl rfl rfl (at?_get hb1073).2 rfl rfl rfl rfl rfl ?_
          refine L.nil ?_
          exact A.on (hO _ _ _ n511) (Le.mkH [(0, 0), (1, 1), (2, 10), (3, 11)] hm rfl (Sa4 (Sa2 trivial)) (Ra2 (Ra1 trivial)) (Ba1 trivial) (hvOk1 rfl rfl))
         ·refine L.call [false, false] [11] [0] 12 hF rfl rfl rfl ent71 rfl rfl rfl rfl rfl (Fspec_l1PickInt_gives kj77 false ([(2 : Int), (30 : Int), (31 : Int)] : List Int) r1068.2 r1074 hr1074) rfl (L.nil ?_)
          refine A.all [6, 10] (by kernel_rfl) rfl ⟨⟨_, rfl, ?_⟩, ⟨_, rfl, ?_⟩, trivial⟩
          ·refine L.loadEpR (xs := v1062) (e := eTimpl_Rule) 1 10 shape39 hF rfl rfl rfl rfl (at?_get hb1073).2 rfl rfl rfl rfl rfl ?_
           refine L.nil ?_
           exact A.on (hO _ _ _ n1023) (Le.mkH [(0, 0), (1, 1), (2, 10)] hm rfl (Sa4 (Sa1 trivial)) (Ra2 trivial) (Ba1 trivial) (hvOk1 rfl rfl))
          ·refine L.buildSlice (e := eI) 16 ([r1074.1] : List Int) Try.underlying39 info3 rfl rfl rfl hF rfl rfl rfl rfl rfl rfl rfl rfl (L.nil ?_)
           refine A.le (τ := mkStH [(5, one (Cell.own 1)), (90, one (Cell.own 1)), (91, one (cI r1067.1)), (95, one (Cell.ep 1 r1067.1.toNat 1)), (100, one (Cell.own 2))] [(1, ⟨3, (List.map eTimpl_Rule v1062).set r1067.1.toNat ((eTimpl_Rule b1073).set 1 (Cell.raw ub1073))⟩), (2, ⟨1, List.map eI ([r1074.1] : List Int)⟩), (3, ⟨1, List.map eI b1073.Set⟩)] [(0, (bTspec_l1Cur true r1074.2))] 4 [(3, ub1073)]) (Le.mkH [(0, 0), (1, 1), (2, 16), (3, 10)] hm rfl (Sa4 (Sa1 trivial)) (Ra2 (Ra1 trivial)) (Ba1 trivial) (hvOk1 rfl rfl)) ?_
           refine A.all [6] (by kernel_rfl) rfl ⟨⟨_, rfl, ?_⟩, trivial⟩
           refine L.loadEpR (xs := v1062) (e := eTimpl_Rule) 1 3 shape39 hF rfl rfl rfl rfl (at?_get hb1073).2 rfl rfl rfl rfl rfl ?_
           refine L.nil ?_
           exact A.on (hO _ _ _ n2047) (Le.mkH [(0, 0), (1, 1), (2, 3), (3, 2)] hm rfl (Sa4 (Sa1 trivial)) (Ra2 (Ra1 trivial)) (Ba1 trivial) (hvOk1 rfl rfl))
       ·replace H := condF hc H
        refine WpC.seq (WpC.regionL ?_)
        refine L.move hF rfl rfl rfl ?_
        obtain ⟨r1077, hr1077, H⟩ := bindS H
        refine L.call [false, false] [] [0] 10 hF rfl rfl rfl ent70 rfl rfl rfl rfl rfl (Fspec_l1Below_gives kj77  (2 : Int) r1068.2 r1077 hr1077) rfl ?_
        refine L.bin hF rfl rfl rfl rfl rfl rfl ?_
        refine L.assign hF rfl rfl rfl (L.nil ?_)
        refine WpC.block ?_
        refine WpC.loopL (P := Try.prog) (fun n σ => ∃ v1084 : List Timpl_Rule, ∃ v1085 : Int, ∃ v1086 : List UInt8, ∃ v1087 : Int, ∃ v1088 : Int, n ≤ K ∧ Fspec_l17Some.l78 n v1084 v1085 v1086 v1087 v1088 = some r ∧ σ = mkSt [(5, one (Cell.own 1)), (10, one (cI v1085))] [(1, ⟨3, List.map eTimpl_Rule v1084⟩)] [(0, [Cell.sl true (List.map eB v1086), cI v1087, cI v1088])] 2) kj77 ⟨_, ⟨v1062, (IntKind.i64.wrap ((20 : Int) + r1077.1)), r1077.2.b, r1077.2.i, r1077.2.h, by omega, H, rfl⟩, Le.mk [(0, 0), (1, 1)] hm rfl (Sa2 trivial) (Ra1 trivial) (Ba1 trivial)⟩ ?_
        clear H
        rintro k78 _ ⟨v1084, v1085, v1086, v1087, v1088, hk78, H, rfl⟩
        cases k78 with
        | zero => cases H
        | succ k78 =>
         rw [Fspec_l17Some.l78] at H
         refine WpC.seq (WpC.seq (WpC.regionL ?_))
         refine L.move hF rfl rfl rfl ?_
         refine L.lenR (xs := v1084) (e := eTimpl_Rule) Try.underlying28 hF rfl rfl rfl rfl ?_
         refine L.move hF rfl rfl rfl ?_
         refine L.bin hF rfl rfl rfl rfl rfl rfl (L.nil ?_)
         refine WpC.cond rfl (fun hc => ?_) (fun hc => ?_)
         ·replace H := condT hc H
          refine WpC.skip (WpC.block (WpC.regionL ?_))
          refine L.move hF rfl rfl rfl ?_
          refine L.buildF built96 hF rfl rfl rfl rfl ?_
          refine L.buildSliceN (e := eTimpl_Rule) 1 2 ([(⟨(4 : Int), [], (0 : Int)⟩ : Timpl_Rule)] : List Timpl_Rule) Try.underlying28 info96 rfl rfl rfl hF rfl rfl rfl rfl rfl rfl rfl rfl ?_
          obtain ⟨h1089, H⟩ := condG H
          refine L.appendN (xs := v1084) (ys := ([(⟨(4 : Int), [], (0 : Int)⟩ : Timpl_Rule)] : List Timpl_Rule)) (e := eTimpl_Rule) 3 Try.underlying28 info96 rfl rfl hF rfl rfl rfl rfl rfl rfl rfl rfl rfl (fun _ _ h1 h2 => by cases h1; cases h2; rfl) Try.underlying28 (of_decide_eq_true h1089) rfl rfl ?_
          refine L.assign hF rfl rfl rfl (L.nil ?_)
          exact ⟨k78, _, by omega, ⟨(v1084 ++ ([(⟨(4 : Int), [], (0 : Int)⟩ : Timpl_Rule)] : List Timpl_Rule)), v1085, v1086, v1087, v1088, by omega, H, rfl⟩, Le.mk [(0, 0), (1, 3)] hm rfl (Sa2 trivial) (Ra1 trivial) (Ba1 trivial)⟩
         ·replace H := condF hc H
          refine WpC.exit (WpC.seq (WpC.regionL ?_))
          refine L.move hF rfl rfl rfl ?_
          refine L.assign hF rfl rfl rfl (L.nil ?_)
          refine WpC.ret ?_
          cases H
          exact Leaves.ret rfl rfl rfl ⟨rfl, rfl⟩
    ·replace H := condF hc H
     refine WpC.skip (WpC.seq (WpC.regionL ?_))
     refine L.move hF rfl rfl rfl ?_
     refine L.assign hF rfl rfl rfl (L.nil ?_)
     refine WpC.ret ?_
     cases H
     exact Leaves.ret rfl rfl rfl ⟨rfl, rfl⟩
   ·refine WpC.regionL ?_
    refine L.move hF rfl rfl rfl ?_
    refine L.lenR (xs := v774) (e := eTimpl_Rule) Try.underlying28 hF rfl rfl rfl rfl ?_
    refine L.bin hF rfl rfl rfl rfl rfl rfl ?_
    refine L.move hF rfl rfl rfl ?_
    refine L.split (fun hc => ?_) (fun hc => ?_)
    ·replace H := condT hc H
     refine L.move hF rfl rfl rfl ?_
     obtain ⟨r1090, hr1090, H⟩ := bindS H
     refine L.call [false, false] [] [0] 2 hF rfl rfl rfl ent65 rfl rfl rfl rfl rfl (Fspec_l1Once_gives k56  (10 : Int) (⟨v776, v777, v778⟩ : Tspec_l1Cur) r1090 hr1090) rfl ?_
     refine L.pick hF rfl rfl rfl rfl (L.nil ?_)
     exact ⟨_, ⟨k56, v774, r1090.1, r1090.2.b, r1090.2.i, r1090.2.h, by omega, H, rfl⟩, Le.mk [(0, 0), (1, 1)] hm rfl (Sa2 (Sa1 trivial)) (Ra1 trivial) (Ba1 trivial)⟩
    ·replace H := condF hc H
     refine L.off hF rfl rfl ?_
     refine L.off hF rfl rfl ?_
     refine L.pick hF rfl rfl rfl rfl (L.nil ?_)
     exact ⟨_, ⟨k56, v774, false, v776, v777, v778, by omega, H, rfl⟩, Le.mk [(0, 0), (1, 1)] hm rfl (Sa2 (Sa1 trivial)) (Ra1 trivial) (Ba1 trivial)⟩
/-! ### Fspec_DrawShowRules -/
def Fspec_DrawShowRules (k : Nat) (a0 : List UInt8) : Option (List Timpl_Rule) := (Fspec_l1New k a0).bind fun r1 => (Fspec_l17Some k (6 : Int) r1).bind fun r2 => some r2.1
theorem ent22 : MG.Enters Try.prog 22 := ⟨Try.f22, Try.func22, rfl, by decide⟩
set_option maxHeartbeats 8000000 in
set_option maxRecDepth 100000 in
theorem Fspec_DrawShowRules_gives (k : Nat) (a0 : List UInt8) (r : List Timpl_Rule) (H : Fspec_DrawShowRules k a0 = some r) : Gives Try.prog 22 [V.one (Cell.sl true (List.map eB a0))] [] [V.one (Cell.ow 3 (List.map eTimpl_Rule r))] [] := by
 refine Gives.intro Try.func22 rfl rfl rfl rfl ?_
 intro F hF hm
 unfold Fspec_DrawShowRules at H
 obtain ⟨K, hK⟩ : ∃ K, k ≤ K := ⟨k, Nat.le_refl k⟩
 refine WpC.seq (WpC.regionL ?_)
 refine L.assign hF rfl rfl rfl (L.nil ?_)
 refine WpC.seq (WpC.regionL ?_)
 refine L.move hF rfl rfl rfl ?_
 obtain ⟨r1, hr1, H⟩ := bindS H
 refine L.call [false] [] [] 1 hF rfl rfl rfl ent61 rfl rfl rfl rfl rfl (Fspec_l1New_gives k  a0 r1 hr1) rfl ?_
 refine L.assign hF rfl rfl rfl (L.nil ?_)
 refine WpC.seq (WpC.regionL ?_)
 refine L.move hF rfl rfl rfl ?_
 obtain ⟨r2, hr2, H⟩ := bindS H
 refine L.call [false, false] [] [1] 2 hF rfl rfl rfl ent62 rfl rfl rfl rfl rfl (Fspec_l17Some_gives k  (6 : Int) r1 r2 hr2) rfl ?_
 refine L.assign hF rfl rfl rfl (L.nil ?_)
 refine WpC.ret ?_
 cases H
 exact Leaves.ret rfl rfl rfl ⟨rfl, rfl⟩
/-! ### Fimpl_rises -/
def Fimpl_rises.l2 : Nat → (List Int) → Int → Option Bool
 | 0, _, _ => none
 | k2 + 1, v29, v30 => cond (decide (v30 < (v29.length : Int))) ((at? v29 (IntKind.i64.wrap (v30 - (1 : Int)))).bind fun b33 => (at? v29 v30).bind fun b34 => cond (decide (b33 ≥ b34)) (some false) ((Fimpl_rises.l2 k2) v29 (IntKind.i64.wrap (v30 + (1 : Int))))) (some true)
def Fimpl_rises (k : Nat) (a0 : List Int) : Option Bool := Fimpl_rises.l2 k a0 (1 : Int)
theorem ent164 : MG.Enters Try.prog 164 := ⟨Try.f164, Try.func164, rfl, by decide⟩
set_option maxHeartbeats 8000000 in
set_option maxRecDepth 100000 in
theorem Fimpl_rises_gives (k : Nat) (g0 : Bool) (a0 : List Int) (r : Bool) (H : Fimpl_rises k a0 = some r) : Gives Try.prog 164 [V.one (Cell.sl g0 (List.map eI a0))] [] [V.one (cL r)] [] := by
 refine Gives.intro Try.func164 rfl rfl rfl rfl ?_
 intro F hF hm
 unfold Fimpl_rises at H
 obtain ⟨K, hK⟩ : ∃ K, k ≤ K := ⟨k, Nat.le_refl k⟩
 refine WpC.seq (WpC.regionL ?_)
 refine L.assign hF rfl rfl rfl (L.nil ?_)
 refine WpC.seq (WpC.seq (WpC.regionL ?_))
 refine L.assign hF rfl rfl rfl (L.nil ?_)
 refine WpC.block ?_
 refine WpC.loopL (P := Try.prog) (fun n σ => ∃ v29 : List Int, ∃ v30 : Int, n ≤ K ∧ Fimpl_rises.l2 n v29 v30 = some r ∧ σ = mkSt [(0, one (Cell.sl g0 (List.map eI v29))), (3, one (cI v30))] [] [] 0) k ⟨_, ⟨a0, (1 : Int), by omega, H, rfl⟩, Le.mk [] hm rfl (Sa2 trivial) trivial trivial⟩ ?_
 clear H
 rintro k2 _ ⟨v29, v30, hk2, H, rfl⟩
 cases k2 with
 | zero => cases H
 | succ k2 =>
  rw [Fimpl_rises.l2] at H
  refine WpC.seq (WpC.seq (WpC.regionL ?_))
  refine L.move hF rfl rfl rfl ?_
  refine L.move hF rfl rfl rfl ?_
  refine L.lenR (xs := v29) (e := eI) Try.underlying39 hF rfl rfl rfl rfl ?_
  refine L.bin hF rfl rfl rfl rfl rfl rfl (L.nil ?_)
  refine WpC.cond rfl (fun hc => ?_) (fun hc => ?_)
  ·replace H := condT hc H
   refine WpC.skip (WpC.seq (WpC.block (WpC.seq ?_)))
   refine S.begin mixed (by kernel_rfl) ?_
   refine S.st 0 rfl rfl ((Ca.move).quiet) (fun Q0 k0 => L.move hF rfl rfl rfl (L.nil k0)) ?_
   refine S.st 1 rfl rfl ((Ca.move).quiet) (fun Q0 k0 => L.move hF rfl rfl rfl (L.nil k0)) ?_
   refine S.st 2 rfl rfl ((Ca.bin rfl rfl (calm_int _ _ _ _ _ _ _ _)).quiet) (fun Q0 k0 => L.bin hF rfl rfl rfl rfl rfl rfl (L.nil k0)) ?_
   obtain ⟨b33, hb33, H⟩ := bindS H
   refine S.st 3 rfl rfl ((Ca.indexAddr).quiet) (fun Q0 k0 => L.idxR (xs := v29) (e := eI) Try.underlying39 info3 hF rfl rfl rfl rfl rfl hb33 rfl rfl (L.nil k0)) ?_
   refine S.st 4 rfl rfl (Qu.load) (fun Q0 k0 => L.loadPe shape3 hF rfl rfl rfl rfl rfl (L.nil k0)) ?_
   refine S.st 5 rfl rfl ((Ca.move).quiet) (fun Q0 k0 => L.move hF rfl rfl rfl (L.nil k0)) ?_
   refine S.st 6 rfl rfl ((Ca.move).quiet) (fun Q0 k0 => L.move hF rfl rfl rfl (L.nil k0)) ?_
   obtain ⟨b34, hb34, H⟩ := bindS H
   refine S.st 7 rfl rfl ((Ca.indexAddr).quiet) (fun Q0 k0 => L.idxR (xs := v29) (e := eI) Try.underlying39 info3 hF rfl rfl rfl rfl rfl hb34 rfl rfl (L.nil k0)) ?_
   refine S.st 8 rfl rfl (Qu.load) (fun Q0 k0 => L.loadPe shape3 hF rfl rfl rfl rfl rfl (L.nil k0)) ?_
   refine S.st 9 rfl rfl ((Ca.bin rfl rfl (calm_int _ _ _ _ _ _ _ _)).quiet) (fun Q0 k0 => L.bin hF rfl rfl rfl rfl rfl rfl (L.nil k0)) ?_
   refine S.nil ?_
   refine WpC.cond rfl (fun hc => ?_) (fun hc => ?_)
   ·replace H := condT hc H
    refine WpC.seq (WpC.regionL ?_)
    refine L.assign hF rfl rfl rfl (L.nil ?_)
    refine WpC.ret ?_
    cases H
    exact Leaves.ret rfl rfl rfl ⟨rfl, rfl⟩
   ·replace H := condF hc H
    refine WpC.skip (WpC.regionL ?_)
    refine L.move hF rfl rfl rfl ?_
    refine L.bin hF rfl rfl rfl rfl rfl rfl ?_
    refine L.assign hF rfl rfl rfl (L.nil ?_)
    exact ⟨k2, _, by omega, ⟨v29, (IntKind.i64.wrap (v30 + (1 : Int))), by omega, H, rfl⟩, Le.mk [] hm rfl (Sa2 trivial) trivial trivial⟩
  ·replace H := condF hc H
   refine WpC.exit (WpC.seq (WpC.regionL ?_))
   refine L.assign hF rfl rfl rfl (L.nil ?_)
   refine WpC.ret ?_
   cases H
   exact Leaves.ret rfl rfl rfl ⟨rfl, rfl⟩
/-! ### Fimpl_within -/
def Fimpl_within (k : Nat) (a0 : Int) (a1 : Int) (a2 : Int) : Option Bool := cond (decide (a0 ≥ a1)) (some (decide (a0 ≤ a2))) (some false)
theorem ent78 : MG.Enters Try.prog 78 := ⟨Try.f78, Try.func78, rfl, by decide⟩
set_option maxHeartbeats 8000000 in
set_option maxRecDepth 100000 in
theorem Fimpl_within_gives (k : Nat) (a0 : Int) (a1 : Int) (a2 : Int) (r : Bool) (H : Fimpl_within k a0 a1 a2 = some r) : Gives Try.prog 78 [V.one (cI a0), V.one (cI a1), V.one (cI a2)] [] [V.one (cL r)] [] := by
 refine Gives.intro Try.func78 rfl rfl rfl rfl ?_
 intro F hF hm
 unfold Fimpl_within at H
 obtain ⟨K, hK⟩ : ∃ K, k ≤ K := ⟨k, Nat.le_refl k⟩
 refine WpC.seq (WpC.regionL ?_)
 refine L.assign hF rfl rfl rfl (L.nil ?_)
 refine WpC.seq (WpC.regionL ?_)
 refine L.move hF rfl rfl rfl ?_
 refine L.move hF rfl rfl rfl ?_
 refine L.bin hF rfl rfl rfl rfl rfl rfl ?_
 refine L.move hF rfl rfl rfl ?_
 refine L.split (fun hc => ?_) (fun hc => ?_)
 ·replace H := condT hc H
  refine L.move hF rfl rfl rfl ?_
  refine L.move hF rfl rfl rfl ?_
  refine L.bin hF rfl rfl rfl rfl rfl rfl ?_
  refine L.pick hF rfl rfl rfl rfl ?_
  refine L.assign hF rfl rfl rfl (L.nil ?_)
  refine WpC.ret ?_
  cases H
  exact Leaves.ret rfl rfl rfl ⟨rfl, rfl⟩
 ·replace H := condF hc H
  refine L.off hF rfl rfl ?_
  refine L.off hF rfl rfl ?_
  refine L.off hF rfl rfl ?_
  refine L.pick hF rfl rfl rfl rfl ?_
  refine L.assign hF rfl rfl rfl (L.nil ?_)
  refine WpC.ret ?_
  cases H
  exact Leaves.ret rfl rfl rfl ⟨rfl, rfl⟩
/-! ### Fimpl_areSet_1 -/
def Fimpl_areSet_1 (k : Nat) (a0 : Int) : Option Bool := (Fimpl_within k a0 (0 : Int) (30 : Int)).bind fun r1 => some r1
theorem ent165 : MG.Enters Try.prog 165 := ⟨Try.f165, Try.func165, rfl, by decide⟩
set_option maxHeartbeats 8000000 in
set_option maxRecDepth 100000 in
theorem Fimpl_areSet_1_gives (k : Nat) (a0 : Int) (r : Bool) (H : Fimpl_areSet_1 k a0 = some r) : Gives Try.prog 165 [V.one (cI a0)] [] [V.one (cL r)] [] := by
 refine Gives.intro Try.func165 rfl rfl rfl rfl ?_
 intro F hF hm
 unfold Fimpl_areSet_1 at H
 obtain ⟨K, hK⟩ : ∃ K, k ≤ K := ⟨k, Nat.le_refl k⟩
 refine WpC.seq (WpC.regionL ?_)
 refine L.assign hF rfl rfl rfl (L.nil ?_)
 refine WpC.seq (WpC.regionL ?_)
 refine L.move hF rfl rfl rfl ?_
 obtain ⟨r1, hr1, H⟩ := bindS H
 refine L.call [false, false, false] [] [] 1 hF rfl rfl rfl ent78 rfl rfl rfl rfl rfl (Fimpl_within_gives k  a0 (0 : Int) (30 : Int) r1 hr1) rfl ?_
 refine L.assign hF rfl rfl rfl (L.nil ?_)
 refine WpC.ret ?_
 cases H
 exact Leaves.ret rfl rfl rfl ⟨rfl, rfl⟩
/-! ### Fimpl_areAll__impl_areSet_1 -/
def Fimpl_areAll__impl_areSet_1.l2 : Nat → (List Int) → Int → Int → Int → Option Bool
 | 0, _, _, _, _ => none
 | k2 + 1, v39, v40, v41, v42 => cond (decide (v42 < v41)) ((at? v39 v42).bind fun b45 => (Fimpl_areSet_1 k2 b45).bind fun r46 => cond (!r46) (some false) ((Fimpl_areAll__impl_areSet_1.l2 k2) v39 v40 v41 (IntKind.i64.wrap (v42 + (1 : Int))))) (some (decide ((v39.length : Int) ≤ v40)))
def Fimpl_areAll__impl_areSet_1 (k : Nat) (a0 : List Int) (a1 : Int) : Option Bool := Fimpl_areAll__impl_areSet_1.l2 k a0 a1 (a0.length : Int) (0 : Int)
theorem ent142 : MG.Enters Try.prog 142 := ⟨Try.f142, Try.func142, rfl, by decide⟩
set_option maxHeartbeats 8000000 in
set_option maxRecDepth 100000 in
theorem Fimpl_areAll__impl_areSet_1_gives (k : Nat) (g0 : Bool) (a0 : List Int) (a1 : Int) (r : Bool) (H : Fimpl_areAll__impl_areSet_1 k a0 a1 = some r) : Gives Try.prog 142 [V.one (Cell.sl g0 (List.map eI a0)), V.one (cI a1), V.one (Cell.clo 165 [])] [] [V.one (cL r)] [] := by
 refine Gives.intro Try.func142 rfl rfl rfl rfl ?_
 intro F hF hm
 unfold Fimpl_areAll__impl_areSet_1 at H
 obtain ⟨K, hK⟩ : ∃ K, k ≤ K := ⟨k, Nat.le_refl k⟩
 refine WpC.seq (WpC.regionL ?_)
 refine L.assign hF rfl rfl rfl (L.nil ?_)
 refine WpC.seq (WpC.seq (WpC.regionL ?_))
 refine L.move hF rfl rfl rfl ?_
 refine L.lenR (xs := a0) (e := eI) Try.underlying39 hF rfl rfl rfl rfl ?_
 refine L.move hF rfl rfl rfl (L.nil ?_)
 refine WpC.block ?_
 refine WpC.loopL (P := Try.prog) (fun n σ => ∃ v39 : List Int, ∃ v40 : Int, ∃ v41 : Int, ∃ v42 : Int, n ≤ K ∧ Fimpl_areAll__impl_areSet_1.l2 n v39 v40 v41 v42 = some r ∧ σ = mkSt [(0, one (Cell.sl g0 (List.map eI v39))), (1, one (cI v40)), (2, one (Cell.clo 165 [])), (9, one (Cell.sl g0 (List.map eI v39))), (10, one (cI v41)), (11, one (cI v42))] [] [] 0) k ⟨_, ⟨a0, a1, (a0.length : Int), (0 : Int), by omega, H, rfl⟩, Le.mk [] hm rfl (Sa4 (Sa2 trivial)) trivial trivial⟩ ?_
 clear H
 rintro k2 _ ⟨v39, v40, v41, v42, hk2, H, rfl⟩
 cases k2 with
 | zero => cases H
 | succ k2 =>
  rw [Fimpl_areAll__impl_areSet_1.l2] at H
  refine WpC.seq (WpC.regionL ?_)
  refine L.bin hF rfl rfl rfl rfl rfl rfl (L.nil ?_)
  refine WpC.seq ?_
  refine WpC.cond rfl (fun hc => ?_) (fun hc => ?_)
  ·replace H := condT hc H
   refine WpC.skip (WpC.seq (WpC.block (WpC.seq (WpC.regionL ?_))))
   obtain ⟨b45, hb45, H⟩ := bindS H
   refine L.idxR (xs := v39) (e := eI) Try.underlying39 info3 hF rfl rfl rfl rfl rfl hb45 rfl rfl ?_
   refine L.loadPe shape3 hF rfl rfl rfl rfl rfl ?_
   refine L.assign hF rfl rfl rfl (L.nil ?_)
   refine WpC.seq (WpC.regionL ?_)
   refine L.move hF rfl rfl rfl ?_
   refine L.move hF rfl rfl rfl ?_
   obtain ⟨r46, hr46, H⟩ := bindS H
   refine L.call [false] [] [] 0 hF rfl rfl rfl ent165 rfl rfl rfl rfl rfl (Fimpl_areSet_1_gives k2  b45 r46 hr46) rfl ?_
   refine L.not hF rfl rfl rfl (L.nil ?_)
   refine WpC.cond rfl (fun hc => ?_) (fun hc => ?_)
   ·replace H := condT hc H
    refine WpC.seq (WpC.regionL ?_)
    refine L.assign hF rfl rfl rfl (L.nil ?_)
    refine WpC.ret ?_
    cases H
    exact Leaves.ret rfl rfl rfl ⟨rfl, rfl⟩
   ·replace H := condF hc H
    refine WpC.skip (WpC.regionL ?_)
    refine L.bin hF rfl rfl rfl rfl rfl rfl ?_
    refine L.move hF rfl rfl rfl (L.nil ?_)
    exact ⟨k2, _, by omega, ⟨v39, v40, v41, (IntKind.i64.wrap (v42 + (1 : Int))), by omega, H, rfl⟩, Le.mk [] hm rfl (Sa4 (Sa2 trivial)) trivial trivial⟩
  ·replace H := condF hc H
   refine WpC.exit (WpC.seq (WpC.regionL ?_))
   refine L.move hF rfl rfl rfl ?_
   refine L.lenR (xs := v39) (e := eI) Try.underlying39 hF rfl rfl rfl rfl ?_
   refine L.move hF rfl rfl rfl ?_
   refine L.bin hF rfl rfl rfl rfl rfl rfl ?_
   refine L.assign hF rfl rfl rfl (L.nil ?_)
   refine WpC.ret ?_
   cases H
   exact Leaves.ret rfl rfl rfl ⟨rfl, rfl⟩
/-! ### Fimpl_areSet -/
def Fimpl_areSet (k : Nat) (a0 : List Int) : Option Bool := (Fimpl_rises k a0).bind fun r3 => cond r3 ((Fimpl_areAll__impl_areSet_1 k a0 (31 : Int)).bind fun r4 => some r4) (some false)
theorem ent153 : MG.Enters Try.prog 153 := ⟨Try.f153, Try.func153, rfl, by decide⟩
set_option maxHeartbeats 8000000 in
set_option maxRecDepth 100000 in
theorem Fimpl_areSet_gives (k : Nat) (g0 : Bool) (a0 : List Int) (r : Bool) (H : Fimpl_areSet k a0 = some r) : Gives Try.prog 153 [V.one (Cell.sl g0 (List.map eI a0))] [] [V.one (cL r)] [] := by
 refine Gives.intro Try.func153 rfl rfl rfl rfl ?_
 intro F hF hm
 unfold Fimpl_areSet at H
 obtain ⟨K, hK⟩ : ∃ K, k ≤ K := ⟨k, Nat.le_refl k⟩
 refine WpC.seq (WpC.regionL ?_)
 refine L.assign hF rfl rfl rfl (L.nil ?_)
 refine WpC.seq (WpC.regionL ?_)
 refine L.move hF rfl rfl rfl ?_
 obtain ⟨r3, hr3, H⟩ := bindS H
 refine L.call [false] [] [] 1 hF rfl rfl rfl ent164 rfl rfl rfl rfl rfl (Fimpl_rises_gives k g0 a0 r3 hr3) rfl ?_
 refine L.move hF rfl rfl rfl ?_
 refine L.split (fun hc => ?_) (fun hc => ?_)
 ·replace H := condT hc H
  refine L.move hF rfl rfl rfl ?_
  obtain ⟨r4, hr4, H⟩ := bindS H
  refine L.call [false, false, false] [] [] 2 hF rfl rfl rfl ent142 rfl rfl rfl rfl rfl (Fimpl_areAll__impl_areSet_1_gives k g0 a0 (31 : Int) r4 hr4) rfl ?_
  refine L.pick hF rfl rfl rfl rfl ?_
  refine L.assign hF rfl rfl rfl (L.nil ?_)
  refine WpC.ret ?_
  cases H
  exact Leaves.ret rfl rfl rfl ⟨rfl, rfl⟩
 ·replace H := condF hc H
  refine L.off hF rfl rfl ?_
  refine L.off hF rfl rfl ?_
  refine L.pick hF rfl rfl rfl rfl ?_
  refine L.assign hF rfl rfl rfl (L.nil ?_)
  refine WpC.ret ?_
  cases H
  exact Leaves.ret rfl rfl rfl ⟨rfl, rfl⟩
/-! ### Fimpl_isTime -/
def Fimpl_isTime (k : Nat) (a0 : Int) : Option Bool := (Fimpl_within k a0 (0 : Int) (100000 : Int)).bind fun r1 => some r1
theorem ent154 : MG.Enters Try.prog 154 := ⟨Try.f154, Try.func154, rfl, by decide⟩
set_option maxHeartbeats 8000000 in
set_option maxRecDepth 100000 in
theorem Fimpl_isTime_gives (k : Nat) (a0 : Int) (r : Bool) (H : Fimpl_isTime k a0 = some r) : Gives Try.prog 154 [V.one (cI a0)] [] [V.one (cL r)] [] := by
 refine Gives.intro Try.func154 rfl rfl rfl rfl ?_
 intro F hF hm
 unfold Fimpl_isTime at H
 obtain ⟨K, hK⟩ : ∃ K, k ≤ K := ⟨k, Nat.le_refl k⟩
 refine WpC.seq (WpC.regionL ?_)
 refine L.assign hF rfl rfl rfl (L.nil ?_)
 refine WpC.seq (WpC.regionL ?_)
 refine L.move hF rfl rfl rfl ?_
 obtain ⟨r1, hr1, H⟩ := bindS H
 refine L.call [false, false, false] [] [] 1 hF rfl rfl rfl ent78 rfl rfl rfl rfl rfl (Fimpl_within_gives k  a0 (0 : Int) (100000 : Int) r1 hr1) rfl ?_
 refine L.assign hF rfl rfl rfl (L.nil ?_)
 refine WpC.ret ?_
 cases H
 exact Leaves.ret rfl rfl rfl ⟨rfl, rfl⟩
/-! ### Fimpl_ruleOk -/
def Fimpl_ruleOk.j4 (k : Nat) (v13 : Bool) (v14 : Timpl_Rule) : Option Bool := cond v13 ((Fimpl_isTime k v14.N).bind fun r16 => cond r16 (some ((v14.Set.length : Int) == (0 : Int))) (some false)) (some false)
def Fimpl_ruleOk.j3 (k : Nat) (v9 : Timpl_Rule) (v10 : Bool) : Option Bool := cond v10 ((Fimpl_areSet k v9.Set).bind fun r12 => cond r12 (some (v9.N == (0 : Int))) (some false)) (cond (v9.Kind == (4 : Int)) (Fimpl_ruleOk.j4 k (v9.Kind == (4 : Int)) v9) (Fimpl_ruleOk.j4 k (v9.Kind == (5 : Int)) v9))
def Fimpl_ruleOk (k : Nat) (a0 : Timpl_Rule) : Option Bool := cond (a0.Kind == (1 : Int)) (Fimpl_ruleOk.j3 k a0 (a0.Kind == (1 : Int))) (cond (a0.Kind == (2 : Int)) (Fimpl_ruleOk.j3 k a0 (a0.Kind == (2 : Int))) (Fimpl_ruleOk.j3 k a0 (a0.Kind == (3 : Int))))
theorem ent127 : MG.Enters Try.prog 127 := ⟨Try.f127, Try.func127, rfl, by decide⟩
set_option maxHeartbeats 8000000 in
set_option maxRecDepth 100000 in
theorem Fimpl_ruleOk_gives (k : Nat) (g0 : Bool) (a0 : Timpl_Rule) (r : Bool) (H : Fimpl_ruleOk k a0 = some r) : Gives Try.prog 127 [V.agg [cI a0.Kind, Cell.sl g0 (List.map eI a0.Set), cI a0.N]] [] [V.one (cL r)] [] := by
 refine Gives.intro Try.func127 rfl rfl rfl rfl ?_
 intro F hF hm
 unfold Fimpl_ruleOk at H
 obtain ⟨K, hK⟩ : ∃ K, k ≤ K := ⟨k, Nat.le_refl k⟩
 refine WpC.seq (WpC.regionL ?_)
 refine L.box 3 hF rfl rfl rfl rfl ?_
 refine L.assign hF rfl rfl rfl (L.nil ?_)
 refine WpC.seq (WpC.seq (WpC.regionL ?_))
 refine L.fieldAddr Try.underlying96 rfl info3 rfl hF rfl rfl rfl rfl rfl ?_
 refine L.loadPtr shape3 hF rfl rfl rfl rfl rfl rfl (L.nil ?_)
 refine WpC.block ?_
 refine WpC.join (fun σ => ∃ kj3 : Nat, ∃ v9 : Timpl_Rule, ∃ v10 : Bool, kj3 ≤ K ∧ Fimpl_ruleOk.j3 kj3 v9 v10 = some r ∧ σ = mkSt [(1, one (Cell.ptr 0 0)), (4, one (cI v9.Kind)), (5, one (cL v10))] [] [(0, (bTimpl_Rule g0 v9))] 1) ?_ ?_
 ·rintro _ ⟨kj3, v9, v10, hkj3, H, rfl⟩
  unfold Fimpl_ruleOk.j3 at H
  refine WpC.cond rfl (fun hc => ?_) (fun hc => ?_)
  ·replace H := condT hc H
   refine WpC.seq (WpC.regionL ?_)
   refine L.fieldAddr Try.underlying96 rfl info39 rfl hF rfl rfl rfl rfl rfl ?_
   refine L.loadPtr shape39 hF rfl rfl rfl rfl rfl rfl ?_
   obtain ⟨r12, hr12, H⟩ := bindS H
   refine L.call [false] [] [] 1 hF rfl rfl rfl ent153 rfl rfl rfl rfl rfl (Fimpl_areSet_gives kj3 g0 v9.Set r12 hr12) rfl ?_
   refine L.move hF rfl rfl rfl ?_
   refine L.split (fun hc => ?_) (fun hc => ?_)
   ·replace H := condT hc H
    refine L.fieldAddr Try.underlying96 rfl info3 rfl hF rfl rfl rfl rfl rfl ?_
    refine L.loadPtr shape3 hF rfl rfl rfl rfl rfl rfl ?_
    refine L.bin hF rfl rfl rfl rfl rfl rfl ?_
    refine L.pick hF rfl rfl rfl rfl ?_
    refine L.assign hF rfl rfl rfl (L.nil ?_)
    refine WpC.ret ?_
    cases H
    exact Leaves.ret rfl rfl rfl ⟨rfl, rfl⟩
   ·replace H := condF hc H
    refine L.off hF rfl rfl ?_
    refine L.off hF rfl rfl ?_
    refine L.off hF rfl rfl ?_
    refine L.pick hF rfl rfl rfl rfl ?_
    refine L.assign hF rfl rfl rfl (L.nil ?_)
    refine WpC.ret ?_
    cases H
    exact Leaves.ret rfl rfl rfl ⟨rfl, rfl⟩
  ·replace H := condF hc H
   refine WpC.join (fun σ => ∃ kj4 : Nat, ∃ v13 : Bool, ∃ v14 : Timpl_Rule, kj4 ≤ K ∧ Fimpl_ruleOk.j4 kj4 v13 v14 = some r ∧ σ = mkSt [(1, one (Cell.ptr 0 0)), (17, one (cL v13))] [] [(0, (bTimpl_Rule g0 v14))] 1) ?_ ?_
   ·rintro _ ⟨kj4, v13, v14, hkj4, H, rfl⟩
    unfold Fimpl_ruleOk.j4 at H
    refine WpC.cond rfl (fun hc => ?_) (fun hc => ?_)
    ·replace H := condT hc H
     refine WpC.seq (WpC.regionL ?_)
     refine L.fieldAddr Try.underlying96 rfl info3 rfl hF rfl rfl rfl rfl rfl ?_
     refine L.loadPtr shape3 hF rfl rfl rfl rfl rfl rfl ?_
     obtain ⟨r16, hr16, H⟩ := bindS H
     refine L.call [false] [] [] 1 hF rfl rfl rfl ent154 rfl rfl rfl rfl rfl (Fimpl_isTime_gives kj4  v14.N r16 hr16) rfl ?_
     refine L.move hF rfl rfl rfl ?_
     refine L.split (fun hc => ?_) (fun hc => ?_)
     ·replace H := condT hc H
      refine L.fieldAddr Try.underlying96 rfl info39 rfl hF rfl rfl rfl rfl rfl ?_
      refine L.loadPtr shape39 hF rfl rfl rfl rfl rfl rfl ?_
      refine L.lenR (xs := v14.Set) (e := eI) Try.underlying39 hF rfl rfl rfl rfl ?_
      refine L.bin hF rfl rfl rfl rfl rfl rfl ?_
      refine L.pick hF rfl rfl rfl rfl ?_
      refine L.assign hF rfl rfl rfl (L.nil ?_)
      refine WpC.ret ?_
      cases H
      exact Leaves.ret rfl rfl rfl ⟨rfl, rfl⟩
     ·replace H := condF hc H
      refine L.off hF rfl rfl ?_
      refine L.off hF rfl rfl ?_
      refine L.off hF rfl rfl ?_
      refine L.off hF rfl rfl ?_
      refine L.pick hF rfl rfl rfl rfl ?_
      refine L.assign hF rfl rfl rfl (L.nil ?_)
      refine WpC.ret ?_
      cases H
      exact Leaves.ret rfl rfl rfl ⟨rfl, rfl⟩
    ·replace H := condF hc H
     refine WpC.skip (WpC.seq (WpC.regionL ?_))
     refine L.assign hF rfl rfl rfl (L.nil ?_)
     refine WpC.ret ?_
     cases H
     exact Leaves.ret rfl rfl rfl ⟨rfl, rfl⟩
   ·refine WpC.seq (WpC.regionL ?_)
    refine L.bin hF rfl rfl rfl rfl rfl rfl ?_
    refine L.assign hF rfl rfl rfl (L.nil ?_)
    refine WpC.cond rfl (fun hc => ?_) (fun hc => ?_)
    ·replace H := condT hc H
     refine WpC.skip ?_
     exact ⟨_, ⟨kj3, (v9.Kind == (4 : Int)), v9, by omega, H, rfl⟩, Le.mk [(0, 0)] hm rfl (Sa2 trivial) trivial (Ba1 trivial)⟩
    ·replace H := condF hc H
     refine WpC.regionL ?_
     refine L.bin hF rfl rfl rfl rfl rfl rfl ?_
     refine L.assign hF rfl rfl rfl (L.nil ?_)
     exact ⟨_, ⟨kj3, (v9.Kind == (5 : Int)), v9, by omega, H, rfl⟩, Le.mk [(0, 0)] hm rfl (Sa2 trivial) trivial (Ba1 trivial)⟩
 ·refine WpC.seq (WpC.regionL ?_)
  refine L.bin hF rfl rfl rfl rfl rfl rfl ?_
  refine L.assign hF rfl rfl rfl (L.nil ?_)
  refine WpC.cond rfl (fun hc => ?_) (fun hc => ?_)
  ·replace H := condT hc H
   refine WpC.skip ?_
   exact ⟨_, ⟨k, a0, (a0.Kind == (1 : Int)), by omega, H, rfl⟩, Le.mk [(0, 3)] hm rfl (Sa2 (Sa1 trivial)) trivial (Ba1 trivial)⟩
  ·replace H := condF hc H
   refine WpC.seq (WpC.regionL ?_)
   refine L.bin hF rfl rfl rfl rfl rfl rfl ?_
   refine L.assign hF rfl rfl rfl (L.nil ?_)
   refine WpC.cond rfl (fun hc => ?_) (fun hc => ?_)
   ·replace H := condT hc H
    refine WpC.skip ?_
    exact ⟨_, ⟨k, a0, (a0.Kind == (2 : Int)), by omega, H, rfl⟩, Le.mk [(0, 3)] hm rfl (Sa2 (Sa1 trivial)) trivial (Ba1 trivial)⟩
   ·replace H := condF hc H
    refine WpC.regionL ?_
    refine L.bin hF rfl rfl rfl rfl rfl rfl ?_
    refine L.assign hF rfl rfl rfl (L.nil ?_)
    exact ⟨_, ⟨k, a0, (a0.Kind == (3 : Int)), by omega, H, rfl⟩, Le.mk [(0, 3)] hm rfl (Sa2 (Sa1 trivial)) trivial (Ba1 trivial)⟩
/-! ### Fimpl_RulesOk_1 -/
def Fimpl_RulesOk_1 (k : Nat) (a0 : Timpl_Rule) : Option Bool := (Fimpl_ruleOk k a0).bind fun r1 => some (!r1)
theorem ent126 : MG.Enters Try.prog 126 := ⟨Try.f126, Try.func126, rfl, by decide⟩
set_option maxHeartbeats 8000000 in
set_option maxRecDepth 100000 in
theorem Fimpl_RulesOk_1_gives (k : Nat) (g0 : Bool) (a0 : Timpl_Rule) (r : Bool) (H : Fimpl_RulesOk_1 k a0 = some r) : Gives Try.prog 126 [V.agg [cI a0.Kind, Cell.sl g0 (List.map eI a0.Set), cI a0.N]] [] [V.one (cL r)] [] := by
 refine Gives.intro Try.func126 rfl rfl rfl rfl ?_
 intro F hF hm
 unfold Fimpl_RulesOk_1 at H
 obtain ⟨K, hK⟩ : ∃ K, k ≤ K := ⟨k, Nat.le_refl k⟩
 refine WpC.seq (WpC.regionL ?_)
 refine L.box 3 hF rfl rfl rfl rfl ?_
 refine L.assign hF rfl rfl rfl (L.nil ?_)
 refine WpC.seq (WpC.regionL ?_)
 refine L.loadPtr shape96 hF rfl rfl rfl rfl rfl rfl ?_
 obtain ⟨r1, hr1, H⟩ := bindS H
 refine L.call [false] [] [] 4 hF rfl rfl rfl ent127 rfl rfl rfl rfl rfl (Fimpl_ruleOk_gives k g0 a0 r1 hr1) rfl ?_
 refine L.not hF rfl rfl rfl ?_
 refine L.assign hF rfl rfl rfl (L.nil ?_)
 refine WpC.ret ?_
 cases H
 exact Leaves.ret rfl rfl rfl ⟨rfl, rfl⟩
/-! ### Fslices_IndexFunc_Rule__impl_RulesOk_1 -/
def Fslices_IndexFunc_Rule__impl_RulesOk_1.l2 : Nat → (List Timpl_Rule) → Int → Int → Option Int
 | 0, _, _, _ => none
 | k2 + 1, v34, v35, v36 => cond (decide (v36 < v35)) ((at? v34 v36).bind fun b39 => (Fimpl_RulesOk_1 k2 b39).bind fun r40 => cond r40 (some v36) ((Fslices_IndexFunc_Rule__impl_RulesOk_1.l2 k2) v34 v35 (IntKind.i64.wrap (v36 + (1 : Int))))) (some (-1 : Int))
def Fslices_IndexFunc_Rule__impl_RulesOk_1 (k : Nat) (a0 : List Timpl_Rule) : Option Int := Fslices_IndexFunc_Rule__impl_RulesOk_1.l2 k a0 (a0.length : Int) (0 : Int)
theorem ent152 : MG.Enters Try.prog 152 := ⟨Try.f152, Try.func152, rfl, by decide⟩
set_option maxHeartbeats 8000000 in
set_option maxRecDepth 100000 in
theorem Fslices_IndexFunc_Rule__impl_RulesOk_1_gives (k : Nat) (g0 : Bool) (a0 : List Timpl_Rule) (r : Int) (H : Fslices_IndexFunc_Rule__impl_RulesOk_1 k a0 = some r) : Gives Try.prog 152 [V.one (Cell.sl g0 (List.map eTimpl_Rule a0)), V.one (Cell.clo 126 [])] [] [V.one (cI r)] [] := by
 refine Gives.intro Try.func152 rfl rfl rfl rfl ?_
 intro F hF hm
 unfold Fslices_IndexFunc_Rule__impl_RulesOk_1 at H
 obtain ⟨K, hK⟩ : ∃ K, k ≤ K := ⟨k, Nat.le_refl k⟩
 refine WpC.seq (WpC.regionL ?_)
 refine L.assign hF rfl rfl rfl (L.nil ?_)
 refine WpC.seq (WpC.seq (WpC.regionL ?_))
 refine L.move hF rfl rfl rfl ?_
 refine L.lenR (xs := a0) (e := eTimpl_Rule) Try.underlying28 hF rfl rfl rfl rfl ?_
 refine L.move hF rfl rfl rfl (L.nil ?_)
 refine WpC.block ?_
 refine WpC.loopL (P := Try.prog) (fun n σ => ∃ v34 : List Timpl_Rule, ∃ v35 : Int, ∃ v36 : Int, n ≤ K ∧ Fslices_IndexFunc_Rule__impl_RulesOk_1.l2 n v34 v35 v36 = some r ∧ σ = mkSt [(0, one (Cell.sl g0 (List.map eTimpl_Rule v34))), (1, one (Cell.clo 126 [])), (7, one (cI v35)), (8, one (cI v36))] [] [] 0) k ⟨_, ⟨a0, (a0.length : Int), (0 : Int), by omega, H, rfl⟩, Le.mk [] hm rfl (Sa4 trivial) trivial trivial⟩ ?_
 clear H
 rintro k2 _ ⟨v34, v35, v36, hk2, H, rfl⟩
 cases k2 with
 | zero => cases H
 | succ k2 =>
  rw [Fslices_IndexFunc_Rule__impl_RulesOk_1.l2] at H
  refine WpC.seq (WpC.regionL ?_)
  refine L.bin hF rfl rfl rfl rfl rfl rfl (L.nil ?_)
  refine WpC.seq ?_
  refine WpC.cond rfl (fun hc => ?_) (fun hc => ?_)
  ·replace H := condT hc H
   refine WpC.skip (WpC.seq (WpC.block (WpC.seq (WpC.regionL ?_))))
   refine L.move hF rfl rfl rfl ?_
   refine L.assign hF rfl rfl rfl (L.nil ?_)
   refine WpC.seq (WpC.regionL ?_)
   refine L.move hF rfl rfl rfl ?_
   refine L.move hF rfl rfl rfl ?_
   refine L.move hF rfl rfl rfl ?_
   obtain ⟨b39, hb39, H⟩ := bindS H
   refine L.idxR (xs := v34) (e := eTimpl_Rule) Try.underlying28 info96 hF rfl rfl rfl rfl rfl hb39 rfl rfl ?_
   refine L.loadPe shape96 hF rfl rfl rfl rfl rfl ?_
   obtain ⟨r40, hr40, H⟩ := bindS H
   refine L.call [false] [] [] 0 hF rfl rfl rfl ent126 rfl rfl rfl rfl rfl (Fimpl_RulesOk_1_gives k2 g0 b39 r40 hr40) rfl (L.nil ?_)
   refine WpC.cond rfl (fun hc => ?_) (fun hc => ?_)
   ·replace H := condT hc H
    refine WpC.seq (WpC.regionL ?_)
    refine L.move hF rfl rfl rfl ?_
    refine L.assign hF rfl rfl rfl (L.nil ?_)
    refine WpC.ret ?_
    cases H
    exact Leaves.ret rfl rfl rfl ⟨rfl, rfl⟩
   ·replace H := condF hc H
    refine WpC.skip (WpC.regionL ?_)
    refine L.bin hF rfl rfl rfl rfl rfl rfl ?_
    refine L.move hF rfl rfl rfl (L.nil ?_)
    exact ⟨k2, _, by omega, ⟨v34, v35, (IntKind.i64.wrap (v36 + (1 : Int))), by omega, H, rfl⟩, Le.mk [] hm rfl (Sa4 trivial) trivial trivial⟩
  ·replace H := condF hc H
   refine WpC.exit (WpC.seq (WpC.regionL ?_))
   refine L.assign hF rfl rfl rfl (L.nil ?_)
   refine WpC.ret ?_
   cases H
   exact Leaves.ret rfl rfl rfl ⟨rfl, rfl⟩
/-! ### Fslices_ContainsFunc_Rule__impl_RulesOk_1 -/
def Fslices_ContainsFunc_Rule__impl_RulesOk_1 (k : Nat) (a0 : List Timpl_Rule) : Option Bool := (Fslices_IndexFunc_Rule__impl_RulesOk_1 k a0).bind fun r1 => some (decide (r1 ≥ (0 : Int)))
theorem ent125 : MG.Enters Try.prog 125 := ⟨Try.f125, Try.func125, rfl, by decide⟩
set_option maxHeartbeats 8000000 in
set_option maxRecDepth 100000 in
theorem Fslices_ContainsFunc_Rule__impl_RulesOk_1_gives (k : Nat) (g0 : Bool) (a0 : List Timpl_Rule) (r : Bool) (H : Fslices_ContainsFunc_Rule__impl_RulesOk_1 k a0 = some r) : Gives Try.prog 125 [V.one (Cell.sl g0 (List.map eTimpl_Rule a0)), V.one (Cell.clo 126 [])] [] [V.one (cL r)] [] := by
 refine Gives.intro Try.func125 rfl rfl rfl rfl ?_
 intro F hF hm
 unfold Fslices_ContainsFunc_Rule__impl_RulesOk_1 at H
 obtain ⟨K, hK⟩ : ∃ K, k ≤ K := ⟨k, Nat.le_refl k⟩
 refine WpC.seq (WpC.regionL ?_)
 refine L.assign hF rfl rfl rfl (L.nil ?_)
 refine WpC.seq (WpC.regionL ?_)
 refine L.move hF rfl rfl rfl ?_
 refine L.move hF rfl rfl rfl ?_
 obtain ⟨r1, hr1, H⟩ := bindS H
 refine L.call [false, false] [] [] 2 hF rfl rfl rfl ent152 rfl rfl rfl rfl rfl (Fslices_IndexFunc_Rule__impl_RulesOk_1_gives k g0 a0 r1 hr1) rfl ?_
 refine L.bin hF rfl rfl rfl rfl rfl rfl ?_
 refine L.assign hF rfl rfl rfl (L.nil ?_)
 refine WpC.ret ?_
 cases H
 exact Leaves.ret rfl rfl rfl ⟨rfl, rfl⟩
/-! ### Fimpl_RulesOk -/
def Fimpl_RulesOk (k : Nat) (a0 : List Timpl_Rule) : Option Bool := cond (decide ((a0.length : Int) ≤ (20 : Int))) ((Fslices_ContainsFunc_Rule__impl_RulesOk_1 k a0).bind fun r2 => some (!r2)) (some false)
theorem ent63 : MG.Enters Try.prog 63 := ⟨Try.f63, Try.func63, rfl, by decide⟩
set_option maxHeartbeats 8000000 in
set_option maxRecDepth 100000 in
theorem Fimpl_RulesOk_gives (k : Nat) (g0 : Bool) (a0 : List Timpl_Rule) (r : Bool) (H : Fimpl_RulesOk k a0 = some r) : Gives Try.prog 63 [V.one (Cell.sl g0 (List.map eTimpl_Rule a0))] [] [V.one (cL r)] [] := by
 refine Gives.intro Try.func63 rfl rfl rfl rfl ?_
 intro F hF hm
 unfold Fimpl_RulesOk at H
 obtain ⟨K, hK⟩ : ∃ K, k ≤ K := ⟨k, Nat.le_refl k⟩
 refine WpC.seq (WpC.regionL ?_)
 refine L.assign hF rfl rfl rfl (L.nil ?_)
 refine WpC.seq (WpC.regionL ?_)
 refine L.move hF rfl rfl rfl ?_
 refine L.lenR (xs := a0) (e := eTimpl_Rule) Try.underlying28 hF rfl rfl rfl rfl ?_
 refine L.bin hF rfl rfl rfl rfl rfl rfl ?_
 refine L.move hF rfl rfl rfl ?_
 refine L.split (fun hc => ?_) (fun hc => ?_)
 ·replace H := condT hc H
  refine L.move hF rfl rfl rfl ?_
  obtain ⟨r2, hr2, H⟩ := bindS H
  refine L.call [false, false] [] [] 1 hF rfl rfl rfl ent125 rfl rfl rfl rfl rfl (Fslices_ContainsFunc_Rule__impl_RulesOk_1_gives k g0 a0 r2 hr2) rfl ?_
  refine L.not hF rfl rfl rfl ?_
  refine L.pick hF rfl rfl rfl rfl ?_
  refine L.assign hF rfl rfl rfl (L.nil ?_)
  refine WpC.ret ?_
  cases H
  exact Leaves.ret rfl rfl rfl ⟨rfl, rfl⟩
 ·replace H := condF hc H
  refine L.off hF rfl rfl ?_
  refine L.off hF rfl rfl ?_
  refine L.off hF rfl rfl ?_
  refine L.pick hF rfl rfl rfl rfl ?_
  refine L.assign hF rfl rfl rfl (L.nil ?_)
  refine WpC.ret ?_
  cases H
  exact Leaves.ret rfl rfl rfl ⟨rfl, rfl⟩
/-! ### Fimpl_Var -/
def Fimpl_Var.l2 : Nat → Int → (List UInt8) → Option (List UInt8)
 | 0, _, _ => none
 | k2 + 1, v16, v17 => cond (decide (v16 > (127 : Int))) (cond (decide ((2 * (v17.length + ([(ofI (Go.bits .or .i64 (Go.bits .and .i64 v16 (127 : Int)) (128 : Int)))] : List UInt8).length) + 192) * 1 ≤ 281474976710656)) ((Fimpl_Var.l2 k2) (shrI .i64 v16 (7 : Int)) (v17 ++ ([(ofI (Go.bits .or .i64 (Go.bits .and .i64 v16 (127 : Int)) (128 : Int)))] : List UInt8))) none) (cond (decide ((2 * (v17.length + ([(ofI v16)] : List UInt8).length) + 192) * 1 ≤ 281474976710656)) (some (v17 ++ ([(ofI v16)] : List UInt8))) none)
def Fimpl_Var (k : Nat) (a0 : Int) : Option (List UInt8) := (Fimpl_within k a0 (0 : Int) (562949953421311 : Int)).bind fun r2 => cond (!r2) (some ([] : List UInt8)) (Fimpl_Var.l2 k a0 ([] : List UInt8))
theorem ent64 : MG.Enters Try.prog 64 := ⟨Try.f64, Try.func64, rfl, by decide⟩
set_option maxHeartbeats 8000000 in
set_option maxRecDepth 100000 in
theorem Fimpl_Var_gives (k : Nat) (a0 : Int) (r : List UInt8) (H : Fimpl_Var k a0 = some r) : Gives Try.prog 64 [V.one (cI a0)] [] [V.one (cS r)] [] := by
 refine Gives.intro Try.func64 rfl rfl rfl rfl ?_
 intro F hF hm
 unfold Fimpl_Var at H
 obtain ⟨K, hK⟩ : ∃ K, k ≤ K := ⟨k, Nat.le_refl k⟩
 refine WpC.seq (WpC.regionL ?_)
 refine L.assign hF rfl rfl rfl (L.nil ?_)
 refine WpC.seq (WpC.seq (WpC.regionL ?_))
 refine L.move hF rfl rfl rfl ?_
 obtain ⟨r2, hr2, H⟩ := bindS H
 refine L.call [false, false, false] [] [] 1 hF rfl rfl rfl ent78 rfl rfl rfl rfl rfl (Fimpl_within_gives k  a0 (0 : Int) (562949953421311 : Int) r2 hr2) rfl ?_
 refine L.not hF rfl rfl rfl (L.nil ?_)
 refine WpC.cond rfl (fun hc => ?_) (fun hc => ?_)
 ·replace H := condT hc H
  refine WpC.seq (WpC.regionL ?_)
  refine L.assign hF rfl rfl rfl (L.nil ?_)
  refine WpC.ret ?_
  cases H
  exact Leaves.ret rfl rfl rfl ⟨rfl, rfl⟩
 ·replace H := condF hc H
  refine WpC.skip (WpC.seq (WpC.regionL ?_))
  refine L.buildSlice (e := eB) 2 ([] : List UInt8) Try.underlying33 info5 rfl rfl rfl hF rfl rfl rfl rfl rfl rfl rfl rfl ?_
  refine L.assign hF rfl rfl rfl (L.nil ?_)
  refine WpC.seq (WpC.block ?_)
  refine WpC.loopL (P := Try.prog) (fun n σ => ∃ v16 : Int, ∃ v17 : List UInt8, n ≤ K ∧ Fimpl_Var.l2 n v16 v17 = some r ∧ σ = mkSt [(0, one (cI v16)), (3, one (Cell.own 0))] [(0, ⟨1, List.map eB v17⟩)] [] 1) k ⟨_, ⟨a0, ([] : List UInt8), by omega, H, rfl⟩, Le.mk [(0, 2)] hm rfl (Sa2 trivial) (Ra1 trivial) trivial⟩ ?_
  clear H
  rintro k2 _ ⟨v16, v17, hk2, H, rfl⟩
  cases k2 with
  | zero => cases H
  | succ k2 =>
   rw [Fimpl_Var.l2] at H
   refine WpC.seq (WpC.seq (WpC.regionL ?_))
   refine L.move hF rfl rfl rfl ?_
   refine L.bin hF rfl rfl rfl rfl rfl rfl (L.nil ?_)
   refine WpC.cond rfl (fun hc => ?_) (fun hc => ?_)
   ·replace H := condT hc H
    refine WpC.skip (WpC.block (WpC.seq (WpC.regionL ?_)))
    refine L.move hF rfl rfl rfl ?_
    refine L.move hF rfl rfl rfl ?_
    refine L.bin hF rfl rfl rfl rfl rfl rfl ?_
    refine L.bin hF rfl rfl rfl rfl rfl rfl ?_
    refine L.toB Try.underlying3 Try.underlying5 hF rfl rfl rfl ?_
    refine L.buildSlice (e := eB) 1 ([(ofI (Go.bits .or .i64 (Go.bits .and .i64 v16 (127 : Int)) (128 : Int)))] : List UInt8) Try.underlying33 info5 rfl rfl rfl hF rfl rfl rfl rfl rfl rfl rfl rfl ?_
    obtain ⟨h18, H⟩ := condG H
    refine L.append (xs := v17) (ys := ([(ofI (Go.bits .or .i64 (Go.bits .and .i64 v16 (127 : Int)) (128 : Int)))] : List UInt8)) (e := eB) 2 Try.underlying33 info5 rfl rfl hF rfl rfl rfl rfl rfl rfl rfl rfl (fun _ => rfl) (fun _ _ h1 h2 => by cases h1; cases h2; rfl) ⟨_, Try.underlying33⟩ (of_decide_eq_true h18) rfl rfl ?_
    refine L.assign hF rfl rfl rfl (L.nil ?_)
    refine WpC.regionL ?_
    refine L.move hF rfl rfl rfl ?_
    refine L.shr hF rfl rfl rfl rfl (by decide) ?_
    refine L.assign hF rfl rfl rfl (L.nil ?_)
    exact ⟨k2, _, by omega, ⟨(shrI .i64 v16 (7 : Int)), (v17 ++ ([(ofI (Go.bits .or .i64 (Go.bits .and .i64 v16 (127 : Int)) (128 : Int)))] : List UInt8)), by omega, H, rfl⟩, Le.mk [(0, 2)] hm rfl (Sa2 trivial) (Ra1 trivial) trivial⟩
   ·replace H := condF hc H
    refine WpC.exit (WpC.seq (WpC.regionL ?_))
    refine L.move hF rfl rfl rfl ?_
    refine L.move hF rfl rfl rfl ?_
    refine L.toB Try.underlying3 Try.underlying5 hF rfl rfl rfl ?_
    refine L.buildSlice (e := eB) 1 ([(ofI v16)] : List UInt8) Try.underlying33 info5 rfl rfl rfl hF rfl rfl rfl rfl rfl rfl rfl rfl ?_
    obtain ⟨h19, H⟩ := condG H
    refine L.append (xs := v17) (ys := ([(ofI v16)] : List UInt8)) (e := eB) 2 Try.underlying33 info5 rfl rfl hF rfl rfl rfl rfl rfl rfl rfl rfl (fun _ => rfl) (fun _ _ h1 h2 => by cases h1; cases h2; rfl) ⟨_, Try.underlying33⟩ (of_decide_eq_true h19) rfl rfl ?_
    refine L.b2s (xs := (v17 ++ ([(ofI v16)] : List UInt8))) Try.underlying33 Try.underlying5 Try.underlying9 hF rfl rfl rfl rfl ?_
    refine L.assign hF rfl rfl rfl (L.nil ?_)
    refine WpC.ret ?_
    cases H
    exact Leaves.ret rfl rfl rfl ⟨rfl, rfl⟩
/-! ### Fimpl_ShowRules -/
def Fimpl_ShowRules.l14 (cl12 : (List UInt8) → (List Timpl_Rule) → Int → Int → Option (List UInt8)) : Nat → (List UInt8) → (List Timpl_Rule) → Int → Int → Timpl_Rule → Int → Int → Option (List UInt8)
 | 0, _, _, _, _, _, _, _ => none
 | k14 + 1, v541, v542, v543, v544, v545, v546, v547 => cond (decide (v547 < v546)) ((at? v545.Set v547).bind fun b551 => (Fimpl_Var k14 b551).bind fun r552 => cond (decide (v541.length + r552.length ≤ 9223372036854775807)) ((Fimpl_ShowRules.l14 cl12 k14) (v541 ++ r552) v542 v543 v544 v545 v546 (IntKind.i64.wrap (v547 + (1 : Int)))) none) (cl12 v541 v542 v543 (IntKind.i64.wrap (v544 + (1 : Int))))
def Fimpl_ShowRules.l12 : Nat → (List UInt8) → (List Timpl_Rule) → Int → Int → Option (List UInt8)
 | 0, _, _, _, _ => none
 | k12 + 1, v460, v461, v462, v463 => cond (decide (v463 < v462)) ((at? v461 v463).bind fun b509 => (Fimpl_Var k12 b509.Kind).bind fun r510 => cond (decide (v460.length + r510.length ≤ 9223372036854775807)) ((Fimpl_Var k12 b509.N).bind fun r512 => cond (decide ((v460 ++ r510).length + r512.length ≤ 9223372036854775807)) ((Fimpl_Var k12 (b509.Set.length : Int)).bind fun r514 => cond (decide (((v460 ++ r510) ++ r512).length + r514.length ≤ 9223372036854775807)) (Fimpl_ShowRules.l14 (Fimpl_ShowRules.l12 k12) k12 (((v460 ++ r510) ++ r512) ++ r514) v461 v462 v463 b509 (b509.Set.length : Int) (0 : Int)) none) none) none) (some v460)
def Fimpl_ShowRules (k : Nat) (a0 : List Timpl_Rule) : Option (List UInt8) := (Fimpl_RulesOk k a0).bind fun r2 => cond (!r2) (some ([] : List UInt8)) ((Fimpl_Var k (a0.length : Int)).bind fun r3 => Fimpl_ShowRules.l12 k r3 a0 (a0.length : Int) (0 : Int))
theorem ent23 : MG.Enters Try.prog 23 := ⟨Try.f23, Try.func23, rfl, by decide⟩
set_option maxHeartbeats 8000000 in
set_option maxRecDepth 100000 in
theorem Fimpl_ShowRules_gives (k : Nat) (g0 : Bool) (a0 : List Timpl_Rule) (r : List UInt8) (H : Fimpl_ShowRules k a0 = some r) : Gives Try.prog 23 [V.one (Cell.sl g0 (List.map eTimpl_Rule a0))] [] [V.one (cS r)] [] := by
 refine Gives.intro Try.func23 rfl rfl rfl rfl ?_
 intro F hF hm
 unfold Fimpl_ShowRules at H
 obtain ⟨K, hK⟩ : ∃ K, k ≤ K := ⟨k, Nat.le_refl k⟩
 refine WpC.seq (WpC.regionL ?_)
 refine L.assign hF rfl rfl rfl (L.nil ?_)
 refine WpC.seq (WpC.seq (WpC.regionL ?_))
 refine L.move hF rfl rfl rfl ?_
 obtain ⟨r2, hr2, H⟩ := bindS H
 refine L.call [false] [] [] 1 hF rfl rfl rfl ent63 rfl rfl rfl rfl rfl (Fimpl_RulesOk_gives k g0 a0 r2 hr2) rfl ?_
 refine L.not hF rfl rfl rfl (L.nil ?_)
 refine WpC.cond rfl (fun hc => ?_) (fun hc => ?_)
 ·replace H := condT hc H
  refine WpC.seq (WpC.regionL ?_)
  refine L.assign hF rfl rfl rfl (L.nil ?_)
  refine WpC.ret ?_
  cases H
  exact Leaves.ret rfl rfl rfl ⟨rfl, rfl⟩
 ·replace H := condF hc H
  refine WpC.skip (WpC.seq (WpC.regionL ?_))
  refine L.move hF rfl rfl rfl ?_
  refine L.lenR (xs := a0) (e := eTimpl_Rule) Try.underlying28 hF rfl rfl rfl rfl ?_
  obtain ⟨r3, hr3, H⟩ := bindS H
  refine L.call [false] [] [] 2 hF rfl rfl rfl ent64 rfl rfl rfl rfl rfl (Fimpl_Var_gives k  (a0.length : Int) r3 hr3) rfl ?_
  refine L.assign hF rfl rfl rfl (L.nil ?_)
  refine WpC.seq (WpC.seq (WpC.regionL ?_))
  refine L.move hF rfl rfl rfl ?_
  refine L.lenR (xs := a0) (e := eTimpl_Rule) Try.underlying28 hF rfl rfl rfl rfl ?_
  refine L.move hF rfl rfl rfl (L.nil ?_)
  refine WpC.block ?_
  refine WpC.loopL (P := Try.prog) (fun n σ => ∃ v460 : List UInt8, ∃ v461 : List Timpl_Rule, ∃ v462 : Int, ∃ v463 : Int, n ≤ K ∧ Fimpl_ShowRules.l12 n v460 v461 v462 v463 = some r ∧ σ = mkSt [(3, one (cS v460)), (14, one (Cell.sl g0 (List.map eTimpl_Rule v461))), (15, one (cI v462)), (16, one (cI v463))] [] [] 0) k ⟨_, ⟨r3, a0, (a0.length : Int), (0 : Int), by omega, H, rfl⟩, Le.mk [] hm rfl (Sa4 trivial) trivial trivial⟩ ?_
  clear H
  rintro k12 _ ⟨v460, v461, v462, v463, hk12, H, rfl⟩
  cases k12 with
  | zero => cases H
  | succ k12 =>
   rw [Fimpl_ShowRules.l12] at H
   refine WpC.seq (WpC.regionL ?_)
   refine L.bin hF rfl rfl rfl rfl rfl rfl (L.nil ?_)
   refine WpC.seq ?_
   refine WpC.cond rfl (fun hc => ?_) (fun hc => ?_)
   ·replace H := condT hc H
    refine WpC.skip (WpC.seq (WpC.block (WpC.seq (WpC.regionL ?_))))
    obtain ⟨b509, hb509, H⟩ := bindS H
    refine L.idxR (xs := v461) (e := eTimpl_Rule) Try.underlying28 info96 hF rfl rfl rfl rfl rfl hb509 rfl rfl ?_
    refine L.loadPe shape96 hF rfl rfl rfl rfl rfl ?_
    refine L.alloc 0 info96 rfl hF rfl rfl rfl rfl ?_
    refine L.storePtr shape96 hF rfl rfl rfl rfl rfl rfl rfl (L.nil ?_)
    refine WpC.seq ?_
    obtain ⟨r510, hr510, H⟩ := bindS H
    obtain ⟨h511, H⟩ := condG H
    obtain ⟨r512, hr512, H⟩ := bindS H
    obtain ⟨h513, H⟩ := condG H
    obtain ⟨r514, hr514, H⟩ := bindS H
    obtain ⟨h515, H⟩ := condG H
    refine A.begin mixed rfl rfl ?_
    intro W hI hO
    have n4095 : W 3 #[true, true, true, true, true, true, true, true, true, true, true, true, false, false, false] (mkSt [(3, one (cS v460)), (5, one (Cell.ptr 0 0)), (14, one (Cell.sl g0 (List.map eTimpl_Rule v461))), (15, one (cI v462)), (16, one (cI v463)), (28, one (cS ((v460 ++ r510) ++ r512))), (31, one (cI (b509.Set.length : Int)))] [] [(0, (bTimpl_Rule g0 b509))] 1) := by
     refine hI _ _ _ ?_
     refine A.all [12] (by kernel_rfl) rfl ⟨⟨_, rfl, ?_⟩, trivial⟩
     refine L.call [false] [] [] 1 hF rfl rfl rfl ent64 rfl rfl rfl rfl rfl (Fimpl_Var_gives k12  (b509.Set.length : Int) r514 hr514) rfl (L.nil ?_)
     refine Atk 13 rfl (Ca.bin rfl rfl (calm_str _ _ _ _ _ _)) (fun Q0 k0 => L.catS hF rfl rfl rfl rfl (of_decide_eq_true h515) (L.nil k0)) ?_
     refine Atk 14 rfl (Ca.assign) (fun Q0 k0 => L.assign hF rfl rfl rfl (L.nil k0)) ?_
     refine A.le (τ := mkSt [(3, one (cS (((v460 ++ r510) ++ r512) ++ r514))), (5, one (Cell.ptr 0 0)), (14, one (Cell.sl g0 (List.map eTimpl_Rule v461))), (15, one (cI v462)), (16, one (cI v463))] [] [(0, (bTimpl_Rule g0 b509))] 1) (Le.mk [(0, 0)] hm rfl (Sa4 (Sa1 trivial)) trivial (Ba1 trivial)) ?_
     refine A.done (by kernel_rfl) ?_
     refine WpC.seq (WpC.regionL ?_)
     refine L.fieldAddr Try.underlying96 rfl info39 rfl hF rfl rfl rfl rfl rfl ?_
     refine L.loadPtr shape39 hF rfl rfl rfl rfl rfl rfl ?_
     refine L.lenR (xs := b509.Set) (e := eI) Try.underlying39 hF rfl rfl rfl rfl ?_
     refine L.move hF rfl rfl rfl (L.nil ?_)
     refine WpC.block ?_
     refine WpC.loopL (P := Try.prog) (fun n σ => ∃ v541 : List UInt8, ∃ v542 : List Timpl_Rule, ∃ v543 : Int, ∃ v544 : Int, ∃ v545 : Timpl_Rule, ∃ v546 : Int, ∃ v547 : Int, n ≤ K ∧ Fimpl_ShowRules.l14 (Fimpl_ShowRules.l12 k12) n v541 v542 v543 v544 v545 v546 v547 = some r ∧ σ = mkSt [(3, one (cS v541)), (14, one (Cell.sl g0 (List.map eTimpl_Rule v542))), (15, one (cI v543)), (16, one (cI v544)), (35, one (Cell.sl g0 (List.map eI v545.Set))), (36, one (cI v546)), (37, one (cI v547))] [] [] 0) k12 ⟨_, ⟨(((v460 ++ r510) ++ r512) ++ r514), v461, v462, v463, b509, (b509.Set.length : Int), (0 : Int), by omega, H, rfl⟩, Le.mk [] hm rfl (Sa4 (Sa2 (Sa1 trivial))) trivial trivial⟩ ?_
     clear H
     rintro k14 _ ⟨v541, v542, v543, v544, v545, v546, v547, hk14, H, rfl⟩
     cases k14 with
     | zero => cases H
     | succ k14 =>
      rw [Fimpl_ShowRules.l14] at H
      refine WpC.seq (WpC.regionL ?_)
      refine L.bin hF rfl rfl rfl rfl rfl rfl (L.nil ?_)
      refine WpC.seq ?_
      refine WpC.cond rfl (fun hc => ?_) (fun hc => ?_)
      ·replace H := condT hc H
       refine WpC.skip (WpC.seq (WpC.block (WpC.seq (WpC.regionL ?_))))
       obtain ⟨b551, hb551, H⟩ := bindS H
       refine L.idxR (xs := v545.Set) (e := eI) Try.underlying39 info3 hF rfl rfl rfl rfl rfl hb551 rfl rfl ?_
       refine L.loadPe shape3 hF rfl rfl rfl rfl rfl ?_
       refine L.assign hF rfl rfl rfl (L.nil ?_)
       refine WpC.regionL ?_
       refine L.move hF rfl rfl rfl ?_
       refine L.move hF rfl rfl rfl ?_
       obtain ⟨r552, hr552, H⟩ := bindS H
       refine L.call [false] [] [] 0 hF rfl rfl rfl ent64 rfl rfl rfl rfl rfl (Fimpl_Var_gives k14  b551 r552 hr552) rfl ?_
       obtain ⟨h553, H⟩ := condG H
       refine L.catS hF rfl rfl rfl rfl (of_decide_eq_true h553) ?_
       refine L.assign hF rfl rfl rfl (L.nil ?_)
       refine WpC.regionL ?_
       refine L.bin hF rfl rfl rfl rfl rfl rfl ?_
       refine L.move hF rfl rfl rfl (L.nil ?_)
       exact ⟨k14, _, by omega, ⟨(v541 ++ r552), v542, v543, v544, v545, v546, (IntKind.i64.wrap (v547 + (1 : Int))), by omega, H, rfl⟩, Le.mk [] hm rfl (Sa4 (Sa2 (Sa1 trivial))) trivial trivial⟩
      ·replace H := condF hc H
       refine WpC.exit (WpC.regionL ?_)
       refine L.bin hF rfl rfl rfl rfl rfl rfl ?_
       refine L.move hF rfl rfl rfl (L.nil ?_)
       exact ⟨k12, _, by omega, ⟨v541, v542, v543, (IntKind.i64.wrap (v544 + (1 : Int))), by omega, H, rfl⟩, Le.mk [] hm rfl (Sa4 trivial) trivial trivial⟩
    have n3711 : W 5 #[true, true, true, true, true, true, true, false, false, true, true, true, false, false, false] (mkSt [(3, one (cS v460)), (5, one (Cell.ptr 0 0)), (14, one (Cell.sl g0 (List.map eTimpl_Rule v461))), (15, one (cI v462)), (16, one (cI v463)), (24, one (cS (v460 ++ r510))), (26, one (cI b509.N)), (31, one (cI (b509.Set.length : Int)))] [] [(0, (bTimpl_Rule g0 b509))] 1) := by
     refine hI _ _ _ ?_
     refine A.all [7] (by kernel_rfl) rfl ⟨⟨_, rfl, ?_⟩, trivial⟩
     refine L.call [false] [] [] 1 hF rfl rfl rfl ent64 rfl rfl rfl rfl rfl (Fimpl_Var_gives k12  b509.N r512 hr512) rfl (L.nil ?_)
     refine Atk 8 rfl (Ca.bin rfl rfl (calm_str _ _ _ _ _ _)) (fun Q0 k0 => L.catS hF rfl rfl rfl rfl (of_decide_eq_true h513) (L.nil k0)) ?_
     exact A.on (hO _ _ _ n4095) (Le.mk [(0, 0)] hm rfl (Sa4 (Sa2 (Sa1 trivial))) trivial (Ba1 trivial))
    have n3647 : W 6 #[true, true, true, true, true, true, false, false, false, true, true, true, false, false, false] (mkSt [(3, one (cS v460)), (5, one (Cell.ptr 0 0)), (14, one (Cell.sl g0 (List.map eTimpl_Rule v461))), (15, one (cI v462)), (16, one (cI v463)), (24, one (cS (v460 ++ r510))), (25, one (Cell.ptr 0 2)), (31, one (cI (b509.Set.length : Int)))] [] [(0, (bTimpl_Rule g0 b509))] 1) := by
     refine hI _ _ _ ?_
     refine A.all [6] (by kernel_rfl) rfl ⟨⟨_, rfl, ?_⟩, trivial⟩
     refine L.loadPtr shape3 hF rfl rfl rfl rfl rfl rfl (L.nil ?_)
     exact A.on (hO _ _ _ n3711) (Le.mk [(0, 0)] hm rfl (Sa8 trivial) trivial (Ba1 trivial))
    have n639 : W 7 #[true, true, true, true, true, true, true, false, false, true, false, false, false, false, false] (mkSt [(3, one (cS v460)), (5, one (Cell.ptr 0 0)), (14, one (Cell.sl g0 (List.map eTimpl_Rule v461))), (15, one (cI v462)), (16, one (cI v463)), (24, one (cS (v460 ++ r510))), (26, one (cI b509.N)), (29, one (Cell.ptr 0 1))] [] [(0, (bTimpl_Rule g0 b509))] 1) := by
     refine hI _ _ _ ?_
     refine A.all [7, 10] (by kernel_rfl) rfl ⟨⟨_, rfl, ?_⟩, ⟨_, rfl, ?_⟩, trivial⟩
     ·refine L.call [false] [] [] 1 hF rfl rfl rfl ent64 rfl rfl rfl rfl rfl (Fimpl_Var_gives k12  b509.N r512 hr512) rfl (L.nil ?_)
      refine Atk 8 rfl (Ca.bin rfl rfl (calm_str _ _ _ _ _ _)) (fun Q0 k0 => L.catS hF rfl rfl rfl rfl (of_decide_eq_true h513) (L.nil k0)) ?_
      refine A.all [10] (by kernel_rfl) rfl ⟨⟨_, rfl, ?_⟩, trivial⟩
      refine L.loadPtr shape39 hF rfl rfl rfl rfl rfl rfl (L.nil ?_)
      refine Atk 11 rfl (Ca.lenR (xs := b509.Set) (e := eI) Try.underlying39 rfl rfl) (fun Q0 k0 => L.lenR (xs := b509.Set) (e := eI) Try.underlying39 hF rfl rfl rfl rfl (L.nil k0)) ?_
      exact A.on (hO _ _ _ n4095) (Le.mk [(0, 0)] hm rfl (Sa4 (Sa2 (Sa1 trivial))) trivial (Ba1 trivial))
     ·refine L.loadPtr shape39 hF rfl rfl rfl rfl rfl rfl (L.nil ?_)
      refine Atk 11 rfl (Ca.lenR (xs := b509.Set) (e := eI) Try.underlying39 rfl rfl) (fun Q0 k0 => L.lenR (xs := b509.Set) (e := eI) Try.underlying39 hF rfl rfl rfl rfl (L.nil k0)) ?_
      exact A.on (hO _ _ _ n3711) (Le.mk [(0, 0)] hm rfl (Sa8 trivial) trivial (Ba1 trivial))
    have n3687 : W 7 #[true, true, true, false, false, true, true, false, false, true, true, true, false, false, false] (mkSt [(3, one (cS v460)), (5, one (Cell.ptr 0 0)), (14, one (Cell.sl g0 (List.map eTimpl_Rule v461))), (15, one (cI v462)), (16, one (cI v463)), (20, one (cS v460)), (22, one (cI b509.Kind)), (26, one (cI b509.N)), (31, one (cI (b509.Set.length : Int)))] [] [(0, (bTimpl_Rule g0 b509))] 1) := by
     refine hI _ _ _ ?_
     refine A.all [3] (by kernel_rfl) rfl ⟨⟨_, rfl, ?_⟩, trivial⟩
     refine L.call [false] [] [] 1 hF rfl rfl rfl ent64 rfl rfl rfl rfl rfl (Fimpl_Var_gives k12  b509.Kind r510 hr510) rfl (L.nil ?_)
     refine Atk 4 rfl (Ca.bin rfl rfl (calm_str _ _ _ _ _ _)) (fun Q0 k0 => L.catS hF rfl rfl rfl rfl (of_decide_eq_true h511) (L.nil k0)) ?_
     exact A.on (hO _ _ _ n3711) (Le.mk [(0, 0)] hm rfl (Sa8 trivial) trivial (Ba1 trivial))
    have n3623 : W 8 #[true, true, true, false, false, true, false, false, false, true, true, true, false, false, false] (mkSt [(3, one (cS v460)), (5, one (Cell.ptr 0 0)), (14, one (Cell.sl g0 (List.map eTimpl_Rule v461))), (15, one (cI v462)), (16, one (cI v463)), (20, one (cS v460)), (22, one (cI b509.Kind)), (25, one (Cell.ptr 0 2)), (31, one (cI (b509.Set.length : Int)))] [] [(0, (bTimpl_Rule g0 b509))] 1) := by
     refine hI _ _ _ ?_
     refine A.all [3, 6] (by kernel_rfl) rfl ⟨⟨_, rfl, ?_⟩, ⟨_, rfl, ?_⟩, trivial⟩
     ·refine L.call [false] [] [] 1 hF rfl rfl rfl ent64 rfl rfl rfl rfl rfl (Fimpl_Var_gives k12  b509.Kind r510 hr510) rfl (L.nil ?_)
      refine Atk 4 rfl (Ca.bin rfl rfl (calm_str _ _ _ _ _ _)) (fun Q0 k0 => L.catS hF rfl rfl rfl rfl (of_decide_eq_true h511) (L.nil k0)) ?_
      exact A.on (hO _ _ _ n3647) (Le.mk [(0, 0)] hm rfl (Sa8 trivial) trivial (Ba1 trivial))
     ·refine L.loadPtr shape3 hF rfl rfl rfl rfl rfl rfl (L.nil ?_)
      exact A.on (hO _ _ _ n3687) (Le.mk [(0, 0)] hm rfl (Sa8 (Sa1 trivial)) trivial (Ba1 trivial))
    have n3683 : W 8 #[true, true, false, false, false, true, true, false, false, true, true, true, false, false, false] (mkSt [(3, one (cS v460)), (5, one (Cell.ptr 0 0)), (14, one (Cell.sl g0 (List.map eTimpl_Rule v461))), (15, one (cI v462)), (16, one (cI v463)), (20, one (cS v460)), (21, one (Cell.ptr 0 0)), (26, one (cI b509.N)), (31, one (cI (b509.Set.length : Int)))] [] [(0, (bTimpl_Rule g0 b509))] 1) := by
     refine hI _ _ _ ?_
     refine A.all [2] (by kernel_rfl) rfl ⟨⟨_, rfl, ?_⟩, trivial⟩
     refine L.loadPtr shape3 hF rfl rfl rfl rfl rfl rfl (L.nil ?_)
     exact A.on (hO _ _ _ n3687) (Le.mk [(0, 0)] hm rfl (Sa8 (Sa1 trivial)) trivial (Ba1 trivial))
    have n615 : W 9 #[true, true, true, false, false, true, true, false, false, true, false, false, false, false, false] (mkSt [(3, one (cS v460)), (5, one (Cell.ptr 0 0)), (14, one (Cell.sl g0 (List.map eTimpl_Rule v461))), (15, one (cI v462)), (16, one (cI v463)), (20, one (cS v460)), (22, one (cI b509.Kind)), (26, one (cI b509.N)), (29, one (Cell.ptr 0 1))] [] [(0, (bTimpl_Rule g0 b509))] 1) := by
     refine hI _ _ _ ?_
     refine A.all [3, 10] (by kernel_rfl) rfl ⟨⟨_, rfl, ?_⟩, ⟨_, rfl, ?_⟩, trivial⟩
     ·refine L.call [false] [] [] 1 hF rfl rfl rfl ent64 rfl rfl rfl rfl rfl (Fimpl_Var_gives k12  b509.Kind r510 hr510) rfl (L.nil ?_)
      refine Atk 4 rfl (Ca.bin rfl rfl (calm_str _ _ _ _ _ _)) (fun Q0 k0 => L.catS hF rfl rfl rfl rfl (of_decide_eq_true h511) (L.nil k0)) ?_
      exact A.on (hO _ _ _ n639) (Le.mk [(0, 0)] hm rfl (Sa8 trivial) trivial (Ba1 trivial))
     ·refine L.loadPtr shape39 hF rfl rfl rfl rfl rfl rfl (L.nil ?_)
      refine Atk 11 rfl (Ca.lenR (xs := b509.Set) (e := eI) Try.underlying39 rfl rfl) (fun Q0 k0 => L.lenR (xs := b509.Set) (e := eI) Try.underlying39 hF rfl rfl rfl rfl (L.nil k0)) ?_
      exact A.on (hO _ _ _ n3687) (Le.mk [(0, 0)] hm rfl (Sa8 (Sa1 trivial)) trivial (Ba1 trivial))
    refine hI _ _ _ ?_
    refine Atk 0 rfl (Ca.move) (fun Q0 k0 => L.move hF rfl rfl rfl (L.nil k0)) ?_
    refine Atk 1 rfl (Ca.fieldAddr Try.underlying96 rfl info3 rfl) (fun Q0 k0 => L.fieldAddr Try.underlying96 rfl info3 rfl hF rfl rfl rfl rfl rfl (L.nil k0)) ?_
    refine Atk 5 rfl (Ca.fieldAddr Try.underlying96 rfl info3 rfl) (fun Q0 k0 => L.fieldAddr Try.underlying96 rfl info3 rfl hF rfl rfl rfl rfl rfl (L.nil k0)) ?_
    refine Atk 9 rfl (Ca.fieldAddr Try.underlying96 rfl info39 rfl) (fun Q0 k0 => L.fieldAddr Try.underlying96 rfl info39 rfl hF rfl rfl rfl rfl rfl (L.nil k0)) ?_
    refine A.all [2, 6, 10] (by kernel_rfl) rfl ⟨⟨_, rfl, ?_⟩, ⟨_, rfl, ?_⟩, ⟨_, rfl, ?_⟩, trivial⟩
    ·refine L.loadPtr shape3 hF rfl rfl rfl rfl rfl rfl (L.nil ?_)
     refine A.all [3, 6, 10] (by kernel_rfl) rfl ⟨⟨_, rfl, ?_⟩, ⟨_, rfl, ?_⟩, ⟨_, rfl, ?_⟩, trivial⟩
     ·refine L.call [false] [] [] 1 hF rfl rfl rfl ent64 rfl rfl rfl rfl rfl (Fimpl_Var_gives k12  b509.Kind r510 hr510) rfl (L.nil ?_)
      refine Atk 4 rfl (Ca.bin rfl rfl (calm_str _ _ _ _ _ _)) (fun Q0 k0 => L.catS hF rfl rfl rfl rfl (of_decide_eq_true h511) (L.nil k0)) ?_
      refine A.all [6, 10] (by kernel_rfl) rfl ⟨⟨_, rfl, ?_⟩, ⟨_, rfl, ?_⟩, trivial⟩
      ·refine L.loadPtr shape3 hF rfl rfl rfl rfl rfl rfl (L.nil ?_)
       exact A.on (hO _ _ _ n639) (Le.mk [(0, 0)] hm rfl (Sa8 trivial) trivial (Ba1 trivial))
      ·refine L.loadPtr shape39 hF rfl rfl rfl rfl rfl rfl (L.nil ?_)
       refine Atk 11 rfl (Ca.lenR (xs := b509.Set) (e := eI) Try.underlying39 rfl rfl) (fun Q0 k0 => L.lenR (xs := b509.Set) (e := eI) Try.underlying39 hF rfl rfl rfl rfl (L.nil k0)) ?_
       exact A.on (hO _ _ _ n3647) (Le.mk [(0, 0)] hm rfl (Sa8 trivial) trivial (Ba1 trivial))
     ·refine L.loadPtr shape3 hF rfl rfl rfl rfl rfl rfl (L.nil ?_)
      exact A.on (hO _ _ _ n615) (Le.mk [(0, 0)] hm rfl (Sa8 (Sa1 trivial)) trivial (Ba1 trivial))
     ·refine L.loadPtr shape39 hF rfl rfl rfl rfl rfl rfl (L.nil ?_)
      refine Atk 11 rfl (Ca.lenR (xs := b509.Set) (e := eI) Try.underlying39 rfl rfl) (fun Q0 k0 => L.lenR (xs := b509.Set) (e := eI) Try.underlying39 hF rfl rfl rfl rfl (L.nil k0)) ?_
      exact A.on (hO _ _ _ n3623) (Le.mk [(0, 0)] hm rfl (Sa8 (Sa1 trivial)) trivial (Ba1 trivial))
    ·refine L.loadPtr shape3 hF rfl rfl rfl rfl rfl rfl (L.nil ?_)
     refine A.all [2, 10] (by kernel_rfl) rfl ⟨⟨_, rfl, ?_⟩, ⟨_, rfl, ?_⟩, trivial⟩
     ·refine L.loadPtr shape3 hF rfl rfl rfl rfl rfl rfl (L.nil ?_)
      exact A.on (hO _ _ _ n615) (Le.mk [(0, 0)] hm rfl (Sa8 (Sa1 trivial)) trivial (Ba1 trivial))
     ·refine L.loadPtr shape39 hF rfl rfl rfl rfl rfl rfl (L.nil ?_)
      refine Atk 11 rfl (Ca.lenR (xs := b509.Set) (e := eI) Try.underlying39 rfl rfl) (fun Q0 k0 => L.lenR (xs := b509.Set) (e := eI) Try.underlying39 hF rfl rfl rfl rfl (L.nil k0)) ?_
      exact A.on (hO _ _ _ n3683) (Le.mk [(0, 0)] hm rfl (Sa8 (Sa1 trivial)) trivial (Ba1 trivial))
    ·refine L.loadPtr shape39 hF rfl rfl rfl rfl rfl rfl (L.nil ?_)
     refine Atk 11 rfl (Ca.lenR (xs := b509.Set) (e := eI) Try.underlying39 rfl rfl) (fun Q0 k0 => L.lenR (xs := b509.Set) (e := eI) Try.underlying39 hF rfl rfl rfl rfl (L.nil k0)) ?_
     refine A.all [2, 6] (by kernel_rfl) rfl ⟨⟨_, rfl, ?_⟩, ⟨_, rfl, ?_⟩, trivial⟩
     ·refine L.loadPtr shape3 hF rfl rfl rfl rfl rfl rfl (L.nil ?_)
      exact A.on (hO _ _ _ n3623) (Le.mk [(0, 0)] hm rfl (Sa8 (Sa1 trivial)) trivial (Ba1 trivial))
     ·refine L.loadPtr shape3 hF rfl rfl rfl rfl rfl rfl (L.nil ?_)
      exact A.on (hO _ _ _ n3683) (Le.mk [(0, 0)] hm rfl (Sa8 (Sa1 trivial)) trivial (Ba1 trivial))
   ·replace H := condF hc H
    refine WpC.exit (WpC.seq (WpC.regionL ?_))
    refine L.move hF rfl rfl rfl ?_
    refine L.assign hF rfl rfl rfl (L.nil ?_)
    refine WpC.ret ?_
    cases H
    exact Leaves.ret rfl rfl rfl ⟨rfl, rfl⟩
/-! ### Fimpl_ReadVar -/
def Fimpl_ReadVar.l2 : Nat → (List UInt8) → Int → Int → Option (Int × Int)
 | 0, _, _, _ => none
 | k2 + 1, v82, v83, v84 => cond (decide (v84 < (v82.length : Int))) (cond (decide (v84 < (7 : Int))) ((at? v82 v84).bind fun b92 => cond (!(decide ((IntKind.i64.wrap ((7 : Int) * v84)) < 0))) ((at? v82 v84).bind fun b94 => cond (decide (b94 < (128 : UInt8))) ((Fimpl_Var k2 (Go.bits .or .i64 v83 (shlI .i64 ((b92 &&& (127 : UInt8)).toNat : Int) (IntKind.i64.wrap ((7 : Int) * v84))))).bind fun r97 => (cut? v82 (0 : Int) (IntKind.i64.wrap (v84 + (1 : Int)))).bind fun b98 => cond (r97 != b98) (some ((0 : Int), (0 : Int))) (some ((Go.bits .or .i64 v83 (shlI .i64 ((b92 &&& (127 : UInt8)).toNat : Int) (IntKind.i64.wrap ((7 : Int) * v84)))), (IntKind.i64.wrap (v84 + (1 : Int)))))) ((Fimpl_ReadVar.l2 k2) v82 (Go.bits .or .i64 v83 (shlI .i64 ((b92 &&& (127 : UInt8)).toNat : Int) (IntKind.i64.wrap ((7 : Int) * v84)))) (IntKind.i64.wrap (v84 + (1 : Int))))) none) (some ((0 : Int), (0 : Int)))) (some ((0 : Int), (0 : Int)))
def Fimpl_ReadVar (k : Nat) (a0 : List UInt8) : Option (Int × Int) := Fimpl_ReadVar.l2 k a0 (0 : Int) (0 : Int)
theorem ent123 : MG.Enters Try.prog 123 := ⟨Try.f123, Try.func123, rfl, by decide⟩
set_option maxHeartbeats 8000000 in
set_option maxRecDepth 100000 in
theorem Fimpl_ReadVar_gives (k : Nat) (a0 : List UInt8) (r : Int × Int) (H : Fimpl_ReadVar k a0 = some r) : Gives Try.prog 123 [V.one (cS a0)] [] [V.one (cI r.1), V.one (cI r.2)] [] := by
 refine Gives.intro Try.func123 rfl rfl rfl rfl ?_
 intro F hF hm
 unfold Fimpl_ReadVar at H
 obtain ⟨K, hK⟩ : ∃ K, k ≤ K := ⟨k, Nat.le_refl k⟩
 refine WpC.seq (WpC.regionL ?_)
 refine L.assign hF rfl rfl rfl ?_
 refine L.assign hF rfl rfl rfl (L.nil ?_)
 refine WpC.seq (WpC.regionL ?_)
 refine L.assign hF rfl rfl rfl (L.nil ?_)
 refine WpC.seq (WpC.seq (WpC.regionL ?_))
 refine L.assign hF rfl rfl rfl (L.nil ?_)
 refine WpC.block ?_
 refine WpC.loopL (P := Try.prog) (fun n σ => ∃ v82 : List UInt8, ∃ v83 : Int, ∃ v84 : Int, n ≤ K ∧ Fimpl_ReadVar.l2 n v82 v83 v84 = some r ∧ σ = mkSt [(0, one (cS v82)), (4, one (cI v83)), (5, one (cI v84))] [] [] 0) k ⟨_, ⟨a0, (0 : Int), (0 : Int), by omega, H, rfl⟩, Le.mk [] hm rfl (Sa2 (Sa1 trivial)) trivial trivial⟩ ?_
 clear H
 rintro k2 _ ⟨v82, v83, v84, hk2, H, rfl⟩
 cases k2 with
 | zero => cases H
 | succ k2 =>
  rw [Fimpl_ReadVar.l2] at H
  refine WpC.seq (WpC.seq (WpC.regionL ?_))
  refine L.move hF rfl rfl rfl ?_
  refine L.move hF rfl rfl rfl ?_
  refine L.lenS Try.underlying9 hF rfl rfl rfl ?_
  refine L.bin hF rfl rfl rfl rfl rfl rfl ?_
  refine L.move hF rfl rfl rfl ?_
  refine L.split (fun hc => ?_) (fun hc => ?_)
  ·replace H := condT hc H
   refine L.move hF rfl rfl rfl ?_
   refine L.bin hF rfl rfl rfl rfl rfl rfl ?_
   refine L.pick hF rfl rfl rfl rfl (L.nil ?_)
   refine WpC.cond rfl (fun hc => ?_) (fun hc => ?_)
   ·replace H := condT hc H
    refine WpC.skip (WpC.seq (WpC.block (WpC.seq (WpC.regionL ?_))))
    refine L.move hF rfl rfl rfl ?_
    refine L.move hF rfl rfl rfl ?_
    refine L.move hF rfl rfl rfl ?_
    obtain ⟨b92, hb92, H⟩ := bindS H
    refine L.idxS Try.underlying9 hF rfl rfl rfl rfl hb92 ?_
    refine L.binB (a := b92) (b := (127 : UInt8)) hF rfl rfl rfl rfl rfl ?_
    refine L.ofB Try.underlying5 Try.underlying3 hF rfl rfl rfl ?_
    refine L.move hF rfl rfl rfl ?_
    refine L.bin hF rfl rfl rfl rfl rfl rfl ?_
    obtain ⟨h93, H⟩ := condG H
    refine L.shl hF rfl rfl rfl rfl (by simpa using h93) ?_
    refine L.bin hF rfl rfl rfl rfl rfl rfl ?_
    refine L.assign hF rfl rfl rfl (L.nil ?_)
    refine WpC.seq (WpC.regionL ?_)
    refine L.move hF rfl rfl rfl ?_
    refine L.move hF rfl rfl rfl ?_
    obtain ⟨b94, hb94, H⟩ := bindS H
    refine L.idxS Try.underlying9 hF rfl rfl rfl rfl hb94 ?_
    refine L.binB (a := b94) (b := (128 : UInt8)) hF rfl rfl rfl rfl rfl (L.nil ?_)
    refine WpC.cond rfl (fun hc => ?_) (fun hc => ?_)
    ·replace H := condT hc H
     refine WpC.seq (WpC.seq ?_)
     obtain ⟨r97, hr97, H⟩ := bindS H
     obtain ⟨b98, hb98, H⟩ := bindS H
     refine A.begin mixed rfl rfl ?_
     intro W hI hO
     refine hI _ _ _ ?_
     refine Atk 0 rfl (Ca.move) (fun Q0 k0 => L.move hF rfl rfl rfl (L.nil k0)) ?_
     refine Atk 2 rfl (Ca.move) (fun Q0 k0 => L.move hF rfl rfl rfl (L.nil k0)) ?_
     refine Atk 3 rfl (Ca.move) (fun Q0 k0 => L.move hF rfl rfl rfl (L.nil k0)) ?_
     refine Atk 4 rfl (Ca.bin rfl rfl (calm_int _ _ _ _ _ _ _ _)) (fun Q0 k0 => L.bin hF rfl rfl rfl rfl rfl rfl (L.nil k0)) ?_
     refine Atk 5 rfl (Ca.slice) (fun Q0 k0 => L.cutS Try.underlying9 hF rfl rfl rfl rfl rfl hb98 (L.nil k0)) ?_
     refine A.all [1] (by kernel_rfl) rfl ⟨⟨_, rfl, ?_⟩, trivial⟩
     refine L.call [false] [] [] 0 hF rfl rfl rfl ent64 rfl rfl rfl rfl rfl (Fimpl_Var_gives k2  (Go.bits .or .i64 v83 (shlI .i64 ((b92 &&& (127 : UInt8)).toNat : Int) (IntKind.i64.wrap ((7 : Int) * v84)))) r97 hr97) rfl (L.nil ?_)
     refine Atk 6 rfl (Ca.bin rfl rfl (calm_str _ _ _ _ _ _)) (fun Q0 k0 => L.binS hF rfl rfl rfl rfl rfl (L.nil k0)) ?_
     refine A.le (τ := mkSt [(4, one (cI (Go.bits .or .i64 v83 (shlI .i64 ((b92 &&& (127 : UInt8)).toNat : Int) (IntKind.i64.wrap ((7 : Int) * v84)))))), (5, one (cI v84)), (36, one (cL (r97 != b98)))] [] [] 0) (Le.mk [] hm rfl (Sa2 (Sa1 trivial)) trivial trivial) ?_
     refine A.done (by kernel_rfl) ?_
     refine WpC.cond rfl (fun hc => ?_) (fun hc => ?_)
     ·replace H := condT hc H
      refine WpC.seq (WpC.regionL ?_)
      refine L.assign hF rfl rfl rfl ?_
      refine L.assign hF rfl rfl rfl (L.nil ?_)
      refine WpC.ret ?_
      cases H
      exact Leaves.ret rfl rfl rfl ⟨rfl, rfl⟩
     ·replace H := condF hc H
      refine WpC.skip (WpC.seq (WpC.regionL ?_))
      refine L.move hF rfl rfl rfl ?_
      refine L.move hF rfl rfl rfl ?_
      refine L.bin hF rfl rfl rfl rfl rfl rfl ?_
      refine L.assign hF rfl rfl rfl ?_
      refine L.assign hF rfl rfl rfl (L.nil ?_)
      refine WpC.ret ?_
      cases H
      exact Leaves.ret rfl rfl rfl ⟨rfl, rfl⟩
    ·replace H := condF hc H
     refine WpC.skip (WpC.regionL ?_)
     refine L.move hF rfl rfl rfl ?_
     refine L.bin hF rfl rfl rfl rfl rfl rfl ?_
     refine L.assign hF rfl rfl rfl (L.nil ?_)
     exact ⟨k2, _, by omega, ⟨v82, (Go.bits .or .i64 v83 (shlI .i64 ((b92 &&& (127 : UInt8)).toNat : Int) (IntKind.i64.wrap ((7 : Int) * v84)))), (IntKind.i64.wrap (v84 + (1 : Int))), by omega, H, rfl⟩, Le.mk [] hm rfl (Sa2 (Sa1 trivial)) trivial trivial⟩
   ·replace H := condF hc H
    refine WpC.exit (WpC.seq (WpC.regionL ?_))
    refine L.assign hF rfl rfl rfl ?_
    refine L.assign hF rfl rfl rfl (L.nil ?_)
    refine WpC.ret ?_
    cases H
    exact Leaves.ret rfl rfl rfl ⟨rfl, rfl⟩
  ·replace H := condF hc H
   refine L.off hF rfl rfl ?_
   refine L.off hF rfl rfl ?_
   refine L.pick hF rfl rfl rfl rfl (L.nil ?_)
   refine WpC.cond rfl (fun hc => by cases hc) (fun _ => ?_)
   refine WpC.exit (WpC.seq (WpC.regionL ?_))
   refine L.assign hF rfl rfl rfl ?_
   refine L.assign hF rfl rfl rfl (L.nil ?_)
   refine WpC.ret ?_
   cases H
   exact Leaves.ret rfl rfl rfl ⟨rfl, rfl⟩
/-! ### Fimpl_varAt -/
def Fimpl_varAt (k : Nat) (a0 : List UInt8) (a1 : Int) : Option (Int × Int) := (cut? a0 a1 (a0.length : Int)).bind fun b1 => (Fimpl_ReadVar k b1).bind fun r2 => cond (r2.2 == (0 : Int)) (some ((-1 : Int), a1)) (some (r2.1, (IntKind.i64.wrap (a1 + r2.2))))
theorem ent124 : MG.Enters Try.prog 124 := ⟨Try.f124, Try.func124, rfl, by decide⟩
set_option maxHeartbeats 8000000 in
set_option maxRecDepth 100000 in
theorem Fimpl_varAt_gives (k : Nat) (a0 : List UInt8) (a1 : Int) (r : Int × Int) (H : Fimpl_varAt k a0 a1 = some r) : Gives Try.prog 124 [V.one (cS a0), V.one (cI a1)] [] [V.one (cI r.1), V.one (cI r.2)] [] := by
 refine Gives.intro Try.func124 rfl rfl rfl rfl ?_
 intro F hF hm
 unfold Fimpl_varAt at H
 obtain ⟨K, hK⟩ : ∃ K, k ≤ K := ⟨k, Nat.le_refl k⟩
 refine WpC.seq (WpC.regionL ?_)
 refine L.assign hF rfl rfl rfl ?_
 refine L.assign hF rfl rfl rfl (L.nil ?_)
 refine WpC.seq (WpC.regionL ?_)
 refine L.move hF rfl rfl rfl ?_
 refine L.move hF rfl rfl rfl ?_
 obtain ⟨b1, hb1, H⟩ := bindS H
 refine L.cutS Try.underlying9 hF rfl rfl rfl rfl rfl hb1 ?_
 obtain ⟨r2, hr2, H⟩ := bindS H
 refine L.call [false] [] [] 2 hF rfl rfl rfl ent123 rfl rfl rfl rfl rfl (Fimpl_ReadVar_gives k  b1 r2 hr2) rfl ?_
 refine L.move hF rfl rfl rfl ?_
 refine L.extract hF rfl rfl rfl rfl ?_
 refine L.extract hF rfl rfl rfl rfl ?_
 refine L.assign hF rfl rfl rfl ?_
 refine L.assign hF rfl rfl rfl (L.nil ?_)
 refine WpC.seq (WpC.seq (WpC.regionL ?_))
 refine L.move hF rfl rfl rfl ?_
 refine L.bin hF rfl rfl rfl rfl rfl rfl (L.nil ?_)
 refine WpC.cond rfl (fun hc => ?_) (fun hc => ?_)
 ·replace H := condT hc H
  refine WpC.seq (WpC.regionL ?_)
  refine L.move hF rfl rfl rfl ?_
  refine L.assign hF rfl rfl rfl ?_
  refine L.assign hF rfl rfl rfl (L.nil ?_)
  refine WpC.ret ?_
  cases H
  exact Leaves.ret rfl rfl rfl ⟨rfl, rfl⟩
 ·replace H := condF hc H
  refine WpC.skip (WpC.seq (WpC.regionL ?_))
  refine L.move hF rfl rfl rfl ?_
  refine L.move hF rfl rfl rfl ?_
  refine L.move hF rfl rfl rfl ?_
  refine L.bin hF rfl rfl rfl rfl rfl rfl ?_
  refine L.assign hF rfl rfl rfl ?_
  refine L.assign hF rfl rfl rfl (L.nil ?_)
  refine WpC.ret ?_
  cases H
  exact Leaves.ret rfl rfl rfl ⟨rfl, rfl⟩
/-! ### Fimpl_vars_next -/
def Fimpl_vars_next.j2 (k : Nat) (v6 : Int) (v7 : Int) (v8 : Bool) (v9 : Timpl_vars) : Option (Int × Timpl_vars) := cond v8 (some ((0 : Int), (⟨v9.s, v9.at_, true⟩ : Timpl_vars))) (some (v6, (⟨v9.s, v7, v9.bad⟩ : Timpl_vars)))
def Fimpl_vars_next (k : Nat) (o0 : Timpl_vars) : Option (Int × Timpl_vars) := (Fimpl_varAt k o0.s o0.at_).bind fun r1 => cond o0.bad (Fimpl_vars_next.j2 k r1.1 r1.2 true o0) (Fimpl_vars_next.j2 k r1.1 r1.2 (decide (r1.1 < (0 : Int))) o0)
theorem ent59 : MG.Enters Try.prog 59 := ⟨Try.f59, Try.func59, rfl, by decide⟩
set_option maxHeartbeats 8000000 in
set_option maxRecDepth 100000 in
theorem Fimpl_vars_next_gives (k : Nat) (o0 : Timpl_vars) (r : Int × Timpl_vars) (H : Fimpl_vars_next k o0 = some r) : Gives Try.prog 59 [V.one (Cell.ptr 0 0)] [[cS o0.s, cI o0.at_, cL o0.bad]] [V.one (cI r.1)] [[cS r.2.s, cI r.2.at_, cL r.2.bad]] := by
 refine Gives.intro Try.func59 rfl rfl rfl rfl ?_
 intro F hF hm
 unfold Fimpl_vars_next at H
 obtain ⟨K, hK⟩ : ∃ K, k ≤ K := ⟨k, Nat.le_refl k⟩
 refine WpC.seq (WpC.regionL ?_)
 refine L.assign hF rfl rfl rfl (L.nil ?_)
 refine WpC.seq ?_
 obtain ⟨r1, hr1, H⟩ := bindS H
 refine A.begin mixed rfl rfl ?_
 intro W hI hO
 have n255 : W 6 #[true, true, true, true, true, true, true, true, false, false, false, false, false, false] (mkSt [(0, one (Cell.ptr 0 0)), (9, one (cS o0.s)), (13, one (cI o0.at_))] [] [(0, (bTimpl_vars o0))] 1) := by
  refine hI _ _ _ ?_
  refine A.all [8] (by kernel_rfl) rfl ⟨⟨_, rfl, ?_⟩, trivial⟩
  refine L.call [false, false] [] [] 1 hF rfl rfl rfl ent124 rfl rfl rfl rfl rfl (Fimpl_varAt_gives k  o0.s o0.at_ r1 hr1) rfl (L.nil ?_)
  refine Atk 9 rfl (Ca.move) (fun Q0 k0 => L.move hF rfl rfl rfl (L.nil k0)) ?_
  refine Atk 10 rfl (Ca.extract) (fun Q0 k0 => L.extract hF rfl rfl rfl rfl (L.nil k0)) ?_
  refine Atk 11 rfl (Ca.extract) (fun Q0 k0 => L.extract hF rfl rfl rfl rfl (L.nil k0)) ?_
  refine Atk 12 rfl (Ca.assign) (fun Q0 k0 => L.assign hF rfl rfl rfl (L.nil k0)) ?_
  refine Atk 13 rfl (Ca.assign) (fun Q0 k0 => L.assign hF rfl rfl rfl (L.nil k0)) ?_
  refine A.le (τ := mkSt [(0, one (Cell.ptr 0 0)), (3, one (cI r1.1)), (4, one (cI r1.2))] [] [(0, (bTimpl_vars o0))] 1) (Le.mk [(0, 0)] hm rfl (Sa2 (Sa1 trivial)) trivial (Ba1 trivial)) ?_
  refine A.done (by kernel_rfl) ?_
  refine WpC.seq ?_
  refine WpC.join (fun σ => ∃ kj2 : Nat, ∃ v6 : Int, ∃ v7 : Int, ∃ v8 : Bool, ∃ v9 : Timpl_vars, kj2 ≤ K ∧ Fimpl_vars_next.j2 kj2 v6 v7 v8 v9 = some r ∧ σ = mkSt [(0, one (Cell.ptr 0 0)), (3, one (cI v6)), (4, one (cI v7)), (24, one (cL v8))] [] [(0, (bTimpl_vars v9))] 1) ?_ ?_
  ·rintro _ ⟨kj2, v6, v7, v8, v9, hkj2, H, rfl⟩
   unfold Fimpl_vars_next.j2 at H
   refine WpC.cond rfl (fun hc => ?_) (fun hc => ?_)
   ·replace H := condT hc H
    refine WpC.seq (WpC.regionL ?_)
    refine L.move hF rfl rfl rfl ?_
    refine L.nilCheck hF rfl rfl rfl rfl ?_
    refine L.fieldAddr Try.underlying99 rfl info4 rfl hF rfl rfl rfl rfl rfl ?_
    refine L.storePtr shape4 hF rfl rfl rfl rfl rfl rfl rfl (L.nil ?_)
    refine WpC.seq (WpC.regionL ?_)
    refine L.assign hF rfl rfl rfl (L.nil ?_)
    refine WpC.ret ?_
    cases H
    exact Leaves.ret rfl rfl rfl ⟨rfl, rfl⟩
   ·replace H := condF hc H
    refine WpC.skip (WpC.seq (WpC.regionL ?_))
    refine L.move hF rfl rfl rfl ?_
    refine L.move hF rfl rfl rfl ?_
    refine L.nilCheck hF rfl rfl rfl rfl ?_
    refine L.fieldAddr Try.underlying99 rfl info3 rfl hF rfl rfl rfl rfl rfl ?_
    refine L.storePtr shape3 hF rfl rfl rfl rfl rfl rfl rfl (L.nil ?_)
    refine WpC.seq (WpC.regionL ?_)
    refine L.move hF rfl rfl rfl ?_
    refine L.assign hF rfl rfl rfl (L.nil ?_)
    refine WpC.ret ?_
    cases H
    exact Leaves.ret rfl rfl rfl ⟨rfl, rfl⟩
  ·refine WpC.regionL ?_
   refine L.move hF rfl rfl rfl ?_
   refine L.nilCheck hF rfl rfl rfl rfl ?_
   refine L.fieldAddr Try.underlying99 rfl info4 rfl hF rfl rfl rfl rfl rfl ?_
   refine L.loadPtr shape4 hF rfl rfl rfl rfl rfl rfl ?_
   refine L.move hF rfl rfl rfl ?_
   refine L.split (fun hc => ?_) (fun hc => ?_)
   ·replace H := condT hc H
    refine L.off hF rfl rfl ?_
    refine L.off hF rfl rfl ?_
    refine L.pick hF rfl rfl rfl rfl (L.nil ?_)
    exact ⟨_, ⟨k, r1.1, r1.2, true, o0, by omega, H, rfl⟩, Le.mk [(0, 0)] hm rfl (Sa4 trivial) trivial (Ba1 trivial)⟩
   ·replace H := condF hc H
    refine L.move hF rfl rfl rfl ?_
    refine L.bin hF rfl rfl rfl rfl rfl rfl ?_
    refine L.pick hF rfl rfl rfl rfl (L.nil ?_)
    exact ⟨_, ⟨k, r1.1, r1.2, (decide (r1.1 < (0 : Int))), o0, by omega, H, rfl⟩, Le.mk [(0, 0)] hm rfl (Sa4 trivial) trivial (Ba1 trivial)⟩
 refine hI _ _ _ ?_
 refine Atk 0 rfl (Ca.move) (fun Q0 k0 => L.move hF rfl rfl rfl (L.nil k0)) ?_
 refine Atk 1 rfl (Ca.nilCheck rfl rfl) (fun Q0 k0 => L.nilCheck hF rfl rfl rfl rfl (L.nil k0)) ?_
 refine Atk 2 rfl (Ca.fieldAddr Try.underlying99 rfl info9 rfl) (fun Q0 k0 => L.fieldAddr Try.underlying99 rfl info9 rfl hF rfl rfl rfl rfl rfl (L.nil k0)) ?_
 refine Atk 4 rfl (Ca.move) (fun Q0 k0 => L.move hF rfl rfl rfl (L.nil k0)) ?_
 refine Atk 5 rfl (Ca.nilCheck rfl rfl) (fun Q0 k0 => L.nilCheck hF rfl rfl rfl rfl (L.nil k0)) ?_
 refine Atk 6 rfl (Ca.fieldAddr Try.underlying99 rfl info3 rfl) (fun Q0 k0 => L.fieldAddr Try.underlying99 rfl info3 rfl hF rfl rfl rfl rfl rfl (L.nil k0)) ?_
 refine A.all [3, 7] (by kernel_rfl) rfl ⟨⟨_, rfl, ?_⟩, ⟨_, rfl, ?_⟩, trivial⟩
 ·refine L.loadPtr shape9 hF rfl rfl rfl rfl rfl rfl (L.nil ?_)
  refine A.all [7] (by kernel_rfl) rfl ⟨⟨_, rfl, ?_⟩, trivial⟩
  refine L.loadPtr shape3 hF rfl rfl rfl rfl rfl rfl (L.nil ?_)
  exact A.on (hO _ _ _ n255) (Le.mk [(0, 0)] hm rfl (Sa2 (Sa1 trivial)) trivial (Ba1 trivial))
 ·refine L.loadPtr shape3 hF rfl rfl rfl rfl rfl rfl (L.nil ?_)
  refine A.all [3] (by kernel_rfl) rfl ⟨⟨_, rfl, ?_⟩, trivial⟩
  refine L.loadPtr shape9 hF rfl rfl rfl rfl rfl rfl (L.nil ?_)
  exact A.on (hO _ _ _ n255) (Le.mk [(0, 0)] hm rfl (Sa2 (Sa1 trivial)) trivial (Ba1 trivial))
/-! ### Fimpl_vars_many -/
def Fimpl_vars_many.j1 (k : Nat) (v2 : Int) (v3 : List UInt8) (v4 : Int) (v5 : Bool) : Option (Int × Timpl_vars) := cond v5 (some ((0 : Int), (⟨v3, v4, v5⟩ : Timpl_vars))) (some (v2, (⟨v3, v4, v5⟩ : Timpl_vars)))
def Fimpl_vars_many (k : Nat) (a1 : Int) (o0 : Timpl_vars) : Option (Int × Timpl_vars) := (Fimpl_vars_next k o0).bind fun r1 => cond (decide (r1.1 > a1)) (Fimpl_vars_many.j1 k r1.1 r1.2.s r1.2.at_ true) (Fimpl_vars_many.j1 k r1.1 r1.2.s r1.2.at_ r1.2.bad)
theorem ent58 : MG.Enters Try.prog 58 := ⟨Try.f58, Try.func58, rfl, by decide⟩
set_option maxHeartbeats 8000000 in
set_option maxRecDepth 100000 in
theorem Fimpl_vars_many_gives (k : Nat) (a1 : Int) (o0 : Timpl_vars) (r : Int × Timpl_vars) (H : Fimpl_vars_many k a1 o0 = some r) : Gives Try.prog 58 [V.one (Cell.ptr 0 0), V.one (cI a1)] [[cS o0.s, cI o0.at_, cL o0.bad]] [V.one (cI r.1)] [[cS r.2.s, cI r.2.at_, cL r.2.bad]] := by
 refine Gives.intro Try.func58 rfl rfl rfl rfl ?_
 intro F hF hm
 unfold Fimpl_vars_many at H
 obtain ⟨K, hK⟩ : ∃ K, k ≤ K := ⟨k, Nat.le_refl k⟩
 refine WpC.seq (WpC.regionL ?_)
 refine L.assign hF rfl rfl rfl (L.nil ?_)
 refine WpC.seq (WpC.regionL ?_)
 refine L.move hF rfl rfl rfl ?_
 obtain ⟨r1, hr1, H⟩ := bindS H
 refine L.call [false] [] [0] 6 hF rfl rfl rfl ent59 rfl rfl rfl rfl rfl (Fimpl_vars_next_gives k  o0 r1 hr1) rfl ?_
 refine L.assign hF rfl rfl rfl (L.nil ?_)
 refine WpC.join (fun σ => ∃ kj1 : Nat, ∃ v2 : Int, ∃ v3 : List UInt8, ∃ v4 : Int, ∃ v5 : Bool, kj1 ≤ K ∧ Fimpl_vars_many.j1 kj1 v2 v3 v4 v5 = some r ∧ σ = mkSt [(0, one (Cell.ptr 0 0)), (5, one (cI v2))] [] [(0, [cS v3, cI v4, cL v5])] 1) ?_ ?_
 ·rintro _ ⟨kj1, v2, v3, v4, v5, hkj1, H, rfl⟩
  unfold Fimpl_vars_many.j1 at H
  refine WpC.seq (WpC.seq (WpC.regionL ?_))
  refine L.move hF rfl rfl rfl ?_
  refine L.nilCheck hF rfl rfl rfl rfl ?_
  refine L.fieldAddr Try.underlying99 rfl info4 rfl hF rfl rfl rfl rfl rfl ?_
  refine L.loadPtr shape4 hF rfl rfl rfl rfl rfl rfl (L.nil ?_)
  refine WpC.cond rfl (fun hc => ?_) (fun hc => ?_)
  ·replace H := condT hc H
   refine WpC.seq (WpC.regionL ?_)
   refine L.assign hF rfl rfl rfl (L.nil ?_)
   refine WpC.ret ?_
   cases H
   exact Leaves.ret rfl rfl rfl ⟨rfl, rfl⟩
  ·replace H := condF hc H
   refine WpC.skip (WpC.seq (WpC.regionL ?_))
   refine L.move hF rfl rfl rfl ?_
   refine L.assign hF rfl rfl rfl (L.nil ?_)
   refine WpC.ret ?_
   cases H
   exact Leaves.ret rfl rfl rfl ⟨rfl, rfl⟩
 ·refine WpC.seq (WpC.regionL ?_)
  refine L.move hF rfl rfl rfl ?_
  refine L.move hF rfl rfl rfl ?_
  refine L.bin hF rfl rfl rfl rfl rfl rfl (L.nil ?_)
  refine WpC.cond rfl (fun hc => ?_) (fun hc => ?_)
  ·replace H := condT hc H
   refine WpC.regionL ?_
   refine L.move hF rfl rfl rfl ?_
   refine L.nilCheck hF rfl rfl rfl rfl ?_
   refine L.fieldAddr Try.underlying99 rfl info4 rfl hF rfl rfl rfl rfl rfl ?_
   refine L.storePtr shape4 hF rfl rfl rfl rfl rfl rfl rfl (L.nil ?_)
   exact ⟨_, ⟨k, r1.1, r1.2.s, r1.2.at_, true, by omega, H, rfl⟩, Le.mk [(0, 0)] hm rfl (Sa2 trivial) trivial (Ba1 trivial)⟩
  ·replace H := condF hc H
   refine WpC.skip ?_
   exact ⟨_, ⟨k, r1.1, r1.2.s, r1.2.at_, r1.2.bad, by omega, H, rfl⟩, Le.mk [(0, 0)] hm rfl (Sa2 trivial) trivial (Ba1 trivial)⟩
/-! ### Fimpl_ReadRules -/
def Fimpl_ReadRules.l26 (cl22 : (List UInt8) → (List Timpl_Rule) → Int → Int → (List UInt8) → Int → Bool → Option (List Timpl_Rule × Bool)) : Nat → (List UInt8) → (List Timpl_Rule) → Int → Int → Int → Int → (List UInt8) → Int → Bool → Int → (List Int) → Int → Option (List Timpl_Rule × Bool)
 | 0, _, _, _, _, _, _, _, _, _, _, _, _ => none
 | k26 + 1, v1153, v1154, v1155, v1156, v1157, v1158, v1159, v1160, v1161, v1162, v1163, v1164 => cond (decide (v1158 < v1157)) ((Fimpl_vars_next k26 (⟨v1159, v1160, v1161⟩ : Timpl_vars)).bind fun r1167 => cond (decide ((2 * (v1163.length + ([r1167.1] : List Int).length) + 192) * 8 ≤ 281474976710656)) ((Fimpl_ReadRules.l26 cl22 k26) v1153 v1154 v1155 v1156 v1157 (IntKind.i64.wrap (v1158 + (1 : Int))) r1167.2.s r1167.2.at_ r1167.2.bad v1162 (v1163 ++ ([r1167.1] : List Int)) v1164) none) (cond (decide ((2 * (v1154.length + ([(⟨v1162, v1163, v1164⟩ : Timpl_Rule)] : List Timpl_Rule).length) + 192) * 40 ≤ 281474976710656)) (cl22 v1153 (v1154 ++ ([(⟨v1162, v1163, v1164⟩ : Timpl_Rule)] : List Timpl_Rule)) v1155 (IntKind.i64.wrap (v1156 + (1 : Int))) v1159 v1160 v1161) none)
def Fimpl_ReadRules.l22 : Nat → (List UInt8) → (List Timpl_Rule) → Int → Int → (List UInt8) → Int → Bool → Option (List Timpl_Rule × Bool)
 | 0, _, _, _, _, _, _, _ => none
 | k22 + 1, v971, v972, v973, v974, v975, v976, v977 => cond (decide (v974 < v973)) ((Fimpl_vars_next k22 (⟨v975, v976, v977⟩ : Timpl_vars)).bind fun r1074 => (Fimpl_vars_next k22 r1074.2).bind fun r1075 => (Fimpl_vars_many k22 (31 : Int) r1075.2).bind fun r1076 => Fimpl_ReadRules.l26 (Fimpl_ReadRules.l22 k22) k22 v971 v972 v973 v974 r1076.1 (0 : Int) r1076.2.s r1076.2.at_ r1076.2.bad r1074.1 [] r1075.1) (cond v977 (some ([], false)) (cond (v971 == ([] : List UInt8)) (some ([], false)) ((Fimpl_ShowRules k22 v972).bind fun r1173 => cond (r1173 != v971) (some ([], false)) (some (v972, true)))))
def Fimpl_ReadRules (k : Nat) (a0 : List UInt8) : Option (List Timpl_Rule × Bool) := (Fimpl_vars_many k (20 : Int) (⟨a0, (0 : Int), false⟩ : Timpl_vars)).bind fun r1 => Fimpl_ReadRules.l22 k a0 ([] : List Timpl_Rule) r1.1 (0 : Int) r1.2.s r1.2.at_ r1.2.bad
theorem ent17 : MG.Enters Try.prog 17 := ⟨Try.f17, Try.func17, rfl, by decide⟩
set_option maxHeartbeats 8000000 in
set_option maxRecDepth 100000 in
theorem Fimpl_ReadRules_gives (k : Nat) (a0 : List UInt8) (r : List Timpl_Rule × Bool) (H : Fimpl_ReadRules k a0 = some r) : Gives Try.prog 17 [V.one (cS a0)] [] [V.one (Cell.ow 3 (List.map eTimpl_Rule r.1)), V.one (cL r.2)] [] := by
 refine Gives.intro Try.func17 rfl rfl rfl rfl ?_
 intro F hF hm
 unfold Fimpl_ReadRules at H
 obtain ⟨K, hK⟩ : ∃ K, k ≤ K := ⟨k, Nat.le_refl k⟩
 refine WpC.seq (WpC.regionL ?_)
 refine L.assign hF rfl rfl rfl ?_
 refine L.assign hF rfl rfl rfl (L.nil ?_)
 refine WpC.seq (WpC.regionL ?_)
 refine L.move hF rfl rfl rfl ?_
 refine L.buildF built99 hF rfl rfl rfl rfl ?_
 refine L.box 1 hF rfl rfl rfl rfl ?_
 refine L.assign hF rfl rfl rfl (L.nil ?_)
 refine WpC.seq (WpC.regionL ?_)
 refine L.buildSliceN (e := eTimpl_Rule) 1 2 ([] : List Timpl_Rule) Try.underlying28 info96 rfl rfl rfl hF rfl rfl rfl rfl rfl rfl rfl rfl ?_
 refine L.assign hF rfl rfl rfl (L.nil ?_)
 refine WpC.seq (WpC.regionL ?_)
 refine L.move hF rfl rfl rfl ?_
 obtain ⟨r1, hr1, H⟩ := bindS H
 refine L.call [false, false] [] [1] 3 hF rfl rfl rfl ent58 rfl rfl rfl rfl rfl (Fimpl_vars_many_gives k  (20 : Int) (⟨a0, (0 : Int), false⟩ : Timpl_vars) r1 hr1) rfl ?_
 refine L.assign hF rfl rfl rfl (L.nil ?_)
 refine WpC.seq (WpC.seq (WpC.regionL ?_))
 refine L.move hF rfl rfl rfl ?_
 refine L.move hF rfl rfl rfl (L.nil ?_)
 refine WpC.block ?_
 refine WpC.loopL (P := Try.prog) (fun n σ => ∃ v971 : List UInt8, ∃ v972 : List Timpl_Rule, ∃ v973 : Int, ∃ v974 : Int, ∃ v975 : List UInt8, ∃ v976 : Int, ∃ v977 : Bool, n ≤ K ∧ Fimpl_ReadRules.l22 n v971 v972 v973 v974 v975 v976 v977 = some r ∧ σ = mkSt [(0, one (cS v971)), (4, one (Cell.ptr 0 0)), (5, one (Cell.own 1)), (16, one (cI v973)), (17, one (cI v974))] [(1, ⟨3, List.map eTimpl_Rule v972⟩)] [(0, [cS v975, cI v976, cL v977])] 2) k ⟨_, ⟨a0, ([] : List Timpl_Rule), r1.1, (0 : Int), r1.2.s, r1.2.at_, r1.2.bad, by omega, H, rfl⟩, Le.mk [(0, 1), (1, 2)] hm rfl (Sa4 (Sa1 trivial)) (Ra1 trivial) (Ba1 trivial)⟩ ?_
 clear H
 rintro k22 _ ⟨v971, v972, v973, v974, v975, v976, v977, hk22, H, rfl⟩
 cases k22 with
 | zero => cases H
 | succ k22 =>
  rw [Fimpl_ReadRules.l22] at H
  refine WpC.seq (WpC.regionL ?_)
  refine L.bin hF rfl rfl rfl rfl rfl rfl (L.nil ?_)
  refine WpC.seq ?_
  refine WpC.cond rfl (fun hc => ?_) (fun hc => ?_)
  ·replace H := condT hc H
   refine WpC.skip (WpC.seq (WpC.block (WpC.seq (WpC.regionL ?_))))
   refine L.move hF rfl rfl rfl ?_
   obtain ⟨r1074, hr1074, H⟩ := bindS H
   refine L.call [false] [] [0] 2 hF rfl rfl rfl ent59 rfl rfl rfl rfl rfl (Fimpl_vars_next_gives k22  (⟨v975, v976, v977⟩ : Timpl_vars) r1074 hr1074) rfl ?_
   refine L.buildF built96 hF rfl rfl rfl rfl ?_
   refine L.alloc 6 info96 rfl hF rfl rfl rfl rfl ?_
   refine L.storePtr shape96 hF rfl rfl rfl rfl rfl rfl rfl (L.nil ?_)
   refine WpC.seq (WpC.regionL ?_)
   refine L.move hF rfl rfl rfl ?_
   obtain ⟨r1075, hr1075, H⟩ := bindS H
   refine L.call [false] [] [0] 7 hF rfl rfl rfl ent59 rfl rfl rfl rfl rfl (Fimpl_vars_next_gives k22  r1074.2 r1075 hr1075) rfl ?_
   refine L.fieldAddr Try.underlying96 rfl info3 rfl hF rfl rfl rfl rfl rfl ?_
   refine L.storePtr shape3 hF rfl rfl rfl rfl rfl rfl rfl (L.nil ?_)
   refine WpC.seq (WpC.regionL ?_)
   refine L.move hF rfl rfl rfl ?_
   obtain ⟨r1076, hr1076, H⟩ := bindS H
   refine L.call [false, false] [] [0] 11 hF rfl rfl rfl ent58 rfl rfl rfl rfl rfl (Fimpl_vars_many_gives k22  (31 : Int) r1075.2 r1076 hr1076) rfl ?_
   refine L.assign hF rfl rfl rfl (L.nil ?_)
   refine WpC.seq (WpC.seq (WpC.regionL ?_))
   refine L.move hF rfl rfl rfl ?_
   refine L.move hF rfl rfl rfl (L.nil ?_)
   refine WpC.block ?_
   refine WpC.loopL (P := Try.prog) (fun n σ => ∃ v1153 : List UInt8, ∃ v1154 : List Timpl_Rule, ∃ v1155 : Int, ∃ v1156 : Int, ∃ v1157 : Int, ∃ v1158 : Int, ∃ v1159 : List UInt8, ∃ v1160 : Int, ∃ v1161 : Bool, ∃ v1162 : Int, ∃ v1163 : List Int, ∃ v1164 : Int, n ≤ K ∧ Fimpl_ReadRules.l26 (Fimpl_ReadRules.l22 k22) n v1153 v1154 v1155 v1156 v1157 v1158 v1159 v1160 v1161 v1162 v1163 v1164 = some r ∧ σ = mkSt [(0, one (cS v1153)), (4, one (Cell.ptr 0 0)), (5, one (Cell.own 1)), (7, one (Cell.ptr 2 0)), (16, one (cI v1155)), (17, one (cI v1156)), (27, one (cI v1157)), (28, one (cI v1158))] [(1, ⟨3, List.map eTimpl_Rule v1154⟩), (3, ⟨1, List.map eI v1163⟩)] [(0, [cS v1159, cI v1160, cL v1161]), (2, [cI v1162, Cell.own 3, cI v1164])] 4) k22 ⟨_, ⟨v971, v972, v973, v974, r1076.1, (0 : Int), r1076.2.s, r1076.2.at_, r1076.2.bad, r1074.1, [], r1075.1, by omega, H, rfl⟩, (Le.ownB 6 1 15 1 rfl rfl rfl).trans (Le.mk [(0, 0), (1, 1), (2, 6), (3, 15)] hm rfl (Sa8 trivial) (Ra2 trivial) (Ba2 trivial))⟩ ?_
   clear H
   rintro k26 _ ⟨v1153, v1154, v1155, v1156, v1157, v1158, v1159, v1160, v1161, v1162, v1163, v1164, hk26, H, rfl⟩
   cases k26 with
   | zero => cases H
   | succ k26 =>
    rw [Fimpl_ReadRules.l26] at H
    refine WpC.seq (WpC.regionL ?_)
    refine L.bin hF rfl rfl rfl rfl rfl rfl (L.nil ?_)
    refine WpC.seq ?_
    refine WpC.cond rfl (fun hc => ?_) (fun hc => ?_)
    ·replace H := condT hc H
     refine WpC.skip (WpC.seq (WpC.block (WpC.seq (WpC.regionL ?_))))
     refine L.move hF rfl rfl rfl ?_
     obtain ⟨r1167, hr1167, H⟩ := bindS H
     refine L.call [false] [] [0] 4 hF rfl rfl rfl ent59 rfl rfl rfl rfl rfl (Fimpl_vars_next_gives k26  (⟨v1159, v1160, v1161⟩ : Timpl_vars) r1167 hr1167) rfl ?_
     refine L.assign hF rfl rfl rfl (L.nil ?_)
     refine WpC.regionL ?_
     refine L.fieldAddr Try.underlying96 rfl info39 rfl hF rfl rfl rfl rfl rfl ?_
     refine L.loadPtr shape39 hF rfl rfl rfl rfl rfl rfl ?_
     refine L.move hF rfl rfl rfl ?_
     refine L.buildSlice (e := eI) 8 ([r1167.1] : List Int) Try.underlying39 info3 rfl rfl rfl hF rfl rfl rfl rfl rfl rfl rfl rfl ?_
     obtain ⟨h1168, H⟩ := condG H
     refine L.append (xs := v1163) (ys := ([r1167.1] : List Int)) (e := eI) 9 Try.underlying39 info3 rfl rfl hF rfl rfl rfl rfl rfl rfl rfl rfl (fun _ => rfl) (fun _ _ h1 h2 => by cases h1; cases h2; rfl) ⟨_, Try.underlying39⟩ (of_decide_eq_true h1168) rfl rfl ?_
     refine L.fieldAddr Try.underlying96 rfl info39 rfl hF rfl rfl rfl rfl rfl ?_
     refine L.storePtr shape39 hF rfl rfl rfl rfl rfl rfl rfl (L.nil ?_)
     refine WpC.regionL ?_
     refine L.bin hF rfl rfl rfl rfl rfl rfl ?_
     refine L.move hF rfl rfl rfl (L.nil ?_)
     exact ⟨k26, _, by omega, ⟨v1153, v1154, v1155, v1156, v1157, (IntKind.i64.wrap (v1158 + (1 : Int))), r1167.2.s, r1167.2.at_, r1167.2.bad, v1162, (v1163 ++ ([r1167.1] : List Int)), v1164, by omega, H, rfl⟩, Le.mk [(0, 0), (1, 1), (2, 2), (3, 9)] hm rfl (Sa8 trivial) (Ra2 trivial) (Ba2 trivial)⟩
    ·replace H := condF hc H
     refine WpC.exit (WpC.regionL ?_)
     refine L.move hF rfl rfl rfl ?_
     refine L.loadPtr shape96 hF rfl rfl rfl rfl rfl rfl ?_
     refine L.buildSliceN (e := eTimpl_Rule) 1 4 ([(⟨v1162, v1163, v1164⟩ : Timpl_Rule)] : List Timpl_Rule) Try.underlying28 info96 rfl rfl rfl hF rfl rfl rfl rfl rfl rfl rfl rfl ?_
     obtain ⟨h1169, H⟩ := condG H
     refine L.appendN (xs := v1154) (ys := ([(⟨v1162, v1163, v1164⟩ : Timpl_Rule)] : List Timpl_Rule)) (e := eTimpl_Rule) 5 Try.underlying28 info96 rfl rfl hF rfl rfl rfl rfl rfl rfl rfl rfl rfl (fun _ _ h1 h2 => by cases h1; cases h2; rfl) Try.underlying28 (of_decide_eq_true h1169) rfl rfl ?_
     refine L.assign hF rfl rfl rfl (L.nil ?_)
     refine WpC.regionL ?_
     refine L.bin hF rfl rfl rfl rfl rfl rfl ?_
     refine L.move hF rfl rfl rfl (L.nil ?_)
     exact ⟨k22, _, by omega, ⟨v1153, (v1154 ++ ([(⟨v1162, v1163, v1164⟩ : Timpl_Rule)] : List Timpl_Rule)), v1155, (IntKind.i64.wrap (v1156 + (1 : Int))), v1159, v1160, v1161, by omega, H, rfl⟩, Le.mk [(0, 0), (1, 5)] hm rfl (Sa4 (Sa1 trivial)) (Ra1 trivial) (Ba1 trivial)⟩
  ·replace H := condF hc H
   refine WpC.exit (WpC.seq (WpC.seq (WpC.regionL ?_)))
   refine L.move hF rfl rfl rfl ?_
   refine L.nilCheck hF rfl rfl rfl rfl ?_
   refine L.fieldAddr Try.underlying99 rfl info4 rfl hF rfl rfl rfl rfl rfl ?_
   refine L.loadPtr shape4 hF rfl rfl rfl rfl rfl rfl ?_
   refine L.move hF rfl rfl rfl ?_
   refine L.split (fun hc => ?_) (fun hc => ?_)
   ·replace H := condT hc H
    refine L.off hF rfl rfl ?_
    refine L.off hF rfl rfl ?_
    refine L.pick hF rfl rfl rfl rfl ?_
    refine L.move hF rfl rfl rfl ?_
    refine L.off hF rfl rfl ?_
    refine L.off hF rfl rfl ?_
    refine L.off hF rfl rfl ?_
    refine L.off hF rfl rfl ?_
    refine L.pick hF rfl rfl rfl rfl (L.nil ?_)
    refine WpC.cond rfl (fun _ => ?_) (fun hc => by cases hc)
    refine WpC.seq (WpC.regionL ?_)
    refine L.assign hF rfl rfl rfl ?_
    refine L.assign hF rfl rfl rfl (L.nil ?_)
    refine WpC.le (Le.own 2 0 2 3 rfl rfl rfl) ?_
    refine WpC.ret ?_
    cases H
    exact Leaves.ret rfl rfl rfl ⟨rfl, rfl⟩
   ·replace H := condF hc H
    refine L.move hF rfl rfl rfl ?_
    refine L.binS hF rfl rfl rfl rfl rfl ?_
    refine L.pick hF rfl rfl rfl rfl ?_
    refine L.move hF rfl rfl rfl ?_
    refine L.split (fun hc => ?_) (fun hc => ?_)
    ·replace H := condT hc H
     refine L.off hF rfl rfl ?_
     refine L.off hF rfl rfl ?_
     refine L.off hF rfl rfl ?_
     refine L.off hF rfl rfl ?_
     refine L.pick hF rfl rfl rfl rfl (L.nil ?_)
     refine WpC.cond rfl (fun _ => ?_) (fun hc => by cases hc)
     refine WpC.seq (WpC.regionL ?_)
     refine L.assign hF rfl rfl rfl ?_
     refine L.assign hF rfl rfl rfl (L.nil ?_)
     refine WpC.le (Le.own 2 0 2 3 rfl rfl rfl) ?_
     refine WpC.ret ?_
     cases H
     exact Leaves.ret rfl rfl rfl ⟨rfl, rfl⟩
    ·replace H := condF hc H
     refine L.move hF rfl rfl rfl ?_
     obtain ⟨r1173, hr1173, H⟩ := bindS H
     refine L.call [false] [1] [] 2 hF rfl rfl rfl ent23 rfl rfl rfl rfl rfl (Fimpl_ShowRules_gives k22 false v972 r1173 hr1173) rfl ?_
     refine L.move hF rfl rfl rfl ?_
     refine L.binS hF rfl rfl rfl rfl rfl ?_
     refine L.pick hF rfl rfl rfl rfl (L.nil ?_)
     refine WpC.cond rfl (fun hc => ?_) (fun hc => ?_)
     ·replace H := condT hc H
      refine WpC.seq (WpC.regionL ?_)
      refine L.assign hF rfl rfl rfl ?_
      refine L.assign hF rfl rfl rfl (L.nil ?_)
      refine WpC.le (Le.own 2 0 3 3 rfl rfl rfl) ?_
      refine WpC.ret ?_
      cases H
      exact Leaves.ret rfl rfl rfl ⟨rfl, rfl⟩
     ·replace H := condF hc H
      refine WpC.skip (WpC.seq (WpC.regionL ?_))
      refine L.move hF rfl rfl rfl ?_
      refine L.assign hF rfl rfl rfl ?_
      refine L.assign hF rfl rfl rfl (L.nil ?_)
      refine WpC.ret ?_
      cases H
      exact Leaves.ret rfl rfl rfl ⟨rfl, rfl⟩
/-! ### Fspec_l1In -/
def Fspec_l1In (k : Nat) (a0 : Int) (a1 : Int) (a2 : Int) : Option Bool := cond (decide (a0 ≥ a1)) (some (decide (a0 ≤ a2))) (some false)
theorem ent121 : MG.Enters Try.prog 121 := ⟨Try.f121, Try.func121, rfl, by decide⟩
set_option maxHeartbeats 8000000 in
set_option maxRecDepth 100000 in
theorem Fspec_l1In_gives (k : Nat) (a0 : Int) (a1 : Int) (a2 : Int) (r : Bool) (H : Fspec_l1In k a0 a1 a2 = some r) : Gives Try.prog 121 [V.one (cI a0), V.one (cI a1), V.one (cI a2)] [] [V.one (cL r)] [] := by
 refine Gives.intro Try.func121 rfl rfl rfl rfl ?_
 intro F hF hm
 unfold Fspec_l1In at H
 obtain ⟨K, hK⟩ : ∃ K, k ≤ K := ⟨k, Nat.le_refl k⟩
 refine WpC.seq (WpC.regionL ?_)
 refine L.assign hF rfl rfl rfl (L.nil ?_)
 refine WpC.seq (WpC.regionL ?_)
 refine L.move hF rfl rfl rfl ?_
 refine L.move hF rfl rfl rfl ?_
 refine L.bin hF rfl rfl rfl rfl rfl rfl ?_
 refine L.move hF rfl rfl rfl ?_
 refine L.split (fun hc => ?_) (fun hc => ?_)
 ·replace H := condT hc H
  refine L.move hF rfl rfl rfl ?_
  refine L.move hF rfl rfl rfl ?_
  refine L.bin hF rfl rfl rfl rfl rfl rfl ?_
  refine L.pick hF rfl rfl rfl rfl ?_
  refine L.assign hF rfl rfl rfl (L.nil ?_)
  refine WpC.ret ?_
  cases H
  exact Leaves.ret rfl rfl rfl ⟨rfl, rfl⟩
 ·replace H := condF hc H
  refine L.off hF rfl rfl ?_
  refine L.off hF rfl rfl ?_
  refine L.off hF rfl rfl ?_
  refine L.pick hF rfl rfl rfl rfl ?_
  refine L.assign hF rfl rfl rfl (L.nil ?_)
  refine WpC.ret ?_
  cases H
  exact Leaves.ret rfl rfl rfl ⟨rfl, rfl⟩
/-! ### Fspec_l17Set -/
def Fspec_l17Set.j8 (cl7 : (List Int) → Int → Option Bool) (k : Nat) (v107 : List Int) (v108 : Int) : Option Bool := cl7 v107 (IntKind.i64.wrap (v108 + (1 : Int)))
def Fspec_l17Set.l7 : Nat → (List Int) → Int → Option Bool
 | 0, _, _ => none
 | k7 + 1, v97, v98 => cond (decide (v98 < (v97.length : Int))) ((at? v97 v98).bind fun b113 => (Fspec_l1In k7 b113 (0 : Int) (30 : Int)).bind fun r114 => cond (!r114) (some false) (cond (decide (v98 > (0 : Int))) ((at? v97 (IntKind.i64.wrap (v98 - (1 : Int)))).bind fun b117 => (at? v97 v98).bind fun b118 => cond (decide (b117 ≥ b118)) (some false) (Fspec_l17Set.j8 (Fspec_l17Set.l7 k7) k7 v97 v98)) (Fspec_l17Set.j8 (Fspec_l17Set.l7 k7) k7 v97 v98))) (some true)
def Fspec_l17Set (k : Nat) (a0 : List Int) : Option Bool := Fspec_l17Set.l7 k a0 (0 : Int)
theorem ent129 : MG.Enters Try.prog 129 := ⟨Try.f129, Try.func129, rfl, by decide⟩
set_option maxHeartbeats 8000000 in
set_option maxRecDepth 100000 in
theorem Fspec_l17Set_gives (k : Nat) (g0 : Bool) (a0 : List Int) (r : Bool) (H : Fspec_l17Set k a0 = some r) : Gives Try.prog 129 [V.one (Cell.sl g0 (List.map eI a0))] [] [V.one (cL r)] [] := by
 refine Gives.intro Try.func129 rfl rfl rfl rfl ?_
 intro F hF hm
 unfold Fspec_l17Set at H
 obtain ⟨K, hK⟩ : ∃ K, k ≤ K := ⟨k, Nat.le_refl k⟩
 refine WpC.seq (WpC.regionL ?_)
 refine L.assign hF rfl rfl rfl (L.nil ?_)
 refine WpC.seq (WpC.seq (WpC.regionL ?_))
 refine L.assign hF rfl rfl rfl (L.nil ?_)
 refine WpC.block ?_
 refine WpC.loopL (P := Try.prog) (fun n σ => ∃ v97 : List Int, ∃ v98 : Int, n ≤ K ∧ Fspec_l17Set.l7 n v97 v98 = some r ∧ σ = mkSt [(0, one (Cell.sl g0 (List.map eI v97))), (3, one (cI v98))] [] [] 0) k ⟨_, ⟨a0, (0 : Int), by omega, H, rfl⟩, Le.mk [] hm rfl (Sa2 trivial) trivial trivial⟩ ?_
 clear H
 rintro k7 _ ⟨v97, v98, hk7, H, rfl⟩
 cases k7 with
 | zero => cases H
 | succ k7 =>
  rw [Fspec_l17Set.l7] at H
  refine WpC.seq (WpC.seq (WpC.regionL ?_))
  refine L.move hF rfl rfl rfl ?_
  refine L.move hF rfl rfl rfl ?_
  refine L.lenR (xs := v97) (e := eI) Try.underlying39 hF rfl rfl rfl rfl ?_
  refine L.bin hF rfl rfl rfl rfl rfl rfl (L.nil ?_)
  refine WpC.cond rfl (fun hc => ?_) (fun hc => ?_)
  ·replace H := condT hc H
   refine WpC.skip ?_
   refine WpC.join (fun σ => ∃ kj8 : Nat, ∃ v107 : List Int, ∃ v108 : Int, kj8 ≤ K ∧ Fspec_l17Set.j8 (Fspec_l17Set.l7 k7) kj8 v107 v108 = some r ∧ σ = mkSt [(0, one (Cell.sl g0 (List.map eI v107))), (3, one (cI v108))] [] [] 0) ?_ ?_
   ·rintro _ ⟨kj8, v107, v108, hkj8, H, rfl⟩
    unfold Fspec_l17Set.j8 at H
    refine WpC.regionL ?_
    refine L.move hF rfl rfl rfl ?_
    refine L.bin hF rfl rfl rfl rfl rfl rfl ?_
    refine L.assign hF rfl rfl rfl (L.nil ?_)
    exact ⟨k7, _, by omega, ⟨v107, (IntKind.i64.wrap (v108 + (1 : Int))), by omega, H, rfl⟩, Le.mk [] hm rfl (Sa2 trivial) trivial trivial⟩
   ·refine WpC.block (WpC.seq ?_)
    obtain ⟨b113, hb113, H⟩ := bindS H
    obtain ⟨r114, hr114, H⟩ := bindS H
    rcases Bool.eq_false_or_eq_true ((!r114)) with hc115 | hc115
    ·replace H := condT hc115 H
     refine A.begin mixed rfl rfl ?_
     intro W hI hO
     refine hI _ _ _ ?_
     refine Atk 0 rfl (Ca.move) (fun Q0 k0 => L.move hF rfl rfl rfl (L.nil k0)) ?_
     refine Atk 1 rfl (Ca.move) (fun Q0 k0 => L.move hF rfl rfl rfl (L.nil k0)) ?_
     refine Atk 2 rfl (Ca.indexAddr) (fun Q0 k0 => L.idxR (xs := v97) (e := eI) Try.underlying39 info3 hF rfl rfl rfl rfl rfl hb113 rfl rfl (L.nil k0)) ?_
     refine A.all [3] (by kernel_rfl) rfl ⟨⟨_, rfl, ?_⟩, trivial⟩
     refine L.loadPe shape3 hF rfl rfl rfl rfl rfl (L.nil ?_)
     refine A.all [4] (by kernel_rfl) rfl ⟨⟨_, rfl, ?_⟩, trivial⟩
     refine L.call [false, false, false] [] [] 0 hF rfl rfl rfl ent121 rfl rfl rfl rfl rfl (Fspec_l1In_gives k7  b113 (0 : Int) (30 : Int) r114 hr114) rfl (L.nil ?_)
     refine Atk 5 rfl (Ca.un rfl rfl) (fun Q0 k0 => L.not hF rfl rfl rfl (L.nil k0)) ?_
     refine Atk 6 rfl (Ca.move) (fun Q0 k0 => L.move hF rfl rfl rfl (L.nil k0)) ?_
     refine A.le (τ := mkSt [(0, one (Cell.sl g0 (List.map eI v97))), (3, one (cI v98)), (16, one (cL true))] [] [] 0) (Le.mk [] hm rfl (Sa2 (Sa1 trivial rfl (congrArg (fun b => some (one (cL b))) hc115))) trivial trivial) ?_
     refine Aof 7 rfl hF ?_
     refine Aof 8 rfl hF ?_
     refine Aof 9 rfl hF ?_
     refine Aof 10 rfl hF ?_
     refine Aof 11 rfl hF ?_
     refine Aof 12 rfl hF ?_
     refine Aof 13 rfl hF ?_
     refine Aof 14 rfl hF ?_
     refine Aof 15 rfl hF ?_
     refine Aof 16 rfl hF ?_
     refine A.le (τ := mkSt [(0, one (Cell.sl g0 (List.map eI v97))), (3, one (cI v98)), (16, one (cL true)), (19, Slot.tup []), (24, Slot.tup []), (25, Slot.tup []), (26, Slot.tup [])] [] [] 0) (Le.mk [] hm rfl (Sa4 (Sa2 (Sa1 trivial))) trivial trivial) ?_
     refine Aof 17 rfl hF ?_
     refine Aof 18 rfl hF ?_
     refine Aof 19 rfl hF ?_
     refine Aof 20 rfl hF ?_
     refine Atk 21 rfl (Ca.pick) (fun Q0 k0 => L.pick hF rfl rfl rfl rfl (L.nil k0)) ?_
     refine A.le (τ := mkSt [(0, one (Cell.sl g0 (List.map eI v97))), (3, one (cI v98)), (31, one (cL true))] [] [] 0) (Le.mk [] hm rfl (Sa2 (Sa1 trivial)) trivial trivial) ?_
     refine A.done (by kernel_rfl) ?_
     refine WpC.cond rfl (fun _ => ?_) (fun hc => by cases hc)
     refine WpC.seq (WpC.regionL ?_)
     refine L.assign hF rfl rfl rfl (L.nil ?_)
     refine WpC.ret ?_
     cases H
     exact Leaves.ret rfl rfl rfl ⟨rfl, rfl⟩
    ·replace H := condF hc115 H
     rcases Bool.eq_false_or_eq_true ((decide (v98 > (0 : Int)))) with hc116 | hc116
     ·replace H := condT hc116 H
      obtain ⟨b117, hb117, H⟩ := bindS H
      obtain ⟨b118, hb118, H⟩ := bindS H
      refine A.begin mixed rfl rfl ?_
      intro W hI hO
      have n524287 : W 3 #[true, true, true, true, true, true, true, true, true, true, true, true, true, true, true, true, true, true, true, false, false, false] (mkSt [(0, one (Cell.sl g0 (List.map eI v97))), (3, one (cI v98)), (16, one (cL false)), (19, one (cL true)), (24, one (cI b117)), (28, one (cI b118))] [] [] 0) := by
       refine hI _ _ _ ?_
       refine Atk 19 rfl (Ca.bin rfl rfl (calm_int _ _ _ _ _ _ _ _)) (fun Q0 k0 => L.bin hF rfl rfl rfl rfl rfl rfl (L.nil k0)) ?_
       refine Atk 20 rfl (Ca.pick) (fun Q0 k0 => L.pick hF rfl rfl rfl rfl (L.nil k0)) ?_
       refine Atk 21 rfl (Ca.pick) (fun Q0 k0 => L.pick hF rfl rfl rfl rfl (L.nil k0)) ?_
       refine A.le (τ := mkSt [(0, one (Cell.sl g0 (List.map eI v97))), (3, one (cI v98)), (31, one (cL (decide (b117 ≥ b118))))] [] [] 0) (Le.mk [] hm rfl (Sa2 (Sa1 trivial)) trivial trivial) ?_
       refine A.done (by kernel_rfl) ?_
       refine WpC.cond rfl (fun hc => ?_) (fun hc => ?_)
       ·replace H := condT hc H
        refine WpC.seq (WpC.regionL ?_)
        refine L.assign hF rfl rfl rfl (L.nil ?_)
        refine WpC.ret ?_
        cases H
        exact Leaves.ret rfl rfl rfl ⟨rfl, rfl⟩
       ·replace H := condF hc H
        refine WpC.skip ?_
        exact ⟨_, ⟨k7, v97, v98, by omega, H, rfl⟩, Le.mk [] hm rfl (Sa2 trivial) trivial trivial⟩
      refine hI _ _ _ ?_
      refine Atk 0 rfl (Ca.move) (fun Q0 k0 => L.move hF rfl rfl rfl (L.nil k0)) ?_
      refine Atk 1 rfl (Ca.move) (fun Q0 k0 => L.move hF rfl rfl rfl (L.nil k0)) ?_
      refine Atk 2 rfl (Ca.indexAddr) (fun Q0 k0 => L.idxR (xs := v97) (e := eI) Try.underlying39 info3 hF rfl rfl rfl rfl rfl hb113 rfl rfl (L.nil k0)) ?_
      refine A.all [3] (by kernel_rfl) rfl ⟨⟨_, rfl, ?_⟩, trivial⟩
      refine L.loadPe shape3 hF rfl rfl rfl rfl rfl (L.nil ?_)
      refine A.all [4] (by kernel_rfl) rfl ⟨⟨_, rfl, ?_⟩, trivial⟩
      refine L.call [false, false, false] [] [] 0 hF rfl rfl rfl ent121 rfl rfl rfl rfl rfl (Fspec_l1In_gives k7  b113 (0 : Int) (30 : Int) r114 hr114) rfl (L.nil ?_)
      refine Atk 5 rfl (Ca.un rfl rfl) (fun Q0 k0 => L.not hF rfl rfl rfl (L.nil k0)) ?_
      refine Atk 6 rfl (Ca.move) (fun Q0 k0 => L.move hF rfl rfl rfl (L.nil k0)) ?_
      refine A.le (τ := mkSt [(0, one (Cell.sl g0 (List.map eI v97))), (3, one (cI v98)), (16, one (cL false))] [] [] 0) (Le.mk [] hm rfl (Sa2 (Sa1 trivial rfl (congrArg (fun b => some (one (cL b))) hc115))) trivial trivial) ?_
      refine Atk 7 rfl (Ca.move) (fun Q0 k0 => L.move hF rfl rfl rfl (L.nil k0)) ?_
      refine Atk 8 rfl (Ca.bin rfl rfl (calm_int _ _ _ _ _ _ _ _)) (fun Q0 k0 => L.bin hF rfl rfl rfl rfl rfl rfl (L.nil k0)) ?_
      refine Atk 9 rfl (Ca.move) (fun Q0 k0 => L.move hF rfl rfl rfl (L.nil k0)) ?_
      refine A.le (τ := mkSt [(0, one (Cell.sl g0 (List.map eI v97))), (3, one (cI v98)), (16, one (cL false)), (19, one (cL true))] [] [] 0) (Le.mk [] hm rfl (Sa2 (Sa1 (Sa1 trivial rfl (congrArg (fun b => some (one (cL b))) hc116)))) trivial trivial) ?_
      refine Atk 10 rfl (Ca.move) (fun Q0 k0 => L.move hF rfl rfl rfl (L.nil k0)) ?_
      refine Atk 11 rfl (Ca.move) (fun Q0 k0 => L.move hF rfl rfl rfl (L.nil k0)) ?_
      refine Atk 12 rfl (Ca.bin rfl rfl (calm_int _ _ _ _ _ _ _ _)) (fun Q0 k0 => L.bin hF rfl rfl rfl rfl rfl rfl (L.nil k0)) ?_
      refine Atk 13 rfl (Ca.indexAddr) (fun Q0 k0 => L.idxR (xs := v97) (e := eI) Try.underlying39 info3 hF rfl rfl rfl rfl rfl hb117 rfl rfl (L.nil k0)) ?_
      refine Atk 15 rfl (Ca.move) (fun Q0 k0 => L.move hF rfl rfl rfl (L.nil k0)) ?_
      refine Atk 16 rfl (Ca.move) (fun Q0 k0 => L.move hF rfl rfl rfl (L.nil k0)) ?_
      refine Atk 17 rfl (Ca.indexAddr) (fun Q0 k0 => L.idxR (xs := v97) (e := eI) Try.underlying39 info3 hF rfl rfl rfl rfl rfl hb118 rfl rfl (L.nil k0)) ?_
      refine A.all [14, 18] (by kernel_rfl) rfl ⟨⟨_, rfl, ?_⟩, ⟨_, rfl, ?_⟩, trivial⟩
      ·refine L.loadPe shape3 hF rfl rfl rfl rfl rfl (L.nil ?_)
       refine A.all [18] (by kernel_rfl) rfl ⟨⟨_, rfl, ?_⟩, trivial⟩
       refine L.loadPe shape3 hF rfl rfl rfl rfl rfl (L.nil ?_)
       exact A.on (hO _ _ _ n524287) (Le.mk [] hm rfl (Sa4 (Sa2 trivial)) trivial trivial)
      ·refine L.loadPe shape3 hF rfl rfl rfl rfl rfl (L.nil ?_)
       refine A.all [14] (by kernel_rfl) rfl ⟨⟨_, rfl, ?_⟩, trivial⟩
       refine L.loadPe shape3 hF rfl rfl rfl rfl rfl (L.nil ?_)
       exact A.on (hO _ _ _ n524287) (Le.mk [] hm rfl (Sa4 (Sa2 trivial)) trivial trivial)
     ·replace H := condF hc116 H
      refine A.begin mixed rfl rfl ?_
      intro W hI hO
      refine hI _ _ _ ?_
      refine Atk 0 rfl (Ca.move) (fun Q0 k0 => L.move hF rfl rfl rfl (L.nil k0)) ?_
      refine Atk 1 rfl (Ca.move) (fun Q0 k0 => L.move hF rfl rfl rfl (L.nil k0)) ?_
      refine Atk 2 rfl (Ca.indexAddr) (fun Q0 k0 => L.idxR (xs := v97) (e := eI) Try.underlying39 info3 hF rfl rfl rfl rfl rfl hb113 rfl rfl (L.nil k0)) ?_
      refine A.all [3] (by kernel_rfl) rfl ⟨⟨_, rfl, ?_⟩, trivial⟩
      refine L.loadPe shape3 hF rfl rfl rfl rfl rfl (L.nil ?_)
      refine A.all [4] (by kernel_rfl) rfl ⟨⟨_, rfl, ?_⟩, trivial⟩
      refine L.call [false, false, false] [] [] 0 hF rfl rfl rfl ent121 rfl rfl rfl rfl rfl (Fspec_l1In_gives k7  b113 (0 : Int) (30 : Int) r114 hr114) rfl (L.nil ?_)
      refine Atk 5 rfl (Ca.un rfl rfl) (fun Q0 k0 => L.not hF rfl rfl rfl (L.nil k0)) ?_
      refine Atk 6 rfl (Ca.move) (fun Q0 k0 => L.move hF rfl rfl rfl (L.nil k0)) ?_
      refine A.le (τ := mkSt [(0, one (Cell.sl g0 (List.map eI v97))), (3, one (cI v98)), (16, one (cL false))] [] [] 0) (Le.mk [] hm rfl (Sa2 (Sa1 trivial rfl (congrArg (fun b => some (one (cL b))) hc115))) trivial trivial) ?_
      refine Atk 7 rfl (Ca.move) (fun Q0 k0 => L.move hF rfl rfl rfl (L.nil k0)) ?_
      refine Atk 8 rfl (Ca.bin rfl rfl (calm_int _ _ _ _ _ _ _ _)) (fun Q0 k0 => L.bin hF rfl rfl rfl rfl rfl rfl (L.nil k0)) ?_
      refine Atk 9 rfl (Ca.move) (fun Q0 k0 => L.move hF rfl rfl rfl (L.nil k0)) ?_
      refine A.le (τ := mkSt [(0, one (Cell.sl g0 (List.map eI v97))), (3, one (cI v98)), (16, one (cL false)), (19, one (cL false))] [] [] 0) (Le.mk [] hm rfl (Sa2 (Sa1 (Sa1 trivial rfl (congrArg (fun b => some (one (cL b))) hc116)))) trivial trivial) ?_
      refine Aof 10 rfl hF ?_
      refine Aof 11 rfl hF ?_
      refine Aof 12 rfl hF ?_
      refine Aof 13 rfl hF ?_
      refine Aof 14 rfl hF ?_
      refine Aof 15 rfl hF ?_
      refine Aof 16 rfl hF ?_
      refine Aof 17 rfl hF ?_
      refine Aof 18 rfl hF ?_
      refine Aof 19 rfl hF ?_
      refine A.le (τ := mkSt [(0, one (Cell.sl g0 (List.map eI v97))), (3, one (cI v98)), (16, one (cL false)), (19, one (cL false)), (29, Slot.tup [])] [] [] 0) (Le.mk [] hm rfl (Sa4 (Sa1 trivial)) trivial trivial) ?_
      refine Atk 20 rfl (Ca.pick) (fun Q0 k0 => L.pick hF rfl rfl rfl rfl (L.nil k0)) ?_
      refine Atk 21 rfl (Ca.pick) (fun Q0 k0 => L.pick hF rfl rfl rfl rfl (L.nil k0)) ?_
      refine A.le (τ := mkSt [(0, one (Cell.sl g0 (List.map eI v97))), (3, one (cI v98)), (31, one (cL false))] [] [] 0) (Le.mk [] hm rfl (Sa2 (Sa1 trivial)) trivial trivial) ?_
      refine A.done (by kernel_rfl) ?_
      refine WpC.cond rfl (fun hc => by cases hc) (fun _ => ?_)
      refine WpC.skip ?_
      exact ⟨_, ⟨k7, v97, v98, by omega, H, rfl⟩, Le.mk [] hm rfl (Sa2 trivial) trivial trivial⟩
  ·replace H := condF hc H
   refine WpC.exit (WpC.seq (WpC.regionL ?_))
   refine L.assign hF rfl rfl rfl (L.nil ?_)
   refine WpC.ret ?_
   cases H
   exact Leaves.ret rfl rfl rfl ⟨rfl, rfl⟩
/-! ### Fspec_l17Ok -/
def Fspec_l17Ok (k : Nat) (a0 : Timpl_Rule) : Option Bool := (Fspec_l1In k a0.Kind (1 : Int) (3 : Int)).bind fun r4 => cond r4 (cond (a0.N == (0 : Int)) ((Fspec_l17Set k a0.Set).bind fun r6 => some r6) (some false)) ((Fspec_l1In k a0.Kind (4 : Int) (5 : Int)).bind fun r9 => cond r9 (cond ((a0.Set.length : Int) == (0 : Int)) ((Fspec_l1In k a0.N (0 : Int) (100000 : Int)).bind fun r10 => some r10) (some false)) (some false))
theorem ent67 : MG.Enters Try.prog 67 := ⟨Try.f67, Try.func67, rfl, by decide⟩
set_option maxHeartbeats 8000000 in
set_option maxRecDepth 100000 in
theorem Fspec_l17Ok_gives (k : Nat) (g0 : Bool) (a0 : Timpl_Rule) (r : Bool) (H : Fspec_l17Ok k a0 = some r) : Gives Try.prog 67 [V.agg [cI a0.Kind, Cell.sl g0 (List.map eI a0.Set), cI a0.N]] [] [V.one (cL r)] [] := by
 refine Gives.intro Try.func67 rfl rfl rfl rfl ?_
 intro F hF hm
 unfold Fspec_l17Ok at H
 obtain ⟨K, hK⟩ : ∃ K, k ≤ K := ⟨k, Nat.le_refl k⟩
 refine WpC.seq (WpC.regionL ?_)
 refine L.box 3 hF rfl rfl rfl rfl ?_
 refine L.assign hF rfl rfl rfl (L.nil ?_)
 refine WpC.seq (WpC.seq (WpC.regionL ?_))
 refine L.fieldAddr Try.underlying96 rfl info3 rfl hF rfl rfl rfl rfl rfl ?_
 refine L.loadPtr shape3 hF rfl rfl rfl rfl rfl rfl ?_
 obtain ⟨r4, hr4, H⟩ := bindS H
 refine L.call [false, false, false] [] [] 4 hF rfl rfl rfl ent121 rfl rfl rfl rfl rfl (Fspec_l1In_gives k  a0.Kind (1 : Int) (3 : Int) r4 hr4) rfl (L.nil ?_)
 refine WpC.cond rfl (fun hc => ?_) (fun hc => ?_)
 ·replace H := condT hc H
  refine WpC.seq (WpC.regionL ?_)
  refine L.fieldAddr Try.underlying96 rfl info3 rfl hF rfl rfl rfl rfl rfl ?_
  refine L.loadPtr shape3 hF rfl rfl rfl rfl rfl rfl ?_
  refine L.bin hF rfl rfl rfl rfl rfl rfl ?_
  refine L.move hF rfl rfl rfl ?_
  refine L.split (fun hc => ?_) (fun hc => ?_)
  ·replace H := condT hc H
   refine L.fieldAddr Try.underlying96 rfl info39 rfl hF rfl rfl rfl rfl rfl ?_
   refine L.loadPtr shape39 hF rfl rfl rfl rfl rfl rfl ?_
   obtain ⟨r6, hr6, H⟩ := bindS H
   refine L.call [false] [] [] 5 hF rfl rfl rfl ent129 rfl rfl rfl rfl rfl (Fspec_l17Set_gives k g0 a0.Set r6 hr6) rfl ?_
   refine L.pick hF rfl rfl rfl rfl ?_
   refine L.assign hF rfl rfl rfl (L.nil ?_)
   refine WpC.ret ?_
   cases H
   exact Leaves.ret rfl rfl rfl ⟨rfl, rfl⟩
  ·replace H := condF hc H
   refine L.off hF rfl rfl ?_
   refine L.off hF rfl rfl ?_
   refine L.off hF rfl rfl ?_
   refine L.pick hF rfl rfl rfl rfl ?_
   refine L.assign hF rfl rfl rfl (L.nil ?_)
   refine WpC.ret ?_
   cases H
   exact Leaves.ret rfl rfl rfl ⟨rfl, rfl⟩
 ·replace H := condF hc H
  refine WpC.skip (WpC.seq (WpC.regionL ?_))
  refine L.fieldAddr Try.underlying96 rfl info3 rfl hF rfl rfl rfl rfl rfl ?_
  refine L.loadPtr shape3 hF rfl rfl rfl rfl rfl rfl ?_
  obtain ⟨r9, hr9, H⟩ := bindS H
  refine L.call [false, false, false] [] [] 5 hF rfl rfl rfl ent121 rfl rfl rfl rfl rfl (Fspec_l1In_gives k  a0.Kind (4 : Int) (5 : Int) r9 hr9) rfl ?_
  refine L.move hF rfl rfl rfl ?_
  refine L.split (fun hc => ?_) (fun hc => ?_)
  ·replace H := condT hc H
   refine L.fieldAddr Try.underlying96 rfl info39 rfl hF rfl rfl rfl rfl rfl ?_
   refine L.loadPtr shape39 hF rfl rfl rfl rfl rfl rfl ?_
   refine L.lenR (xs := a0.Set) (e := eI) Try.underlying39 hF rfl rfl rfl rfl ?_
   refine L.bin hF rfl rfl rfl rfl rfl rfl ?_
   refine L.pick hF rfl rfl rfl rfl ?_
   refine L.move hF rfl rfl rfl ?_
   refine L.split (fun hc => ?_) (fun hc => ?_)
   ·replace H := condT hc H
    refine L.fieldAddr Try.underlying96 rfl info3 rfl hF rfl rfl rfl rfl rfl ?_
    refine L.loadPtr shape3 hF rfl rfl rfl rfl rfl rfl ?_
    obtain ⟨r10, hr10, H⟩ := bindS H
    refine L.call [false, false, false] [] [] 6 hF rfl rfl rfl ent121 rfl rfl rfl rfl rfl (Fspec_l1In_gives k  a0.N (0 : Int) (100000 : Int) r10 hr10) rfl ?_
    refine L.pick hF rfl rfl rfl rfl ?_
    refine L.assign hF rfl rfl rfl (L.nil ?_)
    refine WpC.ret ?_
    cases H
    exact Leaves.ret rfl rfl rfl ⟨rfl, rfl⟩
   ·replace H := condF hc H
    refine L.off hF rfl rfl ?_
    refine L.off hF rfl rfl ?_
    refine L.off hF rfl rfl ?_
    refine L.pick hF rfl rfl rfl rfl ?_
    refine L.assign hF rfl rfl rfl (L.nil ?_)
    refine WpC.ret ?_
    cases H
    exact Leaves.ret rfl rfl rfl ⟨rfl, rfl⟩
  ·replace H := condF hc H
   refine L.off hF rfl rfl ?_
   refine L.off hF rfl rfl ?_
   refine L.off hF rfl rfl ?_
   refine L.off hF rfl rfl ?_
   refine L.pick hF rfl rfl rfl rfl ?_
   refine L.move hF rfl rfl rfl ?_
   refine L.off hF rfl rfl ?_
   refine L.off hF rfl rfl ?_
   refine L.off hF rfl rfl ?_
   refine L.pick hF rfl rfl rfl rfl ?_
   refine L.assign hF rfl rfl rfl (L.nil ?_)
   refine WpC.ret ?_
   cases H
   exact Leaves.ret rfl rfl rfl ⟨rfl, rfl⟩
/-! ### Fspec_RulesOk -/
def Fspec_RulesOk.l2 : Nat → (List Timpl_Rule) → Int → Option Bool
 | 0, _, _ => none
 | k2 + 1, v29, v30 => cond (decide (v30 < (v29.length : Int))) ((at? v29 v30).bind fun b33 => (Fspec_l17Ok k2 b33).bind fun r34 => cond (!r34) (some false) ((Fspec_RulesOk.l2 k2) v29 (IntKind.i64.wrap (v30 + (1 : Int))))) (some true)
def Fspec_RulesOk (k : Nat) (a0 : List Timpl_Rule) : Option Bool := cond (decide ((a0.length : Int) > (20 : Int))) (some false) (Fspec_RulesOk.l2 k a0 (0 : Int))
theorem ent25 : MG.Enters Try.prog 25 := ⟨Try.f25, Try.func25, rfl, by decide⟩
set_option maxHeartbeats 8000000 in
set_option maxRecDepth 100000 in
theorem Fspec_RulesOk_gives (k : Nat) (g0 : Bool) (a0 : List Timpl_Rule) (r : Bool) (H : Fspec_RulesOk k a0 = some r) : Gives Try.prog 25 [V.one (Cell.sl g0 (List.map eTimpl_Rule a0))] [] [V.one (cL r)] [] := by
 refine Gives.intro Try.func25 rfl rfl rfl rfl ?_
 intro F hF hm
 unfold Fspec_RulesOk at H
 obtain ⟨K, hK⟩ : ∃ K, k ≤ K := ⟨k, Nat.le_refl k⟩
 refine WpC.seq (WpC.regionL ?_)
 refine L.assign hF rfl rfl rfl (L.nil ?_)
 refine WpC.seq (WpC.seq (WpC.regionL ?_))
 refine L.move hF rfl rfl rfl ?_
 refine L.lenR (xs := a0) (e := eTimpl_Rule) Try.underlying28 hF rfl rfl rfl rfl ?_
 refine L.bin hF rfl rfl rfl rfl rfl rfl (L.nil ?_)
 refine WpC.cond rfl (fun hc => ?_) (fun hc => ?_)
 ·replace H := condT hc H
  refine WpC.seq (WpC.regionL ?_)
  refine L.assign hF rfl rfl rfl (L.nil ?_)
  refine WpC.ret ?_
  cases H
  exact Leaves.ret rfl rfl rfl ⟨rfl, rfl⟩
 ·replace H := condF hc H
  refine WpC.skip (WpC.seq (WpC.seq (WpC.regionL ?_)))
  refine L.assign hF rfl rfl rfl (L.nil ?_)
  refine WpC.block ?_
  refine WpC.loopL (P := Try.prog) (fun n σ => ∃ v29 : List Timpl_Rule, ∃ v30 : Int, n ≤ K ∧ Fspec_RulesOk.l2 n v29 v30 = some r ∧ σ = mkSt [(0, one (Cell.sl g0 (List.map eTimpl_Rule v29))), (3, one (cI v30))] [] [] 0) k ⟨_, ⟨a0, (0 : Int), by omega, H, rfl⟩, Le.mk [] hm rfl (Sa2 trivial) trivial trivial⟩ ?_
  clear H
  rintro k2 _ ⟨v29, v30, hk2, H, rfl⟩
  cases k2 with
  | zero => cases H
  | succ k2 =>
   rw [Fspec_RulesOk.l2] at H
   refine WpC.seq (WpC.seq (WpC.regionL ?_))
   refine L.move hF rfl rfl rfl ?_
   refine L.move hF rfl rfl rfl ?_
   refine L.lenR (xs := v29) (e := eTimpl_Rule) Try.underlying28 hF rfl rfl rfl rfl ?_
   refine L.bin hF rfl rfl rfl rfl rfl rfl (L.nil ?_)
   refine WpC.cond rfl (fun hc => ?_) (fun hc => ?_)
   ·replace H := condT hc H
    refine WpC.skip (WpC.seq (WpC.block (WpC.seq (WpC.regionL ?_))))
    refine L.move hF rfl rfl rfl ?_
    refine L.move hF rfl rfl rfl ?_
    obtain ⟨b33, hb33, H⟩ := bindS H
    refine L.idxR (xs := v29) (e := eTimpl_Rule) Try.underlying28 info96 hF rfl rfl rfl rfl rfl hb33 rfl rfl ?_
    refine L.loadPe shape96 hF rfl rfl rfl rfl rfl ?_
    obtain ⟨r34, hr34, H⟩ := bindS H
    refine L.call [false] [] [] 0 hF rfl rfl rfl ent67 rfl rfl rfl rfl rfl (Fspec_l17Ok_gives k2 g0 b33 r34 hr34) rfl ?_
    refine L.not hF rfl rfl rfl (L.nil ?_)
    refine WpC.cond rfl (fun hc => ?_) (fun hc => ?_)
    ·replace H := condT hc H
     refine WpC.seq (WpC.regionL ?_)
     refine L.assign hF rfl rfl rfl (L.nil ?_)
     refine WpC.ret ?_
     cases H
     exact Leaves.ret rfl rfl rfl ⟨rfl, rfl⟩
    ·replace H := condF hc H
     refine WpC.skip (WpC.regionL ?_)
     refine L.move hF rfl rfl rfl ?_
     refine L.bin hF rfl rfl rfl rfl rfl rfl ?_
     refine L.assign hF rfl rfl rfl (L.nil ?_)
     exact ⟨k2, _, by omega, ⟨v29, (IntKind.i64.wrap (v30 + (1 : Int))), by omega, H, rfl⟩, Le.mk [] hm rfl (Sa2 trivial) trivial trivial⟩
   ·replace H := condF hc H
    refine WpC.exit (WpC.seq (WpC.regionL ?_))
    refine L.assign hF rfl rfl rfl (L.nil ?_)
    refine WpC.ret ?_
    cases H
    exact Leaves.ret rfl rfl rfl ⟨rfl, rfl⟩
/-! ### Fspec_Var -/
def Fspec_Var.l2 : Nat → Int → (List UInt8) → Option (List UInt8)
 | 0, _, _ => none
 | k2 + 1, v16, v17 => cond (decide (v16 ≥ (128 : Int))) (cond (decide ((2 * (v17.length + ([(ofI (IntKind.i64.wrap ((128 : Int) + (Int.tmod v16 (128 : Int)))))] : List UInt8).length) + 192) * 1 ≤ 281474976710656)) ((Fspec_Var.l2 k2) (IntKind.i64.wrap (Int.tdiv v16 (128 : Int))) (v17 ++ ([(ofI (IntKind.i64.wrap ((128 : Int) + (Int.tmod v16 (128 : Int)))))] : List UInt8))) none) (cond (decide ((2 * (v17.length + ([(ofI v16)] : List UInt8).length) + 192) * 1 ≤ 281474976710656)) (some (v17 ++ ([(ofI v16)] : List UInt8))) none)
def Fspec_Var (k : Nat) (a0 : Int) : Option (List UInt8) := (Fspec_l1In k a0 (0 : Int) (562949953421311 : Int)).bind fun r2 => cond (!r2) (some ([] : List UInt8)) (Fspec_Var.l2 k a0 ([] : List UInt8))
theorem ent68 : MG.Enters Try.prog 68 := ⟨Try.f68, Try.func68, rfl, by decide⟩
set_option maxHeartbeats 8000000 in
set_option maxRecDepth 100000 in
theorem Fspec_Var_gives (k : Nat) (a0 : Int) (r : List UInt8) (H : Fspec_Var k a0 = some r) : Gives Try.prog 68 [V.one (cI a0)] [] [V.one (cS r)] [] := by
 refine Gives.intro Try.func68 rfl rfl rfl rfl ?_
 intro F hF hm
 unfold Fspec_Var at H
 obtain ⟨K, hK⟩ : ∃ K, k ≤ K := ⟨k, Nat.le_refl k⟩
 refine WpC.seq (WpC.regionL ?_)
 refine L.assign hF rfl rfl rfl (L.nil ?_)
 refine WpC.seq (WpC.seq (WpC.regionL ?_))
 refine L.move hF rfl rfl rfl ?_
 obtain ⟨r2, hr2, H⟩ := bindS H
 refine L.call [false, false, false] [] [] 1 hF rfl rfl rfl ent121 rfl rfl rfl rfl rfl (Fspec_l1In_gives k  a0 (0 : Int) (562949953421311 : Int) r2 hr2) rfl ?_
 refine L.not hF rfl rfl rfl (L.nil ?_)
 refine WpC.cond rfl (fun hc => ?_) (fun hc => ?_)
 ·replace H := condT hc H
  refine WpC.seq (WpC.regionL ?_)
  refine L.assign hF rfl rfl rfl (L.nil ?_)
  refine WpC.ret ?_
  cases H
  exact Leaves.ret rfl rfl rfl ⟨rfl, rfl⟩
 ·replace H := condF hc H
  refine WpC.skip (WpC.seq (WpC.regionL ?_))
  refine L.buildSlice (e := eB) 2 ([] : List UInt8) Try.underlying33 info5 rfl rfl rfl hF rfl rfl rfl rfl rfl rfl rfl rfl ?_
  refine L.assign hF rfl rfl rfl (L.nil ?_)
  refine WpC.seq (WpC.block ?_)
  refine WpC.loopL (P := Try.prog) (fun n σ => ∃ v16 : Int, ∃ v17 : List UInt8, n ≤ K ∧ Fspec_Var.l2 n v16 v17 = some r ∧ σ = mkSt [(0, one (cI v16)), (3, one (Cell.own 0))] [(0, ⟨1, List.map eB v17⟩)] [] 1) k ⟨_, ⟨a0, ([] : List UInt8), by omega, H, rfl⟩, Le.mk [(0, 2)] hm rfl (Sa2 trivial) (Ra1 trivial) trivial⟩ ?_
  clear H
  rintro k2 _ ⟨v16, v17, hk2, H, rfl⟩
  cases k2 with
  | zero => cases H
  | succ k2 =>
   rw [Fspec_Var.l2] at H
   refine WpC.seq (WpC.seq (WpC.regionL ?_))
   refine L.move hF rfl rfl rfl ?_
   refine L.bin hF rfl rfl rfl rfl rfl rfl (L.nil ?_)
   refine WpC.cond rfl (fun hc => ?_) (fun hc => ?_)
   ·replace H := condT hc H
    refine WpC.skip (WpC.block (WpC.seq (WpC.regionL ?_)))
    refine L.move hF rfl rfl rfl ?_
    refine L.move hF rfl rfl rfl ?_
    refine L.rem hF rfl rfl rfl rfl (by decide) ?_
    refine L.bin hF rfl rfl rfl rfl rfl rfl ?_
    refine L.toB Try.underlying3 Try.underlying5 hF rfl rfl rfl ?_
    refine L.buildSlice (e := eB) 1 ([(ofI (IntKind.i64.wrap ((128 : Int) + (Int.tmod v16 (128 : Int)))))] : List UInt8) Try.underlying33 info5 rfl rfl rfl hF rfl rfl rfl rfl rfl rfl rfl rfl ?_
    obtain ⟨h18, H⟩ := condG H
    refine L.append (xs := v17) (ys := ([(ofI (IntKind.i64.wrap ((128 : Int) + (Int.tmod v16 (128 : Int)))))] : List UInt8)) (e := eB) 2 Try.underlying33 info5 rfl rfl hF rfl rfl rfl rfl rfl rfl rfl rfl (fun _ => rfl) (fun _ _ h1 h2 => by cases h1; cases h2; rfl) ⟨_, Try.underlying33⟩ (of_decide_eq_true h18) rfl rfl ?_
    refine L.assign hF rfl rfl rfl (L.nil ?_)
    refine WpC.regionL ?_
    refine L.move hF rfl rfl rfl ?_
    refine L.quo hF rfl rfl rfl rfl (by decide) ?_
    refine L.assign hF rfl rfl rfl (L.nil ?_)
    exact ⟨k2, _, by omega, ⟨(IntKind.i64.wrap (Int.tdiv v16 (128 : Int))), (v17 ++ ([(ofI (IntKind.i64.wrap ((128 : Int) + (Int.tmod v16 (128 : Int)))))] : List UInt8)), by omega, H, rfl⟩, Le.mk [(0, 2)] hm rfl (Sa2 trivial) (Ra1 trivial) trivial⟩
   ·replace H := condF hc H
    refine WpC.exit (WpC.seq (WpC.regionL ?_))
    refine L.move hF rfl rfl rfl ?_
    refine L.move hF rfl rfl rfl ?_
    refine L.toB Try.underlying3 Try.underlying5 hF rfl rfl rfl ?_
    refine L.buildSlice (e := eB) 1 ([(ofI v16)] : List UInt8) Try.underlying33 info5 rfl rfl rfl hF rfl rfl rfl rfl rfl rfl rfl rfl ?_
    obtain ⟨h19, H⟩ := condG H
    refine L.append (xs := v17) (ys := ([(ofI v16)] : List UInt8)) (e := eB) 2 Try.underlying33 info5 rfl rfl hF rfl rfl rfl rfl rfl rfl rfl rfl (fun _ => rfl) (fun _ _ h1 h2 => by cases h1; cases h2; rfl) ⟨_, Try.underlying33⟩ (of_decide_eq_true h19) rfl rfl ?_
    refine L.b2s (xs := (v17 ++ ([(ofI v16)] : List UInt8))) Try.underlying33 Try.underlying5 Try.underlying9 hF rfl rfl rfl rfl ?_
    refine L.assign hF rfl rfl rfl (L.nil ?_)
    refine WpC.ret ?_
    cases H
    exact Leaves.ret rfl rfl rfl ⟨rfl, rfl⟩
/-! ### Fspec_ShowRules -/
def Fspec_ShowRules.l14 (cl12 : (List Timpl_Rule) → (List UInt8) → Int → Option (List UInt8)) : Nat → (List Timpl_Rule) → (List UInt8) → Int → Int → Option (List UInt8)
 | 0, _, _, _, _ => none
 | k14 + 1, v594, v595, v596, v597 => (at? v594 v596).bind fun b599 => cond (decide (v597 < (b599.Set.length : Int))) ((at? v594 v596).bind fun b604 => (at? b604.Set v597).bind fun b605 => (Fspec_Var k14 b605).bind fun r606 => cond (decide (v595.length + r606.length ≤ 9223372036854775807)) ((Fspec_ShowRules.l14 cl12 k14) v594 (v595 ++ r606) v596 (IntKind.i64.wrap (v597 + (1 : Int)))) none) (cl12 v594 v595 (IntKind.i64.wrap (v596 + (1 : Int))))
def Fspec_ShowRules.l12 : Nat → (List Timpl_Rule) → (List UInt8) → Int → Option (List UInt8)
 | 0, _, _, _ => none
 | k12 + 1, v505, v506, v507 => cond (decide (v507 < (v505.length : Int))) ((at? v505 v507).bind fun b558 => (Fspec_Var k12 b558.Kind).bind fun r559 => cond (decide (v506.length + r559.length ≤ 9223372036854775807)) ((at? v505 v507).bind fun b561 => (Fspec_Var k12 b561.N).bind fun r562 => cond (decide ((v506 ++ r559).length + r562.length ≤ 9223372036854775807)) ((at? v505 v507).bind fun b564 => (Fspec_Var k12 (b564.Set.length : Int)).bind fun r565 => cond (decide (((v506 ++ r559) ++ r562).length + r565.length ≤ 9223372036854775807)) (Fspec_ShowRules.l14 (Fspec_ShowRules.l12 k12) k12 v505 (((v506 ++ r559) ++ r562) ++ r565) v507 (0 : Int)) none) none) none) (some v506)
def Fspec_ShowRules (k : Nat) (a0 : List Timpl_Rule) : Option (List UInt8) := (Fspec_RulesOk k a0).bind fun r2 => cond (!r2) (some ([] : List UInt8)) ((Fspec_Var k (a0.length : Int)).bind fun r3 => Fspec_ShowRules.l12 k a0 r3 (0 : Int))
theorem ent26 : MG.Enters Try.prog 26 := ⟨Try.f26, Try.func26, rfl, by decide⟩
set_option maxHeartbeats 8000000 in
set_option maxRecDepth 100000 in
theorem Fspec_ShowRules_gives (k : Nat) (g0 : Bool) (a0 : List Timpl_Rule) (r : List UInt8) (H : Fspec_ShowRules k a0 = some r) : Gives Try.prog 26 [V.one (Cell.sl g0 (List.map eTimpl_Rule a0))] [] [V.one (cS r)] [] := by
 refine Gives.intro Try.func26 rfl rfl rfl rfl ?_
 intro F hF hm
 unfold Fspec_ShowRules at H
 obtain ⟨K, hK⟩ : ∃ K, k ≤ K := ⟨k, Nat.le_refl k⟩
 refine WpC.seq (WpC.regionL ?_)
 refine L.assign hF rfl rfl rfl (L.nil ?_)
 refine WpC.seq (WpC.seq (WpC.regionL ?_))
 refine L.move hF rfl rfl rfl ?_
 obtain ⟨r2, hr2, H⟩ := bindS H
 refine L.call [false] [] [] 1 hF rfl rfl rfl ent25 rfl rfl rfl rfl rfl (Fspec_RulesOk_gives k g0 a0 r2 hr2) rfl ?_
 refine L.not hF rfl rfl rfl (L.nil ?_)
 refine WpC.cond rfl (fun hc => ?_) (fun hc => ?_)
 ·replace H := condT hc H
  refine WpC.seq (WpC.regionL ?_)
  refine L.assign hF rfl rfl rfl (L.nil ?_)
  refine WpC.ret ?_
  cases H
  exact Leaves.ret rfl rfl rfl ⟨rfl, rfl⟩
 ·replace H := condF hc H
  refine WpC.skip (WpC.seq (WpC.regionL ?_))
  refine L.move hF rfl rfl rfl ?_
  refine L.lenR (xs := a0) (e := eTimpl_Rule) Try.underlying28 hF rfl rfl rfl rfl ?_
  obtain ⟨r3, hr3, H⟩ := bindS H
  refine L.call [false] [] [] 2 hF rfl rfl rfl ent68 rfl rfl rfl rfl rfl (Fspec_Var_gives k  (a0.length : Int) r3 hr3) rfl ?_
  refine L.assign hF rfl rfl rfl (L.nil ?_)
  refine WpC.seq (WpC.seq (WpC.regionL ?_))
  refine L.assign hF rfl rfl rfl (L.nil ?_)
  refine WpC.block ?_
  refine WpC.loopL (P := Try.prog) (fun n σ => ∃ v505 : List Timpl_Rule, ∃ v506 : List UInt8, ∃ v507 : Int, n ≤ K ∧ Fspec_ShowRules.l12 n v505 v506 v507 = some r ∧ σ = mkSt [(0, one (Cell.sl g0 (List.map eTimpl_Rule v505))), (3, one (cS v506)), (4, one (cI v507))] [] [] 0) k ⟨_, ⟨a0, r3, (0 : Int), by omega, H, rfl⟩, Le.mk [] hm rfl (Sa2 (Sa1 trivial)) trivial trivial⟩ ?_
  clear H
  rintro k12 _ ⟨v505, v506, v507, hk12, H, rfl⟩
  cases k12 with
  | zero => cases H
  | succ k12 =>
   rw [Fspec_ShowRules.l12] at H
   refine WpC.seq (WpC.seq (WpC.regionL ?_))
   refine L.move hF rfl rfl rfl ?_
   refine L.move hF rfl rfl rfl ?_
   refine L.lenR (xs := v505) (e := eTimpl_Rule) Try.underlying28 hF rfl rfl rfl rfl ?_
   refine L.bin hF rfl rfl rfl rfl rfl rfl (L.nil ?_)
   refine WpC.cond rfl (fun hc => ?_) (fun hc => ?_)
   ·replace H := condT hc H
    refine WpC.skip (WpC.seq (WpC.block (WpC.seq ?_)))
    obtain ⟨b558, hb558, H⟩ := bindS H
    obtain ⟨r559, hr559, H⟩ := bindS H
    obtain ⟨h560, H⟩ := condG H
    obtain ⟨b561, hb561, H⟩ := bindS H
    obtain ⟨r562, hr562, H⟩ := bindS H
    obtain ⟨h563, H⟩ := condG H
    obtain ⟨b564, hb564, H⟩ := bindS H
    obtain ⟨r565, hr565, H⟩ := bindS H
    obtain ⟨h566, H⟩ := condG H
    refine A.begin mixed rfl rfl ?_
    intro W hI hO
    have n2097151 : W 3 #[true, true, true, true, true, true, true, true, true, true, true, true, true, true, true, true, true, true, true, true, true, false, false, false] (mkSt [(0, one (Cell.sl g0 (List.map eTimpl_Rule v505))), (3, one (cS v506)), (4, one (cI v507)), (32, one (cS ((v506 ++ r559) ++ r562))), (38, one (cI (b564.Set.length : Int)))] [] [] 0) := by
     refine hI _ _ _ ?_
     refine A.all [21] (by kernel_rfl) rfl ⟨⟨_, rfl, ?_⟩, trivial⟩
     refine L.call [false] [] [] 0 hF rfl rfl rfl ent68 rfl rfl rfl rfl rfl (Fspec_Var_gives k12  (b564.Set.length : Int) r565 hr565) rfl (L.nil ?_)
     refine Atk 22 rfl (Ca.bin rfl rfl (calm_str _ _ _ _ _ _)) (fun Q0 k0 => L.catS hF rfl rfl rfl rfl (of_decide_eq_true h566) (L.nil k0)) ?_
     refine Atk 23 rfl (Ca.assign) (fun Q0 k0 => L.assign hF rfl rfl rfl (L.nil k0)) ?_
     refine A.le (τ := mkSt [(0, one (Cell.sl g0 (List.map eTimpl_Rule v505))), (3, one (cS (((v506 ++ r559) ++ r562) ++ r565))), (4, one (cI v507))] [] [] 0) (Le.mk [] hm rfl (Sa2 (Sa1 trivial)) trivial trivial) ?_
     refine A.done (by kernel_rfl) ?_
     refine WpC.seq (WpC.regionL ?_)
     refine L.assign hF rfl rfl rfl (L.nil ?_)
     refine WpC.block ?_
     refine WpC.loopL (P := Try.prog) (fun n σ => ∃ v594 : List Timpl_Rule, ∃ v595 : List UInt8, ∃ v596 : Int, ∃ v597 : Int, n ≤ K ∧ Fspec_ShowRules.l14 (Fspec_ShowRules.l12 k12) n v594 v595 v596 v597 = some r ∧ σ = mkSt [(0, one (Cell.sl g0 (List.map eTimpl_Rule v594))), (3, one (cS v595)), (4, one (cI v596)), (5, one (cI v597))] [] [] 0) k12 ⟨_, ⟨v505, (((v506 ++ r559) ++ r562) ++ r565), v507, (0 : Int), by omega, H, rfl⟩, Le.mk [] hm rfl (Sa4 trivial) trivial trivial⟩ ?_
     clear H
     rintro k14 _ ⟨v594, v595, v596, v597, hk14, H, rfl⟩
     cases k14 with
     | zero => cases H
     | succ k14 =>
      rw [Fspec_ShowRules.l14] at H
      refine WpC.seq (WpC.seq (WpC.regionL ?_))
      refine L.move hF rfl rfl rfl ?_
      refine L.move hF rfl rfl rfl ?_
      refine L.move hF rfl rfl rfl ?_
      obtain ⟨b599, hb599, H⟩ := bindS H
      refine L.idxR (xs := v594) (e := eTimpl_Rule) Try.underlying28 info96 hF rfl rfl rfl rfl rfl hb599 rfl rfl ?_
      refine L.fieldAddr Try.underlying96 rfl info39 rfl hF rfl rfl rfl rfl rfl ?_
      refine L.loadPe shape39 hF rfl rfl rfl rfl rfl ?_
      refine L.lenR (xs := b599.Set) (e := eI) Try.underlying39 hF rfl rfl rfl rfl ?_
      refine L.bin hF rfl rfl rfl rfl rfl rfl (L.nil ?_)
      refine WpC.cond rfl (fun hc => ?_) (fun hc => ?_)
      ·replace H := condT hc H
       refine WpC.skip (WpC.seq (WpC.block (WpC.regionL ?_)))
       refine L.move hF rfl rfl rfl ?_
       refine L.move hF rfl rfl rfl ?_
       refine L.move hF rfl rfl rfl ?_
       obtain ⟨b604, hb604, H⟩ := bindS H
       refine L.idxR (xs := v594) (e := eTimpl_Rule) Try.underlying28 info96 hF rfl rfl rfl rfl rfl hb604 rfl rfl ?_
       refine L.fieldAddr Try.underlying96 rfl info39 rfl hF rfl rfl rfl rfl rfl ?_
       refine L.loadPe shape39 hF rfl rfl rfl rfl rfl ?_
       refine L.move hF rfl rfl rfl ?_
       obtain ⟨b605, hb605, H⟩ := bindS H
       refine L.idxR (xs := b604.Set) (e := eI) Try.underlying39 info3 hF rfl rfl rfl rfl rfl hb605 rfl rfl ?_
       refine L.loadPe shape3 hF rfl rfl rfl rfl rfl ?_
       obtain ⟨r606, hr606, H⟩ := bindS H
       refine L.call [false] [] [] 0 hF rfl rfl rfl ent68 rfl rfl rfl rfl rfl (Fspec_Var_gives k14  b605 r606 hr606) rfl ?_
       obtain ⟨h607, H⟩ := condG H
       refine L.catS hF rfl rfl rfl rfl (of_decide_eq_true h607) ?_
       refine L.assign hF rfl rfl rfl (L.nil ?_)
       refine WpC.regionL ?_
       refine L.move hF rfl rfl rfl ?_
       refine L.bin hF rfl rfl rfl rfl rfl rfl ?_
       refine L.assign hF rfl rfl rfl (L.nil ?_)
       exact ⟨k14, _, by omega, ⟨v594, (v595 ++ r606), v596, (IntKind.i64.wrap (v597 + (1 : Int))), by omega, H, rfl⟩, Le.mk [] hm rfl (Sa4 trivial) trivial trivial⟩
      ·replace H := condF hc H
       refine WpC.exit (WpC.regionL ?_)
       refine L.move hF rfl rfl rfl ?_
       refine L.bin hF rfl rfl rfl rfl rfl rfl ?_
       refine L.assign hF rfl rfl rfl (L.nil ?_)
       exact ⟨k12, _, by omega, ⟨v594, v595, (IntKind.i64.wrap (v596 + (1 : Int))), by omega, H, rfl⟩, Le.mk [] hm rfl (Sa2 (Sa1 trivial)) trivial trivial⟩
    have n2072575 : W 5 #[true, true, true, true, true, true, true, true, true, true, true, true, true, false, false, true, true, true, true, true, true, false, false, false] (mkSt [(0, one (Cell.sl g0 (List.map eTimpl_Rule v505))), (3, one (cS v506)), (4, one (cI v507)), (25, one (cS (v506 ++ r559))), (30, one (cI b561.N)), (38, one (cI (b564.Set.length : Int)))] [] [] 0) := by
     refine hI _ _ _ ?_
     refine A.all [13] (by kernel_rfl) rfl ⟨⟨_, rfl, ?_⟩, trivial⟩
     refine L.call [false] [] [] 0 hF rfl rfl rfl ent68 rfl rfl rfl rfl rfl (Fspec_Var_gives k12  b561.N r562 hr562) rfl (L.nil ?_)
     refine Atk 14 rfl (Ca.bin rfl rfl (calm_str _ _ _ _ _ _)) (fun Q0 k0 => L.catS hF rfl rfl rfl rfl (of_decide_eq_true h563) (L.nil k0)) ?_
     exact A.on (hO _ _ _ n2097151) (Le.mk [] hm rfl (Sa4 (Sa1 trivial)) trivial trivial)
    have n2068479 : W 6 #[true, true, true, true, true, true, true, true, true, true, true, true, false, false, false, true, true, true, true, true, true, false, false, false] (mkSt [(0, one (Cell.sl g0 (List.map eTimpl_Rule v505))), (3, one (cS v506)), (4, one (cI v507)), (25, one (cS (v506 ++ r559))), (29, one (Cell.pe g0 (eTimpl_Rule b561) 2)), (38, one (cI (b564.Set.length : Int)))] [] [] 0) := by
     refine hI _ _ _ ?_
     refine A.all [12] (by kernel_rfl) rfl ⟨⟨_, rfl, ?_⟩, trivial⟩
     refine L.loadPe shape3 hF rfl rfl rfl rfl rfl (L.nil ?_)
     exact A.on (hO _ _ _ n2072575) (Le.mk [] hm rfl (Sa4 (Sa2 trivial)) trivial trivial)
    have n2072383 : W 7 #[true, true, true, true, true, true, false, false, true, true, true, true, true, false, false, true, true, true, true, true, true, false, false, false] (mkSt [(0, one (Cell.sl g0 (List.map eTimpl_Rule v505))), (3, one (cS v506)), (4, one (cI v507)), (18, one (cS v506)), (23, one (cI b558.Kind)), (30, one (cI b561.N)), (38, one (cI (b564.Set.length : Int)))] [] [] 0) := by
     refine hI _ _ _ ?_
     refine A.all [6] (by kernel_rfl) rfl ⟨⟨_, rfl, ?_⟩, trivial⟩
     refine L.call [false] [] [] 0 hF rfl rfl rfl ent68 rfl rfl rfl rfl rfl (Fspec_Var_gives k12  b558.Kind r559 hr559) rfl (L.nil ?_)
     refine Atk 7 rfl (Ca.bin rfl rfl (calm_str _ _ _ _ _ _)) (fun Q0 k0 => L.catS hF rfl rfl rfl rfl (of_decide_eq_true h560) (L.nil k0)) ?_
     exact A.on (hO _ _ _ n2072575) (Le.mk [] hm rfl (Sa4 (Sa2 trivial)) trivial trivial)
    have n499711 : W 7 #[true, true, true, true, true, true, true, true, true, true, true, true, true, false, false, true, true, true, true, false, false, false, false, false] (mkSt [(0, one (Cell.sl g0 (List.map eTimpl_Rule v505))), (3, one (cS v506)), (4, one (cI v507)), (25, one (cS (v506 ++ r559))), (30, one (cI b561.N)), (36, one (Cell.pe g0 (eTimpl_Rule b564) 1))] [] [] 0) := by
     refine hI _ _ _ ?_
     refine A.all [13, 19] (by kernel_rfl) rfl ⟨⟨_, rfl, ?_⟩, ⟨_, rfl, ?_⟩, trivial⟩
     ·refine L.call [false] [] [] 0 hF rfl rfl rfl ent68 rfl rfl rfl rfl rfl (Fspec_Var_gives k12  b561.N r562 hr562) rfl (L.nil ?_)
      refine Atk 14 rfl (Ca.bin rfl rfl (calm_str _ _ _ _ _ _)) (fun Q0 k0 => L.catS hF rfl rfl rfl rfl (of_decide_eq_true h563) (L.nil k0)) ?_
      refine A.all [19] (by kernel_rfl) rfl ⟨⟨_, rfl, ?_⟩, trivial⟩
      refine L.loadPe shape39 hF rfl rfl rfl rfl rfl (L.nil ?_)
      refine Atk 20 rfl (Ca.lenR (xs := b564.Set) (e := eI) Try.underlying39 rfl rfl) (fun Q0 k0 => L.lenR (xs := b564.Set) (e := eI) Try.underlying39 hF rfl rfl rfl rfl (L.nil k0)) ?_
      exact A.on (hO _ _ _ n2097151) (Le.mk [] hm rfl (Sa4 (Sa1 trivial)) trivial trivial)
     ·refine L.loadPe shape39 hF rfl rfl rfl rfl rfl (L.nil ?_)
      refine Atk 20 rfl (Ca.lenR (xs := b564.Set) (e := eI) Try.underlying39 rfl rfl) (fun Q0 k0 => L.lenR (xs := b564.Set) (e := eI) Try.underlying39 hF rfl rfl rfl rfl (L.nil k0)) ?_
      exact A.on (hO _ _ _ n2072575) (Le.mk [] hm rfl (Sa4 (Sa2 trivial)) trivial trivial)
    have n2072351 : W 8 #[true, true, true, true, true, false, false, false, true, true, true, true, true, false, false, true, true, true, true, true, true, false, false, false] (mkSt [(0, one (Cell.sl g0 (List.map eTimpl_Rule v505))), (3, one (cS v506)), (4, one (cI v507)), (18, one (cS v506)), (22, one (Cell.pe g0 (eTimpl_Rule b558) 0)), (30, one (cI b561.N)), (38, one (cI (b564.Set.length : Int)))] [] [] 0) := by
     refine hI _ _ _ ?_
     refine A.all [5] (by kernel_rfl) rfl ⟨⟨_, rfl, ?_⟩, trivial⟩
     refine L.loadPe shape3 hF rfl rfl rfl rfl rfl (L.nil ?_)
     exact A.on (hO _ _ _ n2072383) (Le.mk [] hm rfl (Sa4 (Sa2 (Sa1 trivial))) trivial trivial)
    have n2068287 : W 8 #[true, true, true, true, true, true, false, false, true, true, true, true, false, false, false, true, true, true, true, true, true, false, false, false] (mkSt [(0, one (Cell.sl g0 (List.map eTimpl_Rule v505))), (3, one (cS v506)), (4, one (cI v507)), (18, one (cS v506)), (23, one (cI b558.Kind)), (29, one (Cell.pe g0 (eTimpl_Rule b561) 2)), (38, one (cI (b564.Set.length : Int)))] [] [] 0) := by
     refine hI _ _ _ ?_
     refine A.all [6, 12] (by kernel_rfl) rfl ⟨⟨_, rfl, ?_⟩, ⟨_, rfl, ?_⟩, trivial⟩
     ·refine L.call [false] [] [] 0 hF rfl rfl rfl ent68 rfl rfl rfl rfl rfl (Fspec_Var_gives k12  b558.Kind r559 hr559) rfl (L.nil ?_)
      refine Atk 7 rfl (Ca.bin rfl rfl (calm_str _ _ _ _ _ _)) (fun Q0 k0 => L.catS hF rfl rfl rfl rfl (of_decide_eq_true h560) (L.nil k0)) ?_
      exact A.on (hO _ _ _ n2068479) (Le.mk [] hm rfl (Sa4 (Sa2 trivial)) trivial trivial)
     ·refine L.loadPe shape3 hF rfl rfl rfl rfl rfl (L.nil ?_)
      exact A.on (hO _ _ _ n2072383) (Le.mk [] hm rfl (Sa4 (Sa2 (Sa1 trivial))) trivial trivial)
    have n499519 : W 9 #[true, true, true, true, true, true, false, false, true, true, true, true, true, false, false, true, true, true, true, false, false, false, false, false] (mkSt [(0, one (Cell.sl g0 (List.map eTimpl_Rule v505))), (3, one (cS v506)), (4, one (cI v507)), (18, one (cS v506)), (23, one (cI b558.Kind)), (30, one (cI b561.N)), (36, one (Cell.pe g0 (eTimpl_Rule b564) 1))] [] [] 0) := by
     refine hI _ _ _ ?_
     refine A.all [6, 19] (by kernel_rfl) rfl ⟨⟨_, rfl, ?_⟩, ⟨_, rfl, ?_⟩, trivial⟩
     ·refine L.call [false] [] [] 0 hF rfl rfl rfl ent68 rfl rfl rfl rfl rfl (Fspec_Var_gives k12  b558.Kind r559 hr559) rfl (L.nil ?_)
      refine Atk 7 rfl (Ca.bin rfl rfl (calm_str _ _ _ _ _ _)) (fun Q0 k0 => L.catS hF rfl rfl rfl rfl (of_decide_eq_true h560) (L.nil k0)) ?_
      exact A.on (hO _ _ _ n499711) (Le.mk [] hm rfl (Sa4 (Sa2 trivial)) trivial trivial)
     ·refine L.loadPe shape39 hF rfl rfl rfl rfl rfl (L.nil ?_)
      refine Atk 20 rfl (Ca.lenR (xs := b564.Set) (e := eI) Try.underlying39 rfl rfl) (fun Q0 k0 => L.lenR (xs := b564.Set) (e := eI) Try.underlying39 hF rfl rfl rfl rfl (L.nil k0)) ?_
      exact A.on (hO _ _ _ n2072383) (Le.mk [] hm rfl (Sa4 (Sa2 (Sa1 trivial))) trivial trivial)
    refine hI _ _ _ ?_
    refine Atk 0 rfl (Ca.move) (fun Q0 k0 => L.move hF rfl rfl rfl (L.nil k0)) ?_
    refine Atk 1 rfl (Ca.move) (fun Q0 k0 => L.move hF rfl rfl rfl (L.nil k0)) ?_
    refine Atk 2 rfl (Ca.move) (fun Q0 k0 => L.move hF rfl rfl rfl (L.nil k0)) ?_
    refine Atk 3 rfl (Ca.indexAddr) (fun Q0 k0 => L.idxR (xs := v505) (e := eTimpl_Rule) Try.underlying28 info96 hF rfl rfl rfl rfl rfl hb558 rfl rfl (L.nil k0)) ?_
    refine Atk 4 rfl (Ca.fieldAddr Try.underlying96 rfl info3 rfl) (fun Q0 k0 => L.fieldAddr Try.underlying96 rfl info3 rfl hF rfl rfl rfl rfl rfl (L.nil k0)) ?_
    refine Atk 8 rfl (Ca.move) (fun Q0 k0 => L.move hF rfl rfl rfl (L.nil k0)) ?_
    refine Atk 9 rfl (Ca.move) (fun Q0 k0 => L.move hF rfl rfl rfl (L.nil k0)) ?_
    refine Atk 10 rfl (Ca.indexAddr) (fun Q0 k0 => L.idxR (xs := v505) (e := eTimpl_Rule) Try.underlying28 info96 hF rfl rfl rfl rfl rfl hb561 rfl rfl (L.nil k0)) ?_
    refine Atk 11 rfl (Ca.fieldAddr Try.underlying96 rfl info3 rfl) (fun Q0 k0 => L.fieldAddr Try.underlying96 rfl info3 rfl hF rfl rfl rfl rfl rfl (L.nil k0)) ?_
    refine Atk 15 rfl (Ca.move) (fun Q0 k0 => L.move hF rfl rfl rfl (L.nil k0)) ?_
    refine A.le (τ := mkSt [(0, one (Cell.sl g0 (List.map eTimpl_Rule v505))), (3, one (cS v506)), (4, one (cI v507)), (18, one (cS v506)), (22, one (Cell.pe g0 (eTimpl_Rule b558) 0)), (29, one (Cell.pe g0 (eTimpl_Rule b561) 2)), (33, one (Cell.sl g0 (List.map eTimpl_Rule v505)))] [] [] 0) (Le.mk [] hm rfl (Sa4 (Sa2 (Sa1 trivial))) trivial trivial) ?_
    refine Atk 16 rfl (Ca.move) (fun Q0 k0 => L.move hF rfl rfl rfl (L.nil k0)) ?_
    refine Atk 17 rfl (Ca.indexAddr) (fun Q0 k0 => L.idxR (xs := v505) (e := eTimpl_Rule) Try.underlying28 info96 hF rfl rfl rfl rfl rfl hb564 rfl rfl (L.nil k0)) ?_
    refine Atk 18 rfl (Ca.fieldAddr Try.underlying96 rfl info39 rfl) (fun Q0 k0 => L.fieldAddr Try.underlying96 rfl info39 rfl hF rfl rfl rfl rfl rfl (L.nil k0)) ?_
    refine A.all [5, 12, 19] (by kernel_rfl) rfl ⟨⟨_, rfl, ?_⟩, ⟨_, rfl, ?_⟩, ⟨_, rfl, ?_⟩, trivial⟩
    ·refine L.loadPe shape3 hF rfl rfl rfl rfl rfl (L.nil ?_)
     refine A.all [6, 12, 19] (by kernel_rfl) rfl ⟨⟨_, rfl, ?_⟩, ⟨_, rfl, ?_⟩, ⟨_, rfl, ?_⟩, trivial⟩
     ·refine L.call [false] [] [] 0 hF rfl rfl rfl ent68 rfl rfl rfl rfl rfl (Fspec_Var_gives k12  b558.Kind r559 hr559) rfl (L.nil ?_)
      refine Atk 7 rfl (Ca.bin rfl rfl (calm_str _ _ _ _ _ _)) (fun Q0 k0 => L.catS hF rfl rfl rfl rfl (of_decide_eq_true h560) (L.nil k0)) ?_
      refine A.all [12, 19] (by kernel_rfl) rfl ⟨⟨_, rfl, ?_⟩, ⟨_, rfl, ?_⟩, trivial⟩
      ·refine L.loadPe shape3 hF rfl rfl rfl rfl rfl (L.nil ?_)
       exact A.on (hO _ _ _ n499711) (Le.mk [] hm rfl (Sa4 (Sa2 trivial)) trivial trivial)
      ·refine L.loadPe shape39 hF rfl rfl rfl rfl rfl (L.nil ?_)
       refine Atk 20 rfl (Ca.lenR (xs := b564.Set) (e := eI) Try.underlying39 rfl rfl) (fun Q0 k0 => L.lenR (xs := b564.Set) (e := eI) Try.underlying39 hF rfl rfl rfl rfl (L.nil k0)) ?_
       exact A.on (hO _ _ _ n2068479) (Le.mk [] hm rfl (Sa4 (Sa2 trivial)) trivial trivial)
     ·refine L.loadPe shape3 hF rfl rfl rfl rfl rfl (L.nil ?_)
      exact A.on (hO _ _ _ n499519) (Le.mk [] hm rfl (Sa4 (Sa2 (Sa1 trivial))) trivial trivial)
     ·refine L.loadPe shape39 hF rfl rfl rfl rfl rfl (L.nil ?_)
      refine Atk 20 rfl (Ca.lenR (xs := b564.Set) (e := eI) Try.underlying39 rfl rfl) (fun Q0 k0 => L.lenR (xs := b564.Set) (e := eI) Try.underlying39 hF rfl rfl rfl rfl (L.nil k0)) ?_
      exact A.on (hO _ _ _ n2068287) (Le.mk [] hm rfl (Sa4 (Sa2 (Sa1 trivial))) trivial trivial)
    ·refine L.loadPe shape3 hF rfl rfl rfl rfl rfl (L.nil ?_)
     refine A.all [5, 19] (by kernel_rfl) rfl ⟨⟨_, rfl, ?_⟩, ⟨_, rfl, ?_⟩, trivial⟩
     ·refine L.loadPe shape3 hF rfl rfl rfl rfl rfl (L.nil ?_)
      exact A.on (hO _ _ _ n499519) (Le.mk [] hm rfl (Sa4 (Sa2 (Sa1 trivial))) trivial trivial)
     ·refine L.loadPe shape39 hF rfl rfl rfl rfl rfl (L.nil ?_)
      refine Atk 20 rfl (Ca.lenR (xs := b564.Set) (e := eI) Try.underlying39 rfl rfl) (fun Q0 k0 => L.lenR (xs := b564.Set) (e := eI) Try.underlying39 hF rfl rfl rfl rfl (L.nil k0)) ?_
      exact A.on (hO _ _ _ n2072351) (Le.mk [] hm rfl (Sa4 (Sa2 (Sa1 trivial))) trivial trivial)
    ·refine L.loadPe shape39 hF rfl rfl rfl rfl rfl (L.nil ?_)
     refine Atk 20 rfl (Ca.lenR (xs := b564.Set) (e := eI) Try.underlying39 rfl rfl) (fun Q0 k0 => L.lenR (xs := b564.Set) (e := eI) Try.underlying39 hF rfl rfl rfl rfl (L.nil k0)) ?_
     refine A.all [5, 12] (by kernel_rfl) rfl ⟨⟨_, rfl, ?_⟩, ⟨_, rfl, ?_⟩, trivial⟩
     ·refine L.loadPe shape3 hF rfl rfl rfl rfl rfl (L.nil ?_)
      exact A.on (hO _ _ _ n2068287) (Le.mk [] hm rfl (Sa4 (Sa2 (Sa1 trivial))) trivial trivial)
     ·refine L.loadPe shape3 hF rfl rfl rfl rfl rfl (L.nil ?_)
      exact A.on (hO _ _ _ n2072351) (Le.mk [] hm rfl (Sa4 (Sa2 (Sa1 trivial))) trivial trivial)
   ·replace H := condF hc H
    refine WpC.exit (WpC.seq (WpC.regionL ?_))
    refine L.move hF rfl rfl rfl ?_
    refine L.assign hF rfl rfl rfl (L.nil ?_)
    refine WpC.ret ?_
    cases H
    exact Leaves.ret rfl rfl rfl ⟨rfl, rfl⟩
/-! ### Fspec_l1Text -/
def Fspec_l1Text.j26 (cl22 : (List UInt8) → Int → Int → (List UInt8) → Int → Int → Option (List UInt8 × Tspec_l1Cur)) (k : Nat) (v214 : List UInt8) (v215 : Int) (v216 : Int) (v217 : Int) (v218 : List UInt8) (v219 : Int) (v220 : Int) : Option (List UInt8 × Tspec_l1Cur) := cond (decide ((2 * (v214.length + ([(ofI v217)] : List UInt8).length) + 192) * 1 ≤ 281474976710656)) (cl22 (v214 ++ ([(ofI v217)] : List UInt8)) v215 (IntKind.i64.wrap (v216 - (1 : Int))) v218 v219 v220) none
def Fspec_l1Text.j25 (cl22 : (List UInt8) → Int → Int → (List UInt8) → Int → Int → Option (List UInt8 × Tspec_l1Cur)) (k : Nat) (v207 : List UInt8) (v208 : Int) (v209 : Int) (v210 : Int) (v211 : List UInt8) (v212 : Int) (v213 : Int) : Option (List UInt8 × Tspec_l1Cur) := cond (v208 == (2 : Int)) (Fspec_l1Text.j26 cl22 k v207 v208 v209 (IntKind.i64.wrap ((97 : Int) + (Int.tmod v210 (4 : Int)))) v211 v212 v213) (Fspec_l1Text.j26 cl22 k v207 v208 v209 v210 v211 v212 v213)
def Fspec_l1Text.l22 : Nat → (List UInt8) → Int → Int → (List UInt8) → Int → Int → Option (List UInt8 × Tspec_l1Cur)
 | 0, _, _, _, _, _, _ => none
 | k22 + 1, v184, v185, v186, v187, v188, v189 => cond (decide (v186 > (0 : Int))) ((Fspec_l1Byte k22 (⟨v187, v188, v189⟩ : Tspec_l1Cur)).bind fun r206 => cond (v185 == (1 : Int)) (Fspec_l1Text.j25 (Fspec_l1Text.l22 k22) k22 v184 v185 v186 (Int.tmod r206.1 (2 : Int)) r206.2.b r206.2.i r206.2.h) (Fspec_l1Text.j25 (Fspec_l1Text.l22 k22) k22 v184 v185 v186 r206.1 r206.2.b r206.2.i r206.2.h)) (some (v184, (⟨v187, v188, v189⟩ : Tspec_l1Cur)))
def Fspec_l1Text (k : Nat) (a1 : Int) (o0 : Tspec_l1Cur) : Option (List UInt8 × Tspec_l1Cur) := (Fspec_l1Below k (4 : Int) o0).bind fun r1 => (Fspec_l1Below k (IntKind.i64.wrap (a1 + (1 : Int))) r1.2).bind fun r112 => Fspec_l1Text.l22 k ([] : List UInt8) r1.1 r112.1 r112.2.b r112.2.i r112.2.h
theorem ent81 : MG.Enters Try.prog 81 := ⟨Try.f81, Try.func81, rfl, by decide⟩
set_option maxHeartbeats 8000000 in
set_option maxRecDepth 100000 in
theorem Fspec_l1Text_gives (k : Nat) (a1 : Int) (o0 : Tspec_l1Cur) (r : List UInt8 × Tspec_l1Cur) (H : Fspec_l1Text k a1 o0 = some r) : Gives Try.prog 81 [V.one (Cell.ptr 0 0), V.one (cI a1)] [[Cell.sl true (List.map eB o0.b), cI o0.i, cI o0.h]] [V.one (cS r.1)] [[Cell.sl true (List.map eB r.2.b), cI r.2.i, cI r.2.h]] := by
 refine Gives.intro Try.func81 rfl rfl rfl rfl ?_
 intro F hF hm
 unfold Fspec_l1Text at H
 obtain ⟨K, hK⟩ : ∃ K, k ≤ K := ⟨k, Nat.le_refl k⟩
 refine WpC.seq (WpC.regionL ?_)
 refine L.assign hF rfl rfl rfl (L.nil ?_)
 refine WpC.seq (WpC.regionL ?_)
 refine L.buildSlice (e := eB) 6 ([] : List UInt8) Try.underlying33 info5 rfl rfl rfl hF rfl rfl rfl rfl rfl rfl rfl rfl ?_
 refine L.assign hF rfl rfl rfl (L.nil ?_)
 refine WpC.seq (WpC.regionL ?_)
 refine L.move hF rfl rfl rfl ?_
 obtain ⟨r1, hr1, H⟩ := bindS H
 refine L.call [false, false] [] [0] 7 hF rfl rfl rfl ent70 rfl rfl rfl rfl rfl (Fspec_l1Below_gives k  (4 : Int) o0 r1 hr1) rfl ?_
 refine L.assign hF rfl rfl rfl (L.nil ?_)
 refine WpC.seq (WpC.seq (WpC.regionL ?_))
 refine L.move hF rfl rfl rfl ?_
 refine L.move hF rfl rfl rfl ?_
 refine L.bin hF rfl rfl rfl rfl rfl rfl ?_
 obtain ⟨r112, hr112, H⟩ := bindS H
 refine L.call [false, false] [] [0] 11 hF rfl rfl rfl ent70 rfl rfl rfl rfl rfl (Fspec_l1Below_gives k  (IntKind.i64.wrap (a1 + (1 : Int))) r1.2 r112 hr112) rfl ?_
 refine L.assign hF rfl rfl rfl (L.nil ?_)
 refine WpC.block ?_
 refine WpC.loopL (P := Try.prog) (fun n σ => ∃ v184 : List UInt8, ∃ v185 : Int, ∃ v186 : Int, ∃ v187 : List UInt8, ∃ v188 : Int, ∃ v189 : Int, n ≤ K ∧ Fspec_l1Text.l22 n v184 v185 v186 v187 v188 v189 = some r ∧ σ = mkSt [(0, one (Cell.ptr 0 0)), (5, one (Cell.own 1)), (6, one (cI v185)), (7, one (cI v186))] [(1, ⟨1, List.map eB v184⟩)] [(0, [Cell.sl true (List.map eB v187), cI v188, cI v189])] 2) k ⟨_, ⟨([] : List UInt8), r1.1, r112.1, r112.2.b, r112.2.i, r112.2.h, by omega, H, rfl⟩, Le.mk [(0, 0), (1, 6)] hm rfl (Sa4 trivial) (Ra1 trivial) (Ba1 trivial)⟩ ?_
 clear H
 rintro k22 _ ⟨v184, v185, v186, v187, v188, v189, hk22, H, rfl⟩
 cases k22 with
 | zero => cases H
 | succ k22 =>
  rw [Fspec_l1Text.l22] at H
  refine WpC.seq (WpC.seq (WpC.regionL ?_))
  refine L.move hF rfl rfl rfl ?_
  refine L.bin hF rfl rfl rfl rfl rfl rfl (L.nil ?_)
  refine WpC.cond rfl (fun hc => ?_) (fun hc => ?_)
  ·replace H := condT hc H
   refine WpC.skip (WpC.seq (WpC.block (WpC.seq (WpC.regionL ?_))))
   refine L.move hF rfl rfl rfl ?_
   obtain ⟨r206, hr206, H⟩ := bindS H
   refine L.call [false] [] [0] 2 hF rfl rfl rfl ent128 rfl rfl rfl rfl rfl (Fspec_l1Byte_gives k22  (⟨v187, v188, v189⟩ : Tspec_l1Cur) r206 hr206) rfl ?_
   refine L.assign hF rfl rfl rfl (L.nil ?_)
   refine WpC.join (fun σ => ∃ kj25 : Nat, ∃ v207 : List UInt8, ∃ v208 : Int, ∃ v209 : Int, ∃ v210 : Int, ∃ v211 : List UInt8, ∃ v212 : Int, ∃ v213 : Int, kj25 ≤ K ∧ Fspec_l1Text.j25 (Fspec_l1Text.l22 k22) kj25 v207 v208 v209 v210 v211 v212 v213 = some r ∧ σ = mkSt [(0, one (Cell.ptr 0 0)), (5, one (Cell.own 1)), (6, one (cI v208)), (7, one (cI v209)), (8, one (cI v210))] [(1, ⟨1, List.map eB v207⟩)] [(0, [Cell.sl true (List.map eB v211), cI v212, cI v213])] 2) ?_ ?_
   ·rintro _ ⟨kj25, v207, v208, v209, v210, v211, v212, v213, hkj25, H, rfl⟩
    unfold Fspec_l1Text.j25 at H
    refine WpC.join (fun σ => ∃ kj26 : Nat, ∃ v214 : List UInt8, ∃ v215 : Int, ∃ v216 : Int, ∃ v217 : Int, ∃ v218 : List UInt8, ∃ v219 : Int, ∃ v220 : Int, kj26 ≤ K ∧ Fspec_l1Text.j26 (Fspec_l1Text.l22 k22) kj26 v214 v215 v216 v217 v218 v219 v220 = some r ∧ σ = mkSt [(0, one (Cell.ptr 0 0)), (5, one (Cell.own 1)), (6, one (cI v215)), (7, one (cI v216)), (8, one (cI v217))] [(1, ⟨1, List.map eB v214⟩)] [(0, [Cell.sl true (List.map eB v218), cI v219, cI v220])] 2) ?_ ?_
    ·rintro _ ⟨kj26, v214, v215, v216, v217, v218, v219, v220, hkj26, H, rfl⟩
     unfold Fspec_l1Text.j26 at H
     refine WpC.regionL ?_
     refine L.move hF rfl rfl rfl ?_
     refine L.move hF rfl rfl rfl ?_
     refine L.toB Try.underlying3 Try.underlying5 hF rfl rfl rfl ?_
     refine L.buildSlice (e := eB) 2 ([(ofI v217)] : List UInt8) Try.underlying33 info5 rfl rfl rfl hF rfl rfl rfl rfl rfl rfl rfl rfl ?_
     obtain ⟨h221, H⟩ := condG H
     refine L.append (xs := v214) (ys := ([(ofI v217)] : List UInt8)) (e := eB) 3 Try.underlying33 info5 rfl rfl hF rfl rfl rfl rfl rfl rfl rfl rfl (fun _ => rfl) (fun _ _ h1 h2 => by cases h1; cases h2; rfl) ⟨_, Try.underlying33⟩ (of_decide_eq_true h221) rfl rfl ?_
     refine L.assign hF rfl rfl rfl (L.nil ?_)
     refine WpC.regionL ?_
     refine L.move hF rfl rfl rfl ?_
     refine L.bin hF rfl rfl rfl rfl rfl rfl ?_
     refine L.assign hF rfl rfl rfl (L.nil ?_)
     exact ⟨k22, _, by omega, ⟨(v214 ++ ([(ofI v217)] : List UInt8)), v215, (IntKind.i64.wrap (v216 - (1 : Int))), v218, v219, v220, by omega, H, rfl⟩, Le.mk [(0, 0), (1, 3)] hm rfl (Sa4 trivial) (Ra1 trivial) (Ba1 trivial)⟩
    ·refine WpC.seq (WpC.regionL ?_)
     refine L.move hF rfl rfl rfl ?_
     refine L.bin hF rfl rfl rfl rfl rfl rfl (L.nil ?_)
     refine WpC.cond rfl (fun hc => ?_) (fun hc => ?_)
     ·replace H := condT hc H
      refine WpC.regionL ?_
      refine L.move hF rfl rfl rfl ?_
      refine L.rem hF rfl rfl rfl rfl (by decide) ?_
      refine L.bin hF rfl rfl rfl rfl rfl rfl ?_
      refine L.assign hF rfl rfl rfl (L.nil ?_)
      exact ⟨_, ⟨kj25, v207, v208, v209, (IntKind.i64.wrap ((97 : Int) + (Int.tmod v210 (4 : Int)))), v211, v212, v213, by omega, H, rfl⟩, Le.mk [(0, 0), (1, 1)] hm rfl (Sa4 (Sa1 trivial)) (Ra1 trivial) (Ba1 trivial)⟩
     ·replace H := condF hc H
      refine WpC.skip ?_
      exact ⟨_, ⟨kj25, v207, v208, v209, v210, v211, v212, v213, by omega, H, rfl⟩, Le.mk [(0, 0), (1, 1)] hm rfl (Sa4 (Sa1 trivial)) (Ra1 trivial) (Ba1 trivial)⟩
   ·refine WpC.seq (WpC.regionL ?_)
    refine L.move hF rfl rfl rfl ?_
    refine L.bin hF rfl rfl rfl rfl rfl rfl (L.nil ?_)
    refine WpC.cond rfl (fun hc => ?_) (fun hc => ?_)
    ·replace H := condT hc H
     refine WpC.regionL ?_
     refine L.move hF rfl rfl rfl ?_
     refine L.rem hF rfl rfl rfl rfl (by decide) ?_
     refine L.assign hF rfl rfl rfl (L.nil ?_)
     exact ⟨_, ⟨k22, v184, v185, v186, (Int.tmod r206.1 (2 : Int)), r206.2.b, r206.2.i, r206.2.h, by omega, H, rfl⟩, Le.mk [(0, 0), (1, 1)] hm rfl (Sa4 (Sa1 trivial)) (Ra1 trivial) (Ba1 trivial)⟩
    ·replace H := condF hc H
     refine WpC.skip ?_
     exact ⟨_, ⟨k22, v184, v185, v186, r206.1, r206.2.b, r206.2.i, r206.2.h, by omega, H, rfl⟩, Le.mk [(0, 0), (1, 1)] hm rfl (Sa4 (Sa1 trivial)) (Ra1 trivial) (Ba1 trivial)⟩
  ·replace H := condF hc H
   refine WpC.exit (WpC.seq (WpC.regionL ?_))
   refine L.move hF rfl rfl rfl ?_
   refine L.b2s (xs := v184) Try.underlying33 Try.underlying5 Try.underlying9 hF rfl rfl rfl rfl ?_
   refine L.assign hF rfl rfl rfl (L.nil ?_)
   refine WpC.ret ?_
   cases H
   exact Leaves.ret rfl rfl rfl ⟨rfl, rfl⟩
/-! ### Fspec_l1Spoil -/
def Fspec_l1Spoil (k : Nat) (a1 : List UInt8) (o0 : Tspec_l1Cur) : Option (List UInt8 × Tspec_l1Cur) := cond ((a1.length : Int) == (0 : Int)) ((Fspec_l1Text k (3 : Int) o0).bind fun r2 => some (r2.1, r2.2)) ((Fspec_l1Below k (a1.length : Int) o0).bind fun r3 => (Fspec_l1Below k (4 : Int) r3.2).bind fun r14 => cond (r14.1 == (0 : Int)) ((cut? a1 (0 : Int) r3.1).bind fun b15 => (cut? a1 (IntKind.i64.wrap (r3.1 + (1 : Int))) (a1.length : Int)).bind fun b16 => cond (decide (b15.length + b16.length ≤ 9223372036854775807)) (some ((b15 ++ b16), r14.2)) none) (cond (r14.1 == (1 : Int)) ((cut? a1 (0 : Int) r3.1).bind fun b18 => (Fspec_l1Byte k r14.2).bind fun r19 => cond (decide (b18.length + ([(ofI r19.1)] : List UInt8).length ≤ 9223372036854775807)) ((cut? a1 r3.1 (a1.length : Int)).bind fun b21 => cond (decide ((b18 ++ ([(ofI r19.1)] : List UInt8)).length + b21.length ≤ 9223372036854775807)) (some (((b18 ++ ([(ofI r19.1)] : List UInt8)) ++ b21), r19.2)) none) none) (cond (r14.1 == (2 : Int)) ((cut? a1 (0 : Int) r3.1).bind fun b23 => some (b23, r14.2)) ((cut? a1 (0 : Int) r3.1).bind fun b24 => (at? a1 r3.1).bind fun b25 => (Fspec_l1Below k (255 : Int) r14.2).bind fun r26 => cond (decide (b24.length + ([(ofI (Go.bits .xor .i64 (b25.toNat : Int) (IntKind.i64.wrap ((1 : Int) + r26.1))))] : List UInt8).length ≤ 9223372036854775807)) ((cut? a1 (IntKind.i64.wrap (r3.1 + (1 : Int))) (a1.length : Int)).bind fun b28 => cond (decide ((b24 ++ ([(ofI (Go.bits .xor .i64 (b25.toNat : Int) (IntKind.i64.wrap ((1 : Int) + r26.1))))] : List UInt8)).length + b28.length ≤ 9223372036854775807)) (some (((b24 ++ ([(ofI (Go.bits .xor .i64 (b25.toNat : Int) (IntKind.i64.wrap ((1 : Int) + r26.1))))] : List UInt8)) ++ b28), r26.2)) none) none))))
theorem ent66 : MG.Enters Try.prog 66 := ⟨Try.f66, Try.func66, rfl, by decide⟩
set_option maxHeartbeats 8000000 in
set_option maxRecDepth 100000 in
theorem Fspec_l1Spoil_gives (k : Nat) (a1 : List UInt8) (o0 : Tspec_l1Cur) (r : List UInt8 × Tspec_l1Cur) (H : Fspec_l1Spoil k a1 o0 = some r) : Gives Try.prog 66 [V.one (Cell.ptr 0 0), V.one (cS a1)] [[Cell.sl true (List.map eB o0.b), cI o0.i, cI o0.h]] [V.one (cS r.1)] [[Cell.sl true (List.map eB r.2.b), cI r.2.i, cI r.2.h]] := by
 refine Gives.intro Try.func66 rfl rfl rfl rfl ?_
 intro F hF hm
 unfold Fspec_l1Spoil at H
 obtain ⟨K, hK⟩ : ∃ K, k ≤ K := ⟨k, Nat.le_refl k⟩
 refine WpC.seq (WpC.regionL ?_)
 refine L.assign hF rfl rfl rfl (L.nil ?_)
 refine WpC.seq (WpC.seq (WpC.regionL ?_))
 refine L.move hF rfl rfl rfl ?_
 refine L.lenS Try.underlying9 hF rfl rfl rfl ?_
 refine L.bin hF rfl rfl rfl rfl rfl rfl (L.nil ?_)
 refine WpC.cond rfl (fun hc => ?_) (fun hc => ?_)
 ·replace H := condT hc H
  refine WpC.seq (WpC.regionL ?_)
  refine L.move hF rfl rfl rfl ?_
  obtain ⟨r2, hr2, H⟩ := bindS H
  refine L.call [false, false] [] [0] 6 hF rfl rfl rfl ent81 rfl rfl rfl rfl rfl (Fspec_l1Text_gives k  (3 : Int) o0 r2 hr2) rfl ?_
  refine L.assign hF rfl rfl rfl (L.nil ?_)
  refine WpC.ret ?_
  cases H
  exact Leaves.ret rfl rfl rfl ⟨rfl, rfl⟩
 ·replace H := condF hc H
  refine WpC.skip (WpC.seq (WpC.regionL ?_))
  refine L.move hF rfl rfl rfl ?_
  refine L.move hF rfl rfl rfl ?_
  refine L.lenS Try.underlying9 hF rfl rfl rfl ?_
  obtain ⟨r3, hr3, H⟩ := bindS H
  refine L.call [false, false] [] [0] 6 hF rfl rfl rfl ent70 rfl rfl rfl rfl rfl (Fspec_l1Below_gives k  (a1.length : Int) o0 r3 hr3) rfl ?_
  refine L.assign hF rfl rfl rfl (L.nil ?_)
  refine WpC.seq (WpC.seq (WpC.regionL ?_))
  refine L.move hF rfl rfl rfl ?_
  obtain ⟨r14, hr14, H⟩ := bindS H
  refine L.call [false, false] [] [0] 10 hF rfl rfl rfl ent70 rfl rfl rfl rfl rfl (Fspec_l1Below_gives k  (4 : Int) r3.2 r14 hr14) rfl (L.nil ?_)
  refine WpC.block (WpC.seq (WpC.regionL ?_))
  refine L.bin hF rfl rfl rfl rfl rfl rfl ?_
  refine L.assign hF rfl rfl rfl (L.nil ?_)
  refine WpC.cond rfl (fun hc => ?_) (fun hc => ?_)
  ·replace H := condT hc H
   refine WpC.seq ?_
   refine S.begin mixed (by kernel_rfl) ?_
   refine S.st 0 rfl rfl ((Ca.move).quiet) (fun Q0 k0 => L.move hF rfl rfl rfl (L.nil k0)) ?_
   refine S.st 1 rfl rfl ((Ca.move).quiet) (fun Q0 k0 => L.move hF rfl rfl rfl (L.nil k0)) ?_
   obtain ⟨b15, hb15, H⟩ := bindS H
   refine S.st 2 rfl rfl ((Ca.slice).quiet) (fun Q0 k0 => L.cutS Try.underlying9 hF rfl rfl rfl rfl rfl hb15 (L.nil k0)) ?_
   refine S.st 3 rfl rfl ((Ca.move).quiet) (fun Q0 k0 => L.move hF rfl rfl rfl (L.nil k0)) ?_
   refine S.st 4 rfl rfl ((Ca.move).quiet) (fun Q0 k0 => L.move hF rfl rfl rfl (L.nil k0)) ?_
   refine S.st 5 rfl rfl ((Ca.bin rfl rfl (calm_int _ _ _ _ _ _ _ _)).quiet) (fun Q0 k0 => L.bin hF rfl rfl rfl rfl rfl rfl (L.nil k0)) ?_
   obtain ⟨b16, hb16, H⟩ := bindS H
   refine S.st 6 rfl rfl ((Ca.slice).quiet) (fun Q0 k0 => L.cutS Try.underlying9 hF rfl rfl rfl rfl rfl hb16 (L.nil k0)) ?_
   obtain ⟨h17, H⟩ := condG H
   refine S.st 7 rfl rfl ((Ca.bin rfl rfl (calm_str _ _ _ _ _ _)).quiet) (fun Q0 k0 => L.catS hF rfl rfl rfl rfl (of_decide_eq_true h17) (L.nil k0)) ?_
   refine S.st 8 rfl rfl ((Ca.assign).quiet) (fun Q0 k0 => L.assign hF rfl rfl rfl (L.nil k0)) ?_
   refine S.nil ?_
   refine WpC.ret ?_
   cases H
   exact Leaves.ret rfl rfl rfl ⟨rfl, rfl⟩
  ·replace H := condF hc H
   refine WpC.seq (WpC.regionL ?_)
   refine L.bin hF rfl rfl rfl rfl rfl rfl ?_
   refine L.assign hF rfl rfl rfl (L.nil ?_)
   refine WpC.cond rfl (fun hc => ?_) (fun hc => ?_)
   ·replace H := condT hc H
    refine WpC.seq ?_
    obtain ⟨b18, hb18, H⟩ := bindS H
    obtain ⟨r19, hr19, H⟩ := bindS H
    obtain ⟨h20, H⟩ := condG H
    obtain ⟨b21, hb21, H⟩ := bindS H
    obtain ⟨h22, H⟩ := condG H
    refine A.begin mixed rfl rfl ?_
    intro W hI hO
    refine hI _ _ _ ?_
    refine Atk 0 rfl (Ca.move) (fun Q0 k0 => L.move hF rfl rfl rfl (L.nil k0)) ?_
    refine Atk 1 rfl (Ca.move) (fun Q0 k0 => L.move hF rfl rfl rfl (L.nil k0)) ?_
    refine Atk 2 rfl (Ca.slice) (fun Q0 k0 => L.cutS Try.underlying9 hF rfl rfl rfl rfl rfl hb18 (L.nil k0)) ?_
    refine Atk 3 rfl (Ca.move) (fun Q0 k0 => L.move hF rfl rfl rfl (L.nil k0)) ?_
    refine Atk 9 rfl (Ca.move) (fun Q0 k0 => L.move hF rfl rfl rfl (L.nil k0)) ?_
    refine Atk 10 rfl (Ca.move) (fun Q0 k0 => L.move hF rfl rfl rfl (L.nil k0)) ?_
    refine Atk 11 rfl (Ca.slice) (fun Q0 k0 => L.cutS Try.underlying9 hF rfl rfl rfl rfl rfl hb21 (L.nil k0)) ?_
    refine A.all [4] (by kernel_rfl) rfl ⟨⟨_, rfl, ?_⟩, trivial⟩
    refine L.call [false] [] [0] 14 hF rfl rfl rfl ent128 rfl rfl rfl rfl rfl (Fspec_l1Byte_gives k  r14.2 r19 hr19) rfl (L.nil ?_)
    refine Atk 5 rfl (Ca.conv Try.underlying3 Try.underlying5 rfl) (fun Q0 k0 => L.toB Try.underlying3 Try.underlying5 hF rfl rfl rfl (L.nil k0)) ?_
    refine A.all [6] (by kernel_rfl) rfl ⟨⟨_, rfl, ?_⟩, trivial⟩
    refine L.buildSlice (e := eB) 18 ([(ofI r19.1)] : List UInt8) Try.underlying33 info5 rfl rfl rfl hF rfl rfl rfl rfl rfl rfl rfl rfl (L.nil ?_)
    refine A.le (τ := mkSt [(4, one (cS ([] : List UInt8))), (31, one (cS b18)), (35, one (Cell.own 1)), (40, one (cS b21))] [(1, ⟨1, List.map eB ([(ofI r19.1)] : List UInt8)⟩)] [(0, (bTspec_l1Cur true r19.2))] 2) (Le.mk [(0, 0), (1, 18)] hm rfl (Sa4 trivial) (Ra1 trivial) (Ba1 trivial)) ?_
    refine A.all [7] (by kernel_rfl) rfl ⟨⟨_, rfl, ?_⟩, trivial⟩
    refine L.b2s (xs := ([(ofI r19.1)] : List UInt8)) Try.underlying33 Try.underlying5 Try.underlying9 hF rfl rfl rfl rfl (L.nil ?_)
    refine Atk 8 rfl (Ca.bin rfl rfl (calm_str _ _ _ _ _ _)) (fun Q0 k0 => L.catS hF rfl rfl rfl rfl (of_decide_eq_true h20) (L.nil k0)) ?_
    refine Atk 12 rfl (Ca.bin rfl rfl (calm_str _ _ _ _ _ _)) (fun Q0 k0 => L.catS hF rfl rfl rfl rfl (of_decide_eq_true h22) (L.nil k0)) ?_
    refine Atk 13 rfl (Ca.assign) (fun Q0 k0 => L.assign hF rfl rfl rfl (L.nil k0)) ?_
    refine A.le (τ := mkSt [(4, one (cS ((b18 ++ ([(ofI r19.1)] : List UInt8)) ++ b21)))] [] [(0, (bTspec_l1Cur true r19.2))] 1) (Le.mk [(0, 0)] hm rfl (Sa1 trivial) trivial (Ba1 trivial)) ?_
    refine A.done (by kernel_rfl) ?_
    refine WpC.ret ?_
    cases H
    exact Leaves.ret rfl rfl rfl ⟨rfl, rfl⟩
   ·replace H := condF hc H
    refine WpC.seq (WpC.regionL ?_)
    refine L.bin hF rfl rfl rfl rfl rfl rfl ?_
    refine L.assign hF rfl rfl rfl (L.nil ?_)
    refine WpC.cond rfl (fun hc => ?_) (fun hc => ?_)
    ·replace H := condT hc H
     refine WpC.seq (WpC.regionL ?_)
     refine L.move hF rfl rfl rfl ?_
     refine L.move hF rfl rfl rfl ?_
     obtain ⟨b23, hb23, H⟩ := bindS H
     refine L.cutS Try.underlying9 hF rfl rfl rfl rfl rfl hb23 ?_
     refine L.assign hF rfl rfl rfl (L.nil ?_)
     refine WpC.ret ?_
     cases H
     exact Leaves.ret rfl rfl rfl ⟨rfl, rfl⟩
    ·replace H := condF hc H
     refine WpC.skip (WpC.seq ?_)
     obtain ⟨b24, hb24, H⟩ := bindS H
     obtain ⟨b25, hb25, H⟩ := bindS H
     obtain ⟨r26, hr26, H⟩ := bindS H
     obtain ⟨h27, H⟩ := condG H
     obtain ⟨b28, hb28, H⟩ := bindS H
     obtain ⟨h29, H⟩ := condG H
     refine A.begin mixed rfl rfl ?_
     intro W hI hO
     refine hI _ _ _ ?_
     refine Atk 0 rfl (Ca.move) (fun Q0 k0 => L.move hF rfl rfl rfl (L.nil k0)) ?_
     refine Atk 1 rfl (Ca.move) (fun Q0 k0 => L.move hF rfl rfl rfl (L.nil k0)) ?_
     refine Atk 2 rfl (Ca.slice) (fun Q0 k0 => L.cutS Try.underlying9 hF rfl rfl rfl rfl rfl hb24 (L.nil k0)) ?_
     refine Atk 3 rfl (Ca.move) (fun Q0 k0 => L.move hF rfl rfl rfl (L.nil k0)) ?_
     refine Atk 4 rfl (Ca.move) (fun Q0 k0 => L.move hF rfl rfl rfl (L.nil k0)) ?_
     refine Atk 5 rfl (Ca.index) (fun Q0 k0 => L.idxS Try.underlying9 hF rfl rfl rfl rfl hb25 (L.nil k0)) ?_
     refine Atk 6 rfl (Ca.conv Try.underlying5 Try.underlying3 rfl) (fun Q0 k0 => L.ofB Try.underlying5 Try.underlying3 hF rfl rfl rfl (L.nil k0)) ?_
     refine Atk 7 rfl (Ca.move) (fun Q0 k0 => L.move hF rfl rfl rfl (L.nil k0)) ?_
     refine Atk 15 rfl (Ca.move) (fun Q0 k0 => L.move hF rfl rfl rfl (L.nil k0)) ?_
     refine Atk 16 rfl (Ca.move) (fun Q0 k0 => L.move hF rfl rfl rfl (L.nil k0)) ?_
     refine A.le (τ := mkSt [(4, one (cS ([] : List UInt8))), (49, one (cS b24)), (53, one (cI (b25.toNat : Int))), (54, one (Cell.ptr 0 0)), (62, one (cS a1)), (63, one (cI r3.1))] [] [(0, (bTspec_l1Cur true r14.2))] 1) (Le.mk [(0, 0)] hm rfl (Sa4 (Sa2 trivial)) trivial (Ba1 trivial)) ?_
     refine Atk 17 rfl (Ca.bin rfl rfl (calm_int _ _ _ _ _ _ _ _)) (fun Q0 k0 => L.bin hF rfl rfl rfl rfl rfl rfl (L.nil k0)) ?_
     refine Atk 18 rfl (Ca.slice) (fun Q0 k0 => L.cutS Try.underlying9 hF rfl rfl rfl rfl rfl hb28 (L.nil k0)) ?_
     refine A.all [8] (by kernel_rfl) rfl ⟨⟨_, rfl, ?_⟩, trivial⟩
     refine L.call [false, false] [] [0] 1 hF rfl rfl rfl ent70 rfl rfl rfl rfl rfl (Fspec_l1Below_gives k  (255 : Int) r14.2 r26 hr26) rfl (L.nil ?_)
     refine Atk 9 rfl (Ca.bin rfl rfl (calm_int _ _ _ _ _ _ _ _)) (fun Q0 k0 => L.bin hF rfl rfl rfl rfl rfl rfl (L.nil k0)) ?_
     refine Atk 10 rfl (Ca.bin rfl rfl (calm_int _ _ _ _ _ _ _ _)) (fun Q0 k0 => L.bin hF rfl rfl rfl rfl rfl rfl (L.nil k0)) ?_
     refine Atk 11 rfl (Ca.conv Try.underlying3 Try.underlying5 rfl) (fun Q0 k0 => L.toB Try.underlying3 Try.underlying5 hF rfl rfl rfl (L.nil k0)) ?_
     refine A.all [12] (by kernel_rfl) rfl ⟨⟨_, rfl, ?_⟩, trivial⟩
     refine L.buildSlice (e := eB) 5 ([(ofI (Go.bits .xor .i64 (b25.toNat : Int) (IntKind.i64.wrap ((1 : Int) + r26.1))))] : List UInt8) Try.underlying33 info5 rfl rfl rfl hF rfl rfl rfl rfl rfl rfl rfl rfl (L.nil ?_)
     refine A.all [13] (by kernel_rfl) rfl ⟨⟨_, rfl, ?_⟩, trivial⟩
     refine L.b2s (xs := ([(ofI (Go.bits .xor .i64 (b25.toNat : Int) (IntKind.i64.wrap ((1 : Int) + r26.1))))] : List UInt8)) Try.underlying33 Try.underlying5 Try.underlying9 hF rfl rfl rfl rfl (L.nil ?_)
     refine Atk 14 rfl (Ca.bin rfl rfl (calm_str _ _ _ _ _ _)) (fun Q0 k0 => L.catS hF rfl rfl rfl rfl (of_decide_eq_true h27) (L.nil k0)) ?_
     refine Atk 19 rfl (Ca.bin rfl rfl (calm_str _ _ _ _ _ _)) (fun Q0 k0 => L.catS hF rfl rfl rfl rfl (of_decide_eq_true h29) (L.nil k0)) ?_
     refine A.le (τ := mkSt [(4, one (cS ([] : List UInt8))), (66, one (cS ((b24 ++ ([(ofI (Go.bits .xor .i64 (b25.toNat : Int) (IntKind.i64.wrap ((1 : Int) + r26.1))))] : List UInt8)) ++ b28)))] [] [(0, (bTspec_l1Cur true r26.2))] 1) (Le.mk [(0, 0)] hm rfl (Sa2 trivial) trivial (Ba1 trivial)) ?_
     refine Atk 20 rfl (Ca.assign) (fun Q0 k0 => L.assign hF rfl rfl rfl (L.nil k0)) ?_
     refine A.le (τ := mkSt [(4, one (cS ((b24 ++ ([(ofI (Go.bits .xor .i64 (b25.toNat : Int) (IntKind.i64.wrap ((1 : Int) + r26.1))))] : List UInt8)) ++ b28)))] [] [(0, (bTspec_l1Cur true r26.2))] 1) (Le.mk [(0, 0)] hm rfl (Sa1 trivial) trivial (Ba1 trivial)) ?_
     refine A.done (by kernel_rfl) ?_
     refine WpC.ret ?_
     cases H
     exact Leaves.ret rfl rfl rfl ⟨rfl, rfl⟩
/-! ### Fspec_DrawReadRules -/
def Fspec_DrawReadRules (k : Nat) (a0 : List UInt8) : Option (List UInt8) := (Fspec_l1New k a0).bind fun r1 => (Fspec_l17Some k (6 : Int) r1).bind fun r2 => (Fspec_ShowRules k r2.1).bind fun r3 => (Fspec_l1Once k (3 : Int) r2.2).bind fun r6 => cond r6.1 ((Fspec_l1Spoil k r3 r6.2).bind fun r7 => some r7.1) (some r3)
theorem ent24 : MG.Enters Try.prog 24 := ⟨Try.f24, Try.func24, rfl, by decide⟩
set_option maxHeartbeats 8000000 in
set_option maxRecDepth 100000 in
theorem Fspec_DrawReadRules_gives (k : Nat) (a0 : List UInt8) (r : List UInt8) (H : Fspec_DrawReadRules k a0 = some r) : Gives Try.prog 24 [V.one (Cell.sl true (List.map eB a0))] [] [V.one (cS r)] [] := by
 refine Gives.intro Try.func24 rfl rfl rfl rfl ?_
 intro F hF hm
 unfold Fspec_DrawReadRules at H
 obtain ⟨K, hK⟩ : ∃ K, k ≤ K := ⟨k, Nat.le_refl k⟩
 refine WpC.seq (WpC.regionL ?_)
 refine L.assign hF rfl rfl rfl (L.nil ?_)
 refine WpC.seq (WpC.regionL ?_)
 refine L.move hF rfl rfl rfl ?_
 obtain ⟨r1, hr1, H⟩ := bindS H
 refine L.call [false] [] [] 1 hF rfl rfl rfl ent61 rfl rfl rfl rfl rfl (Fspec_l1New_gives k  a0 r1 hr1) rfl ?_
 refine L.assign hF rfl rfl rfl (L.nil ?_)
 refine WpC.seq (WpC.regionL ?_)
 refine L.move hF rfl rfl rfl ?_
 obtain ⟨r2, hr2, H⟩ := bindS H
 refine L.call [false, false] [] [1] 2 hF rfl rfl rfl ent62 rfl rfl rfl rfl rfl (Fspec_l17Some_gives k  (6 : Int) r1 r2 hr2) rfl ?_
 obtain ⟨r3, hr3, H⟩ := bindS H
 refine L.call [false] [2] [] 6 hF rfl rfl rfl ent26 rfl rfl rfl rfl rfl (Fspec_ShowRules_gives k false r2.1 r3 hr3) rfl ?_
 refine L.assign hF rfl rfl rfl (L.nil ?_)
 refine WpC.seq (WpC.seq (WpC.regionL ?_))
 refine L.move hF rfl rfl rfl ?_
 obtain ⟨r6, hr6, H⟩ := bindS H
 refine L.call [false, false] [] [1] 7 hF rfl rfl rfl ent65 rfl rfl rfl rfl rfl (Fspec_l1Once_gives k  (3 : Int) r2.2 r6 hr6) rfl (L.nil ?_)
 refine WpC.cond rfl (fun hc => ?_) (fun hc => ?_)
 ·replace H := condT hc H
  refine WpC.seq (WpC.regionL ?_)
  refine L.move hF rfl rfl rfl ?_
  refine L.move hF rfl rfl rfl ?_
  obtain ⟨r7, hr7, H⟩ := bindS H
  refine L.call [false, false] [] [1] 11 hF rfl rfl rfl ent66 rfl rfl rfl rfl rfl (Fspec_l1Spoil_gives k  r3 r6.2 r7 hr7) rfl ?_
  refine L.assign hF rfl rfl rfl (L.nil ?_)
  refine WpC.ret ?_
  cases H
  exact Leaves.ret rfl rfl rfl ⟨rfl, rfl⟩
 ·replace H := condF hc H
  refine WpC.skip (WpC.seq (WpC.regionL ?_))
  refine L.move hF rfl rfl rfl ?_
  refine L.assign hF rfl rfl rfl (L.nil ?_)
  refine WpC.ret ?_
  cases H
  exact Leaves.ret rfl rfl rfl ⟨rfl, rfl⟩
/-! ### Fspec_ReadVar -/
def Fspec_ReadVar.l26 (cl22 : (List UInt8) → Int → Option (Int × Int)) : Nat → (List UInt8) → Int → Int → Int → Option (Int × Int)
 | 0, _, _, _, _ => none
 | k26 + 1, v411, v412, v413, v414 => cond (decide (v414 ≥ (0 : Int))) ((at? v411 v414).bind fun b416 => (Fspec_ReadVar.l26 cl22 k26) v411 v412 (IntKind.i64.wrap ((IntKind.i64.wrap (v413 * (128 : Int))) + (Int.tmod (b416.toNat : Int) (128 : Int)))) (IntKind.i64.wrap (v414 - (1 : Int)))) ((Fspec_Var k26 v413).bind fun r417 => (cut? v411 (0 : Int) v412).bind fun b418 => cond (r417 == b418) (some (v413, v412)) (cl22 v411 (IntKind.i64.wrap (v412 + (1 : Int)))))
def Fspec_ReadVar.l22 : Nat → (List UInt8) → Int → Option (Int × Int)
 | 0, _, _ => none
 | k22 + 1, v345, v346 => cond (decide (v346 ≤ (7 : Int))) (cond (decide (v346 ≤ (v345.length : Int))) (Fspec_ReadVar.l26 (Fspec_ReadVar.l22 k22) k22 v345 v346 (0 : Int) (IntKind.i64.wrap (v346 - (1 : Int)))) (some ((0 : Int), (0 : Int)))) (some ((0 : Int), (0 : Int)))
def Fspec_ReadVar (k : Nat) (a0 : List UInt8) : Option (Int × Int) := Fspec_ReadVar.l22 k a0 (1 : Int)
theorem ent122 : MG.Enters Try.prog 122 := ⟨Try.f122, Try.func122, rfl, by decide⟩
set_option maxHeartbeats 8000000 in
set_option maxRecDepth 100000 in
theorem Fspec_ReadVar_gives (k : Nat) (a0 : List UInt8) (r : Int × Int) (H : Fspec_ReadVar k a0 = some r) : Gives Try.prog 122 [V.one (cS a0)] [] [V.one (cI r.1), V.one (cI r.2)] [] := by
 refine Gives.intro Try.func122 rfl rfl rfl rfl ?_
 intro F hF hm
 unfold Fspec_ReadVar at H
 obtain ⟨K, hK⟩ : ∃ K, k ≤ K := ⟨k, Nat.le_refl k⟩
 refine WpC.seq (WpC.regionL ?_)
 refine L.assign hF rfl rfl rfl ?_
 refine L.assign hF rfl rfl rfl (L.nil ?_)
 refine WpC.seq (WpC.seq (WpC.regionL ?_))
 refine L.assign hF rfl rfl rfl (L.nil ?_)
 refine WpC.block ?_
 refine WpC.loopL (P := Try.prog) (fun n σ => ∃ v345 : List UInt8, ∃ v346 : Int, n ≤ K ∧ Fspec_ReadVar.l22 n v345 v346 = some r ∧ σ = mkSt [(0, one (cS v345)), (4, one (cI v346))] [] [] 0) k ⟨_, ⟨a0, (1 : Int), by omega, H, rfl⟩, Le.mk [] hm rfl (Sa2 trivial) trivial trivial⟩ ?_
 clear H
 rintro k22 _ ⟨v345, v346, hk22, H, rfl⟩
 cases k22 with
 | zero => cases H
 | succ k22 =>
  rw [Fspec_ReadVar.l22] at H
  refine WpC.seq (WpC.seq (WpC.regionL ?_))
  refine L.move hF rfl rfl rfl ?_
  refine L.bin hF rfl rfl rfl rfl rfl rfl ?_
  refine L.move hF rfl rfl rfl ?_
  refine L.split (fun hc => ?_) (fun hc => ?_)
  ·replace H := condT hc H
   refine L.move hF rfl rfl rfl ?_
   refine L.move hF rfl rfl rfl ?_
   refine L.lenS Try.underlying9 hF rfl rfl rfl ?_
   refine L.bin hF rfl rfl rfl rfl rfl rfl ?_
   refine L.pick hF rfl rfl rfl rfl (L.nil ?_)
   refine WpC.cond rfl (fun hc => ?_) (fun hc => ?_)
   ·replace H := condT hc H
    refine WpC.skip (WpC.seq (WpC.block (WpC.seq (WpC.regionL ?_))))
    refine L.assign hF rfl rfl rfl (L.nil ?_)
    refine WpC.seq (WpC.seq (WpC.regionL ?_))
    refine L.move hF rfl rfl rfl ?_
    refine L.bin hF rfl rfl rfl rfl rfl rfl ?_
    refine L.assign hF rfl rfl rfl (L.nil ?_)
    refine WpC.block ?_
    refine WpC.loopL (P := Try.prog) (fun n σ => ∃ v411 : List UInt8, ∃ v412 : Int, ∃ v413 : Int, ∃ v414 : Int, n ≤ K ∧ Fspec_ReadVar.l26 (Fspec_ReadVar.l22 k22) n v411 v412 v413 v414 = some r ∧ σ = mkSt [(0, one (cS v411)), (4, one (cI v412)), (5, one (cI v413)), (6, one (cI v414))] [] [] 0) k22 ⟨_, ⟨v345, v346, (0 : Int), (IntKind.i64.wrap (v346 - (1 : Int))), by omega, H, rfl⟩, Le.mk [] hm rfl (Sa4 trivial) trivial trivial⟩ ?_
    clear H
    rintro k26 _ ⟨v411, v412, v413, v414, hk26, H, rfl⟩
    cases k26 with
    | zero => cases H
    | succ k26 =>
     rw [Fspec_ReadVar.l26] at H
     refine WpC.seq (WpC.seq (WpC.regionL ?_))
     refine L.move hF rfl rfl rfl ?_
     refine L.bin hF rfl rfl rfl rfl rfl rfl (L.nil ?_)
     refine WpC.cond rfl (fun hc => ?_) (fun hc => ?_)
     ·replace H := condT hc H
      refine WpC.skip (WpC.seq (WpC.block (WpC.regionL ?_)))
      refine L.move hF rfl rfl rfl ?_
      refine L.bin hF rfl rfl rfl rfl rfl rfl ?_
      refine L.move hF rfl rfl rfl ?_
      refine L.move hF rfl rfl rfl ?_
      obtain ⟨b416, hb416, H⟩ := bindS H
      refine L.idxS Try.underlying9 hF rfl rfl rfl rfl hb416 ?_
      refine L.ofB Try.underlying5 Try.underlying3 hF rfl rfl rfl ?_
      refine L.rem hF rfl rfl rfl rfl (by decide) ?_
      refine L.bin hF rfl rfl rfl rfl rfl rfl ?_
      refine L.assign hF rfl rfl rfl (L.nil ?_)
      refine WpC.regionL ?_
      refine L.move hF rfl rfl rfl ?_
      refine L.bin hF rfl rfl rfl rfl rfl rfl ?_
      refine L.assign hF rfl rfl rfl (L.nil ?_)
      exact ⟨k26, _, by omega, ⟨v411, v412, (IntKind.i64.wrap ((IntKind.i64.wrap (v413 * (128 : Int))) + (Int.tmod (b416.toNat : Int) (128 : Int)))), (IntKind.i64.wrap (v414 - (1 : Int))), by omega, H, rfl⟩, Le.mk [] hm rfl (Sa4 trivial) trivial trivial⟩
     ·replace H := condF hc H
      refine WpC.exit (WpC.seq ?_)
      obtain ⟨r417, hr417, H⟩ := bindS H
      obtain ⟨b418, hb418, H⟩ := bindS H
      refine A.begin mixed rfl rfl ?_
      intro W hI hO
      refine hI _ _ _ ?_
      refine Atk 0 rfl (Ca.move) (fun Q0 k0 => L.move hF rfl rfl rfl (L.nil k0)) ?_
      refine Atk 2 rfl (Ca.move) (fun Q0 k0 => L.move hF rfl rfl rfl (L.nil k0)) ?_
      refine Atk 3 rfl (Ca.move) (fun Q0 k0 => L.move hF rfl rfl rfl (L.nil k0)) ?_
      refine Atk 4 rfl (Ca.slice) (fun Q0 k0 => L.cutS Try.underlying9 hF rfl rfl rfl rfl rfl hb418 (L.nil k0)) ?_
      refine A.all [1] (by kernel_rfl) rfl ⟨⟨_, rfl, ?_⟩, trivial⟩
      refine L.call [false] [] [] 0 hF rfl rfl rfl ent68 rfl rfl rfl rfl rfl (Fspec_Var_gives k26  v413 r417 hr417) rfl (L.nil ?_)
      refine Atk 5 rfl (Ca.bin rfl rfl (calm_str _ _ _ _ _ _)) (fun Q0 k0 => L.binS hF rfl rfl rfl rfl rfl (L.nil k0)) ?_
      refine A.le (τ := mkSt [(0, one (cS v411)), (4, one (cI v412)), (5, one (cI v413)), (36, one (cL (r417 == b418)))] [] [] 0) (Le.mk [] hm rfl (Sa4 trivial) trivial trivial) ?_
      refine A.done (by kernel_rfl) ?_
      refine WpC.cond rfl (fun hc => ?_) (fun hc => ?_)
      ·replace H := condT hc H
       refine WpC.seq (WpC.regionL ?_)
       refine L.move hF rfl rfl rfl ?_
       refine L.move hF rfl rfl rfl ?_
       refine L.assign hF rfl rfl rfl ?_
       refine L.assign hF rfl rfl rfl (L.nil ?_)
       refine WpC.ret ?_
       cases H
       exact Leaves.ret rfl rfl rfl ⟨rfl, rfl⟩
      ·replace H := condF hc H
       refine WpC.skip (WpC.regionL ?_)
       refine L.move hF rfl rfl rfl ?_
       refine L.bin hF rfl rfl rfl rfl rfl rfl ?_
       refine L.assign hF rfl rfl rfl (L.nil ?_)
       exact ⟨k22, _, by omega, ⟨v411, (IntKind.i64.wrap (v412 + (1 : Int))), by omega, H, rfl⟩, Le.mk [] hm rfl (Sa2 trivial) trivial trivial⟩
   ·replace H := condF hc H
    refine WpC.exit (WpC.seq (WpC.regionL ?_))
    refine L.assign hF rfl rfl rfl ?_
    refine L.assign hF rfl rfl rfl (L.nil ?_)
    refine WpC.ret ?_
    cases H
    exact Leaves.ret rfl rfl rfl ⟨rfl, rfl⟩
  ·replace H := condF hc H
   refine L.off hF rfl rfl ?_
   refine L.off hF rfl rfl ?_
   refine L.off hF rfl rfl ?_
   refine L.off hF rfl rfl ?_
   refine L.pick hF rfl rfl rfl rfl (L.nil ?_)
   refine WpC.cond rfl (fun hc => by cases hc) (fun _ => ?_)
   refine WpC.exit (WpC.seq (WpC.regionL ?_))
   refine L.assign hF rfl rfl rfl ?_
   refine L.assign hF rfl rfl rfl (L.nil ?_)
   refine WpC.ret ?_
   cases H
   exact Leaves.ret rfl rfl rfl ⟨rfl, rfl⟩
end Go.Proofs.Ytgjbgakcfcomdaa.M
