import Derived.Test.YtgjbgakcfcomdaaMgZf
import Derived.Test.YtgjbgakcfcomdaaProg
namespace Go.Proofs.Ytgjbgakcfcomdaa.M
open Go Go.MG
set_option linter.unusedVariables false
set_option linter.unusedSimpArgs false
structure Timpl_Tlv where
  Tag : Int
  Leaf : Bool
  Data : List UInt8
  Kids : List Int
def eTimpl_Tlv (x : Timpl_Tlv) : List Cell := [cI x.Tag, cL x.Leaf, cS x.Data, Cell.ow 1 (List.map eI x.Kids)]
def bTimpl_Tlv (g0 : Bool) (x : Timpl_Tlv) : List Cell := [cI x.Tag, cL x.Leaf, cS x.Data, Cell.sl g0 (List.map eI x.Kids)]
structure Tspec_l14R where
  s : List UInt8
  out : List Timpl_Tlv
  begun : Int
  code : Int
def eTspec_l14R (x : Tspec_l14R) : List Cell := [cS x.s, Cell.sl true (List.map eTimpl_Tlv x.out), cI x.begun, cI x.code]
structure Timpl_tlvReader where
  s : List UInt8
  nodes : List Timpl_Tlv
  begun : Int
def eTimpl_tlvReader (x : Timpl_tlvReader) : List Cell := [cS x.s, Cell.ow 4 (List.map eTimpl_Tlv x.nodes), cI x.begun]
structure Tspec_l1Cur where
  b : List UInt8
  i : Int
  h : Int
def eTspec_l1Cur (x : Tspec_l1Cur) : List Cell := [Cell.sl true (List.map eB x.b), cI x.i, cI x.h]
def bTspec_l1Cur (g0 : Bool) (x : Tspec_l1Cur) : List Cell := [Cell.sl g0 (List.map eB x.b), cI x.i, cI x.h]
theorem mixed : Try.prog.follows .mixedOrders = true := by kernel_rfl
theorem shape3 : MG.shape Try.prog 3 = some (false, 1) := by kernel_rfl
theorem shape4 : MG.shape Try.prog 4 = some (false, 1) := by kernel_rfl
theorem shape5 : MG.shape Try.prog 5 = some (false, 1) := by kernel_rfl
theorem shape9 : MG.shape Try.prog 9 = some (false, 1) := by kernel_rfl
theorem shape22 : MG.shape Try.prog 22 = some (false, 1) := by kernel_rfl
theorem shape33 : MG.shape Try.prog 33 = some (false, 1) := by kernel_rfl
theorem shape39 : MG.shape Try.prog 39 = some (false, 1) := by kernel_rfl
theorem shape45 : MG.shape Try.prog 45 = some (true, 4) := by kernel_rfl
theorem shape82 : MG.shape Try.prog 82 = some (true, 4) := by kernel_rfl
theorem info3 : Try.prog.info? 3 = some Try.t3 := by kernel_rfl
theorem info4 : Try.prog.info? 4 = some Try.t4 := by kernel_rfl
theorem info5 : Try.prog.info? 5 = some Try.t5 := by kernel_rfl
theorem info9 : Try.prog.info? 9 = some Try.t9 := by kernel_rfl
theorem info22 : Try.prog.info? 22 = some Try.t22 := by kernel_rfl
theorem info33 : Try.prog.info? 33 = some Try.t33 := by kernel_rfl
theorem info39 : Try.prog.info? 39 = some Try.t39 := by kernel_rfl
theorem info45 : Try.prog.info? 45 = some Try.t45 := by kernel_rfl
theorem info82 : Try.prog.info? 82 = some Try.t82 := by kernel_rfl
theorem info87 : Try.prog.info? 87 = some Try.t87 := by kernel_rfl
theorem info154 : Try.prog.info? 154 = some Try.t154 := by kernel_rfl
theorem built45 : builtA Try.prog 45 = fillA (fun x => ([(0, 1), (1, 1), (2, 1), (3, 1)] : List (Nat × Nat))[x]?) [cI (0 : Int), cL false, cS ([] : List UInt8), Cell.nil] := by kernel_rfl
theorem built82 : builtA Try.prog 82 = fillA (fun x => ([(0, 1), (1, 1), (2, 1), (3, 1)] : List (Nat × Nat))[x]?) [cS ([] : List UInt8), Cell.nil, cI (0 : Int), cI (0 : Int)] := by kernel_rfl
theorem built87 : builtA Try.prog 87 = fillA (fun x => ([(0, 1), (1, 1), (2, 1)] : List (Nat × Nat))[x]?) [cS ([] : List UInt8), Cell.nil, cI (0 : Int)] := by kernel_rfl
theorem built154 : builtA Try.prog 154 = fillA (fun x => ([(0, 1), (1, 1), (2, 1)] : List (Nat × Nat))[x]?) [Cell.nil, cI (0 : Int), cI (0 : Int)] := by kernel_rfl
abbrev bx (a b c d : Int) : List Cell := [cI a, cI b, cI c, cI d]
theorem Sa1 {π : Nat → Option Nat} {σ : St} {t0 : Nat} {s0 u0 : Slot} {l : List (Nat × Slot)} (k : SlotsOk π σ l) (h0 : renS π s0 = some u0 := by exact rfl) (g0 : σ.slots t0 = some u0 := by exact rfl) : SlotsOk π σ ((t0, s0) :: l) := ⟨⟨_, h0, g0⟩, k⟩
theorem Ra1 {π : Nat → Option Nat} {σ : St} {t0 q0 : Nat} {s0 : Row} {l : List (Nat × Row)} (k : RowsOk π σ l) (h0 : π t0 = some q0 := by exact rfl) (g0 : σ.H.rows q0 = some s0 := by exact rfl) : RowsOk π σ ((t0, s0) :: l) := ⟨⟨_, h0, g0⟩, k⟩
theorem Ba1 {π : Nat → Option Nat} {σ : St} {t0 q0 : Nat} {c0 d0 : List Cell} {l : List (Nat × List Cell)} (k : BoxesOk π σ l) (h0 : π t0 = some q0 := by exact rfl) (g0 : renCs π c0 = some d0 := by exact rfl) (e0 : σ.H.boxes q0 = some d0 := by exact rfl) : BoxesOk π σ ((t0, c0) :: l) := ⟨⟨_, _, h0, g0, e0⟩, k⟩
theorem Sa2 {π : Nat → Option Nat} {σ : St} {t0 t1 : Nat} {s0 u0 s1 u1 : Slot} {l : List (Nat × Slot)} (k : SlotsOk π σ l) (h0 : renS π s0 = some u0 := by exact rfl) (g0 : σ.slots t0 = some u0 := by exact rfl) (h1 : renS π s1 = some u1 := by exact rfl) (g1 : σ.slots t1 = some u1 := by exact rfl) : SlotsOk π σ ((t0, s0) :: (t1, s1) :: l) := ⟨⟨_, h0, g0⟩, ⟨_, h1, g1⟩, k⟩
theorem Ra2 {π : Nat → Option Nat} {σ : St} {t0 q0 t1 q1 : Nat} {s0 s1 : Row} {l : List (Nat × Row)} (k : RowsOk π σ l) (h0 : π t0 = some q0 := by exact rfl) (g0 : σ.H.rows q0 = some s0 := by exact rfl) (h1 : π t1 = some q1 := by exact rfl) (g1 : σ.H.rows q1 = some s1 := by exact rfl) : RowsOk π σ ((t0, s0) :: (t1, s1) :: l) := ⟨⟨_, h0, g0⟩, ⟨_, h1, g1⟩, k⟩
theorem Ba2 {π : Nat → Option Nat} {σ : St} {t0 q0 t1 q1 : Nat} {c0 d0 c1 d1 : List Cell} {l : List (Nat × List Cell)} (k : BoxesOk π σ l) (h0 : π t0 = some q0 := by exact rfl) (g0 : renCs π c0 = some d0 := by exact rfl) (e0 : σ.H.boxes q0 = some d0 := by exact rfl) (h1 : π t1 = some q1 := by exact rfl) (g1 : renCs π c1 = some d1 := by exact rfl) (e1 : σ.H.boxes q1 = some d1 := by exact rfl) : BoxesOk π σ ((t0, c0) :: (t1, c1) :: l) := ⟨⟨_, _, h0, g0, e0⟩, ⟨_, _, h1, g1, e1⟩, k⟩
theorem Sa4 {π : Nat → Option Nat} {σ : St} {t0 t1 t2 t3 : Nat} {s0 u0 s1 u1 s2 u2 s3 u3 : Slot} {l : List (Nat × Slot)} (k : SlotsOk π σ l) (h0 : renS π s0 = some u0 := by exact rfl) (g0 : σ.slots t0 = some u0 := by exact rfl) (h1 : renS π s1 = some u1 := by exact rfl) (g1 : σ.slots t1 = some u1 := by exact rfl) (h2 : renS π s2 = some u2 := by exact rfl) (g2 : σ.slots t2 = some u2 := by exact rfl) (h3 : renS π s3 = some u3 := by exact rfl) (g3 : σ.slots t3 = some u3 := by exact rfl) : SlotsOk π σ ((t0, s0) :: (t1, s1) :: (t2, s2) :: (t3, s3) :: l) := ⟨⟨_, h0, g0⟩, ⟨_, h1, g1⟩, ⟨_, h2, g2⟩, ⟨_, h3, g3⟩, k⟩
theorem Ra4 {π : Nat → Option Nat} {σ : St} {t0 q0 t1 q1 t2 q2 t3 q3 : Nat} {s0 s1 s2 s3 : Row} {l : List (Nat × Row)} (k : RowsOk π σ l) (h0 : π t0 = some q0 := by exact rfl) (g0 : σ.H.rows q0 = some s0 := by exact rfl) (h1 : π t1 = some q1 := by exact rfl) (g1 : σ.H.rows q1 = some s1 := by exact rfl) (h2 : π t2 = some q2 := by exact rfl) (g2 : σ.H.rows q2 = some s2 := by exact rfl) (h3 : π t3 = some q3 := by exact rfl) (g3 : σ.H.rows q3 = some s3 := by exact rfl) : RowsOk π σ ((t0, s0) :: (t1, s1) :: (t2, s2) :: (t3, s3) :: l) := ⟨⟨_, h0, g0⟩, ⟨_, h1, g1⟩, ⟨_, h2, g2⟩, ⟨_, h3, g3⟩, k⟩
theorem Ba4 {π : Nat → Option Nat} {σ : St} {t0 q0 t1 q1 t2 q2 t3 q3 : Nat} {c0 d0 c1 d1 c2 d2 c3 d3 : List Cell} {l : List (Nat × List Cell)} (k : BoxesOk π σ l) (h0 : π t0 = some q0 := by exact rfl) (g0 : renCs π c0 = some d0 := by exact rfl) (e0 : σ.H.boxes q0 = some d0 := by exact rfl) (h1 : π t1 = some q1 := by exact rfl) (g1 : renCs π c1 = some d1 := by exact rfl) (e1 : σ.H.boxes q1 = some d1 := by exact rfl) (h2 : π t2 = some q2 := by exact rfl) (g2 : renCs π c2 = some d2 := by exact rfl) (e2 : σ.H.boxes q2 = some d2 := by exact rfl) (h3 : π t3 = some q3 := by exact rfl) (g3 : renCs π c3 = some d3 := by exact rfl) (e3 : σ.H.boxes q3 = some d3 := by exact rfl) : BoxesOk π σ ((t0, c0) :: (t1, c1) :: (t2, c2) :: (t3, c3) :: l) := ⟨⟨_, _, h0, g0, e0⟩, ⟨_, _, h1, g1, e1⟩, ⟨_, _, h2, g2, e2⟩, ⟨_, _, h3, g3, e3⟩, k⟩
theorem Sa8 {π : Nat → Option Nat} {σ : St} {t0 t1 t2 t3 t4 t5 t6 t7 : Nat} {s0 u0 s1 u1 s2 u2 s3 u3 s4 u4 s5 u5 s6 u6 s7 u7 : Slot} {l : List (Nat × Slot)} (k : SlotsOk π σ l) (h0 : renS π s0 = some u0 := by exact rfl) (g0 : σ.slots t0 = some u0 := by exact rfl) (h1 : renS π s1 = some u1 := by exact rfl) (g1 : σ.slots t1 = some u1 := by exact rfl) (h2 : renS π s2 = some u2 := by exact rfl) (g2 : σ.slots t2 = some u2 := by exact rfl) (h3 : renS π s3 = some u3 := by exact rfl) (g3 : σ.slots t3 = some u3 := by exact rfl) (h4 : renS π s4 = some u4 := by exact rfl) (g4 : σ.slots t4 = some u4 := by exact rfl) (h5 : renS π s5 = some u5 := by exact rfl) (g5 : σ.slots t5 = some u5 := by exact rfl) (h6 : renS π s6 = some u6 := by exact rfl) (g6 : σ.slots t6 = some u6 := by exact rfl) (h7 : renS π s7 = some u7 := by exact rfl) (g7 : σ.slots t7 = some u7 := by exact rfl) : SlotsOk π σ ((t0, s0) :: (t1, s1) :: (t2, s2) :: (t3, s3) :: (t4, s4) :: (t5, s5) :: (t6, s6) :: (t7, s7) :: l) := ⟨⟨_, h0, g0⟩, ⟨_, h1, g1⟩, ⟨_, h2, g2⟩, ⟨_, h3, g3⟩, ⟨_, h4, g4⟩, ⟨_, h5, g5⟩, ⟨_, h6, g6⟩, ⟨_, h7, g7⟩, k⟩
theorem Ra8 {π : Nat → Option Nat} {σ : St} {t0 q0 t1 q1 t2 q2 t3 q3 t4 q4 t5 q5 t6 q6 t7 q7 : Nat} {s0 s1 s2 s3 s4 s5 s6 s7 : Row} {l : List (Nat × Row)} (k : RowsOk π σ l) (h0 : π t0 = some q0 := by exact rfl) (g0 : σ.H.rows q0 = some s0 := by exact rfl) (h1 : π t1 = some q1 := by exact rfl) (g1 : σ.H.rows q1 = some s1 := by exact rfl) (h2 : π t2 = some q2 := by exact rfl) (g2 : σ.H.rows q2 = some s2 := by exact rfl) (h3 : π t3 = some q3 := by exact rfl) (g3 : σ.H.rows q3 = some s3 := by exact rfl) (h4 : π t4 = some q4 := by exact rfl) (g4 : σ.H.rows q4 = some s4 := by exact rfl) (h5 : π t5 = some q5 := by exact rfl) (g5 : σ.H.rows q5 = some s5 := by exact rfl) (h6 : π t6 = some q6 := by exact rfl) (g6 : σ.H.rows q6 = some s6 := by exact rfl) (h7 : π t7 = some q7 := by exact rfl) (g7 : σ.H.rows q7 = some s7 := by exact rfl) : RowsOk π σ ((t0, s0) :: (t1, s1) :: (t2, s2) :: (t3, s3) :: (t4, s4) :: (t5, s5) :: (t6, s6) :: (t7, s7) :: l) := ⟨⟨_, h0, g0⟩, ⟨_, h1, g1⟩, ⟨_, h2, g2⟩, ⟨_, h3, g3⟩, ⟨_, h4, g4⟩, ⟨_, h5, g5⟩, ⟨_, h6, g6⟩, ⟨_, h7, g7⟩, k⟩
theorem Ba8 {π : Nat → Option Nat} {σ : St} {t0 q0 t1 q1 t2 q2 t3 q3 t4 q4 t5 q5 t6 q6 t7 q7 : Nat} {c0 d0 c1 d1 c2 d2 c3 d3 c4 d4 c5 d5 c6 d6 c7 d7 : List Cell} {l : List (Nat × List Cell)} (k : BoxesOk π σ l) (h0 : π t0 = some q0 := by exact rfl) (g0 : renCs π c0 = some d0 := by exact rfl) (e0 : σ.H.boxes q0 = some d0 := by exact rfl) (h1 : π t1 = some q1 := by exact rfl) (g1 : renCs π c1 = some d1 := by exact rfl) (e1 : σ.H.boxes q1 = some d1 := by exact rfl) (h2 : π t2 = some q2 := by exact rfl) (g2 : renCs π c2 = some d2 := by exact rfl) (e2 : σ.H.boxes q2 = some d2 := by exact rfl) (h3 : π t3 = some q3 := by exact rfl) (g3 : renCs π c3 = some d3 := by exact rfl) (e3 : σ.H.boxes q3 = some d3 := by exact rfl) (h4 : π t4 = some q4 := by exact rfl) (g4 : renCs π c4 = some d4 := by exact rfl) (e4 : σ.H.boxes q4 = some d4 := by exact rfl) (h5 : π t5 = some q5 := by exact rfl) (g5 : renCs π c5 = some d5 := by exact rfl) (e5 : σ.H.boxes q5 = some d5 := by exact rfl) (h6 : π t6 = some q6 := by exact rfl) (g6 : renCs π c6 = some d6 := by exact rfl) (e6 : σ.H.boxes q6 = some d6 := by exact rfl) (h7 : π t7 = some q7 := by exact rfl) (g7 : renCs π c7 = some d7 := by exact rfl) (e7 : σ.H.boxes q7 = some d7 := by exact rfl) : BoxesOk π σ ((t0, c0) :: (t1, c1) :: (t2, c2) :: (t3, c3) :: (t4, c4) :: (t5, c5) :: (t6, c6) :: (t7, c7) :: l) := ⟨⟨_, _, h0, g0, e0⟩, ⟨_, _, h1, g1, e1⟩, ⟨_, _, h2, g2, e2⟩, ⟨_, _, h3, g3, e3⟩, ⟨_, _, h4, g4, e4⟩, ⟨_, _, h5, g5, e5⟩, ⟨_, _, h6, g6, e6⟩, ⟨_, _, h7, g7, e7⟩, k⟩
theorem Atk {P : Program} {F : Fix} {ops : Array Oper} {Q : St → Prop} {fuel : Nat} {listed : Array Bool} {sl : Nat → Option Slot} {H : Heap} {σ1 : St} {o : Oper} (i : Nat) (ho : ops[i]? = some o) (hc : CalmAt P F sl H o) (hL : ∀ Q0 : St → Prop, Q0 σ1 → WpL P F ops Q0 [o] ⟨sl, H⟩) (k : WpA P F ops Q fuel (listed.setIfInBounds i true) σ1) (hs : Region.noSelect ops = true := by kernel_rfl) (hf : Region.free .any ops listed i = true := by kernel_rfl) (hr : (Region.ready .any ops listed).contains i = true := by kernel_rfl) (hv : kindV o.op = true := by exact rfl) : WpA P F ops Q (fuel + 1) listed ⟨sl, H⟩ := A.take i ho hs hf hr hv hc hL k
theorem Aof {P : Program} {F : Fix} {ops : Array Oper} {Q : St → Prop} {fuel : Nat} {listed : Array Bool} {sl : Nat → Option Slot} {H : Heap} {o : Oper} {N : Nat} (i : Nat) (ho : ops[i]? = some o) (hn : F.n = N) (k : WpA P F ops Q fuel (listed.setIfInBounds i true) ⟨setD sl o.dst (some (.tup [])), H⟩) (hs : Region.noSelect ops = true := by kernel_rfl) (hf : Region.free .any ops listed i = true := by kernel_rfl) (hr : (Region.ready .any ops listed).contains i = true := by kernel_rfl) (hv : kindV o.op = true := by exact rfl) (hg : guardOf ops sl o = some false := by exact rfl) (hd : dstB N o.dst = true := by exact rfl) : WpA P F ops Q (fuel + 1) listed ⟨sl, H⟩ := A.off i ho hs hf hr hv hn hg hd k
/-! ### Flaws_big -/
def Flaws_big (k : Nat) (a0 : List UInt8) : Option Bool := some (decide ((a0.length : Int) > (1048576 : Int)))
theorem ent21 : MG.Enters Try.prog 21 := ⟨Try.f21, Try.func21, rfl, by decide⟩
set_option maxHeartbeats 8000000 in
set_option maxRecDepth 100000 in
theorem Flaws_big_gives (k : Nat) (g0 : Bool) (a0 : List UInt8) (r : Bool) (H : Flaws_big k a0 = some r) : Gives Try.prog 21 [V.one (Cell.sl g0 (List.map eB a0))] [] [V.one (cL r)] [] := by
 refine Gives.intro Try.func21 rfl rfl rfl rfl ?_
 intro F hF hm
 unfold Flaws_big at H
 obtain ⟨K, hK⟩ : ∃ K, k ≤ K := ⟨k, Nat.le_refl k⟩
 refine WpC.seq (WpC.regionL ?_)
 refine L.assign hF rfl rfl rfl (L.nil ?_)
 refine WpC.seq (WpC.regionL ?_)
 refine L.move hF rfl rfl rfl ?_
 refine L.lenR (xs := a0) (e := eB) Try.underlying33 hF rfl rfl rfl rfl ?_
 refine L.bin hF rfl rfl rfl rfl rfl rfl ?_
 refine L.assign hF rfl rfl rfl (L.nil ?_)
 refine WpC.ret ?_
 cases H
 exact Leaves.ret rfl rfl rfl ⟨rfl, rfl⟩
/-! ### Fspec_l1New -/
def Fspec_l1New.j2 (k : Nat) (v15 : List UInt8) (v16 : Int) : Option Tspec_l1Cur := some (⟨v15, (0 : Int), v16⟩ : Tspec_l1Cur)
def Fspec_l1New.l3 : Nat → (List UInt8) → Int → Int → Option Tspec_l1Cur
 | 0, _, _, _ => none
 | k3 + 1, v26, v27, v28 => cond (decide (v28 < (v26.length : Int))) (cond (decide (v28 < (4000 : Int))) ((at? v26 v28).bind fun b30 => (Fspec_l1New.l3 k3) v26 (Go.bits .and .i64 (IntKind.i64.wrap ((IntKind.i64.wrap ((IntKind.i64.wrap (v27 * (131 : Int))) + (b30.toNat : Int))) + (7 : Int))) (1073741823 : Int)) (IntKind.i64.wrap (v28 + (1 : Int)))) (Fspec_l1New.j2 k3 v26 v27)) (Fspec_l1New.j2 k3 v26 v27)
def Fspec_l1New (k : Nat) (a0 : List UInt8) : Option Tspec_l1Cur := Fspec_l1New.l3 k a0 (IntKind.i64.wrap ((10101 : Int) + (a0.length : Int))) (0 : Int)
theorem ent61 : MG.Enters Try.prog 61 := ⟨Try.f61, Try.func61, rfl, by decide⟩
set_option maxHeartbeats 8000000 in
set_option maxRecDepth 100000 in
theorem Fspec_l1New_gives (k : Nat) (a0 : List UInt8) (r : Tspec_l1Cur) (H : Fspec_l1New k a0 = some r) : Gives Try.prog 61 [V.one (Cell.sl true (List.map eB a0))] [] [V.one (Cell.bx [Cell.sl true (List.map eB r.b), cI r.i, cI r.h])] [] := by
 refine Gives.intro Try.func61 rfl rfl rfl rfl ?_
 intro F hF hm
 unfold Fspec_l1New at H
 obtain ⟨K, hK⟩ : ∃ K, k ≤ K := ⟨k, Nat.le_refl k⟩
 refine WpC.seq (WpC.regionL ?_)
 refine L.assign hF rfl rfl rfl (L.nil ?_)
 refine WpC.seq (WpC.regionL ?_)
 refine L.move hF rfl rfl rfl ?_
 refine L.lenR (xs := a0) (e := eB) Try.underlying33 hF rfl rfl rfl rfl ?_
 refine L.bin hF rfl rfl rfl rfl rfl rfl ?_
 refine L.assign hF rfl rfl rfl (L.nil ?_)
 refine WpC.join (fun σ => ∃ kj2 : Nat, ∃ v15 : List UInt8, ∃ v16 : Int, kj2 ≤ K ∧ Fspec_l1New.j2 kj2 v15 v16 = some r ∧ σ = mkSt [(0, one (Cell.sl true (List.map eB v15))), (3, one (cI v16))] [] [] 0) ?_ ?_
 ·rintro _ ⟨kj2, v15, v16, hkj2, H, rfl⟩
  unfold Fspec_l1New.j2 at H
  refine WpC.seq (WpC.regionL ?_)
  refine L.move hF rfl rfl rfl ?_
  refine L.move hF rfl rfl rfl ?_
  refine L.buildF built154 hF rfl rfl rfl rfl ?_
  refine L.box 0 hF rfl rfl rfl rfl ?_
  refine L.assign hF rfl rfl rfl (L.nil ?_)
  refine WpC.ret ?_
  cases H
  exact Leaves.ret rfl rfl rfl ⟨rfl, rfl⟩
 ·refine WpC.seq (WpC.regionL ?_)
  refine L.assign hF rfl rfl rfl (L.nil ?_)
  refine WpC.block ?_
  refine WpC.loopL (P := Try.prog) (fun n σ => ∃ v26 : List UInt8, ∃ v27 : Int, ∃ v28 : Int, n ≤ K ∧ Fspec_l1New.l3 n v26 v27 v28 = some r ∧ σ = mkSt [(0, one (Cell.sl true (List.map eB v26))), (3, one (cI v27)), (4, one (cI v28))] [] [] 0) k ⟨_, ⟨a0, (IntKind.i64.wrap ((10101 : Int) + (a0.length : Int))), (0 : Int), by omega, H, rfl⟩, Le.mk [] hm rfl (Sa2 (Sa1 trivial)) trivial trivial⟩ ?_
  clear H
  rintro k3 _ ⟨v26, v27, v28, hk3, H, rfl⟩
  cases k3 with
  | zero => cases H
  | succ k3 =>
   rw [Fspec_l1New.l3] at H
   refine WpC.seq (WpC.seq (WpC.regionL ?_))
   refine L.move hF rfl rfl rfl ?_
   refine L.move hF rfl rfl rfl ?_
   refine L.lenR (xs := v26) (e := eB) Try.underlying33 hF rfl rfl rfl rfl ?_
   refine L.bin hF rfl rfl rfl rfl rfl rfl ?_
   refine L.move hF rfl rfl rfl ?_
   refine L.split (fun hc => ?_) (fun hc => ?_)
   ·replace H := condT hc H
    refine L.move hF rfl rfl rfl ?_
    refine L.bin hF rfl rfl rfl rfl rfl rfl ?_
    refine L.pick hF rfl rfl rfl rfl (L.nil ?_)
    refine WpC.cond rfl (fun hc => ?_) (fun hc => ?_)
    ·replace H := condT hc H
     refine WpC.skip (WpC.seq (WpC.block (WpC.regionL ?_)))
     refine L.move hF rfl rfl rfl ?_
     refine L.bin hF rfl rfl rfl rfl rfl rfl ?_
     refine L.move hF rfl rfl rfl ?_
     refine L.move hF rfl rfl rfl ?_
     obtain ⟨b30, hb30, H⟩ := bindS H
     refine L.idxR (xs := v26) (e := eB) Try.underlying33 info5 hF rfl rfl rfl rfl rfl hb30 rfl rfl ?_
     refine L.loadPe shape5 hF rfl rfl rfl rfl rfl ?_
     refine L.ofB Try.underlying5 Try.underlying3 hF rfl rfl rfl ?_
     refine L.bin hF rfl rfl rfl rfl rfl rfl ?_
     refine L.bin hF rfl rfl rfl rfl rfl rfl ?_
     refine L.bin hF rfl rfl rfl rfl rfl rfl ?_
     refine L.assign hF rfl rfl rfl (L.nil ?_)
     refine WpC.regionL ?_
     refine L.move hF rfl rfl rfl ?_
     refine L.bin hF rfl rfl rfl rfl rfl rfl ?_
     refine L.assign hF rfl rfl rfl (L.nil ?_)
     exact ⟨k3, _, by omega, ⟨v26, (Go.bits .and .i64 (IntKind.i64.wrap ((IntKind.i64.wrap ((IntKind.i64.wrap (v27 * (131 : Int))) + (b30.toNat : Int))) + (7 : Int))) (1073741823 : Int)), (IntKind.i64.wrap (v28 + (1 : Int))), by omega, H, rfl⟩, Le.mk [] hm rfl (Sa2 (Sa1 trivial)) trivial trivial⟩
    ·replace H := condF hc H
     refine WpC.exit ?_
     exact ⟨_, ⟨k3, v26, v27, by omega, H, rfl⟩, Le.mk [] hm rfl (Sa2 trivial) trivial trivial⟩
   ·replace H := condF hc H
    refine L.off hF rfl rfl ?_
    refine L.off hF rfl rfl ?_
    refine L.pick hF rfl rfl rfl rfl (L.nil ?_)
    refine WpC.cond rfl (fun hc => by cases hc) (fun _ => ?_)
    refine WpC.exit ?_
    exact ⟨_, ⟨k3, v26, v27, by omega, H, rfl⟩, Le.mk [] hm rfl (Sa2 trivial) trivial trivial⟩
/-! ### Fspec_l1Byte -/
def Fspec_l1Byte (k : Nat) (o0 : Tspec_l1Cur) : Option (Int × Tspec_l1Cur) := cond (decide (o0.i < (o0.b.length : Int))) ((at? o0.b o0.i).bind fun b2 => some ((Go.bits .and .i64 (IntKind.i64.wrap ((Go.bits .and .i64 (Go.bits .xor .i64 (shrI .i64 (IntKind.i64.wrap ((IntKind.i64.wrap (o0.h * (6364136223846793005 : Int))) + (1442695040888963407 : Int))) (33 : Int)) (shrI .i64 (IntKind.i64.wrap ((IntKind.i64.wrap (o0.h * (6364136223846793005 : Int))) + (1442695040888963407 : Int))) (45 : Int))) (255 : Int)) + (b2.toNat : Int))) (255 : Int)), (⟨o0.b, (IntKind.i64.wrap (o0.i + (1 : Int))), (IntKind.i64.wrap ((IntKind.i64.wrap (o0.h * (6364136223846793005 : Int))) + (1442695040888963407 : Int)))⟩ : Tspec_l1Cur))) (some ((Go.bits .and .i64 (Go.bits .xor .i64 (shrI .i64 (IntKind.i64.wrap ((IntKind.i64.wrap (o0.h * (6364136223846793005 : Int))) + (1442695040888963407 : Int))) (33 : Int)) (shrI .i64 (IntKind.i64.wrap ((IntKind.i64.wrap (o0.h * (6364136223846793005 : Int))) + (1442695040888963407 : Int))) (45 : Int))) (255 : Int)), (⟨o0.b, o0.i, (IntKind.i64.wrap ((IntKind.i64.wrap (o0.h * (6364136223846793005 : Int))) + (1442695040888963407 : Int)))⟩ : Tspec_l1Cur)))
theorem ent128 : MG.Enters Try.prog 128 := ⟨Try.f128, Try.func128, rfl, by decide⟩
set_option maxHeartbeats 8000000 in
set_option maxRecDepth 100000 in
theorem Fspec_l1Byte_gives (k : Nat) (o0 : Tspec_l1Cur) (r : Int × Tspec_l1Cur) (H : Fspec_l1Byte k o0 = some r) : Gives Try.prog 128 [V.one (Cell.ptr 0 0)] [[Cell.sl true (List.map eB o0.b), cI o0.i, cI o0.h]] [V.one (cI r.1)] [[Cell.sl true (List.map eB r.2.b), cI r.2.i, cI r.2.h]] := by
 refine Gives.intro Try.func128 rfl rfl rfl rfl ?_
 intro F hF hm
 unfold Fspec_l1Byte at H
 obtain ⟨K, hK⟩ : ∃ K, k ≤ K := ⟨k, Nat.le_refl k⟩
 refine WpC.seq (WpC.regionL ?_)
 refine L.assign hF rfl rfl rfl (L.nil ?_)
 refine WpC.seq (WpC.regionL ?_)
 refine L.move hF rfl rfl rfl ?_
 refine L.move hF rfl rfl rfl ?_
 refine L.nilCheck hF rfl rfl rfl rfl ?_
 refine L.fieldAddr Try.underlying154 rfl info3 rfl hF rfl rfl rfl rfl rfl ?_
 refine L.loadPtr shape3 hF rfl rfl rfl rfl rfl rfl ?_
 refine L.bin hF rfl rfl rfl rfl rfl rfl ?_
 refine L.bin hF rfl rfl rfl rfl rfl rfl ?_
 refine L.nilCheck hF rfl rfl rfl rfl ?_
 refine L.fieldAddr Try.underlying154 rfl info3 rfl hF rfl rfl rfl rfl rfl ?_
 refine L.storePtr shape3 hF rfl rfl rfl rfl rfl rfl rfl (L.nil ?_)
 refine WpC.seq ?_
 refine S.begin mixed (by kernel_rfl) ?_
 refine S.st 0 rfl rfl ((Ca.move).quiet) (fun Q0 k0 => L.move hF rfl rfl rfl (L.nil k0)) ?_
 refine S.st 1 rfl rfl ((Ca.nilCheck rfl rfl).quiet) (fun Q0 k0 => L.nilCheck hF rfl rfl rfl rfl (L.nil k0)) ?_
 refine S.st 2 rfl rfl ((Ca.fieldAddr Try.underlying154 rfl info3 rfl).quiet) (fun Q0 k0 => L.fieldAddr Try.underlying154 rfl info3 rfl hF rfl rfl rfl rfl rfl (L.nil k0)) ?_
 refine S.st 3 rfl rfl (Qu.load) (fun Q0 k0 => L.loadPtr shape3 hF rfl rfl rfl rfl rfl rfl (L.nil k0)) ?_
 refine S.st 4 rfl rfl ((Ca.bin rfl rfl (calm_int _ _ _ _ _ _ _ _)).quiet) (fun Q0 k0 => L.shr hF rfl rfl rfl rfl (by decide) (L.nil k0)) ?_
 refine S.st 5 rfl rfl ((Ca.move).quiet) (fun Q0 k0 => L.move hF rfl rfl rfl (L.nil k0)) ?_
 refine S.st 6 rfl rfl ((Ca.nilCheck rfl rfl).quiet) (fun Q0 k0 => L.nilCheck hF rfl rfl rfl rfl (L.nil k0)) ?_
 refine S.st 7 rfl rfl ((Ca.fieldAddr Try.underlying154 rfl info3 rfl).quiet) (fun Q0 k0 => L.fieldAddr Try.underlying154 rfl info3 rfl hF rfl rfl rfl rfl rfl (L.nil k0)) ?_
 refine S.st 8 rfl rfl (Qu.load) (fun Q0 k0 => L.loadPtr shape3 hF rfl rfl rfl rfl rfl rfl (L.nil k0)) ?_
 refine S.st 9 rfl rfl ((Ca.bin rfl rfl (calm_int _ _ _ _ _ _ _ _)).quiet) (fun Q0 k0 => L.shr hF rfl rfl rfl rfl (by decide) (L.nil k0)) ?_
 refine S.st 10 rfl rfl ((Ca.bin rfl rfl (calm_int _ _ _ _ _ _ _ _)).quiet) (fun Q0 k0 => L.bin hF rfl rfl rfl rfl rfl rfl (L.nil k0)) ?_
 refine S.st 11 rfl rfl ((Ca.bin rfl rfl (calm_int _ _ _ _ _ _ _ _)).quiet) (fun Q0 k0 => L.bin hF rfl rfl rfl rfl rfl rfl (L.nil k0)) ?_
 refine S.st 12 rfl rfl ((Ca.assign).quiet) (fun Q0 k0 => L.assign hF rfl rfl rfl (L.nil k0)) ?_
 refine S.nil ?_
 refine WpC.seq (WpC.seq ?_)
 refine S.begin mixed (by kernel_rfl) ?_
 refine S.st 0 rfl rfl ((Ca.move).quiet) (fun Q0 k0 => L.move hF rfl rfl rfl (L.nil k0)) ?_
 refine S.st 1 rfl rfl ((Ca.nilCheck rfl rfl).quiet) (fun Q0 k0 => L.nilCheck hF rfl rfl rfl rfl (L.nil k0)) ?_
 refine S.st 2 rfl rfl ((Ca.fieldAddr Try.underlying154 rfl info3 rfl).quiet) (fun Q0 k0 => L.fieldAddr Try.underlying154 rfl info3 rfl hF rfl rfl rfl rfl rfl (L.nil k0)) ?_
 refine S.st 3 rfl rfl (Qu.load) (fun Q0 k0 => L.loadPtr shape3 hF rfl rfl rfl rfl rfl rfl (L.nil k0)) ?_
 refine S.st 4 rfl rfl ((Ca.move).quiet) (fun Q0 k0 => L.move hF rfl rfl rfl (L.nil k0)) ?_
 refine S.st 5 rfl rfl ((Ca.nilCheck rfl rfl).quiet) (fun Q0 k0 => L.nilCheck hF rfl rfl rfl rfl (L.nil k0)) ?_
 refine S.st 6 rfl rfl ((Ca.fieldAddr Try.underlying154 rfl info33 rfl).quiet) (fun Q0 k0 => L.fieldAddr Try.underlying154 rfl info33 rfl hF rfl rfl rfl rfl rfl (L.nil k0)) ?_
 refine S.st 7 rfl rfl (Qu.load) (fun Q0 k0 => L.loadPtr shape33 hF rfl rfl rfl rfl rfl rfl (L.nil k0)) ?_
 refine S.st 8 rfl rfl ((Ca.lenR (xs := o0.b) (e := eB) Try.underlying33 rfl rfl).quiet) (fun Q0 k0 => L.lenR (xs := o0.b) (e := eB) Try.underlying33 hF rfl rfl rfl rfl (L.nil k0)) ?_
 refine S.st 9 rfl rfl ((Ca.bin rfl rfl (calm_int _ _ _ _ _ _ _ _)).quiet) (fun Q0 k0 => L.bin hF rfl rfl rfl rfl rfl rfl (L.nil k0)) ?_
 refine S.nil ?_
 refine WpC.cond rfl (fun hc => ?_) (fun hc => ?_)
 ·replace H := condT hc H
  refine WpC.seq ?_
  refine S.begin mixed (by kernel_rfl) ?_
  refine S.st 0 rfl rfl ((Ca.move).quiet) (fun Q0 k0 => L.move hF rfl rfl rfl (L.nil k0)) ?_
  refine S.st 1 rfl rfl ((Ca.move).quiet) (fun Q0 k0 => L.move hF rfl rfl rfl (L.nil k0)) ?_
  refine S.st 2 rfl rfl ((Ca.nilCheck rfl rfl).quiet) (fun Q0 k0 => L.nilCheck hF rfl rfl rfl rfl (L.nil k0)) ?_
  refine S.st 3 rfl rfl ((Ca.fieldAddr Try.underlying154 rfl info33 rfl).quiet) (fun Q0 k0 => L.fieldAddr Try.underlying154 rfl info33 rfl hF rfl rfl rfl rfl rfl (L.nil k0)) ?_
  refine S.st 4 rfl rfl (Qu.load) (fun Q0 k0 => L.loadPtr shape33 hF rfl rfl rfl rfl rfl rfl (L.nil k0)) ?_
  refine S.st 5 rfl rfl ((Ca.move).quiet) (fun Q0 k0 => L.move hF rfl rfl rfl (L.nil k0)) ?_
  refine S.st 6 rfl rfl ((Ca.nilCheck rfl rfl).quiet) (fun Q0 k0 => L.nilCheck hF rfl rfl rfl rfl (L.nil k0)) ?_
  refine S.st 7 rfl rfl ((Ca.fieldAddr Try.underlying154 rfl info3 rfl).quiet) (fun Q0 k0 => L.fieldAddr Try.underlying154 rfl info3 rfl hF rfl rfl rfl rfl rfl (L.nil k0)) ?_
  refine S.st 8 rfl rfl (Qu.load) (fun Q0 k0 => L.loadPtr shape3 hF rfl rfl rfl rfl rfl rfl (L.nil k0)) ?_
  obtain ⟨b2, hb2, H⟩ := bindS H
  refine S.st 9 rfl rfl ((Ca.indexAddr).quiet) (fun Q0 k0 => L.idxR (xs := o0.b) (e := eB) Try.underlying33 info5 hF rfl rfl rfl rfl rfl hb2 rfl rfl (L.nil k0)) ?_
  refine S.st 10 rfl rfl (Qu.load) (fun Q0 k0 => L.loadPe shape5 hF rfl rfl rfl rfl rfl (L.nil k0)) ?_
  refine S.st 11 rfl rfl ((Ca.conv Try.underlying5 Try.underlying3 rfl).quiet) (fun Q0 k0 => L.ofB Try.underlying5 Try.underlying3 hF rfl rfl rfl (L.nil k0)) ?_
  refine S.st 12 rfl rfl ((Ca.bin rfl rfl (calm_int _ _ _ _ _ _ _ _)).quiet) (fun Q0 k0 => L.bin hF rfl rfl rfl rfl rfl rfl (L.nil k0)) ?_
  refine S.st 13 rfl rfl ((Ca.bin rfl rfl (calm_int _ _ _ _ _ _ _ _)).quiet) (fun Q0 k0 => L.bin hF rfl rfl rfl rfl rfl rfl (L.nil k0)) ?_
  refine S.st 14 rfl rfl ((Ca.assign).quiet) (fun Q0 k0 => L.assign hF rfl rfl rfl (L.nil k0)) ?_
  refine S.nil ?_
  refine WpC.regionL ?_
  refine L.move hF rfl rfl rfl ?_
  refine L.move hF rfl rfl rfl ?_
  refine L.nilCheck hF rfl rfl rfl rfl ?_
  refine L.fieldAddr Try.underlying154 rfl info3 rfl hF rfl rfl rfl rfl rfl ?_
  refine L.loadPtr shape3 hF rfl rfl rfl rfl rfl rfl ?_
  refine L.bin hF rfl rfl rfl rfl rfl rfl ?_
  refine L.nilCheck hF rfl rfl rfl rfl ?_
  refine L.fieldAddr Try.underlying154 rfl info3 rfl hF rfl rfl rfl rfl rfl ?_
  refine L.storePtr shape3 hF rfl rfl rfl rfl rfl rfl rfl (L.nil ?_)
  refine WpC.seq (WpC.regionL ?_)
  refine L.move hF rfl rfl rfl ?_
  refine L.assign hF rfl rfl rfl (L.nil ?_)
  refine WpC.ret ?_
  cases H
  exact Leaves.ret rfl rfl rfl ⟨rfl, rfl⟩
 ·replace H := condF hc H
  refine WpC.skip (WpC.seq (WpC.regionL ?_))
  refine L.move hF rfl rfl rfl ?_
  refine L.assign hF rfl rfl rfl (L.nil ?_)
  refine WpC.ret ?_
  cases H
  exact Leaves.ret rfl rfl rfl ⟨rfl, rfl⟩
/-! ### Fspec_l1Below -/
def Fspec_l1Below (k : Nat) (a1 : Int) (o0 : Tspec_l1Cur) : Option (Int × Tspec_l1Cur) := cond (decide (a1 ≤ (0 : Int))) (some ((0 : Int), o0)) (cond (decide (a1 ≤ (256 : Int))) ((Fspec_l1Byte k o0).bind fun r3 => cond (!(a1 == 0)) (some ((Int.tmod r3.1 a1), r3.2)) none) ((Fspec_l1Byte k o0).bind fun r5 => (Fspec_l1Byte k r5.2).bind fun r6 => (Fspec_l1Byte k r6.2).bind fun r7 => (Fspec_l1Byte k r7.2).bind fun r8 => cond (!(a1 == 0)) (some ((Int.tmod (IntKind.i64.wrap ((IntKind.i64.wrap ((IntKind.i64.wrap ((IntKind.i64.wrap (r5.1 * (16777216 : Int))) + (IntKind.i64.wrap (r6.1 * (65536 : Int))))) + (IntKind.i64.wrap (r7.1 * (256 : Int))))) + r8.1)) a1), r8.2)) none))
theorem ent70 : MG.Enters Try.prog 70 := ⟨Try.f70, Try.func70, rfl, by decide⟩
set_option maxHeartbeats 8000000 in
set_option maxRecDepth 100000 in
theorem Fspec_l1Below_gives (k : Nat) (a1 : Int) (o0 : Tspec_l1Cur) (r : Int × Tspec_l1Cur) (H : Fspec_l1Below k a1 o0 = some r) : Gives Try.prog 70 [V.one (Cell.ptr 0 0), V.one (cI a1)] [[Cell.sl true (List.map eB o0.b), cI o0.i, cI o0.h]] [V.one (cI r.1)] [[Cell.sl true (List.map eB r.2.b), cI r.2.i, cI r.2.h]] := by
 refine Gives.intro Try.func70 rfl rfl rfl rfl ?_
 intro F hF hm
 unfold Fspec_l1Below at H
 obtain ⟨K, hK⟩ : ∃ K, k ≤ K := ⟨k, Nat.le_refl k⟩
 refine WpC.seq (WpC.regionL ?_)
 refine L.assign hF rfl rfl rfl (L.nil ?_)
 refine WpC.seq (WpC.seq (WpC.regionL ?_))
 refine L.move hF rfl rfl rfl ?_
 refine L.bin hF rfl rfl rfl rfl rfl rfl (L.nil ?_)
 refine WpC.cond rfl (fun hc => ?_) (fun hc => ?_)
 ·replace H := condT hc H
  refine WpC.seq (WpC.regionL ?_)
  refine L.assign hF rfl rfl rfl (L.nil ?_)
  refine WpC.ret ?_
  cases H
  exact Leaves.ret rfl rfl rfl ⟨rfl, rfl⟩
 ·replace H := condF hc H
  refine WpC.skip (WpC.seq (WpC.seq (WpC.regionL ?_)))
  refine L.move hF rfl rfl rfl ?_
  refine L.bin hF rfl rfl rfl rfl rfl rfl (L.nil ?_)
  refine WpC.cond rfl (fun hc => ?_) (fun hc => ?_)
  ·replace H := condT hc H
   refine WpC.seq (WpC.regionL ?_)
   refine L.move hF rfl rfl rfl ?_
   obtain ⟨r3, hr3, H⟩ := bindS H
   refine L.call [false] [] [0] 6 hF rfl rfl rfl ent128 rfl rfl rfl rfl rfl (Fspec_l1Byte_gives k  o0 r3 hr3) rfl ?_
   refine L.move hF rfl rfl rfl ?_
   obtain ⟨h4, H⟩ := condG H
   refine L.rem hF rfl rfl rfl rfl (by simpa using h4) ?_
   refine L.assign hF rfl rfl rfl (L.nil ?_)
   refine WpC.ret ?_
   cases H
   exact Leaves.ret rfl rfl rfl ⟨rfl, rfl⟩
  ·replace H := condF hc H
   refine WpC.skip (WpC.seq (WpC.regionL ?_))
   refine L.move hF rfl rfl rfl ?_
   obtain ⟨r5, hr5, H⟩ := bindS H
   refine L.call [false] [] [0] 6 hF rfl rfl rfl ent128 rfl rfl rfl rfl rfl (Fspec_l1Byte_gives k  o0 r5 hr5) rfl ?_
   refine L.assign hF rfl rfl rfl (L.nil ?_)
   refine WpC.seq (WpC.regionL ?_)
   refine L.move hF rfl rfl rfl ?_
   obtain ⟨r6, hr6, H⟩ := bindS H
   refine L.call [false] [] [0] 10 hF rfl rfl rfl ent128 rfl rfl rfl rfl rfl (Fspec_l1Byte_gives k  r5.2 r6 hr6) rfl ?_
   refine L.assign hF rfl rfl rfl (L.nil ?_)
   refine WpC.seq (WpC.regionL ?_)
   refine L.move hF rfl rfl rfl ?_
   obtain ⟨r7, hr7, H⟩ := bindS H
   refine L.call [false] [] [0] 14 hF rfl rfl rfl ent128 rfl rfl rfl rfl rfl (Fspec_l1Byte_gives k  r6.2 r7 hr7) rfl ?_
   refine L.assign hF rfl rfl rfl (L.nil ?_)
   refine WpC.seq (WpC.regionL ?_)
   refine L.move hF rfl rfl rfl ?_
   obtain ⟨r8, hr8, H⟩ := bindS H
   refine L.call [false] [] [0] 18 hF rfl rfl rfl ent128 rfl rfl rfl rfl rfl (Fspec_l1Byte_gives k  r7.2 r8 hr8) rfl ?_
   refine L.assign hF rfl rfl rfl (L.nil ?_)
   refine WpC.seq (WpC.regionL ?_)
   refine L.move hF rfl rfl rfl ?_
   refine L.bin hF rfl rfl rfl rfl rfl rfl ?_
   refine L.move hF rfl rfl rfl ?_
   refine L.bin hF rfl rfl rfl rfl rfl rfl ?_
   refine L.bin hF rfl rfl rfl rfl rfl rfl ?_
   refine L.move hF rfl rfl rfl ?_
   refine L.bin hF rfl rfl rfl rfl rfl rfl ?_
   refine L.bin hF rfl rfl rfl rfl rfl rfl ?_
   refine L.move hF rfl rfl rfl ?_
   refine L.bin hF rfl rfl rfl rfl rfl rfl ?_
   refine L.move hF rfl rfl rfl ?_
   obtain ⟨h9, H⟩ := condG H
   refine L.rem hF rfl rfl rfl rfl (by simpa using h9) ?_
   refine L.assign hF rfl rfl rfl (L.nil ?_)
   refine WpC.ret ?_
   cases H
   exact Leaves.ret rfl rfl rfl ⟨rfl, rfl⟩
/-! ### Fspec_l1PickInt -/
def Fspec_l1PickInt (k : Nat) (a1 : List Int) (o0 : Tspec_l1Cur) : Option (Int × Tspec_l1Cur) := (Fspec_l1Below k (a1.length : Int) o0).bind fun r1 => (at? a1 r1.1).bind fun b2 => some (b2, r1.2)
theorem ent71 : MG.Enters Try.prog 71 := ⟨Try.f71, Try.func71, rfl, by decide⟩
set_option maxHeartbeats 8000000 in
set_option maxRecDepth 100000 in
theorem Fspec_l1PickInt_gives (k : Nat) (g0 : Bool) (a1 : List Int) (o0 : Tspec_l1Cur) (r : Int × Tspec_l1Cur) (H : Fspec_l1PickInt k a1 o0 = some r) : Gives Try.prog 71 [V.one (Cell.ptr 0 0), V.one (Cell.sl g0 (List.map eI a1))] [[Cell.sl true (List.map eB o0.b), cI o0.i, cI o0.h]] [V.one (cI r.1)] [[Cell.sl true (List.map eB r.2.b), cI r.2.i, cI r.2.h]] := by
 refine Gives.intro Try.func71 rfl rfl rfl rfl ?_
 intro F hF hm
 unfold Fspec_l1PickInt at H
 obtain ⟨K, hK⟩ : ∃ K, k ≤ K := ⟨k, Nat.le_refl k⟩
 refine WpC.seq (WpC.regionL ?_)
 refine L.assign hF rfl rfl rfl (L.nil ?_)
 refine WpC.seq (WpC.regionL ?_)
 refine L.move hF rfl rfl rfl ?_
 refine L.move hF rfl rfl rfl ?_
 refine L.move hF rfl rfl rfl ?_
 refine L.lenR (xs := a1) (e := eI) Try.underlying39 hF rfl rfl rfl rfl ?_
 obtain ⟨r1, hr1, H⟩ := bindS H
 refine L.call [false, false] [] [0] 6 hF rfl rfl rfl ent70 rfl rfl rfl rfl rfl (Fspec_l1Below_gives k  (a1.length : Int) o0 r1 hr1) rfl ?_
 obtain ⟨b2, hb2, H⟩ := bindS H
 refine L.idxR (xs := a1) (e := eI) Try.underlying39 info3 hF rfl rfl rfl rfl rfl hb2 rfl rfl ?_
 refine L.loadPe shape3 hF rfl rfl rfl rfl rfl ?_
 refine L.assign hF rfl rfl rfl (L.nil ?_)
 refine WpC.ret ?_
 cases H
 exact Leaves.ret rfl rfl rfl ⟨rfl, rfl⟩
/-! ### Fspec_l1Once -/
def Fspec_l1Once (k : Nat) (a1 : Int) (o0 : Tspec_l1Cur) : Option (Bool × Tspec_l1Cur) := (Fspec_l1Below k a1 o0).bind fun r1 => some ((r1.1 == (0 : Int)), r1.2)
theorem ent65 : MG.Enters Try.prog 65 := ⟨Try.f65, Try.func65, rfl, by decide⟩
set_option maxHeartbeats 8000000 in
set_option maxRecDepth 100000 in
theorem Fspec_l1Once_gives (k : Nat) (a1 : Int) (o0 : Tspec_l1Cur) (r : Bool × Tspec_l1Cur) (H : Fspec_l1Once k a1 o0 = some r) : Gives Try.prog 65 [V.one (Cell.ptr 0 0), V.one (cI a1)] [[Cell.sl true (List.map eB o0.b), cI o0.i, cI o0.h]] [V.one (cL r.1)] [[Cell.sl true (List.map eB r.2.b), cI r.2.i, cI r.2.h]] := by
 refine Gives.intro Try.func65 rfl rfl rfl rfl ?_
 intro F hF hm
 unfold Fspec_l1Once at H
 obtain ⟨K, hK⟩ : ∃ K, k ≤ K := ⟨k, Nat.le_refl k⟩
 refine WpC.seq (WpC.regionL ?_)
 refine L.assign hF rfl rfl rfl (L.nil ?_)
 refine WpC.seq (WpC.regionL ?_)
 refine L.move hF rfl rfl rfl ?_
 refine L.move hF rfl rfl rfl ?_
 obtain ⟨r1, hr1, H⟩ := bindS H
 refine L.call [false, false] [] [0] 6 hF rfl rfl rfl ent70 rfl rfl rfl rfl rfl (Fspec_l1Below_gives k  a1 o0 r1 hr1) rfl ?_
 refine L.bin hF rfl rfl rfl rfl rfl rfl ?_
 refine L.assign hF rfl rfl rfl (L.nil ?_)
 refine WpC.ret ?_
 cases H
 exact Leaves.ret rfl rfl rfl ⟨rfl, rfl⟩
/-! ### Fspec_l1Text -/
def Fspec_l1Text.j26 (cl22 : (List UInt8) → Int → Int → (List UInt8) → Int → Int → Option (List UInt8 × Tspec_l1Cur)) (k : Nat) (v214 : List UInt8) (v215 : Int) (v216 : Int) (v217 : Int) (v218 : List UInt8) (v219 : Int) (v220 : Int) : Option (List UInt8 × Tspec_l1Cur) := cond (decide ((2 * (v214.length + ([(ofI v217)] : List UInt8).length) + 192) * 1 ≤ 281474976710656)) (cl22 (v214 ++ ([(ofI v217)] : List UInt8)) v215 (IntKind.i64.wrap (v216 - (1 : Int))) v218 v219 v220) none
def Fspec_l1Text.j25 (cl22 : (List UInt8) → Int → Int → (List UInt8) → Int → Int → Option (List UInt8 × Tspec_l1Cur)) (k : Nat) (v207 : List UInt8) (v208 : Int) (v209 : Int) (v210 : Int) (v211 : List UInt8) (v212 : Int) (v213 : Int) : Option (List UInt8 × Tspec_l1Cur) := cond (v208 == (2 : Int)) (Fspec_l1Text.j26 cl22 k v207 v208 v209 (IntKind.i64.wrap ((97 : Int) + (Int.tmod v210 (4 : Int)))) v211 v212 v213) (Fspec_l1Text.j26 cl22 k v207 v208 v209 v210 v211 v212 v213)
def Fspec_l1Text.l22 : Nat → (List UInt8) → Int → Int → (List UInt8) → Int → Int → Option (List UInt8 × Tspec_l1Cur)
 | 0, _, _, _, _, _, _ => none
 | k22 + 1, v184, v185, v186, v187, v188, v189 => cond (decide (v186 > (0 : Int))) ((Fspec_l1Byte k22 (⟨v187, v188, v189⟩ : Tspec_l1Cur)).bind fun r206 => cond (v185 == (1 : Int)) (Fspec_l1Text.j25 (Fspec_l1Text.l22 k22) k22 v184 v185 v186 (Int.tmod r206.1 (2 : Int)) r206.2.b r206.2.i r206.2.h) (Fspec_l1Text.j25 (Fspec_l1Text.l22 k22) k22 v184 v185 v186 r206.1 r206.2.b r206.2.i r206.2.h)) (some (v184, (⟨v187, v188, v189⟩ : Tspec_l1Cur)))
def Fspec_l1Text (k : Nat) (a1 : Int) (o0 : Tspec_l1Cur) : Option (List UInt8 × Tspec_l1Cur) := (Fspec_l1Below k (4 : Int) o0).bind fun r1 => (Fspec_l1Below k (IntKind.i64.wrap (a1 + (1 : Int))) r1.2).bind fun r112 => Fspec_l1Text.l22 k ([] : List UInt8) r1.1 r112.1 r112.2.b r112.2.i r112.2.h
theorem ent81 : MG.Enters Try.prog 81 := ⟨Try.f81, Try.func81, rfl, by decide⟩
set_option maxHeartbeats 8000000 in
set_option maxRecDepth 100000 in
theorem Fspec_l1Text_gives (k : Nat) (a1 : Int) (o0 : Tspec_l1Cur) (r : List UInt8 × Tspec_l1Cur) (H : Fspec_l1Text k a1 o0 = some r) : Gives Try.prog 81 [V.one (Cell.ptr 0 0), V.one (cI a1)] [[Cell.sl true (List.map eB o0.b), cI o0.i, cI o0.h]] [V.one (cS r.1)] [[Cell.sl true (List.map eB r.2.b), cI r.2.i, cI r.2.h]] := by
 refine Gives.intro Try.func81 rfl rfl rfl rfl ?_
 intro F hF hm
 unfold Fspec_l1Text at H
 obtain ⟨K, hK⟩ : ∃ K, k ≤ K := ⟨k, Nat.le_refl k⟩
 refine WpC.seq (WpC.regionL ?_)
 refine L.assign hF rfl rfl rfl (L.nil ?_)
 refine WpC.seq (WpC.regionL ?_)
 refine L.buildSlice (e := eB) 6 ([] : List UInt8) Try.underlying33 info5 rfl rfl rfl hF rfl rfl rfl rfl rfl rfl rfl rfl ?_
 refine L.assign hF rfl rfl rfl (L.nil ?_)
 refine WpC.seq (WpC.regionL ?_)
 refine L.move hF rfl rfl rfl ?_
 obtain ⟨r1, hr1, H⟩ := bindS H
 refine L.call [false, false] [] [0] 7 hF rfl rfl rfl ent70 rfl rfl rfl rfl rfl (Fspec_l1Below_gives k  (4 : Int) o0 r1 hr1) rfl ?_
 refine L.assign hF rfl rfl rfl (L.nil ?_)
 refine WpC.seq (WpC.seq (WpC.regionL ?_))
 refine L.move hF rfl rfl rfl ?_
 refine L.move hF rfl rfl rfl ?_
 refine L.bin hF rfl rfl rfl rfl rfl rfl ?_
 obtain ⟨r112, hr112, H⟩ := bindS H
 refine L.call [false, false] [] [0] 11 hF rfl rfl rfl ent70 rfl rfl rfl rfl rfl (Fspec_l1Below_gives k  (IntKind.i64.wrap (a1 + (1 : Int))) r1.2 r112 hr112) rfl ?_
 refine L.assign hF rfl rfl rfl (L.nil ?_)
 refine WpC.block ?_
 refine WpC.loopL (P := Try.prog) (fun n σ => ∃ v184 : List UInt8, ∃ v185 : Int, ∃ v186 : Int, ∃ v187 : List UInt8, ∃ v188 : Int, ∃ v189 : Int, n ≤ K ∧ Fspec_l1Text.l22 n v184 v185 v186 v187 v188 v189 = some r ∧ σ = mkSt [(0, one (Cell.ptr 0 0)), (5, one (Cell.own 1)), (6, one (cI v185)), (7, one (cI v186))] [(1, ⟨1, List.map eB v184⟩)] [(0, [Cell.sl true (List.map eB v187), cI v188, cI v189])] 2) k ⟨_, ⟨([] : List UInt8), r1.1, r112.1, r112.2.b, r112.2.i, r112.2.h, by omega, H, rfl⟩, Le.mk [(0, 0), (1, 6)] hm rfl (Sa4 trivial) (Ra1 trivial) (Ba1 trivial)⟩ ?_
 clear H
 rintro k22 _ ⟨v184, v185, v186, v187, v188, v189, hk22, H, rfl⟩
 cases k22 with
 | zero => cases H
 | succ k22 =>
  rw [Fspec_l1Text.l22] at H
  refine WpC.seq (WpC.seq (WpC.regionL ?_))
  refine L.move hF rfl rfl rfl ?_
  refine L.bin hF rfl rfl rfl rfl rfl rfl (L.nil ?_)
  refine WpC.cond rfl (fun hc => ?_) (fun hc => ?_)
  ·replace H := condT hc H
   refine WpC.skip (WpC.seq (WpC.block (WpC.seq (WpC.regionL ?_))))
   refine L.move hF rfl rfl rfl ?_
   obtain ⟨r206, hr206, H⟩ := bindS H
   refine L.call [false] [] [0] 2 hF rfl rfl rfl ent128 rfl rfl rfl rfl rfl (Fspec_l1Byte_gives k22  (⟨v187, v188, v189⟩ : Tspec_l1Cur) r206 hr206) rfl ?_
   refine L.assign hF rfl rfl rfl (L.nil ?_)
   refine WpC.join (fun σ => ∃ kj25 : Nat, ∃ v207 : List UInt8, ∃ v208 : Int, ∃ v209 : Int, ∃ v210 : Int, ∃ v211 : List UInt8, ∃ v212 : Int, ∃ v213 : Int, kj25 ≤ K ∧ Fspec_l1Text.j25 (Fspec_l1Text.l22 k22) kj25 v207 v208 v209 v210 v211 v212 v213 = some r ∧ σ = mkSt [(0, one (Cell.ptr 0 0)), (5, one (Cell.own 1)), (6, one (cI v208)), (7, one (cI v209)), (8, one (cI v210))] [(1, ⟨1, List.map eB v207⟩)] [(0, [Cell.sl true (List.map eB v211), cI v212, cI v213])] 2) ?_ ?_
   ·rintro _ ⟨kj25, v207, v208, v209, v210, v211, v212, v213, hkj25, H, rfl⟩
    unfold Fspec_l1Text.j25 at H
    refine WpC.join (fun σ => ∃ kj26 : Nat, ∃ v214 : List UInt8, ∃ v215 : Int, ∃ v216 : Int, ∃ v217 : Int, ∃ v218 : List UInt8, ∃ v219 : Int, ∃ v220 : Int, kj26 ≤ K ∧ Fspec_l1Text.j26 (Fspec_l1Text.l22 k22) kj26 v214 v215 v216 v217 v218 v219 v220 = some r ∧ σ = mkSt [(0, one (Cell.ptr 0 0)), (5, one (Cell.own 1)), (6, one (cI v215)), (7, one (cI v216)), (8, one (cI v217))] [(1, ⟨1, List.map eB v214⟩)] [(0, [Cell.sl true (List.map eB v218), cI v219, cI v220])] 2) ?_ ?_
    ·rintro _ ⟨kj26, v214, v215, v216, v217, v218, v219, v220, hkj26, H, rfl⟩
     unfold Fspec_l1Text.j26 at H
     refine WpC.regionL ?_
     refine L.move hF rfl rfl rfl ?_
     refine L.move hF rfl rfl rfl ?_
     refine L.toB Try.underlying3 Try.underlying5 hF rfl rfl rfl ?_
     refine L.buildSlice (e := eB) 2 ([(ofI v217)] : List UInt8) Try.underlying33 info5 rfl rfl rfl hF rfl rfl rfl rfl rfl rfl rfl rfl ?_
     obtain ⟨h221, H⟩ := condG H
     refine L.append (xs := v214) (ys := ([(ofI v217)] : List UInt8)) (e := eB) 3 Try.underlying33 info5 rfl rfl hF rfl rfl rfl rfl rfl rfl rfl rfl (fun _ => rfl) (fun _ _ h1 h2 => by cases h1; cases h2; rfl) ⟨_, Try.underlying33⟩ (of_decide_eq_true h221) rfl rfl ?_
     refine L.assign hF rfl rfl rfl (L.nil ?_)
     refine WpC.regionL ?_
     refine L.move hF rfl rfl rfl ?_
     refine L.bin hF rfl rfl rfl rfl rfl rfl ?_
     refine L.assign hF rfl rfl rfl (L.nil ?_)
     exact ⟨k22, _, by omega, ⟨(v214 ++ ([(ofI v217)] : List UInt8)), v215, (IntKind.i64.wrap (v216 - (1 : Int))), v218, v219, v220, by omega, H, rfl⟩, Le.mk [(0, 0), (1, 3)] hm rfl (Sa4 trivial) (Ra1 trivial) (Ba1 trivial)⟩
    ·refine WpC.seq (WpC.regionL ?_)
     refine L.move hF rfl rfl rfl ?_
     refine L.bin hF rfl rfl rfl rfl rfl rfl (L.nil ?_)
     refine WpC.cond rfl (fun hc => ?_) (fun hc => ?_)
     ·replace H := condT hc H
      refine WpC.regionL ?_
      refine L.move hF rfl rfl rfl ?_
      refine L.rem hF rfl rfl rfl rfl (by decide) ?_
      refine L.bin hF rfl rfl rfl rfl rfl rfl ?_
      refine L.assign hF rfl rfl rfl (L.nil ?_)
      exact ⟨_, ⟨kj25, v207, v208, v209, (IntKind.i64.wrap ((97 : Int) + (Int.tmod v210 (4 : Int)))), v211, v212, v213, by omega, H, rfl⟩, Le.mk [(0, 0), (1, 1)] hm rfl (Sa4 (Sa1 trivial)) (Ra1 trivial) (Ba1 trivial)⟩
     ·replace H := condF hc H
      refine WpC.skip ?_
      exact ⟨_, ⟨kj25, v207, v208, v209, v210, v211, v212, v213, by omega, H, rfl⟩, Le.mk [(0, 0), (1, 1)] hm rfl (Sa4 (Sa1 trivial)) (Ra1 trivial) (Ba1 trivial)⟩
   ·refine WpC.seq (WpC.regionL ?_)
    refine L.move hF rfl rfl rfl ?_
    refine L.bin hF rfl rfl rfl rfl rfl rfl (L.nil ?_)
    refine WpC.cond rfl (fun hc => ?_) (fun hc => ?_)
    ·replace H := condT hc H
     refine WpC.regionL ?_
     refine L.move hF rfl rfl rfl ?_
     refine L.rem hF rfl rfl rfl rfl (by decide) ?_
     refine L.assign hF rfl rfl rfl (L.nil ?_)
     exact ⟨_, ⟨k22, v184, v185, v186, (Int.tmod r206.1 (2 : Int)), r206.2.b, r206.2.i, r206.2.h, by omega, H, rfl⟩, Le.mk [(0, 0), (1, 1)] hm rfl (Sa4 (Sa1 trivial)) (Ra1 trivial) (Ba1 trivial)⟩
    ·replace H := condF hc H
     refine WpC.skip ?_
     exact ⟨_, ⟨k22, v184, v185, v186, r206.1, r206.2.b, r206.2.i, r206.2.h, by omega, H, rfl⟩, Le.mk [(0, 0), (1, 1)] hm rfl (Sa4 (Sa1 trivial)) (Ra1 trivial) (Ba1 trivial)⟩
  ·replace H := condF hc H
   refine WpC.exit (WpC.seq (WpC.regionL ?_))
   refine L.move hF rfl rfl rfl ?_
   refine L.b2s (xs := v184) Try.underlying33 Try.underlying5 Try.underlying9 hF rfl rfl rfl rfl ?_
   refine L.assign hF rfl rfl rfl (L.nil ?_)
   refine WpC.ret ?_
   cases H
   exact Leaves.ret rfl rfl rfl ⟨rfl, rfl⟩
/-! ### Fspec_l14Put -/
def Fspec_l14Put.l4 (cREC : (List Timpl_Tlv) → Int → Tspec_l1Cur → Option (List Timpl_Tlv × Tspec_l1Cur)) : Nat → (List Timpl_Tlv) → Int → Int → (List UInt8) → Int → Int → Int → (List Int) → Option (List Timpl_Tlv × Tspec_l1Cur)
 | 0, _, _, _, _, _, _, _, _ => none
 | k4 + 1, v83, v84, v85, v86, v87, v88, v89, v90 => cond (decide (v85 > (0 : Int))) ((cREC v83 (IntKind.i64.wrap (v84 - (1 : Int))) (⟨v86, v87, v88⟩ : Tspec_l1Cur)).bind fun r93 => cond (decide ((2 * (v90.length + ([(IntKind.i64.wrap ((r93.1.length : Int) - (1 : Int)))] : List Int).length) + 192) * 8 ≤ 281474976710656)) ((Fspec_l14Put.l4 cREC k4) r93.1 v84 (IntKind.i64.wrap (v85 - (1 : Int))) r93.2.b r93.2.i r93.2.h v89 (v90 ++ ([(IntKind.i64.wrap ((r93.1.length : Int) - (1 : Int)))] : List Int))) none) (cond (decide ((2 * (v83.length + ([(⟨v89, false, ([] : List UInt8), v90⟩ : Timpl_Tlv)] : List Timpl_Tlv).length) + 192) * 56 ≤ 281474976710656)) (some ((v83 ++ ([(⟨v89, false, ([] : List UInt8), v90⟩ : Timpl_Tlv)] : List Timpl_Tlv)), (⟨v86, v87, v88⟩ : Tspec_l1Cur))) none)
def Fspec_l14Put.j2 (cREC : (List Timpl_Tlv) → Int → Tspec_l1Cur → Option (List Timpl_Tlv × Tspec_l1Cur)) (k : Nat) (v14 : List Timpl_Tlv) (v15 : Int) (v16 : Int) (v17 : Bool) (v18 : List UInt8) (v19 : Int) (v20 : Int) : Option (List Timpl_Tlv × Tspec_l1Cur) := cond v17 ((Fspec_l1Text k (5 : Int) (⟨v18, v19, v20⟩ : Tspec_l1Cur)).bind fun r21 => cond (decide ((2 * (v14.length + ([(⟨v16, true, r21.1, []⟩ : Timpl_Tlv)] : List Timpl_Tlv).length) + 192) * 56 ≤ 281474976710656)) (some ((v14 ++ ([(⟨v16, true, r21.1, []⟩ : Timpl_Tlv)] : List Timpl_Tlv)), r21.2)) none) ((Fspec_l1Below k (4 : Int) (⟨v18, v19, v20⟩ : Tspec_l1Cur)).bind fun r59 => Fspec_l14Put.l4 cREC k v14 v15 r59.1 r59.2.b r59.2.i r59.2.h v16 [])
def Fspec_l14Put : Nat → (List Timpl_Tlv) → Int → Tspec_l1Cur → Option (List Timpl_Tlv × Tspec_l1Cur)
 | 0, _, _, _ => none
 | k + 1, a1, a2, o0 => (Fspec_l1PickInt k ([(1 : Int), (2 : Int), (3 : Int), (7 : Int), (100 : Int)] : List Int) o0).bind fun r1 => cond (a2 == (0 : Int)) (Fspec_l14Put.j2 (Fspec_l14Put k) k a1 a2 r1.1 true r1.2.b r1.2.i r1.2.h) ((Fspec_l1Once k (2 : Int) r1.2).bind fun r96 => Fspec_l14Put.j2 (Fspec_l14Put k) k a1 a2 r1.1 r96.1 r96.2.b r96.2.i r96.2.h)
theorem ent130 : MG.Enters Try.prog 130 := ⟨Try.f130, Try.func130, rfl, by decide⟩
set_option maxHeartbeats 8000000 in
set_option maxRecDepth 100000 in
theorem Fspec_l14Put_gives : ∀ (k : Nat) (a1 : List Timpl_Tlv) (a2 : Int) (o0 : Tspec_l1Cur) (r : List Timpl_Tlv × Tspec_l1Cur) (H : Fspec_l14Put k a1 a2 o0 = some r), Gives Try.prog 130 [V.one (Cell.ptr 0 0), V.one (Cell.ow 4 (List.map eTimpl_Tlv a1)), V.one (cI a2)] [[Cell.sl true (List.map eB o0.b), cI o0.i, cI o0.h]] [V.one (Cell.ow 4 (List.map eTimpl_Tlv r.1))] [[Cell.sl true (List.map eB r.2.b), cI r.2.i, cI r.2.h]] := by
 intro k
 induction k with
 | zero => intros; rename_i H; cases H
 | succ k ih =>
  intro a1 a2 o0 r H
  refine Gives.intro Try.func130 rfl rfl rfl rfl ?_
  intro F hF hm
  rw [Fspec_l14Put] at H
  obtain ⟨K, hK⟩ : ∃ K, k ≤ K := ⟨k, Nat.le_refl k⟩
  refine WpC.seq (WpC.regionL ?_)
  refine L.assign hF rfl rfl rfl (L.nil ?_)
  refine WpC.seq (WpC.regionL ?_)
  refine L.move hF rfl rfl rfl ?_
  refine L.buildSlice (e := eI) 7 ([(1 : Int), (2 : Int), (3 : Int), (7 : Int), (100 : Int)] : List Int) Try.underlying39 info3 rfl rfl rfl hF rfl rfl rfl rfl rfl rfl rfl rfl ?_
  obtain ⟨r1, hr1, H⟩ := bindS H
  refine L.call [false, false] [7] [0] 8 hF rfl rfl rfl ent71 rfl rfl rfl rfl rfl (Fspec_l1PickInt_gives k false ([(1 : Int), (2 : Int), (3 : Int), (7 : Int), (100 : Int)] : List Int) o0 r1 hr1) rfl ?_
  refine L.assign hF rfl rfl rfl (L.nil ?_)
  refine WpC.seq ?_
  refine WpC.join (fun σ => ∃ kj2 : Nat, ∃ v14 : List Timpl_Tlv, ∃ v15 : Int, ∃ v16 : Int, ∃ v17 : Bool, ∃ v18 : List UInt8, ∃ v19 : Int, ∃ v20 : Int, kj2 ≤ K ∧ Fspec_l14Put.j2 (Fspec_l14Put k) kj2 v14 v15 v16 v17 v18 v19 v20 = some r ∧ σ = mkSt [(0, one (Cell.ptr 0 0)), (1, one (Cell.own 1)), (2, one (cI v15)), (7, one (cI v16)), (18, one (cL v17))] [(1, ⟨4, List.map eTimpl_Tlv v14⟩)] [(0, [Cell.sl true (List.map eB v18), cI v19, cI v20])] 2) ?_ ?_
  ·rintro _ ⟨kj2, v14, v15, v16, v17, v18, v19, v20, hkj2, H, rfl⟩
   unfold Fspec_l14Put.j2 at H
   refine WpC.cond rfl (fun hc => ?_) (fun hc => ?_)
   ·replace H := condT hc H
    refine WpC.seq (WpC.regionL ?_)
    refine L.move hF rfl rfl rfl ?_
    refine L.move hF rfl rfl rfl ?_
    refine L.move hF rfl rfl rfl ?_
    obtain ⟨r21, hr21, H⟩ := bindS H
    refine L.call [false, false] [] [0] 2 hF rfl rfl rfl ent81 rfl rfl rfl rfl rfl (Fspec_l1Text_gives kj2  (5 : Int) (⟨v18, v19, v20⟩ : Tspec_l1Cur) r21 hr21) rfl ?_
    refine L.buildF built45 hF rfl rfl rfl rfl ?_
    refine L.buildSliceN (e := eTimpl_Tlv) 1 6 ([(⟨v16, true, r21.1, []⟩ : Timpl_Tlv)] : List Timpl_Tlv) Try.underlying22 info45 rfl rfl rfl hF rfl rfl rfl rfl rfl rfl rfl rfl ?_
    obtain ⟨h22, H⟩ := condG H
    refine L.appendN (xs := v14) (ys := ([(⟨v16, true, r21.1, []⟩ : Timpl_Tlv)] : List Timpl_Tlv)) (e := eTimpl_Tlv) 7 Try.underlying22 info45 rfl rfl hF rfl rfl rfl rfl rfl rfl rfl rfl rfl (fun _ _ h1 h2 => by cases h1; cases h2; rfl) Try.underlying22 (of_decide_eq_true h22) rfl rfl ?_
    refine L.assign hF rfl rfl rfl (L.nil ?_)
    refine WpC.ret ?_
    cases H
    exact Leaves.ret rfl rfl rfl ⟨rfl, rfl⟩
   ·replace H := condF hc H
    refine WpC.skip (WpC.seq (WpC.regionL ?_))
    refine L.move hF rfl rfl rfl ?_
    refine L.buildF built45 hF rfl rfl rfl rfl ?_
    refine L.alloc 2 info45 rfl hF rfl rfl rfl rfl ?_
    refine L.storePtr shape45 hF rfl rfl rfl rfl rfl rfl rfl (L.nil ?_)
    refine WpC.seq (WpC.seq (WpC.regionL ?_))
    refine L.move hF rfl rfl rfl ?_
    obtain ⟨r59, hr59, H⟩ := bindS H
    refine L.call [false, false] [] [0] 3 hF rfl rfl rfl ent70 rfl rfl rfl rfl rfl (Fspec_l1Below_gives kj2  (4 : Int) (⟨v18, v19, v20⟩ : Tspec_l1Cur) r59 hr59) rfl ?_
    refine L.assign hF rfl rfl rfl (L.nil ?_)
    refine WpC.block ?_
    refine WpC.loopL (P := Try.prog) (fun n σ => ∃ v83 : List Timpl_Tlv, ∃ v84 : Int, ∃ v85 : Int, ∃ v86 : List UInt8, ∃ v87 : Int, ∃ v88 : Int, ∃ v89 : Int, ∃ v90 : List Int, n ≤ K ∧ Fspec_l14Put.l4 (Fspec_l14Put k) n v83 v84 v85 v86 v87 v88 v89 v90 = some r ∧ σ = mkSt [(0, one (Cell.ptr 0 0)), (1, one (Cell.own 1)), (2, one (cI v84)), (8, one (Cell.ptr 2 0)), (9, one (cI v85))] [(1, ⟨4, List.map eTimpl_Tlv v83⟩), (3, ⟨1, List.map eI v90⟩)] [(0, [Cell.sl true (List.map eB v86), cI v87, cI v88]), (2, [cI v89, cL false, cS ([] : List UInt8), Cell.own 3])] 4) kj2 ⟨_, ⟨v14, v15, r59.1, r59.2.b, r59.2.i, r59.2.h, v16, [], by omega, H, rfl⟩, (Le.ownB 2 3 7 1 rfl rfl rfl).trans (Le.mk [(0, 0), (1, 1), (2, 2), (3, 7)] hm rfl (Sa4 (Sa1 trivial)) (Ra2 trivial) (Ba2 trivial))⟩ ?_
    clear H
    rintro k4 _ ⟨v83, v84, v85, v86, v87, v88, v89, v90, hk4, H, rfl⟩
    cases k4 with
    | zero => cases H
    | succ k4 =>
     rw [Fspec_l14Put.l4] at H
     refine WpC.seq (WpC.seq (WpC.regionL ?_))
     refine L.move hF rfl rfl rfl ?_
     refine L.bin hF rfl rfl rfl rfl rfl rfl (L.nil ?_)
     refine WpC.cond rfl (fun hc => ?_) (fun hc => ?_)
     ·replace H := condT hc H
      refine WpC.skip (WpC.seq (WpC.block (WpC.seq (WpC.regionL ?_))))
      refine L.move hF rfl rfl rfl ?_
      refine L.move hF rfl rfl rfl ?_
      refine L.move hF rfl rfl rfl ?_
      refine L.bin hF rfl rfl rfl rfl rfl rfl ?_
      obtain ⟨r93, hr93, H⟩ := bindS H
      refine L.call [false, true, false] [] [0] 4 hF rfl rfl rfl ent130 rfl rfl rfl rfl rfl (ih  v83 (IntKind.i64.wrap (v84 - (1 : Int))) (⟨v86, v87, v88⟩ : Tspec_l1Cur) r93 hr93) rfl ?_
      refine L.assign hF rfl rfl rfl (L.nil ?_)
      refine WpC.regionL ?_
      refine L.fieldAddr Try.underlying45 rfl info39 rfl hF rfl rfl rfl rfl rfl ?_
      refine L.loadPtr shape39 hF rfl rfl rfl rfl rfl rfl ?_
      refine L.move hF rfl rfl rfl ?_
      refine L.lenR (xs := r93.1) (e := eTimpl_Tlv) Try.underlying22 hF rfl rfl rfl rfl ?_
      refine L.bin hF rfl rfl rfl rfl rfl rfl ?_
      refine L.buildSlice (e := eI) 8 ([(IntKind.i64.wrap ((r93.1.length : Int) - (1 : Int)))] : List Int) Try.underlying39 info3 rfl rfl rfl hF rfl rfl rfl rfl rfl rfl rfl rfl ?_
      obtain ⟨h94, H⟩ := condG H
      refine L.append (xs := v90) (ys := ([(IntKind.i64.wrap ((r93.1.length : Int) - (1 : Int)))] : List Int)) (e := eI) 9 Try.underlying39 info3 rfl rfl hF rfl rfl rfl rfl rfl rfl rfl rfl (fun _ => rfl) (fun _ _ h1 h2 => by cases h1; cases h2; rfl) ⟨_, Try.underlying39⟩ (of_decide_eq_true h94) rfl rfl ?_
      refine L.fieldAddr Try.underlying45 rfl info39 rfl hF rfl rfl rfl rfl rfl ?_
      refine L.storePtr shape39 hF rfl rfl rfl rfl rfl rfl rfl (L.nil ?_)
      refine WpC.regionL ?_
      refine L.move hF rfl rfl rfl ?_
      refine L.bin hF rfl rfl rfl rfl rfl rfl ?_
      refine L.assign hF rfl rfl rfl (L.nil ?_)
      exact ⟨k4, _, by omega, ⟨r93.1, v84, (IntKind.i64.wrap (v85 - (1 : Int))), r93.2.b, r93.2.i, r93.2.h, v89, (v90 ++ ([(IntKind.i64.wrap ((r93.1.length : Int) - (1 : Int)))] : List Int)), by omega, H, rfl⟩, Le.mk [(0, 0), (1, 4), (2, 2), (3, 9)] hm rfl (Sa4 (Sa1 trivial)) (Ra2 trivial) (Ba2 trivial)⟩
     ·replace H := condF hc H
      refine WpC.exit (WpC.seq (WpC.regionL ?_))
      refine L.move hF rfl rfl rfl ?_
      refine L.loadPtr shape45 hF rfl rfl rfl rfl rfl rfl ?_
      refine L.buildSliceN (e := eTimpl_Tlv) 1 4 ([(⟨v89, false, ([] : List UInt8), v90⟩ : Timpl_Tlv)] : List Timpl_Tlv) Try.underlying22 info45 rfl rfl rfl hF rfl rfl rfl rfl rfl rfl rfl rfl ?_
      obtain ⟨h95, H⟩ := condG H
      refine L.appendN (xs := v83) (ys := ([(⟨v89, false, ([] : List UInt8), v90⟩ : Timpl_Tlv)] : List Timpl_Tlv)) (e := eTimpl_Tlv) 5 Try.underlying22 info45 rfl rfl hF rfl rfl rfl rfl rfl rfl rfl rfl rfl (fun _ _ h1 h2 => by cases h1; cases h2; rfl) Try.underlying22 (of_decide_eq_true h95) rfl rfl ?_
      refine L.assign hF rfl rfl rfl (L.nil ?_)
      refine WpC.ret ?_
      cases H
      exact Leaves.ret rfl rfl rfl ⟨rfl, rfl⟩
  ·refine WpC.regionL ?_
   refine L.move hF rfl rfl rfl ?_
   refine L.bin hF rfl rfl rfl rfl rfl rfl ?_
   refine L.move hF rfl rfl rfl ?_
   refine L.split (fun hc => ?_) (fun hc => ?_)
   ·replace H := condT hc H
    refine L.off hF rfl rfl ?_
    refine L.off hF rfl rfl ?_
    refine L.pick hF rfl rfl rfl rfl (L.nil ?_)
    exact ⟨_, ⟨k, a1, a2, r1.1, true, r1.2.b, r1.2.i, r1.2.h, by omega, H, rfl⟩, Le.mk [(0, 0), (1, 2)] hm rfl (Sa4 (Sa1 trivial)) (Ra1 trivial) (Ba1 trivial)⟩
   ·replace H := condF hc H
    refine L.move hF rfl rfl rfl ?_
    obtain ⟨r96, hr96, H⟩ := bindS H
    refine L.call [false, false] [] [0] 12 hF rfl rfl rfl ent65 rfl rfl rfl rfl rfl (Fspec_l1Once_gives k  (2 : Int) r1.2 r96 hr96) rfl ?_
    refine L.pick hF rfl rfl rfl rfl (L.nil ?_)
    exact ⟨_, ⟨k, a1, a2, r1.1, r96.1, r96.2.b, r96.2.i, r96.2.h, by omega, H, rfl⟩, Le.mk [(0, 0), (1, 2)] hm rfl (Sa4 (Sa1 trivial)) (Ra1 trivial) (Ba1 trivial)⟩
/-! ### Fspec_l14Some -/
def Fspec_l14Some.l4 : Nat → (List Timpl_Tlv) → Int → (List UInt8) → Int → (List UInt8) → Int → Int → Option (List Timpl_Tlv × Tspec_l1Cur)
 | 0, _, _, _, _, _, _, _ => none
 | k4 + 1, v115, v116, v117, v118, v119, v120, v121 => cond (decide ((v117.length : Int) < v118)) (cond (decide ((2 * (v117.length + ([(65 : UInt8)] : List UInt8).length) + 192) * 1 ≤ 281474976710656)) ((Fspec_l14Some.l4 k4) v115 v116 (v117 ++ ([(65 : UInt8)] : List UInt8)) v118 v119 v120 v121) none) ((at? v115 v116).bind fun b123 => some ((v115.set v116.toNat (⟨b123.Tag, b123.Leaf, v117, b123.Kids⟩ : Timpl_Tlv)), (⟨v119, v120, v121⟩ : Tspec_l1Cur)))
def Fspec_l14Some (k : Nat) (o0 : Tspec_l1Cur) : Option (List Timpl_Tlv × Tspec_l1Cur) := (Fspec_l14Put k ([] : List Timpl_Tlv) (4 : Int) o0).bind fun r1 => (Fspec_l1Once k (6 : Int) r1.2).bind fun r63 => cond r63.1 ((Fspec_l1Below k (r1.1.length : Int) r63.2).bind fun r64 => (Fspec_l1Below k (5 : Int) r64.2).bind fun r65 => cond (r65.1 == (0 : Int)) ((Fspec_l1PickInt k ([(0 : Int), (101 : Int), (128 : Int), (-1 : Int)] : List Int) r65.2).bind fun r66 => (at? r1.1 r64.1).bind fun b67 => some ((r1.1.set r64.1.toNat (⟨r66.1, b67.Leaf, b67.Data, b67.Kids⟩ : Timpl_Tlv)), r66.2)) (cond (r65.1 == (1 : Int)) ((at? r1.1 r64.1).bind fun b68 => (at? r1.1 r64.1).bind fun b69 => some ((r1.1.set r64.1.toNat (⟨b69.Tag, (!b68.Leaf), b69.Data, b69.Kids⟩ : Timpl_Tlv)), r65.2)) (cond (r65.1 == (2 : Int)) ((at? r1.1 r64.1).bind fun b70 => (Fspec_l1Below k (r1.1.length : Int) r65.2).bind fun r71 => cond (decide ((2 * (b70.Kids.length + ([r71.1] : List Int).length) + 192) * 8 ≤ 281474976710656)) ((at? r1.1 r64.1).bind fun b73 => some ((r1.1.set r64.1.toNat (⟨b70.Tag, b70.Leaf, b70.Data, (b70.Kids ++ ([r71.1] : List Int))⟩ : Timpl_Tlv)), r71.2)) none) (cond (r65.1 == (3 : Int)) (cond (decide ((2 * (r1.1.length + ([(⟨(1 : Int), true, ([] : List UInt8), []⟩ : Timpl_Tlv)] : List Timpl_Tlv).length) + 192) * 56 ≤ 281474976710656)) (some ((r1.1 ++ ([(⟨(1 : Int), true, ([] : List UInt8), []⟩ : Timpl_Tlv)] : List Timpl_Tlv)), r65.2)) none) ((Fspec_l1Below k (40 : Int) r65.2).bind fun r99 => Fspec_l14Some.l4 k r1.1 r64.1 ([] : List UInt8) (IntKind.i64.wrap ((880 : Int) + r99.1)) r99.2.b r99.2.i r99.2.h))))) (some (r1.1, r63.2))
theorem ent69 : MG.Enters Try.prog 69 := ⟨Try.f69, Try.func69, rfl, by decide⟩
set_option maxHeartbeats 8000000 in
set_option maxRecDepth 100000 in
theorem Fspec_l14Some_gives (k : Nat) (o0 : Tspec_l1Cur) (r : List Timpl_Tlv × Tspec_l1Cur) (H : Fspec_l14Some k o0 = some r) : Gives Try.prog 69 [V.one (Cell.ptr 0 0)] [[Cell.sl true (List.map eB o0.b), cI o0.i, cI o0.h]] [V.one (Cell.ow 4 (List.map eTimpl_Tlv r.1))] [[Cell.sl true (List.map eB r.2.b), cI r.2.i, cI r.2.h]] := by
 refine Gives.intro Try.func69 rfl rfl rfl rfl ?_
 intro F hF hm
 unfold Fspec_l14Some at H
 obtain ⟨K, hK⟩ : ∃ K, k ≤ K := ⟨k, Nat.le_refl k⟩
 refine WpC.seq (WpC.regionL ?_)
 refine L.assign hF rfl rfl rfl (L.nil ?_)
 refine WpC.seq (WpC.regionL ?_)
 refine L.move hF rfl rfl rfl ?_
 refine L.buildSliceN (e := eTimpl_Tlv) 1 5 ([] : List Timpl_Tlv) Try.underlying22 info45 rfl rfl rfl hF rfl rfl rfl rfl rfl rfl rfl rfl ?_
 obtain ⟨r1, hr1, H⟩ := bindS H
 refine L.call [false, true, false] [] [0] 6 hF rfl rfl rfl ent130 rfl rfl rfl rfl rfl (Fspec_l14Put_gives k  ([] : List Timpl_Tlv) (4 : Int) o0 r1 hr1) rfl ?_
 refine L.assign hF rfl rfl rfl (L.nil ?_)
 refine WpC.seq (WpC.seq (WpC.regionL ?_))
 refine L.move hF rfl rfl rfl ?_
 obtain ⟨r63, hr63, H⟩ := bindS H
 refine L.call [false, false] [] [0] 10 hF rfl rfl rfl ent65 rfl rfl rfl rfl rfl (Fspec_l1Once_gives k  (6 : Int) r1.2 r63 hr63) rfl (L.nil ?_)
 refine WpC.cond rfl (fun hc => ?_) (fun hc => ?_)
 ·replace H := condT hc H
  refine WpC.seq (WpC.regionL ?_)
  refine L.move hF rfl rfl rfl ?_
  refine L.move hF rfl rfl rfl ?_
  refine L.lenR (xs := r1.1) (e := eTimpl_Tlv) Try.underlying22 hF rfl rfl rfl rfl ?_
  obtain ⟨r64, hr64, H⟩ := bindS H
  refine L.call [false, false] [] [0] 14 hF rfl rfl rfl ent70 rfl rfl rfl rfl rfl (Fspec_l1Below_gives k  (r1.1.length : Int) r63.2 r64 hr64) rfl ?_
  refine L.assign hF rfl rfl rfl (L.nil ?_)
  refine WpC.seq (WpC.regionL ?_)
  refine L.move hF rfl rfl rfl ?_
  obtain ⟨r65, hr65, H⟩ := bindS H
  refine L.call [false, false] [] [0] 18 hF rfl rfl rfl ent70 rfl rfl rfl rfl rfl (Fspec_l1Below_gives k  (5 : Int) r64.2 r65 hr65) rfl (L.nil ?_)
  refine WpC.block (WpC.seq (WpC.regionL ?_))
  refine L.bin hF rfl rfl rfl rfl rfl rfl ?_
  refine L.assign hF rfl rfl rfl (L.nil ?_)
  refine WpC.cond rfl (fun hc => ?_) (fun hc => ?_)
  ·replace H := condT hc H
   refine WpC.regionL ?_
   refine L.move hF rfl rfl rfl ?_
   refine L.move hF rfl rfl rfl ?_
   refine L.move hF rfl rfl rfl ?_
   refine L.buildSlice (e := eI) 22 ([(0 : Int), (101 : Int), (128 : Int), (-1 : Int)] : List Int) Try.underlying39 info3 rfl rfl rfl hF rfl rfl rfl rfl rfl rfl rfl rfl ?_
   obtain ⟨r66, hr66, H⟩ := bindS H
   refine L.call [false, false] [22] [0] 23 hF rfl rfl rfl ent71 rfl rfl rfl rfl rfl (Fspec_l1PickInt_gives k false ([(0 : Int), (101 : Int), (128 : Int), (-1 : Int)] : List Int) r65.2 r66 hr66) rfl ?_
   obtain ⟨b67, hb67, H⟩ := bindS H
   refine L.idxR (xs := r1.1) (e := eTimpl_Tlv) Try.underlying22 info45 hF rfl rfl rfl rfl rfl hb67 rfl rfl ?_
   refine L.fieldAddr Try.underlying45 rfl info3 rfl hF rfl rfl rfl rfl rfl ?_
   refine L.storeEp (xs := r1.1) (e := eTimpl_Tlv) (a' := (⟨r66.1, b67.Leaf, b67.Data, b67.Kids⟩ : Timpl_Tlv)) shape3 hF rfl rfl rfl rfl rfl rfl rfl (at?_get hb67).2 rfl rfl ?_
   refine L.nil ?_
   refine WpC.seq (WpC.regionL ?_)
   refine L.move hF rfl rfl rfl ?_
   refine L.assign hF rfl rfl rfl (L.nil ?_)
   refine WpC.ret ?_
   cases H
   exact Leaves.ret rfl rfl rfl ⟨rfl, rfl⟩
  ·replace H := condF hc H
   refine WpC.seq (WpC.regionL ?_)
   refine L.bin hF rfl rfl rfl rfl rfl rfl ?_
   refine L.assign hF rfl rfl rfl (L.nil ?_)
   refine WpC.cond rfl (fun hc => ?_) (fun hc => ?_)
   ·replace H := condT hc H
    refine WpC.regionL ?_
    refine L.move hF rfl rfl rfl ?_
    refine L.move hF rfl rfl rfl ?_
    refine L.move hF rfl rfl rfl ?_
    refine L.move hF rfl rfl rfl ?_
    obtain ⟨b68, hb68, H⟩ := bindS H
    refine L.idxR (xs := r1.1) (e := eTimpl_Tlv) Try.underlying22 info45 hF rfl rfl rfl rfl rfl hb68 rfl rfl ?_
    refine L.fieldAddr Try.underlying45 rfl info4 rfl hF rfl rfl rfl rfl rfl ?_
    refine L.loadEp (xs := r1.1) (e := eTimpl_Tlv) shape4 hF rfl rfl rfl rfl (at?_get hb68).2 rfl rfl ?_
    refine L.not hF rfl rfl rfl ?_
    obtain ⟨b69, hb69, H⟩ := bindS H
    refine L.idxR (xs := r1.1) (e := eTimpl_Tlv) Try.underlying22 info45 hF rfl rfl rfl rfl rfl hb69 rfl rfl ?_
    refine L.fieldAddr Try.underlying45 rfl info4 rfl hF rfl rfl rfl rfl rfl ?_
    refine L.storeEp (xs := r1.1) (e := eTimpl_Tlv) (a' := (⟨b69.Tag, (!b68.Leaf), b69.Data, b69.Kids⟩ : Timpl_Tlv)) shape4 hF rfl rfl rfl rfl rfl rfl rfl (at?_get hb69).2 rfl rfl ?_
    refine L.nil ?_
    refine WpC.seq (WpC.regionL ?_)
    refine L.move hF rfl rfl rfl ?_
    refine L.assign hF rfl rfl rfl (L.nil ?_)
    refine WpC.ret ?_
    cases H
    exact Leaves.ret rfl rfl rfl ⟨rfl, rfl⟩
   ·replace H := condF hc H
    refine WpC.seq (WpC.regionL ?_)
    refine L.bin hF rfl rfl rfl rfl rfl rfl ?_
    refine L.assign hF rfl rfl rfl (L.nil ?_)
    refine WpC.cond rfl (fun hc => ?_) (fun hc => ?_)
    ·replace H := condT hc H
     obtain ⟨b70, hb70, H⟩ := bindS H
     obtain ⟨r71, hr71, H⟩ := bindS H
     obtain ⟨h72, H⟩ := condG H
     obtain ⟨b73, hb73, H⟩ := bindS H
     refine WpC.out (xs := r1.1) (e := eTimpl_Tlv) (a := b70) 6 r64.1.toNat 3 22 rfl (at?_get hb70).2 rfl rfl (fun ub70 => ?_)
     refine A.begin mixed rfl rfl ?_
     intro W hI hO
     have n4095 : W 4 #[true, true, true, true, true, true, true, true, true, true, true, true, false, false, false, false] (mkStH [(3, one (Cell.own 1)), (58, one (Cell.own 1)), (59, one (cI r64.1)), (64, one (Cell.own 2)), (69, one (Cell.own 3))] [(1, ⟨4, (List.map eTimpl_Tlv r1.1).set r64.1.toNat ((eTimpl_Tlv b70).set 3 (Cell.raw ub70))⟩), (2, ⟨1, List.map eI b70.Kids⟩), (3, ⟨1, List.map eI ([r71.1] : List Int)⟩)] [(0, (bTspec_l1Cur true r71.2))] 4 [(2, ub70)]) := by
      refine hI _ _ _ ?_
      refine A.all [12] (by kernel_rfl) rfl ⟨⟨_, rfl, ?_⟩, trivial⟩
      refine L.append (xs := b70.Kids) (ys := ([r71.1] : List Int)) (e := eI) 4 Try.underlying39 info3 rfl rfl hF rfl rfl rfl rfl rfl rfl rfl rfl (fun _ => rfl) (fun _ _ h1 h2 => by cases h1; cases h2; rfl) ⟨_, Try.underlying39⟩ (of_decide_eq_true h72) rfl rfl (L.nil ?_)
      refine Atk 13 rfl (Ca.indexAddr) (fun Q0 k0 => L.idxRH (xs := r1.1) (e := eTimpl_Tlv) Try.underlying22 info45 hF rfl rfl rfl rfl rfl hb73 rfl rfl (L.nil k0)) ?_
      refine Atk 14 rfl (Ca.fieldAddr Try.underlying45 rfl info39 rfl) (fun Q0 k0 => L.fieldAddr Try.underlying45 rfl info39 rfl hF rfl rfl rfl rfl rfl (L.nil k0)) ?_
      refine A.all [15] (by kernel_rfl) rfl ⟨⟨_, rfl, ?_⟩, trivial⟩
      refine L.storeEpH (xs := r1.1) (e := eTimpl_Tlv) (a' := (⟨b70.Tag, b70.Leaf, b70.Data, (b70.Kids ++ ([r71.1] : List Int))⟩ : Timpl_Tlv)) 1 shape39 hF rfl rfl rfl rfl rfl rfl rfl (at?_get hb70).2 rfl rfl ?_
      refine L.nil ?_
      refine A.le (τ := mkSt [(3, one (Cell.own 1))] [(1, ⟨4, List.map eTimpl_Tlv (r1.1.set r64.1.toNat (⟨b70.Tag, b70.Leaf, b70.Data, (b70.Kids ++ ([r71.1] : List Int))⟩ : Timpl_Tlv))⟩)] [(0, (bTspec_l1Cur true r71.2))] 2) (Le.mk [(0, 0), (1, 1)] hm rfl (Sa1 trivial) (Ra1 trivial) (Ba1 trivial)) ?_
      refine A.done (by kernel_rfl) ?_
      refine WpC.seq (WpC.regionL ?_)
      refine L.move hF rfl rfl rfl ?_
      refine L.assign hF rfl rfl rfl (L.nil ?_)
      refine WpC.ret ?_
      cases H
      exact Leaves.ret rfl rfl rfl ⟨rfl, rfl⟩
     have n2047 : W 5 #[true, true, true, true, true, true, true, true, true, true, true, false, false, false, false, false] (mkStH [(3, one (Cell.own 1)), (58, one (Cell.own 1)), (59, one (cI r64.1)), (64, one (Cell.own 2)), (68, one (cI r71.1))] [(1, ⟨4, (List.map eTimpl_Tlv r1.1).set r64.1.toNat ((eTimpl_Tlv b70).set 3 (Cell.raw ub70))⟩), (2, ⟨1, List.map eI b70.Kids⟩)] [(0, (bTspec_l1Cur true r71.2))] 3 [(2, ub70)]) := by
      refine hI _ _ _ ?_
      refine A.all [11] (by kernel_rfl) rfl ⟨⟨_, rfl, ?_⟩, trivial⟩
      refine L.buildSlice (e := eI) 3 ([r71.1] : List Int) Try.underlying39 info3 rfl rfl rfl hF rfl rfl rfl rfl rfl rfl rfl rfl (L.nil ?_)
      exact A.on (hO _ _ _ n4095) (Le.mkH [(0, 0), (1, 1), (2, 2), (3, 3)] hm rfl (Sa4 (Sa1 trivial)) (Ra2 (Ra1 trivial)) (Ba1 trivial) (hvOk1 rfl rfl))
     refine hI _ _ _ ?_
     refine Atk 0 rfl (Ca.move) (fun Q0 k0 => L.move hF rfl rfl rfl (L.nil k0)) ?_
     refine Atk 1 rfl (Ca.move) (fun Q0 k0 => L.move hF rfl rfl rfl (L.nil k0)) ?_
     refine Atk 2 rfl (Ca.move) (fun Q0 k0 => L.move hF rfl rfl rfl (L.nil k0)) ?_
     refine Atk 3 rfl (Ca.move) (fun Q0 k0 => L.move hF rfl rfl rfl (L.nil k0)) ?_
     refine Atk 4 rfl (Ca.indexAddr) (fun Q0 k0 => L.idxRH (xs := r1.1) (e := eTimpl_Tlv) Try.underlying22 info45 hF rfl rfl rfl rfl rfl hb70 rfl rfl (L.nil k0)) ?_
     refine Atk 5 rfl (Ca.fieldAddr Try.underlying45 rfl info39 rfl) (fun Q0 k0 => L.fieldAddr Try.underlying45 rfl info39 rfl hF rfl rfl rfl rfl rfl (L.nil k0)) ?_
     refine Atk 7 rfl (Ca.move) (fun Q0 k0 => L.move hF rfl rfl rfl (L.nil k0)) ?_
     refine Atk 8 rfl (Ca.move) (fun Q0 k0 => L.move hF rfl rfl rfl (L.nil k0)) ?_
     refine Atk 9 rfl (Ca.lenRH (xs := r1.1) (e := eTimpl_Tlv) Try.underlying22 rfl rfl) (fun Q0 k0 => L.lenRH (xs := r1.1) (e := eTimpl_Tlv) Try.underlying22 hF rfl rfl rfl rfl (L.nil k0)) ?_
     refine A.all [6, 10] (by kernel_rfl) rfl ⟨⟨_, rfl, ?_⟩, ⟨_, rfl, ?_⟩, trivial⟩
     ·refine L.loadEpR (xs := r1.1) (e := eTimpl_Tlv) 3 22 shape39 hF rfl rfl rfl rfl (at?_get hb70).2 rfl rfl rfl rfl rfl ?_
      refine L.nil ?_
      refine A.le (τ := mkStH [(3, one (Cell.own 1)), (58, one (Cell.own 1)), (59, one (cI r64.1)), (64, one (Cell.own 2)), (65, one (Cell.ptr 0 0)), (67, one (cI (r1.1.length : Int)))] [(1, ⟨4, (List.map eTimpl_Tlv r1.1).set r64.1.toNat ((eTimpl_Tlv b70).set 3 (Cell.raw ub70))⟩), (2, ⟨1, List.map eI b70.Kids⟩)] [(0, (bTspec_l1Cur true r65.2))] 3 [(2, ub70)]) (Le.mkH [(0, 0), (1, 6), (2, 22)] hm rfl (Sa4 (Sa2 trivial)) (Ra2 trivial) (Ba1 trivial) (hvOk1 rfl rfl)) ?_
      refine A.all [10] (by kernel_rfl) rfl ⟨⟨_, rfl, ?_⟩, trivial⟩
      refine L.call [false, false] [] [0] 3 hF rfl rfl rfl ent70 rfl rfl rfl rfl rfl (Fspec_l1Below_gives k  (r1.1.length : Int) r65.2 r71 hr71) rfl (L.nil ?_)
      exact A.on (hO _ _ _ n2047) (Le.mkH [(0, 0), (1, 1), (2, 2)] hm rfl (Sa4 (Sa1 trivial)) (Ra2 trivial) (Ba1 trivial) (hvOk1 rfl rfl))
     ·refine L.call [false, false] [] [0] 23 hF rfl rfl rfl ent70 rfl rfl rfl rfl rfl (Fspec_l1Below_gives k  (r1.1.length : Int) r65.2 r71 hr71) rfl (L.nil ?_)
      refine A.le (τ := mkStH [(3, one (Cell.own 1)), (58, one (Cell.own 1)), (59, one (cI r64.1)), (63, one (Cell.ep 1 r64.1.toNat 3)), (68, one (cI r71.1))] [(1, ⟨4, (List.map eTimpl_Tlv r1.1).set r64.1.toNat ((eTimpl_Tlv b70).set 3 (Cell.raw ub70))⟩), (2, ⟨1, List.map eI b70.Kids⟩)] [(0, (bTspec_l1Cur true r71.2))] 3 [(2, ub70)]) (Le.mkH [(0, 0), (1, 6), (2, 22)] hm rfl (Sa4 (Sa1 trivial)) (Ra2 trivial) (Ba1 trivial) (hvOk1 rfl rfl)) ?_
      refine A.all [6, 11] (by kernel_rfl) rfl ⟨⟨_, rfl, ?_⟩, ⟨_, rfl, ?_⟩, trivial⟩
      ·refine L.loadEpR (xs := r1.1) (e := eTimpl_Tlv) 3 2 shape39 hF rfl rfl rfl rfl (at?_get hb70).2 rfl rfl rfl rfl rfl ?_
       refine L.nil ?_
       exact A.on (hO _ _ _ n2047) (Le.mkH [(0, 0), (1, 1), (2, 2)] hm rfl (Sa4 (Sa1 trivial)) (Ra2 trivial) (Ba1 trivial) (hvOk1 rfl rfl))
      ·refine L.buildSlice (e := eI) 3 ([r71.1] : List Int) Try.underlying39 info3 rfl rfl rfl hF rfl rfl rfl rfl rfl rfl rfl rfl (L.nil ?_)
       refine A.all [6] (by kernel_rfl) rfl ⟨⟨_, rfl, ?_⟩, trivial⟩
       refine L.loadEpR (xs := r1.1) (e := eTimpl_Tlv) 3 2 shape39 hF rfl rfl rfl rfl (at?_get hb70).2 rfl rfl rfl rfl rfl ?_
       refine L.nil ?_
       exact A.on (hO _ _ _ n4095) (Le.mkH [(0, 0), (1, 1), (2, 2), (3, 3)] hm rfl (Sa4 (Sa1 trivial)) (Ra2 (Ra1 trivial)) (Ba1 trivial) (hvOk1 rfl rfl))
    ·replace H := condF hc H
     refine WpC.seq (WpC.regionL ?_)
     refine L.bin hF rfl rfl rfl rfl rfl rfl ?_
     refine L.assign hF rfl rfl rfl (L.nil ?_)
     refine WpC.cond rfl (fun hc => ?_) (fun hc => ?_)
     ·replace H := condT hc H
      refine WpC.regionL ?_
      refine L.move hF rfl rfl rfl ?_
      refine L.buildF built45 hF rfl rfl rfl rfl ?_
      refine L.buildSliceN (e := eTimpl_Tlv) 1 22 ([(⟨(1 : Int), true, ([] : List UInt8), []⟩ : Timpl_Tlv)] : List Timpl_Tlv) Try.underlying22 info45 rfl rfl rfl hF rfl rfl rfl rfl rfl rfl rfl rfl ?_
      obtain ⟨h74, H⟩ := condG H
      refine L.appendN (xs := r1.1) (ys := ([(⟨(1 : Int), true, ([] : List UInt8), []⟩ : Timpl_Tlv)] : List Timpl_Tlv)) (e := eTimpl_Tlv) 23 Try.underlying22 info45 rfl rfl hF rfl rfl rfl rfl rfl rfl rfl rfl rfl (fun _ _ h1 h2 => by cases h1; cases h2; rfl) Try.underlying22 (of_decide_eq_true h74) rfl rfl ?_
      refine L.assign hF rfl rfl rfl (L.nil ?_)
      refine WpC.seq (WpC.regionL ?_)
      refine L.move hF rfl rfl rfl ?_
      refine L.assign hF rfl rfl rfl (L.nil ?_)
      refine WpC.ret ?_
      cases H
      exact Leaves.ret rfl rfl rfl ⟨rfl, rfl⟩
     ·replace H := condF hc H
      refine WpC.seq (WpC.regionL ?_)
      refine L.buildSlice (e := eB) 22 ([] : List UInt8) Try.underlying33 info5 rfl rfl rfl hF rfl rfl rfl rfl rfl rfl rfl rfl ?_
      refine L.assign hF rfl rfl rfl (L.nil ?_)
      refine WpC.seq (WpC.seq (WpC.regionL ?_))
      refine L.move hF rfl rfl rfl ?_
      obtain ⟨r99, hr99, H⟩ := bindS H
      refine L.call [false, false] [] [0] 23 hF rfl rfl rfl ent70 rfl rfl rfl rfl rfl (Fspec_l1Below_gives k  (40 : Int) r65.2 r99 hr99) rfl ?_
      refine L.bin hF rfl rfl rfl rfl rfl rfl ?_
      refine L.assign hF rfl rfl rfl (L.nil ?_)
      refine WpC.block ?_
      refine WpC.loopL (P := Try.prog) (fun n σ => ∃ v115 : List Timpl_Tlv, ∃ v116 : Int, ∃ v117 : List UInt8, ∃ v118 : Int, ∃ v119 : List UInt8, ∃ v120 : Int, ∃ v121 : Int, n ≤ K ∧ Fspec_l14Some.l4 n v115 v116 v117 v118 v119 v120 v121 = some r ∧ σ = mkSt [(3, one (Cell.own 1)), (4, one (cI v116)), (5, one (Cell.own 2)), (6, one (cI v118))] [(1, ⟨4, List.map eTimpl_Tlv v115⟩), (2, ⟨1, List.map eB v117⟩)] [(0, [Cell.sl true (List.map eB v119), cI v120, cI v121])] 3) k ⟨_, ⟨r1.1, r64.1, ([] : List UInt8), (IntKind.i64.wrap ((880 : Int) + r99.1)), r99.2.b, r99.2.i, r99.2.h, by omega, H, rfl⟩, Le.mk [(0, 0), (1, 6), (2, 22)] hm rfl (Sa4 trivial) (Ra2 trivial) (Ba1 trivial)⟩ ?_
      clear H
      rintro k4 _ ⟨v115, v116, v117, v118, v119, v120, v121, hk4, H, rfl⟩
      cases k4 with
      | zero => cases H
      | succ k4 =>
       rw [Fspec_l14Some.l4] at H
       refine WpC.seq (WpC.seq (WpC.regionL ?_))
       refine L.move hF rfl rfl rfl ?_
       refine L.lenR (xs := v117) (e := eB) Try.underlying33 hF rfl rfl rfl rfl ?_
       refine L.move hF rfl rfl rfl ?_
       refine L.bin hF rfl rfl rfl rfl rfl rfl (L.nil ?_)
       refine WpC.cond rfl (fun hc => ?_) (fun hc => ?_)
       ·replace H := condT hc H
        refine WpC.skip (WpC.block (WpC.regionL ?_))
        refine L.move hF rfl rfl rfl ?_
        refine L.buildSlice (e := eB) 3 ([(65 : UInt8)] : List UInt8) Try.underlying33 info5 rfl rfl rfl hF rfl rfl rfl rfl rfl rfl rfl rfl ?_
        obtain ⟨h122, H⟩ := condG H
        refine L.append (xs := v117) (ys := ([(65 : UInt8)] : List UInt8)) (e := eB) 4 Try.underlying33 info5 rfl rfl hF rfl rfl rfl rfl rfl rfl rfl rfl (fun _ => rfl) (fun _ _ h1 h2 => by cases h1; cases h2; rfl) ⟨_, Try.underlying33⟩ (of_decide_eq_true h122) rfl rfl ?_
        refine L.assign hF rfl rfl rfl (L.nil ?_)
        exact ⟨k4, _, by omega, ⟨v115, v116, (v117 ++ ([(65 : UInt8)] : List UInt8)), v118, v119, v120, v121, by omega, H, rfl⟩, Le.mk [(0, 0), (1, 1), (2, 4)] hm rfl (Sa4 trivial) (Ra2 trivial) (Ba1 trivial)⟩
       ·replace H := condF hc H
        refine WpC.exit (WpC.regionL ?_)
        refine L.move hF rfl rfl rfl ?_
        refine L.move hF rfl rfl rfl ?_
        refine L.move hF rfl rfl rfl ?_
        refine L.b2s (xs := v117) Try.underlying33 Try.underlying5 Try.underlying9 hF rfl rfl rfl rfl ?_
        obtain ⟨b123, hb123, H⟩ := bindS H
        refine L.idxR (xs := v115) (e := eTimpl_Tlv) Try.underlying22 info45 hF rfl rfl rfl rfl rfl hb123 rfl rfl ?_
        refine L.fieldAddr Try.underlying45 rfl info9 rfl hF rfl rfl rfl rfl rfl ?_
        refine L.storeEp (xs := v115) (e := eTimpl_Tlv) (a' := (⟨b123.Tag, b123.Leaf, v117, b123.Kids⟩ : Timpl_Tlv)) shape9 hF rfl rfl rfl rfl rfl rfl rfl (at?_get hb123).2 rfl rfl ?_
        refine L.nil ?_
        refine WpC.seq (WpC.regionL ?_)
        refine L.move hF rfl rfl rfl ?_
        refine L.assign hF rfl rfl rfl (L.nil ?_)
        refine WpC.ret ?_
        cases H
        exact Leaves.ret rfl rfl rfl ⟨rfl, rfl⟩
 ·replace H := condF hc H
  refine WpC.skip (WpC.seq (WpC.regionL ?_))
  refine L.move hF rfl rfl rfl ?_
  refine L.assign hF rfl rfl rfl (L.nil ?_)
  refine WpC.ret ?_
  cases H
  exact Leaves.ret rfl rfl rfl ⟨rfl, rfl⟩
/-! ### Fspec_DrawTlvOk -/
def Fspec_DrawTlvOk (k : Nat) (a0 : List UInt8) : Option (List Timpl_Tlv) := (Fspec_l1New k a0).bind fun r1 => (Fspec_l14Some k r1).bind fun r2 => some r2.1
theorem ent30 : MG.Enters Try.prog 30 := ⟨Try.f30, Try.func30, rfl, by decide⟩
set_option maxHeartbeats 8000000 in
set_option maxRecDepth 100000 in
theorem Fspec_DrawTlvOk_gives (k : Nat) (a0 : List UInt8) (r : List Timpl_Tlv) (H : Fspec_DrawTlvOk k a0 = some r) : Gives Try.prog 30 [V.one (Cell.sl true (List.map eB a0))] [] [V.one (Cell.ow 4 (List.map eTimpl_Tlv r))] [] := by
 refine Gives.intro Try.func30 rfl rfl rfl rfl ?_
 intro F hF hm
 unfold Fspec_DrawTlvOk at H
 obtain ⟨K, hK⟩ : ∃ K, k ≤ K := ⟨k, Nat.le_refl k⟩
 refine WpC.seq (WpC.regionL ?_)
 refine L.assign hF rfl rfl rfl (L.nil ?_)
 refine WpC.seq (WpC.regionL ?_)
 refine L.move hF rfl rfl rfl ?_
 obtain ⟨r1, hr1, H⟩ := bindS H
 refine L.call [false] [] [] 1 hF rfl rfl rfl ent61 rfl rfl rfl rfl rfl (Fspec_l1New_gives k  a0 r1 hr1) rfl ?_
 refine L.assign hF rfl rfl rfl (L.nil ?_)
 refine WpC.seq (WpC.regionL ?_)
 refine L.move hF rfl rfl rfl ?_
 obtain ⟨r2, hr2, H⟩ := bindS H
 refine L.call [false] [] [1] 2 hF rfl rfl rfl ent69 rfl rfl rfl rfl rfl (Fspec_l14Some_gives k  r1 r2 hr2) rfl ?_
 refine L.assign hF rfl rfl rfl (L.nil ?_)
 refine WpC.ret ?_
 cases H
 exact Leaves.ret rfl rfl rfl ⟨rfl, rfl⟩
/-! ### Fimpl_within -/
def Fimpl_within (k : Nat) (a0 : Int) (a1 : Int) (a2 : Int) : Option Bool := cond (decide (a0 ≥ a1)) (some (decide (a0 ≤ a2))) (some false)
theorem ent78 : MG.Enters Try.prog 78 := ⟨Try.f78, Try.func78, rfl, by decide⟩
set_option maxHeartbeats 8000000 in
set_option maxRecDepth 100000 in
theorem Fimpl_within_gives (k : Nat) (a0 : Int) (a1 : Int) (a2 : Int) (r : Bool) (H : Fimpl_within k a0 a1 a2 = some r) : Gives Try.prog 78 [V.one (cI a0), V.one (cI a1), V.one (cI a2)] [] [V.one (cL r)] [] := by
 refine Gives.intro Try.func78 rfl rfl rfl rfl ?_
 intro F hF hm
 unfold Fimpl_within at H
 obtain ⟨K, hK⟩ : ∃ K, k ≤ K := ⟨k, Nat.le_refl k⟩
 refine WpC.seq (WpC.regionL ?_)
 refine L.assign hF rfl rfl rfl (L.nil ?_)
 refine WpC.seq (WpC.regionL ?_)
 refine L.move hF rfl rfl rfl ?_
 refine L.move hF rfl rfl rfl ?_
 refine L.bin hF rfl rfl rfl rfl rfl rfl ?_
 refine L.move hF rfl rfl rfl ?_
 refine L.split (fun hc => ?_) (fun hc => ?_)
 ·replace H := condT hc H
  refine L.move hF rfl rfl rfl ?_
  refine L.move hF rfl rfl rfl ?_
  refine L.bin hF rfl rfl rfl rfl rfl rfl ?_
  refine L.pick hF rfl rfl rfl rfl ?_
  refine L.assign hF rfl rfl rfl (L.nil ?_)
  refine WpC.ret ?_
  cases H
  exact Leaves.ret rfl rfl rfl ⟨rfl, rfl⟩
 ·replace H := condF hc H
  refine L.off hF rfl rfl ?_
  refine L.off hF rfl rfl ?_
  refine L.off hF rfl rfl ?_
  refine L.pick hF rfl rfl rfl rfl ?_
  refine L.assign hF rfl rfl rfl (L.nil ?_)
  refine WpC.ret ?_
  cases H
  exact Leaves.ret rfl rfl rfl ⟨rfl, rfl⟩
/-! ### Fimpl_nodeOk -/
def Fimpl_nodeOk.l3 : Nat → Int → Timpl_Tlv → Int → Int → Option Bool
 | 0, _, _, _, _ => none
 | k3 + 1, v44, v45, v46, v47 => cond (decide (v47 < v46)) ((at? v45.Kids v47).bind fun b50 => (Fimpl_within k3 b50 (0 : Int) (IntKind.i64.wrap (v44 - (1 : Int)))).bind fun r51 => cond (!r51) (some false) ((Fimpl_nodeOk.l3 k3) v44 v45 v46 (IntKind.i64.wrap (v47 + (1 : Int))))) (some true)
def Fimpl_nodeOk.j1 (k : Nat) (v4 : Int) (v5 : Timpl_Tlv) : Option Bool := Fimpl_nodeOk.l3 k v4 v5 (v5.Kids.length : Int) (0 : Int)
def Fimpl_nodeOk (k : Nat) (a0 : List Timpl_Tlv) (a1 : Int) : Option Bool := (at? a0 a1).bind fun b1 => (Fimpl_within k b1.Tag (1 : Int) (100 : Int)).bind fun r53 => cond (!r53) (some false) (cond b1.Leaf (cond (decide ((b1.Kids.length : Int) > (0 : Int))) (some false) (cond (!b1.Leaf) (cond (b1.Data != ([] : List UInt8)) (some false) (Fimpl_nodeOk.j1 k a1 b1)) (Fimpl_nodeOk.j1 k a1 b1))) (cond (!b1.Leaf) (cond (b1.Data != ([] : List UInt8)) (some false) (Fimpl_nodeOk.j1 k a1 b1)) (Fimpl_nodeOk.j1 k a1 b1)))
theorem ent79 : MG.Enters Try.prog 79 := ⟨Try.f79, Try.func79, rfl, by decide⟩
set_option maxHeartbeats 8000000 in
set_option maxRecDepth 100000 in
theorem Fimpl_nodeOk_gives (k : Nat) (g0 : Bool) (a0 : List Timpl_Tlv) (a1 : Int) (r : Bool) (H : Fimpl_nodeOk k a0 a1 = some r) : Gives Try.prog 79 [V.one (Cell.sl g0 (List.map eTimpl_Tlv a0)), V.one (cI a1)] [] [V.one (cL r)] [] := by
 refine Gives.intro Try.func79 rfl rfl rfl rfl ?_
 intro F hF hm
 unfold Fimpl_nodeOk at H
 obtain ⟨K, hK⟩ : ∃ K, k ≤ K := ⟨k, Nat.le_refl k⟩
 refine WpC.seq (WpC.regionL ?_)
 refine L.assign hF rfl rfl rfl (L.nil ?_)
 refine WpC.seq (WpC.regionL ?_)
 refine L.move hF rfl rfl rfl ?_
 refine L.move hF rfl rfl rfl ?_
 obtain ⟨b1, hb1, H⟩ := bindS H
 refine L.idxR (xs := a0) (e := eTimpl_Tlv) Try.underlying22 info45 hF rfl rfl rfl rfl rfl hb1 rfl rfl ?_
 refine L.loadPe shape45 hF rfl rfl rfl rfl rfl ?_
 refine L.alloc 2 info45 rfl hF rfl rfl rfl rfl ?_
 refine L.storePtr shape45 hF rfl rfl rfl rfl rfl rfl rfl (L.nil ?_)
 refine WpC.join (fun σ => ∃ kj1 : Nat, ∃ v4 : Int, ∃ v5 : Timpl_Tlv, kj1 ≤ K ∧ Fimpl_nodeOk.j1 kj1 v4 v5 = some r ∧ σ = mkSt [(1, one (cI v4)), (5, one (Cell.ptr 0 0))] [] [(0, (bTimpl_Tlv g0 v5))] 1) ?_ ?_
 ·rintro _ ⟨kj1, v4, v5, hkj1, H, rfl⟩
  unfold Fimpl_nodeOk.j1 at H
  refine WpC.seq (WpC.seq (WpC.regionL ?_))
  refine L.fieldAddr Try.underlying45 rfl info39 rfl hF rfl rfl rfl rfl rfl ?_
  refine L.loadPtr shape39 hF rfl rfl rfl rfl rfl rfl ?_
  refine L.lenR (xs := v5.Kids) (e := eI) Try.underlying39 hF rfl rfl rfl rfl ?_
  refine L.move hF rfl rfl rfl (L.nil ?_)
  refine WpC.block ?_
  refine WpC.loopL (P := Try.prog) (fun n σ => ∃ v44 : Int, ∃ v45 : Timpl_Tlv, ∃ v46 : Int, ∃ v47 : Int, n ≤ K ∧ Fimpl_nodeOk.l3 n v44 v45 v46 v47 = some r ∧ σ = mkSt [(1, one (cI v44)), (37, one (Cell.sl g0 (List.map eI v45.Kids))), (38, one (cI v46)), (39, one (cI v47))] [] [] 0) kj1 ⟨_, ⟨v4, v5, (v5.Kids.length : Int), (0 : Int), by omega, H, rfl⟩, Le.mk [] hm rfl (Sa4 trivial) trivial trivial⟩ ?_
  clear H
  rintro k3 _ ⟨v44, v45, v46, v47, hk3, H, rfl⟩
  cases k3 with
  | zero => cases H
  | succ k3 =>
   rw [Fimpl_nodeOk.l3] at H
   refine WpC.seq (WpC.regionL ?_)
   refine L.bin hF rfl rfl rfl rfl rfl rfl (L.nil ?_)
   refine WpC.seq ?_
   refine WpC.cond rfl (fun hc => ?_) (fun hc => ?_)
   ·replace H := condT hc H
    refine WpC.skip (WpC.seq (WpC.block (WpC.seq (WpC.regionL ?_))))
    obtain ⟨b50, hb50, H⟩ := bindS H
    refine L.idxR (xs := v45.Kids) (e := eI) Try.underlying39 info3 hF rfl rfl rfl rfl rfl hb50 rfl rfl ?_
    refine L.loadPe shape3 hF rfl rfl rfl rfl rfl ?_
    refine L.assign hF rfl rfl rfl (L.nil ?_)
    refine WpC.seq (WpC.regionL ?_)
    refine L.move hF rfl rfl rfl ?_
    refine L.move hF rfl rfl rfl ?_
    refine L.bin hF rfl rfl rfl rfl rfl rfl ?_
    obtain ⟨r51, hr51, H⟩ := bindS H
    refine L.call [false, false, false] [] [] 0 hF rfl rfl rfl ent78 rfl rfl rfl rfl rfl (Fimpl_within_gives k3  b50 (0 : Int) (IntKind.i64.wrap (v44 - (1 : Int))) r51 hr51) rfl ?_
    refine L.not hF rfl rfl rfl (L.nil ?_)
    refine WpC.cond rfl (fun hc => ?_) (fun hc => ?_)
    ·replace H := condT hc H
     refine WpC.seq (WpC.regionL ?_)
     refine L.assign hF rfl rfl rfl (L.nil ?_)
     refine WpC.ret ?_
     cases H
     exact Leaves.ret rfl rfl rfl ⟨rfl, rfl⟩
    ·replace H := condF hc H
     refine WpC.skip (WpC.regionL ?_)
     refine L.bin hF rfl rfl rfl rfl rfl rfl ?_
     refine L.move hF rfl rfl rfl (L.nil ?_)
     exact ⟨k3, _, by omega, ⟨v44, v45, v46, (IntKind.i64.wrap (v47 + (1 : Int))), by omega, H, rfl⟩, Le.mk [] hm rfl (Sa4 trivial) trivial trivial⟩
   ·replace H := condF hc H
    refine WpC.exit (WpC.seq (WpC.regionL ?_))
    refine L.assign hF rfl rfl rfl (L.nil ?_)
    refine WpC.ret ?_
    cases H
    exact Leaves.ret rfl rfl rfl ⟨rfl, rfl⟩
 ·refine WpC.seq (WpC.regionL ?_)
  refine L.fieldAddr Try.underlying45 rfl info3 rfl hF rfl rfl rfl rfl rfl ?_
  refine L.loadPtr shape3 hF rfl rfl rfl rfl rfl rfl ?_
  obtain ⟨r53, hr53, H⟩ := bindS H
  refine L.call [false, false, false] [] [] 3 hF rfl rfl rfl ent78 rfl rfl rfl rfl rfl (Fimpl_within_gives k  b1.Tag (1 : Int) (100 : Int) r53 hr53) rfl ?_
  refine L.not hF rfl rfl rfl ?_
  refine L.move hF rfl rfl rfl ?_
  refine L.split (fun hc => ?_) (fun hc => ?_)
  ·replace H := condT hc H
   refine L.off hF rfl rfl ?_
   refine L.off hF rfl rfl ?_
   refine L.off hF rfl rfl ?_
   refine L.off hF rfl rfl ?_
   refine L.off hF rfl rfl ?_
   refine L.off hF rfl rfl ?_
   refine L.off hF rfl rfl ?_
   refine L.off hF rfl rfl ?_
   refine L.pick hF rfl rfl rfl rfl ?_
   refine L.move hF rfl rfl rfl ?_
   refine L.off hF rfl rfl ?_
   refine L.off hF rfl rfl ?_
   refine L.off hF rfl rfl ?_
   refine L.off hF rfl rfl ?_
   refine L.off hF rfl rfl ?_
   refine L.off hF rfl rfl ?_
   refine L.off hF rfl rfl ?_
   refine L.off hF rfl rfl ?_
   refine L.pick hF rfl rfl rfl rfl (L.nil ?_)
   refine WpC.cond rfl (fun _ => ?_) (fun hc => by cases hc)
   refine WpC.seq (WpC.regionL ?_)
   refine L.assign hF rfl rfl rfl (L.nil ?_)
   refine WpC.ret ?_
   cases H
   exact Leaves.ret rfl rfl rfl ⟨rfl, rfl⟩
  ·replace H := condF hc H
   refine L.fieldAddr Try.underlying45 rfl info4 rfl hF rfl rfl rfl rfl rfl ?_
   refine L.loadPtr shape4 hF rfl rfl rfl rfl rfl rfl ?_
   refine L.move hF rfl rfl rfl ?_
   refine L.split (fun hc => ?_) (fun hc => ?_)
   ·replace H := condT hc H
    refine L.fieldAddr Try.underlying45 rfl info39 rfl hF rfl rfl rfl rfl rfl ?_
    refine L.loadPtr shape39 hF rfl rfl rfl rfl rfl rfl ?_
    refine L.lenR (xs := b1.Kids) (e := eI) Try.underlying39 hF rfl rfl rfl rfl ?_
    refine L.bin hF rfl rfl rfl rfl rfl rfl ?_
    refine L.pick hF rfl rfl rfl rfl ?_
    refine L.pick hF rfl rfl rfl rfl ?_
    refine L.move hF rfl rfl rfl ?_
    refine L.split (fun hc => ?_) (fun hc => ?_)
    ·replace H := condT hc H
     refine L.off hF rfl rfl ?_
     refine L.off hF rfl rfl ?_
     refine L.off hF rfl rfl ?_
     refine L.off hF rfl rfl ?_
     refine L.off hF rfl rfl ?_
     refine L.off hF rfl rfl ?_
     refine L.off hF rfl rfl ?_
     refine L.off hF rfl rfl ?_
     refine L.pick hF rfl rfl rfl rfl (L.nil ?_)
     refine WpC.cond rfl (fun _ => ?_) (fun hc => by cases hc)
     refine WpC.seq (WpC.regionL ?_)
     refine L.assign hF rfl rfl rfl (L.nil ?_)
     refine WpC.ret ?_
     cases H
     exact Leaves.ret rfl rfl rfl ⟨rfl, rfl⟩
    ·replace H := condF hc H
     refine L.fieldAddr Try.underlying45 rfl info4 rfl hF rfl rfl rfl rfl rfl ?_
     refine L.loadPtr shape4 hF rfl rfl rfl rfl rfl rfl ?_
     refine L.not hF rfl rfl rfl ?_
     refine L.move hF rfl rfl rfl ?_
     refine L.split (fun hc => ?_) (fun hc => ?_)
     ·replace H := condT hc H
      refine L.fieldAddr Try.underlying45 rfl info9 rfl hF rfl rfl rfl rfl rfl ?_
      refine L.loadPtr shape9 hF rfl rfl rfl rfl rfl rfl ?_
      refine L.binS hF rfl rfl rfl rfl rfl ?_
      refine L.pick hF rfl rfl rfl rfl ?_
      refine L.pick hF rfl rfl rfl rfl (L.nil ?_)
      refine WpC.cond rfl (fun hc => ?_) (fun hc => ?_)
      ·replace H := condT hc H
       refine WpC.seq (WpC.regionL ?_)
       refine L.assign hF rfl rfl rfl (L.nil ?_)
       refine WpC.ret ?_
       cases H
       exact Leaves.ret rfl rfl rfl ⟨rfl, rfl⟩
      ·replace H := condF hc H
       refine WpC.skip ?_
       exact ⟨_, ⟨k, a1, b1, by omega, H, rfl⟩, Le.mk [(0, 2)] hm rfl (Sa2 trivial) trivial (Ba1 trivial)⟩
     ·replace H := condF hc H
      refine L.off hF rfl rfl ?_
      refine L.off hF rfl rfl ?_
      refine L.off hF rfl rfl ?_
      refine L.pick hF rfl rfl rfl rfl ?_
      refine L.pick hF rfl rfl rfl rfl (L.nil ?_)
      refine WpC.cond rfl (fun hc => by cases hc) (fun _ => ?_)
      refine WpC.skip ?_
      exact ⟨_, ⟨k, a1, b1, by omega, H, rfl⟩, Le.mk [(0, 2)] hm rfl (Sa2 trivial) trivial (Ba1 trivial)⟩
   ·replace H := condF hc H
    refine L.off hF rfl rfl ?_
    refine L.off hF rfl rfl ?_
    refine L.off hF rfl rfl ?_
    refine L.off hF rfl rfl ?_
    refine L.pick hF rfl rfl rfl rfl ?_
    refine L.pick hF rfl rfl rfl rfl ?_
    refine L.move hF rfl rfl rfl ?_
    refine L.fieldAddr Try.underlying45 rfl info4 rfl hF rfl rfl rfl rfl rfl ?_
    refine L.loadPtr shape4 hF rfl rfl rfl rfl rfl rfl ?_
    refine L.not hF rfl rfl rfl ?_
    refine L.move hF rfl rfl rfl ?_
    refine L.split (fun hc => ?_) (fun hc => ?_)
    ·replace H := condT hc H
     refine L.fieldAddr Try.underlying45 rfl info9 rfl hF rfl rfl rfl rfl rfl ?_
     refine L.loadPtr shape9 hF rfl rfl rfl rfl rfl rfl ?_
     refine L.binS hF rfl rfl rfl rfl rfl ?_
     refine L.pick hF rfl rfl rfl rfl ?_
     refine L.pick hF rfl rfl rfl rfl (L.nil ?_)
     refine WpC.cond rfl (fun hc => ?_) (fun hc => ?_)
     ·replace H := condT hc H
      refine WpC.seq (WpC.regionL ?_)
      refine L.assign hF rfl rfl rfl (L.nil ?_)
      refine WpC.ret ?_
      cases H
      exact Leaves.ret rfl rfl rfl ⟨rfl, rfl⟩
     ·replace H := condF hc H
      refine WpC.skip ?_
      exact ⟨_, ⟨k, a1, b1, by omega, H, rfl⟩, Le.mk [(0, 2)] hm rfl (Sa2 trivial) trivial (Ba1 trivial)⟩
    ·replace H := condF hc H
     refine L.off hF rfl rfl ?_
     refine L.off hF rfl rfl ?_
     refine L.off hF rfl rfl ?_
     refine L.pick hF rfl rfl rfl rfl ?_
     refine L.pick hF rfl rfl rfl rfl (L.nil ?_)
     refine WpC.cond rfl (fun hc => by cases hc) (fun _ => ?_)
     refine WpC.skip ?_
     exact ⟨_, ⟨k, a1, b1, by omega, H, rfl⟩, Le.mk [(0, 2)] hm rfl (Sa2 trivial) trivial (Ba1 trivial)⟩
/-! ### Fimpl_ended -/
def Fimpl_ended.l4 (cREC : (List Timpl_Tlv) → Int → Int → (List Int) → Option (List Int × Bool)) : Nat → (List Timpl_Tlv) → Int → Int → (List Int) → Timpl_Tlv → Int → Int → Option (List Int × Bool)
 | 0, _, _, _, _, _, _, _ => none
 | k4 + 1, v66, v67, v68, v69, v70, v71, v72 => cond (decide (v72 < v71)) ((at? v70.Kids v72).bind fun b75 => (cREC v66 b75 (IntKind.i64.wrap (v68 + (1 : Int))) v69).bind fun r76 => cond (!r76.2) (some (r76.1, false)) ((Fimpl_ended.l4 cREC k4) v66 v67 v68 r76.1 v70 v71 (IntKind.i64.wrap (v72 + (1 : Int))))) (cond (decide ((2 * (v69.length + ([v67] : List Int).length) + 192) * 8 ≤ 281474976710656)) (some ((v69 ++ ([v67] : List Int)), (decide ((v69.length : Int) < (60 : Int))))) none)
def Fimpl_ended.j2 (cREC : (List Timpl_Tlv) → Int → Int → (List Int) → Option (List Int × Bool)) (k : Nat) (v6 : List Timpl_Tlv) (v7 : Int) (v8 : Int) (v9 : List Int) (v10 : Bool) : Option (List Int × Bool) := cond v10 (some (v9, false)) ((at? v6 v7).bind fun b44 => Fimpl_ended.l4 cREC k v6 v7 v8 v9 b44 (b44.Kids.length : Int) (0 : Int))
def Fimpl_ended : Nat → (List Timpl_Tlv) → Int → Int → (List Int) → Option (List Int × Bool)
 | 0, _, _, _, _ => none
 | k + 1, a0, a1, a2, a3 => cond (decide (a2 > (8 : Int))) (Fimpl_ended.j2 (Fimpl_ended k) k a0 a1 a2 a3 true) (Fimpl_ended.j2 (Fimpl_ended k) k a0 a1 a2 a3 (decide ((a3.length : Int) ≥ (60 : Int))))
theorem ent80 : MG.Enters Try.prog 80 := ⟨Try.f80, Try.func80, rfl, by decide⟩
set_option maxHeartbeats 8000000 in
set_option maxRecDepth 100000 in
theorem Fimpl_ended_gives : ∀ (k : Nat) (g0 : Bool) (a0 : List Timpl_Tlv) (a1 : Int) (a2 : Int) (a3 : List Int) (r : List Int × Bool) (H : Fimpl_ended k a0 a1 a2 a3 = some r), Gives Try.prog 80 [V.one (Cell.sl g0 (List.map eTimpl_Tlv a0)), V.one (cI a1), V.one (cI a2), V.one (Cell.ow 1 (List.map eI a3))] [] [V.one (Cell.ow 1 (List.map eI r.1)), V.one (cL r.2)] [] := by
 intro k
 induction k with
 | zero => intros; rename_i H; cases H
 | succ k ih =>
  intro g0 a0 a1 a2 a3 r H
  refine Gives.intro Try.func80 rfl rfl rfl rfl ?_
  intro F hF hm
  rw [Fimpl_ended] at H
  obtain ⟨K, hK⟩ : ∃ K, k ≤ K := ⟨k, Nat.le_refl k⟩
  refine WpC.seq (WpC.regionL ?_)
  refine L.assign hF rfl rfl rfl ?_
  refine L.assign hF rfl rfl rfl (L.nil ?_)
  refine WpC.seq ?_
  refine WpC.join (fun σ => ∃ kj2 : Nat, ∃ v6 : List Timpl_Tlv, ∃ v7 : Int, ∃ v8 : Int, ∃ v9 : List Int, ∃ v10 : Bool, kj2 ≤ K ∧ Fimpl_ended.j2 (Fimpl_ended k) kj2 v6 v7 v8 v9 v10 = some r ∧ σ = mkSt [(0, one (Cell.sl g0 (List.map eTimpl_Tlv v6))), (1, one (cI v7)), (2, one (cI v8)), (3, one (Cell.own 0)), (19, one (cL v10))] [(0, ⟨1, List.map eI v9⟩)] [] 1) ?_ ?_
  ·rintro _ ⟨kj2, v6, v7, v8, v9, v10, hkj2, H, rfl⟩
   unfold Fimpl_ended.j2 at H
   refine WpC.cond rfl (fun hc => ?_) (fun hc => ?_)
   ·replace H := condT hc H
    refine WpC.seq (WpC.regionL ?_)
    refine L.move hF rfl rfl rfl ?_
    refine L.assign hF rfl rfl rfl ?_
    refine L.assign hF rfl rfl rfl (L.nil ?_)
    refine WpC.ret ?_
    cases H
    exact Leaves.ret rfl rfl rfl ⟨rfl, rfl⟩
   ·replace H := condF hc H
    refine WpC.skip (WpC.seq (WpC.regionL ?_))
    refine L.assign hF rfl rfl rfl (L.nil ?_)
    refine WpC.seq (WpC.seq (WpC.regionL ?_))
    refine L.move hF rfl rfl rfl ?_
    refine L.move hF rfl rfl rfl ?_
    obtain ⟨b44, hb44, H⟩ := bindS H
    refine L.idxR (xs := v6) (e := eTimpl_Tlv) Try.underlying22 info45 hF rfl rfl rfl rfl rfl hb44 rfl rfl ?_
    refine L.fieldAddr Try.underlying45 rfl info39 rfl hF rfl rfl rfl rfl rfl ?_
    refine L.loadPe shape39 hF rfl rfl rfl rfl rfl ?_
    refine L.lenR (xs := b44.Kids) (e := eI) Try.underlying39 hF rfl rfl rfl rfl ?_
    refine L.move hF rfl rfl rfl (L.nil ?_)
    refine WpC.block ?_
    refine WpC.loopL (P := Try.prog) (fun n σ => ∃ v66 : List Timpl_Tlv, ∃ v67 : Int, ∃ v68 : Int, ∃ v69 : List Int, ∃ v70 : Timpl_Tlv, ∃ v71 : Int, ∃ v72 : Int, n ≤ K ∧ Fimpl_ended.l4 (Fimpl_ended k) n v66 v67 v68 v69 v70 v71 v72 = some r ∧ σ = mkSt [(0, one (Cell.sl g0 (List.map eTimpl_Tlv v66))), (1, one (cI v67)), (2, one (cI v68)), (3, one (Cell.own 0)), (25, one (Cell.sl g0 (List.map eI v70.Kids))), (26, one (cI v71)), (27, one (cI v72))] [(0, ⟨1, List.map eI v69⟩)] [] 1) kj2 ⟨_, ⟨v6, v7, v8, v9, b44, (b44.Kids.length : Int), (0 : Int), by omega, H, rfl⟩, Le.mk [(0, 0)] hm rfl (Sa4 (Sa2 (Sa1 trivial))) (Ra1 trivial) trivial⟩ ?_
    clear H
    rintro k4 _ ⟨v66, v67, v68, v69, v70, v71, v72, hk4, H, rfl⟩
    cases k4 with
    | zero => cases H
    | succ k4 =>
     rw [Fimpl_ended.l4] at H
     refine WpC.seq (WpC.regionL ?_)
     refine L.bin hF rfl rfl rfl rfl rfl rfl (L.nil ?_)
     refine WpC.seq ?_
     refine WpC.cond rfl (fun hc => ?_) (fun hc => ?_)
     ·replace H := condT hc H
      refine WpC.skip (WpC.seq (WpC.block (WpC.seq (WpC.regionL ?_))))
      obtain ⟨b75, hb75, H⟩ := bindS H
      refine L.idxR (xs := v70.Kids) (e := eI) Try.underlying39 info3 hF rfl rfl rfl rfl rfl hb75 rfl rfl ?_
      refine L.loadPe shape3 hF rfl rfl rfl rfl rfl ?_
      refine L.assign hF rfl rfl rfl (L.nil ?_)
      refine WpC.seq (WpC.regionL ?_)
      refine L.move hF rfl rfl rfl ?_
      refine L.move hF rfl rfl rfl ?_
      refine L.move hF rfl rfl rfl ?_
      refine L.bin hF rfl rfl rfl rfl rfl rfl ?_
      refine L.move hF rfl rfl rfl ?_
      obtain ⟨r76, hr76, H⟩ := bindS H
      refine L.call [false, false, false, true] [] [] 1 hF rfl rfl rfl ent80 rfl rfl rfl rfl rfl (ih g0 v66 b75 (IntKind.i64.wrap (v68 + (1 : Int))) v69 r76 hr76) rfl ?_
      refine L.move hF rfl rfl rfl ?_
      refine L.extract hF rfl rfl rfl rfl ?_
      refine L.extract hF rfl rfl rfl rfl ?_
      refine L.assign hF rfl rfl rfl ?_
      refine L.assign hF rfl rfl rfl (L.nil ?_)
      refine WpC.seq (WpC.regionL ?_)
      refine L.move hF rfl rfl rfl ?_
      refine L.not hF rfl rfl rfl (L.nil ?_)
      refine WpC.cond rfl (fun hc => ?_) (fun hc => ?_)
      ·replace H := condT hc H
       refine WpC.seq (WpC.regionL ?_)
       refine L.move hF rfl rfl rfl ?_
       refine L.assign hF rfl rfl rfl ?_
       refine L.assign hF rfl rfl rfl (L.nil ?_)
       refine WpC.ret ?_
       cases H
       exact Leaves.ret rfl rfl rfl ⟨rfl, rfl⟩
      ·replace H := condF hc H
       refine WpC.skip (WpC.regionL ?_)
       refine L.bin hF rfl rfl rfl rfl rfl rfl ?_
       refine L.move hF rfl rfl rfl (L.nil ?_)
       exact ⟨k4, _, by omega, ⟨v66, v67, v68, r76.1, v70, v71, (IntKind.i64.wrap (v72 + (1 : Int))), by omega, H, rfl⟩, Le.mk [(0, 1)] hm rfl (Sa4 (Sa2 (Sa1 trivial))) (Ra1 trivial) trivial⟩
     ·replace H := condF hc H
      refine WpC.exit (WpC.seq (WpC.regionL ?_))
      refine L.move hF rfl rfl rfl ?_
      refine L.move hF rfl rfl rfl ?_
      refine L.buildSlice (e := eI) 1 ([v67] : List Int) Try.underlying39 info3 rfl rfl rfl hF rfl rfl rfl rfl rfl rfl rfl rfl ?_
      obtain ⟨h77, H⟩ := condG H
      refine L.append (xs := v69) (ys := ([v67] : List Int)) (e := eI) 2 Try.underlying39 info3 rfl rfl hF rfl rfl rfl rfl rfl rfl rfl rfl (fun _ => rfl) (fun _ _ h1 h2 => by cases h1; cases h2; rfl) ⟨_, Try.underlying39⟩ (of_decide_eq_true h77) rfl rfl ?_
      refine L.move hF rfl rfl rfl ?_
      refine L.lenR (xs := v69) (e := eI) Try.underlying39 hF rfl rfl rfl rfl ?_
      refine L.bin hF rfl rfl rfl rfl rfl rfl ?_
      refine L.assign hF rfl rfl rfl ?_
      refine L.assign hF rfl rfl rfl (L.nil ?_)
      refine WpC.ret ?_
      cases H
      exact Leaves.ret rfl rfl rfl ⟨rfl, rfl⟩
  ·refine WpC.regionL ?_
   refine L.move hF rfl rfl rfl ?_
   refine L.bin hF rfl rfl rfl rfl rfl rfl ?_
   refine L.move hF rfl rfl rfl ?_
   refine L.split (fun hc => ?_) (fun hc => ?_)
   ·replace H := condT hc H
    refine L.off hF rfl rfl ?_
    refine L.off hF rfl rfl ?_
    refine L.off hF rfl rfl ?_
    refine L.pick hF rfl rfl rfl rfl (L.nil ?_)
    exact ⟨_, ⟨k, a0, a1, a2, a3, true, by omega, H, rfl⟩, Le.mk [(0, 3)] hm rfl (Sa4 (Sa1 trivial)) (Ra1 trivial) trivial⟩
   ·replace H := condF hc H
    refine L.move hF rfl rfl rfl ?_
    refine L.lenR (xs := a3) (e := eI) Try.underlying39 hF rfl rfl rfl rfl ?_
    refine L.bin hF rfl rfl rfl rfl rfl rfl ?_
    refine L.pick hF rfl rfl rfl rfl (L.nil ?_)
    exact ⟨_, ⟨k, a0, a1, a2, a3, (decide ((a3.length : Int) ≥ (60 : Int))), by omega, H, rfl⟩, Le.mk [(0, 3)] hm rfl (Sa4 (Sa1 trivial)) (Ra1 trivial) trivial⟩
/-! ### Fimpl_Var -/
def Fimpl_Var.l2 : Nat → Int → (List UInt8) → Option (List UInt8)
 | 0, _, _ => none
 | k2 + 1, v16, v17 => cond (decide (v16 > (127 : Int))) (cond (decide ((2 * (v17.length + ([(ofI (Go.bits .or .i64 (Go.bits .and .i64 v16 (127 : Int)) (128 : Int)))] : List UInt8).length) + 192) * 1 ≤ 281474976710656)) ((Fimpl_Var.l2 k2) (shrI .i64 v16 (7 : Int)) (v17 ++ ([(ofI (Go.bits .or .i64 (Go.bits .and .i64 v16 (127 : Int)) (128 : Int)))] : List UInt8))) none) (cond (decide ((2 * (v17.length + ([(ofI v16)] : List UInt8).length) + 192) * 1 ≤ 281474976710656)) (some (v17 ++ ([(ofI v16)] : List UInt8))) none)
def Fimpl_Var (k : Nat) (a0 : Int) : Option (List UInt8) := (Fimpl_within k a0 (0 : Int) (562949953421311 : Int)).bind fun r2 => cond (!r2) (some ([] : List UInt8)) (Fimpl_Var.l2 k a0 ([] : List UInt8))
theorem ent64 : MG.Enters Try.prog 64 := ⟨Try.f64, Try.func64, rfl, by decide⟩
set_option maxHeartbeats 8000000 in
set_option maxRecDepth 100000 in
theorem Fimpl_Var_gives (k : Nat) (a0 : Int) (r : List UInt8) (H : Fimpl_Var k a0 = some r) : Gives Try.prog 64 [V.one (cI a0)] [] [V.one (cS r)] [] := by
 refine Gives.intro Try.func64 rfl rfl rfl rfl ?_
 intro F hF hm
 unfold Fimpl_Var at H
 obtain ⟨K, hK⟩ : ∃ K, k ≤ K := ⟨k, Nat.le_refl k⟩
 refine WpC.seq (WpC.regionL ?_)
 refine L.assign hF rfl rfl rfl (L.nil ?_)
 refine WpC.seq (WpC.seq (WpC.regionL ?_))
 refine L.move hF rfl rfl rfl ?_
 obtain ⟨r2, hr2, H⟩ := bindS H
 refine L.call [false, false, false] [] [] 1 hF rfl rfl rfl ent78 rfl rfl rfl rfl rfl (Fimpl_within_gives k  a0 (0 : Int) (562949953421311 : Int) r2 hr2) rfl ?_
 refine L.not hF rfl rfl rfl (L.nil ?_)
 refine WpC.cond rfl (fun hc => ?_) (fun hc => ?_)
 ·replace H := condT hc H
  refine WpC.seq (WpC.regionL ?_)
  refine L.assign hF rfl rfl rfl (L.nil ?_)
  refine WpC.ret ?_
  cases H
  exact Leaves.ret rfl rfl rfl ⟨rfl, rfl⟩
 ·replace H := condF hc H
  refine WpC.skip (WpC.seq (WpC.regionL ?_))
  refine L.buildSlice (e := eB) 2 ([] : List UInt8) Try.underlying33 info5 rfl rfl rfl hF rfl rfl rfl rfl rfl rfl rfl rfl ?_
  refine L.assign hF rfl rfl rfl (L.nil ?_)
  refine WpC.seq (WpC.block ?_)
  refine WpC.loopL (P := Try.prog) (fun n σ => ∃ v16 : Int, ∃ v17 : List UInt8, n ≤ K ∧ Fimpl_Var.l2 n v16 v17 = some r ∧ σ = mkSt [(0, one (cI v16)), (3, one (Cell.own 0))] [(0, ⟨1, List.map eB v17⟩)] [] 1) k ⟨_, ⟨a0, ([] : List UInt8), by omega, H, rfl⟩, Le.mk [(0, 2)] hm rfl (Sa2 trivial) (Ra1 trivial) trivial⟩ ?_
  clear H
  rintro k2 _ ⟨v16, v17, hk2, H, rfl⟩
  cases k2 with
  | zero => cases H
  | succ k2 =>
   rw [Fimpl_Var.l2] at H
   refine WpC.seq (WpC.seq (WpC.regionL ?_))
   refine L.move hF rfl rfl rfl ?_
   refine L.bin hF rfl rfl rfl rfl rfl rfl (L.nil ?_)
   refine WpC.cond rfl (fun hc => ?_) (fun hc => ?_)
   ·replace H := condT hc H
    refine WpC.skip (WpC.block (WpC.seq (WpC.regionL ?_)))
    refine L.move hF rfl rfl rfl ?_
    refine L.move hF rfl rfl rfl ?_
    refine L.bin hF rfl rfl rfl rfl rfl rfl ?_
    refine L.bin hF rfl rfl rfl rfl rfl rfl ?_
    refine L.toB Try.underlying3 Try.underlying5 hF rfl rfl rfl ?_
    refine L.buildSlice (e := eB) 1 ([(ofI (Go.bits .or .i64 (Go.bits .and .i64 v16 (127 : Int)) (128 : Int)))] : List UInt8) Try.underlying33 info5 rfl rfl rfl hF rfl rfl rfl rfl rfl rfl rfl rfl ?_
    obtain ⟨h18, H⟩ := condG H
    refine L.append (xs := v17) (ys := ([(ofI (Go.bits .or .i64 (Go.bits .and .i64 v16 (127 : Int)) (128 : Int)))] : List UInt8)) (e := eB) 2 Try.underlying33 info5 rfl rfl hF rfl rfl rfl rfl rfl rfl rfl rfl (fun _ => rfl) (fun _ _ h1 h2 => by cases h1; cases h2; rfl) ⟨_, Try.underlying33⟩ (of_decide_eq_true h18) rfl rfl ?_
    refine L.assign hF rfl rfl rfl (L.nil ?_)
    refine WpC.regionL ?_
    refine L.move hF rfl rfl rfl ?_
    refine L.shr hF rfl rfl rfl rfl (by decide) ?_
    refine L.assign hF rfl rfl rfl (L.nil ?_)
    exact ⟨k2, _, by omega, ⟨(shrI .i64 v16 (7 : Int)), (v17 ++ ([(ofI (Go.bits .or .i64 (Go.bits .and .i64 v16 (127 : Int)) (128 : Int)))] : List UInt8)), by omega, H, rfl⟩, Le.mk [(0, 2)] hm rfl (Sa2 trivial) (Ra1 trivial) trivial⟩
   ·replace H := condF hc H
    refine WpC.exit (WpC.seq (WpC.regionL ?_))
    refine L.move hF rfl rfl rfl ?_
    refine L.move hF rfl rfl rfl ?_
    refine L.toB Try.underlying3 Try.underlying5 hF rfl rfl rfl ?_
    refine L.buildSlice (e := eB) 1 ([(ofI v16)] : List UInt8) Try.underlying33 info5 rfl rfl rfl hF rfl rfl rfl rfl rfl rfl rfl rfl ?_
    obtain ⟨h19, H⟩ := condG H
    refine L.append (xs := v17) (ys := ([(ofI v16)] : List UInt8)) (e := eB) 2 Try.underlying33 info5 rfl rfl hF rfl rfl rfl rfl rfl rfl rfl rfl (fun _ => rfl) (fun _ _ h1 h2 => by cases h1; cases h2; rfl) ⟨_, Try.underlying33⟩ (of_decide_eq_true h19) rfl rfl ?_
    refine L.b2s (xs := (v17 ++ ([(ofI v16)] : List UInt8))) Try.underlying33 Try.underlying5 Try.underlying9 hF rfl rfl rfl rfl ?_
    refine L.assign hF rfl rfl rfl (L.nil ?_)
    refine WpC.ret ?_
    cases H
    exact Leaves.ret rfl rfl rfl ⟨rfl, rfl⟩
/-! ### Fimpl_tlvText -/
def Fimpl_tlvText.l2 (cREC : (List Timpl_Tlv) → Int → Option (List UInt8)) : Nat → (List Timpl_Tlv) → (List UInt8) → Timpl_Tlv → Int → Int → Option (List UInt8)
 | 0, _, _, _, _, _ => none
 | k2 + 1, v59, v60, v61, v62, v63 => cond (decide (v63 < v62)) ((at? v61.Kids v63).bind fun b67 => (cREC v59 b67).bind fun r68 => cond (decide (v60.length + r68.length ≤ 9223372036854775807)) ((Fimpl_tlvText.l2 cREC k2) v59 (v60 ++ r68) v61 v62 (IntKind.i64.wrap (v63 + (1 : Int)))) none) ((Fimpl_Var k2 (v60.length : Int)).bind fun r70 => cond (decide (([(ofI (IntKind.i64.wrap (v61.Tag + (128 : Int))))] : List UInt8).length + r70.length ≤ 9223372036854775807)) (cond (decide ((([(ofI (IntKind.i64.wrap (v61.Tag + (128 : Int))))] : List UInt8) ++ r70).length + v60.length ≤ 9223372036854775807)) (some ((([(ofI (IntKind.i64.wrap (v61.Tag + (128 : Int))))] : List UInt8) ++ r70) ++ v60)) none) none)
def Fimpl_tlvText : Nat → (List Timpl_Tlv) → Int → Option (List UInt8)
 | 0, _, _ => none
 | k + 1, a0, a1 => (at? a0 a1).bind fun b1 => cond b1.Leaf ((Fimpl_Var k (b1.Data.length : Int)).bind fun r5 => cond (decide (([(ofI b1.Tag)] : List UInt8).length + r5.length ≤ 9223372036854775807)) (cond (decide ((([(ofI b1.Tag)] : List UInt8) ++ r5).length + b1.Data.length ≤ 9223372036854775807)) (some ((([(ofI b1.Tag)] : List UInt8) ++ r5) ++ b1.Data)) none) none) (Fimpl_tlvText.l2 (Fimpl_tlvText k) k a0 ([] : List UInt8) b1 (b1.Kids.length : Int) (0 : Int))
theorem ent74 : MG.Enters Try.prog 74 := ⟨Try.f74, Try.func74, rfl, by decide⟩
set_option maxHeartbeats 8000000 in
set_option maxRecDepth 100000 in
theorem Fimpl_tlvText_gives : ∀ (k : Nat) (g0 : Bool) (a0 : List Timpl_Tlv) (a1 : Int) (r : List UInt8) (H : Fimpl_tlvText k a0 a1 = some r), Gives Try.prog 74 [V.one (Cell.sl g0 (List.map eTimpl_Tlv a0)), V.one (cI a1)] [] [V.one (cS r)] [] := by
 intro k
 induction k with
 | zero => intros; rename_i H; cases H
 | succ k ih =>
  intro g0 a0 a1 r H
  refine Gives.intro Try.func74 rfl rfl rfl rfl ?_
  intro F hF hm
  rw [Fimpl_tlvText] at H
  obtain ⟨K, hK⟩ : ∃ K, k ≤ K := ⟨k, Nat.le_refl k⟩
  refine WpC.seq (WpC.regionL ?_)
  refine L.assign hF rfl rfl rfl (L.nil ?_)
  refine WpC.seq (WpC.regionL ?_)
  refine L.move hF rfl rfl rfl ?_
  refine L.move hF rfl rfl rfl ?_
  obtain ⟨b1, hb1, H⟩ := bindS H
  refine L.idxR (xs := a0) (e := eTimpl_Tlv) Try.underlying22 info45 hF rfl rfl rfl rfl rfl hb1 rfl rfl ?_
  refine L.loadPe shape45 hF rfl rfl rfl rfl rfl ?_
  refine L.alloc 2 info45 rfl hF rfl rfl rfl rfl ?_
  refine L.storePtr shape45 hF rfl rfl rfl rfl rfl rfl rfl (L.nil ?_)
  refine WpC.seq (WpC.seq (WpC.regionL ?_))
  refine L.fieldAddr Try.underlying45 rfl info4 rfl hF rfl rfl rfl rfl rfl ?_
  refine L.loadPtr shape4 hF rfl rfl rfl rfl rfl rfl (L.nil ?_)
  refine WpC.cond rfl (fun hc => ?_) (fun hc => ?_)
  ·replace H := condT hc H
   refine WpC.seq ?_
   obtain ⟨r5, hr5, H⟩ := bindS H
   obtain ⟨h6, H⟩ := condG H
   obtain ⟨h7, H⟩ := condG H
   refine A.begin mixed rfl rfl ?_
   intro W hI hO
   have n4095 : W 2 #[true, true, true, true, true, true, true, true, true, true, true, true, false, false] (mkSt [(4, one (cS ([] : List UInt8))), (24, one (cS (([(ofI b1.Tag)] : List UInt8) ++ r5))), (26, one (cS b1.Data))] [] [] 0) := by
    refine hI _ _ _ ?_
    refine Atk 12 rfl (Ca.bin rfl rfl (calm_str _ _ _ _ _ _)) (fun Q0 k0 => L.catS hF rfl rfl rfl rfl (of_decide_eq_true h7) (L.nil k0)) ?_
    refine Atk 13 rfl (Ca.assign) (fun Q0 k0 => L.assign hF rfl rfl rfl (L.nil k0)) ?_
    refine A.le (τ := mkSt [(4, one (cS ((([(ofI b1.Tag)] : List UInt8) ++ r5) ++ b1.Data)))] [] [] 0) (Le.mk [] hm rfl (Sa1 trivial) trivial trivial) ?_
    refine A.done (by kernel_rfl) ?_
    refine WpC.ret ?_
    cases H
    exact Leaves.ret rfl rfl rfl ⟨rfl, rfl⟩
   have n3583 : W 3 #[true, true, true, true, true, true, true, true, true, false, true, true, false, false] (mkSt [(4, one (cS ([] : List UInt8))), (19, one (cS ([(ofI b1.Tag)] : List UInt8))), (23, one (cS r5)), (26, one (cS b1.Data))] [] [] 0) := by
    refine hI _ _ _ ?_
    refine Atk 9 rfl (Ca.bin rfl rfl (calm_str _ _ _ _ _ _)) (fun Q0 k0 => L.catS hF rfl rfl rfl rfl (of_decide_eq_true h6) (L.nil k0)) ?_
    exact A.on (hO _ _ _ n4095) (Le.mk [] hm rfl (Sa2 (Sa1 trivial)) trivial trivial)
   have n1535 : W 4 #[true, true, true, true, true, true, true, true, true, false, true, false, false, false] (mkSt [(4, one (cS ([] : List UInt8))), (19, one (cS ([(ofI b1.Tag)] : List UInt8))), (23, one (cS r5)), (25, one (Cell.ptr 0 2))] [] [(0, (bTimpl_Tlv g0 b1))] 1) := by
    refine hI _ _ _ ?_
    refine Atk 9 rfl (Ca.bin rfl rfl (calm_str _ _ _ _ _ _)) (fun Q0 k0 => L.catS hF rfl rfl rfl rfl (of_decide_eq_true h6) (L.nil k0)) ?_
    refine A.all [11] (by kernel_rfl) rfl ⟨⟨_, rfl, ?_⟩, trivial⟩
    refine L.loadPtr shape9 hF rfl rfl rfl rfl rfl rfl (L.nil ?_)
    exact A.on (hO _ _ _ n4095) (Le.mk [] hm rfl (Sa2 (Sa1 trivial)) trivial trivial)
   have n3327 : W 4 #[true, true, true, true, true, true, true, true, false, false, true, true, false, false] (mkSt [(4, one (cS ([] : List UInt8))), (19, one (cS ([(ofI b1.Tag)] : List UInt8))), (22, one (cI (b1.Data.length : Int))), (26, one (cS b1.Data))] [] [] 0) := by
    refine hI _ _ _ ?_
    refine A.all [8] (by kernel_rfl) rfl ⟨⟨_, rfl, ?_⟩, trivial⟩
    refine L.call [false] [] [] 0 hF rfl rfl rfl ent64 rfl rfl rfl rfl rfl (Fimpl_Var_gives k  (b1.Data.length : Int) r5 hr5) rfl (L.nil ?_)
    exact A.on (hO _ _ _ n3583) (Le.mk [] hm rfl (Sa4 trivial) trivial trivial)
   have n3567 : W 4 #[true, true, true, true, false, true, true, true, true, false, true, true, false, false] (mkSt [(4, one (cS ([] : List UInt8))), (18, one (Cell.own 0)), (23, one (cS r5)), (26, one (cS b1.Data))] [(0, ⟨1, List.map eB ([(ofI b1.Tag)] : List UInt8)⟩)] [] 1) := by
    refine hI _ _ _ ?_
    refine A.all [4] (by kernel_rfl) rfl ⟨⟨_, rfl, ?_⟩, trivial⟩
    refine L.b2s (xs := ([(ofI b1.Tag)] : List UInt8)) Try.underlying33 Try.underlying5 Try.underlying9 hF rfl rfl rfl rfl (L.nil ?_)
    exact A.on (hO _ _ _ n3583) (Le.mk [] hm rfl (Sa4 trivial) trivial trivial)
   have n1279 : W 5 #[true, true, true, true, true, true, true, true, false, false, true, false, false, false] (mkSt [(4, one (cS ([] : List UInt8))), (19, one (cS ([(ofI b1.Tag)] : List UInt8))), (22, one (cI (b1.Data.length : Int))), (25, one (Cell.ptr 0 2))] [] [(0, (bTimpl_Tlv g0 b1))] 1) := by
    refine hI _ _ _ ?_
    refine A.all [8, 11] (by kernel_rfl) rfl ⟨⟨_, rfl, ?_⟩, ⟨_, rfl, ?_⟩, trivial⟩
    ·refine L.call [false] [] [] 1 hF rfl rfl rfl ent64 rfl rfl rfl rfl rfl (Fimpl_Var_gives k  (b1.Data.length : Int) r5 hr5) rfl (L.nil ?_)
     exact A.on (hO _ _ _ n1535) (Le.mk [(0, 0)] hm rfl (Sa4 trivial) trivial (Ba1 trivial))
    ·refine L.loadPtr shape9 hF rfl rfl rfl rfl rfl rfl (L.nil ?_)
     exact A.on (hO _ _ _ n3327) (Le.mk [] hm rfl (Sa4 trivial) trivial trivial)
   have n3559 : W 5 #[true, true, true, false, false, true, true, true, true, false, true, true, false, false] (mkSt [(4, one (cS ([] : List UInt8))), (17, one (cU (ofI b1.Tag))), (23, one (cS r5)), (26, one (cS b1.Data))] [] [] 0) := by
    refine hI _ _ _ ?_
    refine A.all [3] (by kernel_rfl) rfl ⟨⟨_, rfl, ?_⟩, trivial⟩
    refine L.buildSlice (e := eB) 0 ([(ofI b1.Tag)] : List UInt8) Try.underlying33 info5 rfl rfl rfl hF rfl rfl rfl rfl rfl rfl rfl rfl (L.nil ?_)
    exact A.on (hO _ _ _ n3567) (Le.mk [(0, 0)] hm rfl (Sa4 trivial) (Ra1 trivial) trivial)
   have n3311 : W 5 #[true, true, true, true, false, true, true, true, false, false, true, true, false, false] (mkSt [(4, one (cS ([] : List UInt8))), (18, one (Cell.own 0)), (22, one (cI (b1.Data.length : Int))), (26, one (cS b1.Data))] [(0, ⟨1, List.map eB ([(ofI b1.Tag)] : List UInt8)⟩)] [] 1) := by
    refine hI _ _ _ ?_
    refine A.all [4, 8] (by kernel_rfl) rfl ⟨⟨_, rfl, ?_⟩, ⟨_, rfl, ?_⟩, trivial⟩
    ·refine L.b2s (xs := ([(ofI b1.Tag)] : List UInt8)) Try.underlying33 Try.underlying5 Try.underlying9 hF rfl rfl rfl rfl (L.nil ?_)
     exact A.on (hO _ _ _ n3327) (Le.mk [] hm rfl (Sa4 trivial) trivial trivial)
    ·refine L.call [false] [] [] 1 hF rfl rfl rfl ent64 rfl rfl rfl rfl rfl (Fimpl_Var_gives k  (b1.Data.length : Int) r5 hr5) rfl (L.nil ?_)
     exact A.on (hO _ _ _ n3567) (Le.mk [(0, 0)] hm rfl (Sa4 trivial) (Ra1 trivial) trivial)
   have n1519 : W 5 #[true, true, true, true, false, true, true, true, true, false, true, false, false, false] (mkSt [(4, one (cS ([] : List UInt8))), (18, one (Cell.own 0)), (23, one (cS r5)), (25, one (Cell.ptr 1 2))] [(0, ⟨1, List.map eB ([(ofI b1.Tag)] : List UInt8)⟩)] [(1, (bTimpl_Tlv g0 b1))] 2) := by
    refine hI _ _ _ ?_
    refine A.all [4, 11] (by kernel_rfl) rfl ⟨⟨_, rfl, ?_⟩, ⟨_, rfl, ?_⟩, trivial⟩
    ·refine L.b2s (xs := ([(ofI b1.Tag)] : List UInt8)) Try.underlying33 Try.underlying5 Try.underlying9 hF rfl rfl rfl rfl (L.nil ?_)
     exact A.on (hO _ _ _ n1535) (Le.mk [(0, 1)] hm rfl (Sa4 trivial) trivial (Ba1 trivial))
    ·refine L.loadPtr shape9 hF rfl rfl rfl rfl rfl rfl (L.nil ?_)
     exact A.on (hO _ _ _ n3567) (Le.mk [(0, 0)] hm rfl (Sa4 trivial) (Ra1 trivial) trivial)
   have n3135 : W 6 #[true, true, true, true, true, true, false, false, false, false, true, true, false, false] (mkSt [(4, one (cS ([] : List UInt8))), (19, one (cS ([(ofI b1.Tag)] : List UInt8))), (20, one (Cell.ptr 0 2)), (26, one (cS b1.Data))] [] [(0, (bTimpl_Tlv g0 b1))] 1) := by
    refine hI _ _ _ ?_
    refine A.all [6] (by kernel_rfl) rfl ⟨⟨_, rfl, ?_⟩, trivial⟩
    refine L.loadPtr shape9 hF rfl rfl rfl rfl rfl rfl (L.nil ?_)
    refine Atk 7 rfl (Ca.lenS Try.underlying9 rfl) (fun Q0 k0 => L.lenS Try.underlying9 hF rfl rfl rfl (L.nil k0)) ?_
    exact A.on (hO _ _ _ n3327) (Le.mk [] hm rfl (Sa4 trivial) trivial trivial)
   have n3303 : W 6 #[true, true, true, false, false, true, true, true, false, false, true, true, false, false] (mkSt [(4, one (cS ([] : List UInt8))), (17, one (cU (ofI b1.Tag))), (22, one (cI (b1.Data.length : Int))), (26, one (cS b1.Data))] [] [] 0) := by
    refine hI _ _ _ ?_
    refine A.all [3, 8] (by kernel_rfl) rfl ⟨⟨_, rfl, ?_⟩, ⟨_, rfl, ?_⟩, trivial⟩
    ·refine L.buildSlice (e := eB) 0 ([(ofI b1.Tag)] : List UInt8) Try.underlying33 info5 rfl rfl rfl hF rfl rfl rfl rfl rfl rfl rfl rfl (L.nil ?_)
     exact A.on (hO _ _ _ n3311) (Le.mk [(0, 0)] hm rfl (Sa4 trivial) (Ra1 trivial) trivial)
    ·refine L.call [false] [] [] 0 hF rfl rfl rfl ent64 rfl rfl rfl rfl rfl (Fimpl_Var_gives k  (b1.Data.length : Int) r5 hr5) rfl (L.nil ?_)
     exact A.on (hO _ _ _ n3559) (Le.mk [] hm rfl (Sa4 trivial) trivial trivial)
   have n1511 : W 6 #[true, true, true, false, false, true, true, true, true, false, true, false, false, false] (mkSt [(4, one (cS ([] : List UInt8))), (17, one (cU (ofI b1.Tag))), (23, one (cS r5)), (25, one (Cell.ptr 0 2))] [] [(0, (bTimpl_Tlv g0 b1))] 1) := by
    refine hI _ _ _ ?_
    refine A.all [3, 11] (by kernel_rfl) rfl ⟨⟨_, rfl, ?_⟩, ⟨_, rfl, ?_⟩, trivial⟩
    ·refine L.buildSlice (e := eB) 1 ([(ofI b1.Tag)] : List UInt8) Try.underlying33 info5 rfl rfl rfl hF rfl rfl rfl rfl rfl rfl rfl rfl (L.nil ?_)
     exact A.on (hO _ _ _ n1519) (Le.mk [(0, 1), (1, 0)] hm rfl (Sa4 trivial) (Ra1 trivial) (Ba1 trivial))
    ·refine L.loadPtr shape9 hF rfl rfl rfl rfl rfl rfl (L.nil ?_)
     exact A.on (hO _ _ _ n3559) (Le.mk [] hm rfl (Sa4 trivial) trivial trivial)
   have n1263 : W 6 #[true, true, true, true, false, true, true, true, false, false, true, false, false, false] (mkSt [(4, one (cS ([] : List UInt8))), (18, one (Cell.own 0)), (22, one (cI (b1.Data.length : Int))), (25, one (Cell.ptr 1 2))] [(0, ⟨1, List.map eB ([(ofI b1.Tag)] : List UInt8)⟩)] [(1, (bTimpl_Tlv g0 b1))] 2) := by
    refine hI _ _ _ ?_
    refine A.all [4, 8, 11] (by kernel_rfl) rfl ⟨⟨_, rfl, ?_⟩, ⟨_, rfl, ?_⟩, ⟨_, rfl, ?_⟩, trivial⟩
    ·refine L.b2s (xs := ([(ofI b1.Tag)] : List UInt8)) Try.underlying33 Try.underlying5 Try.underlying9 hF rfl rfl rfl rfl (L.nil ?_)
     exact A.on (hO _ _ _ n1279) (Le.mk [(0, 1)] hm rfl (Sa4 trivial) trivial (Ba1 trivial))
    ·refine L.call [false] [] [] 2 hF rfl rfl rfl ent64 rfl rfl rfl rfl rfl (Fimpl_Var_gives k  (b1.Data.length : Int) r5 hr5) rfl (L.nil ?_)
     exact A.on (hO _ _ _ n1519) (Le.mk [(0, 0), (1, 1)] hm rfl (Sa4 trivial) (Ra1 trivial) (Ba1 trivial))
    ·refine L.loadPtr shape9 hF rfl rfl rfl rfl rfl rfl (L.nil ?_)
     exact A.on (hO _ _ _ n3311) (Le.mk [(0, 0)] hm rfl (Sa4 trivial) (Ra1 trivial) trivial)
   have n3119 : W 7 #[true, true, true, true, false, true, false, false, false, false, true, true, false, false] (mkSt [(4, one (cS ([] : List UInt8))), (18, one (Cell.own 0)), (20, one (Cell.ptr 1 2)), (26, one (cS b1.Data))] [(0, ⟨1, List.map eB ([(ofI b1.Tag)] : List UInt8)⟩)] [(1, (bTimpl_Tlv g0 b1))] 2) := by
    refine hI _ _ _ ?_
    refine A.all [4, 6] (by kernel_rfl) rfl ⟨⟨_, rfl, ?_⟩, ⟨_, rfl, ?_⟩, trivial⟩
    ·refine L.b2s (xs := ([(ofI b1.Tag)] : List UInt8)) Try.underlying33 Try.underlying5 Try.underlying9 hF rfl rfl rfl rfl (L.nil ?_)
     exact A.on (hO _ _ _ n3135) (Le.mk [(0, 1)] hm rfl (Sa4 trivial) trivial (Ba1 trivial))
    ·refine L.loadPtr shape9 hF rfl rfl rfl rfl rfl rfl (L.nil ?_)
     refine Atk 7 rfl (Ca.lenS Try.underlying9 rfl) (fun Q0 k0 => L.lenS Try.underlying9 hF rfl rfl rfl (L.nil k0)) ?_
     exact A.on (hO _ _ _ n3311) (Le.mk [(0, 0)] hm rfl (Sa4 trivial) (Ra1 trivial) trivial)
   have n3553 : W 7 #[true, false, false, false, false, true, true, true, true, false, true, true, false, false] (mkSt [(4, one (cS ([] : List UInt8))), (15, one (Cell.ptr 0 0)), (23, one (cS r5)), (26, one (cS b1.Data))] [] [(0, (bTimpl_Tlv g0 b1))] 1) := by
    refine hI _ _ _ ?_
    refine A.all [1] (by kernel_rfl) rfl ⟨⟨_, rfl, ?_⟩, trivial⟩
    refine L.loadPtr shape3 hF rfl rfl rfl rfl rfl rfl (L.nil ?_)
    refine Atk 2 rfl (Ca.conv Try.underlying3 Try.underlying5 rfl) (fun Q0 k0 => L.toB Try.underlying3 Try.underlying5 hF rfl rfl rfl (L.nil k0)) ?_
    exact A.on (hO _ _ _ n3559) (Le.mk [] hm rfl (Sa4 trivial) trivial trivial)
   have n1255 : W 7 #[true, true, true, false, false, true, true, true, false, false, true, false, false, false] (mkSt [(4, one (cS ([] : List UInt8))), (17, one (cU (ofI b1.Tag))), (22, one (cI (b1.Data.length : Int))), (25, one (Cell.ptr 0 2))] [] [(0, (bTimpl_Tlv g0 b1))] 1) := by
    refine hI _ _ _ ?_
    refine A.all [3, 8, 11] (by kernel_rfl) rfl ⟨⟨_, rfl, ?_⟩, ⟨_, rfl, ?_⟩, ⟨_, rfl, ?_⟩, trivial⟩
    ·refine L.buildSlice (e := eB) 1 ([(ofI b1.Tag)] : List UInt8) Try.underlying33 info5 rfl rfl rfl hF rfl rfl rfl rfl rfl rfl rfl rfl (L.nil ?_)
     exact A.on (hO _ _ _ n1263) (Le.mk [(0, 1), (1, 0)] hm rfl (Sa4 trivial) (Ra1 trivial) (Ba1 trivial))
    ·refine L.call [false] [] [] 1 hF rfl rfl rfl ent64 rfl rfl rfl rfl rfl (Fimpl_Var_gives k  (b1.Data.length : Int) r5 hr5) rfl (L.nil ?_)
     exact A.on (hO _ _ _ n1511) (Le.mk [(0, 0)] hm rfl (Sa4 trivial) trivial (Ba1 trivial))
    ·refine L.loadPtr shape9 hF rfl rfl rfl rfl rfl rfl (L.nil ?_)
     exact A.on (hO _ _ _ n3303) (Le.mk [] hm rfl (Sa4 trivial) trivial trivial)
   have n3111 : W 8 #[true, true, true, false, false, true, false, false, false, false, true, true, false, false] (mkSt [(4, one (cS ([] : List UInt8))), (17, one (cU (ofI b1.Tag))), (20, one (Cell.ptr 0 2)), (26, one (cS b1.Data))] [] [(0, (bTimpl_Tlv g0 b1))] 1) := by
    refine hI _ _ _ ?_
    refine A.all [3, 6] (by kernel_rfl) rfl ⟨⟨_, rfl, ?_⟩, ⟨_, rfl, ?_⟩, trivial⟩
    ·refine L.buildSlice (e := eB) 1 ([(ofI b1.Tag)] : List UInt8) Try.underlying33 info5 rfl rfl rfl hF rfl rfl rfl rfl rfl rfl rfl rfl (L.nil ?_)
     exact A.on (hO _ _ _ n3119) (Le.mk [(0, 1), (1, 0)] hm rfl (Sa4 trivial) (Ra1 trivial) (Ba1 trivial))
    ·refine L.loadPtr shape9 hF rfl rfl rfl rfl rfl rfl (L.nil ?_)
     refine Atk 7 rfl (Ca.lenS Try.underlying9 rfl) (fun Q0 k0 => L.lenS Try.underlying9 hF rfl rfl rfl (L.nil k0)) ?_
     exact A.on (hO _ _ _ n3303) (Le.mk [] hm rfl (Sa4 trivial) trivial trivial)
   have n3297 : W 8 #[true, false, false, false, false, true, true, true, false, false, true, true, false, false] (mkSt [(4, one (cS ([] : List UInt8))), (15, one (Cell.ptr 0 0)), (22, one (cI (b1.Data.length : Int))), (26, one (cS b1.Data))] [] [(0, (bTimpl_Tlv g0 b1))] 1) := by
    refine hI _ _ _ ?_
    refine A.all [1, 8] (by kernel_rfl) rfl ⟨⟨_, rfl, ?_⟩, ⟨_, rfl, ?_⟩, trivial⟩
    ·refine L.loadPtr shape3 hF rfl rfl rfl rfl rfl rfl (L.nil ?_)
     refine Atk 2 rfl (Ca.conv Try.underlying3 Try.underlying5 rfl) (fun Q0 k0 => L.toB Try.underlying3 Try.underlying5 hF rfl rfl rfl (L.nil k0)) ?_
     exact A.on (hO _ _ _ n3303) (Le.mk [] hm rfl (Sa4 trivial) trivial trivial)
    ·refine L.call [false] [] [] 1 hF rfl rfl rfl ent64 rfl rfl rfl rfl rfl (Fimpl_Var_gives k  (b1.Data.length : Int) r5 hr5) rfl (L.nil ?_)
     exact A.on (hO _ _ _ n3553) (Le.mk [(0, 0)] hm rfl (Sa4 trivial) trivial (Ba1 trivial))
   refine hI _ _ _ ?_
   refine Atk 0 rfl (Ca.fieldAddr Try.underlying45 rfl info3 rfl) (fun Q0 k0 => L.fieldAddr Try.underlying45 rfl info3 rfl hF rfl rfl rfl rfl rfl (L.nil k0)) ?_
   refine Atk 5 rfl (Ca.fieldAddr Try.underlying45 rfl info9 rfl) (fun Q0 k0 => L.fieldAddr Try.underlying45 rfl info9 rfl hF rfl rfl rfl rfl rfl (L.nil k0)) ?_
   refine Atk 10 rfl (Ca.fieldAddr Try.underlying45 rfl info9 rfl) (fun Q0 k0 => L.fieldAddr Try.underlying45 rfl info9 rfl hF rfl rfl rfl rfl rfl (L.nil k0)) ?_
   refine A.all [1, 6, 11] (by kernel_rfl) rfl ⟨⟨_, rfl, ?_⟩, ⟨_, rfl, ?_⟩, ⟨_, rfl, ?_⟩, trivial⟩
   ·refine L.loadPtr shape3 hF rfl rfl rfl rfl rfl rfl (L.nil ?_)
    refine Atk 2 rfl (Ca.conv Try.underlying3 Try.underlying5 rfl) (fun Q0 k0 => L.toB Try.underlying3 Try.underlying5 hF rfl rfl rfl (L.nil k0)) ?_
    refine A.all [3, 6, 11] (by kernel_rfl) rfl ⟨⟨_, rfl, ?_⟩, ⟨_, rfl, ?_⟩, ⟨_, rfl, ?_⟩, trivial⟩
    ·refine L.buildSlice (e := eB) 3 ([(ofI b1.Tag)] : List UInt8) Try.underlying33 info5 rfl rfl rfl hF rfl rfl rfl rfl rfl rfl rfl rfl (L.nil ?_)
     refine A.all [4, 6, 11] (by kernel_rfl) rfl ⟨⟨_, rfl, ?_⟩, ⟨_, rfl, ?_⟩, ⟨_, rfl, ?_⟩, trivial⟩
     ·refine L.b2s (xs := ([(ofI b1.Tag)] : List UInt8)) Try.underlying33 Try.underlying5 Try.underlying9 hF rfl rfl rfl rfl (L.nil ?_)
      refine A.all [6, 11] (by kernel_rfl) rfl ⟨⟨_, rfl, ?_⟩, ⟨_, rfl, ?_⟩, trivial⟩
      ·refine L.loadPtr shape9 hF rfl rfl rfl rfl rfl rfl (L.nil ?_)
       refine Atk 7 rfl (Ca.lenS Try.underlying9 rfl) (fun Q0 k0 => L.lenS Try.underlying9 hF rfl rfl rfl (L.nil k0)) ?_
       exact A.on (hO _ _ _ n1279) (Le.mk [(0, 2)] hm rfl (Sa4 trivial) trivial (Ba1 trivial))
      ·refine L.loadPtr shape9 hF rfl rfl rfl rfl rfl rfl (L.nil ?_)
       exact A.on (hO _ _ _ n3135) (Le.mk [(0, 2)] hm rfl (Sa4 trivial) trivial (Ba1 trivial))
     ·refine L.loadPtr shape9 hF rfl rfl rfl rfl rfl rfl (L.nil ?_)
      refine Atk 7 rfl (Ca.lenS Try.underlying9 rfl) (fun Q0 k0 => L.lenS Try.underlying9 hF rfl rfl rfl (L.nil k0)) ?_
      exact A.on (hO _ _ _ n1263) (Le.mk [(0, 3), (1, 2)] hm rfl (Sa4 trivial) (Ra1 trivial) (Ba1 trivial))
     ·refine L.loadPtr shape9 hF rfl rfl rfl rfl rfl rfl (L.nil ?_)
      exact A.on (hO _ _ _ n3119) (Le.mk [(0, 3), (1, 2)] hm rfl (Sa4 trivial) (Ra1 trivial) (Ba1 trivial))
    ·refine L.loadPtr shape9 hF rfl rfl rfl rfl rfl rfl (L.nil ?_)
     refine Atk 7 rfl (Ca.lenS Try.underlying9 rfl) (fun Q0 k0 => L.lenS Try.underlying9 hF rfl rfl rfl (L.nil k0)) ?_
     exact A.on (hO _ _ _ n1255) (Le.mk [(0, 2)] hm rfl (Sa4 trivial) trivial (Ba1 trivial))
    ·refine L.loadPtr shape9 hF rfl rfl rfl rfl rfl rfl (L.nil ?_)
     exact A.on (hO _ _ _ n3111) (Le.mk [(0, 2)] hm rfl (Sa4 trivial) trivial (Ba1 trivial))
   ·refine L.loadPtr shape9 hF rfl rfl rfl rfl rfl rfl (L.nil ?_)
    refine Atk 7 rfl (Ca.lenS Try.underlying9 rfl) (fun Q0 k0 => L.lenS Try.underlying9 hF rfl rfl rfl (L.nil k0)) ?_
    refine A.all [1, 8, 11] (by kernel_rfl) rfl ⟨⟨_, rfl, ?_⟩, ⟨_, rfl, ?_⟩, ⟨_, rfl, ?_⟩, trivial⟩
    ·refine L.loadPtr shape3 hF rfl rfl rfl rfl rfl rfl (L.nil ?_)
     refine Atk 2 rfl (Ca.conv Try.underlying3 Try.underlying5 rfl) (fun Q0 k0 => L.toB Try.underlying3 Try.underlying5 hF rfl rfl rfl (L.nil k0)) ?_
     exact A.on (hO _ _ _ n1255) (Le.mk [(0, 2)] hm rfl (Sa4 trivial) trivial (Ba1 trivial))
    ·refine L.call [false] [] [] 3 hF rfl rfl rfl ent64 rfl rfl rfl rfl rfl (Fimpl_Var_gives k  (b1.Data.length : Int) r5 hr5) rfl (L.nil ?_)
     refine A.all [1, 11] (by kernel_rfl) rfl ⟨⟨_, rfl, ?_⟩, ⟨_, rfl, ?_⟩, trivial⟩
     ·refine L.loadPtr shape3 hF rfl rfl rfl rfl rfl rfl (L.nil ?_)
      refine Atk 2 rfl (Ca.conv Try.underlying3 Try.underlying5 rfl) (fun Q0 k0 => L.toB Try.underlying3 Try.underlying5 hF rfl rfl rfl (L.nil k0)) ?_
      exact A.on (hO _ _ _ n1511) (Le.mk [(0, 2)] hm rfl (Sa4 trivial) trivial (Ba1 trivial))
     ·refine L.loadPtr shape9 hF rfl rfl rfl rfl rfl rfl (L.nil ?_)
      exact A.on (hO _ _ _ n3553) (Le.mk [(0, 2)] hm rfl (Sa4 trivial) trivial (Ba1 trivial))
    ·refine L.loadPtr shape9 hF rfl rfl rfl rfl rfl rfl (L.nil ?_)
     exact A.on (hO _ _ _ n3297) (Le.mk [(0, 2)] hm rfl (Sa4 trivial) trivial (Ba1 trivial))
   ·refine L.loadPtr shape9 hF rfl rfl rfl rfl rfl rfl (L.nil ?_)
    refine A.all [1, 6] (by kernel_rfl) rfl ⟨⟨_, rfl, ?_⟩, ⟨_, rfl, ?_⟩, trivial⟩
    ·refine L.loadPtr shape3 hF rfl rfl rfl rfl rfl rfl (L.nil ?_)
     refine Atk 2 rfl (Ca.conv Try.underlying3 Try.underlying5 rfl) (fun Q0 k0 => L.toB Try.underlying3 Try.underlying5 hF rfl rfl rfl (L.nil k0)) ?_
     exact A.on (hO _ _ _ n3111) (Le.mk [(0, 2)] hm rfl (Sa4 trivial) trivial (Ba1 trivial))
    ·refine L.loadPtr shape9 hF rfl rfl rfl rfl rfl rfl (L.nil ?_)
     refine Atk 7 rfl (Ca.lenS Try.underlying9 rfl) (fun Q0 k0 => L.lenS Try.underlying9 hF rfl rfl rfl (L.nil k0)) ?_
     exact A.on (hO _ _ _ n3297) (Le.mk [(0, 2)] hm rfl (Sa4 trivial) trivial (Ba1 trivial))
  ·replace H := condF hc H
   refine WpC.skip (WpC.seq (WpC.regionL ?_))
   refine L.assign hF rfl rfl rfl (L.nil ?_)
   refine WpC.seq (WpC.seq (WpC.regionL ?_))
   refine L.fieldAddr Try.underlying45 rfl info39 rfl hF rfl rfl rfl rfl rfl ?_
   refine L.loadPtr shape39 hF rfl rfl rfl rfl rfl rfl ?_
   refine L.lenR (xs := b1.Kids) (e := eI) Try.underlying39 hF rfl rfl rfl rfl ?_
   refine L.move hF rfl rfl rfl (L.nil ?_)
   refine WpC.block ?_
   refine WpC.loopL (P := Try.prog) (fun n σ => ∃ v59 : List Timpl_Tlv, ∃ v60 : List UInt8, ∃ v61 : Timpl_Tlv, ∃ v62 : Int, ∃ v63 : Int, n ≤ K ∧ Fimpl_tlvText.l2 (Fimpl_tlvText k) n v59 v60 v61 v62 v63 = some r ∧ σ = mkSt [(0, one (Cell.sl g0 (List.map eTimpl_Tlv v59))), (5, one (Cell.ptr 0 0)), (6, one (cS v60)), (29, one (Cell.sl g0 (List.map eI v61.Kids))), (30, one (cI v62)), (31, one (cI v63))] [] [(0, (bTimpl_Tlv g0 v61))] 1) k ⟨_, ⟨a0, ([] : List UInt8), b1, (b1.Kids.length : Int), (0 : Int), by omega, H, rfl⟩, Le.mk [(0, 2)] hm rfl (Sa4 (Sa2 trivial)) trivial (Ba1 trivial)⟩ ?_
   clear H
   rintro k2 _ ⟨v59, v60, v61, v62, v63, hk2, H, rfl⟩
   cases k2 with
   | zero => cases H
   | succ k2 =>
    rw [Fimpl_tlvText.l2] at H
    refine WpC.seq (WpC.regionL ?_)
    refine L.bin hF rfl rfl rfl rfl rfl rfl (L.nil ?_)
    refine WpC.seq ?_
    refine WpC.cond rfl (fun hc => ?_) (fun hc => ?_)
    ·replace H := condT hc H
     refine WpC.skip (WpC.seq (WpC.block (WpC.seq (WpC.regionL ?_))))
     obtain ⟨b67, hb67, H⟩ := bindS H
     refine L.idxR (xs := v61.Kids) (e := eI) Try.underlying39 info3 hF rfl rfl rfl rfl rfl hb67 rfl rfl ?_
     refine L.loadPe shape3 hF rfl rfl rfl rfl rfl ?_
     refine L.assign hF rfl rfl rfl (L.nil ?_)
     refine WpC.regionL ?_
     refine L.move hF rfl rfl rfl ?_
     refine L.move hF rfl rfl rfl ?_
     refine L.move hF rfl rfl rfl ?_
     obtain ⟨r68, hr68, H⟩ := bindS H
     refine L.call [false, false] [] [] 1 hF rfl rfl rfl ent74 rfl rfl rfl rfl rfl (ih g0 v59 b67 r68 hr68) rfl ?_
     obtain ⟨h69, H⟩ := condG H
     refine L.catS hF rfl rfl rfl rfl (of_decide_eq_true h69) ?_
     refine L.assign hF rfl rfl rfl (L.nil ?_)
     refine WpC.regionL ?_
     refine L.bin hF rfl rfl rfl rfl rfl rfl ?_
     refine L.move hF rfl rfl rfl (L.nil ?_)
     exact ⟨k2, _, by omega, ⟨v59, (v60 ++ r68), v61, v62, (IntKind.i64.wrap (v63 + (1 : Int))), by omega, H, rfl⟩, Le.mk [(0, 0)] hm rfl (Sa4 (Sa2 trivial)) trivial (Ba1 trivial)⟩
    ·replace H := condF hc H
     refine WpC.exit (WpC.seq ?_)
     obtain ⟨r70, hr70, H⟩ := bindS H
     obtain ⟨h71, H⟩ := condG H
     obtain ⟨h72, H⟩ := condG H
     refine A.begin mixed rfl rfl ?_
     intro W hI hO
     have n1535 : W 3 #[true, true, true, true, true, true, true, true, true, false, true, false, false] (mkSt [(46, one (cS ([(ofI (IntKind.i64.wrap (v61.Tag + (128 : Int))))] : List UInt8))), (49, one (cS r70)), (51, one (cS v60))] [] [] 0) := by
      refine hI _ _ _ ?_
      refine Atk 9 rfl (Ca.bin rfl rfl (calm_str _ _ _ _ _ _)) (fun Q0 k0 => L.catS hF rfl rfl rfl rfl (of_decide_eq_true h71) (L.nil k0)) ?_
      refine Atk 11 rfl (Ca.bin rfl rfl (calm_str _ _ _ _ _ _)) (fun Q0 k0 => L.catS hF rfl rfl rfl rfl (of_decide_eq_true h72) (L.nil k0)) ?_
      refine Atk 12 rfl (Ca.assign) (fun Q0 k0 => L.assign hF rfl rfl rfl (L.nil k0)) ?_
      refine A.le (τ := mkSt [(4, one (cS ((([(ofI (IntKind.i64.wrap (v61.Tag + (128 : Int))))] : List UInt8) ++ r70) ++ v60)))] [] [] 0) (Le.mk [] hm rfl (Sa1 trivial) trivial trivial) ?_
      refine A.done (by kernel_rfl) ?_
      refine WpC.ret ?_
      cases H
      exact Leaves.ret rfl rfl rfl ⟨rfl, rfl⟩
     have n1503 : W 4 #[true, true, true, true, true, false, true, true, true, false, true, false, false] (mkSt [(45, one (Cell.own 0)), (49, one (cS r70)), (51, one (cS v60))] [(0, ⟨1, List.map eB ([(ofI (IntKind.i64.wrap (v61.Tag + (128 : Int))))] : List UInt8)⟩)] [] 1) := by
      refine hI _ _ _ ?_
      refine A.all [5] (by kernel_rfl) rfl ⟨⟨_, rfl, ?_⟩, trivial⟩
      refine L.b2s (xs := ([(ofI (IntKind.i64.wrap (v61.Tag + (128 : Int))))] : List UInt8)) Try.underlying33 Try.underlying5 Try.underlying9 hF rfl rfl rfl rfl (L.nil ?_)
      exact A.on (hO _ _ _ n1535) (Le.mk [] hm rfl (Sa2 (Sa1 trivial)) trivial trivial)
     have n1487 : W 5 #[true, true, true, true, false, false, true, true, true, false, true, false, false] (mkSt [(44, one (cU (ofI (IntKind.i64.wrap (v61.Tag + (128 : Int)))))), (49, one (cS r70)), (51, one (cS v60))] [] [] 0) := by
      refine hI _ _ _ ?_
      refine A.all [4] (by kernel_rfl) rfl ⟨⟨_, rfl, ?_⟩, trivial⟩
      refine L.buildSlice (e := eB) 0 ([(ofI (IntKind.i64.wrap (v61.Tag + (128 : Int))))] : List UInt8) Try.underlying33 info5 rfl rfl rfl hF rfl rfl rfl rfl rfl rfl rfl rfl (L.nil ?_)
      exact A.on (hO _ _ _ n1503) (Le.mk [(0, 0)] hm rfl (Sa2 (Sa1 trivial)) (Ra1 trivial) trivial)
     refine hI _ _ _ ?_
     refine Atk 0 rfl (Ca.fieldAddr Try.underlying45 rfl info3 rfl) (fun Q0 k0 => L.fieldAddr Try.underlying45 rfl info3 rfl hF rfl rfl rfl rfl rfl (L.nil k0)) ?_
     refine Atk 6 rfl (Ca.move) (fun Q0 k0 => L.move hF rfl rfl rfl (L.nil k0)) ?_
     refine Atk 7 rfl (Ca.lenS Try.underlying9 rfl) (fun Q0 k0 => L.lenS Try.underlying9 hF rfl rfl rfl (L.nil k0)) ?_
     refine Atk 10 rfl (Ca.move) (fun Q0 k0 => L.move hF rfl rfl rfl (L.nil k0)) ?_
     refine A.all [1, 8] (by kernel_rfl) rfl ⟨⟨_, rfl, ?_⟩, ⟨_, rfl, ?_⟩, trivial⟩
     ·refine L.loadPtr shape3 hF rfl rfl rfl rfl rfl rfl (L.nil ?_)
      refine Atk 2 rfl (Ca.bin rfl rfl (calm_int _ _ _ _ _ _ _ _)) (fun Q0 k0 => L.bin hF rfl rfl rfl rfl rfl rfl (L.nil k0)) ?_
      refine Atk 3 rfl (Ca.conv Try.underlying3 Try.underlying5 rfl) (fun Q0 k0 => L.toB Try.underlying3 Try.underlying5 hF rfl rfl rfl (L.nil k0)) ?_
      refine A.all [4, 8] (by kernel_rfl) rfl ⟨⟨_, rfl, ?_⟩, ⟨_, rfl, ?_⟩, trivial⟩
      ·refine L.buildSlice (e := eB) 1 ([(ofI (IntKind.i64.wrap (v61.Tag + (128 : Int))))] : List UInt8) Try.underlying33 info5 rfl rfl rfl hF rfl rfl rfl rfl rfl rfl rfl rfl (L.nil ?_)
       refine A.all [5, 8] (by kernel_rfl) rfl ⟨⟨_, rfl, ?_⟩, ⟨_, rfl, ?_⟩, trivial⟩
       ·refine L.b2s (xs := ([(ofI (IntKind.i64.wrap (v61.Tag + (128 : Int))))] : List UInt8)) Try.underlying33 Try.underlying5 Try.underlying9 hF rfl rfl rfl rfl (L.nil ?_)
        refine A.all [8] (by kernel_rfl) rfl ⟨⟨_, rfl, ?_⟩, trivial⟩
        refine L.call [false] [] [] 2 hF rfl rfl rfl ent64 rfl rfl rfl rfl rfl (Fimpl_Var_gives k2  (v60.length : Int) r70 hr70) rfl (L.nil ?_)
        exact A.on (hO _ _ _ n1535) (Le.mk [] hm rfl (Sa2 (Sa1 trivial)) trivial trivial)
       ·refine L.call [false] [] [] 2 hF rfl rfl rfl ent64 rfl rfl rfl rfl rfl (Fimpl_Var_gives k2  (v60.length : Int) r70 hr70) rfl (L.nil ?_)
        exact A.on (hO _ _ _ n1503) (Le.mk [(0, 1)] hm rfl (Sa2 (Sa1 trivial)) (Ra1 trivial) trivial)
      ·refine L.call [false] [] [] 1 hF rfl rfl rfl ent64 rfl rfl rfl rfl rfl (Fimpl_Var_gives k2  (v60.length : Int) r70 hr70) rfl (L.nil ?_)
       exact A.on (hO _ _ _ n1487) (Le.mk [] hm rfl (Sa2 (Sa1 trivial)) trivial trivial)
     ·refine L.call [false] [] [] 1 hF rfl rfl rfl ent64 rfl rfl rfl rfl rfl (Fimpl_Var_gives k2  (v60.length : Int) r70 hr70) rfl (L.nil ?_)
      refine A.all [1] (by kernel_rfl) rfl ⟨⟨_, rfl, ?_⟩, trivial⟩
      refine L.loadPtr shape3 hF rfl rfl rfl rfl rfl rfl (L.nil ?_)
      refine Atk 2 rfl (Ca.bin rfl rfl (calm_int _ _ _ _ _ _ _ _)) (fun Q0 k0 => L.bin hF rfl rfl rfl rfl rfl rfl (L.nil k0)) ?_
      refine Atk 3 rfl (Ca.conv Try.underlying3 Try.underlying5 rfl) (fun Q0 k0 => L.toB Try.underlying3 Try.underlying5 hF rfl rfl rfl (L.nil k0)) ?_
      exact A.on (hO _ _ _ n1487) (Le.mk [] hm rfl (Sa2 (Sa1 trivial)) trivial trivial)
/-! ### Fimpl_TlvOk -/
def Fimpl_TlvOk.l4 : Nat → (List Timpl_Tlv) → Int → (List Int) → Int → Int → Option Bool
 | 0, _, _, _, _, _ => none
 | k4 + 1, v65, v66, v67, v68, v69 => cond (decide (v69 < v68)) ((at? v67 v69).bind fun b71 => cond (v69 != b71) (some false) ((Fimpl_TlvOk.l4 k4) v65 v66 v67 v68 (IntKind.i64.wrap (v69 + (1 : Int))))) ((Fimpl_tlvText k4 v65 (IntKind.i64.wrap (v66 - (1 : Int)))).bind fun r72 => some (decide ((r72.length : Int) ≤ (900 : Int))))
def Fimpl_TlvOk.l2 : Nat → (List Timpl_Tlv) → Int → Int → Option Bool
 | 0, _, _, _ => none
 | k2 + 1, v26, v27, v28 => cond (decide (v28 < v27)) ((Fimpl_nodeOk k2 v26 v28).bind fun r30 => cond (!r30) (some false) ((Fimpl_TlvOk.l2 k2) v26 v27 (IntKind.i64.wrap (v28 + (1 : Int))))) ((Fimpl_ended k2 v26 (IntKind.i64.wrap (v27 - (1 : Int))) (1 : Int) ([] : List Int)).bind fun r31 => cond (!r31.2) (some false) (cond ((r31.1.length : Int) != v27) (some false) (Fimpl_TlvOk.l4 k2 v26 v27 r31.1 (r31.1.length : Int) (0 : Int))))
def Fimpl_TlvOk (k : Nat) (a0 : List Timpl_Tlv) : Option Bool := (Fimpl_within k (a0.length : Int) (1 : Int) (60 : Int)).bind fun r2 => cond (!r2) (some false) (Fimpl_TlvOk.l2 k a0 (a0.length : Int) (0 : Int))
theorem ent34 : MG.Enters Try.prog 34 := ⟨Try.f34, Try.func34, rfl, by decide⟩
set_option maxHeartbeats 8000000 in
set_option maxRecDepth 100000 in
theorem Fimpl_TlvOk_gives (k : Nat) (g0 : Bool) (a0 : List Timpl_Tlv) (r : Bool) (H : Fimpl_TlvOk k a0 = some r) : Gives Try.prog 34 [V.one (Cell.sl g0 (List.map eTimpl_Tlv a0))] [] [V.one (cL r)] [] := by
 refine Gives.intro Try.func34 rfl rfl rfl rfl ?_
 intro F hF hm
 unfold Fimpl_TlvOk at H
 obtain ⟨K, hK⟩ : ∃ K, k ≤ K := ⟨k, Nat.le_refl k⟩
 refine WpC.seq (WpC.regionL ?_)
 refine L.assign hF rfl rfl rfl (L.nil ?_)
 refine WpC.seq (WpC.regionL ?_)
 refine L.move hF rfl rfl rfl ?_
 refine L.lenR (xs := a0) (e := eTimpl_Tlv) Try.underlying22 hF rfl rfl rfl rfl ?_
 refine L.assign hF rfl rfl rfl (L.nil ?_)
 refine WpC.seq (WpC.seq (WpC.regionL ?_))
 refine L.move hF rfl rfl rfl ?_
 obtain ⟨r2, hr2, H⟩ := bindS H
 refine L.call [false, false, false] [] [] 1 hF rfl rfl rfl ent78 rfl rfl rfl rfl rfl (Fimpl_within_gives k  (a0.length : Int) (1 : Int) (60 : Int) r2 hr2) rfl ?_
 refine L.not hF rfl rfl rfl (L.nil ?_)
 refine WpC.cond rfl (fun hc => ?_) (fun hc => ?_)
 ·replace H := condT hc H
  refine WpC.seq (WpC.regionL ?_)
  refine L.assign hF rfl rfl rfl (L.nil ?_)
  refine WpC.ret ?_
  cases H
  exact Leaves.ret rfl rfl rfl ⟨rfl, rfl⟩
 ·replace H := condF hc H
  refine WpC.skip (WpC.seq (WpC.seq (WpC.regionL ?_)))
  refine L.move hF rfl rfl rfl ?_
  refine L.lenR (xs := a0) (e := eTimpl_Tlv) Try.underlying22 hF rfl rfl rfl rfl ?_
  refine L.move hF rfl rfl rfl (L.nil ?_)
  refine WpC.block ?_
  refine WpC.loopL (P := Try.prog) (fun n σ => ∃ v26 : List Timpl_Tlv, ∃ v27 : Int, ∃ v28 : Int, n ≤ K ∧ Fimpl_TlvOk.l2 n v26 v27 v28 = some r ∧ σ = mkSt [(0, one (Cell.sl g0 (List.map eTimpl_Tlv v26))), (3, one (cI v27)), (15, one (cI v27)), (16, one (cI v28))] [] [] 0) k ⟨_, ⟨a0, (a0.length : Int), (0 : Int), by omega, H, rfl⟩, Le.mk [] hm rfl (Sa4 trivial) trivial trivial⟩ ?_
  clear H
  rintro k2 _ ⟨v26, v27, v28, hk2, H, rfl⟩
  cases k2 with
  | zero => cases H
  | succ k2 =>
   rw [Fimpl_TlvOk.l2] at H
   refine WpC.seq (WpC.regionL ?_)
   refine L.bin hF rfl rfl rfl rfl rfl rfl (L.nil ?_)
   refine WpC.seq ?_
   refine WpC.cond rfl (fun hc => ?_) (fun hc => ?_)
   ·replace H := condT hc H
    refine WpC.skip (WpC.seq (WpC.block (WpC.seq (WpC.regionL ?_))))
    refine L.move hF rfl rfl rfl ?_
    refine L.assign hF rfl rfl rfl (L.nil ?_)
    refine WpC.seq (WpC.regionL ?_)
    refine L.move hF rfl rfl rfl ?_
    refine L.move hF rfl rfl rfl ?_
    obtain ⟨r30, hr30, H⟩ := bindS H
    refine L.call [false, false] [] [] 0 hF rfl rfl rfl ent79 rfl rfl rfl rfl rfl (Fimpl_nodeOk_gives k2 g0 v26 v28 r30 hr30) rfl ?_
    refine L.not hF rfl rfl rfl (L.nil ?_)
    refine WpC.cond rfl (fun hc => ?_) (fun hc => ?_)
    ·replace H := condT hc H
     refine WpC.seq (WpC.regionL ?_)
     refine L.assign hF rfl rfl rfl (L.nil ?_)
     refine WpC.ret ?_
     cases H
     exact Leaves.ret rfl rfl rfl ⟨rfl, rfl⟩
    ·replace H := condF hc H
     refine WpC.skip (WpC.regionL ?_)
     refine L.bin hF rfl rfl rfl rfl rfl rfl ?_
     refine L.move hF rfl rfl rfl (L.nil ?_)
     exact ⟨k2, _, by omega, ⟨v26, v27, (IntKind.i64.wrap (v28 + (1 : Int))), by omega, H, rfl⟩, Le.mk [] hm rfl (Sa4 trivial) trivial trivial⟩
   ·replace H := condF hc H
    refine WpC.exit (WpC.seq (WpC.regionL ?_))
    refine L.move hF rfl rfl rfl ?_
    refine L.move hF rfl rfl rfl ?_
    refine L.bin hF rfl rfl rfl rfl rfl rfl ?_
    refine L.buildSlice (e := eI) 0 ([] : List Int) Try.underlying39 info3 rfl rfl rfl hF rfl rfl rfl rfl rfl rfl rfl rfl ?_
    obtain ⟨r31, hr31, H⟩ := bindS H
    refine L.call [false, false, false, true] [] [] 1 hF rfl rfl rfl ent80 rfl rfl rfl rfl rfl (Fimpl_ended_gives k2 g0 v26 (IntKind.i64.wrap (v27 - (1 : Int))) (1 : Int) ([] : List Int) r31 hr31) rfl ?_
    refine L.move hF rfl rfl rfl ?_
    refine L.extract hF rfl rfl rfl rfl ?_
    refine L.extract hF rfl rfl rfl rfl ?_
    refine L.assign hF rfl rfl rfl ?_
    refine L.assign hF rfl rfl rfl (L.nil ?_)
    refine WpC.seq (WpC.seq (WpC.regionL ?_))
    refine L.move hF rfl rfl rfl ?_
    refine L.not hF rfl rfl rfl ?_
    refine L.move hF rfl rfl rfl ?_
    refine L.split (fun hc => ?_) (fun hc => ?_)
    ·replace H := condT hc H
     refine L.off hF rfl rfl ?_
     refine L.off hF rfl rfl ?_
     refine L.off hF rfl rfl ?_
     refine L.off hF rfl rfl ?_
     refine L.pick hF rfl rfl rfl rfl (L.nil ?_)
     refine WpC.cond rfl (fun _ => ?_) (fun hc => by cases hc)
     refine WpC.seq (WpC.regionL ?_)
     refine L.assign hF rfl rfl rfl (L.nil ?_)
     refine WpC.ret ?_
     cases H
     exact Leaves.ret rfl rfl rfl ⟨rfl, rfl⟩
    ·replace H := condF hc H
     refine L.move hF rfl rfl rfl ?_
     refine L.lenR (xs := r31.1) (e := eI) Try.underlying39 hF rfl rfl rfl rfl ?_
     refine L.move hF rfl rfl rfl ?_
     refine L.bin hF rfl rfl rfl rfl rfl rfl ?_
     refine L.pick hF rfl rfl rfl rfl (L.nil ?_)
     refine WpC.cond rfl (fun hc => ?_) (fun hc => ?_)
     ·replace H := condT hc H
      refine WpC.seq (WpC.regionL ?_)
      refine L.assign hF rfl rfl rfl (L.nil ?_)
      refine WpC.ret ?_
      cases H
      exact Leaves.ret rfl rfl rfl ⟨rfl, rfl⟩
     ·replace H := condF hc H
      refine WpC.skip (WpC.seq (WpC.seq (WpC.regionL ?_)))
      refine L.move hF rfl rfl rfl ?_
      refine L.lenR (xs := r31.1) (e := eI) Try.underlying39 hF rfl rfl rfl rfl ?_
      refine L.move hF rfl rfl rfl (L.nil ?_)
      refine WpC.block ?_
      refine WpC.loopL (P := Try.prog) (fun n σ => ∃ v65 : List Timpl_Tlv, ∃ v66 : Int, ∃ v67 : List Int, ∃ v68 : Int, ∃ v69 : Int, n ≤ K ∧ Fimpl_TlvOk.l4 n v65 v66 v67 v68 v69 = some r ∧ σ = mkSt [(0, one (Cell.sl g0 (List.map eTimpl_Tlv v65))), (3, one (cI v66)), (40, one (Cell.own 0)), (41, one (cI v68)), (42, one (cI v69))] [(0, ⟨1, List.map eI v67⟩)] [] 1) k2 ⟨_, ⟨v26, v27, r31.1, (r31.1.length : Int), (0 : Int), by omega, H, rfl⟩, Le.mk [(0, 1)] hm rfl (Sa4 (Sa1 trivial)) (Ra1 trivial) trivial⟩ ?_
      clear H
      rintro k4 _ ⟨v65, v66, v67, v68, v69, hk4, H, rfl⟩
      cases k4 with
      | zero => cases H
      | succ k4 =>
       rw [Fimpl_TlvOk.l4] at H
       refine WpC.seq (WpC.regionL ?_)
       refine L.bin hF rfl rfl rfl rfl rfl rfl (L.nil ?_)
       refine WpC.seq ?_
       refine WpC.cond rfl (fun hc => ?_) (fun hc => ?_)
       ·replace H := condT hc H
        refine WpC.skip (WpC.seq (WpC.block (WpC.seq (WpC.regionL ?_))))
        refine L.move hF rfl rfl rfl ?_
        obtain ⟨b71, hb71, H⟩ := bindS H
        refine L.idxR (xs := v67) (e := eI) Try.underlying39 info3 hF rfl rfl rfl rfl rfl hb71 rfl rfl ?_
        refine L.loadEp (xs := v67) (e := eI) shape3 hF rfl rfl rfl rfl (at?_get hb71).2 rfl rfl ?_
        refine L.assign hF rfl rfl rfl ?_
        refine L.assign hF rfl rfl rfl (L.nil ?_)
        refine WpC.seq (WpC.regionL ?_)
        refine L.move hF rfl rfl rfl ?_
        refine L.move hF rfl rfl rfl ?_
        refine L.bin hF rfl rfl rfl rfl rfl rfl (L.nil ?_)
        refine WpC.cond rfl (fun hc => ?_) (fun hc => ?_)
        ·replace H := condT hc H
         refine WpC.seq (WpC.regionL ?_)
         refine L.assign hF rfl rfl rfl (L.nil ?_)
         refine WpC.ret ?_
         cases H
         exact Leaves.ret rfl rfl rfl ⟨rfl, rfl⟩
        ·replace H := condF hc H
         refine WpC.skip (WpC.regionL ?_)
         refine L.bin hF rfl rfl rfl rfl rfl rfl ?_
         refine L.move hF rfl rfl rfl (L.nil ?_)
         exact ⟨k4, _, by omega, ⟨v65, v66, v67, v68, (IntKind.i64.wrap (v69 + (1 : Int))), by omega, H, rfl⟩, Le.mk [(0, 0)] hm rfl (Sa4 (Sa1 trivial)) (Ra1 trivial) trivial⟩
       ·replace H := condF hc H
        refine WpC.exit (WpC.seq (WpC.regionL ?_))
        refine L.move hF rfl rfl rfl ?_
        refine L.move hF rfl rfl rfl ?_
        refine L.bin hF rfl rfl rfl rfl rfl rfl ?_
        obtain ⟨r72, hr72, H⟩ := bindS H
        refine L.call [false, false] [] [] 1 hF rfl rfl rfl ent74 rfl rfl rfl rfl rfl (Fimpl_tlvText_gives k4 g0 v65 (IntKind.i64.wrap (v66 - (1 : Int))) r72 hr72) rfl ?_
        refine L.lenS Try.underlying9 hF rfl rfl rfl ?_
        refine L.bin hF rfl rfl rfl rfl rfl rfl ?_
        refine L.assign hF rfl rfl rfl (L.nil ?_)
        refine WpC.ret ?_
        cases H
        exact Leaves.ret rfl rfl rfl ⟨rfl, rfl⟩
/-! ### Fimpl_ShowTlv -/
def Fimpl_ShowTlv (k : Nat) (a0 : List Timpl_Tlv) : Option (List UInt8) := (Fimpl_TlvOk k a0).bind fun r2 => cond (!r2) (some ([] : List UInt8)) ((Fimpl_tlvText k a0 (IntKind.i64.wrap ((a0.length : Int) - (1 : Int)))).bind fun r3 => some r3)
theorem ent31 : MG.Enters Try.prog 31 := ⟨Try.f31, Try.func31, rfl, by decide⟩
set_option maxHeartbeats 8000000 in
set_option maxRecDepth 100000 in
theorem Fimpl_ShowTlv_gives (k : Nat) (g0 : Bool) (a0 : List Timpl_Tlv) (r : List UInt8) (H : Fimpl_ShowTlv k a0 = some r) : Gives Try.prog 31 [V.one (Cell.sl g0 (List.map eTimpl_Tlv a0))] [] [V.one (cS r)] [] := by
 refine Gives.intro Try.func31 rfl rfl rfl rfl ?_
 intro F hF hm
 unfold Fimpl_ShowTlv at H
 obtain ⟨K, hK⟩ : ∃ K, k ≤ K := ⟨k, Nat.le_refl k⟩
 refine WpC.seq (WpC.regionL ?_)
 refine L.assign hF rfl rfl rfl (L.nil ?_)
 refine WpC.seq (WpC.seq (WpC.regionL ?_))
 refine L.move hF rfl rfl rfl ?_
 obtain ⟨r2, hr2, H⟩ := bindS H
 refine L.call [false] [] [] 1 hF rfl rfl rfl ent34 rfl rfl rfl rfl rfl (Fimpl_TlvOk_gives k g0 a0 r2 hr2) rfl ?_
 refine L.not hF rfl rfl rfl (L.nil ?_)
 refine WpC.cond rfl (fun hc => ?_) (fun hc => ?_)
 ·replace H := condT hc H
  refine WpC.seq (WpC.regionL ?_)
  refine L.assign hF rfl rfl rfl (L.nil ?_)
  refine WpC.ret ?_
  cases H
  exact Leaves.ret rfl rfl rfl ⟨rfl, rfl⟩
 ·replace H := condF hc H
  refine WpC.skip (WpC.seq (WpC.regionL ?_))
  refine L.move hF rfl rfl rfl ?_
  refine L.move hF rfl rfl rfl ?_
  refine L.lenR (xs := a0) (e := eTimpl_Tlv) Try.underlying22 hF rfl rfl rfl rfl ?_
  refine L.bin hF rfl rfl rfl rfl rfl rfl ?_
  obtain ⟨r3, hr3, H⟩ := bindS H
  refine L.call [false, false] [] [] 2 hF rfl rfl rfl ent74 rfl rfl rfl rfl rfl (Fimpl_tlvText_gives k g0 a0 (IntKind.i64.wrap ((a0.length : Int) - (1 : Int))) r3 hr3) rfl ?_
  refine L.assign hF rfl rfl rfl (L.nil ?_)
  refine WpC.ret ?_
  cases H
  exact Leaves.ret rfl rfl rfl ⟨rfl, rfl⟩
/-! ### Fimpl_ReadVar -/
def Fimpl_ReadVar.l2 : Nat → (List UInt8) → Int → Int → Option (Int × Int)
 | 0, _, _, _ => none
 | k2 + 1, v82, v83, v84 => cond (decide (v84 < (v82.length : Int))) (cond (decide (v84 < (7 : Int))) ((at? v82 v84).bind fun b92 => cond (!(decide ((IntKind.i64.wrap ((7 : Int) * v84)) < 0))) ((at? v82 v84).bind fun b94 => cond (decide (b94 < (128 : UInt8))) ((Fimpl_Var k2 (Go.bits .or .i64 v83 (shlI .i64 ((b92 &&& (127 : UInt8)).toNat : Int) (IntKind.i64.wrap ((7 : Int) * v84))))).bind fun r97 => (cut? v82 (0 : Int) (IntKind.i64.wrap (v84 + (1 : Int)))).bind fun b98 => cond (r97 != b98) (some ((0 : Int), (0 : Int))) (some ((Go.bits .or .i64 v83 (shlI .i64 ((b92 &&& (127 : UInt8)).toNat : Int) (IntKind.i64.wrap ((7 : Int) * v84)))), (IntKind.i64.wrap (v84 + (1 : Int)))))) ((Fimpl_ReadVar.l2 k2) v82 (Go.bits .or .i64 v83 (shlI .i64 ((b92 &&& (127 : UInt8)).toNat : Int) (IntKind.i64.wrap ((7 : Int) * v84)))) (IntKind.i64.wrap (v84 + (1 : Int))))) none) (some ((0 : Int), (0 : Int)))) (some ((0 : Int), (0 : Int)))
def Fimpl_ReadVar (k : Nat) (a0 : List UInt8) : Option (Int × Int) := Fimpl_ReadVar.l2 k a0 (0 : Int) (0 : Int)
theorem ent123 : MG.Enters Try.prog 123 := ⟨Try.f123, Try.func123, rfl, by decide⟩
set_option maxHeartbeats 8000000 in
set_option maxRecDepth 100000 in
theorem Fimpl_ReadVar_gives (k : Nat) (a0 : List UInt8) (r : Int × Int) (H : Fimpl_ReadVar k a0 = some r) : Gives Try.prog 123 [V.one (cS a0)] [] [V.one (cI r.1), V.one (cI r.2)] [] := by
 refine Gives.intro Try.func123 rfl rfl rfl rfl ?_
 intro F hF hm
 unfold Fimpl_ReadVar at H
 obtain ⟨K, hK⟩ : ∃ K, k ≤ K := ⟨k, Nat.le_refl k⟩
 refine WpC.seq (WpC.regionL ?_)
 refine L.assign hF rfl rfl rfl ?_
 refine L.assign hF rfl rfl rfl (L.nil ?_)
 refine WpC.seq (WpC.regionL ?_)
 refine L.assign hF rfl rfl rfl (L.nil ?_)
 refine WpC.seq (WpC.seq (WpC.regionL ?_))
 refine L.assign hF rfl rfl rfl (L.nil ?_)
 refine WpC.block ?_
 refine WpC.loopL (P := Try.prog) (fun n σ => ∃ v82 : List UInt8, ∃ v83 : Int, ∃ v84 : Int, n ≤ K ∧ Fimpl_ReadVar.l2 n v82 v83 v84 = some r ∧ σ = mkSt [(0, one (cS v82)), (4, one (cI v83)), (5, one (cI v84))] [] [] 0) k ⟨_, ⟨a0, (0 : Int), (0 : Int), by omega, H, rfl⟩, Le.mk [] hm rfl (Sa2 (Sa1 trivial)) trivial trivial⟩ ?_
 clear H
 rintro k2 _ ⟨v82, v83, v84, hk2, H, rfl⟩
 cases k2 with
 | zero => cases H
 | succ k2 =>
  rw [Fimpl_ReadVar.l2] at H
  refine WpC.seq (WpC.seq (WpC.regionL ?_))
  refine L.move hF rfl rfl rfl ?_
  refine L.move hF rfl rfl rfl ?_
  refine L.lenS Try.underlying9 hF rfl rfl rfl ?_
  refine L.bin hF rfl rfl rfl rfl rfl rfl ?_
  refine L.move hF rfl rfl rfl ?_
  refine L.split (fun hc => ?_) (fun hc => ?_)
  ·replace H := condT hc H
   refine L.move hF rfl rfl rfl ?_
   refine L.bin hF rfl rfl rfl rfl rfl rfl ?_
   refine L.pick hF rfl rfl rfl rfl (L.nil ?_)
   refine WpC.cond rfl (fun hc => ?_) (fun hc => ?_)
   ·replace H := condT hc H
    refine WpC.skip (WpC.seq (WpC.block (WpC.seq (WpC.regionL ?_))))
    refine L.move hF rfl rfl rfl ?_
    refine L.move hF rfl rfl rfl ?_
    refine L.move hF rfl rfl rfl ?_
    obtain ⟨b92, hb92, H⟩ := bindS H
    refine L.idxS Try.underlying9 hF rfl rfl rfl rfl hb92 ?_
    refine L.binB (a := b92) (b := (127 : UInt8)) hF rfl rfl rfl rfl rfl ?_
    refine L.ofB Try.underlying5 Try.underlying3 hF rfl rfl rfl ?_
    refine L.move hF rfl rfl rfl ?_
    refine L.bin hF rfl rfl rfl rfl rfl rfl ?_
    obtain ⟨h93, H⟩ := condG H
    refine L.shl hF rfl rfl rfl rfl (by simpa using h93) ?_
    refine L.bin hF rfl rfl rfl rfl rfl rfl ?_
    refine L.assign hF rfl rfl rfl (L.nil ?_)
    refine WpC.seq (WpC.regionL ?_)
    refine L.move hF rfl rfl rfl ?_
    refine L.move hF rfl rfl rfl ?_
    obtain ⟨b94, hb94, H⟩ := bindS H
    refine L.idxS Try.underlying9 hF rfl rfl rfl rfl hb94 ?_
    refine L.binB (a := b94) (b := (128 : UInt8)) hF rfl rfl rfl rfl rfl (L.nil ?_)
    refine WpC.cond rfl (fun hc => ?_) (fun hc => ?_)
    ·replace H := condT hc H
     refine WpC.seq (WpC.seq ?_)
     obtain ⟨r97, hr97, H⟩ := bindS H
     obtain ⟨b98, hb98, H⟩ := bindS H
     refine A.begin mixed rfl rfl ?_
     intro W hI hO
     refine hI _ _ _ ?_
     refine Atk 0 rfl (Ca.move) (fun Q0 k0 => L.move hF rfl rfl rfl (L.nil k0)) ?_
     refine Atk 2 rfl (Ca.move) (fun Q0 k0 => L.move hF rfl rfl rfl (L.nil k0)) ?_
     refine Atk 3 rfl (Ca.move) (fun Q0 k0 => L.move hF rfl rfl rfl (L.nil k0)) ?_
     refine Atk 4 rfl (Ca.bin rfl rfl (calm_int _ _ _ _ _ _ _ _)) (fun Q0 k0 => L.bin hF rfl rfl rfl rfl rfl rfl (L.nil k0)) ?_
     refine Atk 5 rfl (Ca.slice) (fun Q0 k0 => L.cutS Try.underlying9 hF rfl rfl rfl rfl rfl hb98 (L.nil k0)) ?_
     refine A.all [1] (by kernel_rfl) rfl ⟨⟨_, rfl, ?_⟩, trivial⟩
     refine L.call [false] [] [] 0 hF rfl rfl rfl ent64 rfl rfl rfl rfl rfl (Fimpl_Var_gives k2  (Go.bits .or .i64 v83 (shlI .i64 ((b92 &&& (127 : UInt8)).toNat : Int) (IntKind.i64.wrap ((7 : Int) * v84)))) r97 hr97) rfl (L.nil ?_)
     refine Atk 6 rfl (Ca.bin rfl rfl (calm_str _ _ _ _ _ _)) (fun Q0 k0 => L.binS hF rfl rfl rfl rfl rfl (L.nil k0)) ?_
     refine A.le (τ := mkSt [(4, one (cI (Go.bits .or .i64 v83 (shlI .i64 ((b92 &&& (127 : UInt8)).toNat : Int) (IntKind.i64.wrap ((7 : Int) * v84)))))), (5, one (cI v84)), (36, one (cL (r97 != b98)))] [] [] 0) (Le.mk [] hm rfl (Sa2 (Sa1 trivial)) trivial trivial) ?_
     refine A.done (by kernel_rfl) ?_
     refine WpC.cond rfl (fun hc => ?_) (fun hc => ?_)
     ·replace H := condT hc H
      refine WpC.seq (WpC.regionL ?_)
      refine L.assign hF rfl rfl rfl ?_
      refine L.assign hF rfl rfl rfl (L.nil ?_)
      refine WpC.ret ?_
      cases H
      exact Leaves.ret rfl rfl rfl ⟨rfl, rfl⟩
     ·replace H := condF hc H
      refine WpC.skip (WpC.seq (WpC.regionL ?_))
      refine L.move hF rfl rfl rfl ?_
      refine L.move hF rfl rfl rfl ?_
      refine L.bin hF rfl rfl rfl rfl rfl rfl ?_
      refine L.assign hF rfl rfl rfl ?_
      refine L.assign hF rfl rfl rfl (L.nil ?_)
      refine WpC.ret ?_
      cases H
      exact Leaves.ret rfl rfl rfl ⟨rfl, rfl⟩
    ·replace H := condF hc H
     refine WpC.skip (WpC.regionL ?_)
     refine L.move hF rfl rfl rfl ?_
     refine L.bin hF rfl rfl rfl rfl rfl rfl ?_
     refine L.assign hF rfl rfl rfl (L.nil ?_)
     exact ⟨k2, _, by omega, ⟨v82, (Go.bits .or .i64 v83 (shlI .i64 ((b92 &&& (127 : UInt8)).toNat : Int) (IntKind.i64.wrap ((7 : Int) * v84)))), (IntKind.i64.wrap (v84 + (1 : Int))), by omega, H, rfl⟩, Le.mk [] hm rfl (Sa2 (Sa1 trivial)) trivial trivial⟩
   ·replace H := condF hc H
    refine WpC.exit (WpC.seq (WpC.regionL ?_))
    refine L.assign hF rfl rfl rfl ?_
    refine L.assign hF rfl rfl rfl (L.nil ?_)
    refine WpC.ret ?_
    cases H
    exact Leaves.ret rfl rfl rfl ⟨rfl, rfl⟩
  ·replace H := condF hc H
   refine L.off hF rfl rfl ?_
   refine L.off hF rfl rfl ?_
   refine L.pick hF rfl rfl rfl rfl (L.nil ?_)
   refine WpC.cond rfl (fun hc => by cases hc) (fun _ => ?_)
   refine WpC.exit (WpC.seq (WpC.regionL ?_))
   refine L.assign hF rfl rfl rfl ?_
   refine L.assign hF rfl rfl rfl (L.nil ?_)
   refine WpC.ret ?_
   cases H
   exact Leaves.ret rfl rfl rfl ⟨rfl, rfl⟩
/-! ### Fimpl_tlvReader_node -/
def Fimpl_tlvReader_node.j3 (k : Nat) (v51 : Int) (v52 : Int) (v53 : List UInt8) (v54 : List Timpl_Tlv) (v55 : Int) (v56 : Int) (v57 : Bool) (v58 : List UInt8) (v59 : List Int) : Option (Int × Int × Timpl_tlvReader) := cond (decide ((2 * (v54.length + ([(⟨v56, v57, v58, v59⟩ : Timpl_Tlv)] : List Timpl_Tlv).length) + 192) * 56 ≤ 281474976710656)) (some ((IntKind.i64.wrap (v52 + v51)), (0 : Int), (⟨v53, (v54 ++ ([(⟨v56, v57, v58, v59⟩ : Timpl_Tlv)] : List Timpl_Tlv)), v55⟩ : Timpl_tlvReader))) none
def Fimpl_tlvReader_node.l4 (cREC : Int → Int → Int → Timpl_tlvReader → Option (Int × Int × Timpl_tlvReader)) : Nat → Int → Int → Int → Int → (List UInt8) → (List Timpl_Tlv) → Int → Int → Bool → (List UInt8) → (List Int) → Option (Int × Int × Timpl_tlvReader)
 | 0, _, _, _, _, _, _, _, _, _, _, _ => none
 | k4 + 1, v84, v85, v86, v87, v88, v89, v90, v91, v92, v93, v94 => cond (!v92) (cond (decide (v87 < (IntKind.i64.wrap (v86 + v85)))) ((cREC v87 (IntKind.i64.wrap (v86 + v85)) (IntKind.i64.wrap (v84 + (1 : Int))) (⟨v88, v89, v90⟩ : Timpl_tlvReader)).bind fun r95 => cond (r95.2.1 != (0 : Int)) (some ((0 : Int), r95.2.1, r95.2.2)) (cond (decide ((2 * (v94.length + ([(IntKind.i64.wrap ((r95.2.2.nodes.length : Int) - (1 : Int)))] : List Int).length) + 192) * 8 ≤ 281474976710656)) ((Fimpl_tlvReader_node.l4 cREC k4) v84 v85 v86 r95.1 r95.2.2.s r95.2.2.nodes r95.2.2.begun v91 v92 v93 (v94 ++ ([(IntKind.i64.wrap ((r95.2.2.nodes.length : Int) - (1 : Int)))] : List Int))) none)) (Fimpl_tlvReader_node.j3 k4 v85 v86 v88 v89 v90 v91 v92 v93 v94)) (Fimpl_tlvReader_node.j3 k4 v85 v86 v88 v89 v90 v91 v92 v93 v94)
def Fimpl_tlvReader_node.j1 (cREC : Int → Int → Int → Timpl_tlvReader → Option (Int × Int × Timpl_tlvReader)) (k : Nat) (v7 : Int) (v8 : Int) (v9 : Int) (v10 : Timpl_tlvReader) (v11 : Int) (v12 : Int) (v13 : Bool) (v14 : List UInt8) : Option (Int × Int × Timpl_tlvReader) := Fimpl_tlvReader_node.l4 cREC k v7 v8 v9 v9 v10.s v10.nodes v11 v12 v13 v14 []
def Fimpl_tlvReader_node : Nat → Int → Int → Int → Timpl_tlvReader → Option (Int × Int × Timpl_tlvReader)
 | 0, _, _, _, _ => none
 | k + 1, a1, a2, a3, o0 => cond (o0.begun == (60 : Int)) (some ((0 : Int), (4 : Int), o0)) (cond (decide (a1 ≥ a2)) (some ((0 : Int), (1 : Int), o0)) ((at? o0.s a1).bind fun b1 => (Fimpl_within k (Int.tmod (b1.toNat : Int) (128 : Int)) (1 : Int) (100 : Int)).bind fun r3 => cond (!r3) (some ((0 : Int), (2 : Int), (⟨o0.s, o0.nodes, (IntKind.i64.wrap (o0.begun + (1 : Int)))⟩ : Timpl_tlvReader))) (cond (decide (a3 ≥ (8 : Int))) (some ((0 : Int), (3 : Int), (⟨o0.s, o0.nodes, (IntKind.i64.wrap (o0.begun + (1 : Int)))⟩ : Timpl_tlvReader))) ((cut? o0.s (IntKind.i64.wrap (a1 + (1 : Int))) a2).bind fun b4 => (Fimpl_ReadVar k b4).bind fun r5 => cond (r5.2 == (0 : Int)) (some ((0 : Int), (1 : Int), (⟨o0.s, o0.nodes, (IntKind.i64.wrap (o0.begun + (1 : Int)))⟩ : Timpl_tlvReader))) (cond (decide (r5.1 > (IntKind.i64.wrap (a2 - (IntKind.i64.wrap ((IntKind.i64.wrap (a1 + (1 : Int))) + r5.2)))))) (some ((0 : Int), (1 : Int), (⟨o0.s, o0.nodes, (IntKind.i64.wrap (o0.begun + (1 : Int)))⟩ : Timpl_tlvReader))) (cond (decide ((b1.toNat : Int) < (128 : Int))) ((cut? o0.s (IntKind.i64.wrap ((IntKind.i64.wrap (a1 + (1 : Int))) + r5.2)) (IntKind.i64.wrap ((IntKind.i64.wrap ((IntKind.i64.wrap (a1 + (1 : Int))) + r5.2)) + r5.1))).bind fun b97 => Fimpl_tlvReader_node.j1 (Fimpl_tlvReader_node k) k a3 r5.1 (IntKind.i64.wrap ((IntKind.i64.wrap (a1 + (1 : Int))) + r5.2)) o0 (IntKind.i64.wrap (o0.begun + (1 : Int))) (Int.tmod (b1.toNat : Int) (128 : Int)) (decide ((b1.toNat : Int) < (128 : Int))) b97) (Fimpl_tlvReader_node.j1 (Fimpl_tlvReader_node k) k a3 r5.1 (IntKind.i64.wrap ((IntKind.i64.wrap (a1 + (1 : Int))) + r5.2)) o0 (IntKind.i64.wrap (o0.begun + (1 : Int))) (Int.tmod (b1.toNat : Int) (128 : Int)) (decide ((b1.toNat : Int) < (128 : Int))) ([] : List UInt8))))))))
theorem ent52 : MG.Enters Try.prog 52 := ⟨Try.f52, Try.func52, rfl, by decide⟩
set_option maxHeartbeats 8000000 in
set_option maxRecDepth 100000 in
theorem Fimpl_tlvReader_node_gives : ∀ (k : Nat) (a1 : Int) (a2 : Int) (a3 : Int) (o0 : Timpl_tlvReader) (r : Int × Int × Timpl_tlvReader) (H : Fimpl_tlvReader_node k a1 a2 a3 o0 = some r), Gives Try.prog 52 [V.one (Cell.ptr 0 0), V.one (cI a1), V.one (cI a2), V.one (cI a3)] [[cS o0.s, Cell.ow 4 (List.map eTimpl_Tlv o0.nodes), cI o0.begun]] [V.one (cI r.1), V.one (cI r.2.1)] [[cS r.2.2.s, Cell.ow 4 (List.map eTimpl_Tlv r.2.2.nodes), cI r.2.2.begun]] := by
 intro k
 induction k with
 | zero => intros; rename_i H; cases H
 | succ k ih =>
  intro a1 a2 a3 o0 r H
  refine Gives.intro Try.func52 rfl rfl rfl rfl ?_
  intro F hF hm
  rw [Fimpl_tlvReader_node] at H
  obtain ⟨K, hK⟩ : ∃ K, k ≤ K := ⟨k, Nat.le_refl k⟩
  refine WpC.seq (WpC.regionL ?_)
  refine L.assign hF rfl rfl rfl ?_
  refine L.assign hF rfl rfl rfl (L.nil ?_)
  refine WpC.seq (WpC.block (WpC.seq (WpC.regionL ?_)))
  refine L.move hF rfl rfl rfl ?_
  refine L.nilCheck hF rfl rfl rfl rfl ?_
  refine L.fieldAddr Try.underlying87 rfl info3 rfl hF rfl rfl rfl rfl rfl ?_
  refine L.loadPtr shape3 hF rfl rfl rfl rfl rfl rfl ?_
  refine L.bin hF rfl rfl rfl rfl rfl rfl ?_
  refine L.assign hF rfl rfl rfl (L.nil ?_)
  refine WpC.cond rfl (fun hc => ?_) (fun hc => ?_)
  ·replace H := condT hc H
   refine WpC.seq (WpC.regionL ?_)
   refine L.assign hF rfl rfl rfl ?_
   refine L.assign hF rfl rfl rfl (L.nil ?_)
   refine WpC.ret ?_
   cases H
   exact Leaves.ret rfl rfl rfl ⟨rfl, rfl⟩
  ·replace H := condF hc H
   refine WpC.seq (WpC.regionL ?_)
   refine L.move hF rfl rfl rfl ?_
   refine L.move hF rfl rfl rfl ?_
   refine L.bin hF rfl rfl rfl rfl rfl rfl ?_
   refine L.assign hF rfl rfl rfl (L.nil ?_)
   refine WpC.cond rfl (fun hc => ?_) (fun hc => ?_)
   ·replace H := condT hc H
    refine WpC.seq (WpC.regionL ?_)
    refine L.assign hF rfl rfl rfl ?_
    refine L.assign hF rfl rfl rfl (L.nil ?_)
    refine WpC.ret ?_
    cases H
    exact Leaves.ret rfl rfl rfl ⟨rfl, rfl⟩
   ·replace H := condF hc H
    refine WpC.skip (WpC.seq (WpC.regionL ?_))
    refine L.move hF rfl rfl rfl ?_
    refine L.nilCheck hF rfl rfl rfl rfl ?_
    refine L.fieldAddr Try.underlying87 rfl info3 rfl hF rfl rfl rfl rfl rfl ?_
    refine L.loadPtr shape3 hF rfl rfl rfl rfl rfl rfl ?_
    refine L.bin hF rfl rfl rfl rfl rfl rfl ?_
    refine L.nilCheck hF rfl rfl rfl rfl ?_
    refine L.fieldAddr Try.underlying87 rfl info3 rfl hF rfl rfl rfl rfl rfl ?_
    refine L.storePtr shape3 hF rfl rfl rfl rfl rfl rfl rfl (L.nil ?_)
    refine WpC.seq (WpC.regionL ?_)
    refine L.move hF rfl rfl rfl ?_
    refine L.nilCheck hF rfl rfl rfl rfl ?_
    refine L.fieldAddr Try.underlying87 rfl info9 rfl hF rfl rfl rfl rfl rfl ?_
    refine L.loadPtr shape9 hF rfl rfl rfl rfl rfl rfl ?_
    refine L.move hF rfl rfl rfl ?_
    obtain ⟨b1, hb1, H⟩ := bindS H
    refine L.idxS Try.underlying9 hF rfl rfl rfl rfl hb1 ?_
    refine L.ofB Try.underlying5 Try.underlying3 hF rfl rfl rfl ?_
    refine L.assign hF rfl rfl rfl (L.nil ?_)
    refine WpC.seq (WpC.regionL ?_)
    refine L.move hF rfl rfl rfl ?_
    refine L.rem hF rfl rfl rfl rfl (by decide) ?_
    refine L.move hF rfl rfl rfl ?_
    refine L.bin hF rfl rfl rfl rfl rfl rfl ?_
    refine L.buildF built45 hF rfl rfl rfl rfl ?_
    refine L.alloc 8 info45 rfl hF rfl rfl rfl rfl ?_
    refine L.storePtr shape45 hF rfl rfl rfl rfl rfl rfl rfl (L.nil ?_)
    refine WpC.seq (WpC.block (WpC.seq (WpC.regionL ?_)))
    refine L.fieldAddr Try.underlying45 rfl info3 rfl hF rfl rfl rfl rfl rfl ?_
    refine L.loadPtr shape3 hF rfl rfl rfl rfl rfl rfl ?_
    obtain ⟨r3, hr3, H⟩ := bindS H
    refine L.call [false, false, false] [] [] 9 hF rfl rfl rfl ent78 rfl rfl rfl rfl rfl (Fimpl_within_gives k  (Int.tmod (b1.toNat : Int) (128 : Int)) (1 : Int) (100 : Int) r3 hr3) rfl ?_
    refine L.not hF rfl rfl rfl ?_
    refine L.assign hF rfl rfl rfl (L.nil ?_)
    refine WpC.cond rfl (fun hc => ?_) (fun hc => ?_)
    ·replace H := condT hc H
     refine WpC.seq (WpC.regionL ?_)
     refine L.assign hF rfl rfl rfl ?_
     refine L.assign hF rfl rfl rfl (L.nil ?_)
     refine WpC.ret ?_
     cases H
     exact Leaves.ret rfl rfl rfl ⟨rfl, rfl⟩
    ·replace H := condF hc H
     refine WpC.seq (WpC.regionL ?_)
     refine L.move hF rfl rfl rfl ?_
     refine L.bin hF rfl rfl rfl rfl rfl rfl ?_
     refine L.assign hF rfl rfl rfl (L.nil ?_)
     refine WpC.cond rfl (fun hc => ?_) (fun hc => ?_)
     ·replace H := condT hc H
      refine WpC.seq (WpC.regionL ?_)
      refine L.assign hF rfl rfl rfl ?_
      refine L.assign hF rfl rfl rfl (L.nil ?_)
      refine WpC.ret ?_
      cases H
      exact Leaves.ret rfl rfl rfl ⟨rfl, rfl⟩
     ·replace H := condF hc H
      refine WpC.skip (WpC.seq (WpC.regionL ?_))
      refine L.move hF rfl rfl rfl ?_
      refine L.nilCheck hF rfl rfl rfl rfl ?_
      refine L.fieldAddr Try.underlying87 rfl info9 rfl hF rfl rfl rfl rfl rfl ?_
      refine L.loadPtr shape9 hF rfl rfl rfl rfl rfl rfl ?_
      refine L.move hF rfl rfl rfl ?_
      refine L.bin hF rfl rfl rfl rfl rfl rfl ?_
      refine L.move hF rfl rfl rfl ?_
      obtain ⟨b4, hb4, H⟩ := bindS H
      refine L.cutS Try.underlying9 hF rfl rfl rfl rfl rfl hb4 ?_
      obtain ⟨r5, hr5, H⟩ := bindS H
      refine L.call [false] [] [] 10 hF rfl rfl rfl ent123 rfl rfl rfl rfl rfl (Fimpl_ReadVar_gives k  b4 r5 hr5) rfl ?_
      refine L.move hF rfl rfl rfl ?_
      refine L.extract hF rfl rfl rfl rfl ?_
      refine L.extract hF rfl rfl rfl rfl ?_
      refine L.assign hF rfl rfl rfl ?_
      refine L.assign hF rfl rfl rfl (L.nil ?_)
      refine WpC.seq (WpC.regionL ?_)
      refine L.move hF rfl rfl rfl ?_
      refine L.bin hF rfl rfl rfl rfl rfl rfl ?_
      refine L.move hF rfl rfl rfl ?_
      refine L.bin hF rfl rfl rfl rfl rfl rfl ?_
      refine L.assign hF rfl rfl rfl (L.nil ?_)
      refine WpC.seq (WpC.seq (WpC.regionL ?_))
      refine L.move hF rfl rfl rfl ?_
      refine L.bin hF rfl rfl rfl rfl rfl rfl ?_
      refine L.move hF rfl rfl rfl ?_
      refine L.split (fun hc => ?_) (fun hc => ?_)
      ·replace H := condT hc H
       refine L.off hF rfl rfl ?_
       refine L.off hF rfl rfl ?_
       refine L.off hF rfl rfl ?_
       refine L.off hF rfl rfl ?_
       refine L.off hF rfl rfl ?_
       refine L.pick hF rfl rfl rfl rfl (L.nil ?_)
       refine WpC.cond rfl (fun _ => ?_) (fun hc => by cases hc)
       refine WpC.seq (WpC.regionL ?_)
       refine L.assign hF rfl rfl rfl ?_
       refine L.assign hF rfl rfl rfl (L.nil ?_)
       refine WpC.ret ?_
       cases H
       exact Leaves.ret rfl rfl rfl ⟨rfl, rfl⟩
      ·replace H := condF hc H
       refine L.move hF rfl rfl rfl ?_
       refine L.move hF rfl rfl rfl ?_
       refine L.move hF rfl rfl rfl ?_
       refine L.bin hF rfl rfl rfl rfl rfl rfl ?_
       refine L.bin hF rfl rfl rfl rfl rfl rfl ?_
       refine L.pick hF rfl rfl rfl rfl (L.nil ?_)
       refine WpC.cond rfl (fun hc => ?_) (fun hc => ?_)
       ·replace H := condT hc H
        refine WpC.seq (WpC.regionL ?_)
        refine L.assign hF rfl rfl rfl ?_
        refine L.assign hF rfl rfl rfl (L.nil ?_)
        refine WpC.ret ?_
        cases H
        exact Leaves.ret rfl rfl rfl ⟨rfl, rfl⟩
       ·replace H := condF hc H
        refine WpC.skip ?_
        refine WpC.join (fun σ => ∃ kj1 : Nat, ∃ v7 : Int, ∃ v8 : Int, ∃ v9 : Int, ∃ v10 : Timpl_tlvReader, ∃ v11 : Int, ∃ v12 : Int, ∃ v13 : Bool, ∃ v14 : List UInt8, kj1 ≤ K ∧ Fimpl_tlvReader_node.j1 (Fimpl_tlvReader_node k) kj1 v7 v8 v9 v10 v11 v12 v13 v14 = some r ∧ σ = mkSt [(0, one (Cell.ptr 0 0)), (3, one (cI v7)), (11, one (Cell.ptr 1 0)), (12, one (cI v8)), (14, one (cI v9))] [(2, ⟨4, List.map eTimpl_Tlv v10.nodes⟩)] [(0, [cS v10.s, Cell.own 2, cI v11]), (1, [cI v12, cL v13, cS v14, Cell.nil])] 3) ?_ ?_
        ·rintro _ ⟨kj1, v7, v8, v9, v10, v11, v12, v13, v14, hkj1, H, rfl⟩
         unfold Fimpl_tlvReader_node.j1 at H
         refine WpC.join (fun σ => ∃ kj3 : Nat, ∃ v51 : Int, ∃ v52 : Int, ∃ v53 : List UInt8, ∃ v54 : List Timpl_Tlv, ∃ v55 : Int, ∃ v56 : Int, ∃ v57 : Bool, ∃ v58 : List UInt8, ∃ v59 : List Int, kj3 ≤ K ∧ Fimpl_tlvReader_node.j3 kj3 v51 v52 v53 v54 v55 v56 v57 v58 v59 = some r ∧ σ = mkSt [(0, one (Cell.ptr 0 0)), (11, one (Cell.ptr 1 0)), (12, one (cI v51)), (14, one (cI v52))] [(2, ⟨4, List.map eTimpl_Tlv v54⟩), (3, ⟨1, List.map eI v59⟩)] [(0, [cS v53, Cell.own 2, cI v55]), (1, [cI v56, cL v57, cS v58, Cell.own 3])] 4) ?_ ?_
         ·rintro _ ⟨kj3, v51, v52, v53, v54, v55, v56, v57, v58, v59, hkj3, H, rfl⟩
          unfold Fimpl_tlvReader_node.j3 at H
          refine WpC.seq ?_
          obtain ⟨h60, H⟩ := condG H
          refine A.begin mixed rfl rfl ?_
          intro W hI hO
          have n127 : W 4 #[true, true, true, true, true, true, true, false, false, false, false] (mkSt [(12, one (cI v51)), (14, one (cI v52)), (129, one (Cell.ptr 0 0)), (133, one (Cell.own 1)), (135, one (Cell.own 2))] [(1, ⟨4, List.map eTimpl_Tlv v54⟩), (2, ⟨4, List.map eTimpl_Tlv ([(⟨v56, v57, v58, v59⟩ : Timpl_Tlv)] : List Timpl_Tlv)⟩)] [(0, [cS v53, Cell.own 1, cI v55])] 3) := by
           refine hI _ _ _ ?_
           refine A.all [7] (by kernel_rfl) rfl ⟨⟨_, rfl, ?_⟩, trivial⟩
           refine L.appendN (xs := v54) (ys := ([(⟨v56, v57, v58, v59⟩ : Timpl_Tlv)] : List Timpl_Tlv)) (e := eTimpl_Tlv) 3 Try.underlying22 info45 rfl rfl hF rfl rfl rfl rfl rfl rfl rfl rfl rfl (fun _ _ h1 h2 => by cases h1; cases h2; rfl) Try.underlying22 (of_decide_eq_true h60) rfl rfl (L.nil ?_)
           refine Atk 8 rfl (Ca.nilCheck rfl rfl) (fun Q0 k0 => L.nilCheck hF rfl rfl rfl rfl (L.nil k0)) ?_
           refine Atk 9 rfl (Ca.fieldAddr Try.underlying87 rfl info22 rfl) (fun Q0 k0 => L.fieldAddr Try.underlying87 rfl info22 rfl hF rfl rfl rfl rfl rfl (L.nil k0)) ?_
           refine A.all [10] (by kernel_rfl) rfl ⟨⟨_, rfl, ?_⟩, trivial⟩
           refine L.storePtr shape22 hF rfl rfl rfl rfl rfl rfl rfl (L.nil ?_)
           refine A.le (τ := mkSt [(12, one (cI v51)), (14, one (cI v52))] [(1, ⟨4, List.map eTimpl_Tlv (v54 ++ ([(⟨v56, v57, v58, v59⟩ : Timpl_Tlv)] : List Timpl_Tlv))⟩)] [(0, [cS v53, Cell.own 1, cI v55])] 2) (Le.mk [(0, 0), (1, 3)] hm rfl (Sa2 trivial) (Ra1 trivial) (Ba1 trivial)) ?_
           refine A.done (by kernel_rfl) ?_
           refine WpC.seq (WpC.regionL ?_)
           refine L.move hF rfl rfl rfl ?_
           refine L.move hF rfl rfl rfl ?_
           refine L.bin hF rfl rfl rfl rfl rfl rfl ?_
           refine L.assign hF rfl rfl rfl ?_
           refine L.assign hF rfl rfl rfl (L.nil ?_)
           refine WpC.ret ?_
           cases H
           exact Leaves.ret rfl rfl rfl ⟨rfl, rfl⟩
          have n63 : W 5 #[true, true, true, true, true, true, false, false, false, false, false] (mkSt [(12, one (cI v51)), (14, one (cI v52)), (129, one (Cell.ptr 0 0)), (133, one (Cell.own 1)), (134, agg [cI v56, cL v57, cS v58, Cell.own 2])] [(1, ⟨4, List.map eTimpl_Tlv v54⟩), (2, ⟨1, List.map eI v59⟩)] [(0, [cS v53, Cell.own 1, cI v55])] 3) := by
           refine hI _ _ _ ?_
           refine A.all [6] (by kernel_rfl) rfl ⟨⟨_, rfl, ?_⟩, trivial⟩
           refine L.buildSliceN (e := eTimpl_Tlv) 1 3 ([(⟨v56, v57, v58, v59⟩ : Timpl_Tlv)] : List Timpl_Tlv) Try.underlying22 info45 rfl rfl rfl hF rfl rfl rfl rfl rfl rfl rfl rfl (L.nil ?_)
           exact A.on (hO _ _ _ n127) (Le.mk [(0, 0), (1, 1), (2, 3)] hm rfl (Sa4 (Sa1 trivial)) (Ra2 trivial) (Ba1 trivial))
          refine hI _ _ _ ?_
          refine Atk 0 rfl (Ca.move) (fun Q0 k0 => L.move hF rfl rfl rfl (L.nil k0)) ?_
          refine Atk 1 rfl (Ca.move) (fun Q0 k0 => L.move hF rfl rfl rfl (L.nil k0)) ?_
          refine Atk 2 rfl (Ca.nilCheck rfl rfl) (fun Q0 k0 => L.nilCheck hF rfl rfl rfl rfl (L.nil k0)) ?_
          refine Atk 3 rfl (Ca.fieldAddr Try.underlying87 rfl info22 rfl) (fun Q0 k0 => L.fieldAddr Try.underlying87 rfl info22 rfl hF rfl rfl rfl rfl rfl (L.nil k0)) ?_
          refine A.all [4, 5] (by kernel_rfl) rfl ⟨⟨_, rfl, ?_⟩, ⟨_, rfl, ?_⟩, trivial⟩
          ·refine L.loadPtr shape22 hF rfl rfl rfl rfl rfl rfl (L.nil ?_)
           refine A.all [5] (by kernel_rfl) rfl ⟨⟨_, rfl, ?_⟩, trivial⟩
           refine L.loadPtr shape45 hF rfl rfl rfl rfl rfl rfl (L.nil ?_)
           exact A.on (hO _ _ _ n63) (Le.mk [(0, 0), (1, 2), (2, 3)] hm rfl (Sa4 (Sa1 trivial)) (Ra2 trivial) (Ba1 trivial))
          ·refine L.loadPtr shape45 hF rfl rfl rfl rfl rfl rfl (L.nil ?_)
           refine A.all [4, 6] (by kernel_rfl) rfl ⟨⟨_, rfl, ?_⟩, ⟨_, rfl, ?_⟩, trivial⟩
           ·refine L.loadPtr shape22 hF rfl rfl rfl rfl rfl rfl (L.nil ?_)
            exact A.on (hO _ _ _ n63) (Le.mk [(0, 0), (1, 2), (2, 3)] hm rfl (Sa4 (Sa1 trivial)) (Ra2 trivial) (Ba1 trivial))
           ·refine L.buildSliceN (e := eTimpl_Tlv) 1 4 ([(⟨v56, v57, v58, v59⟩ : Timpl_Tlv)] : List Timpl_Tlv) Try.underlying22 info45 rfl rfl rfl hF rfl rfl rfl rfl rfl rfl rfl rfl (L.nil ?_)
            refine A.all [4] (by kernel_rfl) rfl ⟨⟨_, rfl, ?_⟩, trivial⟩
            refine L.loadPtr shape22 hF rfl rfl rfl rfl rfl rfl (L.nil ?_)
            exact A.on (hO _ _ _ n127) (Le.mk [(0, 0), (1, 2), (2, 4)] hm rfl (Sa4 (Sa1 trivial)) (Ra2 trivial) (Ba1 trivial))
         ·refine WpC.seq (WpC.regionL ?_)
          refine L.move hF rfl rfl rfl ?_
          refine L.assign hF rfl rfl rfl (L.nil ?_)
          refine WpC.block ?_
          refine WpC.loopL (P := Try.prog) (fun n σ => ∃ v84 : Int, ∃ v85 : Int, ∃ v86 : Int, ∃ v87 : Int, ∃ v88 : List UInt8, ∃ v89 : List Timpl_Tlv, ∃ v90 : Int, ∃ v91 : Int, ∃ v92 : Bool, ∃ v93 : List UInt8, ∃ v94 : List Int, n ≤ K ∧ Fimpl_tlvReader_node.l4 (Fimpl_tlvReader_node k) n v84 v85 v86 v87 v88 v89 v90 v91 v92 v93 v94 = some r ∧ σ = mkSt [(0, one (Cell.ptr 0 0)), (3, one (cI v84)), (11, one (Cell.ptr 1 0)), (12, one (cI v85)), (14, one (cI v86)), (15, one (cI v87))] [(2, ⟨4, List.map eTimpl_Tlv v89⟩), (3, ⟨1, List.map eI v94⟩)] [(0, [cS v88, Cell.own 2, cI v90]), (1, [cI v91, cL v92, cS v93, Cell.own 3])] 4) kj1 ⟨_, ⟨v7, v8, v9, v9, v10.s, v10.nodes, v11, v12, v13, v14, [], by omega, H, rfl⟩, (Le.ownB 1 3 3 1 rfl rfl rfl).trans (Le.mk [(0, 0), (1, 1), (2, 2), (3, 3)] hm rfl (Sa4 (Sa2 trivial)) (Ra2 trivial) (Ba2 trivial))⟩ ?_
          clear H
          rintro k4 _ ⟨v84, v85, v86, v87, v88, v89, v90, v91, v92, v93, v94, hk4, H, rfl⟩
          cases k4 with
          | zero => cases H
          | succ k4 =>
           rw [Fimpl_tlvReader_node.l4] at H
           refine WpC.seq (WpC.seq (WpC.regionL ?_))
           refine L.fieldAddr Try.underlying45 rfl info4 rfl hF rfl rfl rfl rfl rfl ?_
           refine L.loadPtr shape4 hF rfl rfl rfl rfl rfl rfl ?_
           refine L.not hF rfl rfl rfl ?_
           refine L.move hF rfl rfl rfl ?_
           refine L.split (fun hc => ?_) (fun hc => ?_)
           ·replace H := condT hc H
            refine L.move hF rfl rfl rfl ?_
            refine L.move hF rfl rfl rfl ?_
            refine L.move hF rfl rfl rfl ?_
            refine L.bin hF rfl rfl rfl rfl rfl rfl ?_
            refine L.bin hF rfl rfl rfl rfl rfl rfl ?_
            refine L.pick hF rfl rfl rfl rfl (L.nil ?_)
            refine WpC.cond rfl (fun hc => ?_) (fun hc => ?_)
            ·replace H := condT hc H
             refine WpC.skip (WpC.block (WpC.seq (WpC.regionL ?_)))
             refine L.move hF rfl rfl rfl ?_
             refine L.move hF rfl rfl rfl ?_
             refine L.move hF rfl rfl rfl ?_
             refine L.move hF rfl rfl rfl ?_
             refine L.bin hF rfl rfl rfl rfl rfl rfl ?_
             refine L.move hF rfl rfl rfl ?_
             refine L.bin hF rfl rfl rfl rfl rfl rfl ?_
             obtain ⟨r95, hr95, H⟩ := bindS H
             refine L.call [false, false, false, false] [] [0] 4 hF rfl rfl rfl ent52 rfl rfl rfl rfl rfl (ih  v87 (IntKind.i64.wrap (v86 + v85)) (IntKind.i64.wrap (v84 + (1 : Int))) (⟨v88, v89, v90⟩ : Timpl_tlvReader) r95 hr95) rfl ?_
             refine L.move hF rfl rfl rfl ?_
             refine L.extract hF rfl rfl rfl rfl ?_
             refine L.extract hF rfl rfl rfl rfl ?_
             refine L.assign hF rfl rfl rfl ?_
             refine L.assign hF rfl rfl rfl (L.nil ?_)
             refine WpC.seq (WpC.seq (WpC.regionL ?_))
             refine L.move hF rfl rfl rfl ?_
             refine L.bin hF rfl rfl rfl rfl rfl rfl (L.nil ?_)
             refine WpC.cond rfl (fun hc => ?_) (fun hc => ?_)
             ·replace H := condT hc H
              refine WpC.seq (WpC.regionL ?_)
              refine L.move hF rfl rfl rfl ?_
              refine L.assign hF rfl rfl rfl ?_
              refine L.assign hF rfl rfl rfl (L.nil ?_)
              refine WpC.ret ?_
              cases H
              exact Leaves.ret rfl rfl rfl ⟨rfl, rfl⟩
             ·replace H := condF hc H
              refine WpC.skip (WpC.seq ?_)
              obtain ⟨h96, H⟩ := condG H
              refine A.begin mixed rfl rfl ?_
              intro W hI hO
              have n511 : W 3 #[true, true, true, true, true, true, true, true, true, false, false, false] (mkSt [(0, one (Cell.ptr 0 0)), (3, one (cI v84)), (11, one (Cell.ptr 1 0)), (12, one (cI v85)), (14, one (cI v86)), (16, one (cI r95.1)), (118, one (Cell.own 2)), (125, one (Cell.own 3))] [(2, ⟨1, List.map eI v94⟩), (3, ⟨1, List.map eI ([(IntKind.i64.wrap ((r95.2.2.nodes.length : Int) - (1 : Int)))] : List Int)⟩), (4, ⟨4, List.map eTimpl_Tlv r95.2.2.nodes⟩)] [(0, [cS r95.2.2.s, Cell.own 4, cI r95.2.2.begun]), (1, [cI v91, cL v92, cS v93, Cell.own 2])] 5) := by
               refine hI _ _ _ ?_
               refine A.all [9] (by kernel_rfl) rfl ⟨⟨_, rfl, ?_⟩, trivial⟩
               refine L.append (xs := v94) (ys := ([(IntKind.i64.wrap ((r95.2.2.nodes.length : Int) - (1 : Int)))] : List Int)) (e := eI) 5 Try.underlying39 info3 rfl rfl hF rfl rfl rfl rfl rfl rfl rfl rfl (fun _ => rfl) (fun _ _ h1 h2 => by cases h1; cases h2; rfl) ⟨_, Try.underlying39⟩ (of_decide_eq_true h96) rfl rfl (L.nil ?_)
               refine Atk 10 rfl (Ca.fieldAddr Try.underlying45 rfl info39 rfl) (fun Q0 k0 => L.fieldAddr Try.underlying45 rfl info39 rfl hF rfl rfl rfl rfl rfl (L.nil k0)) ?_
               refine A.all [11] (by kernel_rfl) rfl ⟨⟨_, rfl, ?_⟩, trivial⟩
               refine L.storePtr shape39 hF rfl rfl rfl rfl rfl rfl rfl (L.nil ?_)
               refine A.le (τ := mkSt [(0, one (Cell.ptr 0 0)), (3, one (cI v84)), (11, one (Cell.ptr 1 0)), (12, one (cI v85)), (14, one (cI v86)), (16, one (cI r95.1))] [(2, ⟨4, List.map eTimpl_Tlv r95.2.2.nodes⟩), (3, ⟨1, List.map eI (v94 ++ ([(IntKind.i64.wrap ((r95.2.2.nodes.length : Int) - (1 : Int)))] : List Int))⟩)] [(0, [cS r95.2.2.s, Cell.own 2, cI r95.2.2.begun]), (1, [cI v91, cL v92, cS v93, Cell.own 3])] 4) (Le.mk [(0, 0), (1, 1), (2, 4), (3, 5)] hm rfl (Sa4 (Sa2 trivial)) (Ra2 trivial) (Ba2 trivial)) ?_
               refine A.done (by kernel_rfl) ?_
               refine WpC.regionL ?_
               refine L.move hF rfl rfl rfl ?_
               refine L.assign hF rfl rfl rfl (L.nil ?_)
               exact ⟨k4, _, by omega, ⟨v84, v85, v86, r95.1, r95.2.2.s, r95.2.2.nodes, r95.2.2.begun, v91, v92, v93, (v94 ++ ([(IntKind.i64.wrap ((r95.2.2.nodes.length : Int) - (1 : Int)))] : List Int)), by omega, H, rfl⟩, Le.mk [(0, 0), (1, 1), (2, 2), (3, 3)] hm rfl (Sa4 (Sa2 trivial)) (Ra2 trivial) (Ba2 trivial)⟩
              have n255 : W 4 #[true, true, true, true, true, true, true, true, false, false, false, false] (mkSt [(0, one (Cell.ptr 0 0)), (3, one (cI v84)), (11, one (Cell.ptr 1 0)), (12, one (cI v85)), (14, one (cI v86)), (16, one (cI r95.1)), (118, one (Cell.own 2)), (124, one (cI (IntKind.i64.wrap ((r95.2.2.nodes.length : Int) - (1 : Int)))))] [(2, ⟨1, List.map eI v94⟩), (3, ⟨4, List.map eTimpl_Tlv r95.2.2.nodes⟩)] [(0, [cS r95.2.2.s, Cell.own 3, cI r95.2.2.begun]), (1, [cI v91, cL v92, cS v93, Cell.own 2])] 4) := by
               refine hI _ _ _ ?_
               refine A.all [8] (by kernel_rfl) rfl ⟨⟨_, rfl, ?_⟩, trivial⟩
               refine L.buildSlice (e := eI) 4 ([(IntKind.i64.wrap ((r95.2.2.nodes.length : Int) - (1 : Int)))] : List Int) Try.underlying39 info3 rfl rfl rfl hF rfl rfl rfl rfl rfl rfl rfl rfl (L.nil ?_)
               exact A.on (hO _ _ _ n511) (Le.mk [(0, 0), (1, 1), (2, 2), (3, 4), (4, 3)] hm rfl (Sa8 trivial) (Ra2 (Ra1 trivial)) (Ba2 trivial))
              refine hI _ _ _ ?_
              refine Atk 0 rfl (Ca.fieldAddr Try.underlying45 rfl info39 rfl) (fun Q0 k0 => L.fieldAddr Try.underlying45 rfl info39 rfl hF rfl rfl rfl rfl rfl (L.nil k0)) ?_
              refine Atk 2 rfl (Ca.move) (fun Q0 k0 => L.move hF rfl rfl rfl (L.nil k0)) ?_
              refine Atk 3 rfl (Ca.nilCheck rfl rfl) (fun Q0 k0 => L.nilCheck hF rfl rfl rfl rfl (L.nil k0)) ?_
              refine Atk 4 rfl (Ca.fieldAddr Try.underlying87 rfl info22 rfl) (fun Q0 k0 => L.fieldAddr Try.underlying87 rfl info22 rfl hF rfl rfl rfl rfl rfl (L.nil k0)) ?_
              refine A.all [1, 5] (by kernel_rfl) rfl ⟨⟨_, rfl, ?_⟩, ⟨_, rfl, ?_⟩, trivial⟩
              ·refine L.loadPtr shape39 hF rfl rfl rfl rfl rfl rfl (L.nil ?_)
               refine A.all [5] (by kernel_rfl) rfl ⟨⟨_, rfl, ?_⟩, trivial⟩
               refine L.loadPtr shape22 hF rfl rfl rfl rfl rfl rfl (L.nil ?_)
               refine Atk 6 rfl (Ca.lenR (xs := r95.2.2.nodes) (e := eTimpl_Tlv) Try.underlying22 rfl rfl) (fun Q0 k0 => L.lenR (xs := r95.2.2.nodes) (e := eTimpl_Tlv) Try.underlying22 hF rfl rfl rfl rfl (L.nil k0)) ?_
               refine Atk 7 rfl (Ca.bin rfl rfl (calm_int _ _ _ _ _ _ _ _)) (fun Q0 k0 => L.bin hF rfl rfl rfl rfl rfl rfl (L.nil k0)) ?_
               exact A.on (hO _ _ _ n255) (Le.mk [(0, 0), (1, 1), (2, 3), (3, 7)] hm rfl (Sa8 trivial) (Ra2 trivial) (Ba2 trivial))
              ·refine L.loadPtr shape22 hF rfl rfl rfl rfl rfl rfl (L.nil ?_)
               refine Atk 6 rfl (Ca.lenR (xs := r95.2.2.nodes) (e := eTimpl_Tlv) Try.underlying22 rfl rfl) (fun Q0 k0 => L.lenR (xs := r95.2.2.nodes) (e := eTimpl_Tlv) Try.underlying22 hF rfl rfl rfl rfl (L.nil k0)) ?_
               refine Atk 7 rfl (Ca.bin rfl rfl (calm_int _ _ _ _ _ _ _ _)) (fun Q0 k0 => L.bin hF rfl rfl rfl rfl rfl rfl (L.nil k0)) ?_
               refine A.all [1, 8] (by kernel_rfl) rfl ⟨⟨_, rfl, ?_⟩, ⟨_, rfl, ?_⟩, trivial⟩
               ·refine L.loadPtr shape39 hF rfl rfl rfl rfl rfl rfl (L.nil ?_)
                exact A.on (hO _ _ _ n255) (Le.mk [(0, 0), (1, 1), (2, 3), (3, 7)] hm rfl (Sa8 trivial) (Ra2 trivial) (Ba2 trivial))
               ·refine L.buildSlice (e := eI) 9 ([(IntKind.i64.wrap ((r95.2.2.nodes.length : Int) - (1 : Int)))] : List Int) Try.underlying39 info3 rfl rfl rfl hF rfl rfl rfl rfl rfl rfl rfl rfl (L.nil ?_)
                refine A.all [1] (by kernel_rfl) rfl ⟨⟨_, rfl, ?_⟩, trivial⟩
                refine L.loadPtr shape39 hF rfl rfl rfl rfl rfl rfl (L.nil ?_)
                exact A.on (hO _ _ _ n511) (Le.mk [(0, 0), (1, 1), (2, 3), (3, 9), (4, 7)] hm rfl (Sa8 trivial) (Ra2 (Ra1 trivial)) (Ba2 trivial))
            ·replace H := condF hc H
             refine WpC.exit ?_
             exact ⟨_, ⟨k4, v85, v86, v88, v89, v90, v91, v92, v93, v94, by omega, H, rfl⟩, Le.mk [(0, 0), (1, 1), (2, 2), (3, 3)] hm rfl (Sa4 trivial) (Ra2 trivial) (Ba2 trivial)⟩
           ·replace H := condF hc H
            refine L.off hF rfl rfl ?_
            refine L.off hF rfl rfl ?_
            refine L.off hF rfl rfl ?_
            refine L.off hF rfl rfl ?_
            refine L.off hF rfl rfl ?_
            refine L.pick hF rfl rfl rfl rfl (L.nil ?_)
            refine WpC.cond rfl (fun hc => by cases hc) (fun _ => ?_)
            refine WpC.exit ?_
            exact ⟨_, ⟨k4, v85, v86, v88, v89, v90, v91, v92, v93, v94, by omega, H, rfl⟩, Le.mk [(0, 0), (1, 1), (2, 2), (3, 3)] hm rfl (Sa4 trivial) (Ra2 trivial) (Ba2 trivial)⟩
        ·refine WpC.seq (WpC.regionL ?_)
         refine L.fieldAddr Try.underlying45 rfl info4 rfl hF rfl rfl rfl rfl rfl ?_
         refine L.loadPtr shape4 hF rfl rfl rfl rfl rfl rfl (L.nil ?_)
         refine WpC.cond rfl (fun hc => ?_) (fun hc => ?_)
         ·replace H := condT hc H
          refine WpC.regionL ?_
          refine L.move hF rfl rfl rfl ?_
          refine L.nilCheck hF rfl rfl rfl rfl ?_
          refine L.fieldAddr Try.underlying87 rfl info9 rfl hF rfl rfl rfl rfl rfl ?_
          refine L.loadPtr shape9 hF rfl rfl rfl rfl rfl rfl ?_
          refine L.move hF rfl rfl rfl ?_
          refine L.move hF rfl rfl rfl ?_
          refine L.move hF rfl rfl rfl ?_
          refine L.bin hF rfl rfl rfl rfl rfl rfl ?_
          obtain ⟨b97, hb97, H⟩ := bindS H
          refine L.cutS Try.underlying9 hF rfl rfl rfl rfl rfl hb97 ?_
          refine L.fieldAddr Try.underlying45 rfl info9 rfl hF rfl rfl rfl rfl rfl ?_
          refine L.storePtr shape9 hF rfl rfl rfl rfl rfl rfl rfl (L.nil ?_)
          exact ⟨_, ⟨k, a3, r5.1, (IntKind.i64.wrap ((IntKind.i64.wrap (a1 + (1 : Int))) + r5.2)), o0, (IntKind.i64.wrap (o0.begun + (1 : Int))), (Int.tmod (b1.toNat : Int) (128 : Int)), (decide ((b1.toNat : Int) < (128 : Int))), b97, by omega, H, rfl⟩, Le.mk [(0, 0), (1, 8), (2, 6)] hm rfl (Sa4 (Sa1 trivial)) (Ra1 trivial) (Ba2 trivial)⟩
         ·replace H := condF hc H
          refine WpC.skip ?_
          exact ⟨_, ⟨k, a3, r5.1, (IntKind.i64.wrap ((IntKind.i64.wrap (a1 + (1 : Int))) + r5.2)), o0, (IntKind.i64.wrap (o0.begun + (1 : Int))), (Int.tmod (b1.toNat : Int) (128 : Int)), (decide ((b1.toNat : Int) < (128 : Int))), ([] : List UInt8), by omega, H, rfl⟩, Le.mk [(0, 0), (1, 8), (2, 6)] hm rfl (Sa4 (Sa1 trivial)) (Ra1 trivial) (Ba2 trivial)⟩
/-! ### Fimpl_ReadTlv -/
def Fimpl_ReadTlv (k : Nat) (a0 : List UInt8) : Option (List Timpl_Tlv × Int) := cond (decide ((a0.length : Int) > (900 : Int))) (some ([], (4 : Int))) ((Fimpl_tlvReader_node k (0 : Int) (a0.length : Int) (0 : Int) (⟨a0, [], (0 : Int)⟩ : Timpl_tlvReader)).bind fun r1 => cond (r1.2.1 != (0 : Int)) (some ([], r1.2.1)) (cond (decide (r1.1 < (a0.length : Int))) (some ([], (5 : Int))) (some (r1.2.2.nodes, (0 : Int)))))
theorem ent12 : MG.Enters Try.prog 12 := ⟨Try.f12, Try.func12, rfl, by decide⟩
set_option maxHeartbeats 8000000 in
set_option maxRecDepth 100000 in
theorem Fimpl_ReadTlv_gives (k : Nat) (a0 : List UInt8) (r : List Timpl_Tlv × Int) (H : Fimpl_ReadTlv k a0 = some r) : Gives Try.prog 12 [V.one (cS a0)] [] [V.one (Cell.ow 4 (List.map eTimpl_Tlv r.1)), V.one (cI r.2)] [] := by
 refine Gives.intro Try.func12 rfl rfl rfl rfl ?_
 intro F hF hm
 unfold Fimpl_ReadTlv at H
 obtain ⟨K, hK⟩ : ∃ K, k ≤ K := ⟨k, Nat.le_refl k⟩
 refine WpC.seq (WpC.regionL ?_)
 refine L.assign hF rfl rfl rfl ?_
 refine L.assign hF rfl rfl rfl (L.nil ?_)
 refine WpC.seq (WpC.seq (WpC.regionL ?_))
 refine L.move hF rfl rfl rfl ?_
 refine L.lenS Try.underlying9 hF rfl rfl rfl ?_
 refine L.bin hF rfl rfl rfl rfl rfl rfl (L.nil ?_)
 refine WpC.cond rfl (fun hc => ?_) (fun hc => ?_)
 ·replace H := condT hc H
  refine WpC.seq (WpC.regionL ?_)
  refine L.assign hF rfl rfl rfl ?_
  refine L.assign hF rfl rfl rfl (L.nil ?_)
  refine WpC.le (Le.own 2 0 1 4 rfl rfl rfl) ?_
  refine WpC.ret ?_
  cases H
  exact Leaves.ret rfl rfl rfl ⟨rfl, rfl⟩
 ·replace H := condF hc H
  refine WpC.skip (WpC.seq (WpC.regionL ?_))
  refine L.move hF rfl rfl rfl ?_
  refine L.buildF built87 hF rfl rfl rfl rfl ?_
  refine L.box 1 hF rfl rfl rfl rfl ?_
  refine L.assign hF rfl rfl rfl (L.nil ?_)
  refine WpC.seq (WpC.regionL ?_)
  refine L.move hF rfl rfl rfl ?_
  refine L.move hF rfl rfl rfl ?_
  refine L.lenS Try.underlying9 hF rfl rfl rfl ?_
  refine L.le (Le.ownB 1 1 2 4 rfl rfl rfl) ?_
  obtain ⟨r1, hr1, H⟩ := bindS H
  refine L.call [false, false, false, false] [] [1] 3 hF rfl rfl rfl ent52 rfl rfl rfl rfl rfl (Fimpl_tlvReader_node_gives k  (0 : Int) (a0.length : Int) (0 : Int) (⟨a0, [], (0 : Int)⟩ : Timpl_tlvReader) r1 hr1) rfl ?_
  refine L.move hF rfl rfl rfl ?_
  refine L.extract hF rfl rfl rfl rfl ?_
  refine L.extract hF rfl rfl rfl rfl ?_
  refine L.assign hF rfl rfl rfl ?_
  refine L.assign hF rfl rfl rfl (L.nil ?_)
  refine WpC.seq (WpC.block (WpC.seq (WpC.regionL ?_)))
  refine L.move hF rfl rfl rfl ?_
  refine L.bin hF rfl rfl rfl rfl rfl rfl ?_
  refine L.assign hF rfl rfl rfl (L.nil ?_)
  refine WpC.cond rfl (fun hc => ?_) (fun hc => ?_)
  ·replace H := condT hc H
   refine WpC.seq (WpC.regionL ?_)
   refine L.move hF rfl rfl rfl ?_
   refine L.assign hF rfl rfl rfl ?_
   refine L.assign hF rfl rfl rfl (L.nil ?_)
   refine WpC.le (Le.own 2 0 8 4 rfl rfl rfl) ?_
   refine WpC.ret ?_
   cases H
   exact Leaves.ret rfl rfl rfl ⟨rfl, rfl⟩
  ·replace H := condF hc H
   refine WpC.seq (WpC.regionL ?_)
   refine L.move hF rfl rfl rfl ?_
   refine L.move hF rfl rfl rfl ?_
   refine L.lenS Try.underlying9 hF rfl rfl rfl ?_
   refine L.bin hF rfl rfl rfl rfl rfl rfl ?_
   refine L.assign hF rfl rfl rfl (L.nil ?_)
   refine WpC.cond rfl (fun hc => ?_) (fun hc => ?_)
   ·replace H := condT hc H
    refine WpC.seq (WpC.regionL ?_)
    refine L.assign hF rfl rfl rfl ?_
    refine L.assign hF rfl rfl rfl (L.nil ?_)
    refine WpC.le (Le.own 2 0 8 4 rfl rfl rfl) ?_
    refine WpC.ret ?_
    cases H
    exact Leaves.ret rfl rfl rfl ⟨rfl, rfl⟩
   ·replace H := condF hc H
    refine WpC.skip (WpC.seq (WpC.regionL ?_))
    refine L.move hF rfl rfl rfl ?_
    refine L.nilCheck hF rfl rfl rfl rfl ?_
    refine L.fieldAddr Try.underlying87 rfl info22 rfl hF rfl rfl rfl rfl rfl ?_
    refine L.loadPtr shape22 hF rfl rfl rfl rfl rfl rfl ?_
    refine L.assign hF rfl rfl rfl ?_
    refine L.assign hF rfl rfl rfl (L.nil ?_)
    refine WpC.ret ?_
    cases H
    exact Leaves.ret rfl rfl rfl ⟨rfl, rfl⟩
/-! ### Fspec_l1In -/
def Fspec_l1In (k : Nat) (a0 : Int) (a1 : Int) (a2 : Int) : Option Bool := cond (decide (a0 ≥ a1)) (some (decide (a0 ≤ a2))) (some false)
theorem ent121 : MG.Enters Try.prog 121 := ⟨Try.f121, Try.func121, rfl, by decide⟩
set_option maxHeartbeats 8000000 in
set_option maxRecDepth 100000 in
theorem Fspec_l1In_gives (k : Nat) (a0 : Int) (a1 : Int) (a2 : Int) (r : Bool) (H : Fspec_l1In k a0 a1 a2 = some r) : Gives Try.prog 121 [V.one (cI a0), V.one (cI a1), V.one (cI a2)] [] [V.one (cL r)] [] := by
 refine Gives.intro Try.func121 rfl rfl rfl rfl ?_
 intro F hF hm
 unfold Fspec_l1In at H
 obtain ⟨K, hK⟩ : ∃ K, k ≤ K := ⟨k, Nat.le_refl k⟩
 refine WpC.seq (WpC.regionL ?_)
 refine L.assign hF rfl rfl rfl (L.nil ?_)
 refine WpC.seq (WpC.regionL ?_)
 refine L.move hF rfl rfl rfl ?_
 refine L.move hF rfl rfl rfl ?_
 refine L.bin hF rfl rfl rfl rfl rfl rfl ?_
 refine L.move hF rfl rfl rfl ?_
 refine L.split (fun hc => ?_) (fun hc => ?_)
 ·replace H := condT hc H
  refine L.move hF rfl rfl rfl ?_
  refine L.move hF rfl rfl rfl ?_
  refine L.bin hF rfl rfl rfl rfl rfl rfl ?_
  refine L.pick hF rfl rfl rfl rfl ?_
  refine L.assign hF rfl rfl rfl (L.nil ?_)
  refine WpC.ret ?_
  cases H
  exact Leaves.ret rfl rfl rfl ⟨rfl, rfl⟩
 ·replace H := condF hc H
  refine L.off hF rfl rfl ?_
  refine L.off hF rfl rfl ?_
  refine L.off hF rfl rfl ?_
  refine L.pick hF rfl rfl rfl rfl ?_
  refine L.assign hF rfl rfl rfl (L.nil ?_)
  refine WpC.ret ?_
  cases H
  exact Leaves.ret rfl rfl rfl ⟨rfl, rfl⟩
/-! ### Fspec_l14Tree -/
def Fspec_l14Tree.l26 (cl22 : (List Timpl_Tlv) → (List Int) → Int → Option Bool) : Nat → (List Timpl_Tlv) → (List Int) → Int → Int → Timpl_Tlv → Option Bool
 | 0, _, _, _, _, _ => none
 | k26 + 1, v1113, v1114, v1115, v1116, v1117 => cond (decide (v1116 < (v1117.Kids.length : Int))) ((at? v1117.Kids v1116).bind fun b1136 => cond (decide (b1136 < (0 : Int))) (some false) ((at? v1117.Kids v1116).bind fun b1137 => cond (decide (b1137 ≥ v1115)) (some false) ((at? v1117.Kids v1116).bind fun b1138 => (at? v1117.Kids v1116).bind fun b1139 => (at? v1114 b1139).bind fun b1140 => (at? v1114 b1138).bind fun b1141 => (Fspec_l14Tree.l26 cl22 k26) v1113 (v1114.set b1138.toNat (IntKind.i64.wrap (b1140 + (1 : Int)))) v1115 (IntKind.i64.wrap (v1116 + (1 : Int))) v1117))) (cl22 v1113 v1114 (IntKind.i64.wrap (v1115 + (1 : Int))))
def Fspec_l14Tree.j25 (cl22 : (List Timpl_Tlv) → (List Int) → Int → Option Bool) (k : Nat) (v1052 : List Timpl_Tlv) (v1053 : List Int) (v1054 : Int) (v1055 : Timpl_Tlv) : Option Bool := Fspec_l14Tree.l26 cl22 k v1052 v1053 v1054 (0 : Int) v1055
def Fspec_l14Tree.l28 : Nat → (List Int) → Int → Option Bool
 | 0, _, _ => none
 | k28 + 1, v1162, v1163 => cond (decide (v1163 < (IntKind.i64.wrap ((v1162.length : Int) - (1 : Int))))) ((at? v1162 v1163).bind fun b1165 => cond (b1165 != (1 : Int)) (some false) ((Fspec_l14Tree.l28 k28) v1162 (IntKind.i64.wrap (v1163 + (1 : Int))))) (some true)
def Fspec_l14Tree.l22 : Nat → (List Timpl_Tlv) → (List Int) → Int → Option Bool
 | 0, _, _, _ => none
 | k22 + 1, v951, v952, v953 => cond (decide (v953 < (v951.length : Int))) ((at? v951 v953).bind fun b1049 => (Fspec_l1In k22 b1049.Tag (1 : Int) (100 : Int)).bind fun r1143 => cond (!r1143) (some false) (cond b1049.Leaf (cond (decide ((b1049.Kids.length : Int) > (0 : Int))) (some false) (cond (!b1049.Leaf) (cond (b1049.Data != ([] : List UInt8)) (some false) (Fspec_l14Tree.j25 (Fspec_l14Tree.l22 k22) k22 v951 v952 v953 b1049)) (Fspec_l14Tree.j25 (Fspec_l14Tree.l22 k22) k22 v951 v952 v953 b1049))) (cond (!b1049.Leaf) (cond (b1049.Data != ([] : List UInt8)) (some false) (Fspec_l14Tree.j25 (Fspec_l14Tree.l22 k22) k22 v951 v952 v953 b1049)) (Fspec_l14Tree.j25 (Fspec_l14Tree.l22 k22) k22 v951 v952 v953 b1049)))) (Fspec_l14Tree.l28 k22 v952 (0 : Int))
def Fspec_l14Tree (k : Nat) (a0 : List Timpl_Tlv) : Option Bool := (Fspec_l1In k (a0.length : Int) (1 : Int) (60 : Int)).bind fun r2 => cond (!r2) (some false) (cond (decide (0 ≤ (a0.length : Int) ∧ (a0.length : Int) ≤ (a0.length : Int) ∧ 8 * (a0.length : Int) ≤ 281474976710656 ∧ (a0.length : Int) ≤ 9223372036854775807)) (Fspec_l14Tree.l22 k a0 (List.replicate (a0.length : Int).toNat (0 : Int)) (0 : Int)) none)
theorem ent75 : MG.Enters Try.prog 75 := ⟨Try.f75, Try.func75, rfl, by decide⟩
set_option maxHeartbeats 8000000 in
set_option maxRecDepth 100000 in
theorem Fspec_l14Tree_gives (k : Nat) (g0 : Bool) (a0 : List Timpl_Tlv) (r : Bool) (H : Fspec_l14Tree k a0 = some r) : Gives Try.prog 75 [V.one (Cell.sl g0 (List.map eTimpl_Tlv a0))] [] [V.one (cL r)] [] := by
 refine Gives.intro Try.func75 rfl rfl rfl rfl ?_
 intro F hF hm
 unfold Fspec_l14Tree at H
 obtain ⟨K, hK⟩ : ∃ K, k ≤ K := ⟨k, Nat.le_refl k⟩
 refine WpC.seq (WpC.regionL ?_)
 refine L.assign hF rfl rfl rfl (L.nil ?_)
 refine WpC.seq (WpC.seq (WpC.regionL ?_))
 refine L.move hF rfl rfl rfl ?_
 refine L.lenR (xs := a0) (e := eTimpl_Tlv) Try.underlying22 hF rfl rfl rfl rfl ?_
 obtain ⟨r2, hr2, H⟩ := bindS H
 refine L.call [false, false, false] [] [] 1 hF rfl rfl rfl ent121 rfl rfl rfl rfl rfl (Fspec_l1In_gives k  (a0.length : Int) (1 : Int) (60 : Int) r2 hr2) rfl ?_
 refine L.not hF rfl rfl rfl (L.nil ?_)
 refine WpC.cond rfl (fun hc => ?_) (fun hc => ?_)
 ·replace H := condT hc H
  refine WpC.seq (WpC.regionL ?_)
  refine L.assign hF rfl rfl rfl (L.nil ?_)
  refine WpC.ret ?_
  cases H
  exact Leaves.ret rfl rfl rfl ⟨rfl, rfl⟩
 ·replace H := condF hc H
  refine WpC.skip (WpC.seq (WpC.regionL ?_))
  refine L.move hF rfl rfl rfl ?_
  refine L.lenR (xs := a0) (e := eTimpl_Tlv) Try.underlying22 hF rfl rfl rfl rfl ?_
  obtain ⟨h3, H⟩ := condG H
  refine L.makeSlice (e := eI) 2 (0 : Int) Try.underlying39 info3 rfl rfl rfl hF rfl rfl rfl rfl (of_decide_eq_true h3) rfl rfl ?_
  refine L.assign hF rfl rfl rfl (L.nil ?_)
  refine WpC.seq (WpC.seq (WpC.regionL ?_))
  refine L.assign hF rfl rfl rfl (L.nil ?_)
  refine WpC.block ?_
  refine WpC.loopL (P := Try.prog) (fun n σ => ∃ v951 : List Timpl_Tlv, ∃ v952 : List Int, ∃ v953 : Int, n ≤ K ∧ Fspec_l14Tree.l22 n v951 v952 v953 = some r ∧ σ = mkSt [(0, one (Cell.sl g0 (List.map eTimpl_Tlv v951))), (3, one (Cell.own 0)), (4, one (cI v953))] [(0, ⟨1, List.map eI v952⟩)] [] 1) k ⟨_, ⟨a0, (List.replicate (a0.length : Int).toNat (0 : Int)), (0 : Int), by omega, H, rfl⟩, Le.mk [(0, 2)] hm rfl (Sa2 (Sa1 trivial)) (Ra1 trivial) trivial⟩ ?_
  clear H
  rintro k22 _ ⟨v951, v952, v953, hk22, H, rfl⟩
  cases k22 with
  | zero => cases H
  | succ k22 =>
   rw [Fspec_l14Tree.l22] at H
   refine WpC.seq (WpC.seq (WpC.regionL ?_))
   refine L.move hF rfl rfl rfl ?_
   refine L.move hF rfl rfl rfl ?_
   refine L.lenR (xs := v951) (e := eTimpl_Tlv) Try.underlying22 hF rfl rfl rfl rfl ?_
   refine L.bin hF rfl rfl rfl rfl rfl rfl (L.nil ?_)
   refine WpC.cond rfl (fun hc => ?_) (fun hc => ?_)
   ·replace H := condT hc H
    refine WpC.skip (WpC.seq (WpC.block (WpC.seq (WpC.regionL ?_))))
    refine L.move hF rfl rfl rfl ?_
    refine L.move hF rfl rfl rfl ?_
    obtain ⟨b1049, hb1049, H⟩ := bindS H
    refine L.idxR (xs := v951) (e := eTimpl_Tlv) Try.underlying22 info45 hF rfl rfl rfl rfl rfl hb1049 rfl rfl ?_
    refine L.loadPe shape45 hF rfl rfl rfl rfl rfl ?_
    refine L.alloc 1 info45 rfl hF rfl rfl rfl rfl ?_
    refine L.storePtr shape45 hF rfl rfl rfl rfl rfl rfl rfl (L.nil ?_)
    refine WpC.join (fun σ => ∃ kj25 : Nat, ∃ v1052 : List Timpl_Tlv, ∃ v1053 : List Int, ∃ v1054 : Int, ∃ v1055 : Timpl_Tlv, kj25 ≤ K ∧ Fspec_l14Tree.j25 (Fspec_l14Tree.l22 k22) kj25 v1052 v1053 v1054 v1055 = some r ∧ σ = mkSt [(0, one (Cell.sl g0 (List.map eTimpl_Tlv v1052))), (3, one (Cell.own 0)), (4, one (cI v1054)), (5, one (Cell.ptr 1 0))] [(0, ⟨1, List.map eI v1053⟩)] [(1, (bTimpl_Tlv g0 v1055))] 2) ?_ ?_
    ·rintro _ ⟨kj25, v1052, v1053, v1054, v1055, hkj25, H, rfl⟩
     unfold Fspec_l14Tree.j25 at H
     refine WpC.seq (WpC.regionL ?_)
     refine L.assign hF rfl rfl rfl (L.nil ?_)
     refine WpC.block ?_
     refine WpC.loopL (P := Try.prog) (fun n σ => ∃ v1113 : List Timpl_Tlv, ∃ v1114 : List Int, ∃ v1115 : Int, ∃ v1116 : Int, ∃ v1117 : Timpl_Tlv, n ≤ K ∧ Fspec_l14Tree.l26 (Fspec_l14Tree.l22 k22) n v1113 v1114 v1115 v1116 v1117 = some r ∧ σ = mkSt [(0, one (Cell.sl g0 (List.map eTimpl_Tlv v1113))), (3, one (Cell.own 0)), (4, one (cI v1115)), (5, one (Cell.ptr 1 0)), (6, one (cI v1116))] [(0, ⟨1, List.map eI v1114⟩)] [(1, (bTimpl_Tlv g0 v1117))] 2) kj25 ⟨_, ⟨v1052, v1053, v1054, (0 : Int), v1055, by omega, H, rfl⟩, Le.mk [(0, 0), (1, 1)] hm rfl (Sa4 (Sa1 trivial)) (Ra1 trivial) (Ba1 trivial)⟩ ?_
     clear H
     rintro k26 _ ⟨v1113, v1114, v1115, v1116, v1117, hk26, H, rfl⟩
     cases k26 with
     | zero => cases H
     | succ k26 =>
      rw [Fspec_l14Tree.l26] at H
      refine WpC.seq (WpC.seq (WpC.regionL ?_))
      refine L.move hF rfl rfl rfl ?_
      refine L.fieldAddr Try.underlying45 rfl info39 rfl hF rfl rfl rfl rfl rfl ?_
      refine L.loadPtr shape39 hF rfl rfl rfl rfl rfl rfl ?_
      refine L.lenR (xs := v1117.Kids) (e := eI) Try.underlying39 hF rfl rfl rfl rfl ?_
      refine L.bin hF rfl rfl rfl rfl rfl rfl (L.nil ?_)
      refine WpC.cond rfl (fun hc => ?_) (fun hc => ?_)
      ·replace H := condT hc H
       refine WpC.skip (WpC.seq (WpC.block (WpC.seq (WpC.seq (WpC.regionL ?_)))))
       refine L.fieldAddr Try.underlying45 rfl info39 rfl hF rfl rfl rfl rfl rfl ?_
       refine L.loadPtr shape39 hF rfl rfl rfl rfl rfl rfl ?_
       refine L.move hF rfl rfl rfl ?_
       obtain ⟨b1136, hb1136, H⟩ := bindS H
       refine L.idxR (xs := v1117.Kids) (e := eI) Try.underlying39 info3 hF rfl rfl rfl rfl rfl hb1136 rfl rfl ?_
       refine L.loadPe shape3 hF rfl rfl rfl rfl rfl ?_
       refine L.bin hF rfl rfl rfl rfl rfl rfl ?_
       refine L.move hF rfl rfl rfl ?_
       refine L.split (fun hc => ?_) (fun hc => ?_)
       ·replace H := condT hc H
        refine L.off hF rfl rfl ?_
        refine L.off hF rfl rfl ?_
        refine L.off hF rfl rfl ?_
        refine L.off hF rfl rfl ?_
        refine L.off hF rfl rfl ?_
        refine L.off hF rfl rfl ?_
        refine L.off hF rfl rfl ?_
        refine L.pick hF rfl rfl rfl rfl (L.nil ?_)
        refine WpC.cond rfl (fun _ => ?_) (fun hc => by cases hc)
        refine WpC.seq (WpC.regionL ?_)
        refine L.assign hF rfl rfl rfl (L.nil ?_)
        refine WpC.ret ?_
        cases H
        exact Leaves.ret rfl rfl rfl ⟨rfl, rfl⟩
       ·replace H := condF hc H
        refine L.fieldAddr Try.underlying45 rfl info39 rfl hF rfl rfl rfl rfl rfl ?_
        refine L.loadPtr shape39 hF rfl rfl rfl rfl rfl rfl ?_
        refine L.move hF rfl rfl rfl ?_
        obtain ⟨b1137, hb1137, H⟩ := bindS H
        refine L.idxR (xs := v1117.Kids) (e := eI) Try.underlying39 info3 hF rfl rfl rfl rfl rfl hb1137 rfl rfl ?_
        refine L.loadPe shape3 hF rfl rfl rfl rfl rfl ?_
        refine L.move hF rfl rfl rfl ?_
        refine L.bin hF rfl rfl rfl rfl rfl rfl ?_
        refine L.pick hF rfl rfl rfl rfl (L.nil ?_)
        refine WpC.cond rfl (fun hc => ?_) (fun hc => ?_)
        ·replace H := condT hc H
         refine WpC.seq (WpC.regionL ?_)
         refine L.assign hF rfl rfl rfl (L.nil ?_)
         refine WpC.ret ?_
         cases H
         exact Leaves.ret rfl rfl rfl ⟨rfl, rfl⟩
        ·replace H := condF hc H
         refine WpC.skip ?_
         obtain ⟨b1138, hb1138, H⟩ := bindS H
         obtain ⟨b1139, hb1139, H⟩ := bindS H
         obtain ⟨b1140, hb1140, H⟩ := bindS H
         obtain ⟨b1141, hb1141, H⟩ := bindS H
         refine A.begin mixed rfl rfl ?_
         intro W hI hO
         have n32767 : W 2 #[true, true, true, true, true, true, true, true, true, true, true, true, true, true, true, false, false] (mkSt [(0, one (Cell.sl g0 (List.map eTimpl_Tlv v1113))), (3, one (Cell.own 0)), (4, one (cI v1115)), (5, one (Cell.ptr 1 0)), (6, one (cI v1116)), (71, one (Cell.own 0)), (76, one (cI b1138)), (85, one (cI (IntKind.i64.wrap (b1140 + (1 : Int)))))] [(0, ⟨1, List.map eI v1114⟩)] [(1, (bTimpl_Tlv g0 v1117))] 2) := by
          refine hI _ _ _ ?_
          refine Atk 15 rfl (Ca.indexAddr) (fun Q0 k0 => L.idxR (xs := v1114) (e := eI) Try.underlying39 info3 hF rfl rfl rfl rfl rfl hb1141 rfl rfl (L.nil k0)) ?_
          refine A.all [16] (by kernel_rfl) rfl ⟨⟨_, rfl, ?_⟩, trivial⟩
          refine L.storeEp (xs := v1114) (e := eI) (a' := (IntKind.i64.wrap (b1140 + (1 : Int)))) shape3 hF rfl rfl rfl rfl rfl rfl rfl (at?_get hb1141).2 rfl rfl ?_
          refine L.nil ?_
          refine A.le (τ := mkSt [(0, one (Cell.sl g0 (List.map eTimpl_Tlv v1113))), (3, one (Cell.own 0)), (4, one (cI v1115)), (5, one (Cell.ptr 1 0)), (6, one (cI v1116))] [(0, ⟨1, List.map eI (v1114.set b1138.toNat (IntKind.i64.wrap (b1140 + (1 : Int))))⟩)] [(1, (bTimpl_Tlv g0 v1117))] 2) (Le.mk [(0, 0), (1, 1)] hm rfl (Sa4 (Sa1 trivial)) (Ra1 trivial) (Ba1 trivial)) ?_
          refine A.done (by kernel_rfl) ?_
          refine WpC.regionL ?_
          refine L.move hF rfl rfl rfl ?_
          refine L.bin hF rfl rfl rfl rfl rfl rfl ?_
          refine L.assign hF rfl rfl rfl (L.nil ?_)
          exact ⟨k26, _, by omega, ⟨v1113, (v1114.set b1138.toNat (IntKind.i64.wrap (b1140 + (1 : Int)))), v1115, (IntKind.i64.wrap (v1116 + (1 : Int))), v1117, by omega, H, rfl⟩, Le.mk [(0, 0), (1, 1)] hm rfl (Sa4 (Sa1 trivial)) (Ra1 trivial) (Ba1 trivial)⟩
         have n32735 : W 3 #[true, true, true, true, true, false, true, true, true, true, true, true, true, true, true, false, false] (mkSt [(0, one (Cell.sl g0 (List.map eTimpl_Tlv v1113))), (3, one (Cell.own 0)), (4, one (cI v1115)), (5, one (Cell.ptr 1 0)), (6, one (cI v1116)), (71, one (Cell.own 0)), (75, one (Cell.pe g0 (eI b1138) 0)), (85, one (cI (IntKind.i64.wrap (b1140 + (1 : Int)))))] [(0, ⟨1, List.map eI v1114⟩)] [(1, (bTimpl_Tlv g0 v1117))] 2) := by
          refine hI _ _ _ ?_
          refine A.all [5] (by kernel_rfl) rfl ⟨⟨_, rfl, ?_⟩, trivial⟩
          refine L.loadPe shape3 hF rfl rfl rfl rfl rfl (L.nil ?_)
          exact A.on (hO _ _ _ n32767) (Le.mk [(0, 0), (1, 1)] hm rfl (Sa8 trivial) (Ra1 trivial) (Ba1 trivial))
         have n8191 : W 4 #[true, true, true, true, true, true, true, true, true, true, true, true, true, false, false, false, false] (mkSt [(0, one (Cell.sl g0 (List.map eTimpl_Tlv v1113))), (3, one (Cell.own 0)), (4, one (cI v1115)), (5, one (Cell.ptr 1 0)), (6, one (cI v1116)), (71, one (Cell.own 0)), (76, one (cI b1138)), (83, one (Cell.ep 0 b1139.toNat 0))] [(0, ⟨1, List.map eI v1114⟩)] [(1, (bTimpl_Tlv g0 v1117))] 2) := by
          refine hI _ _ _ ?_
          refine A.all [13] (by kernel_rfl) rfl ⟨⟨_, rfl, ?_⟩, trivial⟩
          refine L.loadEp (xs := v1114) (e := eI) shape3 hF rfl rfl rfl rfl (at?_get hb1140).2 rfl rfl ?_
          refine L.nil ?_
          refine Atk 14 rfl (Ca.bin rfl rfl (calm_int _ _ _ _ _ _ _ _)) (fun Q0 k0 => L.bin hF rfl rfl rfl rfl rfl rfl (L.nil k0)) ?_
          exact A.on (hO _ _ _ n32767) (Le.mk [(0, 0), (1, 1)] hm rfl (Sa8 trivial) (Ra1 trivial) (Ba1 trivial))
         have n8159 : W 5 #[true, true, true, true, true, false, true, true, true, true, true, true, true, false, false, false, false] (mkSt [(0, one (Cell.sl g0 (List.map eTimpl_Tlv v1113))), (3, one (Cell.own 0)), (4, one (cI v1115)), (5, one (Cell.ptr 1 0)), (6, one (cI v1116)), (71, one (Cell.own 0)), (75, one (Cell.pe g0 (eI b1138) 0)), (83, one (Cell.ep 0 b1139.toNat 0))] [(0, ⟨1, List.map eI v1114⟩)] [(1, (bTimpl_Tlv g0 v1117))] 2) := by
          refine hI _ _ _ ?_
          refine A.all [5, 13] (by kernel_rfl) rfl ⟨⟨_, rfl, ?_⟩, ⟨_, rfl, ?_⟩, trivial⟩
          ·refine L.loadPe shape3 hF rfl rfl rfl rfl rfl (L.nil ?_)
           exact A.on (hO _ _ _ n8191) (Le.mk [(0, 0), (1, 1)] hm rfl (Sa8 trivial) (Ra1 trivial) (Ba1 trivial))
          ·refine L.loadEp (xs := v1114) (e := eI) shape3 hF rfl rfl rfl rfl (at?_get hb1140).2 rfl rfl ?_
           refine L.nil ?_
           refine Atk 14 rfl (Ca.bin rfl rfl (calm_int _ _ _ _ _ _ _ _)) (fun Q0 k0 => L.bin hF rfl rfl rfl rfl rfl rfl (L.nil k0)) ?_
           exact A.on (hO _ _ _ n32735) (Le.mk [(0, 0), (1, 1)] hm rfl (Sa8 trivial) (Ra1 trivial) (Ba1 trivial))
         have n2047 : W 6 #[true, true, true, true, true, true, true, true, true, true, true, false, false, false, false, false, false] (mkSt [(0, one (Cell.sl g0 (List.map eTimpl_Tlv v1113))), (3, one (Cell.own 0)), (4, one (cI v1115)), (5, one (Cell.ptr 1 0)), (6, one (cI v1116)), (71, one (Cell.own 0)), (76, one (cI b1138)), (77, one (Cell.own 0)), (81, one (Cell.pe g0 (eI b1139) 0))] [(0, ⟨1, List.map eI v1114⟩)] [(1, (bTimpl_Tlv g0 v1117))] 2) := by
          refine hI _ _ _ ?_
          refine A.all [11] (by kernel_rfl) rfl ⟨⟨_, rfl, ?_⟩, trivial⟩
          refine L.loadPe shape3 hF rfl rfl rfl rfl rfl (L.nil ?_)
          refine Atk 12 rfl (Ca.indexAddr) (fun Q0 k0 => L.idxR (xs := v1114) (e := eI) Try.underlying39 info3 hF rfl rfl rfl rfl rfl hb1140 rfl rfl (L.nil k0)) ?_
          exact A.on (hO _ _ _ n8191) (Le.mk [(0, 0), (1, 1)] hm rfl (Sa8 trivial) (Ra1 trivial) (Ba1 trivial))
         have n2015 : W 7 #[true, true, true, true, true, false, true, true, true, true, true, false, false, false, false, false, false] (mkSt [(0, one (Cell.sl g0 (List.map eTimpl_Tlv v1113))), (3, one (Cell.own 0)), (4, one (cI v1115)), (5, one (Cell.ptr 1 0)), (6, one (cI v1116)), (71, one (Cell.own 0)), (75, one (Cell.pe g0 (eI b1138) 0)), (77, one (Cell.own 0)), (81, one (Cell.pe g0 (eI b1139) 0))] [(0, ⟨1, List.map eI v1114⟩)] [(1, (bTimpl_Tlv g0 v1117))] 2) := by
          refine hI _ _ _ ?_
          refine A.all [5, 11] (by kernel_rfl) rfl ⟨⟨_, rfl, ?_⟩, ⟨_, rfl, ?_⟩, trivial⟩
          ·refine L.loadPe shape3 hF rfl rfl rfl rfl rfl (L.nil ?_)
           exact A.on (hO _ _ _ n2047) (Le.mk [(0, 0), (1, 1)] hm rfl (Sa8 (Sa1 trivial)) (Ra1 trivial) (Ba1 trivial))
          ·refine L.loadPe shape3 hF rfl rfl rfl rfl rfl (L.nil ?_)
           refine Atk 12 rfl (Ca.indexAddr) (fun Q0 k0 => L.idxR (xs := v1114) (e := eI) Try.underlying39 info3 hF rfl rfl rfl rfl rfl hb1140 rfl rfl (L.nil k0)) ?_
           exact A.on (hO _ _ _ n8159) (Le.mk [(0, 0), (1, 1)] hm rfl (Sa8 trivial) (Ra1 trivial) (Ba1 trivial))
         refine hI _ _ _ ?_
         refine Atk 0 rfl (Ca.move) (fun Q0 k0 => L.move hF rfl rfl rfl (L.nil k0)) ?_
         refine Atk 1 rfl (Ca.fieldAddr Try.underlying45 rfl info39 rfl) (fun Q0 k0 => L.fieldAddr Try.underlying45 rfl info39 rfl hF rfl rfl rfl rfl rfl (L.nil k0)) ?_
         refine Atk 3 rfl (Ca.move) (fun Q0 k0 => L.move hF rfl rfl rfl (L.nil k0)) ?_
         refine Atk 6 rfl (Ca.move) (fun Q0 k0 => L.move hF rfl rfl rfl (L.nil k0)) ?_
         refine Atk 7 rfl (Ca.fieldAddr Try.underlying45 rfl info39 rfl) (fun Q0 k0 => L.fieldAddr Try.underlying45 rfl info39 rfl hF rfl rfl rfl rfl rfl (L.nil k0)) ?_
         refine Atk 9 rfl (Ca.move) (fun Q0 k0 => L.move hF rfl rfl rfl (L.nil k0)) ?_
         refine A.all [2, 8] (by kernel_rfl) rfl ⟨⟨_, rfl, ?_⟩, ⟨_, rfl, ?_⟩, trivial⟩
         ·refine L.loadPtr shape39 hF rfl rfl rfl rfl rfl rfl (L.nil ?_)
          refine Atk 4 rfl (Ca.indexAddr) (fun Q0 k0 => L.idxR (xs := v1117.Kids) (e := eI) Try.underlying39 info3 hF rfl rfl rfl rfl rfl hb1138 rfl rfl (L.nil k0)) ?_
          refine A.all [5, 8] (by kernel_rfl) rfl ⟨⟨_, rfl, ?_⟩, ⟨_, rfl, ?_⟩, trivial⟩
          ·refine L.loadPe shape3 hF rfl rfl rfl rfl rfl (L.nil ?_)
           refine A.all [8] (by kernel_rfl) rfl ⟨⟨_, rfl, ?_⟩, trivial⟩
           refine L.loadPtr shape39 hF rfl rfl rfl rfl rfl rfl (L.nil ?_)
           refine A.le (τ := mkSt [(0, one (Cell.sl g0 (List.map eTimpl_Tlv v1113))), (3, one (Cell.own 0)), (4, one (cI v1115)), (5, one (Cell.ptr 1 0)), (6, one (cI v1116)), (71, one (Cell.own 0)), (76, one (cI b1138)), (77, one (Cell.own 0)), (79, one (Cell.sl g0 (List.map eI v1117.Kids))), (80, one (cI v1116))] [(0, ⟨1, List.map eI v1114⟩)] [(1, (bTimpl_Tlv g0 v1117))] 2) (Le.mk [(0, 0), (1, 1)] hm rfl (Sa8 (Sa2 trivial)) (Ra1 trivial) (Ba1 trivial)) ?_
           refine Atk 10 rfl (Ca.indexAddr) (fun Q0 k0 => L.idxR (xs := v1117.Kids) (e := eI) Try.underlying39 info3 hF rfl rfl rfl rfl rfl hb1139 rfl rfl (L.nil k0)) ?_
           exact A.on (hO _ _ _ n2047) (Le.mk [(0, 0), (1, 1)] hm rfl (Sa8 (Sa1 trivial)) (Ra1 trivial) (Ba1 trivial))
          ·refine L.loadPtr shape39 hF rfl rfl rfl rfl rfl rfl (L.nil ?_)
           refine Atk 10 rfl (Ca.indexAddr) (fun Q0 k0 => L.idxR (xs := v1117.Kids) (e := eI) Try.underlying39 info3 hF rfl rfl rfl rfl rfl hb1139 rfl rfl (L.nil k0)) ?_
           exact A.on (hO _ _ _ n2015) (Le.mk [(0, 0), (1, 1)] hm rfl (Sa8 (Sa1 trivial)) (Ra1 trivial) (Ba1 trivial))
         ·refine L.loadPtr shape39 hF rfl rfl rfl rfl rfl rfl (L.nil ?_)
          refine Atk 10 rfl (Ca.indexAddr) (fun Q0 k0 => L.idxR (xs := v1117.Kids) (e := eI) Try.underlying39 info3 hF rfl rfl rfl rfl rfl hb1139 rfl rfl (L.nil k0)) ?_
          refine A.all [2, 11] (by kernel_rfl) rfl ⟨⟨_, rfl, ?_⟩, ⟨_, rfl, ?_⟩, trivial⟩
          ·refine L.loadPtr shape39 hF rfl rfl rfl rfl rfl rfl (L.nil ?_)
           refine Atk 4 rfl (Ca.indexAddr) (fun Q0 k0 => L.idxR (xs := v1117.Kids) (e := eI) Try.underlying39 info3 hF rfl rfl rfl rfl rfl hb1138 rfl rfl (L.nil k0)) ?_
           exact A.on (hO _ _ _ n2015) (Le.mk [(0, 0), (1, 1)] hm rfl (Sa8 (Sa1 trivial)) (Ra1 trivial) (Ba1 trivial))
          ·refine L.loadPe shape3 hF rfl rfl rfl rfl rfl (L.nil ?_)
           refine Atk 12 rfl (Ca.indexAddr) (fun Q0 k0 => L.idxR (xs := v1114) (e := eI) Try.underlying39 info3 hF rfl rfl rfl rfl rfl hb1140 rfl rfl (L.nil k0)) ?_
           refine A.le (τ := mkSt [(0, one (Cell.sl g0 (List.map eTimpl_Tlv v1113))), (3, one (Cell.own 0)), (4, one (cI v1115)), (5, one (Cell.ptr 1 0)), (6, one (cI v1116)), (71, one (Cell.own 0)), (72, one (Cell.ptr 1 3)), (74, one (cI v1116)), (83, one (Cell.ep 0 b1139.toNat 0))] [(0, ⟨1, List.map eI v1114⟩)] [(1, (bTimpl_Tlv g0 v1117))] 2) (Le.mk [(0, 0), (1, 1)] hm rfl (Sa8 (Sa1 trivial)) (Ra1 trivial) (Ba1 trivial)) ?_
           refine A.all [2, 13] (by kernel_rfl) rfl ⟨⟨_, rfl, ?_⟩, ⟨_, rfl, ?_⟩, trivial⟩
           ·refine L.loadPtr shape39 hF rfl rfl rfl rfl rfl rfl (L.nil ?_)
            refine Atk 4 rfl (Ca.indexAddr) (fun Q0 k0 => L.idxR (xs := v1117.Kids) (e := eI) Try.underlying39 info3 hF rfl rfl rfl rfl rfl hb1138 rfl rfl (L.nil k0)) ?_
            exact A.on (hO _ _ _ n8159) (Le.mk [(0, 0), (1, 1)] hm rfl (Sa8 trivial) (Ra1 trivial) (Ba1 trivial))
           ·refine L.loadEp (xs := v1114) (e := eI) shape3 hF rfl rfl rfl rfl (at?_get hb1140).2 rfl rfl ?_
            refine L.nil ?_
            refine Atk 14 rfl (Ca.bin rfl rfl (calm_int _ _ _ _ _ _ _ _)) (fun Q0 k0 => L.bin hF rfl rfl rfl rfl rfl rfl (L.nil k0)) ?_
            refine A.all [2] (by kernel_rfl) rfl ⟨⟨_, rfl, ?_⟩, trivial⟩
            refine L.loadPtr shape39 hF rfl rfl rfl rfl rfl rfl (L.nil ?_)
            refine Atk 4 rfl (Ca.indexAddr) (fun Q0 k0 => L.idxR (xs := v1117.Kids) (e := eI) Try.underlying39 info3 hF rfl rfl rfl rfl rfl hb1138 rfl rfl (L.nil k0)) ?_
            exact A.on (hO _ _ _ n32735) (Le.mk [(0, 0), (1, 1)] hm rfl (Sa8 trivial) (Ra1 trivial) (Ba1 trivial))
      ·replace H := condF hc H
       refine WpC.exit (WpC.regionL ?_)
       refine L.move hF rfl rfl rfl ?_
       refine L.bin hF rfl rfl rfl rfl rfl rfl ?_
       refine L.assign hF rfl rfl rfl (L.nil ?_)
       exact ⟨k22, _, by omega, ⟨v1113, v1114, (IntKind.i64.wrap (v1115 + (1 : Int))), by omega, H, rfl⟩, Le.mk [(0, 0)] hm rfl (Sa2 (Sa1 trivial)) (Ra1 trivial) trivial⟩
    ·refine WpC.seq (WpC.regionL ?_)
     refine L.fieldAddr Try.underlying45 rfl info3 rfl hF rfl rfl rfl rfl rfl ?_
     refine L.loadPtr shape3 hF rfl rfl rfl rfl rfl rfl ?_
     obtain ⟨r1143, hr1143, H⟩ := bindS H
     refine L.call [false, false, false] [] [] 2 hF rfl rfl rfl ent121 rfl rfl rfl rfl rfl (Fspec_l1In_gives k22  b1049.Tag (1 : Int) (100 : Int) r1143 hr1143) rfl ?_
     refine L.not hF rfl rfl rfl ?_
     refine L.move hF rfl rfl rfl ?_
     refine L.split (fun hc => ?_) (fun hc => ?_)
     ·replace H := condT hc H
      refine L.off hF rfl rfl ?_
      refine L.off hF rfl rfl ?_
      refine L.off hF rfl rfl ?_
      refine L.off hF rfl rfl ?_
      refine L.off hF rfl rfl ?_
      refine L.off hF rfl rfl ?_
      refine L.off hF rfl rfl ?_
      refine L.off hF rfl rfl ?_
      refine L.pick hF rfl rfl rfl rfl ?_
      refine L.move hF rfl rfl rfl ?_
      refine L.off hF rfl rfl ?_
      refine L.off hF rfl rfl ?_
      refine L.off hF rfl rfl ?_
      refine L.off hF rfl rfl ?_
      refine L.off hF rfl rfl ?_
      refine L.off hF rfl rfl ?_
      refine L.off hF rfl rfl ?_
      refine L.off hF rfl rfl ?_
      refine L.pick hF rfl rfl rfl rfl (L.nil ?_)
      refine WpC.cond rfl (fun _ => ?_) (fun hc => by cases hc)
      refine WpC.seq (WpC.regionL ?_)
      refine L.assign hF rfl rfl rfl (L.nil ?_)
      refine WpC.ret ?_
      cases H
      exact Leaves.ret rfl rfl rfl ⟨rfl, rfl⟩
     ·replace H := condF hc H
      refine L.fieldAddr Try.underlying45 rfl info4 rfl hF rfl rfl rfl rfl rfl ?_
      refine L.loadPtr shape4 hF rfl rfl rfl rfl rfl rfl ?_
      refine L.move hF rfl rfl rfl ?_
      refine L.split (fun hc => ?_) (fun hc => ?_)
      ·replace H := condT hc H
       refine L.fieldAddr Try.underlying45 rfl info39 rfl hF rfl rfl rfl rfl rfl ?_
       refine L.loadPtr shape39 hF rfl rfl rfl rfl rfl rfl ?_
       refine L.lenR (xs := b1049.Kids) (e := eI) Try.underlying39 hF rfl rfl rfl rfl ?_
       refine L.bin hF rfl rfl rfl rfl rfl rfl ?_
       refine L.pick hF rfl rfl rfl rfl ?_
       refine L.pick hF rfl rfl rfl rfl ?_
       refine L.move hF rfl rfl rfl ?_
       refine L.split (fun hc => ?_) (fun hc => ?_)
       ·replace H := condT hc H
        refine L.off hF rfl rfl ?_
        refine L.off hF rfl rfl ?_
        refine L.off hF rfl rfl ?_
        refine L.off hF rfl rfl ?_
        refine L.off hF rfl rfl ?_
        refine L.off hF rfl rfl ?_
        refine L.off hF rfl rfl ?_
        refine L.off hF rfl rfl ?_
        refine L.pick hF rfl rfl rfl rfl (L.nil ?_)
        refine WpC.cond rfl (fun _ => ?_) (fun hc => by cases hc)
        refine WpC.seq (WpC.regionL ?_)
        refine L.assign hF rfl rfl rfl (L.nil ?_)
        refine WpC.ret ?_
        cases H
        exact Leaves.ret rfl rfl rfl ⟨rfl, rfl⟩
       ·replace H := condF hc H
        refine L.fieldAddr Try.underlying45 rfl info4 rfl hF rfl rfl rfl rfl rfl ?_
        refine L.loadPtr shape4 hF rfl rfl rfl rfl rfl rfl ?_
        refine L.not hF rfl rfl rfl ?_
        refine L.move hF rfl rfl rfl ?_
        refine L.split (fun hc => ?_) (fun hc => ?_)
        ·replace H := condT hc H
         refine L.fieldAddr Try.underlying45 rfl info9 rfl hF rfl rfl rfl rfl rfl ?_
         refine L.loadPtr shape9 hF rfl rfl rfl rfl rfl rfl ?_
         refine L.binS hF rfl rfl rfl rfl rfl ?_
         refine L.pick hF rfl rfl rfl rfl ?_
         refine L.pick hF rfl rfl rfl rfl (L.nil ?_)
         refine WpC.cond rfl (fun hc => ?_) (fun hc => ?_)
         ·replace H := condT hc H
          refine WpC.seq (WpC.regionL ?_)
          refine L.assign hF rfl rfl rfl (L.nil ?_)
          refine WpC.ret ?_
          cases H
          exact Leaves.ret rfl rfl rfl ⟨rfl, rfl⟩
         ·replace H := condF hc H
          refine WpC.skip ?_
          exact ⟨_, ⟨k22, v951, v952, v953, b1049, by omega, H, rfl⟩, Le.mk [(0, 0), (1, 1)] hm rfl (Sa4 trivial) (Ra1 trivial) (Ba1 trivial)⟩
        ·replace H := condF hc H
         refine L.off hF rfl rfl ?_
         refine L.off hF rfl rfl ?_
         refine L.off hF rfl rfl ?_
         refine L.pick hF rfl rfl rfl rfl ?_
         refine L.pick hF rfl rfl rfl rfl (L.nil ?_)
         refine WpC.cond rfl (fun hc => by cases hc) (fun _ => ?_)
         refine WpC.skip ?_
         exact ⟨_, ⟨k22, v951, v952, v953, b1049, by omega, H, rfl⟩, Le.mk [(0, 0), (1, 1)] hm rfl (Sa4 trivial) (Ra1 trivial) (Ba1 trivial)⟩
      ·replace H := condF hc H
       refine L.off hF rfl rfl ?_
       refine L.off hF rfl rfl ?_
       refine L.off hF rfl rfl ?_
       refine L.off hF rfl rfl ?_
       refine L.pick hF rfl rfl rfl rfl ?_
       refine L.pick hF rfl rfl rfl rfl ?_
       refine L.move hF rfl rfl rfl ?_
       refine L.fieldAddr Try.underlying45 rfl info4 rfl hF rfl rfl rfl rfl rfl ?_
       refine L.loadPtr shape4 hF rfl rfl rfl rfl rfl rfl ?_
       refine L.not hF rfl rfl rfl ?_
       refine L.move hF rfl rfl rfl ?_
       refine L.split (fun hc => ?_) (fun hc => ?_)
       ·replace H := condT hc H
        refine L.fieldAddr Try.underlying45 rfl info9 rfl hF rfl rfl rfl rfl rfl ?_
        refine L.loadPtr shape9 hF rfl rfl rfl rfl rfl rfl ?_
        refine L.binS hF rfl rfl rfl rfl rfl ?_
        refine L.pick hF rfl rfl rfl rfl ?_
        refine L.pick hF rfl rfl rfl rfl (L.nil ?_)
        refine WpC.cond rfl (fun hc => ?_) (fun hc => ?_)
        ·replace H := condT hc H
         refine WpC.seq (WpC.regionL ?_)
         refine L.assign hF rfl rfl rfl (L.nil ?_)
         refine WpC.ret ?_
         cases H
         exact Leaves.ret rfl rfl rfl ⟨rfl, rfl⟩
        ·replace H := condF hc H
         refine WpC.skip ?_
         exact ⟨_, ⟨k22, v951, v952, v953, b1049, by omega, H, rfl⟩, Le.mk [(0, 0), (1, 1)] hm rfl (Sa4 trivial) (Ra1 trivial) (Ba1 trivial)⟩
       ·replace H := condF hc H
        refine L.off hF rfl rfl ?_
        refine L.off hF rfl rfl ?_
        refine L.off hF rfl rfl ?_
        refine L.pick hF rfl rfl rfl rfl ?_
        refine L.pick hF rfl rfl rfl rfl (L.nil ?_)
        refine WpC.cond rfl (fun hc => by cases hc) (fun _ => ?_)
        refine WpC.skip ?_
        exact ⟨_, ⟨k22, v951, v952, v953, b1049, by omega, H, rfl⟩, Le.mk [(0, 0), (1, 1)] hm rfl (Sa4 trivial) (Ra1 trivial) (Ba1 trivial)⟩
   ·replace H := condF hc H
    refine WpC.exit (WpC.seq (WpC.seq (WpC.regionL ?_)))
    refine L.assign hF rfl rfl rfl (L.nil ?_)
    refine WpC.block ?_
    refine WpC.loopL (P := Try.prog) (fun n σ => ∃ v1162 : List Int, ∃ v1163 : Int, n ≤ K ∧ Fspec_l14Tree.l28 n v1162 v1163 = some r ∧ σ = mkSt [(3, one (Cell.own 0)), (7, one (cI v1163))] [(0, ⟨1, List.map eI v1162⟩)] [] 1) k22 ⟨_, ⟨v952, (0 : Int), by omega, H, rfl⟩, Le.mk [(0, 0)] hm rfl (Sa2 trivial) (Ra1 trivial) trivial⟩ ?_
    clear H
    rintro k28 _ ⟨v1162, v1163, hk28, H, rfl⟩
    cases k28 with
    | zero => cases H
    | succ k28 =>
     rw [Fspec_l14Tree.l28] at H
     refine WpC.seq (WpC.seq (WpC.regionL ?_))
     refine L.move hF rfl rfl rfl ?_
     refine L.move hF rfl rfl rfl ?_
     refine L.lenR (xs := v1162) (e := eI) Try.underlying39 hF rfl rfl rfl rfl ?_
     refine L.bin hF rfl rfl rfl rfl rfl rfl ?_
     refine L.bin hF rfl rfl rfl rfl rfl rfl (L.nil ?_)
     refine WpC.cond rfl (fun hc => ?_) (fun hc => ?_)
     ·replace H := condT hc H
      refine WpC.skip (WpC.seq (WpC.block (WpC.seq (WpC.regionL ?_))))
      refine L.move hF rfl rfl rfl ?_
      refine L.move hF rfl rfl rfl ?_
      obtain ⟨b1165, hb1165, H⟩ := bindS H
      refine L.idxR (xs := v1162) (e := eI) Try.underlying39 info3 hF rfl rfl rfl rfl rfl hb1165 rfl rfl ?_
      refine L.loadEp (xs := v1162) (e := eI) shape3 hF rfl rfl rfl rfl (at?_get hb1165).2 rfl rfl ?_
      refine L.bin hF rfl rfl rfl rfl rfl rfl (L.nil ?_)
      refine WpC.cond rfl (fun hc => ?_) (fun hc => ?_)
      ·replace H := condT hc H
       refine WpC.seq (WpC.regionL ?_)
       refine L.assign hF rfl rfl rfl (L.nil ?_)
       refine WpC.ret ?_
       cases H
       exact Leaves.ret rfl rfl rfl ⟨rfl, rfl⟩
      ·replace H := condF hc H
       refine WpC.skip (WpC.regionL ?_)
       refine L.move hF rfl rfl rfl ?_
       refine L.bin hF rfl rfl rfl rfl rfl rfl ?_
       refine L.assign hF rfl rfl rfl (L.nil ?_)
       exact ⟨k28, _, by omega, ⟨v1162, (IntKind.i64.wrap (v1163 + (1 : Int))), by omega, H, rfl⟩, Le.mk [(0, 0)] hm rfl (Sa2 trivial) (Ra1 trivial) trivial⟩
     ·replace H := condF hc H
      refine WpC.exit (WpC.seq (WpC.regionL ?_))
      refine L.assign hF rfl rfl rfl (L.nil ?_)
      refine WpC.ret ?_
      cases H
      exact Leaves.ret rfl rfl rfl ⟨rfl, rfl⟩
/-! ### Fspec_Var -/
def Fspec_Var.l2 : Nat → Int → (List UInt8) → Option (List UInt8)
 | 0, _, _ => none
 | k2 + 1, v16, v17 => cond (decide (v16 ≥ (128 : Int))) (cond (decide ((2 * (v17.length + ([(ofI (IntKind.i64.wrap ((128 : Int) + (Int.tmod v16 (128 : Int)))))] : List UInt8).length) + 192) * 1 ≤ 281474976710656)) ((Fspec_Var.l2 k2) (IntKind.i64.wrap (Int.tdiv v16 (128 : Int))) (v17 ++ ([(ofI (IntKind.i64.wrap ((128 : Int) + (Int.tmod v16 (128 : Int)))))] : List UInt8))) none) (cond (decide ((2 * (v17.length + ([(ofI v16)] : List UInt8).length) + 192) * 1 ≤ 281474976710656)) (some (v17 ++ ([(ofI v16)] : List UInt8))) none)
def Fspec_Var (k : Nat) (a0 : Int) : Option (List UInt8) := (Fspec_l1In k a0 (0 : Int) (562949953421311 : Int)).bind fun r2 => cond (!r2) (some ([] : List UInt8)) (Fspec_Var.l2 k a0 ([] : List UInt8))
theorem ent68 : MG.Enters Try.prog 68 := ⟨Try.f68, Try.func68, rfl, by decide⟩
set_option maxHeartbeats 8000000 in
set_option maxRecDepth 100000 in
theorem Fspec_Var_gives (k : Nat) (a0 : Int) (r : List UInt8) (H : Fspec_Var k a0 = some r) : Gives Try.prog 68 [V.one (cI a0)] [] [V.one (cS r)] [] := by
 refine Gives.intro Try.func68 rfl rfl rfl rfl ?_
 intro F hF hm
 unfold Fspec_Var at H
 obtain ⟨K, hK⟩ : ∃ K, k ≤ K := ⟨k, Nat.le_refl k⟩
 refine WpC.seq (WpC.regionL ?_)
 refine L.assign hF rfl rfl rfl (L.nil ?_)
 refine WpC.seq (WpC.seq (WpC.regionL ?_))
 refine L.move hF rfl rfl rfl ?_
 obtain ⟨r2, hr2, H⟩ := bindS H
 refine L.call [false, false, false] [] [] 1 hF rfl rfl rfl ent121 rfl rfl rfl rfl rfl (Fspec_l1In_gives k  a0 (0 : Int) (562949953421311 : Int) r2 hr2) rfl ?_
 refine L.not hF rfl rfl rfl (L.nil ?_)
 refine WpC.cond rfl (fun hc => ?_) (fun hc => ?_)
 ·replace H := condT hc H
  refine WpC.seq (WpC.regionL ?_)
  refine L.assign hF rfl rfl rfl (L.nil ?_)
  refine WpC.ret ?_
  cases H
  exact Leaves.ret rfl rfl rfl ⟨rfl, rfl⟩
 ·replace H := condF hc H
  refine WpC.skip (WpC.seq (WpC.regionL ?_))
  refine L.buildSlice (e := eB) 2 ([] : List UInt8) Try.underlying33 info5 rfl rfl rfl hF rfl rfl rfl rfl rfl rfl rfl rfl ?_
  refine L.assign hF rfl rfl rfl (L.nil ?_)
  refine WpC.seq (WpC.block ?_)
  refine WpC.loopL (P := Try.prog) (fun n σ => ∃ v16 : Int, ∃ v17 : List UInt8, n ≤ K ∧ Fspec_Var.l2 n v16 v17 = some r ∧ σ = mkSt [(0, one (cI v16)), (3, one (Cell.own 0))] [(0, ⟨1, List.map eB v17⟩)] [] 1) k ⟨_, ⟨a0, ([] : List UInt8), by omega, H, rfl⟩, Le.mk [(0, 2)] hm rfl (Sa2 trivial) (Ra1 trivial) trivial⟩ ?_
  clear H
  rintro k2 _ ⟨v16, v17, hk2, H, rfl⟩
  cases k2 with
  | zero => cases H
  | succ k2 =>
   rw [Fspec_Var.l2] at H
   refine WpC.seq (WpC.seq (WpC.regionL ?_))
   refine L.move hF rfl rfl rfl ?_
   refine L.bin hF rfl rfl rfl rfl rfl rfl (L.nil ?_)
   refine WpC.cond rfl (fun hc => ?_) (fun hc => ?_)
   ·replace H := condT hc H
    refine WpC.skip (WpC.block (WpC.seq (WpC.regionL ?_)))
    refine L.move hF rfl rfl rfl ?_
    refine L.move hF rfl rfl rfl ?_
    refine L.rem hF rfl rfl rfl rfl (by decide) ?_
    refine L.bin hF rfl rfl rfl rfl rfl rfl ?_
    refine L.toB Try.underlying3 Try.underlying5 hF rfl rfl rfl ?_
    refine L.buildSlice (e := eB) 1 ([(ofI (IntKind.i64.wrap ((128 : Int) + (Int.tmod v16 (128 : Int)))))] : List UInt8) Try.underlying33 info5 rfl rfl rfl hF rfl rfl rfl rfl rfl rfl rfl rfl ?_
    obtain ⟨h18, H⟩ := condG H
    refine L.append (xs := v17) (ys := ([(ofI (IntKind.i64.wrap ((128 : Int) + (Int.tmod v16 (128 : Int)))))] : List UInt8)) (e := eB) 2 Try.underlying33 info5 rfl rfl hF rfl rfl rfl rfl rfl rfl rfl rfl (fun _ => rfl) (fun _ _ h1 h2 => by cases h1; cases h2; rfl) ⟨_, Try.underlying33⟩ (of_decide_eq_true h18) rfl rfl ?_
    refine L.assign hF rfl rfl rfl (L.nil ?_)
    refine WpC.regionL ?_
    refine L.move hF rfl rfl rfl ?_
    refine L.quo hF rfl rfl rfl rfl (by decide) ?_
    refine L.assign hF rfl rfl rfl (L.nil ?_)
    exact ⟨k2, _, by omega, ⟨(IntKind.i64.wrap (Int.tdiv v16 (128 : Int))), (v17 ++ ([(ofI (IntKind.i64.wrap ((128 : Int) + (Int.tmod v16 (128 : Int)))))] : List UInt8)), by omega, H, rfl⟩, Le.mk [(0, 2)] hm rfl (Sa2 trivial) (Ra1 trivial) trivial⟩
   ·replace H := condF hc H
    refine WpC.exit (WpC.seq (WpC.regionL ?_))
    refine L.move hF rfl rfl rfl ?_
    refine L.move hF rfl rfl rfl ?_
    refine L.toB Try.underlying3 Try.underlying5 hF rfl rfl rfl ?_
    refine L.buildSlice (e := eB) 1 ([(ofI v16)] : List UInt8) Try.underlying33 info5 rfl rfl rfl hF rfl rfl rfl rfl rfl rfl rfl rfl ?_
    obtain ⟨h19, H⟩ := condG H
    refine L.append (xs := v17) (ys := ([(ofI v16)] : List UInt8)) (e := eB) 2 Try.underlying33 info5 rfl rfl hF rfl rfl rfl rfl rfl rfl rfl rfl (fun _ => rfl) (fun _ _ h1 h2 => by cases h1; cases h2; rfl) ⟨_, Try.underlying33⟩ (of_decide_eq_true h19) rfl rfl ?_
    refine L.b2s (xs := (v17 ++ ([(ofI v16)] : List UInt8))) Try.underlying33 Try.underlying5 Try.underlying9 hF rfl rfl rfl rfl ?_
    refine L.assign hF rfl rfl rfl (L.nil ?_)
    refine WpC.ret ?_
    cases H
    exact Leaves.ret rfl rfl rfl ⟨rfl, rfl⟩
end Go.Proofs.Ytgjbgakcfcomdaa.M
