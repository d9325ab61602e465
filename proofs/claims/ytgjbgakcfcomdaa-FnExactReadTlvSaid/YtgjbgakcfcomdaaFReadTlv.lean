import Derived.Test.YtgjbgakcfcomdaaMgZf
import Derived.Test.YtgjbgakcfcomdaaProg
namespace Go.Proofs.Ytgjbgakcfcomdaa.M
open Go Go.MG
set_option linter.unusedVariables false
set_option linter.unusedSimpArgs false
structure Timpl_Tlv where
  Tag : Int
  Leaf : Bool
  Data : List UInt8
  Kids : List Int
def eTimpl_Tlv (x : Timpl_Tlv) : List Cell := [cI x.Tag, cL x.Leaf, cS x.Data, Cell.ow 1 (List.map eI x.Kids)]
def bTimpl_Tlv (g0 : Bool) (x : Timpl_Tlv) : List Cell := [cI x.Tag, cL x.Leaf, cS x.Data, Cell.sl g0 (List.map eI x.Kids)]
structure Tspec_l14R where
  s : List UInt8
  out : List Timpl_Tlv
  begun : Int
  code : Int
def eTspec_l14R (x : Tspec_l14R) : List Cell := [cS x.s, Cell.sl true (List.map eTimpl_Tlv x.out), cI x.begun, cI x.code]
structure Timpl_tlvReader where
  s : List UInt8
  nodes : List Timpl_Tlv
  begun : Int
def eTimpl_tlvReader (x : Timpl_tlvReader) : List Cell := [cS x.s, Cell.ow 4 (List.map eTimpl_Tlv x.nodes), cI x.begun]
theorem mixed : Try.prog.follows .mixedOrders = true := by kernel_rfl
theorem shape3 : MG.shape Try.prog 3 = some (false, 1) := by kernel_rfl
theorem shape4 : MG.shape Try.prog 4 = some (false, 1) := by kernel_rfl
theorem shape9 : MG.shape Try.prog 9 = some (false, 1) := by kernel_rfl
theorem shape22 : MG.shape Try.prog 22 = some (false, 1) := by kernel_rfl
theorem shape39 : MG.shape Try.prog 39 = some (false, 1) := by kernel_rfl
theorem shape45 : MG.shape Try.prog 45 = some (true, 4) := by kernel_rfl
theorem shape82 : MG.shape Try.prog 82 = some (true, 4) := by kernel_rfl
theorem info3 : Try.prog.info? 3 = some Try.t3 := by kernel_rfl
theorem info4 : Try.prog.info? 4 = some Try.t4 := by kernel_rfl
theorem info5 : Try.prog.info? 5 = some Try.t5 := by kernel_rfl
theorem info9 : Try.prog.info? 9 = some Try.t9 := by kernel_rfl
theorem info22 : Try.prog.info? 22 = some Try.t22 := by kernel_rfl
theorem info39 : Try.prog.info? 39 = some Try.t39 := by kernel_rfl
theorem info45 : Try.prog.info? 45 = some Try.t45 := by kernel_rfl
theorem info82 : Try.prog.info? 82 = some Try.t82 := by kernel_rfl
theorem info87 : Try.prog.info? 87 = some Try.t87 := by kernel_rfl
theorem built45 : builtA Try.prog 45 = fillA (fun x => ([(0, 1), (1, 1), (2, 1), (3, 1)] : List (Nat × Nat))[x]?) [cI (0 : Int), cL false, cS ([] : List UInt8), Cell.nil] := by kernel_rfl
theorem built82 : builtA Try.prog 82 = fillA (fun x => ([(0, 1), (1, 1), (2, 1), (3, 1)] : List (Nat × Nat))[x]?) [cS ([] : List UInt8), Cell.nil, cI (0 : Int), cI (0 : Int)] := by kernel_rfl
theorem built87 : builtA Try.prog 87 = fillA (fun x => ([(0, 1), (1, 1), (2, 1)] : List (Nat × Nat))[x]?) [cS ([] : List UInt8), Cell.nil, cI (0 : Int)] := by kernel_rfl
abbrev bx (a b c d : Int) : List Cell := [cI a, cI b, cI c, cI d]
theorem Sa1 {π : Nat → Option Nat} {σ : St} {t0 : Nat} {s0 u0 : Slot} {l : List (Nat × Slot)} (k : SlotsOk π σ l) (h0 : renS π s0 = some u0 := by exact rfl) (g0 : σ.slots t0 = some u0 := by exact rfl) : SlotsOk π σ ((t0, s0) :: l) := ⟨⟨_, h0, g0⟩, k⟩
theorem Ra1 {π : Nat → Option Nat} {σ : St} {t0 q0 : Nat} {s0 : Row} {l : List (Nat × Row)} (k : RowsOk π σ l) (h0 : π t0 = some q0 := by exact rfl) (g0 : σ.H.rows q0 = some s0 := by exact rfl) : RowsOk π σ ((t0, s0) :: l) := ⟨⟨_, h0, g0⟩, k⟩
theorem Ba1 {π : Nat → Option Nat} {σ : St} {t0 q0 : Nat} {c0 d0 : List Cell} {l : List (Nat × List Cell)} (k : BoxesOk π σ l) (h0 : π t0 = some q0 := by exact rfl) (g0 : renCs π c0 = some d0 := by exact rfl) (e0 : σ.H.boxes q0 = some d0 := by exact rfl) : BoxesOk π σ ((t0, c0) :: l) := ⟨⟨_, _, h0, g0, e0⟩, k⟩
theorem Sa2 {π : Nat → Option Nat} {σ : St} {t0 t1 : Nat} {s0 u0 s1 u1 : Slot} {l : List (Nat × Slot)} (k : SlotsOk π σ l) (h0 : renS π s0 = some u0 := by exact rfl) (g0 : σ.slots t0 = some u0 := by exact rfl) (h1 : renS π s1 = some u1 := by exact rfl) (g1 : σ.slots t1 = some u1 := by exact rfl) : SlotsOk π σ ((t0, s0) :: (t1, s1) :: l) := ⟨⟨_, h0, g0⟩, ⟨_, h1, g1⟩, k⟩
theorem Ra2 {π : Nat → Option Nat} {σ : St} {t0 q0 t1 q1 : Nat} {s0 s1 : Row} {l : List (Nat × Row)} (k : RowsOk π σ l) (h0 : π t0 = some q0 := by exact rfl) (g0 : σ.H.rows q0 = some s0 := by exact rfl) (h1 : π t1 = some q1 := by exact rfl) (g1 : σ.H.rows q1 = some s1 := by exact rfl) : RowsOk π σ ((t0, s0) :: (t1, s1) :: l) := ⟨⟨_, h0, g0⟩, ⟨_, h1, g1⟩, k⟩
theorem Ba2 {π : Nat → Option Nat} {σ : St} {t0 q0 t1 q1 : Nat} {c0 d0 c1 d1 : List Cell} {l : List (Nat × List Cell)} (k : BoxesOk π σ l) (h0 : π t0 = some q0 := by exact rfl) (g0 : renCs π c0 = some d0 := by exact rfl) (e0 : σ.H.boxes q0 = some d0 := by exact rfl) (h1 : π t1 = some q1 := by exact rfl) (g1 : renCs π c1 = some d1 := by exact rfl) (e1 : σ.H.boxes q1 = some d1 := by exact rfl) : BoxesOk π σ ((t0, c0) :: (t1, c1) :: l) := ⟨⟨_, _, h0, g0, e0⟩, ⟨_, _, h1, g1, e1⟩, k⟩
theorem Sa4 {π : Nat → Option Nat} {σ : St} {t0 t1 t2 t3 : Nat} {s0 u0 s1 u1 s2 u2 s3 u3 : Slot} {l : List (Nat × Slot)} (k : SlotsOk π σ l) (h0 : renS π s0 = some u0 := by exact rfl) (g0 : σ.slots t0 = some u0 := by exact rfl) (h1 : renS π s1 = some u1 := by exact rfl) (g1 : σ.slots t1 = some u1 := by exact rfl) (h2 : renS π s2 = some u2 := by exact rfl) (g2 : σ.slots t2 = some u2 := by exact rfl) (h3 : renS π s3 = some u3 := by exact rfl) (g3 : σ.slots t3 = some u3 := by exact rfl) : SlotsOk π σ ((t0, s0) :: (t1, s1) :: (t2, s2) :: (t3, s3) :: l) := ⟨⟨_, h0, g0⟩, ⟨_, h1, g1⟩, ⟨_, h2, g2⟩, ⟨_, h3, g3⟩, k⟩
theorem Ra4 {π : Nat → Option Nat} {σ : St} {t0 q0 t1 q1 t2 q2 t3 q3 : Nat} {s0 s1 s2 s3 : Row} {l : List (Nat × Row)} (k : RowsOk π σ l) (h0 : π t0 = some q0 := by exact rfl) (g0 : σ.H.rows q0 = some s0 := by exact rfl) (h1 : π t1 = some q1 := by exact rfl) (g1 : σ.H.rows q1 = some s1 := by exact rfl) (h2 : π t2 = some q2 := by exact rfl) (g2 : σ.H.rows q2 = some s2 := by exact rfl) (h3 : π t3 = some q3 := by exact rfl) (g3 : σ.H.rows q3 = some s3 := by exact rfl) : RowsOk π σ ((t0, s0) :: (t1, s1) :: (t2, s2) :: (t3, s3) :: l) := ⟨⟨_, h0, g0⟩, ⟨_, h1, g1⟩, ⟨_, h2, g2⟩, ⟨_, h3, g3⟩, k⟩
theorem Ba4 {π : Nat → Option Nat} {σ : St} {t0 q0 t1 q1 t2 q2 t3 q3 : Nat} {c0 d0 c1 d1 c2 d2 c3 d3 : List Cell} {l : List (Nat × List Cell)} (k : BoxesOk π σ l) (h0 : π t0 = some q0 := by exact rfl) (g0 : renCs π c0 = some d0 := by exact rfl) (e0 : σ.H.boxes q0 = some d0 := by exact rfl) (h1 : π t1 = some q1 := by exact rfl) (g1 : renCs π c1 = some d1 := by exact rfl) (e1 : σ.H.boxes q1 = some d1 := by exact rfl) (h2 : π t2 = some q2 := by exact rfl) (g2 : renCs π c2 = some d2 := by exact rfl) (e2 : σ.H.boxes q2 = some d2 := by exact rfl) (h3 : π t3 = some q3 := by exact rfl) (g3 : renCs π c3 = some d3 := by exact rfl) (e3 : σ.H.boxes q3 = some d3 := by exact rfl) : BoxesOk π σ ((t0, c0) :: (t1, c1) :: (t2, c2) :: (t3, c3) :: l) := ⟨⟨_, _, h0, g0, e0⟩, ⟨_, _, h1, g1, e1⟩, ⟨_, _, h2, g2, e2⟩, ⟨_, _, h3, g3, e3⟩, k⟩
theorem Sa8 {π : Nat → Option Nat} {σ : St} {t0 t1 t2 t3 t4 t5 t6 t7 : Nat} {s0 u0 s1 u1 s2 u2 s3 u3 s4 u4 s5 u5 s6 u6 s7 u7 : Slot} {l : List (Nat × Slot)} (k : SlotsOk π σ l) (h0 : renS π s0 = some u0 := by exact rfl) (g0 : σ.slots t0 = some u0 := by exact rfl) (h1 : renS π s1 = some u1 := by exact rfl) (g1 : σ.slots t1 = some u1 := by exact rfl) (h2 : renS π s2 = some u2 := by exact rfl) (g2 : σ.slots t2 = some u2 := by exact rfl) (h3 : renS π s3 = some u3 := by exact rfl) (g3 : σ.slots t3 = some u3 := by exact rfl) (h4 : renS π s4 = some u4 := by exact rfl) (g4 : σ.slots t4 = some u4 := by exact rfl) (h5 : renS π s5 = some u5 := by exact rfl) (g5 : σ.slots t5 = some u5 := by exact rfl) (h6 : renS π s6 = some u6 := by exact rfl) (g6 : σ.slots t6 = some u6 := by exact rfl) (h7 : renS π s7 = some u7 := by exact rfl) (g7 : σ.slots t7 = some u7 := by exact rfl) : SlotsOk π σ ((t0, s0) :: (t1, s1) :: (t2, s2) :: (t3, s3) :: (t4, s4) :: (t5, s5) :: (t6, s6) :: (t7, s7) :: l) := ⟨⟨_, h0, g0⟩, ⟨_, h1, g1⟩, ⟨_, h2, g2⟩, ⟨_, h3, g3⟩, ⟨_, h4, g4⟩, ⟨_, h5, g5⟩, ⟨_, h6, g6⟩, ⟨_, h7, g7⟩, k⟩
theorem Ra8 {π : Nat → Option Nat} {σ : St} {t0 q0 t1 q1 t2 q2 t3 q3 t4 q4 t5 q5 t6 q6 t7 q7 : Nat} {s0 s1 s2 s3 s4 s5 s6 s7 : Row} {l : List (Nat × Row)} (k : RowsOk π σ l) (h0 : π t0 = some q0 := by exact rfl) (g0 : σ.H.rows q0 = some s0 := by exact rfl) (h1 : π t1 = some q1 := by exact rfl) (g1 : σ.H.rows q1 = some s1 := by exact rfl) (h2 : π t2 = some q2 := by exact rfl) (g2 : σ.H.rows q2 = some s2 := by exact rfl) (h3 : π t3 = some q3 := by exact rfl) (g3 : σ.H.rows q3 = some s3 := by exact rfl) (h4 : π t4 = some q4 := by exact rfl) (g4 : σ.H.rows q4 = some s4 := by exact rfl) (h5 : π t5 = some q5 := by exact rfl) (g5 : σ.H.rows q5 = some s5 := by exact rfl) (h6 : π t6 = some q6 := by exact rfl) (g6 : σ.H.rows q6 = some s6 := by exact rfl) (h7 : π t7 = some q7 := by exact rfl) (g7 : σ.H.rows q7 = some s7 := by exact rfl) : RowsOk π σ ((t0, s0) :: (t1, s1) :: (t2, s2) :: (t3, s3) :: (t4, s4) :: (t5, s5) :: (t6, s6) :: (t7, s7) :: l) := ⟨⟨_, h0, g0⟩, ⟨_, h1, g1⟩, ⟨_, h2, g2⟩, ⟨_, h3, g3⟩, ⟨_, h4, g4⟩, ⟨_, h5, g5⟩, ⟨_, h6, g6⟩, ⟨_, h7, g7⟩, k⟩
theorem Ba8 {π : Nat → Option Nat} {σ : St} {t0 q0 t1 q1 t2 q2 t3 q3 t4 q4 t5 q5 t6 q6 t7 q7 : Nat} {c0 d0 c1 d1 c2 d2 c3 d3 c4 d4 c5 d5 c6 d6 c7 d7 : List Cell} {l : List (Nat × List Cell)} (k : BoxesOk π σ l) (h0 : π t0 = some q0 := by exact rfl) (g0 : renCs π c0 = some d0 := by exact rfl) (e0 : σ.H.boxes q0 = some d0 := by exact rfl) (h1 : π t1 = some q1 := by exact rfl) (g1 : renCs π c1 = some d1 := by exact rfl) (e1 : σ.H.boxes q1 = some d1 := by exact rfl) (h2 : π t2 = some q2 := by exact rfl) (g2 : renCs π c2 = some d2 := by exact rfl) (e2 : σ.H.boxes q2 = some d2 := by exact rfl) (h3 : π t3 = some q3 := by exact rfl) (g3 : renCs π c3 = some d3 := by exact rfl) (e3 : σ.H.boxes q3 = some d3 := by exact rfl) (h4 : π t4 = some q4 := by exact rfl) (g4 : renCs π c4 = some d4 := by exact rfl) (e4 : σ.H.boxes q4 = some d4 := by exact rfl) (h5 : π t5 = some q5 := by exact rfl) (g5 : renCs π c5 = some d5 := by exact rfl) (e5 : σ.H.boxes q5 = some d5 := by exact rfl) (h6 : π t6 = some q6 := by exact rfl) (g6 : renCs π c6 = some d6 := by exact rfl) (e6 : σ.H.boxes q6 = some d6 := by exact rfl) (h7 : π t7 = some q7 := by exact rfl) (g7 : renCs π c7 = some d7 := by exact rfl) (e7 : σ.H.boxes q7 = some d7 := by exact rfl) : BoxesOk π σ ((t0, c0) :: (t1, c1) :: (t2, c2) :: (t3, c3) :: (t4, c4) :: (t5, c5) :: (t6, c6) :: (t7, c7) :: l) := ⟨⟨_, _, h0, g0, e0⟩, ⟨_, _, h1, g1, e1⟩, ⟨_, _, h2, g2, e2⟩, ⟨_, _, h3, g3, e3⟩, ⟨_, _, h4, g4, e4⟩, ⟨_, _, h5, g5, e5⟩, ⟨_, _, h6, g6, e6⟩, ⟨_, _, h7, g7, e7⟩, k⟩
theorem Atk {P : Program} {F : Fix} {ops : Array Oper} {Q : St → Prop} {fuel : Nat} {listed : Array Bool} {sl : Nat → Option Slot} {H : Heap} {σ1 : St} {o : Oper} (i : Nat) (ho : ops[i]? = some o) (hc : CalmAt P F sl H o) (hL : ∀ Q0 : St → Prop, Q0 σ1 → WpL P F ops Q0 [o] ⟨sl, H⟩) (k : WpA P F ops Q fuel (listed.setIfInBounds i true) σ1) (hs : Region.noSelect ops = true := by kernel_rfl) (hf : Region.free .any ops listed i = true := by kernel_rfl) (hr : (Region.ready .any ops listed).contains i = true := by kernel_rfl) (hv : kindV o.op = true := by exact rfl) : WpA P F ops Q (fuel + 1) listed ⟨sl, H⟩ := A.take i ho hs hf hr hv hc hL k
theorem Aof {P : Program} {F : Fix} {ops : Array Oper} {Q : St → Prop} {fuel : Nat} {listed : Array Bool} {sl : Nat → Option Slot} {H : Heap} {o : Oper} {N : Nat} (i : Nat) (ho : ops[i]? = some o) (hn : F.n = N) (k : WpA P F ops Q fuel (listed.setIfInBounds i true) ⟨setD sl o.dst (some (.tup [])), H⟩) (hs : Region.noSelect ops = true := by kernel_rfl) (hf : Region.free .any ops listed i = true := by kernel_rfl) (hr : (Region.ready .any ops listed).contains i = true := by kernel_rfl) (hv : kindV o.op = true := by exact rfl) (hg : guardOf ops sl o = some false := by exact rfl) (hd : dstB N o.dst = true := by exact rfl) : WpA P F ops Q (fuel + 1) listed ⟨sl, H⟩ := A.off i ho hs hf hr hv hn hg hd k
/-! ### Fspec_l1In -/
def Fspec_l1In (k : Nat) (a0 : Int) (a1 : Int) (a2 : Int) : Option Bool := cond (decide (a0 ≥ a1)) (some (decide (a0 ≤ a2))) (some false)
theorem ent121 : MG.Enters Try.prog 121 := ⟨Try.f121, Try.func121, rfl, by decide⟩
set_option maxHeartbeats 8000000 in
set_option maxRecDepth 100000 in
theorem Fspec_l1In_gives (k : Nat) (a0 : Int) (a1 : Int) (a2 : Int) (r : Bool) (H : Fspec_l1In k a0 a1 a2 = some r) : Gives Try.prog 121 [V.one (cI a0), V.one (cI a1), V.one (cI a2)] [] [V.one (cL r)] [] := by
 refine Gives.intro Try.func121 rfl rfl rfl rfl ?_
 intro F hF hm
 unfold Fspec_l1In at H
 obtain ⟨K, hK⟩ : ∃ K, k ≤ K := ⟨k, Nat.le_refl k⟩
 refine WpC.seq (WpC.regionL ?_)
 refine L.assign hF rfl rfl rfl (L.nil ?_)
 refine WpC.seq (WpC.regionL ?_)
 refine L.move hF rfl rfl rfl ?_
 refine L.move hF rfl rfl rfl ?_
 refine L.bin hF rfl rfl rfl rfl rfl rfl ?_
 refine L.move hF rfl rfl rfl ?_
 refine L.split (fun hc => ?_) (fun hc => ?_)
 ·replace H := condT hc H
  refine L.move hF rfl rfl rfl ?_
  refine L.move hF rfl rfl rfl ?_
  refine L.bin hF rfl rfl rfl rfl rfl rfl ?_
  refine L.pick hF rfl rfl rfl rfl ?_
  refine L.assign hF rfl rfl rfl (L.nil ?_)
  refine WpC.ret ?_
  cases H
  exact Leaves.ret rfl rfl rfl ⟨rfl, rfl⟩
 ·replace H := condF hc H
  refine L.off hF rfl rfl ?_
  refine L.off hF rfl rfl ?_
  refine L.off hF rfl rfl ?_
  refine L.pick hF rfl rfl rfl rfl ?_
  refine L.assign hF rfl rfl rfl (L.nil ?_)
  refine WpC.ret ?_
  cases H
  exact Leaves.ret rfl rfl rfl ⟨rfl, rfl⟩
/-! ### Fspec_Var -/
def Fspec_Var.l2 : Nat → Int → (List UInt8) → Option (List UInt8)
 | 0, _, _ => none
 | k2 + 1, v16, v17 => cond (decide (v16 ≥ (128 : Int))) (cond (decide ((2 * (v17.length + ([(ofI (IntKind.i64.wrap ((128 : Int) + (Int.tmod v16 (128 : Int)))))] : List UInt8).length) + 192) * 1 ≤ 281474976710656)) ((Fspec_Var.l2 k2) (IntKind.i64.wrap (Int.tdiv v16 (128 : Int))) (v17 ++ ([(ofI (IntKind.i64.wrap ((128 : Int) + (Int.tmod v16 (128 : Int)))))] : List UInt8))) none) (cond (decide ((2 * (v17.length + ([(ofI v16)] : List UInt8).length) + 192) * 1 ≤ 281474976710656)) (some (v17 ++ ([(ofI v16)] : List UInt8))) none)
def Fspec_Var (k : Nat) (a0 : Int) : Option (List UInt8) := (Fspec_l1In k a0 (0 : Int) (562949953421311 : Int)).bind fun r2 => cond (!r2) (some ([] : List UInt8)) (Fspec_Var.l2 k a0 ([] : List UInt8))
theorem ent68 : MG.Enters Try.prog 68 := ⟨Try.f68, Try.func68, rfl, by decide⟩
set_option maxHeartbeats 8000000 in
set_option maxRecDepth 100000 in
theorem Fspec_Var_gives (k : Nat) (a0 : Int) (r : List UInt8) (H : Fspec_Var k a0 = some r) : Gives Try.prog 68 [V.one (cI a0)] [] [V.one (cS r)] [] := by
 refine Gives.intro Try.func68 rfl rfl rfl rfl ?_
 intro F hF hm
 unfold Fspec_Var at H
 obtain ⟨K, hK⟩ : ∃ K, k ≤ K := ⟨k, Nat.le_refl k⟩
 refine WpC.seq (WpC.regionL ?_)
 refine L.assign hF rfl rfl rfl (L.nil ?_)
 refine WpC.seq (WpC.seq (WpC.regionL ?_))
 refine L.move hF rfl rfl rfl ?_
 obtain ⟨r2, hr2, H⟩ := bindS H
 refine L.call [false, false, false] [] [] 1 hF rfl rfl rfl ent121 rfl rfl rfl rfl rfl (Fspec_l1In_gives k  a0 (0 : Int) (562949953421311 : Int) r2 hr2) rfl ?_
 refine L.not hF rfl rfl rfl (L.nil ?_)
 refine WpC.cond rfl (fun hc => ?_) (fun hc => ?_)
 ·replace H := condT hc H
  refine WpC.seq (WpC.regionL ?_)
  refine L.assign hF rfl rfl rfl (L.nil ?_)
  refine WpC.ret ?_
  cases H
  exact Leaves.ret rfl rfl rfl ⟨rfl, rfl⟩
 ·replace H := condF hc H
  refine WpC.skip (WpC.seq (WpC.regionL ?_))
  refine L.buildSlice (e := eB) 2 ([] : List UInt8) Try.underlying33 info5 rfl rfl rfl hF rfl rfl rfl rfl rfl rfl rfl rfl ?_
  refine L.assign hF rfl rfl rfl (L.nil ?_)
  refine WpC.seq (WpC.block ?_)
  refine WpC.loopL (P := Try.prog) (fun n σ => ∃ v16 : Int, ∃ v17 : List UInt8, n ≤ K ∧ Fspec_Var.l2 n v16 v17 = some r ∧ σ = mkSt [(0, one (cI v16)), (3, one (Cell.own 0))] [(0, ⟨1, List.map eB v17⟩)] [] 1) k ⟨_, ⟨a0, ([] : List UInt8), by omega, H, rfl⟩, Le.mk [(0, 2)] hm rfl (Sa2 trivial) (Ra1 trivial) trivial⟩ ?_
  clear H
  rintro k2 _ ⟨v16, v17, hk2, H, rfl⟩
  cases k2 with
  | zero => cases H
  | succ k2 =>
   rw [Fspec_Var.l2] at H
   refine WpC.seq (WpC.seq (WpC.regionL ?_))
   refine L.move hF rfl rfl rfl ?_
   refine L.bin hF rfl rfl rfl rfl rfl rfl (L.nil ?_)
   refine WpC.cond rfl (fun hc => ?_) (fun hc => ?_)
   ·replace H := condT hc H
    refine WpC.skip (WpC.block (WpC.seq (WpC.regionL ?_)))
    refine L.move hF rfl rfl rfl ?_
    refine L.move hF rfl rfl rfl ?_
    refine L.rem hF rfl rfl rfl rfl (by decide) ?_
    refine L.bin hF rfl rfl rfl rfl rfl rfl ?_
    refine L.toB Try.underlying3 Try.underlying5 hF rfl rfl rfl ?_
    refine L.buildSlice (e := eB) 1 ([(ofI (IntKind.i64.wrap ((128 : Int) + (Int.tmod v16 (128 : Int)))))] : List UInt8) Try.underlying33 info5 rfl rfl rfl hF rfl rfl rfl rfl rfl rfl rfl rfl ?_
    obtain ⟨h18, H⟩ := condG H
    refine L.append (xs := v17) (ys := ([(ofI (IntKind.i64.wrap ((128 : Int) + (Int.tmod v16 (128 : Int)))))] : List UInt8)) (e := eB) 2 Try.underlying33 info5 rfl rfl hF rfl rfl rfl rfl rfl rfl rfl rfl (fun _ => rfl) (fun _ _ h1 h2 => by cases h1; cases h2; rfl) ⟨_, Try.underlying33⟩ (of_decide_eq_true h18) rfl rfl ?_
    refine L.assign hF rfl rfl rfl (L.nil ?_)
    refine WpC.regionL ?_
    refine L.move hF rfl rfl rfl ?_
    refine L.quo hF rfl rfl rfl rfl (by decide) ?_
    refine L.assign hF rfl rfl rfl (L.nil ?_)
    exact ⟨k2, _, by omega, ⟨(IntKind.i64.wrap (Int.tdiv v16 (128 : Int))), (v17 ++ ([(ofI (IntKind.i64.wrap ((128 : Int) + (Int.tmod v16 (128 : Int)))))] : List UInt8)), by omega, H, rfl⟩, Le.mk [(0, 2)] hm rfl (Sa2 trivial) (Ra1 trivial) trivial⟩
   ·replace H := condF hc H
    refine WpC.exit (WpC.seq (WpC.regionL ?_))
    refine L.move hF rfl rfl rfl ?_
    refine L.move hF rfl rfl rfl ?_
    refine L.toB Try.underlying3 Try.underlying5 hF rfl rfl rfl ?_
    refine L.buildSlice (e := eB) 1 ([(ofI v16)] : List UInt8) Try.underlying33 info5 rfl rfl rfl hF rfl rfl rfl rfl rfl rfl rfl rfl ?_
    obtain ⟨h19, H⟩ := condG H
    refine L.append (xs := v17) (ys := ([(ofI v16)] : List UInt8)) (e := eB) 2 Try.underlying33 info5 rfl rfl hF rfl rfl rfl rfl rfl rfl rfl rfl (fun _ => rfl) (fun _ _ h1 h2 => by cases h1; cases h2; rfl) ⟨_, Try.underlying33⟩ (of_decide_eq_true h19) rfl rfl ?_
    refine L.b2s (xs := (v17 ++ ([(ofI v16)] : List UInt8))) Try.underlying33 Try.underlying5 Try.underlying9 hF rfl rfl rfl rfl ?_
    refine L.assign hF rfl rfl rfl (L.nil ?_)
    refine WpC.ret ?_
    cases H
    exact Leaves.ret rfl rfl rfl ⟨rfl, rfl⟩
/-! ### Fspec_ReadVar -/
def Fspec_ReadVar.l26 (cl22 : (List UInt8) → Int → Option (Int × Int)) : Nat → (List UInt8) → Int → Int → Int → Option (Int × Int)
 | 0, _, _, _, _ => none
 | k26 + 1, v411, v412, v413, v414 => cond (decide (v414 ≥ (0 : Int))) ((at? v411 v414).bind fun b416 => (Fspec_ReadVar.l26 cl22 k26) v411 v412 (IntKind.i64.wrap ((IntKind.i64.wrap (v413 * (128 : Int))) + (Int.tmod (b416.toNat : Int) (128 : Int)))) (IntKind.i64.wrap (v414 - (1 : Int)))) ((Fspec_Var k26 v413).bind fun r417 => (cut? v411 (0 : Int) v412).bind fun b418 => cond (r417 == b418) (some (v413, v412)) (cl22 v411 (IntKind.i64.wrap (v412 + (1 : Int)))))
def Fspec_ReadVar.l22 : Nat → (List UInt8) → Int → Option (Int × Int)
 | 0, _, _ => none
 | k22 + 1, v345, v346 => cond (decide (v346 ≤ (7 : Int))) (cond (decide (v346 ≤ (v345.length : Int))) (Fspec_ReadVar.l26 (Fspec_ReadVar.l22 k22) k22 v345 v346 (0 : Int) (IntKind.i64.wrap (v346 - (1 : Int)))) (some ((0 : Int), (0 : Int)))) (some ((0 : Int), (0 : Int)))
def Fspec_ReadVar (k : Nat) (a0 : List UInt8) : Option (Int × Int) := Fspec_ReadVar.l22 k a0 (1 : Int)
theorem ent122 : MG.Enters Try.prog 122 := ⟨Try.f122, Try.func122, rfl, by decide⟩
set_option maxHeartbeats 8000000 in
set_option maxRecDepth 100000 in
theorem Fspec_ReadVar_gives (k : Nat) (a0 : List UInt8) (r : Int × Int) (H : Fspec_ReadVar k a0 = some r) : Gives Try.prog 122 [V.one (cS a0)] [] [V.one (cI r.1), V.one (cI r.2)] [] := by
 refine Gives.intro Try.func122 rfl rfl rfl rfl ?_
 intro F hF hm
 unfold Fspec_ReadVar at H
 obtain ⟨K, hK⟩ : ∃ K, k ≤ K := ⟨k, Nat.le_refl k⟩
 refine WpC.seq (WpC.regionL ?_)
 refine L.assign hF rfl rfl rfl ?_
 refine L.assign hF rfl rfl rfl (L.nil ?_)
 refine WpC.seq (WpC.seq (WpC.regionL ?_))
 refine L.assign hF rfl rfl rfl (L.nil ?_)
 refine WpC.block ?_
 refine WpC.loopL (P := Try.prog) (fun n σ => ∃ v345 : List UInt8, ∃ v346 : Int, n ≤ K ∧ Fspec_ReadVar.l22 n v345 v346 = some r ∧ σ = mkSt [(0, one (cS v345)), (4, one (cI v346))] [] [] 0) k ⟨_, ⟨a0, (1 : Int), by omega, H, rfl⟩, Le.mk [] hm rfl (Sa2 trivial) trivial trivial⟩ ?_
 clear H
 rintro k22 _ ⟨v345, v346, hk22, H, rfl⟩
 cases k22 with
 | zero => cases H
 | succ k22 =>
  rw [Fspec_ReadVar.l22] at H
  refine WpC.seq (WpC.seq (WpC.regionL ?_))
  refine L.move hF rfl rfl rfl ?_
  refine L.bin hF rfl rfl rfl rfl rfl rfl ?_
  refine L.move hF rfl rfl rfl ?_
  refine L.split (fun hc => ?_) (fun hc => ?_)
  ·replace H := condT hc H
   refine L.move hF rfl rfl rfl ?_
   refine L.move hF rfl rfl rfl ?_
   refine L.lenS Try.underlying9 hF rfl rfl rfl ?_
   refine L.bin hF rfl rfl rfl rfl rfl rfl ?_
   refine L.pick hF rfl rfl rfl rfl (L.nil ?_)
   refine WpC.cond rfl (fun hc => ?_) (fun hc => ?_)
   ·replace H := condT hc H
    refine WpC.skip (WpC.seq (WpC.block (WpC.seq (WpC.regionL ?_))))
    refine L.assign hF rfl rfl rfl (L.nil ?_)
    refine WpC.seq (WpC.seq (WpC.regionL ?_))
    refine L.move hF rfl rfl rfl ?_
    refine L.bin hF rfl rfl rfl rfl rfl rfl ?_
    refine L.assign hF rfl rfl rfl (L.nil ?_)
    refine WpC.block ?_
    refine WpC.loopL (P := Try.prog) (fun n σ => ∃ v411 : List UInt8, ∃ v412 : Int, ∃ v413 : Int, ∃ v414 : Int, n ≤ K ∧ Fspec_ReadVar.l26 (Fspec_ReadVar.l22 k22) n v411 v412 v413 v414 = some r ∧ σ = mkSt [(0, one (cS v411)), (4, one (cI v412)), (5, one (cI v413)), (6, one (cI v414))] [] [] 0) k22 ⟨_, ⟨v345, v346, (0 : Int), (IntKind.i64.wrap (v346 - (1 : Int))), by omega, H, rfl⟩, Le.mk [] hm rfl (Sa4 trivial) trivial trivial⟩ ?_
    clear H
    rintro k26 _ ⟨v411, v412, v413, v414, hk26, H, rfl⟩
    cases k26 with
    | zero => cases H
    | succ k26 =>
     rw [Fspec_ReadVar.l26] at H
     refine WpC.seq (WpC.seq (WpC.regionL ?_))
     refine L.move hF rfl rfl rfl ?_
     refine L.bin hF rfl rfl rfl rfl rfl rfl (L.nil ?_)
     refine WpC.cond rfl (fun hc => ?_) (fun hc => ?_)
     ·replace H := condT hc H
      refine WpC.skip (WpC.seq (WpC.block (WpC.regionL ?_)))
      refine L.move hF rfl rfl rfl ?_
      refine L.bin hF rfl rfl rfl rfl rfl rfl ?_
      refine L.move hF rfl rfl rfl ?_
      refine L.move hF rfl rfl rfl ?_
      obtain ⟨b416, hb416, H⟩ := bindS H
      refine L.idxS Try.underlying9 hF rfl rfl rfl rfl hb416 ?_
      refine L.ofB Try.underlying5 Try.underlying3 hF rfl rfl rfl ?_
      refine L.rem hF rfl rfl rfl rfl (by decide) ?_
      refine L.bin hF rfl rfl rfl rfl rfl rfl ?_
      refine L.assign hF rfl rfl rfl (L.nil ?_)
      refine WpC.regionL ?_
      refine L.move hF rfl rfl rfl ?_
      refine L.bin hF rfl rfl rfl rfl rfl rfl ?_
      refine L.assign hF rfl rfl rfl (L.nil ?_)
      exact ⟨k26, _, by omega, ⟨v411, v412, (IntKind.i64.wrap ((IntKind.i64.wrap (v413 * (128 : Int))) + (Int.tmod (b416.toNat : Int) (128 : Int)))), (IntKind.i64.wrap (v414 - (1 : Int))), by omega, H, rfl⟩, Le.mk [] hm rfl (Sa4 trivial) trivial trivial⟩
     ·replace H := condF hc H
      refine WpC.exit (WpC.seq ?_)
      obtain ⟨r417, hr417, H⟩ := bindS H
      obtain ⟨b418, hb418, H⟩ := bindS H
      refine A.begin mixed rfl rfl ?_
      intro W hI hO
      refine hI _ _ _ ?_
      refine Atk 0 rfl (Ca.move) (fun Q0 k0 => L.move hF rfl rfl rfl (L.nil k0)) ?_
      refine Atk 2 rfl (Ca.move) (fun Q0 k0 => L.move hF rfl rfl rfl (L.nil k0)) ?_
      refine Atk 3 rfl (Ca.move) (fun Q0 k0 => L.move hF rfl rfl rfl (L.nil k0)) ?_
      refine Atk 4 rfl (Ca.slice) (fun Q0 k0 => L.cutS Try.underlying9 hF rfl rfl rfl rfl rfl hb418 (L.nil k0)) ?_
      refine A.all [1] (by kernel_rfl) rfl ⟨⟨_, rfl, ?_⟩, trivial⟩
      refine L.call [false] [] [] 0 hF rfl rfl rfl ent68 rfl rfl rfl rfl rfl (Fspec_Var_gives k26  v413 r417 hr417) rfl (L.nil ?_)
      refine Atk 5 rfl (Ca.bin rfl rfl (calm_str _ _ _ _ _ _)) (fun Q0 k0 => L.binS hF rfl rfl rfl rfl rfl (L.nil k0)) ?_
      refine A.le (τ := mkSt [(0, one (cS v411)), (4, one (cI v412)), (5, one (cI v413)), (36, one (cL (r417 == b418)))] [] [] 0) (Le.mk [] hm rfl (Sa4 trivial) trivial trivial) ?_
      refine A.done (by kernel_rfl) ?_
      refine WpC.cond rfl (fun hc => ?_) (fun hc => ?_)
      ·replace H := condT hc H
       refine WpC.seq (WpC.regionL ?_)
       refine L.move hF rfl rfl rfl ?_
       refine L.move hF rfl rfl rfl ?_
       refine L.assign hF rfl rfl rfl ?_
       refine L.assign hF rfl rfl rfl (L.nil ?_)
       refine WpC.ret ?_
       cases H
       exact Leaves.ret rfl rfl rfl ⟨rfl, rfl⟩
      ·replace H := condF hc H
       refine WpC.skip (WpC.regionL ?_)
       refine L.move hF rfl rfl rfl ?_
       refine L.bin hF rfl rfl rfl rfl rfl rfl ?_
       refine L.assign hF rfl rfl rfl (L.nil ?_)
       exact ⟨k22, _, by omega, ⟨v411, (IntKind.i64.wrap (v412 + (1 : Int))), by omega, H, rfl⟩, Le.mk [] hm rfl (Sa2 trivial) trivial trivial⟩
   ·replace H := condF hc H
    refine WpC.exit (WpC.seq (WpC.regionL ?_))
    refine L.assign hF rfl rfl rfl ?_
    refine L.assign hF rfl rfl rfl (L.nil ?_)
    refine WpC.ret ?_
    cases H
    exact Leaves.ret rfl rfl rfl ⟨rfl, rfl⟩
  ·replace H := condF hc H
   refine L.off hF rfl rfl ?_
   refine L.off hF rfl rfl ?_
   refine L.off hF rfl rfl ?_
   refine L.off hF rfl rfl ?_
   refine L.pick hF rfl rfl rfl rfl (L.nil ?_)
   refine WpC.cond rfl (fun hc => by cases hc) (fun _ => ?_)
   refine WpC.exit (WpC.seq (WpC.regionL ?_))
   refine L.assign hF rfl rfl rfl ?_
   refine L.assign hF rfl rfl rfl (L.nil ?_)
   refine WpC.ret ?_
   cases H
   exact Leaves.ret rfl rfl rfl ⟨rfl, rfl⟩
/-! ### Fspec_l14Node -/
def Fspec_l14Node.l4 (cREC : Tspec_l14R → Int → Int → Int → Option (Tspec_l14R × Int)) : Nat → Int → Int → Int → Int → (List UInt8) → (List Timpl_Tlv) → Int → Int → Int → Bool → (List Int) → Option (Tspec_l14R × Int)
 | 0, _, _, _, _, _, _, _, _, _, _, _ => none
 | k4 + 1, v88, v89, v90, v91, v92, v93, v94, v95, v96, v97, v98 => cond (decide (v90 < v91)) ((cREC (⟨v92, v93, v94, v95⟩ : Tspec_l14R) v90 v91 (IntKind.i64.wrap (v89 + (1 : Int)))).bind fun r99 => cond (r99.1.code != (0 : Int)) (some (r99.1, v88)) (cond (decide ((2 * (v98.length + ([(IntKind.i64.wrap ((r99.1.out.length : Int) - (1 : Int)))] : List Int).length) + 192) * 8 ≤ 281474976710656)) ((Fspec_l14Node.l4 cREC k4) v88 v89 r99.2 v91 r99.1.s r99.1.out r99.1.begun r99.1.code v96 v97 (v98 ++ ([(IntKind.i64.wrap ((r99.1.out.length : Int) - (1 : Int)))] : List Int))) none)) (cond (decide ((2 * (v93.length + ([(⟨v96, v97, ([] : List UInt8), v98⟩ : Timpl_Tlv)] : List Timpl_Tlv).length) + 192) * 56 ≤ 281474976710656)) (some ((⟨v92, (v93 ++ ([(⟨v96, v97, ([] : List UInt8), v98⟩ : Timpl_Tlv)] : List Timpl_Tlv)), v94, v95⟩ : Tspec_l14R), v91)) none)
def Fspec_l14Node.j2 (cREC : Tspec_l14R → Int → Int → Int → Option (Tspec_l14R × Int)) (k : Nat) (v16 : Int) (v17 : Int) (v18 : Bool) (v19 : Int) (v20 : Int) (v21 : Int) (v22 : Bool) (v23 : Tspec_l14R) (v24 : Int) : Option (Tspec_l14R × Int) := cond v22 (some ((⟨v23.s, v23.out, v24, (1 : Int)⟩ : Tspec_l14R), v16)) (cond v18 ((cut? v23.s v21 (IntKind.i64.wrap (v21 + v20))).bind fun b27 => cond (decide ((2 * (v23.out.length + ([(⟨v19, v18, b27, []⟩ : Timpl_Tlv)] : List Timpl_Tlv).length) + 192) * 56 ≤ 281474976710656)) (some ((⟨v23.s, (v23.out ++ ([(⟨v19, v18, b27, []⟩ : Timpl_Tlv)] : List Timpl_Tlv)), v24, v23.code⟩ : Tspec_l14R), (IntKind.i64.wrap (v21 + v20)))) none) (Fspec_l14Node.l4 cREC k v16 v17 v21 (IntKind.i64.wrap (v21 + v20)) v23.s v23.out v24 v23.code v19 v18 []))
def Fspec_l14Node : Nat → Tspec_l14R → Int → Int → Int → Option (Tspec_l14R × Int)
 | 0, _, _, _, _ => none
 | k + 1, a0, a1, a2, a3 => cond (decide (a0.begun ≥ (60 : Int))) (some ((⟨a0.s, a0.out, a0.begun, (4 : Int)⟩ : Tspec_l14R), a1)) (cond (decide (a1 ≥ a2)) (some ((⟨a0.s, a0.out, (IntKind.i64.wrap (a0.begun + (1 : Int))), (1 : Int)⟩ : Tspec_l14R), a1)) ((at? a0.s a1).bind fun b1 => (at? a0.s a1).bind fun b2 => (Fspec_l1In k (Int.tmod (b2.toNat : Int) (128 : Int)) (1 : Int) (100 : Int)).bind fun r4 => cond (!r4) (some ((⟨a0.s, a0.out, (IntKind.i64.wrap (a0.begun + (1 : Int))), (2 : Int)⟩ : Tspec_l14R), a1)) (cond (decide (a3 ≥ (8 : Int))) (some ((⟨a0.s, a0.out, (IntKind.i64.wrap (a0.begun + (1 : Int))), (3 : Int)⟩ : Tspec_l14R), a1)) ((cut? a0.s (IntKind.i64.wrap (a1 + (1 : Int))) a2).bind fun b5 => (Fspec_ReadVar k b5).bind fun r6 => cond (r6.2 == (0 : Int)) (Fspec_l14Node.j2 (Fspec_l14Node k) k a1 a3 (decide ((b1.toNat : Int) < (128 : Int))) (Int.tmod (b2.toNat : Int) (128 : Int)) r6.1 (IntKind.i64.wrap ((IntKind.i64.wrap (a1 + (1 : Int))) + r6.2)) true a0 (IntKind.i64.wrap (a0.begun + (1 : Int)))) (Fspec_l14Node.j2 (Fspec_l14Node k) k a1 a3 (decide ((b1.toNat : Int) < (128 : Int))) (Int.tmod (b2.toNat : Int) (128 : Int)) r6.1 (IntKind.i64.wrap ((IntKind.i64.wrap (a1 + (1 : Int))) + r6.2)) (decide (r6.1 > (IntKind.i64.wrap (a2 - (IntKind.i64.wrap ((IntKind.i64.wrap (a1 + (1 : Int))) + r6.2)))))) a0 (IntKind.i64.wrap (a0.begun + (1 : Int))))))))
theorem ent51 : MG.Enters Try.prog 51 := ⟨Try.f51, Try.func51, rfl, by decide⟩
set_option maxHeartbeats 8000000 in
set_option maxRecDepth 100000 in
theorem Fspec_l14Node_gives : ∀ (k : Nat) (a0 : Tspec_l14R) (a1 : Int) (a2 : Int) (a3 : Int) (r : Tspec_l14R × Int) (H : Fspec_l14Node k a0 a1 a2 a3 = some r), Gives Try.prog 51 [V.agg [cS a0.s, Cell.ow 4 (List.map eTimpl_Tlv a0.out), cI a0.begun, cI a0.code], V.one (cI a1), V.one (cI a2), V.one (cI a3)] [] [V.agg [cS r.1.s, Cell.ow 4 (List.map eTimpl_Tlv r.1.out), cI r.1.begun, cI r.1.code], V.one (cI r.2)] [] := by
 intro k
 induction k with
 | zero => intros; rename_i H; cases H
 | succ k ih =>
  intro a0 a1 a2 a3 r H
  refine Gives.intro Try.func51 rfl rfl rfl rfl ?_
  intro F hF hm
  rw [Fspec_l14Node] at H
  obtain ⟨K, hK⟩ : ∃ K, k ≤ K := ⟨k, Nat.le_refl k⟩
  refine WpC.seq (WpC.regionL ?_)
  refine L.box 7 hF rfl rfl rfl rfl ?_
  refine L.alloc 8 info82 rfl hF rfl rfl rfl rfl ?_
  refine L.assign hF rfl rfl rfl (L.nil ?_)
  refine WpC.seq (WpC.seq (WpC.regionL ?_))
  refine L.fieldAddr Try.underlying82 rfl info3 rfl hF rfl rfl rfl rfl rfl ?_
  refine L.loadPtr shape3 hF rfl rfl rfl rfl rfl rfl ?_
  refine L.bin hF rfl rfl rfl rfl rfl rfl (L.nil ?_)
  refine WpC.cond rfl (fun hc => ?_) (fun hc => ?_)
  ·replace H := condT hc H
   refine WpC.seq (WpC.regionL ?_)
   refine L.fieldAddr Try.underlying82 rfl info3 rfl hF rfl rfl rfl rfl rfl ?_
   refine L.storePtr shape3 hF rfl rfl rfl rfl rfl rfl rfl (L.nil ?_)
   refine WpC.seq (WpC.regionL ?_)
   refine L.loadPtr shape82 hF rfl rfl rfl rfl rfl rfl ?_
   refine L.move hF rfl rfl rfl ?_
   refine L.storePtr shape82 hF rfl rfl rfl rfl rfl rfl rfl ?_
   refine L.assign hF rfl rfl rfl (L.nil ?_)
   refine WpC.ret ?_
   cases H
   exact Leaves.ret rfl rfl rfl ⟨rfl, rfl⟩
  ·replace H := condF hc H
   refine WpC.skip (WpC.seq (WpC.regionL ?_))
   refine L.fieldAddr Try.underlying82 rfl info3 rfl hF rfl rfl rfl rfl rfl ?_
   refine L.loadPtr shape3 hF rfl rfl rfl rfl rfl rfl ?_
   refine L.bin hF rfl rfl rfl rfl rfl rfl ?_
   refine L.fieldAddr Try.underlying82 rfl info3 rfl hF rfl rfl rfl rfl rfl ?_
   refine L.storePtr shape3 hF rfl rfl rfl rfl rfl rfl rfl (L.nil ?_)
   refine WpC.seq (WpC.seq (WpC.regionL ?_))
   refine L.move hF rfl rfl rfl ?_
   refine L.move hF rfl rfl rfl ?_
   refine L.bin hF rfl rfl rfl rfl rfl rfl (L.nil ?_)
   refine WpC.cond rfl (fun hc => ?_) (fun hc => ?_)
   ·replace H := condT hc H
    refine WpC.seq (WpC.regionL ?_)
    refine L.fieldAddr Try.underlying82 rfl info3 rfl hF rfl rfl rfl rfl rfl ?_
    refine L.storePtr shape3 hF rfl rfl rfl rfl rfl rfl rfl (L.nil ?_)
    refine WpC.seq (WpC.regionL ?_)
    refine L.loadPtr shape82 hF rfl rfl rfl rfl rfl rfl ?_
    refine L.move hF rfl rfl rfl ?_
    refine L.storePtr shape82 hF rfl rfl rfl rfl rfl rfl rfl ?_
    refine L.assign hF rfl rfl rfl (L.nil ?_)
    refine WpC.ret ?_
    cases H
    exact Leaves.ret rfl rfl rfl ⟨rfl, rfl⟩
   ·replace H := condF hc H
    refine WpC.skip (WpC.seq (WpC.regionL ?_))
    refine L.fieldAddr Try.underlying82 rfl info9 rfl hF rfl rfl rfl rfl rfl ?_
    refine L.loadPtr shape9 hF rfl rfl rfl rfl rfl rfl ?_
    refine L.move hF rfl rfl rfl ?_
    obtain ⟨b1, hb1, H⟩ := bindS H
    refine L.idxS Try.underlying9 hF rfl rfl rfl rfl hb1 ?_
    refine L.ofB Try.underlying5 Try.underlying3 hF rfl rfl rfl ?_
    refine L.bin hF rfl rfl rfl rfl rfl rfl ?_
    refine L.assign hF rfl rfl rfl (L.nil ?_)
    refine WpC.seq (WpC.regionL ?_)
    refine L.fieldAddr Try.underlying82 rfl info9 rfl hF rfl rfl rfl rfl rfl ?_
    refine L.loadPtr shape9 hF rfl rfl rfl rfl rfl rfl ?_
    refine L.move hF rfl rfl rfl ?_
    obtain ⟨b2, hb2, H⟩ := bindS H
    refine L.idxS Try.underlying9 hF rfl rfl rfl rfl hb2 ?_
    refine L.ofB Try.underlying5 Try.underlying3 hF rfl rfl rfl ?_
    refine L.rem hF rfl rfl rfl rfl (by decide) ?_
    refine L.assign hF rfl rfl rfl (L.nil ?_)
    refine WpC.seq (WpC.seq (WpC.regionL ?_))
    refine L.move hF rfl rfl rfl ?_
    obtain ⟨r4, hr4, H⟩ := bindS H
    refine L.call [false, false, false] [] [] 9 hF rfl rfl rfl ent121 rfl rfl rfl rfl rfl (Fspec_l1In_gives k  (Int.tmod (b2.toNat : Int) (128 : Int)) (1 : Int) (100 : Int) r4 hr4) rfl ?_
    refine L.not hF rfl rfl rfl (L.nil ?_)
    refine WpC.cond rfl (fun hc => ?_) (fun hc => ?_)
    ·replace H := condT hc H
     refine WpC.seq (WpC.regionL ?_)
     refine L.fieldAddr Try.underlying82 rfl info3 rfl hF rfl rfl rfl rfl rfl ?_
     refine L.storePtr shape3 hF rfl rfl rfl rfl rfl rfl rfl (L.nil ?_)
     refine WpC.seq (WpC.regionL ?_)
     refine L.loadPtr shape82 hF rfl rfl rfl rfl rfl rfl ?_
     refine L.move hF rfl rfl rfl ?_
     refine L.storePtr shape82 hF rfl rfl rfl rfl rfl rfl rfl ?_
     refine L.assign hF rfl rfl rfl (L.nil ?_)
     refine WpC.ret ?_
     cases H
     exact Leaves.ret rfl rfl rfl ⟨rfl, rfl⟩
    ·replace H := condF hc H
     refine WpC.skip (WpC.seq (WpC.seq (WpC.regionL ?_)))
     refine L.move hF rfl rfl rfl ?_
     refine L.bin hF rfl rfl rfl rfl rfl rfl (L.nil ?_)
     refine WpC.cond rfl (fun hc => ?_) (fun hc => ?_)
     ·replace H := condT hc H
      refine WpC.seq (WpC.regionL ?_)
      refine L.fieldAddr Try.underlying82 rfl info3 rfl hF rfl rfl rfl rfl rfl ?_
      refine L.storePtr shape3 hF rfl rfl rfl rfl rfl rfl rfl (L.nil ?_)
      refine WpC.seq (WpC.regionL ?_)
      refine L.loadPtr shape82 hF rfl rfl rfl rfl rfl rfl ?_
      refine L.move hF rfl rfl rfl ?_
      refine L.storePtr shape82 hF rfl rfl rfl rfl rfl rfl rfl ?_
      refine L.assign hF rfl rfl rfl (L.nil ?_)
      refine WpC.ret ?_
      cases H
      exact Leaves.ret rfl rfl rfl ⟨rfl, rfl⟩
     ·replace H := condF hc H
      refine WpC.skip (WpC.seq (WpC.regionL ?_))
      refine L.fieldAddr Try.underlying82 rfl info9 rfl hF rfl rfl rfl rfl rfl ?_
      refine L.loadPtr shape9 hF rfl rfl rfl rfl rfl rfl ?_
      refine L.move hF rfl rfl rfl ?_
      refine L.bin hF rfl rfl rfl rfl rfl rfl ?_
      refine L.move hF rfl rfl rfl ?_
      obtain ⟨b5, hb5, H⟩ := bindS H
      refine L.cutS Try.underlying9 hF rfl rfl rfl rfl rfl hb5 ?_
      obtain ⟨r6, hr6, H⟩ := bindS H
      refine L.call [false] [] [] 10 hF rfl rfl rfl ent122 rfl rfl rfl rfl rfl (Fspec_ReadVar_gives k  b5 r6 hr6) rfl ?_
      refine L.move hF rfl rfl rfl ?_
      refine L.extract hF rfl rfl rfl rfl ?_
      refine L.extract hF rfl rfl rfl rfl ?_
      refine L.assign hF rfl rfl rfl ?_
      refine L.assign hF rfl rfl rfl (L.nil ?_)
      refine WpC.seq (WpC.regionL ?_)
      refine L.move hF rfl rfl rfl ?_
      refine L.bin hF rfl rfl rfl rfl rfl rfl ?_
      refine L.move hF rfl rfl rfl ?_
      refine L.bin hF rfl rfl rfl rfl rfl rfl ?_
      refine L.assign hF rfl rfl rfl (L.nil ?_)
      refine WpC.seq ?_
      refine WpC.join (fun σ => ∃ kj2 : Nat, ∃ v16 : Int, ∃ v17 : Int, ∃ v18 : Bool, ∃ v19 : Int, ∃ v20 : Int, ∃ v21 : Int, ∃ v22 : Bool, ∃ v23 : Tspec_l14R, ∃ v24 : Int, kj2 ≤ K ∧ Fspec_l14Node.j2 (Fspec_l14Node k) kj2 v16 v17 v18 v19 v20 v21 v22 v23 v24 = some r ∧ σ = mkSt [(1, one (cI v16)), (3, one (cI v17)), (4, one (Cell.ptr 0 0)), (8, one (Cell.ptr 1 0)), (10, one (cL v18)), (11, one (cI v19)), (12, one (cI v20)), (14, one (cI v21)), (80, one (cL v22))] [(2, ⟨4, List.map eTimpl_Tlv v23.out⟩)] [(0, [cS v23.s, Cell.own 2, cI v24, cI v23.code]), (1, [cS ([] : List UInt8), Cell.nil, cI (0 : Int), cI (0 : Int)])] 3) ?_ ?_
      ·rintro _ ⟨kj2, v16, v17, v18, v19, v20, v21, v22, v23, v24, hkj2, H, rfl⟩
       unfold Fspec_l14Node.j2 at H
       refine WpC.cond rfl (fun hc => ?_) (fun hc => ?_)
       ·replace H := condT hc H
        refine WpC.seq (WpC.regionL ?_)
        refine L.fieldAddr Try.underlying82 rfl info3 rfl hF rfl rfl rfl rfl rfl ?_
        refine L.storePtr shape3 hF rfl rfl rfl rfl rfl rfl rfl (L.nil ?_)
        refine WpC.seq (WpC.regionL ?_)
        refine L.loadPtr shape82 hF rfl rfl rfl rfl rfl rfl ?_
        refine L.move hF rfl rfl rfl ?_
        refine L.storePtr shape82 hF rfl rfl rfl rfl rfl rfl rfl ?_
        refine L.assign hF rfl rfl rfl (L.nil ?_)
        refine WpC.ret ?_
        cases H
        exact Leaves.ret rfl rfl rfl ⟨rfl, rfl⟩
       ·replace H := condF hc H
        refine WpC.skip (WpC.seq (WpC.regionL ?_))
        refine L.move hF rfl rfl rfl ?_
        refine L.move hF rfl rfl rfl ?_
        refine L.bin hF rfl rfl rfl rfl rfl rfl ?_
        refine L.assign hF rfl rfl rfl (L.nil ?_)
        refine WpC.seq (WpC.regionL ?_)
        refine L.move hF rfl rfl rfl ?_
        refine L.move hF rfl rfl rfl ?_
        refine L.buildF built45 hF rfl rfl rfl rfl ?_
        refine L.alloc 3 info45 rfl hF rfl rfl rfl rfl ?_
        refine L.storePtr shape45 hF rfl rfl rfl rfl rfl rfl rfl (L.nil ?_)
        refine WpC.seq (WpC.seq (WpC.regionL ?_))
        refine L.move hF rfl rfl rfl (L.nil ?_)
        refine WpC.cond rfl (fun hc => ?_) (fun hc => ?_)
        ·replace H := condT hc H
         refine WpC.seq (WpC.regionL ?_)
         refine L.fieldAddr Try.underlying82 rfl info9 rfl hF rfl rfl rfl rfl rfl ?_
         refine L.loadPtr shape9 hF rfl rfl rfl rfl rfl rfl ?_
         refine L.move hF rfl rfl rfl ?_
         refine L.move hF rfl rfl rfl ?_
         obtain ⟨b27, hb27, H⟩ := bindS H
         refine L.cutS Try.underlying9 hF rfl rfl rfl rfl rfl hb27 ?_
         refine L.fieldAddr Try.underlying45 rfl info9 rfl hF rfl rfl rfl rfl rfl ?_
         refine L.storePtr shape9 hF rfl rfl rfl rfl rfl rfl rfl (L.nil ?_)
         refine WpC.seq (WpC.regionL ?_)
         refine L.fieldAddr Try.underlying82 rfl info22 rfl hF rfl rfl rfl rfl rfl ?_
         refine L.loadPtr shape22 hF rfl rfl rfl rfl rfl rfl ?_
         refine L.loadPtr shape45 hF rfl rfl rfl rfl rfl rfl ?_
         refine L.buildSliceN (e := eTimpl_Tlv) 1 4 ([(⟨v19, v18, b27, []⟩ : Timpl_Tlv)] : List Timpl_Tlv) Try.underlying22 info45 rfl rfl rfl hF rfl rfl rfl rfl rfl rfl rfl rfl ?_
         obtain ⟨h28, H⟩ := condG H
         refine L.appendN (xs := v23.out) (ys := ([(⟨v19, v18, b27, []⟩ : Timpl_Tlv)] : List Timpl_Tlv)) (e := eTimpl_Tlv) 5 Try.underlying22 info45 rfl rfl hF rfl rfl rfl rfl rfl rfl rfl rfl rfl (fun _ _ h1 h2 => by cases h1; cases h2; rfl) Try.underlying22 (of_decide_eq_true h28) rfl rfl ?_
         refine L.fieldAddr Try.underlying82 rfl info22 rfl hF rfl rfl rfl rfl rfl ?_
         refine L.storePtr shape22 hF rfl rfl rfl rfl rfl rfl rfl (L.nil ?_)
         refine WpC.seq (WpC.regionL ?_)
         refine L.loadPtr shape82 hF rfl rfl rfl rfl rfl rfl ?_
         refine L.move hF rfl rfl rfl ?_
         refine L.storePtr shape82 hF rfl rfl rfl rfl rfl rfl rfl ?_
         refine L.assign hF rfl rfl rfl (L.nil ?_)
         refine WpC.ret ?_
         cases H
         exact Leaves.ret rfl rfl rfl ⟨rfl, rfl⟩
        ·replace H := condF hc H
         refine WpC.skip (WpC.seq (WpC.block ?_))
         refine WpC.loopL (P := Try.prog) (fun n σ => ∃ v88 : Int, ∃ v89 : Int, ∃ v90 : Int, ∃ v91 : Int, ∃ v92 : List UInt8, ∃ v93 : List Timpl_Tlv, ∃ v94 : Int, ∃ v95 : Int, ∃ v96 : Int, ∃ v97 : Bool, ∃ v98 : List Int, n ≤ K ∧ Fspec_l14Node.l4 (Fspec_l14Node k) n v88 v89 v90 v91 v92 v93 v94 v95 v96 v97 v98 = some r ∧ σ = mkSt [(1, one (cI v88)), (3, one (cI v89)), (4, one (Cell.ptr 0 0)), (8, one (Cell.ptr 1 0)), (14, one (cI v90)), (15, one (cI v91)), (16, one (Cell.ptr 2 0))] [(3, ⟨4, List.map eTimpl_Tlv v93⟩), (4, ⟨1, List.map eI v98⟩)] [(0, [cS v92, Cell.own 3, cI v94, cI v95]), (1, [cS ([] : List UInt8), Cell.nil, cI (0 : Int), cI (0 : Int)]), (2, [cI v96, cL v97, cS ([] : List UInt8), Cell.own 4])] 5) kj2 ⟨_, ⟨v16, v17, v21, (IntKind.i64.wrap (v21 + v20)), v23.s, v23.out, v24, v23.code, v19, v18, [], by omega, H, rfl⟩, (Le.ownB 3 3 4 1 rfl rfl rfl).trans (Le.mk [(0, 0), (1, 1), (2, 3), (3, 2), (4, 4)] hm rfl (Sa4 (Sa2 (Sa1 trivial))) (Ra2 trivial) (Ba2 (Ba1 trivial)))⟩ ?_
         clear H
         rintro k4 _ ⟨v88, v89, v90, v91, v92, v93, v94, v95, v96, v97, v98, hk4, H, rfl⟩
         cases k4 with
         | zero => cases H
         | succ k4 =>
          rw [Fspec_l14Node.l4] at H
          refine WpC.seq (WpC.seq (WpC.regionL ?_))
          refine L.move hF rfl rfl rfl ?_
          refine L.move hF rfl rfl rfl ?_
          refine L.bin hF rfl rfl rfl rfl rfl rfl (L.nil ?_)
          refine WpC.cond rfl (fun hc => ?_) (fun hc => ?_)
          ·replace H := condT hc H
           refine WpC.skip (WpC.block (WpC.seq (WpC.regionL ?_)))
           refine L.loadPtr shape82 hF rfl rfl rfl rfl rfl rfl ?_
           refine L.move hF rfl rfl rfl ?_
           refine L.move hF rfl rfl rfl ?_
           refine L.move hF rfl rfl rfl ?_
           refine L.bin hF rfl rfl rfl rfl rfl rfl ?_
           obtain ⟨r99, hr99, H⟩ := bindS H
           refine L.call [true, false, false, false] [] [] 5 hF rfl rfl rfl ent51 rfl rfl rfl rfl rfl (ih  (⟨v92, v93, v94, v95⟩ : Tspec_l14R) v90 v91 (IntKind.i64.wrap (v89 + (1 : Int))) r99 hr99) rfl ?_
           refine L.move hF rfl rfl rfl ?_
           refine L.extract hF rfl rfl rfl rfl ?_
           refine L.extract hF rfl rfl rfl rfl ?_
           refine L.alloc 10 info82 rfl hF rfl rfl rfl rfl ?_
           refine L.storePtr shape82 hF rfl rfl rfl rfl rfl rfl rfl ?_
           refine L.assign hF rfl rfl rfl (L.nil ?_)
           refine WpC.seq (WpC.regionL ?_)
           refine L.loadPtr shape82 hF rfl rfl rfl rfl rfl rfl ?_
           refine L.storePtr shape82 hF rfl rfl rfl rfl rfl rfl rfl (L.nil ?_)
           refine WpC.seq (WpC.seq (WpC.regionL ?_))
           refine L.fieldAddr Try.underlying82 rfl info3 rfl hF rfl rfl rfl rfl rfl ?_
           refine L.loadPtr shape3 hF rfl rfl rfl rfl rfl rfl ?_
           refine L.bin hF rfl rfl rfl rfl rfl rfl (L.nil ?_)
           refine WpC.cond rfl (fun hc => ?_) (fun hc => ?_)
           ·replace H := condT hc H
            refine WpC.seq (WpC.regionL ?_)
            refine L.loadPtr shape82 hF rfl rfl rfl rfl rfl rfl ?_
            refine L.move hF rfl rfl rfl ?_
            refine L.storePtr shape82 hF rfl rfl rfl rfl rfl rfl rfl ?_
            refine L.assign hF rfl rfl rfl (L.nil ?_)
            refine WpC.ret ?_
            cases H
            exact Leaves.ret rfl rfl rfl ⟨rfl, rfl⟩
           ·replace H := condF hc H
            refine WpC.skip (WpC.seq (WpC.regionL ?_))
            refine L.fieldAddr Try.underlying45 rfl info39 rfl hF rfl rfl rfl rfl rfl ?_
            refine L.loadPtr shape39 hF rfl rfl rfl rfl rfl rfl ?_
            refine L.fieldAddr Try.underlying82 rfl info22 rfl hF rfl rfl rfl rfl rfl ?_
            refine L.loadPtr shape22 hF rfl rfl rfl rfl rfl rfl ?_
            refine L.lenR (xs := r99.1.out) (e := eTimpl_Tlv) Try.underlying22 hF rfl rfl rfl rfl ?_
            refine L.bin hF rfl rfl rfl rfl rfl rfl ?_
            refine L.buildSlice (e := eI) 11 ([(IntKind.i64.wrap ((r99.1.out.length : Int) - (1 : Int)))] : List Int) Try.underlying39 info3 rfl rfl rfl hF rfl rfl rfl rfl rfl rfl rfl rfl ?_
            obtain ⟨h100, H⟩ := condG H
            refine L.append (xs := v98) (ys := ([(IntKind.i64.wrap ((r99.1.out.length : Int) - (1 : Int)))] : List Int)) (e := eI) 12 Try.underlying39 info3 rfl rfl hF rfl rfl rfl rfl rfl rfl rfl rfl (fun _ => rfl) (fun _ _ h1 h2 => by cases h1; cases h2; rfl) ⟨_, Try.underlying39⟩ (of_decide_eq_true h100) rfl rfl ?_
            refine L.fieldAddr Try.underlying45 rfl info39 rfl hF rfl rfl rfl rfl rfl ?_
            refine L.storePtr shape39 hF rfl rfl rfl rfl rfl rfl rfl (L.nil ?_)
            refine WpC.regionL ?_
            refine L.move hF rfl rfl rfl ?_
            refine L.assign hF rfl rfl rfl (L.nil ?_)
            exact ⟨k4, _, by omega, ⟨v88, v89, r99.2, v91, r99.1.s, r99.1.out, r99.1.begun, r99.1.code, v96, v97, (v98 ++ ([(IntKind.i64.wrap ((r99.1.out.length : Int) - (1 : Int)))] : List Int)), by omega, H, rfl⟩, Le.mk [(0, 0), (1, 1), (2, 2), (3, 6), (4, 12)] hm rfl (Sa4 (Sa2 (Sa1 trivial))) (Ra2 trivial) (Ba2 (Ba1 trivial))⟩
          ·replace H := condF hc H
           refine WpC.exit (WpC.seq (WpC.regionL ?_))
           refine L.fieldAddr Try.underlying82 rfl info22 rfl hF rfl rfl rfl rfl rfl ?_
           refine L.loadPtr shape22 hF rfl rfl rfl rfl rfl rfl ?_
           refine L.loadPtr shape45 hF rfl rfl rfl rfl rfl rfl ?_
           refine L.buildSliceN (e := eTimpl_Tlv) 1 5 ([(⟨v96, v97, ([] : List UInt8), v98⟩ : Timpl_Tlv)] : List Timpl_Tlv) Try.underlying22 info45 rfl rfl rfl hF rfl rfl rfl rfl rfl rfl rfl rfl ?_
           obtain ⟨h101, H⟩ := condG H
           refine L.appendN (xs := v93) (ys := ([(⟨v96, v97, ([] : List UInt8), v98⟩ : Timpl_Tlv)] : List Timpl_Tlv)) (e := eTimpl_Tlv) 6 Try.underlying22 info45 rfl rfl hF rfl rfl rfl rfl rfl rfl rfl rfl rfl (fun _ _ h1 h2 => by cases h1; cases h2; rfl) Try.underlying22 (of_decide_eq_true h101) rfl rfl ?_
           refine L.fieldAddr Try.underlying82 rfl info22 rfl hF rfl rfl rfl rfl rfl ?_
           refine L.storePtr shape22 hF rfl rfl rfl rfl rfl rfl rfl (L.nil ?_)
           refine WpC.seq (WpC.regionL ?_)
           refine L.loadPtr shape82 hF rfl rfl rfl rfl rfl rfl ?_
           refine L.move hF rfl rfl rfl ?_
           refine L.storePtr shape82 hF rfl rfl rfl rfl rfl rfl rfl ?_
           refine L.assign hF rfl rfl rfl (L.nil ?_)
           refine WpC.ret ?_
           cases H
           exact Leaves.ret rfl rfl rfl ⟨rfl, rfl⟩
      ·refine WpC.regionL ?_
       refine L.move hF rfl rfl rfl ?_
       refine L.bin hF rfl rfl rfl rfl rfl rfl ?_
       refine L.move hF rfl rfl rfl ?_
       refine L.split (fun hc => ?_) (fun hc => ?_)
       ·replace H := condT hc H
        refine L.off hF rfl rfl ?_
        refine L.off hF rfl rfl ?_
        refine L.off hF rfl rfl ?_
        refine L.off hF rfl rfl ?_
        refine L.off hF rfl rfl ?_
        refine L.pick hF rfl rfl rfl rfl (L.nil ?_)
        exact ⟨_, ⟨k, a1, a3, (decide ((b1.toNat : Int) < (128 : Int))), (Int.tmod (b2.toNat : Int) (128 : Int)), r6.1, (IntKind.i64.wrap ((IntKind.i64.wrap (a1 + (1 : Int))) + r6.2)), true, a0, (IntKind.i64.wrap (a0.begun + (1 : Int))), by omega, H, rfl⟩, Le.mk [(0, 7), (1, 8), (2, 1)] hm rfl (Sa8 (Sa1 trivial)) (Ra1 trivial) (Ba2 trivial)⟩
       ·replace H := condF hc H
        refine L.move hF rfl rfl rfl ?_
        refine L.move hF rfl rfl rfl ?_
        refine L.move hF rfl rfl rfl ?_
        refine L.bin hF rfl rfl rfl rfl rfl rfl ?_
        refine L.bin hF rfl rfl rfl rfl rfl rfl ?_
        refine L.pick hF rfl rfl rfl rfl (L.nil ?_)
        exact ⟨_, ⟨k, a1, a3, (decide ((b1.toNat : Int) < (128 : Int))), (Int.tmod (b2.toNat : Int) (128 : Int)), r6.1, (IntKind.i64.wrap ((IntKind.i64.wrap (a1 + (1 : Int))) + r6.2)), (decide (r6.1 > (IntKind.i64.wrap (a2 - (IntKind.i64.wrap ((IntKind.i64.wrap (a1 + (1 : Int))) + r6.2)))))), a0, (IntKind.i64.wrap (a0.begun + (1 : Int))), by omega, H, rfl⟩, Le.mk [(0, 7), (1, 8), (2, 1)] hm rfl (Sa8 (Sa1 trivial)) (Ra1 trivial) (Ba2 trivial)⟩
/-! ### Fspec_ReadTlv -/
def Fspec_ReadTlv (k : Nat) (a0 : List UInt8) : Option (List Timpl_Tlv × Int) := cond (decide ((a0.length : Int) > (900 : Int))) (some (([] : List Timpl_Tlv), (4 : Int))) ((Fspec_l14Node k (⟨a0, [], (0 : Int), (0 : Int)⟩ : Tspec_l14R) (0 : Int) (a0.length : Int) (0 : Int)).bind fun r1 => cond (r1.1.code != (0 : Int)) (some (([] : List Timpl_Tlv), r1.1.code)) (cond (r1.2 != (a0.length : Int)) (some (([] : List Timpl_Tlv), (5 : Int))) (some (r1.1.out, (0 : Int)))))
theorem ent11 : MG.Enters Try.prog 11 := ⟨Try.f11, Try.func11, rfl, by decide⟩
set_option maxHeartbeats 8000000 in
set_option maxRecDepth 100000 in
theorem Fspec_ReadTlv_gives (k : Nat) (a0 : List UInt8) (r : List Timpl_Tlv × Int) (H : Fspec_ReadTlv k a0 = some r) : Gives Try.prog 11 [V.one (cS a0)] [] [V.one (Cell.ow 4 (List.map eTimpl_Tlv r.1)), V.one (cI r.2)] [] := by
 refine Gives.intro Try.func11 rfl rfl rfl rfl ?_
 intro F hF hm
 unfold Fspec_ReadTlv at H
 obtain ⟨K, hK⟩ : ∃ K, k ≤ K := ⟨k, Nat.le_refl k⟩
 refine WpC.seq (WpC.regionL ?_)
 refine L.assign hF rfl rfl rfl ?_
 refine L.assign hF rfl rfl rfl (L.nil ?_)
 refine WpC.seq (WpC.seq (WpC.regionL ?_))
 refine L.move hF rfl rfl rfl ?_
 refine L.lenS Try.underlying9 hF rfl rfl rfl ?_
 refine L.bin hF rfl rfl rfl rfl rfl rfl (L.nil ?_)
 refine WpC.cond rfl (fun hc => ?_) (fun hc => ?_)
 ·replace H := condT hc H
  refine WpC.seq (WpC.regionL ?_)
  refine L.buildSliceN (e := eTimpl_Tlv) 1 1 ([] : List Timpl_Tlv) Try.underlying22 info45 rfl rfl rfl hF rfl rfl rfl rfl rfl rfl rfl rfl ?_
  refine L.assign hF rfl rfl rfl ?_
  refine L.assign hF rfl rfl rfl (L.nil ?_)
  refine WpC.ret ?_
  cases H
  exact Leaves.ret rfl rfl rfl ⟨rfl, rfl⟩
 ·replace H := condF hc H
  refine WpC.skip (WpC.seq (WpC.regionL ?_))
  refine L.move hF rfl rfl rfl ?_
  refine L.buildF built82 hF rfl rfl rfl rfl ?_
  refine L.move hF rfl rfl rfl ?_
  refine L.lenS Try.underlying9 hF rfl rfl rfl ?_
  refine L.le (Le.own 12 1 1 4 rfl rfl rfl) ?_
  obtain ⟨r1, hr1, H⟩ := bindS H
  refine L.call [true, false, false, false] [] [] 2 hF rfl rfl rfl ent51 rfl rfl rfl rfl rfl (Fspec_l14Node_gives k  (⟨a0, [], (0 : Int), (0 : Int)⟩ : Tspec_l14R) (0 : Int) (a0.length : Int) (0 : Int) r1 hr1) rfl ?_
  refine L.move hF rfl rfl rfl ?_
  refine L.extract hF rfl rfl rfl rfl ?_
  refine L.extract hF rfl rfl rfl rfl ?_
  refine L.alloc 7 info82 rfl hF rfl rfl rfl rfl ?_
  refine L.storePtr shape82 hF rfl rfl rfl rfl rfl rfl rfl ?_
  refine L.assign hF rfl rfl rfl (L.nil ?_)
  refine WpC.seq (WpC.seq (WpC.regionL ?_))
  refine L.fieldAddr Try.underlying82 rfl info3 rfl hF rfl rfl rfl rfl rfl ?_
  refine L.loadPtr shape3 hF rfl rfl rfl rfl rfl rfl ?_
  refine L.bin hF rfl rfl rfl rfl rfl rfl (L.nil ?_)
  refine WpC.cond rfl (fun hc => ?_) (fun hc => ?_)
  ·replace H := condT hc H
   refine WpC.seq ?_
   refine A.begin mixed rfl rfl ?_
   intro W hI hO
   have n15 : W 1 #[true, true, true, true, false] (mkSt [(2, one (Cell.own 0)), (3, one (cI (0 : Int))), (23, one (cI r1.1.code))] [(0, ⟨4, List.map eTimpl_Tlv ([] : List Timpl_Tlv)⟩)] [] 1) := by
    refine hI _ _ _ ?_
    refine Atk 4 rfl (Ca.assign) (fun Q0 k0 => L.assign hF rfl rfl rfl (L.nil k0)) ?_
    refine A.le (τ := mkSt [(2, one (Cell.own 0)), (3, one (cI r1.1.code))] [(0, ⟨4, List.map eTimpl_Tlv ([] : List Timpl_Tlv)⟩)] [] 1) (Le.mk [(0, 0)] hm rfl (Sa2 trivial) (Ra1 trivial) trivial) ?_
    refine A.done (by kernel_rfl) ?_
    refine WpC.ret ?_
    cases H
    exact Leaves.ret rfl rfl rfl ⟨rfl, rfl⟩
   refine hI _ _ _ ?_
   refine Atk 1 rfl (Ca.fieldAddr Try.underlying82 rfl info3 rfl) (fun Q0 k0 => L.fieldAddr Try.underlying82 rfl info3 rfl hF rfl rfl rfl rfl rfl (L.nil k0)) ?_
   refine A.all [0, 2] (by kernel_rfl) rfl ⟨⟨_, rfl, ?_⟩, ⟨_, rfl, ?_⟩, trivial⟩
   ·refine L.buildSliceN (e := eTimpl_Tlv) 1 8 ([] : List Timpl_Tlv) Try.underlying22 info45 rfl rfl rfl hF rfl rfl rfl rfl rfl rfl rfl rfl (L.nil ?_)
    refine Atk 3 rfl (Ca.assign) (fun Q0 k0 => L.assign hF rfl rfl rfl (L.nil k0)) ?_
    refine A.all [2] (by kernel_rfl) rfl ⟨⟨_, rfl, ?_⟩, trivial⟩
    refine L.loadPtr shape3 hF rfl rfl rfl rfl rfl rfl (L.nil ?_)
    exact A.on (hO _ _ _ n15) (Le.mk [(0, 8)] hm rfl (Sa2 (Sa1 trivial)) (Ra1 trivial) trivial)
   ·refine L.loadPtr shape3 hF rfl rfl rfl rfl rfl rfl (L.nil ?_)
    refine A.all [0] (by kernel_rfl) rfl ⟨⟨_, rfl, ?_⟩, trivial⟩
    refine L.buildSliceN (e := eTimpl_Tlv) 1 8 ([] : List Timpl_Tlv) Try.underlying22 info45 rfl rfl rfl hF rfl rfl rfl rfl rfl rfl rfl rfl (L.nil ?_)
    refine Atk 3 rfl (Ca.assign) (fun Q0 k0 => L.assign hF rfl rfl rfl (L.nil k0)) ?_
    exact A.on (hO _ _ _ n15) (Le.mk [(0, 8)] hm rfl (Sa2 (Sa1 trivial)) (Ra1 trivial) trivial)
  ·replace H := condF hc H
   refine WpC.skip (WpC.seq (WpC.seq (WpC.regionL ?_)))
   refine L.move hF rfl rfl rfl ?_
   refine L.move hF rfl rfl rfl ?_
   refine L.lenS Try.underlying9 hF rfl rfl rfl ?_
   refine L.bin hF rfl rfl rfl rfl rfl rfl (L.nil ?_)
   refine WpC.cond rfl (fun hc => ?_) (fun hc => ?_)
   ·replace H := condT hc H
    refine WpC.seq (WpC.regionL ?_)
    refine L.buildSliceN (e := eTimpl_Tlv) 1 8 ([] : List Timpl_Tlv) Try.underlying22 info45 rfl rfl rfl hF rfl rfl rfl rfl rfl rfl rfl rfl ?_
    refine L.assign hF rfl rfl rfl ?_
    refine L.assign hF rfl rfl rfl (L.nil ?_)
    refine WpC.ret ?_
    cases H
    exact Leaves.ret rfl rfl rfl ⟨rfl, rfl⟩
   ·replace H := condF hc H
    refine WpC.skip (WpC.seq (WpC.regionL ?_))
    refine L.fieldAddr Try.underlying82 rfl info22 rfl hF rfl rfl rfl rfl rfl ?_
    refine L.loadPtr shape22 hF rfl rfl rfl rfl rfl rfl ?_
    refine L.assign hF rfl rfl rfl ?_
    refine L.assign hF rfl rfl rfl (L.nil ?_)
    refine WpC.ret ?_
    cases H
    exact Leaves.ret rfl rfl rfl ⟨rfl, rfl⟩
/-! ### Fimpl_within -/
def Fimpl_within (k : Nat) (a0 : Int) (a1 : Int) (a2 : Int) : Option Bool := cond (decide (a0 ≥ a1)) (some (decide (a0 ≤ a2))) (some false)
theorem ent78 : MG.Enters Try.prog 78 := ⟨Try.f78, Try.func78, rfl, by decide⟩
set_option maxHeartbeats 8000000 in
set_option maxRecDepth 100000 in
theorem Fimpl_within_gives (k : Nat) (a0 : Int) (a1 : Int) (a2 : Int) (r : Bool) (H : Fimpl_within k a0 a1 a2 = some r) : Gives Try.prog 78 [V.one (cI a0), V.one (cI a1), V.one (cI a2)] [] [V.one (cL r)] [] := by
 refine Gives.intro Try.func78 rfl rfl rfl rfl ?_
 intro F hF hm
 unfold Fimpl_within at H
 obtain ⟨K, hK⟩ : ∃ K, k ≤ K := ⟨k, Nat.le_refl k⟩
 refine WpC.seq (WpC.regionL ?_)
 refine L.assign hF rfl rfl rfl (L.nil ?_)
 refine WpC.seq (WpC.regionL ?_)
 refine L.move hF rfl rfl rfl ?_
 refine L.move hF rfl rfl rfl ?_
 refine L.bin hF rfl rfl rfl rfl rfl rfl ?_
 refine L.move hF rfl rfl rfl ?_
 refine L.split (fun hc => ?_) (fun hc => ?_)
 ·replace H := condT hc H
  refine L.move hF rfl rfl rfl ?_
  refine L.move hF rfl rfl rfl ?_
  refine L.bin hF rfl rfl rfl rfl rfl rfl ?_
  refine L.pick hF rfl rfl rfl rfl ?_
  refine L.assign hF rfl rfl rfl (L.nil ?_)
  refine WpC.ret ?_
  cases H
  exact Leaves.ret rfl rfl rfl ⟨rfl, rfl⟩
 ·replace H := condF hc H
  refine L.off hF rfl rfl ?_
  refine L.off hF rfl rfl ?_
  refine L.off hF rfl rfl ?_
  refine L.pick hF rfl rfl rfl rfl ?_
  refine L.assign hF rfl rfl rfl (L.nil ?_)
  refine WpC.ret ?_
  cases H
  exact Leaves.ret rfl rfl rfl ⟨rfl, rfl⟩
/-! ### Fimpl_Var -/
def Fimpl_Var.l2 : Nat → Int → (List UInt8) → Option (List UInt8)
 | 0, _, _ => none
 | k2 + 1, v16, v17 => cond (decide (v16 > (127 : Int))) (cond (decide ((2 * (v17.length + ([(ofI (Go.bits .or .i64 (Go.bits .and .i64 v16 (127 : Int)) (128 : Int)))] : List UInt8).length) + 192) * 1 ≤ 281474976710656)) ((Fimpl_Var.l2 k2) (shrI .i64 v16 (7 : Int)) (v17 ++ ([(ofI (Go.bits .or .i64 (Go.bits .and .i64 v16 (127 : Int)) (128 : Int)))] : List UInt8))) none) (cond (decide ((2 * (v17.length + ([(ofI v16)] : List UInt8).length) + 192) * 1 ≤ 281474976710656)) (some (v17 ++ ([(ofI v16)] : List UInt8))) none)
def Fimpl_Var (k : Nat) (a0 : Int) : Option (List UInt8) := (Fimpl_within k a0 (0 : Int) (562949953421311 : Int)).bind fun r2 => cond (!r2) (some ([] : List UInt8)) (Fimpl_Var.l2 k a0 ([] : List UInt8))
theorem ent64 : MG.Enters Try.prog 64 := ⟨Try.f64, Try.func64, rfl, by decide⟩
set_option maxHeartbeats 8000000 in
set_option maxRecDepth 100000 in
theorem Fimpl_Var_gives (k : Nat) (a0 : Int) (r : List UInt8) (H : Fimpl_Var k a0 = some r) : Gives Try.prog 64 [V.one (cI a0)] [] [V.one (cS r)] [] := by
 refine Gives.intro Try.func64 rfl rfl rfl rfl ?_
 intro F hF hm
 unfold Fimpl_Var at H
 obtain ⟨K, hK⟩ : ∃ K, k ≤ K := ⟨k, Nat.le_refl k⟩
 refine WpC.seq (WpC.regionL ?_)
 refine L.assign hF rfl rfl rfl (L.nil ?_)
 refine WpC.seq (WpC.seq (WpC.regionL ?_))
 refine L.move hF rfl rfl rfl ?_
 obtain ⟨r2, hr2, H⟩ := bindS H
 refine L.call [false, false, false] [] [] 1 hF rfl rfl rfl ent78 rfl rfl rfl rfl rfl (Fimpl_within_gives k  a0 (0 : Int) (562949953421311 : Int) r2 hr2) rfl ?_
 refine L.not hF rfl rfl rfl (L.nil ?_)
 refine WpC.cond rfl (fun hc => ?_) (fun hc => ?_)
 ·replace H := condT hc H
  refine WpC.seq (WpC.regionL ?_)
  refine L.assign hF rfl rfl rfl (L.nil ?_)
  refine WpC.ret ?_
  cases H
  exact Leaves.ret rfl rfl rfl ⟨rfl, rfl⟩
 ·replace H := condF hc H
  refine WpC.skip (WpC.seq (WpC.regionL ?_))
  refine L.buildSlice (e := eB) 2 ([] : List UInt8) Try.underlying33 info5 rfl rfl rfl hF rfl rfl rfl rfl rfl rfl rfl rfl ?_
  refine L.assign hF rfl rfl rfl (L.nil ?_)
  refine WpC.seq (WpC.block ?_)
  refine WpC.loopL (P := Try.prog) (fun n σ => ∃ v16 : Int, ∃ v17 : List UInt8, n ≤ K ∧ Fimpl_Var.l2 n v16 v17 = some r ∧ σ = mkSt [(0, one (cI v16)), (3, one (Cell.own 0))] [(0, ⟨1, List.map eB v17⟩)] [] 1) k ⟨_, ⟨a0, ([] : List UInt8), by omega, H, rfl⟩, Le.mk [(0, 2)] hm rfl (Sa2 trivial) (Ra1 trivial) trivial⟩ ?_
  clear H
  rintro k2 _ ⟨v16, v17, hk2, H, rfl⟩
  cases k2 with
  | zero => cases H
  | succ k2 =>
   rw [Fimpl_Var.l2] at H
   refine WpC.seq (WpC.seq (WpC.regionL ?_))
   refine L.move hF rfl rfl rfl ?_
   refine L.bin hF rfl rfl rfl rfl rfl rfl (L.nil ?_)
   refine WpC.cond rfl (fun hc => ?_) (fun hc => ?_)
   ·replace H := condT hc H
    refine WpC.skip (WpC.block (WpC.seq (WpC.regionL ?_)))
    refine L.move hF rfl rfl rfl ?_
    refine L.move hF rfl rfl rfl ?_
    refine L.bin hF rfl rfl rfl rfl rfl rfl ?_
    refine L.bin hF rfl rfl rfl rfl rfl rfl ?_
    refine L.toB Try.underlying3 Try.underlying5 hF rfl rfl rfl ?_
    refine L.buildSlice (e := eB) 1 ([(ofI (Go.bits .or .i64 (Go.bits .and .i64 v16 (127 : Int)) (128 : Int)))] : List UInt8) Try.underlying33 info5 rfl rfl rfl hF rfl rfl rfl rfl rfl rfl rfl rfl ?_
    obtain ⟨h18, H⟩ := condG H
    refine L.append (xs := v17) (ys := ([(ofI (Go.bits .or .i64 (Go.bits .and .i64 v16 (127 : Int)) (128 : Int)))] : List UInt8)) (e := eB) 2 Try.underlying33 info5 rfl rfl hF rfl rfl rfl rfl rfl rfl rfl rfl (fun _ => rfl) (fun _ _ h1 h2 => by cases h1; cases h2; rfl) ⟨_, Try.underlying33⟩ (of_decide_eq_true h18) rfl rfl ?_
    refine L.assign hF rfl rfl rfl (L.nil ?_)
    refine WpC.regionL ?_
    refine L.move hF rfl rfl rfl ?_
    refine L.shr hF rfl rfl rfl rfl (by decide) ?_
    refine L.assign hF rfl rfl rfl (L.nil ?_)
    exact ⟨k2, _, by omega, ⟨(shrI .i64 v16 (7 : Int)), (v17 ++ ([(ofI (Go.bits .or .i64 (Go.bits .and .i64 v16 (127 : Int)) (128 : Int)))] : List UInt8)), by omega, H, rfl⟩, Le.mk [(0, 2)] hm rfl (Sa2 trivial) (Ra1 trivial) trivial⟩
   ·replace H := condF hc H
    refine WpC.exit (WpC.seq (WpC.regionL ?_))
    refine L.move hF rfl rfl rfl ?_
    refine L.move hF rfl rfl rfl ?_
    refine L.toB Try.underlying3 Try.underlying5 hF rfl rfl rfl ?_
    refine L.buildSlice (e := eB) 1 ([(ofI v16)] : List UInt8) Try.underlying33 info5 rfl rfl rfl hF rfl rfl rfl rfl rfl rfl rfl rfl ?_
    obtain ⟨h19, H⟩ := condG H
    refine L.append (xs := v17) (ys := ([(ofI v16)] : List UInt8)) (e := eB) 2 Try.underlying33 info5 rfl rfl hF rfl rfl rfl rfl rfl rfl rfl rfl (fun _ => rfl) (fun _ _ h1 h2 => by cases h1; cases h2; rfl) ⟨_, Try.underlying33⟩ (of_decide_eq_true h19) rfl rfl ?_
    refine L.b2s (xs := (v17 ++ ([(ofI v16)] : List UInt8))) Try.underlying33 Try.underlying5 Try.underlying9 hF rfl rfl rfl rfl ?_
    refine L.assign hF rfl rfl rfl (L.nil ?_)
    refine WpC.ret ?_
    cases H
    exact Leaves.ret rfl rfl rfl ⟨rfl, rfl⟩
/-! ### Fimpl_ReadVar -/
def Fimpl_ReadVar.l2 : Nat → (List UInt8) → Int → Int → Option (Int × Int)
 | 0, _, _, _ => none
 | k2 + 1, v82, v83, v84 => cond (decide (v84 < (v82.length : Int))) (cond (decide (v84 < (7 : Int))) ((at? v82 v84).bind fun b92 => cond (!(decide ((IntKind.i64.wrap ((7 : Int) * v84)) < 0))) ((at? v82 v84).bind fun b94 => cond (decide (b94 < (128 : UInt8))) ((Fimpl_Var k2 (Go.bits .or .i64 v83 (shlI .i64 ((b92 &&& (127 : UInt8)).toNat : Int) (IntKind.i64.wrap ((7 : Int) * v84))))).bind fun r97 => (cut? v82 (0 : Int) (IntKind.i64.wrap (v84 + (1 : Int)))).bind fun b98 => cond (r97 != b98) (some ((0 : Int), (0 : Int))) (some ((Go.bits .or .i64 v83 (shlI .i64 ((b92 &&& (127 : UInt8)).toNat : Int) (IntKind.i64.wrap ((7 : Int) * v84)))), (IntKind.i64.wrap (v84 + (1 : Int)))))) ((Fimpl_ReadVar.l2 k2) v82 (Go.bits .or .i64 v83 (shlI .i64 ((b92 &&& (127 : UInt8)).toNat : Int) (IntKind.i64.wrap ((7 : Int) * v84)))) (IntKind.i64.wrap (v84 + (1 : Int))))) none) (some ((0 : Int), (0 : Int)))) (some ((0 : Int), (0 : Int)))
def Fimpl_ReadVar (k : Nat) (a0 : List UInt8) : Option (Int × Int) := Fimpl_ReadVar.l2 k a0 (0 : Int) (0 : Int)
theorem ent123 : MG.Enters Try.prog 123 := ⟨Try.f123, Try.func123, rfl, by decide⟩
set_option maxHeartbeats 8000000 in
set_option maxRecDepth 100000 in
theorem Fimpl_ReadVar_gives (k : Nat) (a0 : List UInt8) (r : Int × Int) (H : Fimpl_ReadVar k a0 = some r) : Gives Try.prog 123 [V.one (cS a0)] [] [V.one (cI r.1), V.one (cI r.2)] [] := by
 refine Gives.intro Try.func123 rfl rfl rfl rfl ?_
 intro F hF hm
 unfold Fimpl_ReadVar at H
 obtain ⟨K, hK⟩ : ∃ K, k ≤ K := ⟨k, Nat.le_refl k⟩
 refine WpC.seq (WpC.regionL ?_)
 refine L.assign hF rfl rfl rfl ?_
 refine L.assign hF rfl rfl rfl (L.nil ?_)
 refine WpC.seq (WpC.regionL ?_)
 refine L.assign hF rfl rfl rfl (L.nil ?_)
 refine WpC.seq (WpC.seq (WpC.regionL ?_))
 refine L.assign hF rfl rfl rfl (L.nil ?_)
 refine WpC.block ?_
 refine WpC.loopL (P := Try.prog) (fun n σ => ∃ v82 : List UInt8, ∃ v83 : Int, ∃ v84 : Int, n ≤ K ∧ Fimpl_ReadVar.l2 n v82 v83 v84 = some r ∧ σ = mkSt [(0, one (cS v82)), (4, one (cI v83)), (5, one (cI v84))] [] [] 0) k ⟨_, ⟨a0, (0 : Int), (0 : Int), by omega, H, rfl⟩, Le.mk [] hm rfl (Sa2 (Sa1 trivial)) trivial trivial⟩ ?_
 clear H
 rintro k2 _ ⟨v82, v83, v84, hk2, H, rfl⟩
 cases k2 with
 | zero => cases H
 | succ k2 =>
  rw [Fimpl_ReadVar.l2] at H
  refine WpC.seq (WpC.seq (WpC.regionL ?_))
  refine L.move hF rfl rfl rfl ?_
  refine L.move hF rfl rfl rfl ?_
  refine L.lenS Try.underlying9 hF rfl rfl rfl ?_
  refine L.bin hF rfl rfl rfl rfl rfl rfl ?_
  refine L.move hF rfl rfl rfl ?_
  refine L.split (fun hc => ?_) (fun hc => ?_)
  ·replace H := condT hc H
   refine L.move hF rfl rfl rfl ?_
   refine L.bin hF rfl rfl rfl rfl rfl rfl ?_
   refine L.pick hF rfl rfl rfl rfl (L.nil ?_)
   refine WpC.cond rfl (fun hc => ?_) (fun hc => ?_)
   ·replace H := condT hc H
    refine WpC.skip (WpC.seq (WpC.block (WpC.seq (WpC.regionL ?_))))
    refine L.move hF rfl rfl rfl ?_
    refine L.move hF rfl rfl rfl ?_
    refine L.move hF rfl rfl rfl ?_
    obtain ⟨b92, hb92, H⟩ := bindS H
    refine L.idxS Try.underlying9 hF rfl rfl rfl rfl hb92 ?_
    refine L.binB (a := b92) (b := (127 : UInt8)) hF rfl rfl rfl rfl rfl ?_
    refine L.ofB Try.underlying5 Try.underlying3 hF rfl rfl rfl ?_
    refine L.move hF rfl rfl rfl ?_
    refine L.bin hF rfl rfl rfl rfl rfl rfl ?_
    obtain ⟨h93, H⟩ := condG H
    refine L.shl hF rfl rfl rfl rfl (by simpa using h93) ?_
    refine L.bin hF rfl rfl rfl rfl rfl rfl ?_
    refine L.assign hF rfl rfl rfl (L.nil ?_)
    refine WpC.seq (WpC.regionL ?_)
    refine L.move hF rfl rfl rfl ?_
    refine L.move hF rfl rfl rfl ?_
    obtain ⟨b94, hb94, H⟩ := bindS H
    refine L.idxS Try.underlying9 hF rfl rfl rfl rfl hb94 ?_
    refine L.binB (a := b94) (b := (128 : UInt8)) hF rfl rfl rfl rfl rfl (L.nil ?_)
    refine WpC.cond rfl (fun hc => ?_) (fun hc => ?_)
    ·replace H := condT hc H
     refine WpC.seq (WpC.seq ?_)
     obtain ⟨r97, hr97, H⟩ := bindS H
     obtain ⟨b98, hb98, H⟩ := bindS H
     refine A.begin mixed rfl rfl ?_
     intro W hI hO
     refine hI _ _ _ ?_
     refine Atk 0 rfl (Ca.move) (fun Q0 k0 => L.move hF rfl rfl rfl (L.nil k0)) ?_
     refine Atk 2 rfl (Ca.move) (fun Q0 k0 => L.move hF rfl rfl rfl (L.nil k0)) ?_
     refine Atk 3 rfl (Ca.move) (fun Q0 k0 => L.move hF rfl rfl rfl (L.nil k0)) ?_
     refine Atk 4 rfl (Ca.bin rfl rfl (calm_int _ _ _ _ _ _ _ _)) (fun Q0 k0 => L.bin hF rfl rfl rfl rfl rfl rfl (L.nil k0)) ?_
     refine Atk 5 rfl (Ca.slice) (fun Q0 k0 => L.cutS Try.underlying9 hF rfl rfl rfl rfl rfl hb98 (L.nil k0)) ?_
     refine A.all [1] (by kernel_rfl) rfl ⟨⟨_, rfl, ?_⟩, trivial⟩
     refine L.call [false] [] [] 0 hF rfl rfl rfl ent64 rfl rfl rfl rfl rfl (Fimpl_Var_gives k2  (Go.bits .or .i64 v83 (shlI .i64 ((b92 &&& (127 : UInt8)).toNat : Int) (IntKind.i64.wrap ((7 : Int) * v84)))) r97 hr97) rfl (L.nil ?_)
     refine Atk 6 rfl (Ca.bin rfl rfl (calm_str _ _ _ _ _ _)) (fun Q0 k0 => L.binS hF rfl rfl rfl rfl rfl (L.nil k0)) ?_
     refine A.le (τ := mkSt [(4, one (cI (Go.bits .or .i64 v83 (shlI .i64 ((b92 &&& (127 : UInt8)).toNat : Int) (IntKind.i64.wrap ((7 : Int) * v84)))))), (5, one (cI v84)), (36, one (cL (r97 != b98)))] [] [] 0) (Le.mk [] hm rfl (Sa2 (Sa1 trivial)) trivial trivial) ?_
     refine A.done (by kernel_rfl) ?_
     refine WpC.cond rfl (fun hc => ?_) (fun hc => ?_)
     ·replace H := condT hc H
      refine WpC.seq (WpC.regionL ?_)
      refine L.assign hF rfl rfl rfl ?_
      refine L.assign hF rfl rfl rfl (L.nil ?_)
      refine WpC.ret ?_
      cases H
      exact Leaves.ret rfl rfl rfl ⟨rfl, rfl⟩
     ·replace H := condF hc H
      refine WpC.skip (WpC.seq (WpC.regionL ?_))
      refine L.move hF rfl rfl rfl ?_
      refine L.move hF rfl rfl rfl ?_
      refine L.bin hF rfl rfl rfl rfl rfl rfl ?_
      refine L.assign hF rfl rfl rfl ?_
      refine L.assign hF rfl rfl rfl (L.nil ?_)
      refine WpC.ret ?_
      cases H
      exact Leaves.ret rfl rfl rfl ⟨rfl, rfl⟩
    ·replace H := condF hc H
     refine WpC.skip (WpC.regionL ?_)
     refine L.move hF rfl rfl rfl ?_
     refine L.bin hF rfl rfl rfl rfl rfl rfl ?_
     refine L.assign hF rfl rfl rfl (L.nil ?_)
     exact ⟨k2, _, by omega, ⟨v82, (Go.bits .or .i64 v83 (shlI .i64 ((b92 &&& (127 : UInt8)).toNat : Int) (IntKind.i64.wrap ((7 : Int) * v84)))), (IntKind.i64.wrap (v84 + (1 : Int))), by omega, H, rfl⟩, Le.mk [] hm rfl (Sa2 (Sa1 trivial)) trivial trivial⟩
   ·replace H := condF hc H
    refine WpC.exit (WpC.seq (WpC.regionL ?_))
    refine L.assign hF rfl rfl rfl ?_
    refine L.assign hF rfl rfl rfl (L.nil ?_)
    refine WpC.ret ?_
    cases H
    exact Leaves.ret rfl rfl rfl ⟨rfl, rfl⟩
  ·replace H := condF hc H
   refine L.off hF rfl rfl ?_
   refine L.off hF rfl rfl ?_
   refine L.pick hF rfl rfl rfl rfl (L.nil ?_)
   refine WpC.cond rfl (fun hc => by cases hc) (fun _ => ?_)
   refine WpC.exit (WpC.seq (WpC.regionL ?_))
   refine L.assign hF rfl rfl rfl ?_
   refine L.assign hF rfl rfl rfl (L.nil ?_)
   refine WpC.ret ?_
   cases H
   exact Leaves.ret rfl rfl rfl ⟨rfl, rfl⟩
/-! ### Fimpl_tlvReader_node -/
def Fimpl_tlvReader_node.j3 (k : Nat) (v51 : Int) (v52 : Int) (v53 : List UInt8) (v54 : List Timpl_Tlv) (v55 : Int) (v56 : Int) (v57 : Bool) (v58 : List UInt8) (v59 : List Int) : Option (Int × Int × Timpl_tlvReader) := cond (decide ((2 * (v54.length + ([(⟨v56, v57, v58, v59⟩ : Timpl_Tlv)] : List Timpl_Tlv).length) + 192) * 56 ≤ 281474976710656)) (some ((IntKind.i64.wrap (v52 + v51)), (0 : Int), (⟨v53, (v54 ++ ([(⟨v56, v57, v58, v59⟩ : Timpl_Tlv)] : List Timpl_Tlv)), v55⟩ : Timpl_tlvReader))) none
def Fimpl_tlvReader_node.l4 (cREC : Int → Int → Int → Timpl_tlvReader → Option (Int × Int × Timpl_tlvReader)) : Nat → Int → Int → Int → Int → (List UInt8) → (List Timpl_Tlv) → Int → Int → Bool → (List UInt8) → (List Int) → Option (Int × Int × Timpl_tlvReader)
 | 0, _, _, _, _, _, _, _, _, _, _, _ => none
 | k4 + 1, v84, v85, v86, v87, v88, v89, v90, v91, v92, v93, v94 => cond (!v92) (cond (decide (v87 < (IntKind.i64.wrap (v86 + v85)))) ((cREC v87 (IntKind.i64.wrap (v86 + v85)) (IntKind.i64.wrap (v84 + (1 : Int))) (⟨v88, v89, v90⟩ : Timpl_tlvReader)).bind fun r95 => cond (r95.2.1 != (0 : Int)) (some ((0 : Int), r95.2.1, r95.2.2)) (cond (decide ((2 * (v94.length + ([(IntKind.i64.wrap ((r95.2.2.nodes.length : Int) - (1 : Int)))] : List Int).length) + 192) * 8 ≤ 281474976710656)) ((Fimpl_tlvReader_node.l4 cREC k4) v84 v85 v86 r95.1 r95.2.2.s r95.2.2.nodes r95.2.2.begun v91 v92 v93 (v94 ++ ([(IntKind.i64.wrap ((r95.2.2.nodes.length : Int) - (1 : Int)))] : List Int))) none)) (Fimpl_tlvReader_node.j3 k4 v85 v86 v88 v89 v90 v91 v92 v93 v94)) (Fimpl_tlvReader_node.j3 k4 v85 v86 v88 v89 v90 v91 v92 v93 v94)
def Fimpl_tlvReader_node.j1 (cREC : Int → Int → Int → Timpl_tlvReader → Option (Int × Int × Timpl_tlvReader)) (k : Nat) (v7 : Int) (v8 : Int) (v9 : Int) (v10 : Timpl_tlvReader) (v11 : Int) (v12 : Int) (v13 : Bool) (v14 : List UInt8) : Option (Int × Int × Timpl_tlvReader) := Fimpl_tlvReader_node.l4 cREC k v7 v8 v9 v9 v10.s v10.nodes v11 v12 v13 v14 []
def Fimpl_tlvReader_node : Nat → Int → Int → Int → Timpl_tlvReader → Option (Int × Int × Timpl_tlvReader)
 | 0, _, _, _, _ => none
 | k + 1, a1, a2, a3, o0 => cond (o0.begun == (60 : Int)) (some ((0 : Int), (4 : Int), o0)) (cond (decide (a1 ≥ a2)) (some ((0 : Int), (1 : Int), o0)) ((at? o0.s a1).bind fun b1 => (Fimpl_within k (Int.tmod (b1.toNat : Int) (128 : Int)) (1 : Int) (100 : Int)).bind fun r3 => cond (!r3) (some ((0 : Int), (2 : Int), (⟨o0.s, o0.nodes, (IntKind.i64.wrap (o0.begun + (1 : Int)))⟩ : Timpl_tlvReader))) (cond (decide (a3 ≥ (8 : Int))) (some ((0 : Int), (3 : Int), (⟨o0.s, o0.nodes, (IntKind.i64.wrap (o0.begun + (1 : Int)))⟩ : Timpl_tlvReader))) ((cut? o0.s (IntKind.i64.wrap (a1 + (1 : Int))) a2).bind fun b4 => (Fimpl_ReadVar k b4).bind fun r5 => cond (r5.2 == (0 : Int)) (some ((0 : Int), (1 : Int), (⟨o0.s, o0.nodes, (IntKind.i64.wrap (o0.begun + (1 : Int)))⟩ : Timpl_tlvReader))) (cond (decide (r5.1 > (IntKind.i64.wrap (a2 - (IntKind.i64.wrap ((IntKind.i64.wrap (a1 + (1 : Int))) + r5.2)))))) (some ((0 : Int), (1 : Int), (⟨o0.s, o0.nodes, (IntKind.i64.wrap (o0.begun + (1 : Int)))⟩ : Timpl_tlvReader))) (cond (decide ((b1.toNat : Int) < (128 : Int))) ((cut? o0.s (IntKind.i64.wrap ((IntKind.i64.wrap (a1 + (1 : Int))) + r5.2)) (IntKind.i64.wrap ((IntKind.i64.wrap ((IntKind.i64.wrap (a1 + (1 : Int))) + r5.2)) + r5.1))).bind fun b97 => Fimpl_tlvReader_node.j1 (Fimpl_tlvReader_node k) k a3 r5.1 (IntKind.i64.wrap ((IntKind.i64.wrap (a1 + (1 : Int))) + r5.2)) o0 (IntKind.i64.wrap (o0.begun + (1 : Int))) (Int.tmod (b1.toNat : Int) (128 : Int)) (decide ((b1.toNat : Int) < (128 : Int))) b97) (Fimpl_tlvReader_node.j1 (Fimpl_tlvReader_node k) k a3 r5.1 (IntKind.i64.wrap ((IntKind.i64.wrap (a1 + (1 : Int))) + r5.2)) o0 (IntKind.i64.wrap (o0.begun + (1 : Int))) (Int.tmod (b1.toNat : Int) (128 : Int)) (decide ((b1.toNat : Int) < (128 : Int))) ([] : List UInt8))))))))
theorem ent52 : MG.Enters Try.prog 52 := ⟨Try.f52, Try.func52, rfl, by decide⟩
set_option maxHeartbeats 8000000 in
set_option maxRecDepth 100000 in
theorem Fimpl_tlvReader_node_gives : ∀ (k : Nat) (a1 : Int) (a2 : Int) (a3 : Int) (o0 : Timpl_tlvReader) (r : Int × Int × Timpl_tlvReader) (H : Fimpl_tlvReader_node k a1 a2 a3 o0 = some r), Gives Try.prog 52 [V.one (Cell.ptr 0 0), V.one (cI a1), V.one (cI a2), V.one (cI a3)] [[cS o0.s, Cell.ow 4 (List.map eTimpl_Tlv o0.nodes), cI o0.begun]] [V.one (cI r.1), V.one (cI r.2.1)] [[cS r.2.2.s, Cell.ow 4 (List.map eTimpl_Tlv r.2.2.nodes), cI r.2.2.begun]] := by
 intro k
 induction k with
 | zero => intros; rename_i H; cases H
 | succ k ih =>
  intro a1 a2 a3 o0 r H
  refine Gives.intro Try.func52 rfl rfl rfl rfl ?_
  intro F hF hm
  rw [Fimpl_tlvReader_node] at H
  obtain ⟨K, hK⟩ : ∃ K, k ≤ K := ⟨k, Nat.le_refl k⟩
  refine WpC.seq (WpC.regionL ?_)
  refine L.assign hF rfl rfl rfl ?_
  refine L.assign hF rfl rfl rfl (L.nil ?_)
  refine WpC.seq (WpC.block (WpC.seq (WpC.regionL ?_)))
  refine L.move hF rfl rfl rfl ?_
  refine L.nilCheck hF rfl rfl rfl rfl ?_
  refine L.fieldAddr Try.underlying87 rfl info3 rfl hF rfl rfl rfl rfl rfl ?_
  refine L.loadPtr shape3 hF rfl rfl rfl rfl rfl rfl ?_
  refine L.bin hF rfl rfl rfl rfl rfl rfl ?_
  refine L.assign hF rfl rfl rfl (L.nil ?_)
  refine WpC.cond rfl (fun hc => ?_) (fun hc => ?_)
  ·replace H := condT hc H
   refine WpC.seq (WpC.regionL ?_)
   refine L.assign hF rfl rfl rfl ?_
   refine L.assign hF rfl rfl rfl (L.nil ?_)
   refine WpC.ret ?_
   cases H
   exact Leaves.ret rfl rfl rfl ⟨rfl, rfl⟩
  ·replace H := condF hc H
   refine WpC.seq (WpC.regionL ?_)
   refine L.move hF rfl rfl rfl ?_
   refine L.move hF rfl rfl rfl ?_
   refine L.bin hF rfl rfl rfl rfl rfl rfl ?_
   refine L.assign hF rfl rfl rfl (L.nil ?_)
   refine WpC.cond rfl (fun hc => ?_) (fun hc => ?_)
   ·replace H := condT hc H
    refine WpC.seq (WpC.regionL ?_)
    refine L.assign hF rfl rfl rfl ?_
    refine L.assign hF rfl rfl rfl (L.nil ?_)
    refine WpC.ret ?_
    cases H
    exact Leaves.ret rfl rfl rfl ⟨rfl, rfl⟩
   ·replace H := condF hc H
    refine WpC.skip (WpC.seq (WpC.regionL ?_))
    refine L.move hF rfl rfl rfl ?_
    refine L.nilCheck hF rfl rfl rfl rfl ?_
    refine L.fieldAddr Try.underlying87 rfl info3 rfl hF rfl rfl rfl rfl rfl ?_
    refine L.loadPtr shape3 hF rfl rfl rfl rfl rfl rfl ?_
    refine L.bin hF rfl rfl rfl rfl rfl rfl ?_
    refine L.nilCheck hF rfl rfl rfl rfl ?_
    refine L.fieldAddr Try.underlying87 rfl info3 rfl hF rfl rfl rfl rfl rfl ?_
    refine L.storePtr shape3 hF rfl rfl rfl rfl rfl rfl rfl (L.nil ?_)
    refine WpC.seq (WpC.regionL ?_)
    refine L.move hF rfl rfl rfl ?_
    refine L.nilCheck hF rfl rfl rfl rfl ?_
    refine L.fieldAddr Try.underlying87 rfl info9 rfl hF rfl rfl rfl rfl rfl ?_
    refine L.loadPtr shape9 hF rfl rfl rfl rfl rfl rfl ?_
    refine L.move hF rfl rfl rfl ?_
    obtain ⟨b1, hb1, H⟩ := bindS H
    refine L.idxS Try.underlying9 hF rfl rfl rfl rfl hb1 ?_
    refine L.ofB Try.underlying5 Try.underlying3 hF rfl rfl rfl ?_
    refine L.assign hF rfl rfl rfl (L.nil ?_)
    refine WpC.seq (WpC.regionL ?_)
    refine L.move hF rfl rfl rfl ?_
    refine L.rem hF rfl rfl rfl rfl (by decide) ?_
    refine L.move hF rfl rfl rfl ?_
    refine L.bin hF rfl rfl rfl rfl rfl rfl ?_
    refine L.buildF built45 hF rfl rfl rfl rfl ?_
    refine L.alloc 8 info45 rfl hF rfl rfl rfl rfl ?_
    refine L.storePtr shape45 hF rfl rfl rfl rfl rfl rfl rfl (L.nil ?_)
    refine WpC.seq (WpC.block (WpC.seq (WpC.regionL ?_)))
    refine L.fieldAddr Try.underlying45 rfl info3 rfl hF rfl rfl rfl rfl rfl ?_
    refine L.loadPtr shape3 hF rfl rfl rfl rfl rfl rfl ?_
    obtain ⟨r3, hr3, H⟩ := bindS H
    refine L.call [false, false, false] [] [] 9 hF rfl rfl rfl ent78 rfl rfl rfl rfl rfl (Fimpl_within_gives k  (Int.tmod (b1.toNat : Int) (128 : Int)) (1 : Int) (100 : Int) r3 hr3) rfl ?_
    refine L.not hF rfl rfl rfl ?_
    refine L.assign hF rfl rfl rfl (L.nil ?_)
    refine WpC.cond rfl (fun hc => ?_) (fun hc => ?_)
    ·replace H := condT hc H
     refine WpC.seq (WpC.regionL ?_)
     refine L.assign hF rfl rfl rfl ?_
     refine L.assign hF rfl rfl rfl (L.nil ?_)
     refine WpC.ret ?_
     cases H
     exact Leaves.ret rfl rfl rfl ⟨rfl, rfl⟩
    ·replace H := condF hc H
     refine WpC.seq (WpC.regionL ?_)
     refine L.move hF rfl rfl rfl ?_
     refine L.bin hF rfl rfl rfl rfl rfl rfl ?_
     refine L.assign hF rfl rfl rfl (L.nil ?_)
     refine WpC.cond rfl (fun hc => ?_) (fun hc => ?_)
     ·replace H := condT hc H
      refine WpC.seq (WpC.regionL ?_)
      refine L.assign hF rfl rfl rfl ?_
      refine L.assign hF rfl rfl rfl (L.nil ?_)
      refine WpC.ret ?_
      cases H
      exact Leaves.ret rfl rfl rfl ⟨rfl, rfl⟩
     ·replace H := condF hc H
      refine WpC.skip (WpC.seq (WpC.regionL ?_))
      refine L.move hF rfl rfl rfl ?_
      refine L.nilCheck hF rfl rfl rfl rfl ?_
      refine L.fieldAddr Try.underlying87 rfl info9 rfl hF rfl rfl rfl rfl rfl ?_
      refine L.loadPtr shape9 hF rfl rfl rfl rfl rfl rfl ?_
      refine L.move hF rfl rfl rfl ?_
      refine L.bin hF rfl rfl rfl rfl rfl rfl ?_
      refine L.move hF rfl rfl rfl ?_
      obtain ⟨b4, hb4, H⟩ := bindS H
      refine L.cutS Try.underlying9 hF rfl rfl rfl rfl rfl hb4 ?_
      obtain ⟨r5, hr5, H⟩ := bindS H
      refine L.call [false] [] [] 10 hF rfl rfl rfl ent123 rfl rfl rfl rfl rfl (Fimpl_ReadVar_gives k  b4 r5 hr5) rfl ?_
      refine L.move hF rfl rfl rfl ?_
      refine L.extract hF rfl rfl rfl rfl ?_
      refine L.extract hF rfl rfl rfl rfl ?_
      refine L.assign hF rfl rfl rfl ?_
      refine L.assign hF rfl rfl rfl (L.nil ?_)
      refine WpC.seq (WpC.regionL ?_)
      refine L.move hF rfl rfl rfl ?_
      refine L.bin hF rfl rfl rfl rfl rfl rfl ?_
      refine L.move hF rfl rfl rfl ?_
      refine L.bin hF rfl rfl rfl rfl rfl rfl ?_
      refine L.assign hF rfl rfl rfl (L.nil ?_)
      refine WpC.seq (WpC.seq (WpC.regionL ?_))
      refine L.move hF rfl rfl rfl ?_
      refine L.bin hF rfl rfl rfl rfl rfl rfl ?_
      refine L.move hF rfl rfl rfl ?_
      refine L.split (fun hc => ?_) (fun hc => ?_)
      ·replace H := condT hc H
       refine L.off hF rfl rfl ?_
       refine L.off hF rfl rfl ?_
       refine L.off hF rfl rfl ?_
       refine L.off hF rfl rfl ?_
       refine L.off hF rfl rfl ?_
       refine L.pick hF rfl rfl rfl rfl (L.nil ?_)
       refine WpC.cond rfl (fun _ => ?_) (fun hc => by cases hc)
       refine WpC.seq (WpC.regionL ?_)
       refine L.assign hF rfl rfl rfl ?_
       refine L.assign hF rfl rfl rfl (L.nil ?_)
       refine WpC.ret ?_
       cases H
       exact Leaves.ret rfl rfl rfl ⟨rfl, rfl⟩
      ·replace H := condF hc H
       refine L.move hF rfl rfl rfl ?_
       refine L.move hF rfl rfl rfl ?_
       refine L.move hF rfl rfl rfl ?_
       refine L.bin hF rfl rfl rfl rfl rfl rfl ?_
       refine L.bin hF rfl rfl rfl rfl rfl rfl ?_
       refine L.pick hF rfl rfl rfl rfl (L.nil ?_)
       refine WpC.cond rfl (fun hc => ?_) (fun hc => ?_)
       ·replace H := condT hc H
        refine WpC.seq (WpC.regionL ?_)
        refine L.assign hF rfl rfl rfl ?_
        refine L.assign hF rfl rfl rfl (L.nil ?_)
        refine WpC.ret ?_
        cases H
        exact Leaves.ret rfl rfl rfl ⟨rfl, rfl⟩
       ·replace H := condF hc H
        refine WpC.skip ?_
        refine WpC.join (fun σ => ∃ kj1 : Nat, ∃ v7 : Int, ∃ v8 : Int, ∃ v9 : Int, ∃ v10 : Timpl_tlvReader, ∃ v11 : Int, ∃ v12 : Int, ∃ v13 : Bool, ∃ v14 : List UInt8, kj1 ≤ K ∧ Fimpl_tlvReader_node.j1 (Fimpl_tlvReader_node k) kj1 v7 v8 v9 v10 v11 v12 v13 v14 = some r ∧ σ = mkSt [(0, one (Cell.ptr 0 0)), (3, one (cI v7)), (11, one (Cell.ptr 1 0)), (12, one (cI v8)), (14, one (cI v9))] [(2, ⟨4, List.map eTimpl_Tlv v10.nodes⟩)] [(0, [cS v10.s, Cell.own 2, cI v11]), (1, [cI v12, cL v13, cS v14, Cell.nil])] 3) ?_ ?_
        ·rintro _ ⟨kj1, v7, v8, v9, v10, v11, v12, v13, v14, hkj1, H, rfl⟩
         unfold Fimpl_tlvReader_node.j1 at H
         refine WpC.join (fun σ => ∃ kj3 : Nat, ∃ v51 : Int, ∃ v52 : Int, ∃ v53 : List UInt8, ∃ v54 : List Timpl_Tlv, ∃ v55 : Int, ∃ v56 : Int, ∃ v57 : Bool, ∃ v58 : List UInt8, ∃ v59 : List Int, kj3 ≤ K ∧ Fimpl_tlvReader_node.j3 kj3 v51 v52 v53 v54 v55 v56 v57 v58 v59 = some r ∧ σ = mkSt [(0, one (Cell.ptr 0 0)), (11, one (Cell.ptr 1 0)), (12, one (cI v51)), (14, one (cI v52))] [(2, ⟨4, List.map eTimpl_Tlv v54⟩), (3, ⟨1, List.map eI v59⟩)] [(0, [cS v53, Cell.own 2, cI v55]), (1, [cI v56, cL v57, cS v58, Cell.own 3])] 4) ?_ ?_
         ·rintro _ ⟨kj3, v51, v52, v53, v54, v55, v56, v57, v58, v59, hkj3, H, rfl⟩
          unfold Fimpl_tlvReader_node.j3 at H
          refine WpC.seq ?_
          obtain ⟨h60, H⟩ := condG H
          refine A.begin mixed rfl rfl ?_
          intro W hI hO
          have n127 : W 4 #[true, true, true, true, true, true, true, false, false, false, false] (mkSt [(12, one (cI v51)), (14, one (cI v52)), (129, one (Cell.ptr 0 0)), (133, one (Cell.own 1)), (135, one (Cell.own 2))] [(1, ⟨4, List.map eTimpl_Tlv v54⟩), (2, ⟨4, List.map eTimpl_Tlv ([(⟨v56, v57, v58, v59⟩ : Timpl_Tlv)] : List Timpl_Tlv)⟩)] [(0, [cS v53, Cell.own 1, cI v55])] 3) := by
           refine hI _ _ _ ?_
           refine A.all [7] (by kernel_rfl) rfl ⟨⟨_, rfl, ?_⟩, trivial⟩
           refine L.appendN (xs := v54) (ys := ([(⟨v56, v57, v58, v59⟩ : Timpl_Tlv)] : List Timpl_Tlv)) (e := eTimpl_Tlv) 3 Try.underlying22 info45 rfl rfl hF rfl rfl rfl rfl rfl rfl rfl rfl rfl (fun _ _ h1 h2 => by cases h1; cases h2; rfl) Try.underlying22 (of_decide_eq_true h60) rfl rfl (L.nil ?_)
           refine Atk 8 rfl (Ca.nilCheck rfl rfl) (fun Q0 k0 => L.nilCheck hF rfl rfl rfl rfl (L.nil k0)) ?_
           refine Atk 9 rfl (Ca.fieldAddr Try.underlying87 rfl info22 rfl) (fun Q0 k0 => L.fieldAddr Try.underlying87 rfl info22 rfl hF rfl rfl rfl rfl rfl (L.nil k0)) ?_
           refine A.all [10] (by kernel_rfl) rfl ⟨⟨_, rfl, ?_⟩, trivial⟩
           refine L.storePtr shape22 hF rfl rfl rfl rfl rfl rfl rfl (L.nil ?_)
           refine A.le (τ := mkSt [(12, one (cI v51)), (14, one (cI v52))] [(1, ⟨4, List.map eTimpl_Tlv (v54 ++ ([(⟨v56, v57, v58, v59⟩ : Timpl_Tlv)] : List Timpl_Tlv))⟩)] [(0, [cS v53, Cell.own 1, cI v55])] 2) (Le.mk [(0, 0), (1, 3)] hm rfl (Sa2 trivial) (Ra1 trivial) (Ba1 trivial)) ?_
           refine A.done (by kernel_rfl) ?_
           refine WpC.seq (WpC.regionL ?_)
           refine L.move hF rfl rfl rfl ?_
           refine L.move hF rfl rfl rfl ?_
           refine L.bin hF rfl rfl rfl rfl rfl rfl ?_
           refine L.assign hF rfl rfl rfl ?_
           refine L.assign hF rfl rfl rfl (L.nil ?_)
           refine WpC.ret ?_
           cases H
           exact Leaves.ret rfl rfl rfl ⟨rfl, rfl⟩
          have n63 : W 5 #[true, true, true, true, true, true, false, false, false, false, false] (mkSt [(12, one (cI v51)), (14, one (cI v52)), (129, one (Cell.ptr 0 0)), (133, one (Cell.own 1)), (134, agg [cI v56, cL v57, cS v58, Cell.own 2])] [(1, ⟨4, List.map eTimpl_Tlv v54⟩), (2, ⟨1, List.map eI v59⟩)] [(0, [cS v53, Cell.own 1, cI v55])] 3) := by
           refine hI _ _ _ ?_
           refine A.all [6] (by kernel_rfl) rfl ⟨⟨_, rfl, ?_⟩, trivial⟩
           refine L.buildSliceN (e := eTimpl_Tlv) 1 3 ([(⟨v56, v57, v58, v59⟩ : Timpl_Tlv)] : List Timpl_Tlv) Try.underlying22 info45 rfl rfl rfl hF rfl rfl rfl rfl rfl rfl rfl rfl (L.nil ?_)
           exact A.on (hO _ _ _ n127) (Le.mk [(0, 0), (1, 1), (2, 3)] hm rfl (Sa4 (Sa1 trivial)) (Ra2 trivial) (Ba1 trivial))
          refine hI _ _ _ ?_
          refine Atk 0 rfl (Ca.move) (fun Q0 k0 => L.move hF rfl rfl rfl (L.nil k0)) ?_
          refine Atk 1 rfl (Ca.move) (fun Q0 k0 => L.move hF rfl rfl rfl (L.nil k0)) ?_
          refine Atk 2 rfl (Ca.nilCheck rfl rfl) (fun Q0 k0 => L.nilCheck hF rfl rfl rfl rfl (L.nil k0)) ?_
          refine Atk 3 rfl (Ca.fieldAddr Try.underlying87 rfl info22 rfl) (fun Q0 k0 => L.fieldAddr Try.underlying87 rfl info22 rfl hF rfl rfl rfl rfl rfl (L.nil k0)) ?_
          refine A.all [4, 5] (by kernel_rfl) rfl ⟨⟨_, rfl, ?_⟩, ⟨_, rfl, ?_⟩, trivial⟩
          ·refine L.loadPtr shape22 hF rfl rfl rfl rfl rfl rfl (L.nil ?_)
           refine A.all [5] (by kernel_rfl) rfl ⟨⟨_, rfl, ?_⟩, trivial⟩
           refine L.loadPtr shape45 hF rfl rfl rfl rfl rfl rfl (L.nil ?_)
           exact A.on (hO _ _ _ n63) (Le.mk [(0, 0), (1, 2), (2, 3)] hm rfl (Sa4 (Sa1 trivial)) (Ra2 trivial) (Ba1 trivial))
          ·refine L.loadPtr shape45 hF rfl rfl rfl rfl rfl rfl (L.nil ?_)
           refine A.all [4, 6] (by kernel_rfl) rfl ⟨⟨_, rfl, ?_⟩, ⟨_, rfl, ?_⟩, trivial⟩
           ·refine L.loadPtr shape22 hF rfl rfl rfl rfl rfl rfl (L.nil ?_)
            exact A.on (hO _ _ _ n63) (Le.mk [(0, 0), (1, 2), (2, 3)] hm rfl (Sa4 (Sa1 trivial)) (Ra2 trivial) (Ba1 trivial))
           ·refine L.buildSliceN (e := eTimpl_Tlv) 1 4 ([(⟨v56, v57, v58, v59⟩ : Timpl_Tlv)] : List Timpl_Tlv) Try.underlying22 info45 rfl rfl rfl hF rfl rfl rfl rfl rfl rfl rfl rfl (L.nil ?_)
            refine A.all [4] (by kernel_rfl) rfl ⟨⟨_, rfl, ?_⟩, trivial⟩
            refine L.loadPtr shape22 hF rfl rfl rfl rfl rfl rfl (L.nil ?_)
            exact A.on (hO _ _ _ n127) (Le.mk [(0, 0), (1, 2), (2, 4)] hm rfl (Sa4 (Sa1 trivial)) (Ra2 trivial) (Ba1 trivial))
         ·refine WpC.seq (WpC.regionL ?_)
          refine L.move hF rfl rfl rfl ?_
          refine L.assign hF rfl rfl rfl (L.nil ?_)
          refine WpC.block ?_
          refine WpC.loopL (P := Try.prog) (fun n σ => ∃ v84 : Int, ∃ v85 : Int, ∃ v86 : Int, ∃ v87 : Int, ∃ v88 : List UInt8, ∃ v89 : List Timpl_Tlv, ∃ v90 : Int, ∃ v91 : Int, ∃ v92 : Bool, ∃ v93 : List UInt8, ∃ v94 : List Int, n ≤ K ∧ Fimpl_tlvReader_node.l4 (Fimpl_tlvReader_node k) n v84 v85 v86 v87 v88 v89 v90 v91 v92 v93 v94 = some r ∧ σ = mkSt [(0, one (Cell.ptr 0 0)), (3, one (cI v84)), (11, one (Cell.ptr 1 0)), (12, one (cI v85)), (14, one (cI v86)), (15, one (cI v87))] [(2, ⟨4, List.map eTimpl_Tlv v89⟩), (3, ⟨1, List.map eI v94⟩)] [(0, [cS v88, Cell.own 2, cI v90]), (1, [cI v91, cL v92, cS v93, Cell.own 3])] 4) kj1 ⟨_, ⟨v7, v8, v9, v9, v10.s, v10.nodes, v11, v12, v13, v14, [], by omega, H, rfl⟩, (Le.ownB 1 3 3 1 rfl rfl rfl).trans (Le.mk [(0, 0), (1, 1), (2, 2), (3, 3)] hm rfl (Sa4 (Sa2 trivial)) (Ra2 trivial) (Ba2 trivial))⟩ ?_
          clear H
          rintro k4 _ ⟨v84, v85, v86, v87, v88, v89, v90, v91, v92, v93, v94, hk4, H, rfl⟩
          cases k4 with
          | zero => cases H
          | succ k4 =>
           rw [Fimpl_tlvReader_node.l4] at H
           refine WpC.seq (WpC.seq (WpC.regionL ?_))
           refine L.fieldAddr Try.underlying45 rfl info4 rfl hF rfl rfl rfl rfl rfl ?_
           refine L.loadPtr shape4 hF rfl rfl rfl rfl rfl rfl ?_
           refine L.not hF rfl rfl rfl ?_
           refine L.move hF rfl rfl rfl ?_
           refine L.split (fun hc => ?_) (fun hc => ?_)
           ·replace H := condT hc H
            refine L.move hF rfl rfl rfl ?_
            refine L.move hF rfl rfl rfl ?_
            refine L.move hF rfl rfl rfl ?_
            refine L.bin hF rfl rfl rfl rfl rfl rfl ?_
            refine L.bin hF rfl rfl rfl rfl rfl rfl ?_
            refine L.pick hF rfl rfl rfl rfl (L.nil ?_)
            refine WpC.cond rfl (fun hc => ?_) (fun hc => ?_)
            ·replace H := condT hc H
             refine WpC.skip (WpC.block (WpC.seq (WpC.regionL ?_)))
             refine L.move hF rfl rfl rfl ?_
             refine L.move hF rfl rfl rfl ?_
             refine L.move hF rfl rfl rfl ?_
             refine L.move hF rfl rfl rfl ?_
             refine L.bin hF rfl rfl rfl rfl rfl rfl ?_
             refine L.move hF rfl rfl rfl ?_
             refine L.bin hF rfl rfl rfl rfl rfl rfl ?_
             obtain ⟨r95, hr95, H⟩ := bindS H
             refine L.call [false, false, false, false] [] [0] 4 hF rfl rfl rfl ent52 rfl rfl rfl rfl rfl (ih  v87 (IntKind.i64.wrap (v86 + v85)) (IntKind.i64.wrap (v84 + (1 : Int))) (⟨v88, v89, v90⟩ : Timpl_tlvReader) r95 hr95) rfl ?_
             refine L.move hF rfl rfl rfl ?_
             refine L.extract hF rfl rfl rfl rfl ?_
             refine L.extract hF rfl rfl rfl rfl ?_
             refine L.assign hF rfl rfl rfl ?_
             refine L.assign hF rfl rfl rfl (L.nil ?_)
             refine WpC.seq (WpC.seq (WpC.regionL ?_))
             refine L.move hF rfl rfl rfl ?_
             refine L.bin hF rfl rfl rfl rfl rfl rfl (L.nil ?_)
             refine WpC.cond rfl (fun hc => ?_) (fun hc => ?_)
             ·replace H := condT hc H
              refine WpC.seq (WpC.regionL ?_)
              refine L.move hF rfl rfl rfl ?_
              refine L.assign hF rfl rfl rfl ?_
              refine L.assign hF rfl rfl rfl (L.nil ?_)
              refine WpC.ret ?_
              cases H
              exact Leaves.ret rfl rfl rfl ⟨rfl, rfl⟩
             ·replace H := condF hc H
              refine WpC.skip (WpC.seq ?_)
              obtain ⟨h96, H⟩ := condG H
              refine A.begin mixed rfl rfl ?_
              intro W hI hO
              have n511 : W 3 #[true, true, true, true, true, true, true, true, true, false, false, false] (mkSt [(0, one (Cell.ptr 0 0)), (3, one (cI v84)), (11, one (Cell.ptr 1 0)), (12, one (cI v85)), (14, one (cI v86)), (16, one (cI r95.1)), (118, one (Cell.own 2)), (125, one (Cell.own 3))] [(2, ⟨1, List.map eI v94⟩), (3, ⟨1, List.map eI ([(IntKind.i64.wrap ((r95.2.2.nodes.length : Int) - (1 : Int)))] : List Int)⟩), (4, ⟨4, List.map eTimpl_Tlv r95.2.2.nodes⟩)] [(0, [cS r95.2.2.s, Cell.own 4, cI r95.2.2.begun]), (1, [cI v91, cL v92, cS v93, Cell.own 2])] 5) := by
               refine hI _ _ _ ?_
               refine A.all [9] (by kernel_rfl) rfl ⟨⟨_, rfl, ?_⟩, trivial⟩
               refine L.append (xs := v94) (ys := ([(IntKind.i64.wrap ((r95.2.2.nodes.length : Int) - (1 : Int)))] : List Int)) (e := eI) 5 Try.underlying39 info3 rfl rfl hF rfl rfl rfl rfl rfl rfl rfl rfl (fun _ => rfl) (fun _ _ h1 h2 => by cases h1; cases h2; rfl) ⟨_, Try.underlying39⟩ (of_decide_eq_true h96) rfl rfl (L.nil ?_)
               refine Atk 10 rfl (Ca.fieldAddr Try.underlying45 rfl info39 rfl) (fun Q0 k0 => L.fieldAddr Try.underlying45 rfl info39 rfl hF rfl rfl rfl rfl rfl (L.nil k0)) ?_
               refine A.all [11] (by kernel_rfl) rfl ⟨⟨_, rfl, ?_⟩, trivial⟩
               refine L.storePtr shape39 hF rfl rfl rfl rfl rfl rfl rfl (L.nil ?_)
               refine A.le (τ := mkSt [(0, one (Cell.ptr 0 0)), (3, one (cI v84)), (11, one (Cell.ptr 1 0)), (12, one (cI v85)), (14, one (cI v86)), (16, one (cI r95.1))] [(2, ⟨4, List.map eTimpl_Tlv r95.2.2.nodes⟩), (3, ⟨1, List.map eI (v94 ++ ([(IntKind.i64.wrap ((r95.2.2.nodes.length : Int) - (1 : Int)))] : List Int))⟩)] [(0, [cS r95.2.2.s, Cell.own 2, cI r95.2.2.begun]), (1, [cI v91, cL v92, cS v93, Cell.own 3])] 4) (Le.mk [(0, 0), (1, 1), (2, 4), (3, 5)] hm rfl (Sa4 (Sa2 trivial)) (Ra2 trivial) (Ba2 trivial)) ?_
               refine A.done (by kernel_rfl) ?_
               refine WpC.regionL ?_
               refine L.move hF rfl rfl rfl ?_
               refine L.assign hF rfl rfl rfl (L.nil ?_)
               exact ⟨k4, _, by omega, ⟨v84, v85, v86, r95.1, r95.2.2.s, r95.2.2.nodes, r95.2.2.begun, v91, v92, v93, (v94 ++ ([(IntKind.i64.wrap ((r95.2.2.nodes.length : Int) - (1 : Int)))] : List Int)), by omega, H, rfl⟩, Le.mk [(0, 0), (1, 1), (2, 2), (3, 3)] hm rfl (Sa4 (Sa2 trivial)) (Ra2 trivial) (Ba2 trivial)⟩
              have n255 : W 4 #[true, true, true, true, true, true, true, true, false, false, false, false] (mkSt [(0, one (Cell.ptr 0 0)), (3, one (cI v84)), (11, one (Cell.ptr 1 0)), (12, one (cI v85)), (14, one (cI v86)), (16, one (cI r95.1)), (118, one (Cell.own 2)), (124, one (cI (IntKind.i64.wrap ((r95.2.2.nodes.length : Int) - (1 : Int)))))] [(2, ⟨1, List.map eI v94⟩), (3, ⟨4, List.map eTimpl_Tlv r95.2.2.nodes⟩)] [(0, [cS r95.2.2.s, Cell.own 3, cI r95.2.2.begun]), (1, [cI v91, cL v92, cS v93, Cell.own 2])] 4) := by
               refine hI _ _ _ ?_
               refine A.all [8] (by kernel_rfl) rfl ⟨⟨_, rfl, ?_⟩, trivial⟩
               refine L.buildSlice (e := eI) 4 ([(IntKind.i64.wrap ((r95.2.2.nodes.length : Int) - (1 : Int)))] : List Int) Try.underlying39 info3 rfl rfl rfl hF rfl rfl rfl rfl rfl rfl rfl rfl (L.nil ?_)
               exact A.on (hO _ _ _ n511) (Le.mk [(0, 0), (1, 1), (2, 2), (3, 4), (4, 3)] hm rfl (Sa8 trivial) (Ra2 (Ra1 trivial)) (Ba2 trivial))
              refine hI _ _ _ ?_
              refine Atk 0 rfl (Ca.fieldAddr Try.underlying45 rfl info39 rfl) (fun Q0 k0 => L.fieldAddr Try.underlying45 rfl info39 rfl hF rfl rfl rfl rfl rfl (L.nil k0)) ?_
              refine Atk 2 rfl (Ca.move) (fun Q0 k0 => L.move hF rfl rfl rfl (L.nil k0)) ?_
              refine Atk 3 rfl (Ca.nilCheck rfl rfl) (fun Q0 k0 => L.nilCheck hF rfl rfl rfl rfl (L.nil k0)) ?_
              refine Atk 4 rfl (Ca.fieldAddr Try.underlying87 rfl info22 rfl) (fun Q0 k0 => L.fieldAddr Try.underlying87 rfl info22 rfl hF rfl rfl rfl rfl rfl (L.nil k0)) ?_
              refine A.all [1, 5] (by kernel_rfl) rfl ⟨⟨_, rfl, ?_⟩, ⟨_, rfl, ?_⟩, trivial⟩
              ·refine L.loadPtr shape39 hF rfl rfl rfl rfl rfl rfl (L.nil ?_)
               refine A.all [5] (by kernel_rfl) rfl ⟨⟨_, rfl, ?_⟩, trivial⟩
               refine L.loadPtr shape22 hF rfl rfl rfl rfl rfl rfl (L.nil ?_)
               refine Atk 6 rfl (Ca.lenR (xs := r95.2.2.nodes) (e := eTimpl_Tlv) Try.underlying22 rfl rfl) (fun Q0 k0 => L.lenR (xs := r95.2.2.nodes) (e := eTimpl_Tlv) Try.underlying22 hF rfl rfl rfl rfl (L.nil k0)) ?_
               refine Atk 7 rfl (Ca.bin rfl rfl (calm_int _ _ _ _ _ _ _ _)) (fun Q0 k0 => L.bin hF rfl rfl rfl rfl rfl rfl (L.nil k0)) ?_
               exact A.on (hO _ _ _ n255) (Le.mk [(0, 0), (1, 1), (2, 3), (3, 7)] hm rfl (Sa8 trivial) (Ra2 trivial) (Ba2 trivial))
              ·refine L.loadPtr shape22 hF rfl rfl rfl rfl rfl rfl (L.nil ?_)
               refine Atk 6 rfl (Ca.lenR (xs := r95.2.2.nodes) (e := eTimpl_Tlv) Try.underlying22 rfl rfl) (fun Q0 k0 => L.lenR (xs := r95.2.2.nodes) (e := eTimpl_Tlv) Try.underlying22 hF rfl rfl rfl rfl (L.nil k0)) ?_
               refine Atk 7 rfl (Ca.bin rfl rfl (calm_int _ _ _ _ _ _ _ _)) (fun Q0 k0 => L.bin hF rfl rfl rfl rfl rfl rfl (L.nil k0)) ?_
               refine A.all [1, 8] (by kernel_rfl) rfl ⟨⟨_, rfl, ?_⟩, ⟨_, rfl, ?_⟩, trivial⟩
               ·refine L.loadPtr shape39 hF rfl rfl rfl rfl rfl rfl (L.nil ?_)
                exact A.on (hO _ _ _ n255) (Le.mk [(0, 0), (1, 1), (2, 3), (3, 7)] hm rfl (Sa8 trivial) (Ra2 trivial) (Ba2 trivial))
               ·refine L.buildSlice (e := eI) 9 ([(IntKind.i64.wrap ((r95.2.2.nodes.length : Int) - (1 : Int)))] : List Int) Try.underlying39 info3 rfl rfl rfl hF rfl rfl rfl rfl rfl rfl rfl rfl (L.nil ?_)
                refine A.all [1] (by kernel_rfl) rfl ⟨⟨_, rfl, ?_⟩, trivial⟩
                refine L.loadPtr shape39 hF rfl rfl rfl rfl rfl rfl (L.nil ?_)
                exact A.on (hO _ _ _ n511) (Le.mk [(0, 0), (1, 1), (2, 3), (3, 9), (4, 7)] hm rfl (Sa8 trivial) (Ra2 (Ra1 trivial)) (Ba2 trivial))
            ·replace H := condF hc H
             refine WpC.exit ?_
             exact ⟨_, ⟨k4, v85, v86, v88, v89, v90, v91, v92, v93, v94, by omega, H, rfl⟩, Le.mk [(0, 0), (1, 1), (2, 2), (3, 3)] hm rfl (Sa4 trivial) (Ra2 trivial) (Ba2 trivial)⟩
           ·replace H := condF hc H
            refine L.off hF rfl rfl ?_
            refine L.off hF rfl rfl ?_
            refine L.off hF rfl rfl ?_
            refine L.off hF rfl rfl ?_
            refine L.off hF rfl rfl ?_
            refine L.pick hF rfl rfl rfl rfl (L.nil ?_)
            refine WpC.cond rfl (fun hc => by cases hc) (fun _ => ?_)
            refine WpC.exit ?_
            exact ⟨_, ⟨k4, v85, v86, v88, v89, v90, v91, v92, v93, v94, by omega, H, rfl⟩, Le.mk [(0, 0), (1, 1), (2, 2), (3, 3)] hm rfl (Sa4 trivial) (Ra2 trivial) (Ba2 trivial)⟩
        ·refine WpC.seq (WpC.regionL ?_)
         refine L.fieldAddr Try.underlying45 rfl info4 rfl hF rfl rfl rfl rfl rfl ?_
         refine L.loadPtr shape4 hF rfl rfl rfl rfl rfl rfl (L.nil ?_)
         refine WpC.cond rfl (fun hc => ?_) (fun hc => ?_)
         ·replace H := condT hc H
          refine WpC.regionL ?_
          refine L.move hF rfl rfl rfl ?_
          refine L.nilCheck hF rfl rfl rfl rfl ?_
          refine L.fieldAddr Try.underlying87 rfl info9 rfl hF rfl rfl rfl rfl rfl ?_
          refine L.loadPtr shape9 hF rfl rfl rfl rfl rfl rfl ?_
          refine L.move hF rfl rfl rfl ?_
          refine L.move hF rfl rfl rfl ?_
          refine L.move hF rfl rfl rfl ?_
          refine L.bin hF rfl rfl rfl rfl rfl rfl ?_
          obtain ⟨b97, hb97, H⟩ := bindS H
          refine L.cutS Try.underlying9 hF rfl rfl rfl rfl rfl hb97 ?_
          refine L.fieldAddr Try.underlying45 rfl info9 rfl hF rfl rfl rfl rfl rfl ?_
          refine L.storePtr shape9 hF rfl rfl rfl rfl rfl rfl rfl (L.nil ?_)
          exact ⟨_, ⟨k, a3, r5.1, (IntKind.i64.wrap ((IntKind.i64.wrap (a1 + (1 : Int))) + r5.2)), o0, (IntKind.i64.wrap (o0.begun + (1 : Int))), (Int.tmod (b1.toNat : Int) (128 : Int)), (decide ((b1.toNat : Int) < (128 : Int))), b97, by omega, H, rfl⟩, Le.mk [(0, 0), (1, 8), (2, 6)] hm rfl (Sa4 (Sa1 trivial)) (Ra1 trivial) (Ba2 trivial)⟩
         ·replace H := condF hc H
          refine WpC.skip ?_
          exact ⟨_, ⟨k, a3, r5.1, (IntKind.i64.wrap ((IntKind.i64.wrap (a1 + (1 : Int))) + r5.2)), o0, (IntKind.i64.wrap (o0.begun + (1 : Int))), (Int.tmod (b1.toNat : Int) (128 : Int)), (decide ((b1.toNat : Int) < (128 : Int))), ([] : List UInt8), by omega, H, rfl⟩, Le.mk [(0, 0), (1, 8), (2, 6)] hm rfl (Sa4 (Sa1 trivial)) (Ra1 trivial) (Ba2 trivial)⟩
/-! ### Fimpl_ReadTlv -/
def Fimpl_ReadTlv (k : Nat) (a0 : List UInt8) : Option (List Timpl_Tlv × Int) := cond (decide ((a0.length : Int) > (900 : Int))) (some ([], (4 : Int))) ((Fimpl_tlvReader_node k (0 : Int) (a0.length : Int) (0 : Int) (⟨a0, [], (0 : Int)⟩ : Timpl_tlvReader)).bind fun r1 => cond (r1.2.1 != (0 : Int)) (some ([], r1.2.1)) (cond (decide (r1.1 < (a0.length : Int))) (some ([], (5 : Int))) (some (r1.2.2.nodes, (0 : Int)))))
theorem ent12 : MG.Enters Try.prog 12 := ⟨Try.f12, Try.func12, rfl, by decide⟩
set_option maxHeartbeats 8000000 in
set_option maxRecDepth 100000 in
theorem Fimpl_ReadTlv_gives (k : Nat) (a0 : List UInt8) (r : List Timpl_Tlv × Int) (H : Fimpl_ReadTlv k a0 = some r) : Gives Try.prog 12 [V.one (cS a0)] [] [V.one (Cell.ow 4 (List.map eTimpl_Tlv r.1)), V.one (cI r.2)] [] := by
 refine Gives.intro Try.func12 rfl rfl rfl rfl ?_
 intro F hF hm
 unfold Fimpl_ReadTlv at H
 obtain ⟨K, hK⟩ : ∃ K, k ≤ K := ⟨k, Nat.le_refl k⟩
 refine WpC.seq (WpC.regionL ?_)
 refine L.assign hF rfl rfl rfl ?_
 refine L.assign hF rfl rfl rfl (L.nil ?_)
 refine WpC.seq (WpC.seq (WpC.regionL ?_))
 refine L.move hF rfl rfl rfl ?_
 refine L.lenS Try.underlying9 hF rfl rfl rfl ?_
 refine L.bin hF rfl rfl rfl rfl rfl rfl (L.nil ?_)
 refine WpC.cond rfl (fun hc => ?_) (fun hc => ?_)
 ·replace H := condT hc H
  refine WpC.seq (WpC.regionL ?_)
  refine L.assign hF rfl rfl rfl ?_
  refine L.assign hF rfl rfl rfl (L.nil ?_)
  refine WpC.le (Le.own 2 0 1 4 rfl rfl rfl) ?_
  refine WpC.ret ?_
  cases H
  exact Leaves.ret rfl rfl rfl ⟨rfl, rfl⟩
 ·replace H := condF hc H
  refine WpC.skip (WpC.seq (WpC.regionL ?_))
  refine L.move hF rfl rfl rfl ?_
  refine L.buildF built87 hF rfl rfl rfl rfl ?_
  refine L.box 1 hF rfl rfl rfl rfl ?_
  refine L.assign hF rfl rfl rfl (L.nil ?_)
  refine WpC.seq (WpC.regionL ?_)
  refine L.move hF rfl rfl rfl ?_
  refine L.move hF rfl rfl rfl ?_
  refine L.lenS Try.underlying9 hF rfl rfl rfl ?_
  refine L.le (Le.ownB 1 1 2 4 rfl rfl rfl) ?_
  obtain ⟨r1, hr1, H⟩ := bindS H
  refine L.call [false, false, false, false] [] [1] 3 hF rfl rfl rfl ent52 rfl rfl rfl rfl rfl (Fimpl_tlvReader_node_gives k  (0 : Int) (a0.length : Int) (0 : Int) (⟨a0, [], (0 : Int)⟩ : Timpl_tlvReader) r1 hr1) rfl ?_
  refine L.move hF rfl rfl rfl ?_
  refine L.extract hF rfl rfl rfl rfl ?_
  refine L.extract hF rfl rfl rfl rfl ?_
  refine L.assign hF rfl rfl rfl ?_
  refine L.assign hF rfl rfl rfl (L.nil ?_)
  refine WpC.seq (WpC.block (WpC.seq (WpC.regionL ?_)))
  refine L.move hF rfl rfl rfl ?_
  refine L.bin hF rfl rfl rfl rfl rfl rfl ?_
  refine L.assign hF rfl rfl rfl (L.nil ?_)
  refine WpC.cond rfl (fun hc => ?_) (fun hc => ?_)
  ·replace H := condT hc H
   refine WpC.seq (WpC.regionL ?_)
   refine L.move hF rfl rfl rfl ?_
   refine L.assign hF rfl rfl rfl ?_
   refine L.assign hF rfl rfl rfl (L.nil ?_)
   refine WpC.le (Le.own 2 0 8 4 rfl rfl rfl) ?_
   refine WpC.ret ?_
   cases H
   exact Leaves.ret rfl rfl rfl ⟨rfl, rfl⟩
  ·replace H := condF hc H
   refine WpC.seq (WpC.regionL ?_)
   refine L.move hF rfl rfl rfl ?_
   refine L.move hF rfl rfl rfl ?_
   refine L.lenS Try.underlying9 hF rfl rfl rfl ?_
   refine L.bin hF rfl rfl rfl rfl rfl rfl ?_
   refine L.assign hF rfl rfl rfl (L.nil ?_)
   refine WpC.cond rfl (fun hc => ?_) (fun hc => ?_)
   ·replace H := condT hc H
    refine WpC.seq (WpC.regionL ?_)
    refine L.assign hF rfl rfl rfl ?_
    refine L.assign hF rfl rfl rfl (L.nil ?_)
    refine WpC.le (Le.own 2 0 8 4 rfl rfl rfl) ?_
    refine WpC.ret ?_
    cases H
    exact Leaves.ret rfl rfl rfl ⟨rfl, rfl⟩
   ·replace H := condF hc H
    refine WpC.skip (WpC.seq (WpC.regionL ?_))
    refine L.move hF rfl rfl rfl ?_
    refine L.nilCheck hF rfl rfl rfl rfl ?_
    refine L.fieldAddr Try.underlying87 rfl info22 rfl hF rfl rfl rfl rfl rfl ?_
    refine L.loadPtr shape22 hF rfl rfl rfl rfl rfl rfl ?_
    refine L.assign hF rfl rfl rfl ?_
    refine L.assign hF rfl rfl rfl (L.nil ?_)
    refine WpC.ret ?_
    cases H
    exact Leaves.ret rfl rfl rfl ⟨rfl, rfl⟩
/-! ### Flaws_eqIntS -/
def Flaws_eqIntS.l2 : Nat → (List Int) → (List Int) → Int → Option Bool
 | 0, _, _, _ => none
 | k2 + 1, v34, v35, v36 => cond (decide (v36 < (v34.length : Int))) ((at? v34 v36).bind fun b39 => (at? v35 v36).bind fun b40 => cond (b39 != b40) (some false) ((Flaws_eqIntS.l2 k2) v34 v35 (IntKind.i64.wrap (v36 + (1 : Int))))) (some true)
def Flaws_eqIntS (k : Nat) (a0 : List Int) (a1 : List Int) : Option Bool := cond ((a0.length : Int) != (a1.length : Int)) (some false) (Flaws_eqIntS.l2 k a0 a1 (0 : Int))
theorem ent103 : MG.Enters Try.prog 103 := ⟨Try.f103, Try.func103, rfl, by decide⟩
set_option maxHeartbeats 8000000 in
set_option maxRecDepth 100000 in
theorem Flaws_eqIntS_gives (k : Nat) (g0 : Bool) (g1 : Bool) (a0 : List Int) (a1 : List Int) (r : Bool) (H : Flaws_eqIntS k a0 a1 = some r) : Gives Try.prog 103 [V.one (Cell.sl g0 (List.map eI a0)), V.one (Cell.sl g1 (List.map eI a1))] [] [V.one (cL r)] [] := by
 refine Gives.intro Try.func103 rfl rfl rfl rfl ?_
 intro F hF hm
 unfold Flaws_eqIntS at H
 obtain ⟨K, hK⟩ : ∃ K, k ≤ K := ⟨k, Nat.le_refl k⟩
 refine WpC.seq (WpC.regionL ?_)
 refine L.assign hF rfl rfl rfl (L.nil ?_)
 refine WpC.seq (WpC.seq (WpC.regionL ?_))
 refine L.move hF rfl rfl rfl ?_
 refine L.lenR (xs := a0) (e := eI) Try.underlying39 hF rfl rfl rfl rfl ?_
 refine L.move hF rfl rfl rfl ?_
 refine L.lenR (xs := a1) (e := eI) Try.underlying39 hF rfl rfl rfl rfl ?_
 refine L.bin hF rfl rfl rfl rfl rfl rfl (L.nil ?_)
 refine WpC.cond rfl (fun hc => ?_) (fun hc => ?_)
 ·replace H := condT hc H
  refine WpC.seq (WpC.regionL ?_)
  refine L.assign hF rfl rfl rfl (L.nil ?_)
  refine WpC.ret ?_
  cases H
  exact Leaves.ret rfl rfl rfl ⟨rfl, rfl⟩
 ·replace H := condF hc H
  refine WpC.skip (WpC.seq (WpC.seq (WpC.regionL ?_)))
  refine L.assign hF rfl rfl rfl (L.nil ?_)
  refine WpC.block ?_
  refine WpC.loopL (P := Try.prog) (fun n σ => ∃ v34 : List Int, ∃ v35 : List Int, ∃ v36 : Int, n ≤ K ∧ Flaws_eqIntS.l2 n v34 v35 v36 = some r ∧ σ = mkSt [(0, one (Cell.sl g0 (List.map eI v34))), (1, one (Cell.sl g1 (List.map eI v35))), (5, one (cI v36))] [] [] 0) k ⟨_, ⟨a0, a1, (0 : Int), by omega, H, rfl⟩, Le.mk [] hm rfl (Sa2 (Sa1 trivial)) trivial trivial⟩ ?_
  clear H
  rintro k2 _ ⟨v34, v35, v36, hk2, H, rfl⟩
  cases k2 with
  | zero => cases H
  | succ k2 =>
   rw [Flaws_eqIntS.l2] at H
   refine WpC.seq (WpC.seq (WpC.regionL ?_))
   refine L.move hF rfl rfl rfl ?_
   refine L.move hF rfl rfl rfl ?_
   refine L.lenR (xs := v34) (e := eI) Try.underlying39 hF rfl rfl rfl rfl ?_
   refine L.bin hF rfl rfl rfl rfl rfl rfl (L.nil ?_)
   refine WpC.cond rfl (fun hc => ?_) (fun hc => ?_)
   ·replace H := condT hc H
    refine WpC.skip (WpC.seq (WpC.block (WpC.seq ?_)))
    refine S.begin mixed (by kernel_rfl) ?_
    refine S.st 0 rfl rfl ((Ca.move).quiet) (fun Q0 k0 => L.move hF rfl rfl rfl (L.nil k0)) ?_
    refine S.st 1 rfl rfl ((Ca.move).quiet) (fun Q0 k0 => L.move hF rfl rfl rfl (L.nil k0)) ?_
    obtain ⟨b39, hb39, H⟩ := bindS H
    refine S.st 2 rfl rfl ((Ca.indexAddr).quiet) (fun Q0 k0 => L.idxR (xs := v34) (e := eI) Try.underlying39 info3 hF rfl rfl rfl rfl rfl hb39 rfl rfl (L.nil k0)) ?_
    refine S.st 3 rfl rfl (Qu.load) (fun Q0 k0 => L.loadPe shape3 hF rfl rfl rfl rfl rfl (L.nil k0)) ?_
    refine S.st 4 rfl rfl ((Ca.move).quiet) (fun Q0 k0 => L.move hF rfl rfl rfl (L.nil k0)) ?_
    refine S.st 5 rfl rfl ((Ca.move).quiet) (fun Q0 k0 => L.move hF rfl rfl rfl (L.nil k0)) ?_
    obtain ⟨b40, hb40, H⟩ := bindS H
    refine S.st 6 rfl rfl ((Ca.indexAddr).quiet) (fun Q0 k0 => L.idxR (xs := v35) (e := eI) Try.underlying39 info3 hF rfl rfl rfl rfl rfl hb40 rfl rfl (L.nil k0)) ?_
    refine S.st 7 rfl rfl (Qu.load) (fun Q0 k0 => L.loadPe shape3 hF rfl rfl rfl rfl rfl (L.nil k0)) ?_
    refine S.st 8 rfl rfl ((Ca.bin rfl rfl (calm_int _ _ _ _ _ _ _ _)).quiet) (fun Q0 k0 => L.bin hF rfl rfl rfl rfl rfl rfl (L.nil k0)) ?_
    refine S.nil ?_
    refine WpC.cond rfl (fun hc => ?_) (fun hc => ?_)
    ·replace H := condT hc H
     refine WpC.seq (WpC.regionL ?_)
     refine L.assign hF rfl rfl rfl (L.nil ?_)
     refine WpC.ret ?_
     cases H
     exact Leaves.ret rfl rfl rfl ⟨rfl, rfl⟩
    ·replace H := condF hc H
     refine WpC.skip (WpC.regionL ?_)
     refine L.move hF rfl rfl rfl ?_
     refine L.bin hF rfl rfl rfl rfl rfl rfl ?_
     refine L.assign hF rfl rfl rfl (L.nil ?_)
     exact ⟨k2, _, by omega, ⟨v34, v35, (IntKind.i64.wrap (v36 + (1 : Int))), by omega, H, rfl⟩, Le.mk [] hm rfl (Sa2 (Sa1 trivial)) trivial trivial⟩
   ·replace H := condF hc H
    refine WpC.exit (WpC.seq (WpC.regionL ?_))
    refine L.assign hF rfl rfl rfl (L.nil ?_)
    refine WpC.ret ?_
    cases H
    exact Leaves.ret rfl rfl rfl ⟨rfl, rfl⟩
/-! ### Flaws_eqTlv -/
def Flaws_eqTlv (k : Nat) (a0 : Timpl_Tlv) (a1 : Timpl_Tlv) : Option Bool := cond (a0.Tag != a1.Tag) (some false) (cond (a0.Leaf != a1.Leaf) (some false) (cond (a0.Data != a1.Data) (some false) ((Flaws_eqIntS k a0.Kids a1.Kids).bind fun r2 => cond (!r2) (some false) (some true))))
theorem ent53 : MG.Enters Try.prog 53 := ⟨Try.f53, Try.func53, rfl, by decide⟩
set_option maxHeartbeats 8000000 in
set_option maxRecDepth 100000 in
theorem Flaws_eqTlv_gives (k : Nat) (g0 : Bool) (g1 : Bool) (a0 : Timpl_Tlv) (a1 : Timpl_Tlv) (r : Bool) (H : Flaws_eqTlv k a0 a1 = some r) : Gives Try.prog 53 [V.agg [cI a0.Tag, cL a0.Leaf, cS a0.Data, Cell.sl g0 (List.map eI a0.Kids)], V.agg [cI a1.Tag, cL a1.Leaf, cS a1.Data, Cell.sl g1 (List.map eI a1.Kids)]] [] [V.one (cL r)] [] := by
 refine Gives.intro Try.func53 rfl rfl rfl rfl ?_
 intro F hF hm
 unfold Flaws_eqTlv at H
 obtain ⟨K, hK⟩ : ∃ K, k ≤ K := ⟨k, Nat.le_refl k⟩
 refine WpC.seq (WpC.regionL ?_)
 refine L.box 8 hF rfl rfl rfl rfl ?_
 refine L.box 9 hF rfl rfl rfl rfl ?_
 refine L.assign hF rfl rfl rfl (L.nil ?_)
 refine WpC.seq (WpC.seq (WpC.regionL ?_))
 refine L.fieldAddr Try.underlying45 rfl info3 rfl hF rfl rfl rfl rfl rfl ?_
 refine L.loadPtr shape3 hF rfl rfl rfl rfl rfl rfl ?_
 refine L.fieldAddr Try.underlying45 rfl info3 rfl hF rfl rfl rfl rfl rfl ?_
 refine L.loadPtr shape3 hF rfl rfl rfl rfl rfl rfl ?_
 refine L.bin hF rfl rfl rfl rfl rfl rfl (L.nil ?_)
 refine WpC.cond rfl (fun hc => ?_) (fun hc => ?_)
 ·replace H := condT hc H
  refine WpC.seq (WpC.regionL ?_)
  refine L.assign hF rfl rfl rfl (L.nil ?_)
  refine WpC.ret ?_
  cases H
  exact Leaves.ret rfl rfl rfl ⟨rfl, rfl⟩
 ·replace H := condF hc H
  refine WpC.skip (WpC.seq (WpC.seq (WpC.regionL ?_)))
  refine L.fieldAddr Try.underlying45 rfl info4 rfl hF rfl rfl rfl rfl rfl ?_
  refine L.loadPtr shape4 hF rfl rfl rfl rfl rfl rfl ?_
  refine L.fieldAddr Try.underlying45 rfl info4 rfl hF rfl rfl rfl rfl rfl ?_
  refine L.loadPtr shape4 hF rfl rfl rfl rfl rfl rfl ?_
  refine L.neL Try.underlying4 hF rfl rfl rfl rfl (L.nil ?_)
  refine WpC.cond rfl (fun hc => ?_) (fun hc => ?_)
  ·replace H := condT hc H
   refine WpC.seq (WpC.regionL ?_)
   refine L.assign hF rfl rfl rfl (L.nil ?_)
   refine WpC.ret ?_
   cases H
   exact Leaves.ret rfl rfl rfl ⟨rfl, rfl⟩
  ·replace H := condF hc H
   refine WpC.skip (WpC.seq (WpC.seq (WpC.regionL ?_)))
   refine L.fieldAddr Try.underlying45 rfl info9 rfl hF rfl rfl rfl rfl rfl ?_
   refine L.loadPtr shape9 hF rfl rfl rfl rfl rfl rfl ?_
   refine L.fieldAddr Try.underlying45 rfl info9 rfl hF rfl rfl rfl rfl rfl ?_
   refine L.loadPtr shape9 hF rfl rfl rfl rfl rfl rfl ?_
   refine L.binS hF rfl rfl rfl rfl rfl (L.nil ?_)
   refine WpC.cond rfl (fun hc => ?_) (fun hc => ?_)
   ·replace H := condT hc H
    refine WpC.seq (WpC.regionL ?_)
    refine L.assign hF rfl rfl rfl (L.nil ?_)
    refine WpC.ret ?_
    cases H
    exact Leaves.ret rfl rfl rfl ⟨rfl, rfl⟩
   ·replace H := condF hc H
    refine WpC.skip (WpC.seq (WpC.seq (WpC.regionL ?_)))
    refine L.fieldAddr Try.underlying45 rfl info39 rfl hF rfl rfl rfl rfl rfl ?_
    refine L.loadPtr shape39 hF rfl rfl rfl rfl rfl rfl ?_
    refine L.fieldAddr Try.underlying45 rfl info39 rfl hF rfl rfl rfl rfl rfl ?_
    refine L.loadPtr shape39 hF rfl rfl rfl rfl rfl rfl ?_
    obtain ⟨r2, hr2, H⟩ := bindS H
    refine L.call [false, false] [] [] 10 hF rfl rfl rfl ent103 rfl rfl rfl rfl rfl (Flaws_eqIntS_gives k g0 g1 a0.Kids a1.Kids r2 hr2) rfl ?_
    refine L.not hF rfl rfl rfl (L.nil ?_)
    refine WpC.cond rfl (fun hc => ?_) (fun hc => ?_)
    ·replace H := condT hc H
     refine WpC.seq (WpC.regionL ?_)
     refine L.assign hF rfl rfl rfl (L.nil ?_)
     refine WpC.ret ?_
     cases H
     exact Leaves.ret rfl rfl rfl ⟨rfl, rfl⟩
    ·replace H := condF hc H
     refine WpC.skip (WpC.seq (WpC.regionL ?_))
     refine L.assign hF rfl rfl rfl (L.nil ?_)
     refine WpC.ret ?_
     cases H
     exact Leaves.ret rfl rfl rfl ⟨rfl, rfl⟩
/-! ### Flaws_eqTlvS -/
def Flaws_eqTlvS.l2 : Nat → (List Timpl_Tlv) → (List Timpl_Tlv) → Int → Option Bool
 | 0, _, _, _ => none
 | k2 + 1, v44, v45, v46 => cond (decide (v46 < (v44.length : Int))) ((at? v44 v46).bind fun b50 => (at? v45 v46).bind fun b51 => (Flaws_eqTlv k2 b50 b51).bind fun r52 => cond (!r52) (some false) ((Flaws_eqTlvS.l2 k2) v44 v45 (IntKind.i64.wrap (v46 + (1 : Int))))) (some true)
def Flaws_eqTlvS (k : Nat) (a0 : List Timpl_Tlv) (a1 : List Timpl_Tlv) : Option Bool := cond ((a0.length : Int) != (a1.length : Int)) (some false) (Flaws_eqTlvS.l2 k a0 a1 (0 : Int))
theorem ent13 : MG.Enters Try.prog 13 := ⟨Try.f13, Try.func13, rfl, by decide⟩
set_option maxHeartbeats 8000000 in
set_option maxRecDepth 100000 in
theorem Flaws_eqTlvS_gives (k : Nat) (g0 : Bool) (g1 : Bool) (a0 : List Timpl_Tlv) (a1 : List Timpl_Tlv) (r : Bool) (H : Flaws_eqTlvS k a0 a1 = some r) : Gives Try.prog 13 [V.one (Cell.sl g0 (List.map eTimpl_Tlv a0)), V.one (Cell.sl g1 (List.map eTimpl_Tlv a1))] [] [V.one (cL r)] [] := by
 refine Gives.intro Try.func13 rfl rfl rfl rfl ?_
 intro F hF hm
 unfold Flaws_eqTlvS at H
 obtain ⟨K, hK⟩ : ∃ K, k ≤ K := ⟨k, Nat.le_refl k⟩
 refine WpC.seq (WpC.regionL ?_)
 refine L.assign hF rfl rfl rfl (L.nil ?_)
 refine WpC.seq (WpC.seq (WpC.regionL ?_))
 refine L.move hF rfl rfl rfl ?_
 refine L.lenR (xs := a0) (e := eTimpl_Tlv) Try.underlying22 hF rfl rfl rfl rfl ?_
 refine L.move hF rfl rfl rfl ?_
 refine L.lenR (xs := a1) (e := eTimpl_Tlv) Try.underlying22 hF rfl rfl rfl rfl ?_
 refine L.bin hF rfl rfl rfl rfl rfl rfl (L.nil ?_)
 refine WpC.cond rfl (fun hc => ?_) (fun hc => ?_)
 ·replace H := condT hc H
  refine WpC.seq (WpC.regionL ?_)
  refine L.assign hF rfl rfl rfl (L.nil ?_)
  refine WpC.ret ?_
  cases H
  exact Leaves.ret rfl rfl rfl ⟨rfl, rfl⟩
 ·replace H := condF hc H
  refine WpC.skip (WpC.seq (WpC.seq (WpC.regionL ?_)))
  refine L.assign hF rfl rfl rfl (L.nil ?_)
  refine WpC.block ?_
  refine WpC.loopL (P := Try.prog) (fun n σ => ∃ v44 : List Timpl_Tlv, ∃ v45 : List Timpl_Tlv, ∃ v46 : Int, n ≤ K ∧ Flaws_eqTlvS.l2 n v44 v45 v46 = some r ∧ σ = mkSt [(0, one (Cell.sl g0 (List.map eTimpl_Tlv v44))), (1, one (Cell.sl g1 (List.map eTimpl_Tlv v45))), (5, one (cI v46))] [] [] 0) k ⟨_, ⟨a0, a1, (0 : Int), by omega, H, rfl⟩, Le.mk [] hm rfl (Sa2 (Sa1 trivial)) trivial trivial⟩ ?_
  clear H
  rintro k2 _ ⟨v44, v45, v46, hk2, H, rfl⟩
  cases k2 with
  | zero => cases H
  | succ k2 =>
   rw [Flaws_eqTlvS.l2] at H
   refine WpC.seq (WpC.seq (WpC.regionL ?_))
   refine L.move hF rfl rfl rfl ?_
   refine L.move hF rfl rfl rfl ?_
   refine L.lenR (xs := v44) (e := eTimpl_Tlv) Try.underlying22 hF rfl rfl rfl rfl ?_
   refine L.bin hF rfl rfl rfl rfl rfl rfl (L.nil ?_)
   refine WpC.cond rfl (fun hc => ?_) (fun hc => ?_)
   ·replace H := condT hc H
    refine WpC.skip (WpC.seq (WpC.block (WpC.seq ?_)))
    obtain ⟨b50, hb50, H⟩ := bindS H
    obtain ⟨b51, hb51, H⟩ := bindS H
    obtain ⟨r52, hr52, H⟩ := bindS H
    refine A.begin mixed rfl rfl ?_
    intro W hI hO
    have n255 : W 2 #[true, true, true, true, true, true, true, true, false, false] (mkSt [(0, one (Cell.sl g0 (List.map eTimpl_Tlv v44))), (1, one (Cell.sl g1 (List.map eTimpl_Tlv v45))), (5, one (cI v46)), (20, agg (bTimpl_Tlv g0 b50)), (24, agg (bTimpl_Tlv g1 b51))] [] [] 0) := by
     refine hI _ _ _ ?_
     refine A.all [8] (by kernel_rfl) rfl ⟨⟨_, rfl, ?_⟩, trivial⟩
     refine L.call [false, false] [] [] 0 hF rfl rfl rfl ent53 rfl rfl rfl rfl rfl (Flaws_eqTlv_gives k2 g0 g1 b50 b51 r52 hr52) rfl (L.nil ?_)
     refine Atk 9 rfl (Ca.un rfl rfl) (fun Q0 k0 => L.not hF rfl rfl rfl (L.nil k0)) ?_
     refine A.le (τ := mkSt [(0, one (Cell.sl g0 (List.map eTimpl_Tlv v44))), (1, one (Cell.sl g1 (List.map eTimpl_Tlv v45))), (5, one (cI v46)), (26, one (cL (!r52)))] [] [] 0) (Le.mk [] hm rfl (Sa4 trivial) trivial trivial) ?_
     refine A.done (by kernel_rfl) ?_
     refine WpC.cond rfl (fun hc => ?_) (fun hc => ?_)
     ·replace H := condT hc H
      refine WpC.seq (WpC.regionL ?_)
      refine L.assign hF rfl rfl rfl (L.nil ?_)
      refine WpC.ret ?_
      cases H
      exact Leaves.ret rfl rfl rfl ⟨rfl, rfl⟩
     ·replace H := condF hc H
      refine WpC.skip (WpC.regionL ?_)
      refine L.move hF rfl rfl rfl ?_
      refine L.bin hF rfl rfl rfl rfl rfl rfl ?_
      refine L.assign hF rfl rfl rfl (L.nil ?_)
      exact ⟨k2, _, by omega, ⟨v44, v45, (IntKind.i64.wrap (v46 + (1 : Int))), by omega, H, rfl⟩, Le.mk [] hm rfl (Sa2 (Sa1 trivial)) trivial trivial⟩
    refine hI _ _ _ ?_
    refine Atk 0 rfl (Ca.move) (fun Q0 k0 => L.move hF rfl rfl rfl (L.nil k0)) ?_
    refine Atk 1 rfl (Ca.move) (fun Q0 k0 => L.move hF rfl rfl rfl (L.nil k0)) ?_
    refine Atk 2 rfl (Ca.indexAddr) (fun Q0 k0 => L.idxR (xs := v44) (e := eTimpl_Tlv) Try.underlying22 info45 hF rfl rfl rfl rfl rfl hb50 rfl rfl (L.nil k0)) ?_
    refine Atk 4 rfl (Ca.move) (fun Q0 k0 => L.move hF rfl rfl rfl (L.nil k0)) ?_
    refine Atk 5 rfl (Ca.move) (fun Q0 k0 => L.move hF rfl rfl rfl (L.nil k0)) ?_
    refine Atk 6 rfl (Ca.indexAddr) (fun Q0 k0 => L.idxR (xs := v45) (e := eTimpl_Tlv) Try.underlying22 info45 hF rfl rfl rfl rfl rfl hb51 rfl rfl (L.nil k0)) ?_
    refine A.all [3, 7] (by kernel_rfl) rfl ⟨⟨_, rfl, ?_⟩, ⟨_, rfl, ?_⟩, trivial⟩
    ·refine L.loadPe shape45 hF rfl rfl rfl rfl rfl (L.nil ?_)
     refine A.all [7] (by kernel_rfl) rfl ⟨⟨_, rfl, ?_⟩, trivial⟩
     refine L.loadPe shape45 hF rfl rfl rfl rfl rfl (L.nil ?_)
     exact A.on (hO _ _ _ n255) (Le.mk [] hm rfl (Sa4 (Sa1 trivial)) trivial trivial)
    ·refine L.loadPe shape45 hF rfl rfl rfl rfl rfl (L.nil ?_)
     refine A.all [3] (by kernel_rfl) rfl ⟨⟨_, rfl, ?_⟩, trivial⟩
     refine L.loadPe shape45 hF rfl rfl rfl rfl rfl (L.nil ?_)
     exact A.on (hO _ _ _ n255) (Le.mk [] hm rfl (Sa4 (Sa1 trivial)) trivial trivial)
   ·replace H := condF hc H
    refine WpC.exit (WpC.seq (WpC.regionL ?_))
    refine L.assign hF rfl rfl rfl (L.nil ?_)
    refine WpC.ret ?_
    cases H
    exact Leaves.ret rfl rfl rfl ⟨rfl, rfl⟩
/-! ### Flaws_markText -/
def Flaws_markText.l2 : Nat → Int → (List UInt8) → Option (List UInt8)
 | 0, _, _ => none
 | k2 + 1, v14, v15 => cond (decide (v14 > (0 : Int))) (cond (decide (([(ofI (IntKind.i64.wrap ((48 : Int) + (Int.tmod v14 (10 : Int)))))] : List UInt8).length + v15.length ≤ 9223372036854775807)) ((Flaws_markText.l2 k2) (IntKind.i64.wrap (Int.tdiv v14 (10 : Int))) (([(ofI (IntKind.i64.wrap ((48 : Int) + (Int.tmod v14 (10 : Int)))))] : List UInt8) ++ v15)) none) (cond (decide (([109] : List UInt8).length + v15.length ≤ 9223372036854775807)) (some (([109] : List UInt8) ++ v15)) none)
def Flaws_markText (k : Nat) (a0 : Int) : Option (List UInt8) := cond (decide (a0 ≤ (0 : Int))) (some ([109, 48] : List UInt8)) (Flaws_markText.l2 k a0 ([] : List UInt8))
theorem ent54 : MG.Enters Try.prog 54 := ⟨Try.f54, Try.func54, rfl, by decide⟩
set_option maxHeartbeats 8000000 in
set_option maxRecDepth 100000 in
theorem Flaws_markText_gives (k : Nat) (a0 : Int) (r : List UInt8) (H : Flaws_markText k a0 = some r) : Gives Try.prog 54 [V.one (cI a0)] [] [V.one (cS r)] [] := by
 refine Gives.intro Try.func54 rfl rfl rfl rfl ?_
 intro F hF hm
 unfold Flaws_markText at H
 obtain ⟨K, hK⟩ : ∃ K, k ≤ K := ⟨k, Nat.le_refl k⟩
 refine WpC.seq (WpC.regionL ?_)
 refine L.assign hF rfl rfl rfl (L.nil ?_)
 refine WpC.seq (WpC.seq (WpC.regionL ?_))
 refine L.move hF rfl rfl rfl ?_
 refine L.bin hF rfl rfl rfl rfl rfl rfl (L.nil ?_)
 refine WpC.cond rfl (fun hc => ?_) (fun hc => ?_)
 ·replace H := condT hc H
  refine WpC.seq (WpC.regionL ?_)
  refine L.assign hF rfl rfl rfl (L.nil ?_)
  refine WpC.ret ?_
  cases H
  exact Leaves.ret rfl rfl rfl ⟨rfl, rfl⟩
 ·replace H := condF hc H
  refine WpC.skip (WpC.seq (WpC.regionL ?_))
  refine L.assign hF rfl rfl rfl (L.nil ?_)
  refine WpC.seq (WpC.block ?_)
  refine WpC.loopL (P := Try.prog) (fun n σ => ∃ v14 : Int, ∃ v15 : List UInt8, n ≤ K ∧ Flaws_markText.l2 n v14 v15 = some r ∧ σ = mkSt [(0, one (cI v14)), (3, one (cS v15))] [] [] 0) k ⟨_, ⟨a0, ([] : List UInt8), by omega, H, rfl⟩, Le.mk [] hm rfl (Sa2 trivial) trivial trivial⟩ ?_
  clear H
  rintro k2 _ ⟨v14, v15, hk2, H, rfl⟩
  cases k2 with
  | zero => cases H
  | succ k2 =>
   rw [Flaws_markText.l2] at H
   refine WpC.seq (WpC.seq (WpC.regionL ?_))
   refine L.move hF rfl rfl rfl ?_
   refine L.bin hF rfl rfl rfl rfl rfl rfl (L.nil ?_)
   refine WpC.cond rfl (fun hc => ?_) (fun hc => ?_)
   ·replace H := condT hc H
    refine WpC.skip (WpC.block (WpC.seq (WpC.regionL ?_)))
    refine L.move hF rfl rfl rfl ?_
    refine L.rem hF rfl rfl rfl rfl (by decide) ?_
    refine L.bin hF rfl rfl rfl rfl rfl rfl ?_
    refine L.toB Try.underlying3 Try.underlying5 hF rfl rfl rfl ?_
    refine L.buildSlice (e := eB) 0 ([(ofI (IntKind.i64.wrap ((48 : Int) + (Int.tmod v14 (10 : Int)))))] : List UInt8) Try.underlying33 info5 rfl rfl rfl hF rfl rfl rfl rfl rfl rfl rfl rfl ?_
    refine L.b2s (xs := ([(ofI (IntKind.i64.wrap ((48 : Int) + (Int.tmod v14 (10 : Int)))))] : List UInt8)) Try.underlying33 Try.underlying5 Try.underlying9 hF rfl rfl rfl rfl ?_
    refine L.move hF rfl rfl rfl ?_
    obtain ⟨h16, H⟩ := condG H
    refine L.catS hF rfl rfl rfl rfl (of_decide_eq_true h16) ?_
    refine L.assign hF rfl rfl rfl (L.nil ?_)
    refine WpC.regionL ?_
    refine L.move hF rfl rfl rfl ?_
    refine L.quo hF rfl rfl rfl rfl (by decide) ?_
    refine L.assign hF rfl rfl rfl (L.nil ?_)
    exact ⟨k2, _, by omega, ⟨(IntKind.i64.wrap (Int.tdiv v14 (10 : Int))), (([(ofI (IntKind.i64.wrap ((48 : Int) + (Int.tmod v14 (10 : Int)))))] : List UInt8) ++ v15), by omega, H, rfl⟩, Le.mk [] hm rfl (Sa2 trivial) trivial trivial⟩
   ·replace H := condF hc H
    refine WpC.exit (WpC.seq (WpC.regionL ?_))
    refine L.move hF rfl rfl rfl ?_
    obtain ⟨h17, H⟩ := condG H
    refine L.catS hF rfl rfl rfl rfl (of_decide_eq_true h17) ?_
    refine L.assign hF rfl rfl rfl (L.nil ?_)
    refine WpC.ret ?_
    cases H
    exact Leaves.ret rfl rfl rfl ⟨rfl, rfl⟩
/-! ### Flaws_markIntS -/
def Flaws_markIntS.l2 : Nat → (List Int) → Int → Int → Option (Int × List Int)
 | 0, _, _, _ => none
 | k2 + 1, v24, v25, v26 => cond (decide (v26 < (v24.length : Int))) ((at? v24 v26).bind fun b28 => (Flaws_markIntS.l2 k2) (v24.set v26.toNat v25) (IntKind.i64.wrap (v25 + (1 : Int))) (IntKind.i64.wrap (v26 + (1 : Int)))) (some (v25, v24))
def Flaws_markIntS (k : Nat) (a0 : List Int) (a1 : Int) : Option (Int × List Int) := Flaws_markIntS.l2 k a0 a1 (0 : Int)
theorem ent55 : MG.Enters Try.prog 55 := ⟨Try.f55, Try.func55, rfl, by decide⟩
set_option maxHeartbeats 8000000 in
set_option maxRecDepth 100000 in
theorem Flaws_markIntS_gives (k : Nat) (a0 : List Int) (a1 : Int) (r : Int × List Int) (H : Flaws_markIntS k a0 a1 = some r) : GivesB Try.prog 55 [V.one (Cell.ow 1 (List.map eI a0)), V.one (cI a1)] [] [0] [V.one (cI r.1)] [] [V.one (Cell.ow 1 (List.map eI r.2))] := by
 refine GivesB.intro Try.func55 rfl rfl rfl rfl rfl rfl ?_
 intro F hF hm
 unfold Flaws_markIntS at H
 obtain ⟨K, hK⟩ : ∃ K, k ≤ K := ⟨k, Nat.le_refl k⟩
 refine WpC.seq (WpC.regionL ?_)
 refine L.assign hF rfl rfl rfl (L.nil ?_)
 refine WpC.seq (WpC.seq (WpC.regionL ?_))
 refine L.assign hF rfl rfl rfl (L.nil ?_)
 refine WpC.block ?_
 refine WpC.loopL (P := Try.prog) (fun n σ => ∃ v24 : List Int, ∃ v25 : Int, ∃ v26 : Int, n ≤ K ∧ Flaws_markIntS.l2 n v24 v25 v26 = some r ∧ σ = mkSt [(0, one (Cell.own 0)), (1, one (cI v25)), (5, one (cI v26))] [(0, ⟨1, List.map eI v24⟩)] [] 2) k ⟨_, ⟨a0, a1, (0 : Int), by omega, H, rfl⟩, Le.mk [(0, 0)] hm rfl (Sa2 (Sa1 trivial)) (Ra1 trivial) trivial⟩ ?_
 clear H
 rintro k2 _ ⟨v24, v25, v26, hk2, H, rfl⟩
 cases k2 with
 | zero => cases H
 | succ k2 =>
  rw [Flaws_markIntS.l2] at H
  refine WpC.seq (WpC.seq (WpC.regionL ?_))
  refine L.move hF rfl rfl rfl ?_
  refine L.move hF rfl rfl rfl ?_
  refine L.lenR (xs := v24) (e := eI) Try.underlying39 hF rfl rfl rfl rfl ?_
  refine L.bin hF rfl rfl rfl rfl rfl rfl (L.nil ?_)
  refine WpC.cond rfl (fun hc => ?_) (fun hc => ?_)
  ·replace H := condT hc H
   refine WpC.skip (WpC.seq (WpC.block (WpC.seq (WpC.regionL ?_))))
   refine L.move hF rfl rfl rfl ?_
   refine L.move hF rfl rfl rfl ?_
   refine L.move hF rfl rfl rfl ?_
   obtain ⟨b28, hb28, H⟩ := bindS H
   refine L.idxR (xs := v24) (e := eI) Try.underlying39 info3 hF rfl rfl rfl rfl rfl hb28 rfl rfl ?_
   refine L.storeEp (xs := v24) (e := eI) (a' := v25) shape3 hF rfl rfl rfl rfl rfl rfl rfl (at?_get hb28).2 rfl rfl ?_
   refine L.nil ?_
   refine WpC.regionL ?_
   refine L.move hF rfl rfl rfl ?_
   refine L.bin hF rfl rfl rfl rfl rfl rfl ?_
   refine L.assign hF rfl rfl rfl (L.nil ?_)
   refine WpC.regionL ?_
   refine L.move hF rfl rfl rfl ?_
   refine L.bin hF rfl rfl rfl rfl rfl rfl ?_
   refine L.assign hF rfl rfl rfl (L.nil ?_)
   exact ⟨k2, _, by omega, ⟨(v24.set v26.toNat v25), (IntKind.i64.wrap (v25 + (1 : Int))), (IntKind.i64.wrap (v26 + (1 : Int))), by omega, H, rfl⟩, Le.mk [(0, 0)] hm rfl (Sa2 (Sa1 trivial)) (Ra1 trivial) trivial⟩
  ·replace H := condF hc H
   refine WpC.exit (WpC.seq (WpC.regionL ?_))
   refine L.move hF rfl rfl rfl ?_
   refine L.assign hF rfl rfl rfl (L.nil ?_)
   refine WpC.ret ?_
   cases H
   exact Leaves.retB rfl rfl rfl rfl ⟨rfl, rfl, rfl⟩
/-! ### Flaws_markTlvS -/
def Flaws_markTlvS.l2 : Nat → (List Timpl_Tlv) → Int → Int → Option (Int × List Timpl_Tlv)
 | 0, _, _, _ => none
 | k2 + 1, v74, v75, v76 => cond (decide (v76 < (v74.length : Int))) ((at? v74 v76).bind fun b83 => (at? (v74.set v76.toNat (⟨v75, b83.Leaf, b83.Data, b83.Kids⟩ : Timpl_Tlv)) v76).bind fun b84 => (Flaws_markText k2 (IntKind.i64.wrap ((IntKind.i64.wrap (v75 + (1 : Int))) + (1 : Int)))).bind fun r85 => (at? ((v74.set v76.toNat (⟨v75, b83.Leaf, b83.Data, b83.Kids⟩ : Timpl_Tlv)).set v76.toNat (⟨b84.Tag, ((Int.tmod (IntKind.i64.wrap (v75 + (1 : Int))) (3 : Int)) == (0 : Int)), b84.Data, b84.Kids⟩ : Timpl_Tlv)) v76).bind fun b86 => (at? (((v74.set v76.toNat (⟨v75, b83.Leaf, b83.Data, b83.Kids⟩ : Timpl_Tlv)).set v76.toNat (⟨b84.Tag, ((Int.tmod (IntKind.i64.wrap (v75 + (1 : Int))) (3 : Int)) == (0 : Int)), b84.Data, b84.Kids⟩ : Timpl_Tlv)).set v76.toNat (⟨b86.Tag, b86.Leaf, r85, b86.Kids⟩ : Timpl_Tlv)) v76).bind fun b87 => (Flaws_markIntS k2 b87.Kids (IntKind.i64.wrap ((IntKind.i64.wrap ((IntKind.i64.wrap (v75 + (1 : Int))) + (1 : Int))) + (1 : Int)))).bind fun r88 => (Flaws_markTlvS.l2 k2) ((((v74.set v76.toNat (⟨v75, b83.Leaf, b83.Data, b83.Kids⟩ : Timpl_Tlv)).set v76.toNat (⟨b84.Tag, ((Int.tmod (IntKind.i64.wrap (v75 + (1 : Int))) (3 : Int)) == (0 : Int)), b84.Data, b84.Kids⟩ : Timpl_Tlv)).set v76.toNat (⟨b86.Tag, b86.Leaf, r85, b86.Kids⟩ : Timpl_Tlv)).set v76.toNat (⟨b87.Tag, b87.Leaf, b87.Data, r88.2⟩ : Timpl_Tlv)) r88.1 (IntKind.i64.wrap (v76 + (1 : Int)))) (some (v75, v74))
def Flaws_markTlvS (k : Nat) (a0 : List Timpl_Tlv) (a1 : Int) : Option (Int × List Timpl_Tlv) := Flaws_markTlvS.l2 k a0 a1 (0 : Int)
theorem ent14 : MG.Enters Try.prog 14 := ⟨Try.f14, Try.func14, rfl, by decide⟩
set_option maxHeartbeats 8000000 in
set_option maxRecDepth 100000 in
theorem Flaws_markTlvS_gives (k : Nat) (a0 : List Timpl_Tlv) (a1 : Int) (r : Int × List Timpl_Tlv) (H : Flaws_markTlvS k a0 a1 = some r) : GivesB Try.prog 14 [V.one (Cell.ow 4 (List.map eTimpl_Tlv a0)), V.one (cI a1)] [] [0] [V.one (cI r.1)] [] [V.one (Cell.ow 4 (List.map eTimpl_Tlv r.2))] := by
 refine GivesB.intro Try.func14 rfl rfl rfl rfl rfl rfl ?_
 intro F hF hm
 unfold Flaws_markTlvS at H
 obtain ⟨K, hK⟩ : ∃ K, k ≤ K := ⟨k, Nat.le_refl k⟩
 refine WpC.seq (WpC.regionL ?_)
 refine L.assign hF rfl rfl rfl (L.nil ?_)
 refine WpC.seq (WpC.seq (WpC.regionL ?_))
 refine L.assign hF rfl rfl rfl (L.nil ?_)
 refine WpC.block ?_
 refine WpC.loopL (P := Try.prog) (fun n σ => ∃ v74 : List Timpl_Tlv, ∃ v75 : Int, ∃ v76 : Int, n ≤ K ∧ Flaws_markTlvS.l2 n v74 v75 v76 = some r ∧ σ = mkSt [(0, one (Cell.own 0)), (1, one (cI v75)), (5, one (cI v76))] [(0, ⟨4, List.map eTimpl_Tlv v74⟩)] [] 2) k ⟨_, ⟨a0, a1, (0 : Int), by omega, H, rfl⟩, Le.mk [(0, 0)] hm rfl (Sa2 (Sa1 trivial)) (Ra1 trivial) trivial⟩ ?_
 clear H
 rintro k2 _ ⟨v74, v75, v76, hk2, H, rfl⟩
 cases k2 with
 | zero => cases H
 | succ k2 =>
  rw [Flaws_markTlvS.l2] at H
  refine WpC.seq (WpC.seq (WpC.regionL ?_))
  refine L.move hF rfl rfl rfl ?_
  refine L.move hF rfl rfl rfl ?_
  refine L.lenR (xs := v74) (e := eTimpl_Tlv) Try.underlying22 hF rfl rfl rfl rfl ?_
  refine L.bin hF rfl rfl rfl rfl rfl rfl (L.nil ?_)
  refine WpC.cond rfl (fun hc => ?_) (fun hc => ?_)
  ·replace H := condT hc H
   refine WpC.skip (WpC.seq (WpC.block (WpC.seq (WpC.regionL ?_))))
   refine L.move hF rfl rfl rfl ?_
   refine L.move hF rfl rfl rfl ?_
   refine L.move hF rfl rfl rfl ?_
   obtain ⟨b83, hb83, H⟩ := bindS H
   refine L.idxR (xs := v74) (e := eTimpl_Tlv) Try.underlying22 info45 hF rfl rfl rfl rfl rfl hb83 rfl rfl ?_
   refine L.fieldAddr Try.underlying45 rfl info3 rfl hF rfl rfl rfl rfl rfl ?_
   refine L.storeEp (xs := v74) (e := eTimpl_Tlv) (a' := (⟨v75, b83.Leaf, b83.Data, b83.Kids⟩ : Timpl_Tlv)) shape3 hF rfl rfl rfl rfl rfl rfl rfl (at?_get hb83).2 rfl rfl ?_
   refine L.nil ?_
   refine WpC.seq (WpC.regionL ?_)
   refine L.move hF rfl rfl rfl ?_
   refine L.bin hF rfl rfl rfl rfl rfl rfl ?_
   refine L.assign hF rfl rfl rfl (L.nil ?_)
   refine WpC.seq (WpC.regionL ?_)
   refine L.move hF rfl rfl rfl ?_
   refine L.move hF rfl rfl rfl ?_
   refine L.move hF rfl rfl rfl ?_
   refine L.rem hF rfl rfl rfl rfl (by decide) ?_
   refine L.bin hF rfl rfl rfl rfl rfl rfl ?_
   obtain ⟨b84, hb84, H⟩ := bindS H
   refine L.idxR (xs := (v74.set v76.toNat (⟨v75, b83.Leaf, b83.Data, b83.Kids⟩ : Timpl_Tlv))) (e := eTimpl_Tlv) Try.underlying22 info45 hF rfl rfl rfl rfl rfl hb84 rfl rfl ?_
   refine L.fieldAddr Try.underlying45 rfl info4 rfl hF rfl rfl rfl rfl rfl ?_
   refine L.storeEp (xs := (v74.set v76.toNat (⟨v75, b83.Leaf, b83.Data, b83.Kids⟩ : Timpl_Tlv))) (e := eTimpl_Tlv) (a' := (⟨b84.Tag, ((Int.tmod (IntKind.i64.wrap (v75 + (1 : Int))) (3 : Int)) == (0 : Int)), b84.Data, b84.Kids⟩ : Timpl_Tlv)) shape4 hF rfl rfl rfl rfl rfl rfl rfl (at?_get hb84).2 rfl rfl ?_
   refine L.nil ?_
   refine WpC.seq (WpC.regionL ?_)
   refine L.move hF rfl rfl rfl ?_
   refine L.bin hF rfl rfl rfl rfl rfl rfl ?_
   refine L.assign hF rfl rfl rfl (L.nil ?_)
   refine WpC.seq (WpC.regionL ?_)
   refine L.move hF rfl rfl rfl ?_
   refine L.move hF rfl rfl rfl ?_
   refine L.move hF rfl rfl rfl ?_
   obtain ⟨r85, hr85, H⟩ := bindS H
   refine L.call [false] [] [] 2 hF rfl rfl rfl ent54 rfl rfl rfl rfl rfl (Flaws_markText_gives k2  (IntKind.i64.wrap ((IntKind.i64.wrap (v75 + (1 : Int))) + (1 : Int))) r85 hr85) rfl ?_
   obtain ⟨b86, hb86, H⟩ := bindS H
   refine L.idxR (xs := ((v74.set v76.toNat (⟨v75, b83.Leaf, b83.Data, b83.Kids⟩ : Timpl_Tlv)).set v76.toNat (⟨b84.Tag, ((Int.tmod (IntKind.i64.wrap (v75 + (1 : Int))) (3 : Int)) == (0 : Int)), b84.Data, b84.Kids⟩ : Timpl_Tlv))) (e := eTimpl_Tlv) Try.underlying22 info45 hF rfl rfl rfl rfl rfl hb86 rfl rfl ?_
   refine L.fieldAddr Try.underlying45 rfl info9 rfl hF rfl rfl rfl rfl rfl ?_
   refine L.storeEp (xs := ((v74.set v76.toNat (⟨v75, b83.Leaf, b83.Data, b83.Kids⟩ : Timpl_Tlv)).set v76.toNat (⟨b84.Tag, ((Int.tmod (IntKind.i64.wrap (v75 + (1 : Int))) (3 : Int)) == (0 : Int)), b84.Data, b84.Kids⟩ : Timpl_Tlv))) (e := eTimpl_Tlv) (a' := (⟨b86.Tag, b86.Leaf, r85, b86.Kids⟩ : Timpl_Tlv)) shape9 hF rfl rfl rfl rfl rfl rfl rfl (at?_get hb86).2 rfl rfl ?_
   refine L.nil ?_
   refine WpC.seq (WpC.regionL ?_)
   refine L.move hF rfl rfl rfl ?_
   refine L.bin hF rfl rfl rfl rfl rfl rfl ?_
   refine L.assign hF rfl rfl rfl (L.nil ?_)
   refine WpC.regionL ?_
   refine L.move hF rfl rfl rfl ?_
   refine L.move hF rfl rfl rfl ?_
   obtain ⟨b87, hb87, H⟩ := bindS H
   refine L.idxR (xs := (((v74.set v76.toNat (⟨v75, b83.Leaf, b83.Data, b83.Kids⟩ : Timpl_Tlv)).set v76.toNat (⟨b84.Tag, ((Int.tmod (IntKind.i64.wrap (v75 + (1 : Int))) (3 : Int)) == (0 : Int)), b84.Data, b84.Kids⟩ : Timpl_Tlv)).set v76.toNat (⟨b86.Tag, b86.Leaf, r85, b86.Kids⟩ : Timpl_Tlv))) (e := eTimpl_Tlv) Try.underlying22 info45 hF rfl rfl rfl rfl rfl hb87 rfl rfl ?_
   refine L.fieldAddr Try.underlying45 rfl info39 rfl hF rfl rfl rfl rfl rfl ?_
   refine L.out (xs := (((v74.set v76.toNat (⟨v75, b83.Leaf, b83.Data, b83.Kids⟩ : Timpl_Tlv)).set v76.toNat (⟨b84.Tag, ((Int.tmod (IntKind.i64.wrap (v75 + (1 : Int))) (3 : Int)) == (0 : Int)), b84.Data, b84.Kids⟩ : Timpl_Tlv)).set v76.toNat (⟨b86.Tag, b86.Leaf, r85, b86.Kids⟩ : Timpl_Tlv))) (e := eTimpl_Tlv) (a := b87) 0 v76.toNat 3 3 rfl (at?_get hb87).2 rfl rfl (fun ub87 => ?_)
   refine L.loadEpR (xs := (((v74.set v76.toNat (⟨v75, b83.Leaf, b83.Data, b83.Kids⟩ : Timpl_Tlv)).set v76.toNat (⟨b84.Tag, ((Int.tmod (IntKind.i64.wrap (v75 + (1 : Int))) (3 : Int)) == (0 : Int)), b84.Data, b84.Kids⟩ : Timpl_Tlv)).set v76.toNat (⟨b86.Tag, b86.Leaf, r85, b86.Kids⟩ : Timpl_Tlv))) (e := eTimpl_Tlv) 3 3 shape39 hF rfl rfl rfl rfl (at?_get hb87).2 rfl rfl rfl rfl rfl ?_
   refine L.move hF rfl rfl rfl ?_
   obtain ⟨r88, hr88, H⟩ := bindS H
   refine L.callB [true, false] [] [] 4 [0] hF rfl rfl rfl ent55 rfl rfl rfl rfl rfl (Flaws_markIntS_gives k2  b87.Kids (IntKind.i64.wrap ((IntKind.i64.wrap ((IntKind.i64.wrap (v75 + (1 : Int))) + (1 : Int))) + (1 : Int))) r88 hr88) rfl rfl rfl ?_
   refine L.assign hF rfl rfl rfl ?_
   refine L.le (Le.back (xs := (((v74.set v76.toNat (⟨v75, b83.Leaf, b83.Data, b83.Kids⟩ : Timpl_Tlv)).set v76.toNat (⟨b84.Tag, ((Int.tmod (IntKind.i64.wrap (v75 + (1 : Int))) (3 : Int)) == (0 : Int)), b84.Data, b84.Kids⟩ : Timpl_Tlv)).set v76.toNat (⟨b86.Tag, b86.Leaf, r85, b86.Kids⟩ : Timpl_Tlv))) (e := eTimpl_Tlv) (a' := (⟨b87.Tag, b87.Leaf, b87.Data, r88.2⟩ : Timpl_Tlv)) 0 v76.toNat 3 3 rfl (at?_get hb87).2 rfl rfl rfl rfl rfl) ?_
   refine L.nil ?_
   refine WpC.regionL ?_
   refine L.move hF rfl rfl rfl ?_
   refine L.bin hF rfl rfl rfl rfl rfl rfl ?_
   refine L.assign hF rfl rfl rfl (L.nil ?_)
   exact ⟨k2, _, by omega, ⟨((((v74.set v76.toNat (⟨v75, b83.Leaf, b83.Data, b83.Kids⟩ : Timpl_Tlv)).set v76.toNat (⟨b84.Tag, ((Int.tmod (IntKind.i64.wrap (v75 + (1 : Int))) (3 : Int)) == (0 : Int)), b84.Data, b84.Kids⟩ : Timpl_Tlv)).set v76.toNat (⟨b86.Tag, b86.Leaf, r85, b86.Kids⟩ : Timpl_Tlv)).set v76.toNat (⟨b87.Tag, b87.Leaf, b87.Data, r88.2⟩ : Timpl_Tlv)), r88.1, (IntKind.i64.wrap (v76 + (1 : Int))), by omega, H, rfl⟩, Le.mk [(0, 0)] hm rfl (Sa2 (Sa1 trivial)) (Ra1 trivial) trivial⟩
  ·replace H := condF hc H
   refine WpC.exit (WpC.seq (WpC.regionL ?_))
   refine L.move hF rfl rfl rfl ?_
   refine L.assign hF rfl rfl rfl (L.nil ?_)
   refine WpC.ret ?_
   cases H
   exact Leaves.retB rfl rfl rfl rfl ⟨rfl, rfl, rfl⟩
/-! ### Flaws_heldIntS -/
def Flaws_heldIntS.l2 : Nat → (List Int) → Int → Int → Option Int
 | 0, _, _, _ => none
 | k2 + 1, v34, v35, v36 => cond (decide (v36 < (v34.length : Int))) ((at? v34 v36).bind fun b40 => cond (b40 != v35) (some (-1 : Int)) ((Flaws_heldIntS.l2 k2) v34 (IntKind.i64.wrap (v35 + (1 : Int))) (IntKind.i64.wrap (v36 + (1 : Int))))) (some v35)
def Flaws_heldIntS (k : Nat) (a0 : List Int) (a1 : Int) : Option Int := Flaws_heldIntS.l2 k a0 a1 (0 : Int)
theorem ent56 : MG.Enters Try.prog 56 := ⟨Try.f56, Try.func56, rfl, by decide⟩
set_option maxHeartbeats 8000000 in
set_option maxRecDepth 100000 in
theorem Flaws_heldIntS_gives (k : Nat) (g0 : Bool) (a0 : List Int) (a1 : Int) (r : Int) (H : Flaws_heldIntS k a0 a1 = some r) : Gives Try.prog 56 [V.one (Cell.sl g0 (List.map eI a0)), V.one (cI a1)] [] [V.one (cI r)] [] := by
 refine Gives.intro Try.func56 rfl rfl rfl rfl ?_
 intro F hF hm
 unfold Flaws_heldIntS at H
 obtain ⟨K, hK⟩ : ∃ K, k ≤ K := ⟨k, Nat.le_refl k⟩
 refine WpC.seq (WpC.regionL ?_)
 refine L.assign hF rfl rfl rfl (L.nil ?_)
 refine WpC.seq (WpC.seq (WpC.regionL ?_))
 refine L.assign hF rfl rfl rfl (L.nil ?_)
 refine WpC.block ?_
 refine WpC.loopL (P := Try.prog) (fun n σ => ∃ v34 : List Int, ∃ v35 : Int, ∃ v36 : Int, n ≤ K ∧ Flaws_heldIntS.l2 n v34 v35 v36 = some r ∧ σ = mkSt [(0, one (Cell.sl g0 (List.map eI v34))), (1, one (cI v35)), (5, one (cI v36))] [] [] 0) k ⟨_, ⟨a0, a1, (0 : Int), by omega, H, rfl⟩, Le.mk [] hm rfl (Sa2 (Sa1 trivial)) trivial trivial⟩ ?_
 clear H
 rintro k2 _ ⟨v34, v35, v36, hk2, H, rfl⟩
 cases k2 with
 | zero => cases H
 | succ k2 =>
  rw [Flaws_heldIntS.l2] at H
  refine WpC.seq (WpC.seq (WpC.regionL ?_))
  refine L.move hF rfl rfl rfl ?_
  refine L.move hF rfl rfl rfl ?_
  refine L.lenR (xs := v34) (e := eI) Try.underlying39 hF rfl rfl rfl rfl ?_
  refine L.bin hF rfl rfl rfl rfl rfl rfl (L.nil ?_)
  refine WpC.cond rfl (fun hc => ?_) (fun hc => ?_)
  ·replace H := condT hc H
   refine WpC.skip (WpC.seq (WpC.block (WpC.seq (WpC.seq (WpC.regionL ?_)))))
   refine L.move hF rfl rfl rfl ?_
   refine L.move hF rfl rfl rfl ?_
   obtain ⟨b40, hb40, H⟩ := bindS H
   refine L.idxR (xs := v34) (e := eI) Try.underlying39 info3 hF rfl rfl rfl rfl rfl hb40 rfl rfl ?_
   refine L.loadPe shape3 hF rfl rfl rfl rfl rfl ?_
   refine L.move hF rfl rfl rfl ?_
   refine L.bin hF rfl rfl rfl rfl rfl rfl (L.nil ?_)
   refine WpC.cond rfl (fun hc => ?_) (fun hc => ?_)
   ·replace H := condT hc H
    refine WpC.seq (WpC.regionL ?_)
    refine L.assign hF rfl rfl rfl (L.nil ?_)
    refine WpC.ret ?_
    cases H
    exact Leaves.ret rfl rfl rfl ⟨rfl, rfl⟩
   ·replace H := condF hc H
    refine WpC.skip (WpC.regionL ?_)
    refine L.move hF rfl rfl rfl ?_
    refine L.bin hF rfl rfl rfl rfl rfl rfl ?_
    refine L.assign hF rfl rfl rfl (L.nil ?_)
    refine WpC.regionL ?_
    refine L.move hF rfl rfl rfl ?_
    refine L.bin hF rfl rfl rfl rfl rfl rfl ?_
    refine L.assign hF rfl rfl rfl (L.nil ?_)
    exact ⟨k2, _, by omega, ⟨v34, (IntKind.i64.wrap (v35 + (1 : Int))), (IntKind.i64.wrap (v36 + (1 : Int))), by omega, H, rfl⟩, Le.mk [] hm rfl (Sa2 (Sa1 trivial)) trivial trivial⟩
  ·replace H := condF hc H
   refine WpC.exit (WpC.seq (WpC.regionL ?_))
   refine L.move hF rfl rfl rfl ?_
   refine L.assign hF rfl rfl rfl (L.nil ?_)
   refine WpC.ret ?_
   cases H
   exact Leaves.ret rfl rfl rfl ⟨rfl, rfl⟩
/-! ### Flaws_heldTlvS -/
def Flaws_heldTlvS.l2 : Nat → (List Timpl_Tlv) → Int → Int → Option Int
 | 0, _, _, _ => none
 | k2 + 1, v114, v115, v116 => cond (decide (v116 < (v114.length : Int))) ((at? v114 v116).bind fun b128 => cond (b128.Tag != v115) (some (-1 : Int)) ((at? v114 v116).bind fun b130 => cond (b130.Leaf != ((Int.tmod (IntKind.i64.wrap (v115 + (1 : Int))) (3 : Int)) == (0 : Int))) (some (-1 : Int)) ((at? v114 v116).bind fun b133 => (Flaws_markText k2 (IntKind.i64.wrap ((IntKind.i64.wrap (v115 + (1 : Int))) + (1 : Int)))).bind fun r134 => cond (b133.Data != r134) (some (-1 : Int)) ((at? v114 v116).bind fun b135 => (Flaws_heldIntS k2 b135.Kids (IntKind.i64.wrap ((IntKind.i64.wrap ((IntKind.i64.wrap (v115 + (1 : Int))) + (1 : Int))) + (1 : Int)))).bind fun r136 => cond (decide (r136 < (0 : Int))) (some (-1 : Int)) ((Flaws_heldTlvS.l2 k2) v114 r136 (IntKind.i64.wrap (v116 + (1 : Int)))))))) (some v115)
def Flaws_heldTlvS (k : Nat) (a0 : List Timpl_Tlv) (a1 : Int) : Option Int := Flaws_heldTlvS.l2 k a0 a1 (0 : Int)
theorem ent15 : MG.Enters Try.prog 15 := ⟨Try.f15, Try.func15, rfl, by decide⟩
set_option maxHeartbeats 8000000 in
set_option maxRecDepth 100000 in
theorem Flaws_heldTlvS_gives (k : Nat) (g0 : Bool) (a0 : List Timpl_Tlv) (a1 : Int) (r : Int) (H : Flaws_heldTlvS k a0 a1 = some r) : Gives Try.prog 15 [V.one (Cell.sl g0 (List.map eTimpl_Tlv a0)), V.one (cI a1)] [] [V.one (cI r)] [] := by
 refine Gives.intro Try.func15 rfl rfl rfl rfl ?_
 intro F hF hm
 unfold Flaws_heldTlvS at H
 obtain ⟨K, hK⟩ : ∃ K, k ≤ K := ⟨k, Nat.le_refl k⟩
 refine WpC.seq (WpC.regionL ?_)
 refine L.assign hF rfl rfl rfl (L.nil ?_)
 refine WpC.seq (WpC.seq (WpC.regionL ?_))
 refine L.assign hF rfl rfl rfl (L.nil ?_)
 refine WpC.block ?_
 refine WpC.loopL (P := Try.prog) (fun n σ => ∃ v114 : List Timpl_Tlv, ∃ v115 : Int, ∃ v116 : Int, n ≤ K ∧ Flaws_heldTlvS.l2 n v114 v115 v116 = some r ∧ σ = mkSt [(0, one (Cell.sl g0 (List.map eTimpl_Tlv v114))), (1, one (cI v115)), (5, one (cI v116))] [] [] 0) k ⟨_, ⟨a0, a1, (0 : Int), by omega, H, rfl⟩, Le.mk [] hm rfl (Sa2 (Sa1 trivial)) trivial trivial⟩ ?_
 clear H
 rintro k2 _ ⟨v114, v115, v116, hk2, H, rfl⟩
 cases k2 with
 | zero => cases H
 | succ k2 =>
  rw [Flaws_heldTlvS.l2] at H
  refine WpC.seq (WpC.seq (WpC.regionL ?_))
  refine L.move hF rfl rfl rfl ?_
  refine L.move hF rfl rfl rfl ?_
  refine L.lenR (xs := v114) (e := eTimpl_Tlv) Try.underlying22 hF rfl rfl rfl rfl ?_
  refine L.bin hF rfl rfl rfl rfl rfl rfl (L.nil ?_)
  refine WpC.cond rfl (fun hc => ?_) (fun hc => ?_)
  ·replace H := condT hc H
   refine WpC.skip (WpC.seq (WpC.block (WpC.seq (WpC.seq (WpC.regionL ?_)))))
   refine L.move hF rfl rfl rfl ?_
   refine L.move hF rfl rfl rfl ?_
   obtain ⟨b128, hb128, H⟩ := bindS H
   refine L.idxR (xs := v114) (e := eTimpl_Tlv) Try.underlying22 info45 hF rfl rfl rfl rfl rfl hb128 rfl rfl ?_
   refine L.fieldAddr Try.underlying45 rfl info3 rfl hF rfl rfl rfl rfl rfl ?_
   refine L.loadPe shape3 hF rfl rfl rfl rfl rfl ?_
   refine L.move hF rfl rfl rfl ?_
   refine L.bin hF rfl rfl rfl rfl rfl rfl (L.nil ?_)
   refine WpC.cond rfl (fun hc => ?_) (fun hc => ?_)
   ·replace H := condT hc H
    refine WpC.seq (WpC.regionL ?_)
    refine L.assign hF rfl rfl rfl (L.nil ?_)
    refine WpC.ret ?_
    cases H
    exact Leaves.ret rfl rfl rfl ⟨rfl, rfl⟩
   ·replace H := condF hc H
    refine WpC.skip (WpC.seq (WpC.regionL ?_))
    refine L.move hF rfl rfl rfl ?_
    refine L.bin hF rfl rfl rfl rfl rfl rfl ?_
    refine L.assign hF rfl rfl rfl (L.nil ?_)
    refine WpC.seq (WpC.seq (WpC.regionL ?_))
    refine L.move hF rfl rfl rfl ?_
    refine L.move hF rfl rfl rfl ?_
    obtain ⟨b130, hb130, H⟩ := bindS H
    refine L.idxR (xs := v114) (e := eTimpl_Tlv) Try.underlying22 info45 hF rfl rfl rfl rfl rfl hb130 rfl rfl ?_
    refine L.fieldAddr Try.underlying45 rfl info4 rfl hF rfl rfl rfl rfl rfl ?_
    refine L.loadPe shape4 hF rfl rfl rfl rfl rfl ?_
    refine L.move hF rfl rfl rfl ?_
    refine L.rem hF rfl rfl rfl rfl (by decide) ?_
    refine L.bin hF rfl rfl rfl rfl rfl rfl ?_
    refine L.neL Try.underlying4 hF rfl rfl rfl rfl (L.nil ?_)
    refine WpC.cond rfl (fun hc => ?_) (fun hc => ?_)
    ·replace H := condT hc H
     refine WpC.seq (WpC.regionL ?_)
     refine L.assign hF rfl rfl rfl (L.nil ?_)
     refine WpC.ret ?_
     cases H
     exact Leaves.ret rfl rfl rfl ⟨rfl, rfl⟩
    ·replace H := condF hc H
     refine WpC.skip (WpC.seq (WpC.regionL ?_))
     refine L.move hF rfl rfl rfl ?_
     refine L.bin hF rfl rfl rfl rfl rfl rfl ?_
     refine L.assign hF rfl rfl rfl (L.nil ?_)
     refine WpC.seq (WpC.seq ?_)
     obtain ⟨b133, hb133, H⟩ := bindS H
     obtain ⟨r134, hr134, H⟩ := bindS H
     refine A.begin mixed rfl rfl ?_
     intro W hI hO
     have n127 : W 1 #[true, true, true, true, true, true, true, false] (mkSt [(0, one (Cell.sl g0 (List.map eTimpl_Tlv v114))), (1, one (cI (IntKind.i64.wrap ((IntKind.i64.wrap (v115 + (1 : Int))) + (1 : Int))))), (5, one (cI v116)), (36, one (cS b133.Data)), (38, one (cS r134))] [] [] 0) := by
      refine hI _ _ _ ?_
      refine Atk 7 rfl (Ca.bin rfl rfl (calm_str _ _ _ _ _ _)) (fun Q0 k0 => L.binS hF rfl rfl rfl rfl rfl (L.nil k0)) ?_
      refine A.le (τ := mkSt [(0, one (Cell.sl g0 (List.map eTimpl_Tlv v114))), (1, one (cI (IntKind.i64.wrap ((IntKind.i64.wrap (v115 + (1 : Int))) + (1 : Int))))), (5, one (cI v116)), (39, one (cL (b133.Data != r134)))] [] [] 0) (Le.mk [] hm rfl (Sa4 trivial) trivial trivial) ?_
      refine A.done (by kernel_rfl) ?_
      refine WpC.cond rfl (fun hc => ?_) (fun hc => ?_)
      ·replace H := condT hc H
       refine WpC.seq (WpC.regionL ?_)
       refine L.assign hF rfl rfl rfl (L.nil ?_)
       refine WpC.ret ?_
       cases H
       exact Leaves.ret rfl rfl rfl ⟨rfl, rfl⟩
      ·replace H := condF hc H
       refine WpC.skip (WpC.seq (WpC.regionL ?_))
       refine L.move hF rfl rfl rfl ?_
       refine L.bin hF rfl rfl rfl rfl rfl rfl ?_
       refine L.assign hF rfl rfl rfl (L.nil ?_)
       refine WpC.seq (WpC.regionL ?_)
       refine L.move hF rfl rfl rfl ?_
       refine L.move hF rfl rfl rfl ?_
       obtain ⟨b135, hb135, H⟩ := bindS H
       refine L.idxR (xs := v114) (e := eTimpl_Tlv) Try.underlying22 info45 hF rfl rfl rfl rfl rfl hb135 rfl rfl ?_
       refine L.fieldAddr Try.underlying45 rfl info39 rfl hF rfl rfl rfl rfl rfl ?_
       refine L.loadPe shape39 hF rfl rfl rfl rfl rfl ?_
       refine L.move hF rfl rfl rfl ?_
       obtain ⟨r136, hr136, H⟩ := bindS H
       refine L.call [false, false] [] [] 0 hF rfl rfl rfl ent56 rfl rfl rfl rfl rfl (Flaws_heldIntS_gives k2 g0 b135.Kids (IntKind.i64.wrap ((IntKind.i64.wrap ((IntKind.i64.wrap (v115 + (1 : Int))) + (1 : Int))) + (1 : Int))) r136 hr136) rfl ?_
       refine L.assign hF rfl rfl rfl (L.nil ?_)
       refine WpC.seq (WpC.regionL ?_)
       refine L.move hF rfl rfl rfl ?_
       refine L.bin hF rfl rfl rfl rfl rfl rfl (L.nil ?_)
       refine WpC.cond rfl (fun hc => ?_) (fun hc => ?_)
       ·replace H := condT hc H
        refine WpC.seq (WpC.regionL ?_)
        refine L.assign hF rfl rfl rfl (L.nil ?_)
        refine WpC.ret ?_
        cases H
        exact Leaves.ret rfl rfl rfl ⟨rfl, rfl⟩
       ·replace H := condF hc H
        refine WpC.skip (WpC.regionL ?_)
        refine L.move hF rfl rfl rfl ?_
        refine L.bin hF rfl rfl rfl rfl rfl rfl ?_
        refine L.assign hF rfl rfl rfl (L.nil ?_)
        exact ⟨k2, _, by omega, ⟨v114, r136, (IntKind.i64.wrap (v116 + (1 : Int))), by omega, H, rfl⟩, Le.mk [] hm rfl (Sa2 (Sa1 trivial)) trivial trivial⟩
     refine hI _ _ _ ?_
     refine Atk 0 rfl (Ca.move) (fun Q0 k0 => L.move hF rfl rfl rfl (L.nil k0)) ?_
     refine Atk 1 rfl (Ca.move) (fun Q0 k0 => L.move hF rfl rfl rfl (L.nil k0)) ?_
     refine Atk 2 rfl (Ca.indexAddr) (fun Q0 k0 => L.idxR (xs := v114) (e := eTimpl_Tlv) Try.underlying22 info45 hF rfl rfl rfl rfl rfl hb133 rfl rfl (L.nil k0)) ?_
     refine Atk 3 rfl (Ca.fieldAddr Try.underlying45 rfl info9 rfl) (fun Q0 k0 => L.fieldAddr Try.underlying45 rfl info9 rfl hF rfl rfl rfl rfl rfl (L.nil k0)) ?_
     refine Atk 5 rfl (Ca.move) (fun Q0 k0 => L.move hF rfl rfl rfl (L.nil k0)) ?_
     refine A.all [4, 6] (by kernel_rfl) rfl ⟨⟨_, rfl, ?_⟩, ⟨_, rfl, ?_⟩, trivial⟩
     ·refine L.loadPe shape9 hF rfl rfl rfl rfl rfl (L.nil ?_)
      refine A.all [6] (by kernel_rfl) rfl ⟨⟨_, rfl, ?_⟩, trivial⟩
      refine L.call [false] [] [] 0 hF rfl rfl rfl ent54 rfl rfl rfl rfl rfl (Flaws_markText_gives k2  (IntKind.i64.wrap ((IntKind.i64.wrap (v115 + (1 : Int))) + (1 : Int))) r134 hr134) rfl (L.nil ?_)
      exact A.on (hO _ _ _ n127) (Le.mk [] hm rfl (Sa4 (Sa1 trivial)) trivial trivial)
     ·refine L.call [false] [] [] 0 hF rfl rfl rfl ent54 rfl rfl rfl rfl rfl (Flaws_markText_gives k2  (IntKind.i64.wrap ((IntKind.i64.wrap (v115 + (1 : Int))) + (1 : Int))) r134 hr134) rfl (L.nil ?_)
      refine A.all [4] (by kernel_rfl) rfl ⟨⟨_, rfl, ?_⟩, trivial⟩
      refine L.loadPe shape9 hF rfl rfl rfl rfl rfl (L.nil ?_)
      exact A.on (hO _ _ _ n127) (Le.mk [] hm rfl (Sa4 (Sa1 trivial)) trivial trivial)
  ·replace H := condF hc H
   refine WpC.exit (WpC.seq (WpC.regionL ?_))
   refine L.move hF rfl rfl rfl ?_
   refine L.assign hF rfl rfl rfl (L.nil ?_)
   refine WpC.ret ?_
   cases H
   exact Leaves.ret rfl rfl rfl ⟨rfl, rfl⟩
/-! ### Flaws_FnExactReadTlv -/
def Flaws_FnExactReadTlv (k : Nat) (a0 : List UInt8) : Option Bool := cond (decide ((a0.length : Int) > (1048576 : Int))) (some true) ((Fspec_ReadTlv k a0).bind fun r1 => (Fimpl_ReadTlv k a0).bind fun r2 => (Flaws_eqTlvS k r2.1 r1.1).bind fun r6 => cond (!r6) (some false) (cond (r2.2 != r1.2) (some false) ((Flaws_markTlvS k r2.1 (1 : Int)).bind fun r7 => (Flaws_heldTlvS k r7.2 (1 : Int)).bind fun r8 => cond (decide (r8 < (0 : Int))) (some false) (cond (r8 != r7.1) (some false) ((Fimpl_ReadTlv k a0).bind fun r9 => (Flaws_eqTlvS k r9.1 r1.1).bind fun r13 => cond (!r13) (some false) (cond (r9.2 != r1.2) (some false) ((Flaws_heldTlvS k r7.2 (1 : Int)).bind fun r14 => cond (decide (r14 < (0 : Int))) (some false) (cond (r14 != r7.1) (some false) (some true)))))))))
theorem ent3 : MG.Enters Try.prog 3 := ⟨Try.f3, Try.func3, rfl, by decide⟩
set_option maxHeartbeats 8000000 in
set_option maxRecDepth 100000 in
theorem Flaws_FnExactReadTlv_gives (k : Nat) (a0 : List UInt8) (r : Bool) (H : Flaws_FnExactReadTlv k a0 = some r) : Gives Try.prog 3 [V.one (cS a0)] [] [V.one (cL r)] [] := by
 refine Gives.intro Try.func3 rfl rfl rfl rfl ?_
 intro F hF hm
 unfold Flaws_FnExactReadTlv at H
 obtain ⟨K, hK⟩ : ∃ K, k ≤ K := ⟨k, Nat.le_refl k⟩
 refine WpC.seq (WpC.regionL ?_)
 refine L.assign hF rfl rfl rfl (L.nil ?_)
 refine WpC.seq (WpC.seq (WpC.regionL ?_))
 refine L.move hF rfl rfl rfl ?_
 refine L.lenS Try.underlying9 hF rfl rfl rfl ?_
 refine L.bin hF rfl rfl rfl rfl rfl rfl (L.nil ?_)
 refine WpC.cond rfl (fun hc => ?_) (fun hc => ?_)
 ·replace H := condT hc H
  refine WpC.seq (WpC.regionL ?_)
  refine L.assign hF rfl rfl rfl (L.nil ?_)
  refine WpC.ret ?_
  cases H
  exact Leaves.ret rfl rfl rfl ⟨rfl, rfl⟩
 ·replace H := condF hc H
  refine WpC.skip (WpC.seq (WpC.regionL ?_))
  refine L.move hF rfl rfl rfl ?_
  obtain ⟨r1, hr1, H⟩ := bindS H
  refine L.call [false] [] [] 1 hF rfl rfl rfl ent11 rfl rfl rfl rfl rfl (Fspec_ReadTlv_gives k  a0 r1 hr1) rfl ?_
  refine L.move hF rfl rfl rfl ?_
  refine L.extract hF rfl rfl rfl rfl ?_
  refine L.extract hF rfl rfl rfl rfl ?_
  refine L.assign hF rfl rfl rfl ?_
  refine L.assign hF rfl rfl rfl (L.nil ?_)
  refine WpC.seq (WpC.regionL ?_)
  refine L.move hF rfl rfl rfl ?_
  obtain ⟨r2, hr2, H⟩ := bindS H
  refine L.call [false] [] [] 3 hF rfl rfl rfl ent12 rfl rfl rfl rfl rfl (Fimpl_ReadTlv_gives k  a0 r2 hr2) rfl ?_
  refine L.move hF rfl rfl rfl ?_
  refine L.extract hF rfl rfl rfl rfl ?_
  refine L.extract hF rfl rfl rfl rfl ?_
  refine L.assign hF rfl rfl rfl ?_
  refine L.assign hF rfl rfl rfl (L.nil ?_)
  refine WpC.seq (WpC.seq (WpC.regionL ?_))
  refine L.move hF rfl rfl rfl ?_
  refine L.move hF rfl rfl rfl ?_
  obtain ⟨r6, hr6, H⟩ := bindS H
  refine L.call [false, false] [3, 1] [] 5 hF rfl rfl rfl ent13 rfl rfl rfl rfl rfl (Flaws_eqTlvS_gives k false false r2.1 r1.1 r6 hr6) rfl ?_
  refine L.not hF rfl rfl rfl ?_
  refine L.move hF rfl rfl rfl ?_
  refine L.split (fun hc => ?_) (fun hc => ?_)
  ·replace H := condT hc H
   refine L.off hF rfl rfl ?_
   refine L.off hF rfl rfl ?_
   refine L.off hF rfl rfl ?_
   refine L.pick hF rfl rfl rfl rfl (L.nil ?_)
   refine WpC.cond rfl (fun _ => ?_) (fun hc => by cases hc)
   refine WpC.seq (WpC.regionL ?_)
   refine L.assign hF rfl rfl rfl (L.nil ?_)
   refine WpC.ret ?_
   cases H
   exact Leaves.ret rfl rfl rfl ⟨rfl, rfl⟩
  ·replace H := condF hc H
   refine L.move hF rfl rfl rfl ?_
   refine L.move hF rfl rfl rfl ?_
   refine L.bin hF rfl rfl rfl rfl rfl rfl ?_
   refine L.pick hF rfl rfl rfl rfl (L.nil ?_)
   refine WpC.cond rfl (fun hc => ?_) (fun hc => ?_)
   ·replace H := condT hc H
    refine WpC.seq (WpC.regionL ?_)
    refine L.assign hF rfl rfl rfl (L.nil ?_)
    refine WpC.ret ?_
    cases H
    exact Leaves.ret rfl rfl rfl ⟨rfl, rfl⟩
   ·replace H := condF hc H
    refine WpC.skip (WpC.seq (WpC.regionL ?_))
    refine L.assign hF rfl rfl rfl (L.nil ?_)
    refine WpC.seq (WpC.regionL ?_)
    refine L.move hF rfl rfl rfl ?_
    refine L.move hF rfl rfl rfl ?_
    obtain ⟨r7, hr7, H⟩ := bindS H
    refine L.callB [true, false] [] [] 6 [0] hF rfl rfl rfl ent14 rfl rfl rfl rfl rfl (Flaws_markTlvS_gives k  r2.1 (1 : Int) r7 hr7) rfl rfl rfl ?_
    refine L.assign hF rfl rfl rfl (L.nil ?_)
    refine WpC.seq (WpC.regionL ?_)
    refine L.assign hF rfl rfl rfl (L.nil ?_)
    refine WpC.seq (WpC.regionL ?_)
    refine L.move hF rfl rfl rfl ?_
    refine L.move hF rfl rfl rfl ?_
    obtain ⟨r8, hr8, H⟩ := bindS H
    refine L.call [false, false] [3] [] 7 hF rfl rfl rfl ent15 rfl rfl rfl rfl rfl (Flaws_heldTlvS_gives k false r7.2 (1 : Int) r8 hr8) rfl ?_
    refine L.assign hF rfl rfl rfl (L.nil ?_)
    refine WpC.seq (WpC.seq (WpC.regionL ?_))
    refine L.move hF rfl rfl rfl ?_
    refine L.bin hF rfl rfl rfl rfl rfl rfl (L.nil ?_)
    refine WpC.cond rfl (fun hc => ?_) (fun hc => ?_)
    ·replace H := condT hc H
     refine WpC.seq (WpC.regionL ?_)
     refine L.assign hF rfl rfl rfl (L.nil ?_)
     refine WpC.ret ?_
     cases H
     exact Leaves.ret rfl rfl rfl ⟨rfl, rfl⟩
    ·replace H := condF hc H
     refine WpC.skip (WpC.seq (WpC.seq (WpC.regionL ?_)))
     refine L.move hF rfl rfl rfl ?_
     refine L.move hF rfl rfl rfl ?_
     refine L.bin hF rfl rfl rfl rfl rfl rfl (L.nil ?_)
     refine WpC.cond rfl (fun hc => ?_) (fun hc => ?_)
     ·replace H := condT hc H
      refine WpC.seq (WpC.regionL ?_)
      refine L.assign hF rfl rfl rfl (L.nil ?_)
      refine WpC.ret ?_
      cases H
      exact Leaves.ret rfl rfl rfl ⟨rfl, rfl⟩
     ·replace H := condF hc H
      refine WpC.skip (WpC.seq (WpC.regionL ?_))
      refine L.move hF rfl rfl rfl ?_
      obtain ⟨r9, hr9, H⟩ := bindS H
      refine L.call [false] [] [] 8 hF rfl rfl rfl ent12 rfl rfl rfl rfl rfl (Fimpl_ReadTlv_gives k  a0 r9 hr9) rfl ?_
      refine L.move hF rfl rfl rfl ?_
      refine L.extract hF rfl rfl rfl rfl ?_
      refine L.extract hF rfl rfl rfl rfl ?_
      refine L.assign hF rfl rfl rfl ?_
      refine L.assign hF rfl rfl rfl (L.nil ?_)
      refine WpC.seq (WpC.seq (WpC.regionL ?_))
      refine L.move hF rfl rfl rfl ?_
      refine L.move hF rfl rfl rfl ?_
      obtain ⟨r13, hr13, H⟩ := bindS H
      refine L.call [false, false] [8, 1] [] 10 hF rfl rfl rfl ent13 rfl rfl rfl rfl rfl (Flaws_eqTlvS_gives k false false r9.1 r1.1 r13 hr13) rfl ?_
      refine L.not hF rfl rfl rfl ?_
      refine L.move hF rfl rfl rfl ?_
      refine L.split (fun hc => ?_) (fun hc => ?_)
      ·replace H := condT hc H
       refine L.off hF rfl rfl ?_
       refine L.off hF rfl rfl ?_
       refine L.off hF rfl rfl ?_
       refine L.pick hF rfl rfl rfl rfl (L.nil ?_)
       refine WpC.cond rfl (fun _ => ?_) (fun hc => by cases hc)
       refine WpC.seq (WpC.regionL ?_)
       refine L.assign hF rfl rfl rfl (L.nil ?_)
       refine WpC.ret ?_
       cases H
       exact Leaves.ret rfl rfl rfl ⟨rfl, rfl⟩
      ·replace H := condF hc H
       refine L.move hF rfl rfl rfl ?_
       refine L.move hF rfl rfl rfl ?_
       refine L.bin hF rfl rfl rfl rfl rfl rfl ?_
       refine L.pick hF rfl rfl rfl rfl (L.nil ?_)
       refine WpC.cond rfl (fun hc => ?_) (fun hc => ?_)
       ·replace H := condT hc H
        refine WpC.seq (WpC.regionL ?_)
        refine L.assign hF rfl rfl rfl (L.nil ?_)
        refine WpC.ret ?_
        cases H
        exact Leaves.ret rfl rfl rfl ⟨rfl, rfl⟩
       ·replace H := condF hc H
        refine WpC.skip (WpC.seq (WpC.regionL ?_))
        refine L.assign hF rfl rfl rfl (L.nil ?_)
        refine WpC.seq (WpC.regionL ?_)
        refine L.move hF rfl rfl rfl ?_
        refine L.move hF rfl rfl rfl ?_
        obtain ⟨r14, hr14, H⟩ := bindS H
        refine L.call [false, false] [3] [] 11 hF rfl rfl rfl ent15 rfl rfl rfl rfl rfl (Flaws_heldTlvS_gives k false r7.2 (1 : Int) r14 hr14) rfl ?_
        refine L.assign hF rfl rfl rfl (L.nil ?_)
        refine WpC.seq (WpC.seq (WpC.regionL ?_))
        refine L.move hF rfl rfl rfl ?_
        refine L.bin hF rfl rfl rfl rfl rfl rfl (L.nil ?_)
        refine WpC.cond rfl (fun hc => ?_) (fun hc => ?_)
        ·replace H := condT hc H
         refine WpC.seq (WpC.regionL ?_)
         refine L.assign hF rfl rfl rfl (L.nil ?_)
         refine WpC.ret ?_
         cases H
         exact Leaves.ret rfl rfl rfl ⟨rfl, rfl⟩
        ·replace H := condF hc H
         refine WpC.skip (WpC.seq (WpC.seq (WpC.regionL ?_)))
         refine L.move hF rfl rfl rfl ?_
         refine L.move hF rfl rfl rfl ?_
         refine L.bin hF rfl rfl rfl rfl rfl rfl (L.nil ?_)
         refine WpC.cond rfl (fun hc => ?_) (fun hc => ?_)
         ·replace H := condT hc H
          refine WpC.seq (WpC.regionL ?_)
          refine L.assign hF rfl rfl rfl (L.nil ?_)
          refine WpC.ret ?_
          cases H
          exact Leaves.ret rfl rfl rfl ⟨rfl, rfl⟩
         ·replace H := condF hc H
          refine WpC.skip (WpC.seq (WpC.regionL ?_))
          refine L.assign hF rfl rfl rfl (L.nil ?_)
          refine WpC.ret ?_
          cases H
          exact Leaves.ret rfl rfl rfl ⟨rfl, rfl⟩
end Go.Proofs.Ytgjbgakcfcomdaa.M
