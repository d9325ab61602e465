import Derived.Test.YtflcaebmammlfaaMgZc
import Derived.Test.YtflcaebmammlfaaProg
namespace Go.Proofs.Ytflcaebmammlfaa.M
open Go Go.MG
set_option linter.unusedVariables false
set_option linter.unusedSimpArgs false
structure Timpl_Times where
  Auth : Int
  Start : Int
  End : Int
  Renew : Int
def eTimpl_Times (x : Timpl_Times) : List Cell := [cI x.Auth, cI x.Start, cI x.End, cI x.Renew]
structure Tspec_l1Cur where
  b : List UInt8
  i : Int
  h : Int
def eTspec_l1Cur (x : Tspec_l1Cur) : List Cell := [Cell.sl true (List.map eB x.b), cI x.i, cI x.h]
theorem mixed : Try.prog.follows .mixedOrders = true := by kernel_rfl
theorem shape3 : MG.shape Try.prog 3 = some (false, 1) := by kernel_rfl
theorem shape5 : MG.shape Try.prog 5 = some (false, 1) := by kernel_rfl
theorem shape25 : MG.shape Try.prog 25 = some (true, 4) := by kernel_rfl
theorem shape35 : MG.shape Try.prog 35 = some (false, 1) := by kernel_rfl
theorem info3 : Try.prog.info? 3 = some Try.t3 := by kernel_rfl
theorem info5 : Try.prog.info? 5 = some Try.t5 := by kernel_rfl
theorem info25 : Try.prog.info? 25 = some Try.t25 := by kernel_rfl
theorem info35 : Try.prog.info? 35 = some Try.t35 := by kernel_rfl
theorem info162 : Try.prog.info? 162 = some Try.t162 := by kernel_rfl
theorem built25 : builtA Try.prog 25 = fillA (fun x => ([(0, 1), (1, 1), (2, 1), (3, 1)] : List (Nat × Nat))[x]?) [cI (0 : Int), cI (0 : Int), cI (0 : Int), cI (0 : Int)] := by kernel_rfl
theorem built162 : builtA Try.prog 162 = fillA (fun x => ([(0, 1), (1, 1), (2, 1)] : List (Nat × Nat))[x]?) [Cell.nil, cI (0 : Int), cI (0 : Int)] := by kernel_rfl
abbrev bx (a b c d : Int) : List Cell := [cI a, cI b, cI c, cI d]
theorem S3 {π : Nat → Option Nat} {σ : St} {t0 t1 t2 : Nat} {s0 u0 s1 u1 s2 u2 : Slot} (h0 : renS π s0 = some u0) (g0 : σ.slots t0 = some u0) (h1 : renS π s1 = some u1) (g1 : σ.slots t1 = some u1) (h2 : renS π s2 = some u2) (g2 : σ.slots t2 = some u2) : SlotsOk π σ [(t0, s0), (t1, s1), (t2, s2)] := ⟨⟨_, h0, g0⟩, ⟨_, h1, g1⟩, ⟨_, h2, g2⟩, trivial⟩
theorem S4 {π : Nat → Option Nat} {σ : St} {t0 t1 t2 t3 : Nat} {s0 u0 s1 u1 s2 u2 s3 u3 : Slot} (h0 : renS π s0 = some u0) (g0 : σ.slots t0 = some u0) (h1 : renS π s1 = some u1) (g1 : σ.slots t1 = some u1) (h2 : renS π s2 = some u2) (g2 : σ.slots t2 = some u2) (h3 : renS π s3 = some u3) (g3 : σ.slots t3 = some u3) : SlotsOk π σ [(t0, s0), (t1, s1), (t2, s2), (t3, s3)] := ⟨⟨_, h0, g0⟩, ⟨_, h1, g1⟩, ⟨_, h2, g2⟩, ⟨_, h3, g3⟩, trivial⟩
theorem S5 {π : Nat → Option Nat} {σ : St} {t0 t1 t2 t3 t4 : Nat} {s0 u0 s1 u1 s2 u2 s3 u3 s4 u4 : Slot} (h0 : renS π s0 = some u0) (g0 : σ.slots t0 = some u0) (h1 : renS π s1 = some u1) (g1 : σ.slots t1 = some u1) (h2 : renS π s2 = some u2) (g2 : σ.slots t2 = some u2) (h3 : renS π s3 = some u3) (g3 : σ.slots t3 = some u3) (h4 : renS π s4 = some u4) (g4 : σ.slots t4 = some u4) : SlotsOk π σ [(t0, s0), (t1, s1), (t2, s2), (t3, s3), (t4, s4)] := ⟨⟨_, h0, g0⟩, ⟨_, h1, g1⟩, ⟨_, h2, g2⟩, ⟨_, h3, g3⟩, ⟨_, h4, g4⟩, trivial⟩
theorem S6 {π : Nat → Option Nat} {σ : St} {t0 t1 t2 t3 t4 t5 : Nat} {s0 u0 s1 u1 s2 u2 s3 u3 s4 u4 s5 u5 : Slot} (h0 : renS π s0 = some u0) (g0 : σ.slots t0 = some u0) (h1 : renS π s1 = some u1) (g1 : σ.slots t1 = some u1) (h2 : renS π s2 = some u2) (g2 : σ.slots t2 = some u2) (h3 : renS π s3 = some u3) (g3 : σ.slots t3 = some u3) (h4 : renS π s4 = some u4) (g4 : σ.slots t4 = some u4) (h5 : renS π s5 = some u5) (g5 : σ.slots t5 = some u5) : SlotsOk π σ [(t0, s0), (t1, s1), (t2, s2), (t3, s3), (t4, s4), (t5, s5)] := ⟨⟨_, h0, g0⟩, ⟨_, h1, g1⟩, ⟨_, h2, g2⟩, ⟨_, h3, g3⟩, ⟨_, h4, g4⟩, ⟨_, h5, g5⟩, trivial⟩
theorem S7 {π : Nat → Option Nat} {σ : St} {t0 t1 t2 t3 t4 t5 t6 : Nat} {s0 u0 s1 u1 s2 u2 s3 u3 s4 u4 s5 u5 s6 u6 : Slot} (h0 : renS π s0 = some u0) (g0 : σ.slots t0 = some u0) (h1 : renS π s1 = some u1) (g1 : σ.slots t1 = some u1) (h2 : renS π s2 = some u2) (g2 : σ.slots t2 = some u2) (h3 : renS π s3 = some u3) (g3 : σ.slots t3 = some u3) (h4 : renS π s4 = some u4) (g4 : σ.slots t4 = some u4) (h5 : renS π s5 = some u5) (g5 : σ.slots t5 = some u5) (h6 : renS π s6 = some u6) (g6 : σ.slots t6 = some u6) : SlotsOk π σ [(t0, s0), (t1, s1), (t2, s2), (t3, s3), (t4, s4), (t5, s5), (t6, s6)] := ⟨⟨_, h0, g0⟩, ⟨_, h1, g1⟩, ⟨_, h2, g2⟩, ⟨_, h3, g3⟩, ⟨_, h4, g4⟩, ⟨_, h5, g5⟩, ⟨_, h6, g6⟩, trivial⟩
theorem S8 {π : Nat → Option Nat} {σ : St} {t0 t1 t2 t3 t4 t5 t6 t7 : Nat} {s0 u0 s1 u1 s2 u2 s3 u3 s4 u4 s5 u5 s6 u6 s7 u7 : Slot} (h0 : renS π s0 = some u0) (g0 : σ.slots t0 = some u0) (h1 : renS π s1 = some u1) (g1 : σ.slots t1 = some u1) (h2 : renS π s2 = some u2) (g2 : σ.slots t2 = some u2) (h3 : renS π s3 = some u3) (g3 : σ.slots t3 = some u3) (h4 : renS π s4 = some u4) (g4 : σ.slots t4 = some u4) (h5 : renS π s5 = some u5) (g5 : σ.slots t5 = some u5) (h6 : renS π s6 = some u6) (g6 : σ.slots t6 = some u6) (h7 : renS π s7 = some u7) (g7 : σ.slots t7 = some u7) : SlotsOk π σ [(t0, s0), (t1, s1), (t2, s2), (t3, s3), (t4, s4), (t5, s5), (t6, s6), (t7, s7)] := ⟨⟨_, h0, g0⟩, ⟨_, h1, g1⟩, ⟨_, h2, g2⟩, ⟨_, h3, g3⟩, ⟨_, h4, g4⟩, ⟨_, h5, g5⟩, ⟨_, h6, g6⟩, ⟨_, h7, g7⟩, trivial⟩
theorem S9 {π : Nat → Option Nat} {σ : St} {t0 t1 t2 t3 t4 t5 t6 t7 t8 : Nat} {s0 u0 s1 u1 s2 u2 s3 u3 s4 u4 s5 u5 s6 u6 s7 u7 s8 u8 : Slot} (h0 : renS π s0 = some u0) (g0 : σ.slots t0 = some u0) (h1 : renS π s1 = some u1) (g1 : σ.slots t1 = some u1) (h2 : renS π s2 = some u2) (g2 : σ.slots t2 = some u2) (h3 : renS π s3 = some u3) (g3 : σ.slots t3 = some u3) (h4 : renS π s4 = some u4) (g4 : σ.slots t4 = some u4) (h5 : renS π s5 = some u5) (g5 : σ.slots t5 = some u5) (h6 : renS π s6 = some u6) (g6 : σ.slots t6 = some u6) (h7 : renS π s7 = some u7) (g7 : σ.slots t7 = some u7) (h8 : renS π s8 = some u8) (g8 : σ.slots t8 = some u8) : SlotsOk π σ [(t0, s0), (t1, s1), (t2, s2), (t3, s3), (t4, s4), (t5, s5), (t6, s6), (t7, s7), (t8, s8)] := ⟨⟨_, h0, g0⟩, ⟨_, h1, g1⟩, ⟨_, h2, g2⟩, ⟨_, h3, g3⟩, ⟨_, h4, g4⟩, ⟨_, h5, g5⟩, ⟨_, h6, g6⟩, ⟨_, h7, g7⟩, ⟨_, h8, g8⟩, trivial⟩
theorem S10 {π : Nat → Option Nat} {σ : St} {t0 t1 t2 t3 t4 t5 t6 t7 t8 t9 : Nat} {s0 u0 s1 u1 s2 u2 s3 u3 s4 u4 s5 u5 s6 u6 s7 u7 s8 u8 s9 u9 : Slot} (h0 : renS π s0 = some u0) (g0 : σ.slots t0 = some u0) (h1 : renS π s1 = some u1) (g1 : σ.slots t1 = some u1) (h2 : renS π s2 = some u2) (g2 : σ.slots t2 = some u2) (h3 : renS π s3 = some u3) (g3 : σ.slots t3 = some u3) (h4 : renS π s4 = some u4) (g4 : σ.slots t4 = some u4) (h5 : renS π s5 = some u5) (g5 : σ.slots t5 = some u5) (h6 : renS π s6 = some u6) (g6 : σ.slots t6 = some u6) (h7 : renS π s7 = some u7) (g7 : σ.slots t7 = some u7) (h8 : renS π s8 = some u8) (g8 : σ.slots t8 = some u8) (h9 : renS π s9 = some u9) (g9 : σ.slots t9 = some u9) : SlotsOk π σ [(t0, s0), (t1, s1), (t2, s2), (t3, s3), (t4, s4), (t5, s5), (t6, s6), (t7, s7), (t8, s8), (t9, s9)] := ⟨⟨_, h0, g0⟩, ⟨_, h1, g1⟩, ⟨_, h2, g2⟩, ⟨_, h3, g3⟩, ⟨_, h4, g4⟩, ⟨_, h5, g5⟩, ⟨_, h6, g6⟩, ⟨_, h7, g7⟩, ⟨_, h8, g8⟩, ⟨_, h9, g9⟩, trivial⟩
theorem S11 {π : Nat → Option Nat} {σ : St} {t0 t1 t2 t3 t4 t5 t6 t7 t8 t9 t10 : Nat} {s0 u0 s1 u1 s2 u2 s3 u3 s4 u4 s5 u5 s6 u6 s7 u7 s8 u8 s9 u9 s10 u10 : Slot} (h0 : renS π s0 = some u0) (g0 : σ.slots t0 = some u0) (h1 : renS π s1 = some u1) (g1 : σ.slots t1 = some u1) (h2 : renS π s2 = some u2) (g2 : σ.slots t2 = some u2) (h3 : renS π s3 = some u3) (g3 : σ.slots t3 = some u3) (h4 : renS π s4 = some u4) (g4 : σ.slots t4 = some u4) (h5 : renS π s5 = some u5) (g5 : σ.slots t5 = some u5) (h6 : renS π s6 = some u6) (g6 : σ.slots t6 = some u6) (h7 : renS π s7 = some u7) (g7 : σ.slots t7 = some u7) (h8 : renS π s8 = some u8) (g8 : σ.slots t8 = some u8) (h9 : renS π s9 = some u9) (g9 : σ.slots t9 = some u9) (h10 : renS π s10 = some u10) (g10 : σ.slots t10 = some u10) : SlotsOk π σ [(t0, s0), (t1, s1), (t2, s2), (t3, s3), (t4, s4), (t5, s5), (t6, s6), (t7, s7), (t8, s8), (t9, s9), (t10, s10)] := ⟨⟨_, h0, g0⟩, ⟨_, h1, g1⟩, ⟨_, h2, g2⟩, ⟨_, h3, g3⟩, ⟨_, h4, g4⟩, ⟨_, h5, g5⟩, ⟨_, h6, g6⟩, ⟨_, h7, g7⟩, ⟨_, h8, g8⟩, ⟨_, h9, g9⟩, ⟨_, h10, g10⟩, trivial⟩
theorem S12 {π : Nat → Option Nat} {σ : St} {t0 t1 t2 t3 t4 t5 t6 t7 t8 t9 t10 t11 : Nat} {s0 u0 s1 u1 s2 u2 s3 u3 s4 u4 s5 u5 s6 u6 s7 u7 s8 u8 s9 u9 s10 u10 s11 u11 : Slot} (h0 : renS π s0 = some u0) (g0 : σ.slots t0 = some u0) (h1 : renS π s1 = some u1) (g1 : σ.slots t1 = some u1) (h2 : renS π s2 = some u2) (g2 : σ.slots t2 = some u2) (h3 : renS π s3 = some u3) (g3 : σ.slots t3 = some u3) (h4 : renS π s4 = some u4) (g4 : σ.slots t4 = some u4) (h5 : renS π s5 = some u5) (g5 : σ.slots t5 = some u5) (h6 : renS π s6 = some u6) (g6 : σ.slots t6 = some u6) (h7 : renS π s7 = some u7) (g7 : σ.slots t7 = some u7) (h8 : renS π s8 = some u8) (g8 : σ.slots t8 = some u8) (h9 : renS π s9 = some u9) (g9 : σ.slots t9 = some u9) (h10 : renS π s10 = some u10) (g10 : σ.slots t10 = some u10) (h11 : renS π s11 = some u11) (g11 : σ.slots t11 = some u11) : SlotsOk π σ [(t0, s0), (t1, s1), (t2, s2), (t3, s3), (t4, s4), (t5, s5), (t6, s6), (t7, s7), (t8, s8), (t9, s9), (t10, s10), (t11, s11)] := ⟨⟨_, h0, g0⟩, ⟨_, h1, g1⟩, ⟨_, h2, g2⟩, ⟨_, h3, g3⟩, ⟨_, h4, g4⟩, ⟨_, h5, g5⟩, ⟨_, h6, g6⟩, ⟨_, h7, g7⟩, ⟨_, h8, g8⟩, ⟨_, h9, g9⟩, ⟨_, h10, g10⟩, ⟨_, h11, g11⟩, trivial⟩
theorem S13 {π : Nat → Option Nat} {σ : St} {t0 t1 t2 t3 t4 t5 t6 t7 t8 t9 t10 t11 t12 : Nat} {s0 u0 s1 u1 s2 u2 s3 u3 s4 u4 s5 u5 s6 u6 s7 u7 s8 u8 s9 u9 s10 u10 s11 u11 s12 u12 : Slot} (h0 : renS π s0 = some u0) (g0 : σ.slots t0 = some u0) (h1 : renS π s1 = some u1) (g1 : σ.slots t1 = some u1) (h2 : renS π s2 = some u2) (g2 : σ.slots t2 = some u2) (h3 : renS π s3 = some u3) (g3 : σ.slots t3 = some u3) (h4 : renS π s4 = some u4) (g4 : σ.slots t4 = some u4) (h5 : renS π s5 = some u5) (g5 : σ.slots t5 = some u5) (h6 : renS π s6 = some u6) (g6 : σ.slots t6 = some u6) (h7 : renS π s7 = some u7) (g7 : σ.slots t7 = some u7) (h8 : renS π s8 = some u8) (g8 : σ.slots t8 = some u8) (h9 : renS π s9 = some u9) (g9 : σ.slots t9 = some u9) (h10 : renS π s10 = some u10) (g10 : σ.slots t10 = some u10) (h11 : renS π s11 = some u11) (g11 : σ.slots t11 = some u11) (h12 : renS π s12 = some u12) (g12 : σ.slots t12 = some u12) : SlotsOk π σ [(t0, s0), (t1, s1), (t2, s2), (t3, s3), (t4, s4), (t5, s5), (t6, s6), (t7, s7), (t8, s8), (t9, s9), (t10, s10), (t11, s11), (t12, s12)] := ⟨⟨_, h0, g0⟩, ⟨_, h1, g1⟩, ⟨_, h2, g2⟩, ⟨_, h3, g3⟩, ⟨_, h4, g4⟩, ⟨_, h5, g5⟩, ⟨_, h6, g6⟩, ⟨_, h7, g7⟩, ⟨_, h8, g8⟩, ⟨_, h9, g9⟩, ⟨_, h10, g10⟩, ⟨_, h11, g11⟩, ⟨_, h12, g12⟩, trivial⟩
theorem S14 {π : Nat → Option Nat} {σ : St} {t0 t1 t2 t3 t4 t5 t6 t7 t8 t9 t10 t11 t12 t13 : Nat} {s0 u0 s1 u1 s2 u2 s3 u3 s4 u4 s5 u5 s6 u6 s7 u7 s8 u8 s9 u9 s10 u10 s11 u11 s12 u12 s13 u13 : Slot} (h0 : renS π s0 = some u0) (g0 : σ.slots t0 = some u0) (h1 : renS π s1 = some u1) (g1 : σ.slots t1 = some u1) (h2 : renS π s2 = some u2) (g2 : σ.slots t2 = some u2) (h3 : renS π s3 = some u3) (g3 : σ.slots t3 = some u3) (h4 : renS π s4 = some u4) (g4 : σ.slots t4 = some u4) (h5 : renS π s5 = some u5) (g5 : σ.slots t5 = some u5) (h6 : renS π s6 = some u6) (g6 : σ.slots t6 = some u6) (h7 : renS π s7 = some u7) (g7 : σ.slots t7 = some u7) (h8 : renS π s8 = some u8) (g8 : σ.slots t8 = some u8) (h9 : renS π s9 = some u9) (g9 : σ.slots t9 = some u9) (h10 : renS π s10 = some u10) (g10 : σ.slots t10 = some u10) (h11 : renS π s11 = some u11) (g11 : σ.slots t11 = some u11) (h12 : renS π s12 = some u12) (g12 : σ.slots t12 = some u12) (h13 : renS π s13 = some u13) (g13 : σ.slots t13 = some u13) : SlotsOk π σ [(t0, s0), (t1, s1), (t2, s2), (t3, s3), (t4, s4), (t5, s5), (t6, s6), (t7, s7), (t8, s8), (t9, s9), (t10, s10), (t11, s11), (t12, s12), (t13, s13)] := ⟨⟨_, h0, g0⟩, ⟨_, h1, g1⟩, ⟨_, h2, g2⟩, ⟨_, h3, g3⟩, ⟨_, h4, g4⟩, ⟨_, h5, g5⟩, ⟨_, h6, g6⟩, ⟨_, h7, g7⟩, ⟨_, h8, g8⟩, ⟨_, h9, g9⟩, ⟨_, h10, g10⟩, ⟨_, h11, g11⟩, ⟨_, h12, g12⟩, ⟨_, h13, g13⟩, trivial⟩
theorem B2 {π : Nat → Option Nat} {σ : St} {k0 q0 k1 q1 : Nat} {c0 d0 c1 d1 : List Cell} (h0 : π k0 = some q0) (g0 : renCs π c0 = some d0) (e0 : σ.H.boxes q0 = some d0) (h1 : π k1 = some q1) (g1 : renCs π c1 = some d1) (e1 : σ.H.boxes q1 = some d1) : BoxesOk π σ [(k0, c0), (k1, c1)] := ⟨⟨_, _, h0, g0, e0⟩, ⟨_, _, h1, g1, e1⟩, trivial⟩
theorem B3 {π : Nat → Option Nat} {σ : St} {k0 q0 k1 q1 k2 q2 : Nat} {c0 d0 c1 d1 c2 d2 : List Cell} (h0 : π k0 = some q0) (g0 : renCs π c0 = some d0) (e0 : σ.H.boxes q0 = some d0) (h1 : π k1 = some q1) (g1 : renCs π c1 = some d1) (e1 : σ.H.boxes q1 = some d1) (h2 : π k2 = some q2) (g2 : renCs π c2 = some d2) (e2 : σ.H.boxes q2 = some d2) : BoxesOk π σ [(k0, c0), (k1, c1), (k2, c2)] := ⟨⟨_, _, h0, g0, e0⟩, ⟨_, _, h1, g1, e1⟩, ⟨_, _, h2, g2, e2⟩, trivial⟩
theorem B4 {π : Nat → Option Nat} {σ : St} {k0 q0 k1 q1 k2 q2 k3 q3 : Nat} {c0 d0 c1 d1 c2 d2 c3 d3 : List Cell} (h0 : π k0 = some q0) (g0 : renCs π c0 = some d0) (e0 : σ.H.boxes q0 = some d0) (h1 : π k1 = some q1) (g1 : renCs π c1 = some d1) (e1 : σ.H.boxes q1 = some d1) (h2 : π k2 = some q2) (g2 : renCs π c2 = some d2) (e2 : σ.H.boxes q2 = some d2) (h3 : π k3 = some q3) (g3 : renCs π c3 = some d3) (e3 : σ.H.boxes q3 = some d3) : BoxesOk π σ [(k0, c0), (k1, c1), (k2, c2), (k3, c3)] := ⟨⟨_, _, h0, g0, e0⟩, ⟨_, _, h1, g1, e1⟩, ⟨_, _, h2, g2, e2⟩, ⟨_, _, h3, g3, e3⟩, trivial⟩
theorem B5 {π : Nat → Option Nat} {σ : St} {k0 q0 k1 q1 k2 q2 k3 q3 k4 q4 : Nat} {c0 d0 c1 d1 c2 d2 c3 d3 c4 d4 : List Cell} (h0 : π k0 = some q0) (g0 : renCs π c0 = some d0) (e0 : σ.H.boxes q0 = some d0) (h1 : π k1 = some q1) (g1 : renCs π c1 = some d1) (e1 : σ.H.boxes q1 = some d1) (h2 : π k2 = some q2) (g2 : renCs π c2 = some d2) (e2 : σ.H.boxes q2 = some d2) (h3 : π k3 = some q3) (g3 : renCs π c3 = some d3) (e3 : σ.H.boxes q3 = some d3) (h4 : π k4 = some q4) (g4 : renCs π c4 = some d4) (e4 : σ.H.boxes q4 = some d4) : BoxesOk π σ [(k0, c0), (k1, c1), (k2, c2), (k3, c3), (k4, c4)] := ⟨⟨_, _, h0, g0, e0⟩, ⟨_, _, h1, g1, e1⟩, ⟨_, _, h2, g2, e2⟩, ⟨_, _, h3, g3, e3⟩, ⟨_, _, h4, g4, e4⟩, trivial⟩
theorem B6 {π : Nat → Option Nat} {σ : St} {k0 q0 k1 q1 k2 q2 k3 q3 k4 q4 k5 q5 : Nat} {c0 d0 c1 d1 c2 d2 c3 d3 c4 d4 c5 d5 : List Cell} (h0 : π k0 = some q0) (g0 : renCs π c0 = some d0) (e0 : σ.H.boxes q0 = some d0) (h1 : π k1 = some q1) (g1 : renCs π c1 = some d1) (e1 : σ.H.boxes q1 = some d1) (h2 : π k2 = some q2) (g2 : renCs π c2 = some d2) (e2 : σ.H.boxes q2 = some d2) (h3 : π k3 = some q3) (g3 : renCs π c3 = some d3) (e3 : σ.H.boxes q3 = some d3) (h4 : π k4 = some q4) (g4 : renCs π c4 = some d4) (e4 : σ.H.boxes q4 = some d4) (h5 : π k5 = some q5) (g5 : renCs π c5 = some d5) (e5 : σ.H.boxes q5 = some d5) : BoxesOk π σ [(k0, c0), (k1, c1), (k2, c2), (k3, c3), (k4, c4), (k5, c5)] := ⟨⟨_, _, h0, g0, e0⟩, ⟨_, _, h1, g1, e1⟩, ⟨_, _, h2, g2, e2⟩, ⟨_, _, h3, g3, e3⟩, ⟨_, _, h4, g4, e4⟩, ⟨_, _, h5, g5, e5⟩, trivial⟩
/-! ### Flaws_big -/
def Flaws_big (k : Nat) (a0 : List UInt8) : Option Bool := some (decide ((a0.length : Int) > (1048576 : Int)))
theorem ent32 : Enters Try.prog 32 := ⟨Try.f32, Try.func32, rfl, by decide⟩
set_option maxHeartbeats 8000000 in
set_option maxRecDepth 100000 in
theorem Flaws_big_gives (k : Nat) (g0 : Bool) (a0 : List UInt8) (r : Bool) (H : Flaws_big k a0 = some r) : Gives Try.prog 32 [V.one (Cell.sl g0 (List.map eB a0))] [] [V.one (cL r)] [] := by
  refine Gives.intro Try.func32 rfl rfl rfl rfl ?_
  intro F hF hm
  unfold Flaws_big at H
  obtain ⟨K, hK⟩ : ∃ K, k ≤ K := ⟨k, Nat.le_refl k⟩
  refine WpC.seq ?_
  refine WpC.regionL ?_
  refine L.assign hF rfl rfl rfl ?_
  refine L.nil ?_
  refine WpC.seq ?_
  refine WpC.regionL ?_
  refine L.move hF rfl rfl rfl ?_
  refine L.lenR (xs := a0) (e := eB) Try.underlying35 hF rfl rfl rfl rfl ?_
  refine L.bin hF rfl rfl rfl rfl rfl rfl ?_
  refine L.assign hF rfl rfl rfl ?_
  refine L.nil ?_
  refine WpC.ret ?_
  cases H
  exact Leaves.ret rfl rfl rfl ⟨rfl, rfl⟩
/-! ### Fspec_l1New -/
def Fspec_l1New.j2 (k : Nat) (v15 : List UInt8) (v16 : Int) : Option Tspec_l1Cur := some (⟨v15, (0 : Int), v16⟩ : Tspec_l1Cur)
def Fspec_l1New.l3 : Nat → (List UInt8) → Int → Int → Option Tspec_l1Cur
  | 0, _, _, _ => none
  | k3 + 1, v26, v27, v28 => cond (decide (v28 < (v26.length : Int))) (cond (decide (v28 < (4000 : Int))) ((at? v26 v28).bind fun b30 => (Fspec_l1New.l3 k3) v26 (Go.bits .and .i64 (IntKind.i64.wrap ((IntKind.i64.wrap ((IntKind.i64.wrap (v27 * (131 : Int))) + (b30.toNat : Int))) + (7 : Int))) (1073741823 : Int)) (IntKind.i64.wrap (v28 + (1 : Int)))) (Fspec_l1New.j2 k3 v26 v27)) (Fspec_l1New.j2 k3 v26 v27)
def Fspec_l1New (k : Nat) (a0 : List UInt8) : Option Tspec_l1Cur := Fspec_l1New.l3 k a0 (IntKind.i64.wrap ((10101 : Int) + (a0.length : Int))) (0 : Int)
theorem ent95 : Enters Try.prog 95 := ⟨Try.f95, Try.func95, rfl, by decide⟩
set_option maxHeartbeats 8000000 in
set_option maxRecDepth 100000 in
theorem Fspec_l1New_gives (k : Nat) (a0 : List UInt8) (r : Tspec_l1Cur) (H : Fspec_l1New k a0 = some r) : Gives Try.prog 95 [V.one (Cell.sl true (List.map eB a0))] [] [V.one (Cell.bx [Cell.sl true (List.map eB r.b), cI r.i, cI r.h])] [] := by
  refine Gives.intro Try.func95 rfl rfl rfl rfl ?_
  intro F hF hm
  unfold Fspec_l1New at H
  obtain ⟨K, hK⟩ : ∃ K, k ≤ K := ⟨k, Nat.le_refl k⟩
  refine WpC.seq ?_
  refine WpC.regionL ?_
  refine L.assign hF rfl rfl rfl ?_
  refine L.nil ?_
  refine WpC.seq ?_
  refine WpC.regionL ?_
  refine L.move hF rfl rfl rfl ?_
  refine L.lenR (xs := a0) (e := eB) Try.underlying35 hF rfl rfl rfl rfl ?_
  refine L.bin hF rfl rfl rfl rfl rfl rfl ?_
  refine L.assign hF rfl rfl rfl ?_
  refine L.nil ?_
  refine WpC.join (fun σ => ∃ kj2 : Nat, ∃ v15 : List UInt8, ∃ v16 : Int, kj2 ≤ K ∧ Fspec_l1New.j2 kj2 v15 v16 = some r ∧ σ = mkSt [(0, one (Cell.sl true (List.map eB v15))), (3, one (cI v16))] [] [] 0) ?_ ?_
  · rintro _ ⟨kj2, v15, v16, hkj2, H, rfl⟩
    unfold Fspec_l1New.j2 at H
    refine WpC.seq ?_
    refine WpC.regionL ?_
    refine L.move hF rfl rfl rfl ?_
    refine L.move hF rfl rfl rfl ?_
    refine L.buildF built162 hF rfl rfl rfl rfl ?_
    refine L.box 0 hF rfl rfl rfl rfl ?_
    refine L.assign hF rfl rfl rfl ?_
    refine L.nil ?_
    refine WpC.ret ?_
    cases H
    exact Leaves.ret rfl rfl rfl ⟨rfl, rfl⟩
  · refine WpC.seq ?_
    refine WpC.regionL ?_
    refine L.assign hF rfl rfl rfl ?_
    refine L.nil ?_
    refine WpC.block ?_
    refine WpC.loopL (P := Try.prog) (fun n σ => ∃ v26 : List UInt8, ∃ v27 : Int, ∃ v28 : Int, n ≤ K ∧ Fspec_l1New.l3 n v26 v27 v28 = some r ∧ σ = mkSt [(0, one (Cell.sl true (List.map eB v26))), (3, one (cI v27)), (4, one (cI v28))] [] [] 0) k ⟨_, ⟨a0, (IntKind.i64.wrap ((10101 : Int) + (a0.length : Int))), (0 : Int), by omega, H, rfl⟩, Le.mk [] hm rfl ⟨⟨_, rfl, rfl⟩, ⟨_, rfl, rfl⟩, ⟨_, rfl, rfl⟩, trivial⟩ trivial trivial⟩ ?_
    clear H
    rintro k3 _ ⟨v26, v27, v28, hk3, H, rfl⟩
    cases k3 with
    | zero => cases H
    | succ k3 =>
      rw [Fspec_l1New.l3] at H
      refine WpC.seq ?_
      refine WpC.seq ?_
      refine WpC.regionL ?_
      refine L.move hF rfl rfl rfl ?_
      refine L.move hF rfl rfl rfl ?_
      refine L.lenR (xs := v26) (e := eB) Try.underlying35 hF rfl rfl rfl rfl ?_
      refine L.bin hF rfl rfl rfl rfl rfl rfl ?_
      refine L.move hF rfl rfl rfl ?_
      refine L.split (fun hc => ?_) (fun hc => ?_)
      · replace H := condT hc H
        refine L.move hF rfl rfl rfl ?_
        refine L.bin hF rfl rfl rfl rfl rfl rfl ?_
        refine L.pick hF rfl rfl rfl rfl ?_
        refine L.nil ?_
        refine WpC.cond rfl (fun hc => ?_) (fun hc => ?_)
        · replace H := condT hc H
          refine WpC.skip ?_
          refine WpC.seq ?_
          refine WpC.block ?_
          refine WpC.regionL ?_
          refine L.move hF rfl rfl rfl ?_
          refine L.bin hF rfl rfl rfl rfl rfl rfl ?_
          refine L.move hF rfl rfl rfl ?_
          refine L.move hF rfl rfl rfl ?_
          obtain ⟨b30, hb30, H⟩ := bindS H
          refine L.idxR (xs := v26) (e := eB) Try.underlying35 info5 hF rfl rfl rfl rfl rfl hb30 rfl rfl ?_
          refine L.loadPe shape5 hF rfl rfl rfl rfl rfl ?_
          refine L.ofB Try.underlying5 Try.underlying3 hF rfl rfl rfl ?_
          refine L.bin hF rfl rfl rfl rfl rfl rfl ?_
          refine L.bin hF rfl rfl rfl rfl rfl rfl ?_
          refine L.bin hF rfl rfl rfl rfl rfl rfl ?_
          refine L.assign hF rfl rfl rfl ?_
          refine L.nil ?_
          refine WpC.regionL ?_
          refine L.move hF rfl rfl rfl ?_
          refine L.bin hF rfl rfl rfl rfl rfl rfl ?_
          refine L.assign hF rfl rfl rfl ?_
          refine L.nil ?_
          exact ⟨k3, _, by omega, ⟨v26, (Go.bits .and .i64 (IntKind.i64.wrap ((IntKind.i64.wrap ((IntKind.i64.wrap (v27 * (131 : Int))) + (b30.toNat : Int))) + (7 : Int))) (1073741823 : Int)), (IntKind.i64.wrap (v28 + (1 : Int))), by omega, H, rfl⟩, Le.mk [] hm rfl ⟨⟨_, rfl, rfl⟩, ⟨_, rfl, rfl⟩, ⟨_, rfl, rfl⟩, trivial⟩ trivial trivial⟩
        · replace H := condF hc H
          refine WpC.exit ?_
          exact ⟨_, ⟨k3, v26, v27, by omega, H, rfl⟩, Le.mk [] hm rfl ⟨⟨_, rfl, rfl⟩, ⟨_, rfl, rfl⟩, trivial⟩ trivial trivial⟩
      · replace H := condF hc H
        refine L.off hF rfl rfl ?_
        refine L.off hF rfl rfl ?_
        refine L.pick hF rfl rfl rfl rfl ?_
        refine L.nil ?_
        refine WpC.cond rfl (fun hc => by cases hc) (fun _ => ?_)
        refine WpC.exit ?_
        exact ⟨_, ⟨k3, v26, v27, by omega, H, rfl⟩, Le.mk [] hm rfl ⟨⟨_, rfl, rfl⟩, ⟨_, rfl, rfl⟩, trivial⟩ trivial trivial⟩
/-! ### Fspec_l1Byte -/
def Fspec_l1Byte (k : Nat) (o0 : Tspec_l1Cur) : Option (Int × Tspec_l1Cur) := cond (decide (o0.i < (o0.b.length : Int))) ((at? o0.b o0.i).bind fun b2 => some ((Go.bits .and .i64 (IntKind.i64.wrap ((Go.bits .and .i64 (Go.bits .xor .i64 (shrI .i64 (IntKind.i64.wrap ((IntKind.i64.wrap (o0.h * (6364136223846793005 : Int))) + (1442695040888963407 : Int))) (33 : Int)) (shrI .i64 (IntKind.i64.wrap ((IntKind.i64.wrap (o0.h * (6364136223846793005 : Int))) + (1442695040888963407 : Int))) (45 : Int))) (255 : Int)) + (b2.toNat : Int))) (255 : Int)), (⟨o0.b, (IntKind.i64.wrap (o0.i + (1 : Int))), (IntKind.i64.wrap ((IntKind.i64.wrap (o0.h * (6364136223846793005 : Int))) + (1442695040888963407 : Int)))⟩ : Tspec_l1Cur))) (some ((Go.bits .and .i64 (Go.bits .xor .i64 (shrI .i64 (IntKind.i64.wrap ((IntKind.i64.wrap (o0.h * (6364136223846793005 : Int))) + (1442695040888963407 : Int))) (33 : Int)) (shrI .i64 (IntKind.i64.wrap ((IntKind.i64.wrap (o0.h * (6364136223846793005 : Int))) + (1442695040888963407 : Int))) (45 : Int))) (255 : Int)), (⟨o0.b, o0.i, (IntKind.i64.wrap ((IntKind.i64.wrap (o0.h * (6364136223846793005 : Int))) + (1442695040888963407 : Int)))⟩ : Tspec_l1Cur)))
theorem ent148 : Enters Try.prog 148 := ⟨Try.f148, Try.func148, rfl, by decide⟩
set_option maxHeartbeats 8000000 in
set_option maxRecDepth 100000 in
theorem Fspec_l1Byte_gives (k : Nat) (o0 : Tspec_l1Cur) (r : Int × Tspec_l1Cur) (H : Fspec_l1Byte k o0 = some r) : Gives Try.prog 148 [V.one (Cell.ptr 0 0)] [[Cell.sl true (List.map eB o0.b), cI o0.i, cI o0.h]] [V.one (cI r.1)] [[Cell.sl true (List.map eB r.2.b), cI r.2.i, cI r.2.h]] := by
  refine Gives.intro Try.func148 rfl rfl rfl rfl ?_
  intro F hF hm
  unfold Fspec_l1Byte at H
  obtain ⟨K, hK⟩ : ∃ K, k ≤ K := ⟨k, Nat.le_refl k⟩
  refine WpC.seq ?_
  refine WpC.regionL ?_
  refine L.assign hF rfl rfl rfl ?_
  refine L.nil ?_
  refine WpC.seq ?_
  refine WpC.regionL ?_
  refine L.move hF rfl rfl rfl ?_
  refine L.move hF rfl rfl rfl ?_
  refine L.nilCheck hF rfl rfl rfl rfl ?_
  refine L.fieldAddr Try.underlying162 rfl info3 rfl hF rfl rfl rfl rfl rfl ?_
  refine L.loadPtr shape3 hF rfl rfl rfl rfl rfl rfl ?_
  refine L.bin hF rfl rfl rfl rfl rfl rfl ?_
  refine L.bin hF rfl rfl rfl rfl rfl rfl ?_
  refine L.nilCheck hF rfl rfl rfl rfl ?_
  refine L.fieldAddr Try.underlying162 rfl info3 rfl hF rfl rfl rfl rfl rfl ?_
  refine L.storePtr shape3 hF rfl rfl rfl rfl rfl rfl rfl ?_
  refine L.nil ?_
  refine WpC.seq ?_
  refine S.begin mixed (by kernel_rfl) ?_
  refine S.st 0 rfl rfl ((Ca.move).quiet) (fun Q0 k0 => L.move hF rfl rfl rfl (L.nil k0)) ?_
  refine S.st 1 rfl rfl ((Ca.nilCheck rfl rfl).quiet) (fun Q0 k0 => L.nilCheck hF rfl rfl rfl rfl (L.nil k0)) ?_
  refine S.st 2 rfl rfl ((Ca.fieldAddr Try.underlying162 rfl info3 rfl).quiet) (fun Q0 k0 => L.fieldAddr Try.underlying162 rfl info3 rfl hF rfl rfl rfl rfl rfl (L.nil k0)) ?_
  refine S.st 3 rfl rfl (Qu.load) (fun Q0 k0 => L.loadPtr shape3 hF rfl rfl rfl rfl rfl rfl (L.nil k0)) ?_
  refine S.st 4 rfl rfl ((Ca.bin rfl rfl (calm_int _ _ _ _ _ _ _ _)).quiet) (fun Q0 k0 => L.shr hF rfl rfl rfl rfl (by decide) (L.nil k0)) ?_
  refine S.st 5 rfl rfl ((Ca.move).quiet) (fun Q0 k0 => L.move hF rfl rfl rfl (L.nil k0)) ?_
  refine S.st 6 rfl rfl ((Ca.nilCheck rfl rfl).quiet) (fun Q0 k0 => L.nilCheck hF rfl rfl rfl rfl (L.nil k0)) ?_
  refine S.st 7 rfl rfl ((Ca.fieldAddr Try.underlying162 rfl info3 rfl).quiet) (fun Q0 k0 => L.fieldAddr Try.underlying162 rfl info3 rfl hF rfl rfl rfl rfl rfl (L.nil k0)) ?_
  refine S.st 8 rfl rfl (Qu.load) (fun Q0 k0 => L.loadPtr shape3 hF rfl rfl rfl rfl rfl rfl (L.nil k0)) ?_
  refine S.st 9 rfl rfl ((Ca.bin rfl rfl (calm_int _ _ _ _ _ _ _ _)).quiet) (fun Q0 k0 => L.shr hF rfl rfl rfl rfl (by decide) (L.nil k0)) ?_
  refine S.st 10 rfl rfl ((Ca.bin rfl rfl (calm_int _ _ _ _ _ _ _ _)).quiet) (fun Q0 k0 => L.bin hF rfl rfl rfl rfl rfl rfl (L.nil k0)) ?_
  refine S.st 11 rfl rfl ((Ca.bin rfl rfl (calm_int _ _ _ _ _ _ _ _)).quiet) (fun Q0 k0 => L.bin hF rfl rfl rfl rfl rfl rfl (L.nil k0)) ?_
  refine S.st 12 rfl rfl ((Ca.assign).quiet) (fun Q0 k0 => L.assign hF rfl rfl rfl (L.nil k0)) ?_
  refine S.nil ?_
  refine WpC.seq ?_
  refine WpC.seq ?_
  refine S.begin mixed (by kernel_rfl) ?_
  refine S.st 0 rfl rfl ((Ca.move).quiet) (fun Q0 k0 => L.move hF rfl rfl rfl (L.nil k0)) ?_
  refine S.st 1 rfl rfl ((Ca.nilCheck rfl rfl).quiet) (fun Q0 k0 => L.nilCheck hF rfl rfl rfl rfl (L.nil k0)) ?_
  refine S.st 2 rfl rfl ((Ca.fieldAddr Try.underlying162 rfl info3 rfl).quiet) (fun Q0 k0 => L.fieldAddr Try.underlying162 rfl info3 rfl hF rfl rfl rfl rfl rfl (L.nil k0)) ?_
  refine S.st 3 rfl rfl (Qu.load) (fun Q0 k0 => L.loadPtr shape3 hF rfl rfl rfl rfl rfl rfl (L.nil k0)) ?_
  refine S.st 4 rfl rfl ((Ca.move).quiet) (fun Q0 k0 => L.move hF rfl rfl rfl (L.nil k0)) ?_
  refine S.st 5 rfl rfl ((Ca.nilCheck rfl rfl).quiet) (fun Q0 k0 => L.nilCheck hF rfl rfl rfl rfl (L.nil k0)) ?_
  refine S.st 6 rfl rfl ((Ca.fieldAddr Try.underlying162 rfl info35 rfl).quiet) (fun Q0 k0 => L.fieldAddr Try.underlying162 rfl info35 rfl hF rfl rfl rfl rfl rfl (L.nil k0)) ?_
  refine S.st 7 rfl rfl (Qu.load) (fun Q0 k0 => L.loadPtr shape35 hF rfl rfl rfl rfl rfl rfl (L.nil k0)) ?_
  refine S.st 8 rfl rfl ((Ca.lenR (xs := o0.b) (e := eB) Try.underlying35 rfl rfl).quiet) (fun Q0 k0 => L.lenR (xs := o0.b) (e := eB) Try.underlying35 hF rfl rfl rfl rfl (L.nil k0)) ?_
  refine S.st 9 rfl rfl ((Ca.bin rfl rfl (calm_int _ _ _ _ _ _ _ _)).quiet) (fun Q0 k0 => L.bin hF rfl rfl rfl rfl rfl rfl (L.nil k0)) ?_
  refine S.nil ?_
  refine WpC.cond rfl (fun hc => ?_) (fun hc => ?_)
  · replace H := condT hc H
    refine WpC.seq ?_
    refine S.begin mixed (by kernel_rfl) ?_
    refine S.st 0 rfl rfl ((Ca.move).quiet) (fun Q0 k0 => L.move hF rfl rfl rfl (L.nil k0)) ?_
    refine S.st 1 rfl rfl ((Ca.move).quiet) (fun Q0 k0 => L.move hF rfl rfl rfl (L.nil k0)) ?_
    refine S.st 2 rfl rfl ((Ca.nilCheck rfl rfl).quiet) (fun Q0 k0 => L.nilCheck hF rfl rfl rfl rfl (L.nil k0)) ?_
    refine S.st 3 rfl rfl ((Ca.fieldAddr Try.underlying162 rfl info35 rfl).quiet) (fun Q0 k0 => L.fieldAddr Try.underlying162 rfl info35 rfl hF rfl rfl rfl rfl rfl (L.nil k0)) ?_
    refine S.st 4 rfl rfl (Qu.load) (fun Q0 k0 => L.loadPtr shape35 hF rfl rfl rfl rfl rfl rfl (L.nil k0)) ?_
    refine S.st 5 rfl rfl ((Ca.move).quiet) (fun Q0 k0 => L.move hF rfl rfl rfl (L.nil k0)) ?_
    refine S.st 6 rfl rfl ((Ca.nilCheck rfl rfl).quiet) (fun Q0 k0 => L.nilCheck hF rfl rfl rfl rfl (L.nil k0)) ?_
    refine S.st 7 rfl rfl ((Ca.fieldAddr Try.underlying162 rfl info3 rfl).quiet) (fun Q0 k0 => L.fieldAddr Try.underlying162 rfl info3 rfl hF rfl rfl rfl rfl rfl (L.nil k0)) ?_
    refine S.st 8 rfl rfl (Qu.load) (fun Q0 k0 => L.loadPtr shape3 hF rfl rfl rfl rfl rfl rfl (L.nil k0)) ?_
    obtain ⟨b2, hb2, H⟩ := bindS H
    refine S.st 9 rfl rfl ((Ca.indexAddr).quiet) (fun Q0 k0 => L.idxR (xs := o0.b) (e := eB) Try.underlying35 info5 hF rfl rfl rfl rfl rfl hb2 rfl rfl (L.nil k0)) ?_
    refine S.st 10 rfl rfl (Qu.load) (fun Q0 k0 => L.loadPe shape5 hF rfl rfl rfl rfl rfl (L.nil k0)) ?_
    refine S.st 11 rfl rfl ((Ca.conv Try.underlying5 Try.underlying3 rfl).quiet) (fun Q0 k0 => L.ofB Try.underlying5 Try.underlying3 hF rfl rfl rfl (L.nil k0)) ?_
    refine S.st 12 rfl rfl ((Ca.bin rfl rfl (calm_int _ _ _ _ _ _ _ _)).quiet) (fun Q0 k0 => L.bin hF rfl rfl rfl rfl rfl rfl (L.nil k0)) ?_
    refine S.st 13 rfl rfl ((Ca.bin rfl rfl (calm_int _ _ _ _ _ _ _ _)).quiet) (fun Q0 k0 => L.bin hF rfl rfl rfl rfl rfl rfl (L.nil k0)) ?_
    refine S.st 14 rfl rfl ((Ca.assign).quiet) (fun Q0 k0 => L.assign hF rfl rfl rfl (L.nil k0)) ?_
    refine S.nil ?_
    refine WpC.regionL ?_
    refine L.move hF rfl rfl rfl ?_
    refine L.move hF rfl rfl rfl ?_
    refine L.nilCheck hF rfl rfl rfl rfl ?_
    refine L.fieldAddr Try.underlying162 rfl info3 rfl hF rfl rfl rfl rfl rfl ?_
    refine L.loadPtr shape3 hF rfl rfl rfl rfl rfl rfl ?_
    refine L.bin hF rfl rfl rfl rfl rfl rfl ?_
    refine L.nilCheck hF rfl rfl rfl rfl ?_
    refine L.fieldAddr Try.underlying162 rfl info3 rfl hF rfl rfl rfl rfl rfl ?_
    refine L.storePtr shape3 hF rfl rfl rfl rfl rfl rfl rfl ?_
    refine L.nil ?_
    refine WpC.seq ?_
    refine WpC.regionL ?_
    refine L.move hF rfl rfl rfl ?_
    refine L.assign hF rfl rfl rfl ?_
    refine L.nil ?_
    refine WpC.ret ?_
    cases H
    exact Leaves.ret rfl rfl rfl ⟨rfl, rfl⟩
  · replace H := condF hc H
    refine WpC.skip ?_
    refine WpC.seq ?_
    refine WpC.regionL ?_
    refine L.move hF rfl rfl rfl ?_
    refine L.assign hF rfl rfl rfl ?_
    refine L.nil ?_
    refine WpC.ret ?_
    cases H
    exact Leaves.ret rfl rfl rfl ⟨rfl, rfl⟩
/-! ### Fspec_l1Below -/
def Fspec_l1Below (k : Nat) (a1 : Int) (o0 : Tspec_l1Cur) : Option (Int × Tspec_l1Cur) := cond (decide (a1 ≤ (0 : Int))) (some ((0 : Int), o0)) (cond (decide (a1 ≤ (256 : Int))) ((Fspec_l1Byte k o0).bind fun r3 => cond (!(a1 == 0)) (some ((Int.tmod r3.1 a1), r3.2)) none) ((Fspec_l1Byte k o0).bind fun r5 => (Fspec_l1Byte k r5.2).bind fun r6 => (Fspec_l1Byte k r6.2).bind fun r7 => (Fspec_l1Byte k r7.2).bind fun r8 => cond (!(a1 == 0)) (some ((Int.tmod (IntKind.i64.wrap ((IntKind.i64.wrap ((IntKind.i64.wrap ((IntKind.i64.wrap (r5.1 * (16777216 : Int))) + (IntKind.i64.wrap (r6.1 * (65536 : Int))))) + (IntKind.i64.wrap (r7.1 * (256 : Int))))) + r8.1)) a1), r8.2)) none))
theorem ent97 : Enters Try.prog 97 := ⟨Try.f97, Try.func97, rfl, by decide⟩
set_option maxHeartbeats 8000000 in
set_option maxRecDepth 100000 in
theorem Fspec_l1Below_gives (k : Nat) (a1 : Int) (o0 : Tspec_l1Cur) (r : Int × Tspec_l1Cur) (H : Fspec_l1Below k a1 o0 = some r) : Gives Try.prog 97 [V.one (Cell.ptr 0 0), V.one (cI a1)] [[Cell.sl true (List.map eB o0.b), cI o0.i, cI o0.h]] [V.one (cI r.1)] [[Cell.sl true (List.map eB r.2.b), cI r.2.i, cI r.2.h]] := by
  refine Gives.intro Try.func97 rfl rfl rfl rfl ?_
  intro F hF hm
  unfold Fspec_l1Below at H
  obtain ⟨K, hK⟩ : ∃ K, k ≤ K := ⟨k, Nat.le_refl k⟩
  refine WpC.seq ?_
  refine WpC.regionL ?_
  refine L.assign hF rfl rfl rfl ?_
  refine L.nil ?_
  refine WpC.seq ?_
  refine WpC.seq ?_
  refine WpC.regionL ?_
  refine L.move hF rfl rfl rfl ?_
  refine L.bin hF rfl rfl rfl rfl rfl rfl ?_
  refine L.nil ?_
  refine WpC.cond rfl (fun hc => ?_) (fun hc => ?_)
  · replace H := condT hc H
    refine WpC.seq ?_
    refine WpC.regionL ?_
    refine L.assign hF rfl rfl rfl ?_
    refine L.nil ?_
    refine WpC.ret ?_
    cases H
    exact Leaves.ret rfl rfl rfl ⟨rfl, rfl⟩
  · replace H := condF hc H
    refine WpC.skip ?_
    refine WpC.seq ?_
    refine WpC.seq ?_
    refine WpC.regionL ?_
    refine L.move hF rfl rfl rfl ?_
    refine L.bin hF rfl rfl rfl rfl rfl rfl ?_
    refine L.nil ?_
    refine WpC.cond rfl (fun hc => ?_) (fun hc => ?_)
    · replace H := condT hc H
      refine WpC.seq ?_
      refine WpC.regionL ?_
      refine L.move hF rfl rfl rfl ?_
      obtain ⟨r3, hr3, H⟩ := bindS H
      refine L.call [false] [] [0] 6 hF rfl rfl rfl ent148 rfl rfl rfl rfl rfl (Fspec_l1Byte_gives k  o0 r3 hr3) rfl ?_
      refine L.move hF rfl rfl rfl ?_
      obtain ⟨h4, H⟩ := condG H
      refine L.rem hF rfl rfl rfl rfl (by simpa using h4) ?_
      refine L.assign hF rfl rfl rfl ?_
      refine L.nil ?_
      refine WpC.ret ?_
      cases H
      exact Leaves.ret rfl rfl rfl ⟨rfl, rfl⟩
    · replace H := condF hc H
      refine WpC.skip ?_
      refine WpC.seq ?_
      refine WpC.regionL ?_
      refine L.move hF rfl rfl rfl ?_
      obtain ⟨r5, hr5, H⟩ := bindS H
      refine L.call [false] [] [0] 6 hF rfl rfl rfl ent148 rfl rfl rfl rfl rfl (Fspec_l1Byte_gives k  o0 r5 hr5) rfl ?_
      refine L.assign hF rfl rfl rfl ?_
      refine L.nil ?_
      refine WpC.seq ?_
      refine WpC.regionL ?_
      refine L.move hF rfl rfl rfl ?_
      obtain ⟨r6, hr6, H⟩ := bindS H
      refine L.call [false] [] [0] 10 hF rfl rfl rfl ent148 rfl rfl rfl rfl rfl (Fspec_l1Byte_gives k  r5.2 r6 hr6) rfl ?_
      refine L.assign hF rfl rfl rfl ?_
      refine L.nil ?_
      refine WpC.seq ?_
      refine WpC.regionL ?_
      refine L.move hF rfl rfl rfl ?_
      obtain ⟨r7, hr7, H⟩ := bindS H
      refine L.call [false] [] [0] 14 hF rfl rfl rfl ent148 rfl rfl rfl rfl rfl (Fspec_l1Byte_gives k  r6.2 r7 hr7) rfl ?_
      refine L.assign hF rfl rfl rfl ?_
      refine L.nil ?_
      refine WpC.seq ?_
      refine WpC.regionL ?_
      refine L.move hF rfl rfl rfl ?_
      obtain ⟨r8, hr8, H⟩ := bindS H
      refine L.call [false] [] [0] 18 hF rfl rfl rfl ent148 rfl rfl rfl rfl rfl (Fspec_l1Byte_gives k  r7.2 r8 hr8) rfl ?_
      refine L.assign hF rfl rfl rfl ?_
      refine L.nil ?_
      refine WpC.seq ?_
      refine WpC.regionL ?_
      refine L.move hF rfl rfl rfl ?_
      refine L.bin hF rfl rfl rfl rfl rfl rfl ?_
      refine L.move hF rfl rfl rfl ?_
      refine L.bin hF rfl rfl rfl rfl rfl rfl ?_
      refine L.bin hF rfl rfl rfl rfl rfl rfl ?_
      refine L.move hF rfl rfl rfl ?_
      refine L.bin hF rfl rfl rfl rfl rfl rfl ?_
      refine L.bin hF rfl rfl rfl rfl rfl rfl ?_
      refine L.move hF rfl rfl rfl ?_
      refine L.bin hF rfl rfl rfl rfl rfl rfl ?_
      refine L.move hF rfl rfl rfl ?_
      obtain ⟨h9, H⟩ := condG H
      refine L.rem hF rfl rfl rfl rfl (by simpa using h9) ?_
      refine L.assign hF rfl rfl rfl ?_
      refine L.nil ?_
      refine WpC.ret ?_
      cases H
      exact Leaves.ret rfl rfl rfl ⟨rfl, rfl⟩
/-! ### Fspec_l1Once -/
def Fspec_l1Once (k : Nat) (a1 : Int) (o0 : Tspec_l1Cur) : Option (Bool × Tspec_l1Cur) := (Fspec_l1Below k a1 o0).bind fun r1 => some ((r1.1 == (0 : Int)), r1.2)
theorem ent98 : Enters Try.prog 98 := ⟨Try.f98, Try.func98, rfl, by decide⟩
set_option maxHeartbeats 8000000 in
set_option maxRecDepth 100000 in
theorem Fspec_l1Once_gives (k : Nat) (a1 : Int) (o0 : Tspec_l1Cur) (r : Bool × Tspec_l1Cur) (H : Fspec_l1Once k a1 o0 = some r) : Gives Try.prog 98 [V.one (Cell.ptr 0 0), V.one (cI a1)] [[Cell.sl true (List.map eB o0.b), cI o0.i, cI o0.h]] [V.one (cL r.1)] [[Cell.sl true (List.map eB r.2.b), cI r.2.i, cI r.2.h]] := by
  refine Gives.intro Try.func98 rfl rfl rfl rfl ?_
  intro F hF hm
  unfold Fspec_l1Once at H
  obtain ⟨K, hK⟩ : ∃ K, k ≤ K := ⟨k, Nat.le_refl k⟩
  refine WpC.seq ?_
  refine WpC.regionL ?_
  refine L.assign hF rfl rfl rfl ?_
  refine L.nil ?_
  refine WpC.seq ?_
  refine WpC.regionL ?_
  refine L.move hF rfl rfl rfl ?_
  refine L.move hF rfl rfl rfl ?_
  obtain ⟨r1, hr1, H⟩ := bindS H
  refine L.call [false, false] [] [0] 6 hF rfl rfl rfl ent97 rfl rfl rfl rfl rfl (Fspec_l1Below_gives k  a1 o0 r1 hr1) rfl ?_
  refine L.bin hF rfl rfl rfl rfl rfl rfl ?_
  refine L.assign hF rfl rfl rfl ?_
  refine L.nil ?_
  refine WpC.ret ?_
  cases H
  exact Leaves.ret rfl rfl rfl ⟨rfl, rfl⟩
/-! ### Fspec_l1PickInt -/
def Fspec_l1PickInt (k : Nat) (a1 : List Int) (o0 : Tspec_l1Cur) : Option (Int × Tspec_l1Cur) := (Fspec_l1Below k (a1.length : Int) o0).bind fun r1 => (at? a1 r1.1).bind fun b2 => some (b2, r1.2)
theorem ent105 : Enters Try.prog 105 := ⟨Try.f105, Try.func105, rfl, by decide⟩
set_option maxHeartbeats 8000000 in
set_option maxRecDepth 100000 in
theorem Fspec_l1PickInt_gives (k : Nat) (g0 : Bool) (a1 : List Int) (o0 : Tspec_l1Cur) (r : Int × Tspec_l1Cur) (H : Fspec_l1PickInt k a1 o0 = some r) : Gives Try.prog 105 [V.one (Cell.ptr 0 0), V.one (Cell.sl g0 (List.map eI a1))] [[Cell.sl true (List.map eB o0.b), cI o0.i, cI o0.h]] [V.one (cI r.1)] [[Cell.sl true (List.map eB r.2.b), cI r.2.i, cI r.2.h]] := by
  refine Gives.intro Try.func105 rfl rfl rfl rfl ?_
  intro F hF hm
  unfold Fspec_l1PickInt at H
  obtain ⟨K, hK⟩ : ∃ K, k ≤ K := ⟨k, Nat.le_refl k⟩
  refine WpC.seq ?_
  refine WpC.regionL ?_
  refine L.assign hF rfl rfl rfl ?_
  refine L.nil ?_
  refine WpC.seq ?_
  refine WpC.regionL ?_
  refine L.move hF rfl rfl rfl ?_
  refine L.move hF rfl rfl rfl ?_
  refine L.move hF rfl rfl rfl ?_
  refine L.lenR (xs := a1) (e := eI) Try.underlying77 hF rfl rfl rfl rfl ?_
  obtain ⟨r1, hr1, H⟩ := bindS H
  refine L.call [false, false] [] [0] 6 hF rfl rfl rfl ent97 rfl rfl rfl rfl rfl (Fspec_l1Below_gives k  (a1.length : Int) o0 r1 hr1) rfl ?_
  obtain ⟨b2, hb2, H⟩ := bindS H
  refine L.idxR (xs := a1) (e := eI) Try.underlying77 info3 hF rfl rfl rfl rfl rfl hb2 rfl rfl ?_
  refine L.loadPe shape3 hF rfl rfl rfl rfl rfl ?_
  refine L.assign hF rfl rfl rfl ?_
  refine L.nil ?_
  refine WpC.ret ?_
  cases H
  exact Leaves.ret rfl rfl rfl ⟨rfl, rfl⟩
/-! ### Fspec_l16Times -/
def Fspec_l16Times (k : Nat) (o0 : Tspec_l1Cur) : Option (Timpl_Times × Tspec_l1Cur) := (Fspec_l1Below k (20 : Int) o0).bind fun r1 => (Fspec_l1Below k (10 : Int) r1.2).bind fun r2 => (Fspec_l1Below k (30 : Int) r2.2).bind fun r3 => (Fspec_l1Below k (50 : Int) r3.2).bind fun r4 => (Fspec_l1Once k (10 : Int) r4.2).bind fun r11 => cond r11.1 ((Fspec_l1Below k (4 : Int) r11.2).bind fun r12 => cond (r12.1 == (0 : Int)) ((Fspec_l1PickInt k ([(-1 : Int), (90 : Int)] : List Int) r12.2).bind fun r13 => some ((⟨r13.1, (IntKind.i64.wrap (r1.1 + r2.1)), (IntKind.i64.wrap ((IntKind.i64.wrap (r1.1 + r2.1)) + r3.1)), (IntKind.i64.wrap ((IntKind.i64.wrap ((IntKind.i64.wrap (r1.1 + r2.1)) + r3.1)) + r4.1))⟩ : Timpl_Times), r13.2)) (cond (r12.1 == (1 : Int)) ((Fspec_l1Below k (60 : Int) r12.2).bind fun r14 => some ((⟨r1.1, r14.1, (IntKind.i64.wrap ((IntKind.i64.wrap (r1.1 + r2.1)) + r3.1)), (IntKind.i64.wrap ((IntKind.i64.wrap ((IntKind.i64.wrap (r1.1 + r2.1)) + r3.1)) + r4.1))⟩ : Timpl_Times), r14.2)) (cond (r12.1 == (2 : Int)) ((Fspec_l1Below k (60 : Int) r12.2).bind fun r15 => some ((⟨r1.1, (IntKind.i64.wrap (r1.1 + r2.1)), r15.1, (IntKind.i64.wrap ((IntKind.i64.wrap ((IntKind.i64.wrap (r1.1 + r2.1)) + r3.1)) + r4.1))⟩ : Timpl_Times), r15.2)) ((Fspec_l1PickInt k ([(100000 : Int), (100001 : Int), (0 : Int)] : List Int) r12.2).bind fun r16 => some ((⟨r1.1, (IntKind.i64.wrap (r1.1 + r2.1)), (IntKind.i64.wrap ((IntKind.i64.wrap (r1.1 + r2.1)) + r3.1)), r16.1⟩ : Timpl_Times), r16.2))))) (some ((⟨r1.1, (IntKind.i64.wrap (r1.1 + r2.1)), (IntKind.i64.wrap ((IntKind.i64.wrap (r1.1 + r2.1)) + r3.1)), (IntKind.i64.wrap ((IntKind.i64.wrap ((IntKind.i64.wrap (r1.1 + r2.1)) + r3.1)) + r4.1))⟩ : Timpl_Times), r11.2))
theorem ent104 : Enters Try.prog 104 := ⟨Try.f104, Try.func104, rfl, by decide⟩
set_option maxHeartbeats 8000000 in
set_option maxRecDepth 100000 in
theorem Fspec_l16Times_gives (k : Nat) (o0 : Tspec_l1Cur) (r : Timpl_Times × Tspec_l1Cur) (H : Fspec_l16Times k o0 = some r) : Gives Try.prog 104 [V.one (Cell.ptr 0 0)] [[Cell.sl true (List.map eB o0.b), cI o0.i, cI o0.h]] [V.agg [cI r.1.Auth, cI r.1.Start, cI r.1.End, cI r.1.Renew]] [[Cell.sl true (List.map eB r.2.b), cI r.2.i, cI r.2.h]] := by
  refine Gives.intro Try.func104 rfl rfl rfl rfl ?_
  intro F hF hm
  unfold Fspec_l16Times at H
  obtain ⟨K, hK⟩ : ∃ K, k ≤ K := ⟨k, Nat.le_refl k⟩
  refine WpC.seq ?_
  refine WpC.regionL ?_
  refine L.alloc 5 info25 rfl hF rfl rfl rfl rfl ?_
  refine L.nil ?_
  refine WpC.seq ?_
  refine WpC.regionL ?_
  refine L.move hF rfl rfl rfl ?_
  obtain ⟨r1, hr1, H⟩ := bindS H
  refine L.call [false, false] [] [0] 6 hF rfl rfl rfl ent97 rfl rfl rfl rfl rfl (Fspec_l1Below_gives k  (20 : Int) o0 r1 hr1) rfl ?_
  refine L.buildF built25 hF rfl rfl rfl rfl ?_
  refine L.alloc 10 info25 rfl hF rfl rfl rfl rfl ?_
  refine L.storePtr shape25 hF rfl rfl rfl rfl rfl rfl rfl ?_
  refine L.nil ?_
  refine WpC.seq ?_
  obtain ⟨r2, hr2, H⟩ := bindS H
  refine A.begin mixed rfl rfl ?_
  intro W hI hO
  have n127 : W 0 #[true, true, true, true, true, true, true] (mkSt [(0, one (Cell.ptr 0 0)), (2, one (Cell.ptr 1 0)), (3, one (Cell.ptr 2 0))] [] [(0, [Cell.sl true (List.map eB r2.2.b), cI r2.2.i, cI r2.2.h]), (1, [cI (0 : Int), cI (0 : Int), cI (0 : Int), cI (0 : Int)]), (2, [cI r1.1, cI (IntKind.i64.wrap (r1.1 + r2.1)), cI (0 : Int), cI (0 : Int)])] 3) := by
    refine hI _ _ _ (A.done (by kernel_rfl) ?_)
    refine WpC.seq ?_
    obtain ⟨r3, hr3, H⟩ := bindS H
    refine A.begin mixed rfl rfl ?_
    intro W hI hO
    have n127 : W 0 #[true, true, true, true, true, true, true] (mkSt [(0, one (Cell.ptr 0 0)), (2, one (Cell.ptr 1 0)), (3, one (Cell.ptr 2 0))] [] [(0, [Cell.sl true (List.map eB r3.2.b), cI r3.2.i, cI r3.2.h]), (1, [cI (0 : Int), cI (0 : Int), cI (0 : Int), cI (0 : Int)]), (2, [cI r1.1, cI (IntKind.i64.wrap (r1.1 + r2.1)), cI (IntKind.i64.wrap ((IntKind.i64.wrap (r1.1 + r2.1)) + r3.1)), cI (0 : Int)])] 3) := by
      refine hI _ _ _ (A.done (by kernel_rfl) ?_)
      refine WpC.seq ?_
      obtain ⟨r4, hr4, H⟩ := bindS H
      refine A.begin mixed rfl rfl ?_
      intro W hI hO
      have n127 : W 0 #[true, true, true, true, true, true, true] (mkSt [(0, one (Cell.ptr 0 0)), (2, one (Cell.ptr 1 0)), (3, one (Cell.ptr 2 0))] [] [(0, [Cell.sl true (List.map eB r4.2.b), cI r4.2.i, cI r4.2.h]), (1, [cI (0 : Int), cI (0 : Int), cI (0 : Int), cI (0 : Int)]), (2, [cI r1.1, cI (IntKind.i64.wrap (r1.1 + r2.1)), cI (IntKind.i64.wrap ((IntKind.i64.wrap (r1.1 + r2.1)) + r3.1)), cI (IntKind.i64.wrap ((IntKind.i64.wrap ((IntKind.i64.wrap (r1.1 + r2.1)) + r3.1)) + r4.1))])] 3) := by
        refine hI _ _ _ (A.done (by kernel_rfl) ?_)
        refine WpC.seq ?_
        refine WpC.seq ?_
        refine WpC.regionL ?_
        refine L.move hF rfl rfl rfl ?_
        obtain ⟨r11, hr11, H⟩ := bindS H
        refine L.call [false, false] [] [0] 3 hF rfl rfl rfl ent98 rfl rfl rfl rfl rfl (Fspec_l1Once_gives k  (10 : Int) r4.2 r11 hr11) rfl ?_
        refine L.nil ?_
        refine WpC.cond rfl (fun hc => ?_) (fun hc => ?_)
        · replace H := condT hc H
          refine WpC.seq ?_
          refine WpC.regionL ?_
          refine L.move hF rfl rfl rfl ?_
          obtain ⟨r12, hr12, H⟩ := bindS H
          refine L.call [false, false] [] [0] 7 hF rfl rfl rfl ent97 rfl rfl rfl rfl rfl (Fspec_l1Below_gives k  (4 : Int) r11.2 r12 hr12) rfl ?_
          refine L.nil ?_
          refine WpC.block ?_
          refine WpC.seq ?_
          refine WpC.regionL ?_
          refine L.bin hF rfl rfl rfl rfl rfl rfl ?_
          refine L.assign hF rfl rfl rfl ?_
          refine L.nil ?_
          refine WpC.cond rfl (fun hc => ?_) (fun hc => ?_)
          · replace H := condT hc H
            refine WpC.regionL ?_
            refine L.move hF rfl rfl rfl ?_
            refine L.buildSlice (e := eI) 11 ([(-1 : Int), (90 : Int)] : List Int) Try.underlying77 info3 rfl rfl rfl hF rfl rfl rfl rfl rfl rfl rfl rfl ?_
            obtain ⟨r13, hr13, H⟩ := bindS H
            refine L.call [false, false] [11] [0] 12 hF rfl rfl rfl ent105 rfl rfl rfl rfl rfl (Fspec_l1PickInt_gives k false ([(-1 : Int), (90 : Int)] : List Int) r12.2 r13 hr13) rfl ?_
            refine L.fieldAddr Try.underlying25 rfl info3 rfl hF rfl rfl rfl rfl rfl ?_
            refine L.storePtr shape3 hF rfl rfl rfl rfl rfl rfl rfl ?_
            refine L.nil ?_
            refine WpC.seq ?_
            refine WpC.regionL ?_
            refine L.loadPtr shape25 hF rfl rfl rfl rfl rfl rfl ?_
            refine L.storePtr shape25 hF rfl rfl rfl rfl rfl rfl rfl ?_
            refine L.nil ?_
            refine WpC.ret ?_
            cases H
            exact Leaves.ret rfl rfl rfl ⟨rfl, rfl⟩
          · replace H := condF hc H
            refine WpC.seq ?_
            refine WpC.regionL ?_
            refine L.bin hF rfl rfl rfl rfl rfl rfl ?_
            refine L.assign hF rfl rfl rfl ?_
            refine L.nil ?_
            refine WpC.cond rfl (fun hc => ?_) (fun hc => ?_)
            · replace H := condT hc H
              refine WpC.regionL ?_
              refine L.move hF rfl rfl rfl ?_
              obtain ⟨r14, hr14, H⟩ := bindS H
              refine L.call [false, false] [] [0] 11 hF rfl rfl rfl ent97 rfl rfl rfl rfl rfl (Fspec_l1Below_gives k  (60 : Int) r12.2 r14 hr14) rfl ?_
              refine L.fieldAddr Try.underlying25 rfl info3 rfl hF rfl rfl rfl rfl rfl ?_
              refine L.storePtr shape3 hF rfl rfl rfl rfl rfl rfl rfl ?_
              refine L.nil ?_
              refine WpC.seq ?_
              refine WpC.regionL ?_
              refine L.loadPtr shape25 hF rfl rfl rfl rfl rfl rfl ?_
              refine L.storePtr shape25 hF rfl rfl rfl rfl rfl rfl rfl ?_
              refine L.nil ?_
              refine WpC.ret ?_
              cases H
              exact Leaves.ret rfl rfl rfl ⟨rfl, rfl⟩
            · replace H := condF hc H
              refine WpC.seq ?_
              refine WpC.regionL ?_
              refine L.bin hF rfl rfl rfl rfl rfl rfl ?_
              refine L.assign hF rfl rfl rfl ?_
              refine L.nil ?_
              refine WpC.cond rfl (fun hc => ?_) (fun hc => ?_)
              · replace H := condT hc H
                refine WpC.regionL ?_
                refine L.move hF rfl rfl rfl ?_
                obtain ⟨r15, hr15, H⟩ := bindS H
                refine L.call [false, false] [] [0] 11 hF rfl rfl rfl ent97 rfl rfl rfl rfl rfl (Fspec_l1Below_gives k  (60 : Int) r12.2 r15 hr15) rfl ?_
                refine L.fieldAddr Try.underlying25 rfl info3 rfl hF rfl rfl rfl rfl rfl ?_
                refine L.storePtr shape3 hF rfl rfl rfl rfl rfl rfl rfl ?_
                refine L.nil ?_
                refine WpC.seq ?_
                refine WpC.regionL ?_
                refine L.loadPtr shape25 hF rfl rfl rfl rfl rfl rfl ?_
                refine L.storePtr shape25 hF rfl rfl rfl rfl rfl rfl rfl ?_
                refine L.nil ?_
                refine WpC.ret ?_
                cases H
                exact Leaves.ret rfl rfl rfl ⟨rfl, rfl⟩
              · replace H := condF hc H
                refine WpC.regionL ?_
                refine L.move hF rfl rfl rfl ?_
                refine L.buildSlice (e := eI) 11 ([(100000 : Int), (100001 : Int), (0 : Int)] : List Int) Try.underlying77 info3 rfl rfl rfl hF rfl rfl rfl rfl rfl rfl rfl rfl ?_
                obtain ⟨r16, hr16, H⟩ := bindS H
                refine L.call [false, false] [11] [0] 12 hF rfl rfl rfl ent105 rfl rfl rfl rfl rfl (Fspec_l1PickInt_gives k false ([(100000 : Int), (100001 : Int), (0 : Int)] : List Int) r12.2 r16 hr16) rfl ?_
                refine L.fieldAddr Try.underlying25 rfl info3 rfl hF rfl rfl rfl rfl rfl ?_
                refine L.storePtr shape3 hF rfl rfl rfl rfl rfl rfl rfl ?_
                refine L.nil ?_
                refine WpC.seq ?_
                refine WpC.regionL ?_
                refine L.loadPtr shape25 hF rfl rfl rfl rfl rfl rfl ?_
                refine L.storePtr shape25 hF rfl rfl rfl rfl rfl rfl rfl ?_
                refine L.nil ?_
                refine WpC.ret ?_
                cases H
                exact Leaves.ret rfl rfl rfl ⟨rfl, rfl⟩
        · replace H := condF hc H
          refine WpC.skip ?_
          refine WpC.seq ?_
          refine WpC.regionL ?_
          refine L.loadPtr shape25 hF rfl rfl rfl rfl rfl rfl ?_
          refine L.storePtr shape25 hF rfl rfl rfl rfl rfl rfl rfl ?_
          refine L.nil ?_
          refine WpC.ret ?_
          cases H
          exact Leaves.ret rfl rfl rfl ⟨rfl, rfl⟩
      have n63 : W 1 #[true, true, true, true, true, true, false] (mkSt [(0, one (Cell.ptr 0 0)), (2, one (Cell.ptr 1 0)), (3, one (Cell.ptr 2 0)), (23, one (cI (IntKind.i64.wrap ((IntKind.i64.wrap ((IntKind.i64.wrap (r1.1 + r2.1)) + r3.1)) + r4.1)))), (24, one (Cell.ptr 2 3))] [] [(0, [Cell.sl true (List.map eB r4.2.b), cI r4.2.i, cI r4.2.h]), (1, [cI (0 : Int), cI (0 : Int), cI (0 : Int), cI (0 : Int)]), (2, [cI r1.1, cI (IntKind.i64.wrap (r1.1 + r2.1)), cI (IntKind.i64.wrap ((IntKind.i64.wrap (r1.1 + r2.1)) + r3.1)), cI (0 : Int)])] 3) := by
        refine hI _ _ _ ?_
        refine A.all [6] (by kernel_rfl) rfl ⟨⟨_, rfl, ?_⟩, trivial⟩
        · refine L.storePtr shape3 hF rfl rfl rfl rfl rfl rfl rfl ?_
          refine L.nil ?_
          exact A.on (hO _ _ _ n127) (Le.mk [(0, 0), (1, 1), (2, 2)] hm rfl ⟨⟨_, rfl, rfl⟩, ⟨_, rfl, rfl⟩, ⟨_, rfl, rfl⟩, trivial⟩ trivial ⟨⟨_, _, rfl, rfl, rfl⟩, ⟨_, _, rfl, rfl, rfl⟩, ⟨_, _, rfl, rfl, rfl⟩, trivial⟩)
      have n31 : W 2 #[true, true, true, true, true, false, false] (mkSt [(0, one (Cell.ptr 0 0)), (2, one (Cell.ptr 1 0)), (3, one (Cell.ptr 2 0)), (23, one (cI (IntKind.i64.wrap ((IntKind.i64.wrap ((IntKind.i64.wrap (r1.1 + r2.1)) + r3.1)) + r4.1))))] [] [(0, [Cell.sl true (List.map eB r4.2.b), cI r4.2.i, cI r4.2.h]), (1, [cI (0 : Int), cI (0 : Int), cI (0 : Int), cI (0 : Int)]), (2, [cI r1.1, cI (IntKind.i64.wrap (r1.1 + r2.1)), cI (IntKind.i64.wrap ((IntKind.i64.wrap (r1.1 + r2.1)) + r3.1)), cI (0 : Int)])] 3) := by
        refine hI _ _ _ ?_
        refine A.take 5 rfl (by kernel_rfl) (by kernel_rfl) (by kernel_rfl) rfl (Ca.fieldAddr Try.underlying25 rfl info3 rfl) (fun Q0 k0 => L.fieldAddr Try.underlying25 rfl info3 rfl hF rfl rfl rfl rfl rfl (L.nil k0)) ?_
        exact A.on (hO _ _ _ n63) (Le.mk [(0, 0), (1, 1), (2, 2)] hm rfl ⟨⟨_, rfl, rfl⟩, ⟨_, rfl, rfl⟩, ⟨_, rfl, rfl⟩, ⟨_, rfl, rfl⟩, ⟨_, rfl, rfl⟩, trivial⟩ trivial ⟨⟨_, _, rfl, rfl, rfl⟩, ⟨_, _, rfl, rfl, rfl⟩, ⟨_, _, rfl, rfl, rfl⟩, trivial⟩)
      have n15 : W 3 #[true, true, true, true, false, false, false] (mkSt [(0, one (Cell.ptr 0 0)), (2, one (Cell.ptr 1 0)), (3, one (Cell.ptr 2 0)), (20, one (cI (IntKind.i64.wrap ((IntKind.i64.wrap (r1.1 + r2.1)) + r3.1)))), (22, one (cI r4.1))] [] [(0, [Cell.sl true (List.map eB r4.2.b), cI r4.2.i, cI r4.2.h]), (1, [cI (0 : Int), cI (0 : Int), cI (0 : Int), cI (0 : Int)]), (2, [cI r1.1, cI (IntKind.i64.wrap (r1.1 + r2.1)), cI (IntKind.i64.wrap ((IntKind.i64.wrap (r1.1 + r2.1)) + r3.1)), cI (0 : Int)])] 3) := by
        refine hI _ _ _ ?_
        refine A.take 4 rfl (by kernel_rfl) (by kernel_rfl) (by kernel_rfl) rfl (Ca.bin rfl rfl (calm_int _ _ _ _ _ _ _ _)) (fun Q0 k0 => L.bin hF rfl rfl rfl rfl rfl rfl (L.nil k0)) ?_
        exact A.on (hO _ _ _ n31) (Le.mk [(0, 0), (1, 1), (2, 2)] hm rfl ⟨⟨_, rfl, rfl⟩, ⟨_, rfl, rfl⟩, ⟨_, rfl, rfl⟩, ⟨_, rfl, rfl⟩, trivial⟩ trivial ⟨⟨_, _, rfl, rfl, rfl⟩, ⟨_, _, rfl, rfl, rfl⟩, ⟨_, _, rfl, rfl, rfl⟩, trivial⟩)
      have n7 : W 4 #[true, true, true, false, false, false, false] (mkSt [(0, one (Cell.ptr 0 0)), (2, one (Cell.ptr 1 0)), (3, one (Cell.ptr 2 0)), (20, one (cI (IntKind.i64.wrap ((IntKind.i64.wrap (r1.1 + r2.1)) + r3.1)))), (21, one (Cell.ptr 0 0))] [] [(0, [Cell.sl true (List.map eB r3.2.b), cI r3.2.i, cI r3.2.h]), (1, [cI (0 : Int), cI (0 : Int), cI (0 : Int), cI (0 : Int)]), (2, [cI r1.1, cI (IntKind.i64.wrap (r1.1 + r2.1)), cI (IntKind.i64.wrap ((IntKind.i64.wrap (r1.1 + r2.1)) + r3.1)), cI (0 : Int)])] 3) := by
        refine hI _ _ _ ?_
        refine A.all [3] (by kernel_rfl) rfl ⟨⟨_, rfl, ?_⟩, trivial⟩
        · refine L.call [false, false] [] [0] 3 hF rfl rfl rfl ent97 rfl rfl rfl rfl rfl (Fspec_l1Below_gives k  (50 : Int) r3.2 r4 hr4) rfl ?_
          refine L.nil ?_
          exact A.on (hO _ _ _ n15) (Le.mk [(0, 0), (1, 1), (2, 2)] hm rfl ⟨⟨_, rfl, rfl⟩, ⟨_, rfl, rfl⟩, ⟨_, rfl, rfl⟩, ⟨_, rfl, rfl⟩, ⟨_, rfl, rfl⟩, trivial⟩ trivial ⟨⟨_, _, rfl, rfl, rfl⟩, ⟨_, _, rfl, rfl, rfl⟩, ⟨_, _, rfl, rfl, rfl⟩, trivial⟩)
      have n13 : W 4 #[true, false, true, true, false, false, false] (mkSt [(0, one (Cell.ptr 0 0)), (2, one (Cell.ptr 1 0)), (3, one (Cell.ptr 2 0)), (19, one (Cell.ptr 2 2)), (22, one (cI r4.1))] [] [(0, [Cell.sl true (List.map eB r4.2.b), cI r4.2.i, cI r4.2.h]), (1, [cI (0 : Int), cI (0 : Int), cI (0 : Int), cI (0 : Int)]), (2, [cI r1.1, cI (IntKind.i64.wrap (r1.1 + r2.1)), cI (IntKind.i64.wrap ((IntKind.i64.wrap (r1.1 + r2.1)) + r3.1)), cI (0 : Int)])] 3) := by
        refine hI _ _ _ ?_
        refine A.all [1] (by kernel_rfl) rfl ⟨⟨_, rfl, ?_⟩, trivial⟩
        · refine L.loadPtr shape3 hF rfl rfl rfl rfl rfl rfl ?_
          refine L.nil ?_
          exact A.on (hO _ _ _ n15) (Le.mk [(0, 0), (1, 1), (2, 2)] hm rfl ⟨⟨_, rfl, rfl⟩, ⟨_, rfl, rfl⟩, ⟨_, rfl, rfl⟩, ⟨_, rfl, rfl⟩, ⟨_, rfl, rfl⟩, trivial⟩ trivial ⟨⟨_, _, rfl, rfl, rfl⟩, ⟨_, _, rfl, rfl, rfl⟩, ⟨_, _, rfl, rfl, rfl⟩, trivial⟩)
      have n5 : W 5 #[true, false, true, false, false, false, false] (mkSt [(0, one (Cell.ptr 0 0)), (2, one (Cell.ptr 1 0)), (3, one (Cell.ptr 2 0)), (19, one (Cell.ptr 2 2)), (21, one (Cell.ptr 0 0))] [] [(0, [Cell.sl true (List.map eB r3.2.b), cI r3.2.i, cI r3.2.h]), (1, [cI (0 : Int), cI (0 : Int), cI (0 : Int), cI (0 : Int)]), (2, [cI r1.1, cI (IntKind.i64.wrap (r1.1 + r2.1)), cI (IntKind.i64.wrap ((IntKind.i64.wrap (r1.1 + r2.1)) + r3.1)), cI (0 : Int)])] 3) := by
        refine hI _ _ _ ?_
        refine A.all [1, 3] (by kernel_rfl) rfl ⟨⟨_, rfl, ?_⟩, ⟨_, rfl, ?_⟩, trivial⟩
        · refine L.loadPtr shape3 hF rfl rfl rfl rfl rfl rfl ?_
          refine L.nil ?_
          exact A.on (hO _ _ _ n7) (Le.mk [(0, 0), (1, 1), (2, 2)] hm rfl ⟨⟨_, rfl, rfl⟩, ⟨_, rfl, rfl⟩, ⟨_, rfl, rfl⟩, ⟨_, rfl, rfl⟩, ⟨_, rfl, rfl⟩, trivial⟩ trivial ⟨⟨_, _, rfl, rfl, rfl⟩, ⟨_, _, rfl, rfl, rfl⟩, ⟨_, _, rfl, rfl, rfl⟩, trivial⟩)
        · refine L.call [false, false] [] [0] 3 hF rfl rfl rfl ent97 rfl rfl rfl rfl rfl (Fspec_l1Below_gives k  (50 : Int) r3.2 r4 hr4) rfl ?_
          refine L.nil ?_
          exact A.on (hO _ _ _ n13) (Le.mk [(0, 0), (1, 1), (2, 2)] hm rfl ⟨⟨_, rfl, rfl⟩, ⟨_, rfl, rfl⟩, ⟨_, rfl, rfl⟩, ⟨_, rfl, rfl⟩, ⟨_, rfl, rfl⟩, trivial⟩ trivial ⟨⟨_, _, rfl, rfl, rfl⟩, ⟨_, _, rfl, rfl, rfl⟩, ⟨_, _, rfl, rfl, rfl⟩, trivial⟩)
      have n1 : W 6 #[true, false, false, false, false, false, false] (mkSt [(0, one (Cell.ptr 0 0)), (2, one (Cell.ptr 1 0)), (3, one (Cell.ptr 2 0)), (19, one (Cell.ptr 2 2))] [] [(0, [Cell.sl true (List.map eB r3.2.b), cI r3.2.i, cI r3.2.h]), (1, [cI (0 : Int), cI (0 : Int), cI (0 : Int), cI (0 : Int)]), (2, [cI r1.1, cI (IntKind.i64.wrap (r1.1 + r2.1)), cI (IntKind.i64.wrap ((IntKind.i64.wrap (r1.1 + r2.1)) + r3.1)), cI (0 : Int)])] 3) := by
        refine hI _ _ _ ?_
        refine A.take 2 rfl (by kernel_rfl) (by kernel_rfl) (by kernel_rfl) rfl (Ca.move) (fun Q0 k0 => L.move hF rfl rfl rfl (L.nil k0)) ?_
        exact A.on (hO _ _ _ n5) (Le.mk [(0, 0), (1, 1), (2, 2)] hm rfl ⟨⟨_, rfl, rfl⟩, ⟨_, rfl, rfl⟩, ⟨_, rfl, rfl⟩, ⟨_, rfl, rfl⟩, ⟨_, rfl, rfl⟩, trivial⟩ trivial ⟨⟨_, _, rfl, rfl, rfl⟩, ⟨_, _, rfl, rfl, rfl⟩, ⟨_, _, rfl, rfl, rfl⟩, trivial⟩)
      have n0 : W 7 #[false, false, false, false, false, false, false] (mkSt [(0, one (Cell.ptr 0 0)), (2, one (Cell.ptr 1 0)), (3, one (Cell.ptr 2 0))] [] [(0, [Cell.sl true (List.map eB r3.2.b), cI r3.2.i, cI r3.2.h]), (1, [cI (0 : Int), cI (0 : Int), cI (0 : Int), cI (0 : Int)]), (2, [cI r1.1, cI (IntKind.i64.wrap (r1.1 + r2.1)), cI (IntKind.i64.wrap ((IntKind.i64.wrap (r1.1 + r2.1)) + r3.1)), cI (0 : Int)])] 3) := by
        refine hI _ _ _ ?_
        refine A.take 0 rfl (by kernel_rfl) (by kernel_rfl) (by kernel_rfl) rfl (Ca.fieldAddr Try.underlying25 rfl info3 rfl) (fun Q0 k0 => L.fieldAddr Try.underlying25 rfl info3 rfl hF rfl rfl rfl rfl rfl (L.nil k0)) ?_
        exact A.on (hO _ _ _ n1) (Le.mk [(0, 0), (1, 1), (2, 2)] hm rfl ⟨⟨_, rfl, rfl⟩, ⟨_, rfl, rfl⟩, ⟨_, rfl, rfl⟩, ⟨_, rfl, rfl⟩, trivial⟩ trivial ⟨⟨_, _, rfl, rfl, rfl⟩, ⟨_, _, rfl, rfl, rfl⟩, ⟨_, _, rfl, rfl, rfl⟩, trivial⟩)
      exact hI _ _ _ (A.on (hO _ _ _ n0) (Le.mk [(0, 0), (1, 1), (2, 2)] hm rfl ⟨⟨_, rfl, rfl⟩, ⟨_, rfl, rfl⟩, ⟨_, rfl, rfl⟩, trivial⟩ trivial ⟨⟨_, _, rfl, rfl, rfl⟩, ⟨_, _, rfl, rfl, rfl⟩, ⟨_, _, rfl, rfl, rfl⟩, trivial⟩))
    have n63 : W 1 #[true, true, true, true, true, true, false] (mkSt [(0, one (Cell.ptr 0 0)), (2, one (Cell.ptr 1 0)), (3, one (Cell.ptr 2 0)), (17, one (cI (IntKind.i64.wrap ((IntKind.i64.wrap (r1.1 + r2.1)) + r3.1)))), (18, one (Cell.ptr 2 2))] [] [(0, [Cell.sl true (List.map eB r3.2.b), cI r3.2.i, cI r3.2.h]), (1, [cI (0 : Int), cI (0 : Int), cI (0 : Int), cI (0 : Int)]), (2, [cI r1.1, cI (IntKind.i64.wrap (r1.1 + r2.1)), cI (0 : Int), cI (0 : Int)])] 3) := by
      refine hI _ _ _ ?_
      refine A.all [6] (by kernel_rfl) rfl ⟨⟨_, rfl, ?_⟩, trivial⟩
      · refine L.storePtr shape3 hF rfl rfl rfl rfl rfl rfl rfl ?_
        refine L.nil ?_
        exact A.on (hO _ _ _ n127) (Le.mk [(0, 0), (1, 1), (2, 2)] hm rfl ⟨⟨_, rfl, rfl⟩, ⟨_, rfl, rfl⟩, ⟨_, rfl, rfl⟩, trivial⟩ trivial ⟨⟨_, _, rfl, rfl, rfl⟩, ⟨_, _, rfl, rfl, rfl⟩, ⟨_, _, rfl, rfl, rfl⟩, trivial⟩)
    have n31 : W 2 #[true, true, true, true, true, false, false] (mkSt [(0, one (Cell.ptr 0 0)), (2, one (Cell.ptr 1 0)), (3, one (Cell.ptr 2 0)), (17, one (cI (IntKind.i64.wrap ((IntKind.i64.wrap (r1.1 + r2.1)) + r3.1))))] [] [(0, [Cell.sl true (List.map eB r3.2.b), cI r3.2.i, cI r3.2.h]), (1, [cI (0 : Int), cI (0 : Int), cI (0 : Int), cI (0 : Int)]), (2, [cI r1.1, cI (IntKind.i64.wrap (r1.1 + r2.1)), cI (0 : Int), cI (0 : Int)])] 3) := by
      refine hI _ _ _ ?_
      refine A.take 5 rfl (by kernel_rfl) (by kernel_rfl) (by kernel_rfl) rfl (Ca.fieldAddr Try.underlying25 rfl info3 rfl) (fun Q0 k0 => L.fieldAddr Try.underlying25 rfl info3 rfl hF rfl rfl rfl rfl rfl (L.nil k0)) ?_
      exact A.on (hO _ _ _ n63) (Le.mk [(0, 0), (1, 1), (2, 2)] hm rfl ⟨⟨_, rfl, rfl⟩, ⟨_, rfl, rfl⟩, ⟨_, rfl, rfl⟩, ⟨_, rfl, rfl⟩, ⟨_, rfl, rfl⟩, trivial⟩ trivial ⟨⟨_, _, rfl, rfl, rfl⟩, ⟨_, _, rfl, rfl, rfl⟩, ⟨_, _, rfl, rfl, rfl⟩, trivial⟩)
    have n15 : W 3 #[true, true, true, true, false, false, false] (mkSt [(0, one (Cell.ptr 0 0)), (2, one (Cell.ptr 1 0)), (3, one (Cell.ptr 2 0)), (14, one (cI (IntKind.i64.wrap (r1.1 + r2.1)))), (16, one (cI r3.1))] [] [(0, [Cell.sl true (List.map eB r3.2.b), cI r3.2.i, cI r3.2.h]), (1, [cI (0 : Int), cI (0 : Int), cI (0 : Int), cI (0 : Int)]), (2, [cI r1.1, cI (IntKind.i64.wrap (r1.1 + r2.1)), cI (0 : Int), cI (0 : Int)])] 3) := by
      refine hI _ _ _ ?_
      refine A.take 4 rfl (by kernel_rfl) (by kernel_rfl) (by kernel_rfl) rfl (Ca.bin rfl rfl (calm_int _ _ _ _ _ _ _ _)) (fun Q0 k0 => L.bin hF rfl rfl rfl rfl rfl rfl (L.nil k0)) ?_
      exact A.on (hO _ _ _ n31) (Le.mk [(0, 0), (1, 1), (2, 2)] hm rfl ⟨⟨_, rfl, rfl⟩, ⟨_, rfl, rfl⟩, ⟨_, rfl, rfl⟩, ⟨_, rfl, rfl⟩, trivial⟩ trivial ⟨⟨_, _, rfl, rfl, rfl⟩, ⟨_, _, rfl, rfl, rfl⟩, ⟨_, _, rfl, rfl, rfl⟩, trivial⟩)
    have n7 : W 4 #[true, true, true, false, false, false, false] (mkSt [(0, one (Cell.ptr 0 0)), (2, one (Cell.ptr 1 0)), (3, one (Cell.ptr 2 0)), (14, one (cI (IntKind.i64.wrap (r1.1 + r2.1)))), (15, one (Cell.ptr 0 0))] [] [(0, [Cell.sl true (List.map eB r2.2.b), cI r2.2.i, cI r2.2.h]), (1, [cI (0 : Int), cI (0 : Int), cI (0 : Int), cI (0 : Int)]), (2, [cI r1.1, cI (IntKind.i64.wrap (r1.1 + r2.1)), cI (0 : Int), cI (0 : Int)])] 3) := by
      refine hI _ _ _ ?_
      refine A.all [3] (by kernel_rfl) rfl ⟨⟨_, rfl, ?_⟩, trivial⟩
      · refine L.call [false, false] [] [0] 3 hF rfl rfl rfl ent97 rfl rfl rfl rfl rfl (Fspec_l1Below_gives k  (30 : Int) r2.2 r3 hr3) rfl ?_
        refine L.nil ?_
        exact A.on (hO _ _ _ n15) (Le.mk [(0, 0), (1, 1), (2, 2)] hm rfl ⟨⟨_, rfl, rfl⟩, ⟨_, rfl, rfl⟩, ⟨_, rfl, rfl⟩, ⟨_, rfl, rfl⟩, ⟨_, rfl, rfl⟩, trivial⟩ trivial ⟨⟨_, _, rfl, rfl, rfl⟩, ⟨_, _, rfl, rfl, rfl⟩, ⟨_, _, rfl, rfl, rfl⟩, trivial⟩)
    have n13 : W 4 #[true, false, true, true, false, false, false] (mkSt [(0, one (Cell.ptr 0 0)), (2, one (Cell.ptr 1 0)), (3, one (Cell.ptr 2 0)), (13, one (Cell.ptr 2 1)), (16, one (cI r3.1))] [] [(0, [Cell.sl true (List.map eB r3.2.b), cI r3.2.i, cI r3.2.h]), (1, [cI (0 : Int), cI (0 : Int), cI (0 : Int), cI (0 : Int)]), (2, [cI r1.1, cI (IntKind.i64.wrap (r1.1 + r2.1)), cI (0 : Int), cI (0 : Int)])] 3) := by
      refine hI _ _ _ ?_
      refine A.all [1] (by kernel_rfl) rfl ⟨⟨_, rfl, ?_⟩, trivial⟩
      · refine L.loadPtr shape3 hF rfl rfl rfl rfl rfl rfl ?_
        refine L.nil ?_
        exact A.on (hO _ _ _ n15) (Le.mk [(0, 0), (1, 1), (2, 2)] hm rfl ⟨⟨_, rfl, rfl⟩, ⟨_, rfl, rfl⟩, ⟨_, rfl, rfl⟩, ⟨_, rfl, rfl⟩, ⟨_, rfl, rfl⟩, trivial⟩ trivial ⟨⟨_, _, rfl, rfl, rfl⟩, ⟨_, _, rfl, rfl, rfl⟩, ⟨_, _, rfl, rfl, rfl⟩, trivial⟩)
    have n5 : W 5 #[true, false, true, false, false, false, false] (mkSt [(0, one (Cell.ptr 0 0)), (2, one (Cell.ptr 1 0)), (3, one (Cell.ptr 2 0)), (13, one (Cell.ptr 2 1)), (15, one (Cell.ptr 0 0))] [] [(0, [Cell.sl true (List.map eB r2.2.b), cI r2.2.i, cI r2.2.h]), (1, [cI (0 : Int), cI (0 : Int), cI (0 : Int), cI (0 : Int)]), (2, [cI r1.1, cI (IntKind.i64.wrap (r1.1 + r2.1)), cI (0 : Int), cI (0 : Int)])] 3) := by
      refine hI _ _ _ ?_
      refine A.all [1, 3] (by kernel_rfl) rfl ⟨⟨_, rfl, ?_⟩, ⟨_, rfl, ?_⟩, trivial⟩
      · refine L.loadPtr shape3 hF rfl rfl rfl rfl rfl rfl ?_
        refine L.nil ?_
        exact A.on (hO _ _ _ n7) (Le.mk [(0, 0), (1, 1), (2, 2)] hm rfl ⟨⟨_, rfl, rfl⟩, ⟨_, rfl, rfl⟩, ⟨_, rfl, rfl⟩, ⟨_, rfl, rfl⟩, ⟨_, rfl, rfl⟩, trivial⟩ trivial ⟨⟨_, _, rfl, rfl, rfl⟩, ⟨_, _, rfl, rfl, rfl⟩, ⟨_, _, rfl, rfl, rfl⟩, trivial⟩)
      · refine L.call [false, false] [] [0] 3 hF rfl rfl rfl ent97 rfl rfl rfl rfl rfl (Fspec_l1Below_gives k  (30 : Int) r2.2 r3 hr3) rfl ?_
        refine L.nil ?_
        exact A.on (hO _ _ _ n13) (Le.mk [(0, 0), (1, 1), (2, 2)] hm rfl ⟨⟨_, rfl, rfl⟩, ⟨_, rfl, rfl⟩, ⟨_, rfl, rfl⟩, ⟨_, rfl, rfl⟩, ⟨_, rfl, rfl⟩, trivial⟩ trivial ⟨⟨_, _, rfl, rfl, rfl⟩, ⟨_, _, rfl, rfl, rfl⟩, ⟨_, _, rfl, rfl, rfl⟩, trivial⟩)
    have n1 : W 6 #[true, false, false, false, false, false, false] (mkSt [(0, one (Cell.ptr 0 0)), (2, one (Cell.ptr 1 0)), (3, one (Cell.ptr 2 0)), (13, one (Cell.ptr 2 1))] [] [(0, [Cell.sl true (List.map eB r2.2.b), cI r2.2.i, cI r2.2.h]), (1, [cI (0 : Int), cI (0 : Int), cI (0 : Int), cI (0 : Int)]), (2, [cI r1.1, cI (IntKind.i64.wrap (r1.1 + r2.1)), cI (0 : Int), cI (0 : Int)])] 3) := by
      refine hI _ _ _ ?_
      refine A.take 2 rfl (by kernel_rfl) (by kernel_rfl) (by kernel_rfl) rfl (Ca.move) (fun Q0 k0 => L.move hF rfl rfl rfl (L.nil k0)) ?_
      exact A.on (hO _ _ _ n5) (Le.mk [(0, 0), (1, 1), (2, 2)] hm rfl ⟨⟨_, rfl, rfl⟩, ⟨_, rfl, rfl⟩, ⟨_, rfl, rfl⟩, ⟨_, rfl, rfl⟩, ⟨_, rfl, rfl⟩, trivial⟩ trivial ⟨⟨_, _, rfl, rfl, rfl⟩, ⟨_, _, rfl, rfl, rfl⟩, ⟨_, _, rfl, rfl, rfl⟩, trivial⟩)
    have n0 : W 7 #[false, false, false, false, false, false, false] (mkSt [(0, one (Cell.ptr 0 0)), (2, one (Cell.ptr 1 0)), (3, one (Cell.ptr 2 0))] [] [(0, [Cell.sl true (List.map eB r2.2.b), cI r2.2.i, cI r2.2.h]), (1, [cI (0 : Int), cI (0 : Int), cI (0 : Int), cI (0 : Int)]), (2, [cI r1.1, cI (IntKind.i64.wrap (r1.1 + r2.1)), cI (0 : Int), cI (0 : Int)])] 3) := by
      refine hI _ _ _ ?_
      refine A.take 0 rfl (by kernel_rfl) (by kernel_rfl) (by kernel_rfl) rfl (Ca.fieldAddr Try.underlying25 rfl info3 rfl) (fun Q0 k0 => L.fieldAddr Try.underlying25 rfl info3 rfl hF rfl rfl rfl rfl rfl (L.nil k0)) ?_
      exact A.on (hO _ _ _ n1) (Le.mk [(0, 0), (1, 1), (2, 2)] hm rfl ⟨⟨_, rfl, rfl⟩, ⟨_, rfl, rfl⟩, ⟨_, rfl, rfl⟩, ⟨_, rfl, rfl⟩, trivial⟩ trivial ⟨⟨_, _, rfl, rfl, rfl⟩, ⟨_, _, rfl, rfl, rfl⟩, ⟨_, _, rfl, rfl, rfl⟩, trivial⟩)
    exact hI _ _ _ (A.on (hO _ _ _ n0) (Le.mk [(0, 0), (1, 1), (2, 2)] hm rfl ⟨⟨_, rfl, rfl⟩, ⟨_, rfl, rfl⟩, ⟨_, rfl, rfl⟩, trivial⟩ trivial ⟨⟨_, _, rfl, rfl, rfl⟩, ⟨_, _, rfl, rfl, rfl⟩, ⟨_, _, rfl, rfl, rfl⟩, trivial⟩))
  have n63 : W 1 #[true, true, true, true, true, true, false] (mkSt [(0, one (Cell.ptr 0 0)), (2, one (Cell.ptr 1 0)), (3, one (Cell.ptr 2 0)), (11, one (cI (IntKind.i64.wrap (r1.1 + r2.1)))), (12, one (Cell.ptr 2 1))] [] [(0, [Cell.sl true (List.map eB r2.2.b), cI r2.2.i, cI r2.2.h]), (1, [cI (0 : Int), cI (0 : Int), cI (0 : Int), cI (0 : Int)]), (2, [cI r1.1, cI (0 : Int), cI (0 : Int), cI (0 : Int)])] 3) := by
    refine hI _ _ _ ?_
    refine A.all [6] (by kernel_rfl) rfl ⟨⟨_, rfl, ?_⟩, trivial⟩
    · refine L.storePtr shape3 hF rfl rfl rfl rfl rfl rfl rfl ?_
      refine L.nil ?_
      exact A.on (hO _ _ _ n127) (Le.mk [(0, 0), (1, 1), (2, 2)] hm rfl ⟨⟨_, rfl, rfl⟩, ⟨_, rfl, rfl⟩, ⟨_, rfl, rfl⟩, trivial⟩ trivial ⟨⟨_, _, rfl, rfl, rfl⟩, ⟨_, _, rfl, rfl, rfl⟩, ⟨_, _, rfl, rfl, rfl⟩, trivial⟩)
  have n31 : W 2 #[true, true, true, true, true, false, false] (mkSt [(0, one (Cell.ptr 0 0)), (2, one (Cell.ptr 1 0)), (3, one (Cell.ptr 2 0)), (11, one (cI (IntKind.i64.wrap (r1.1 + r2.1))))] [] [(0, [Cell.sl true (List.map eB r2.2.b), cI r2.2.i, cI r2.2.h]), (1, [cI (0 : Int), cI (0 : Int), cI (0 : Int), cI (0 : Int)]), (2, [cI r1.1, cI (0 : Int), cI (0 : Int), cI (0 : Int)])] 3) := by
    refine hI _ _ _ ?_
    refine A.take 5 rfl (by kernel_rfl) (by kernel_rfl) (by kernel_rfl) rfl (Ca.fieldAddr Try.underlying25 rfl info3 rfl) (fun Q0 k0 => L.fieldAddr Try.underlying25 rfl info3 rfl hF rfl rfl rfl rfl rfl (L.nil k0)) ?_
    exact A.on (hO _ _ _ n63) (Le.mk [(0, 0), (1, 1), (2, 2)] hm rfl ⟨⟨_, rfl, rfl⟩, ⟨_, rfl, rfl⟩, ⟨_, rfl, rfl⟩, ⟨_, rfl, rfl⟩, ⟨_, rfl, rfl⟩, trivial⟩ trivial ⟨⟨_, _, rfl, rfl, rfl⟩, ⟨_, _, rfl, rfl, rfl⟩, ⟨_, _, rfl, rfl, rfl⟩, trivial⟩)
  have n15 : W 3 #[true, true, true, true, false, false, false] (mkSt [(0, one (Cell.ptr 0 0)), (2, one (Cell.ptr 1 0)), (3, one (Cell.ptr 2 0)), (8, one (cI r1.1)), (10, one (cI r2.1))] [] [(0, [Cell.sl true (List.map eB r2.2.b), cI r2.2.i, cI r2.2.h]), (1, [cI (0 : Int), cI (0 : Int), cI (0 : Int), cI (0 : Int)]), (2, [cI r1.1, cI (0 : Int), cI (0 : Int), cI (0 : Int)])] 3) := by
    refine hI _ _ _ ?_
    refine A.take 4 rfl (by kernel_rfl) (by kernel_rfl) (by kernel_rfl) rfl (Ca.bin rfl rfl (calm_int _ _ _ _ _ _ _ _)) (fun Q0 k0 => L.bin hF rfl rfl rfl rfl rfl rfl (L.nil k0)) ?_
    exact A.on (hO _ _ _ n31) (Le.mk [(0, 0), (1, 1), (2, 2)] hm rfl ⟨⟨_, rfl, rfl⟩, ⟨_, rfl, rfl⟩, ⟨_, rfl, rfl⟩, ⟨_, rfl, rfl⟩, trivial⟩ trivial ⟨⟨_, _, rfl, rfl, rfl⟩, ⟨_, _, rfl, rfl, rfl⟩, ⟨_, _, rfl, rfl, rfl⟩, trivial⟩)
  have n7 : W 4 #[true, true, true, false, false, false, false] (mkSt [(0, one (Cell.ptr 0 0)), (2, one (Cell.ptr 1 0)), (3, one (Cell.ptr 2 0)), (8, one (cI r1.1)), (9, one (Cell.ptr 0 0))] [] [(0, [Cell.sl true (List.map eB r1.2.b), cI r1.2.i, cI r1.2.h]), (1, [cI (0 : Int), cI (0 : Int), cI (0 : Int), cI (0 : Int)]), (2, [cI r1.1, cI (0 : Int), cI (0 : Int), cI (0 : Int)])] 3) := by
    refine hI _ _ _ ?_
    refine A.all [3] (by kernel_rfl) rfl ⟨⟨_, rfl, ?_⟩, trivial⟩
    · refine L.call [false, false] [] [0] 3 hF rfl rfl rfl ent97 rfl rfl rfl rfl rfl (Fspec_l1Below_gives k  (10 : Int) r1.2 r2 hr2) rfl ?_
      refine L.nil ?_
      exact A.on (hO _ _ _ n15) (Le.mk [(0, 0), (1, 1), (2, 2)] hm rfl ⟨⟨_, rfl, rfl⟩, ⟨_, rfl, rfl⟩, ⟨_, rfl, rfl⟩, ⟨_, rfl, rfl⟩, ⟨_, rfl, rfl⟩, trivial⟩ trivial ⟨⟨_, _, rfl, rfl, rfl⟩, ⟨_, _, rfl, rfl, rfl⟩, ⟨_, _, rfl, rfl, rfl⟩, trivial⟩)
  have n13 : W 4 #[true, false, true, true, false, false, false] (mkSt [(0, one (Cell.ptr 0 0)), (2, one (Cell.ptr 1 0)), (3, one (Cell.ptr 2 0)), (7, one (Cell.ptr 2 0)), (10, one (cI r2.1))] [] [(0, [Cell.sl true (List.map eB r2.2.b), cI r2.2.i, cI r2.2.h]), (1, [cI (0 : Int), cI (0 : Int), cI (0 : Int), cI (0 : Int)]), (2, [cI r1.1, cI (0 : Int), cI (0 : Int), cI (0 : Int)])] 3) := by
    refine hI _ _ _ ?_
    refine A.all [1] (by kernel_rfl) rfl ⟨⟨_, rfl, ?_⟩, trivial⟩
    · refine L.loadPtr shape3 hF rfl rfl rfl rfl rfl rfl ?_
      refine L.nil ?_
      exact A.on (hO _ _ _ n15) (Le.mk [(0, 0), (1, 1), (2, 2)] hm rfl ⟨⟨_, rfl, rfl⟩, ⟨_, rfl, rfl⟩, ⟨_, rfl, rfl⟩, ⟨_, rfl, rfl⟩, ⟨_, rfl, rfl⟩, trivial⟩ trivial ⟨⟨_, _, rfl, rfl, rfl⟩, ⟨_, _, rfl, rfl, rfl⟩, ⟨_, _, rfl, rfl, rfl⟩, trivial⟩)
  have n5 : W 5 #[true, false, true, false, false, false, false] (mkSt [(0, one (Cell.ptr 0 0)), (2, one (Cell.ptr 1 0)), (3, one (Cell.ptr 2 0)), (7, one (Cell.ptr 2 0)), (9, one (Cell.ptr 0 0))] [] [(0, [Cell.sl true (List.map eB r1.2.b), cI r1.2.i, cI r1.2.h]), (1, [cI (0 : Int), cI (0 : Int), cI (0 : Int), cI (0 : Int)]), (2, [cI r1.1, cI (0 : Int), cI (0 : Int), cI (0 : Int)])] 3) := by
    refine hI _ _ _ ?_
    refine A.all [1, 3] (by kernel_rfl) rfl ⟨⟨_, rfl, ?_⟩, ⟨_, rfl, ?_⟩, trivial⟩
    · refine L.loadPtr shape3 hF rfl rfl rfl rfl rfl rfl ?_
      refine L.nil ?_
      exact A.on (hO _ _ _ n7) (Le.mk [(0, 0), (1, 1), (2, 2)] hm rfl ⟨⟨_, rfl, rfl⟩, ⟨_, rfl, rfl⟩, ⟨_, rfl, rfl⟩, ⟨_, rfl, rfl⟩, ⟨_, rfl, rfl⟩, trivial⟩ trivial ⟨⟨_, _, rfl, rfl, rfl⟩, ⟨_, _, rfl, rfl, rfl⟩, ⟨_, _, rfl, rfl, rfl⟩, trivial⟩)
    · refine L.call [false, false] [] [0] 3 hF rfl rfl rfl ent97 rfl rfl rfl rfl rfl (Fspec_l1Below_gives k  (10 : Int) r1.2 r2 hr2) rfl ?_
      refine L.nil ?_
      exact A.on (hO _ _ _ n13) (Le.mk [(0, 0), (1, 1), (2, 2)] hm rfl ⟨⟨_, rfl, rfl⟩, ⟨_, rfl, rfl⟩, ⟨_, rfl, rfl⟩, ⟨_, rfl, rfl⟩, ⟨_, rfl, rfl⟩, trivial⟩ trivial ⟨⟨_, _, rfl, rfl, rfl⟩, ⟨_, _, rfl, rfl, rfl⟩, ⟨_, _, rfl, rfl, rfl⟩, trivial⟩)
  have n1 : W 6 #[true, false, false, false, false, false, false] (mkSt [(0, one (Cell.ptr 0 0)), (2, one (Cell.ptr 1 0)), (3, one (Cell.ptr 2 0)), (7, one (Cell.ptr 2 0))] [] [(0, [Cell.sl true (List.map eB r1.2.b), cI r1.2.i, cI r1.2.h]), (1, [cI (0 : Int), cI (0 : Int), cI (0 : Int), cI (0 : Int)]), (2, [cI r1.1, cI (0 : Int), cI (0 : Int), cI (0 : Int)])] 3) := by
    refine hI _ _ _ ?_
    refine A.take 2 rfl (by kernel_rfl) (by kernel_rfl) (by kernel_rfl) rfl (Ca.move) (fun Q0 k0 => L.move hF rfl rfl rfl (L.nil k0)) ?_
    exact A.on (hO _ _ _ n5) (Le.mk [(0, 0), (1, 1), (2, 2)] hm rfl ⟨⟨_, rfl, rfl⟩, ⟨_, rfl, rfl⟩, ⟨_, rfl, rfl⟩, ⟨_, rfl, rfl⟩, ⟨_, rfl, rfl⟩, trivial⟩ trivial ⟨⟨_, _, rfl, rfl, rfl⟩, ⟨_, _, rfl, rfl, rfl⟩, ⟨_, _, rfl, rfl, rfl⟩, trivial⟩)
  have n0 : W 7 #[false, false, false, false, false, false, false] (mkSt [(0, one (Cell.ptr 0 0)), (2, one (Cell.ptr 1 0)), (3, one (Cell.ptr 2 0))] [] [(0, [Cell.sl true (List.map eB r1.2.b), cI r1.2.i, cI r1.2.h]), (1, [cI (0 : Int), cI (0 : Int), cI (0 : Int), cI (0 : Int)]), (2, [cI r1.1, cI (0 : Int), cI (0 : Int), cI (0 : Int)])] 3) := by
    refine hI _ _ _ ?_
    refine A.take 0 rfl (by kernel_rfl) (by kernel_rfl) (by kernel_rfl) rfl (Ca.fieldAddr Try.underlying25 rfl info3 rfl) (fun Q0 k0 => L.fieldAddr Try.underlying25 rfl info3 rfl hF rfl rfl rfl rfl rfl (L.nil k0)) ?_
    exact A.on (hO _ _ _ n1) (Le.mk [(0, 0), (1, 1), (2, 2)] hm rfl ⟨⟨_, rfl, rfl⟩, ⟨_, rfl, rfl⟩, ⟨_, rfl, rfl⟩, ⟨_, rfl, rfl⟩, trivial⟩ trivial ⟨⟨_, _, rfl, rfl, rfl⟩, ⟨_, _, rfl, rfl, rfl⟩, ⟨_, _, rfl, rfl, rfl⟩, trivial⟩)
  exact hI _ _ _ (A.on (hO _ _ _ n0) (Le.mk [(0, 0), (1, 5), (2, 10)] hm rfl ⟨⟨_, rfl, rfl⟩, ⟨_, rfl, rfl⟩, ⟨_, rfl, rfl⟩, trivial⟩ trivial ⟨⟨_, _, rfl, rfl, rfl⟩, ⟨_, _, rfl, rfl, rfl⟩, ⟨_, _, rfl, rfl, rfl⟩, trivial⟩))
/-! ### Fspec_DrawRenewed -/
def Fspec_DrawRenewed (k : Nat) (a0 : List UInt8) : Option (Timpl_Times × Int × Int) := (Fspec_l1New k a0).bind fun r1 => (Fspec_l16Times k r1).bind fun r2 => (Fspec_l1Below k (70 : Int) r2.2).bind fun r3 => (Fspec_l1PickInt k ([(1 : Int), (5 : Int), (20 : Int), (200 : Int), (0 : Int), (-1 : Int), (9223372036854775807 : Int)] : List Int) r3.2).bind fun r4 => some (r2.1, (IntKind.i64.wrap (r3.1 - (2 : Int))), r4.1)
theorem ent44 : Enters Try.prog 44 := ⟨Try.f44, Try.func44, rfl, by decide⟩
set_option maxHeartbeats 8000000 in
set_option maxRecDepth 100000 in
theorem Fspec_DrawRenewed_gives (k : Nat) (a0 : List UInt8) (r : Timpl_Times × Int × Int) (H : Fspec_DrawRenewed k a0 = some r) : Gives Try.prog 44 [V.one (Cell.sl true (List.map eB a0))] [] [V.agg [cI r.1.Auth, cI r.1.Start, cI r.1.End, cI r.1.Renew], V.one (cI r.2.1), V.one (cI r.2.2)] [] := by
  refine Gives.intro Try.func44 rfl rfl rfl rfl ?_
  intro F hF hm
  unfold Fspec_DrawRenewed at H
  obtain ⟨K, hK⟩ : ∃ K, k ≤ K := ⟨k, Nat.le_refl k⟩
  refine WpC.seq ?_
  refine WpC.regionL ?_
  refine L.alloc 1 info25 rfl hF rfl rfl rfl rfl ?_
  refine L.assign hF rfl rfl rfl ?_
  refine L.assign hF rfl rfl rfl ?_
  refine L.nil ?_
  refine WpC.seq ?_
  refine WpC.regionL ?_
  refine L.move hF rfl rfl rfl ?_
  obtain ⟨r1, hr1, H⟩ := bindS H
  refine L.call [false] [] [] 2 hF rfl rfl rfl ent95 rfl rfl rfl rfl rfl (Fspec_l1New_gives k  a0 r1 hr1) rfl ?_
  refine L.assign hF rfl rfl rfl ?_
  refine L.nil ?_
  refine WpC.seq ?_
  refine WpC.regionL ?_
  refine L.move hF rfl rfl rfl ?_
  obtain ⟨r2, hr2, H⟩ := bindS H
  refine L.call [false] [] [2] 3 hF rfl rfl rfl ent104 rfl rfl rfl rfl rfl (Fspec_l16Times_gives k  r1 r2 hr2) rfl ?_
  refine L.alloc 10 info25 rfl hF rfl rfl rfl rfl ?_
  refine L.storePtr shape25 hF rfl rfl rfl rfl rfl rfl rfl ?_
  refine L.nil ?_
  refine WpC.seq ?_
  obtain ⟨r3, hr3, H⟩ := bindS H
  obtain ⟨r4, hr4, H⟩ := bindS H
  refine A.begin mixed rfl rfl ?_
  intro W hI hO
  have n1023 : W 0 #[true, true, true, true, true, true, true, true, true, true] (mkSt [(2, one (Cell.ptr 0 0)), (3, one (cI (IntKind.i64.wrap (r3.1 - (2 : Int))))), (4, one (cI r4.1))] [] [(0, [cI r2.1.Auth, cI r2.1.Start, cI r2.1.End, cI r2.1.Renew])] 1) := by
    refine hI _ _ _ (A.done (by kernel_rfl) ?_)
    refine WpC.ret ?_
    cases H
    exact Leaves.ret rfl rfl rfl ⟨rfl, rfl⟩
  have n511 : W 1 #[true, true, true, true, true, true, true, true, true, false] (mkSt [(2, one (Cell.ptr 0 0)), (3, one (cI (IntKind.i64.wrap (r3.1 - (2 : Int))))), (4, one (cI (0 : Int))), (17, one (cI r4.1))] [] [(0, [cI r2.1.Auth, cI r2.1.Start, cI r2.1.End, cI r2.1.Renew])] 1) := by
    refine hI _ _ _ ?_
    refine A.take 9 rfl (by kernel_rfl) (by kernel_rfl) (by kernel_rfl) rfl (Ca.assign) (fun Q0 k0 => L.assign hF rfl rfl rfl (L.nil k0)) ?_
    exact A.on (hO _ _ _ n1023) (Le.mk [(0, 0)] hm rfl ⟨⟨_, rfl, rfl⟩, ⟨_, rfl, rfl⟩, ⟨_, rfl, rfl⟩, trivial⟩ trivial ⟨⟨_, _, rfl, rfl, rfl⟩, trivial⟩)
  have n255 : W 2 #[true, true, true, true, true, true, true, true, false, false] (mkSt [(2, one (Cell.ptr 0 0)), (3, one (cI (0 : Int))), (4, one (cI (0 : Int))), (14, one (cI (IntKind.i64.wrap (r3.1 - (2 : Int))))), (17, one (cI r4.1))] [] [(0, [cI r2.1.Auth, cI r2.1.Start, cI r2.1.End, cI r2.1.Renew])] 1) := by
    refine hI _ _ _ ?_
    refine A.take 8 rfl (by kernel_rfl) (by kernel_rfl) (by kernel_rfl) rfl (Ca.assign) (fun Q0 k0 => L.assign hF rfl rfl rfl (L.nil k0)) ?_
    exact A.on (hO _ _ _ n511) (Le.mk [(0, 0)] hm rfl ⟨⟨_, rfl, rfl⟩, ⟨_, rfl, rfl⟩, ⟨_, rfl, rfl⟩, ⟨_, rfl, rfl⟩, trivial⟩ trivial ⟨⟨_, _, rfl, rfl, rfl⟩, trivial⟩)
  have n127 : W 3 #[true, true, true, true, true, true, true, false, false, false] (mkSt [(2, one (Cell.ptr 0 0)), (3, one (cI (0 : Int))), (4, one (cI (0 : Int))), (11, agg [cI r2.1.Auth, cI r2.1.Start, cI r2.1.End, cI r2.1.Renew]), (14, one (cI (IntKind.i64.wrap (r3.1 - (2 : Int))))), (17, one (cI r4.1))] [] [(0, [cI (0 : Int), cI (0 : Int), cI (0 : Int), cI (0 : Int)])] 1) := by
    refine hI _ _ _ ?_
    refine A.all [7] (by kernel_rfl) rfl ⟨⟨_, rfl, ?_⟩, trivial⟩
    · refine L.storePtr shape25 hF rfl rfl rfl rfl rfl rfl rfl ?_
      refine L.nil ?_
      exact A.on (hO _ _ _ n255) (Le.mk [(0, 0)] hm rfl ⟨⟨_, rfl, rfl⟩, ⟨_, rfl, rfl⟩, ⟨_, rfl, rfl⟩, ⟨_, rfl, rfl⟩, ⟨_, rfl, rfl⟩, trivial⟩ trivial ⟨⟨_, _, rfl, rfl, rfl⟩, trivial⟩)
  have n126 : W 4 #[false, true, true, true, true, true, true, false, false, false] (mkSt [(2, one (Cell.ptr 0 0)), (3, one (cI (0 : Int))), (4, one (cI (0 : Int))), (6, one (Cell.ptr 1 0)), (14, one (cI (IntKind.i64.wrap (r3.1 - (2 : Int))))), (17, one (cI r4.1))] [] [(0, [cI (0 : Int), cI (0 : Int), cI (0 : Int), cI (0 : Int)]), (1, [cI r2.1.Auth, cI r2.1.Start, cI r2.1.End, cI r2.1.Renew])] 2) := by
    refine hI _ _ _ ?_
    refine A.all [0] (by kernel_rfl) rfl ⟨⟨_, rfl, ?_⟩, trivial⟩
    · refine L.loadPtr shape25 hF rfl rfl rfl rfl rfl rfl ?_
      refine L.nil ?_
      exact A.on (hO _ _ _ n127) (Le.mk [(0, 0)] hm rfl ⟨⟨_, rfl, rfl⟩, ⟨_, rfl, rfl⟩, ⟨_, rfl, rfl⟩, ⟨_, rfl, rfl⟩, ⟨_, rfl, rfl⟩, ⟨_, rfl, rfl⟩, trivial⟩ trivial ⟨⟨_, _, rfl, rfl, rfl⟩, trivial⟩)
  have n63 : W 4 #[true, true, true, true, true, true, false, false, false, false] (mkSt [(2, one (Cell.ptr 0 0)), (3, one (cI (0 : Int))), (4, one (cI (0 : Int))), (11, agg [cI r2.1.Auth, cI r2.1.Start, cI r2.1.End, cI r2.1.Renew]), (14, one (cI (IntKind.i64.wrap (r3.1 - (2 : Int))))), (15, one (Cell.ptr 1 0)), (16, one (Cell.own 2))] [(2, ⟨1, List.map eI ([(1 : Int), (5 : Int), (20 : Int), (200 : Int), (0 : Int), (-1 : Int), (9223372036854775807 : Int)] : List Int)⟩)] [(0, [cI (0 : Int), cI (0 : Int), cI (0 : Int), cI (0 : Int)]), (1, [Cell.sl true (List.map eB r3.2.b), cI r3.2.i, cI r3.2.h])] 3) := by
    refine hI _ _ _ ?_
    refine A.all [6] (by kernel_rfl) rfl ⟨⟨_, rfl, ?_⟩, trivial⟩
    · refine L.call [false, false] [2] [1] 3 hF rfl rfl rfl ent105 rfl rfl rfl rfl rfl (Fspec_l1PickInt_gives k false ([(1 : Int), (5 : Int), (20 : Int), (200 : Int), (0 : Int), (-1 : Int), (9223372036854775807 : Int)] : List Int) r3.2 r4 hr4) rfl ?_
      refine L.nil ?_
      exact A.on (hO _ _ _ n127) (Le.mk [(0, 0)] hm rfl ⟨⟨_, rfl, rfl⟩, ⟨_, rfl, rfl⟩, ⟨_, rfl, rfl⟩, ⟨_, rfl, rfl⟩, ⟨_, rfl, rfl⟩, ⟨_, rfl, rfl⟩, trivial⟩ trivial ⟨⟨_, _, rfl, rfl, rfl⟩, trivial⟩)
  have n31 : W 5 #[true, true, true, true, true, false, false, false, false, false] (mkSt [(2, one (Cell.ptr 0 0)), (3, one (cI (0 : Int))), (4, one (cI (0 : Int))), (11, agg [cI r2.1.Auth, cI r2.1.Start, cI r2.1.End, cI r2.1.Renew]), (14, one (cI (IntKind.i64.wrap (r3.1 - (2 : Int))))), (15, one (Cell.ptr 1 0))] [] [(0, [cI (0 : Int), cI (0 : Int), cI (0 : Int), cI (0 : Int)]), (1, [Cell.sl true (List.map eB r3.2.b), cI r3.2.i, cI r3.2.h])] 2) := by
    refine hI _ _ _ ?_
    refine A.all [5] (by kernel_rfl) rfl ⟨⟨_, rfl, ?_⟩, trivial⟩
    · refine L.buildSlice (e := eI) 2 ([(1 : Int), (5 : Int), (20 : Int), (200 : Int), (0 : Int), (-1 : Int), (9223372036854775807 : Int)] : List Int) Try.underlying77 info3 rfl rfl rfl hF rfl rfl rfl rfl rfl rfl rfl rfl ?_
      refine L.nil ?_
      exact A.on (hO _ _ _ n63) (Le.mk [(0, 0), (1, 1), (2, 2)] hm rfl ⟨⟨_, rfl, rfl⟩, ⟨_, rfl, rfl⟩, ⟨_, rfl, rfl⟩, ⟨_, rfl, rfl⟩, ⟨_, rfl, rfl⟩, ⟨_, rfl, rfl⟩, ⟨_, rfl, rfl⟩, trivial⟩ ⟨⟨_, rfl, rfl⟩, trivial⟩ ⟨⟨_, _, rfl, rfl, rfl⟩, ⟨_, _, rfl, rfl, rfl⟩, trivial⟩)
  have n55 : W 5 #[true, true, true, false, true, true, false, false, false, false] (mkSt [(2, one (Cell.ptr 0 0)), (3, one (cI (0 : Int))), (4, one (cI (0 : Int))), (11, agg [cI r2.1.Auth, cI r2.1.Start, cI r2.1.End, cI r2.1.Renew]), (13, one (cI r3.1)), (15, one (Cell.ptr 1 0)), (16, one (Cell.own 2))] [(2, ⟨1, List.map eI ([(1 : Int), (5 : Int), (20 : Int), (200 : Int), (0 : Int), (-1 : Int), (9223372036854775807 : Int)] : List Int)⟩)] [(0, [cI (0 : Int), cI (0 : Int), cI (0 : Int), cI (0 : Int)]), (1, [Cell.sl true (List.map eB r3.2.b), cI r3.2.i, cI r3.2.h])] 3) := by
    refine hI _ _ _ ?_
    refine A.take 3 rfl (by kernel_rfl) (by kernel_rfl) (by kernel_rfl) rfl (Ca.bin rfl rfl (calm_int _ _ _ _ _ _ _ _)) (fun Q0 k0 => L.bin hF rfl rfl rfl rfl rfl rfl (L.nil k0)) ?_
    exact A.on (hO _ _ _ n63) (Le.mk [(0, 0), (1, 1), (2, 2)] hm rfl ⟨⟨_, rfl, rfl⟩, ⟨_, rfl, rfl⟩, ⟨_, rfl, rfl⟩, ⟨_, rfl, rfl⟩, ⟨_, rfl, rfl⟩, ⟨_, rfl, rfl⟩, ⟨_, rfl, rfl⟩, trivial⟩ ⟨⟨_, rfl, rfl⟩, trivial⟩ ⟨⟨_, _, rfl, rfl, rfl⟩, ⟨_, _, rfl, rfl, rfl⟩, trivial⟩)
  have n62 : W 5 #[false, true, true, true, true, true, false, false, false, false] (mkSt [(2, one (Cell.ptr 0 0)), (3, one (cI (0 : Int))), (4, one (cI (0 : Int))), (6, one (Cell.ptr 1 0)), (14, one (cI (IntKind.i64.wrap (r3.1 - (2 : Int))))), (15, one (Cell.ptr 2 0)), (16, one (Cell.own 3))] [(3, ⟨1, List.map eI ([(1 : Int), (5 : Int), (20 : Int), (200 : Int), (0 : Int), (-1 : Int), (9223372036854775807 : Int)] : List Int)⟩)] [(0, [cI (0 : Int), cI (0 : Int), cI (0 : Int), cI (0 : Int)]), (1, [cI r2.1.Auth, cI r2.1.Start, cI r2.1.End, cI r2.1.Renew]), (2, [Cell.sl true (List.map eB r3.2.b), cI r3.2.i, cI r3.2.h])] 4) := by
    refine hI _ _ _ ?_
    refine A.all [0, 6] (by kernel_rfl) rfl ⟨⟨_, rfl, ?_⟩, ⟨_, rfl, ?_⟩, trivial⟩
    · refine L.loadPtr shape25 hF rfl rfl rfl rfl rfl rfl ?_
      refine L.nil ?_
      exact A.on (hO _ _ _ n63) (Le.mk [(0, 0), (1, 2), (2, 3)] hm rfl ⟨⟨_, rfl, rfl⟩, ⟨_, rfl, rfl⟩, ⟨_, rfl, rfl⟩, ⟨_, rfl, rfl⟩, ⟨_, rfl, rfl⟩, ⟨_, rfl, rfl⟩, ⟨_, rfl, rfl⟩, trivial⟩ ⟨⟨_, rfl, rfl⟩, trivial⟩ ⟨⟨_, _, rfl, rfl, rfl⟩, ⟨_, _, rfl, rfl, rfl⟩, trivial⟩)
    · refine L.call [false, false] [3] [2] 4 hF rfl rfl rfl ent105 rfl rfl rfl rfl rfl (Fspec_l1PickInt_gives k false ([(1 : Int), (5 : Int), (20 : Int), (200 : Int), (0 : Int), (-1 : Int), (9223372036854775807 : Int)] : List Int) r3.2 r4 hr4) rfl ?_
      refine L.nil ?_
      exact A.on (hO _ _ _ n126) (Le.mk [(0, 0), (1, 1)] hm rfl ⟨⟨_, rfl, rfl⟩, ⟨_, rfl, rfl⟩, ⟨_, rfl, rfl⟩, ⟨_, rfl, rfl⟩, ⟨_, rfl, rfl⟩, ⟨_, rfl, rfl⟩, trivial⟩ trivial ⟨⟨_, _, rfl, rfl, rfl⟩, ⟨_, _, rfl, rfl, rfl⟩, trivial⟩)
  have n23 : W 6 #[true, true, true, false, true, false, false, false, false, false] (mkSt [(2, one (Cell.ptr 0 0)), (3, one (cI (0 : Int))), (4, one (cI (0 : Int))), (11, agg [cI r2.1.Auth, cI r2.1.Start, cI r2.1.End, cI r2.1.Renew]), (13, one (cI r3.1)), (15, one (Cell.ptr 1 0))] [] [(0, [cI (0 : Int), cI (0 : Int), cI (0 : Int), cI (0 : Int)]), (1, [Cell.sl true (List.map eB r3.2.b), cI r3.2.i, cI r3.2.h])] 2) := by
    refine hI _ _ _ ?_
    refine A.take 3 rfl (by kernel_rfl) (by kernel_rfl) (by kernel_rfl) rfl (Ca.bin rfl rfl (calm_int _ _ _ _ _ _ _ _)) (fun Q0 k0 => L.bin hF rfl rfl rfl rfl rfl rfl (L.nil k0)) ?_
    exact A.on (hO _ _ _ n31) (Le.mk [(0, 0), (1, 1)] hm rfl ⟨⟨_, rfl, rfl⟩, ⟨_, rfl, rfl⟩, ⟨_, rfl, rfl⟩, ⟨_, rfl, rfl⟩, ⟨_, rfl, rfl⟩, ⟨_, rfl, rfl⟩, trivial⟩ trivial ⟨⟨_, _, rfl, rfl, rfl⟩, ⟨_, _, rfl, rfl, rfl⟩, trivial⟩)
  have n30 : W 6 #[false, true, true, true, true, false, false, false, false, false] (mkSt [(2, one (Cell.ptr 0 0)), (3, one (cI (0 : Int))), (4, one (cI (0 : Int))), (6, one (Cell.ptr 1 0)), (14, one (cI (IntKind.i64.wrap (r3.1 - (2 : Int))))), (15, one (Cell.ptr 2 0))] [] [(0, [cI (0 : Int), cI (0 : Int), cI (0 : Int), cI (0 : Int)]), (1, [cI r2.1.Auth, cI r2.1.Start, cI r2.1.End, cI r2.1.Renew]), (2, [Cell.sl true (List.map eB r3.2.b), cI r3.2.i, cI r3.2.h])] 3) := by
    refine hI _ _ _ ?_
    refine A.all [0, 5] (by kernel_rfl) rfl ⟨⟨_, rfl, ?_⟩, ⟨_, rfl, ?_⟩, trivial⟩
    · refine L.loadPtr shape25 hF rfl rfl rfl rfl rfl rfl ?_
      refine L.nil ?_
      exact A.on (hO _ _ _ n31) (Le.mk [(0, 0), (1, 2)] hm rfl ⟨⟨_, rfl, rfl⟩, ⟨_, rfl, rfl⟩, ⟨_, rfl, rfl⟩, ⟨_, rfl, rfl⟩, ⟨_, rfl, rfl⟩, ⟨_, rfl, rfl⟩, trivial⟩ trivial ⟨⟨_, _, rfl, rfl, rfl⟩, ⟨_, _, rfl, rfl, rfl⟩, trivial⟩)
    · refine L.buildSlice (e := eI) 3 ([(1 : Int), (5 : Int), (20 : Int), (200 : Int), (0 : Int), (-1 : Int), (9223372036854775807 : Int)] : List Int) Try.underlying77 info3 rfl rfl rfl hF rfl rfl rfl rfl rfl rfl rfl rfl ?_
      refine L.nil ?_
      exact A.on (hO _ _ _ n62) (Le.mk [(0, 0), (1, 1), (2, 2), (3, 3)] hm rfl ⟨⟨_, rfl, rfl⟩, ⟨_, rfl, rfl⟩, ⟨_, rfl, rfl⟩, ⟨_, rfl, rfl⟩, ⟨_, rfl, rfl⟩, ⟨_, rfl, rfl⟩, ⟨_, rfl, rfl⟩, trivial⟩ ⟨⟨_, rfl, rfl⟩, trivial⟩ ⟨⟨_, _, rfl, rfl, rfl⟩, ⟨_, _, rfl, rfl, rfl⟩, ⟨_, _, rfl, rfl, rfl⟩, trivial⟩)
  have n51 : W 6 #[true, true, false, false, true, true, false, false, false, false] (mkSt [(2, one (Cell.ptr 0 0)), (3, one (cI (0 : Int))), (4, one (cI (0 : Int))), (11, agg [cI r2.1.Auth, cI r2.1.Start, cI r2.1.End, cI r2.1.Renew]), (12, one (Cell.ptr 1 0)), (15, one (Cell.ptr 1 0)), (16, one (Cell.own 2))] [(2, ⟨1, List.map eI ([(1 : Int), (5 : Int), (20 : Int), (200 : Int), (0 : Int), (-1 : Int), (9223372036854775807 : Int)] : List Int)⟩)] [(0, [cI (0 : Int), cI (0 : Int), cI (0 : Int), cI (0 : Int)]), (1, [Cell.sl true (List.map eB r2.2.b), cI r2.2.i, cI r2.2.h])] 3) := by
    refine hI _ _ _ ?_
    refine A.all [2] (by kernel_rfl) rfl ⟨⟨_, rfl, ?_⟩, trivial⟩
    · refine L.call [false, false] [] [1] 3 hF rfl rfl rfl ent97 rfl rfl rfl rfl rfl (Fspec_l1Below_gives k  (70 : Int) r2.2 r3 hr3) rfl ?_
      refine L.nil ?_
      exact A.on (hO _ _ _ n55) (Le.mk [(0, 0), (1, 1), (2, 2)] hm rfl ⟨⟨_, rfl, rfl⟩, ⟨_, rfl, rfl⟩, ⟨_, rfl, rfl⟩, ⟨_, rfl, rfl⟩, ⟨_, rfl, rfl⟩, ⟨_, rfl, rfl⟩, ⟨_, rfl, rfl⟩, trivial⟩ ⟨⟨_, rfl, rfl⟩, trivial⟩ ⟨⟨_, _, rfl, rfl, rfl⟩, ⟨_, _, rfl, rfl, rfl⟩, trivial⟩)
  have n54 : W 6 #[false, true, true, false, true, true, false, false, false, false] (mkSt [(2, one (Cell.ptr 0 0)), (3, one (cI (0 : Int))), (4, one (cI (0 : Int))), (6, one (Cell.ptr 1 0)), (13, one (cI r3.1)), (15, one (Cell.ptr 2 0)), (16, one (Cell.own 3))] [(3, ⟨1, List.map eI ([(1 : Int), (5 : Int), (20 : Int), (200 : Int), (0 : Int), (-1 : Int), (9223372036854775807 : Int)] : List Int)⟩)] [(0, [cI (0 : Int), cI (0 : Int), cI (0 : Int), cI (0 : Int)]), (1, [cI r2.1.Auth, cI r2.1.Start, cI r2.1.End, cI r2.1.Renew]), (2, [Cell.sl true (List.map eB r3.2.b), cI r3.2.i, cI r3.2.h])] 4) := by
    refine hI _ _ _ ?_
    refine A.take 3 rfl (by kernel_rfl) (by kernel_rfl) (by kernel_rfl) rfl (Ca.bin rfl rfl (calm_int _ _ _ _ _ _ _ _)) (fun Q0 k0 => L.bin hF rfl rfl rfl rfl rfl rfl (L.nil k0)) ?_
    exact A.on (hO _ _ _ n62) (Le.mk [(0, 0), (1, 1), (2, 2), (3, 3)] hm rfl ⟨⟨_, rfl, rfl⟩, ⟨_, rfl, rfl⟩, ⟨_, rfl, rfl⟩, ⟨_, rfl, rfl⟩, ⟨_, rfl, rfl⟩, ⟨_, rfl, rfl⟩, ⟨_, rfl, rfl⟩, trivial⟩ ⟨⟨_, rfl, rfl⟩, trivial⟩ ⟨⟨_, _, rfl, rfl, rfl⟩, ⟨_, _, rfl, rfl, rfl⟩, ⟨_, _, rfl, rfl, rfl⟩, trivial⟩)
  have n19 : W 7 #[true, true, false, false, true, false, false, false, false, false] (mkSt [(2, one (Cell.ptr 0 0)), (3, one (cI (0 : Int))), (4, one (cI (0 : Int))), (11, agg [cI r2.1.Auth, cI r2.1.Start, cI r2.1.End, cI r2.1.Renew]), (12, one (Cell.ptr 1 0)), (15, one (Cell.ptr 1 0))] [] [(0, [cI (0 : Int), cI (0 : Int), cI (0 : Int), cI (0 : Int)]), (1, [Cell.sl true (List.map eB r2.2.b), cI r2.2.i, cI r2.2.h])] 2) := by
    refine hI _ _ _ ?_
    refine A.all [2, 5] (by kernel_rfl) rfl ⟨⟨_, rfl, ?_⟩, ⟨_, rfl, ?_⟩, trivial⟩
    · refine L.call [false, false] [] [1] 2 hF rfl rfl rfl ent97 rfl rfl rfl rfl rfl (Fspec_l1Below_gives k  (70 : Int) r2.2 r3 hr3) rfl ?_
      refine L.nil ?_
      exact A.on (hO _ _ _ n23) (Le.mk [(0, 0), (1, 1)] hm rfl ⟨⟨_, rfl, rfl⟩, ⟨_, rfl, rfl⟩, ⟨_, rfl, rfl⟩, ⟨_, rfl, rfl⟩, ⟨_, rfl, rfl⟩, ⟨_, rfl, rfl⟩, trivial⟩ trivial ⟨⟨_, _, rfl, rfl, rfl⟩, ⟨_, _, rfl, rfl, rfl⟩, trivial⟩)
    · refine L.buildSlice (e := eI) 2 ([(1 : Int), (5 : Int), (20 : Int), (200 : Int), (0 : Int), (-1 : Int), (9223372036854775807 : Int)] : List Int) Try.underlying77 info3 rfl rfl rfl hF rfl rfl rfl rfl rfl rfl rfl rfl ?_
      refine L.nil ?_
      exact A.on (hO _ _ _ n51) (Le.mk [(0, 0), (1, 1), (2, 2)] hm rfl ⟨⟨_, rfl, rfl⟩, ⟨_, rfl, rfl⟩, ⟨_, rfl, rfl⟩, ⟨_, rfl, rfl⟩, ⟨_, rfl, rfl⟩, ⟨_, rfl, rfl⟩, ⟨_, rfl, rfl⟩, trivial⟩ ⟨⟨_, rfl, rfl⟩, trivial⟩ ⟨⟨_, _, rfl, rfl, rfl⟩, ⟨_, _, rfl, rfl, rfl⟩, trivial⟩)
  have n22 : W 7 #[false, true, true, false, true, false, false, false, false, false] (mkSt [(2, one (Cell.ptr 0 0)), (3, one (cI (0 : Int))), (4, one (cI (0 : Int))), (6, one (Cell.ptr 1 0)), (13, one (cI r3.1)), (15, one (Cell.ptr 2 0))] [] [(0, [cI (0 : Int), cI (0 : Int), cI (0 : Int), cI (0 : Int)]), (1, [cI r2.1.Auth, cI r2.1.Start, cI r2.1.End, cI r2.1.Renew]), (2, [Cell.sl true (List.map eB r3.2.b), cI r3.2.i, cI r3.2.h])] 3) := by
    refine hI _ _ _ ?_
    refine A.take 3 rfl (by kernel_rfl) (by kernel_rfl) (by kernel_rfl) rfl (Ca.bin rfl rfl (calm_int _ _ _ _ _ _ _ _)) (fun Q0 k0 => L.bin hF rfl rfl rfl rfl rfl rfl (L.nil k0)) ?_
    exact A.on (hO _ _ _ n30) (Le.mk [(0, 0), (1, 1), (2, 2)] hm rfl ⟨⟨_, rfl, rfl⟩, ⟨_, rfl, rfl⟩, ⟨_, rfl, rfl⟩, ⟨_, rfl, rfl⟩, ⟨_, rfl, rfl⟩, ⟨_, rfl, rfl⟩, trivial⟩ trivial ⟨⟨_, _, rfl, rfl, rfl⟩, ⟨_, _, rfl, rfl, rfl⟩, ⟨_, _, rfl, rfl, rfl⟩, trivial⟩)
  have n50 : W 7 #[false, true, false, false, true, true, false, false, false, false] (mkSt [(2, one (Cell.ptr 0 0)), (3, one (cI (0 : Int))), (4, one (cI (0 : Int))), (6, one (Cell.ptr 1 0)), (12, one (Cell.ptr 2 0)), (15, one (Cell.ptr 2 0)), (16, one (Cell.own 3))] [(3, ⟨1, List.map eI ([(1 : Int), (5 : Int), (20 : Int), (200 : Int), (0 : Int), (-1 : Int), (9223372036854775807 : Int)] : List Int)⟩)] [(0, [cI (0 : Int), cI (0 : Int), cI (0 : Int), cI (0 : Int)]), (1, [cI r2.1.Auth, cI r2.1.Start, cI r2.1.End, cI r2.1.Renew]), (2, [Cell.sl true (List.map eB r2.2.b), cI r2.2.i, cI r2.2.h])] 4) := by
    refine hI _ _ _ ?_
    refine A.all [0, 2] (by kernel_rfl) rfl ⟨⟨_, rfl, ?_⟩, ⟨_, rfl, ?_⟩, trivial⟩
    · refine L.loadPtr shape25 hF rfl rfl rfl rfl rfl rfl ?_
      refine L.nil ?_
      exact A.on (hO _ _ _ n51) (Le.mk [(0, 0), (1, 2), (2, 3)] hm rfl ⟨⟨_, rfl, rfl⟩, ⟨_, rfl, rfl⟩, ⟨_, rfl, rfl⟩, ⟨_, rfl, rfl⟩, ⟨_, rfl, rfl⟩, ⟨_, rfl, rfl⟩, ⟨_, rfl, rfl⟩, trivial⟩ ⟨⟨_, rfl, rfl⟩, trivial⟩ ⟨⟨_, _, rfl, rfl, rfl⟩, ⟨_, _, rfl, rfl, rfl⟩, trivial⟩)
    · refine L.call [false, false] [] [2] 4 hF rfl rfl rfl ent97 rfl rfl rfl rfl rfl (Fspec_l1Below_gives k  (70 : Int) r2.2 r3 hr3) rfl ?_
      refine L.nil ?_
      exact A.on (hO _ _ _ n54) (Le.mk [(0, 0), (1, 1), (2, 2), (3, 3)] hm rfl ⟨⟨_, rfl, rfl⟩, ⟨_, rfl, rfl⟩, ⟨_, rfl, rfl⟩, ⟨_, rfl, rfl⟩, ⟨_, rfl, rfl⟩, ⟨_, rfl, rfl⟩, ⟨_, rfl, rfl⟩, trivial⟩ ⟨⟨_, rfl, rfl⟩, trivial⟩ ⟨⟨_, _, rfl, rfl, rfl⟩, ⟨_, _, rfl, rfl, rfl⟩, ⟨_, _, rfl, rfl, rfl⟩, trivial⟩)
  have n18 : W 8 #[false, true, false, false, true, false, false, false, false, false] (mkSt [(2, one (Cell.ptr 0 0)), (3, one (cI (0 : Int))), (4, one (cI (0 : Int))), (6, one (Cell.ptr 1 0)), (12, one (Cell.ptr 2 0)), (15, one (Cell.ptr 2 0))] [] [(0, [cI (0 : Int), cI (0 : Int), cI (0 : Int), cI (0 : Int)]), (1, [cI r2.1.Auth, cI r2.1.Start, cI r2.1.End, cI r2.1.Renew]), (2, [Cell.sl true (List.map eB r2.2.b), cI r2.2.i, cI r2.2.h])] 3) := by
    refine hI _ _ _ ?_
    refine A.all [0, 2, 5] (by kernel_rfl) rfl ⟨⟨_, rfl, ?_⟩, ⟨_, rfl, ?_⟩, ⟨_, rfl, ?_⟩, trivial⟩
    · refine L.loadPtr shape25 hF rfl rfl rfl rfl rfl rfl ?_
      refine L.nil ?_
      exact A.on (hO _ _ _ n19) (Le.mk [(0, 0), (1, 2)] hm rfl ⟨⟨_, rfl, rfl⟩, ⟨_, rfl, rfl⟩, ⟨_, rfl, rfl⟩, ⟨_, rfl, rfl⟩, ⟨_, rfl, rfl⟩, ⟨_, rfl, rfl⟩, trivial⟩ trivial ⟨⟨_, _, rfl, rfl, rfl⟩, ⟨_, _, rfl, rfl, rfl⟩, trivial⟩)
    · refine L.call [false, false] [] [2] 3 hF rfl rfl rfl ent97 rfl rfl rfl rfl rfl (Fspec_l1Below_gives k  (70 : Int) r2.2 r3 hr3) rfl ?_
      refine L.nil ?_
      exact A.on (hO _ _ _ n22) (Le.mk [(0, 0), (1, 1), (2, 2)] hm rfl ⟨⟨_, rfl, rfl⟩, ⟨_, rfl, rfl⟩, ⟨_, rfl, rfl⟩, ⟨_, rfl, rfl⟩, ⟨_, rfl, rfl⟩, ⟨_, rfl, rfl⟩, trivial⟩ trivial ⟨⟨_, _, rfl, rfl, rfl⟩, ⟨_, _, rfl, rfl, rfl⟩, ⟨_, _, rfl, rfl, rfl⟩, trivial⟩)
    · refine L.buildSlice (e := eI) 3 ([(1 : Int), (5 : Int), (20 : Int), (200 : Int), (0 : Int), (-1 : Int), (9223372036854775807 : Int)] : List Int) Try.underlying77 info3 rfl rfl rfl hF rfl rfl rfl rfl rfl rfl rfl rfl ?_
      refine L.nil ?_
      exact A.on (hO _ _ _ n50) (Le.mk [(0, 0), (1, 1), (2, 2), (3, 3)] hm rfl ⟨⟨_, rfl, rfl⟩, ⟨_, rfl, rfl⟩, ⟨_, rfl, rfl⟩, ⟨_, rfl, rfl⟩, ⟨_, rfl, rfl⟩, ⟨_, rfl, rfl⟩, ⟨_, rfl, rfl⟩, trivial⟩ ⟨⟨_, rfl, rfl⟩, trivial⟩ ⟨⟨_, _, rfl, rfl, rfl⟩, ⟨_, _, rfl, rfl, rfl⟩, ⟨_, _, rfl, rfl, rfl⟩, trivial⟩)
  have n2 : W 9 #[false, true, false, false, false, false, false, false, false, false] (mkSt [(2, one (Cell.ptr 0 0)), (3, one (cI (0 : Int))), (4, one (cI (0 : Int))), (5, one (Cell.ptr 1 0)), (6, one (Cell.ptr 2 0)), (12, one (Cell.ptr 1 0))] [] [(0, [cI (0 : Int), cI (0 : Int), cI (0 : Int), cI (0 : Int)]), (1, [Cell.sl true (List.map eB r2.2.b), cI r2.2.i, cI r2.2.h]), (2, [cI r2.1.Auth, cI r2.1.Start, cI r2.1.End, cI r2.1.Renew])] 3) := by
    refine hI _ _ _ ?_
    refine A.take 4 rfl (by kernel_rfl) (by kernel_rfl) (by kernel_rfl) rfl (Ca.move) (fun Q0 k0 => L.move hF rfl rfl rfl (L.nil k0)) ?_
    exact A.on (hO _ _ _ n18) (Le.mk [(0, 0), (1, 2), (2, 1)] hm rfl ⟨⟨_, rfl, rfl⟩, ⟨_, rfl, rfl⟩, ⟨_, rfl, rfl⟩, ⟨_, rfl, rfl⟩, ⟨_, rfl, rfl⟩, ⟨_, rfl, rfl⟩, trivial⟩ trivial ⟨⟨_, _, rfl, rfl, rfl⟩, ⟨_, _, rfl, rfl, rfl⟩, ⟨_, _, rfl, rfl, rfl⟩, trivial⟩)
  have n0 : W 10 #[false, false, false, false, false, false, false, false, false, false] (mkSt [(2, one (Cell.ptr 0 0)), (3, one (cI (0 : Int))), (4, one (cI (0 : Int))), (5, one (Cell.ptr 1 0)), (6, one (Cell.ptr 2 0))] [] [(0, [cI (0 : Int), cI (0 : Int), cI (0 : Int), cI (0 : Int)]), (1, [Cell.sl true (List.map eB r2.2.b), cI r2.2.i, cI r2.2.h]), (2, [cI r2.1.Auth, cI r2.1.Start, cI r2.1.End, cI r2.1.Renew])] 3) := by
    refine hI _ _ _ ?_
    refine A.take 1 rfl (by kernel_rfl) (by kernel_rfl) (by kernel_rfl) rfl (Ca.move) (fun Q0 k0 => L.move hF rfl rfl rfl (L.nil k0)) ?_
    exact A.on (hO _ _ _ n2) (Le.mk [(0, 0), (1, 1), (2, 2)] hm rfl ⟨⟨_, rfl, rfl⟩, ⟨_, rfl, rfl⟩, ⟨_, rfl, rfl⟩, ⟨_, rfl, rfl⟩, ⟨_, rfl, rfl⟩, ⟨_, rfl, rfl⟩, trivial⟩ trivial ⟨⟨_, _, rfl, rfl, rfl⟩, ⟨_, _, rfl, rfl, rfl⟩, ⟨_, _, rfl, rfl, rfl⟩, trivial⟩)
  exact hI _ _ _ (A.on (hO _ _ _ n0) (Le.mk [(0, 1), (1, 2), (2, 10)] hm rfl ⟨⟨_, rfl, rfl⟩, ⟨_, rfl, rfl⟩, ⟨_, rfl, rfl⟩, ⟨_, rfl, rfl⟩, ⟨_, rfl, rfl⟩, trivial⟩ trivial ⟨⟨_, _, rfl, rfl, rfl⟩, ⟨_, _, rfl, rfl, rfl⟩, ⟨_, _, rfl, rfl, rfl⟩, trivial⟩))
/-! ### Fimpl_TimesOk -/
def Fimpl_TimesOk (k : Nat) (a0 : Timpl_Times) : Option Bool := cond (decide (a0.Auth ≥ (0 : Int))) (cond (decide (a0.Start ≥ a0.Auth)) (cond (decide (a0.End ≥ a0.Start)) (cond (decide (a0.Renew ≥ a0.End)) (some (decide (a0.Renew ≤ (100000 : Int)))) (some false)) (some false)) (some false)) (some false)
theorem ent24 : Enters Try.prog 24 := ⟨Try.f24, Try.func24, rfl, by decide⟩
set_option maxHeartbeats 8000000 in
set_option maxRecDepth 100000 in
theorem Fimpl_TimesOk_gives (k : Nat) (a0 : Timpl_Times) (r : Bool) (H : Fimpl_TimesOk k a0 = some r) : Gives Try.prog 24 [V.agg [cI a0.Auth, cI a0.Start, cI a0.End, cI a0.Renew]] [] [V.one (cL r)] [] := by
  refine Gives.intro Try.func24 rfl rfl rfl rfl ?_
  intro F hF hm
  unfold Fimpl_TimesOk at H
  obtain ⟨K, hK⟩ : ∃ K, k ≤ K := ⟨k, Nat.le_refl k⟩
  refine WpC.seq ?_
  refine WpC.regionL ?_
  refine L.box 4 hF rfl rfl rfl rfl ?_
  refine L.assign hF rfl rfl rfl ?_
  refine L.nil ?_
  refine WpC.seq ?_
  refine WpC.regionL ?_
  refine L.fieldAddr Try.underlying25 rfl info3 rfl hF rfl rfl rfl rfl rfl ?_
  refine L.loadPtr shape3 hF rfl rfl rfl rfl rfl rfl ?_
  refine L.bin hF rfl rfl rfl rfl rfl rfl ?_
  refine L.move hF rfl rfl rfl ?_
  refine L.split (fun hc => ?_) (fun hc => ?_)
  · replace H := condT hc H
    refine L.fieldAddr Try.underlying25 rfl info3 rfl hF rfl rfl rfl rfl rfl ?_
    refine L.loadPtr shape3 hF rfl rfl rfl rfl rfl rfl ?_
    refine L.fieldAddr Try.underlying25 rfl info3 rfl hF rfl rfl rfl rfl rfl ?_
    refine L.loadPtr shape3 hF rfl rfl rfl rfl rfl rfl ?_
    refine L.bin hF rfl rfl rfl rfl rfl rfl ?_
    refine L.pick hF rfl rfl rfl rfl ?_
    refine L.move hF rfl rfl rfl ?_
    refine L.split (fun hc => ?_) (fun hc => ?_)
    · replace H := condT hc H
      refine L.fieldAddr Try.underlying25 rfl info3 rfl hF rfl rfl rfl rfl rfl ?_
      refine L.loadPtr shape3 hF rfl rfl rfl rfl rfl rfl ?_
      refine L.fieldAddr Try.underlying25 rfl info3 rfl hF rfl rfl rfl rfl rfl ?_
      refine L.loadPtr shape3 hF rfl rfl rfl rfl rfl rfl ?_
      refine L.bin hF rfl rfl rfl rfl rfl rfl ?_
      refine L.pick hF rfl rfl rfl rfl ?_
      refine L.move hF rfl rfl rfl ?_
      refine L.split (fun hc => ?_) (fun hc => ?_)
      · replace H := condT hc H
        refine L.fieldAddr Try.underlying25 rfl info3 rfl hF rfl rfl rfl rfl rfl ?_
        refine L.loadPtr shape3 hF rfl rfl rfl rfl rfl rfl ?_
        refine L.fieldAddr Try.underlying25 rfl info3 rfl hF rfl rfl rfl rfl rfl ?_
        refine L.loadPtr shape3 hF rfl rfl rfl rfl rfl rfl ?_
        refine L.bin hF rfl rfl rfl rfl rfl rfl ?_
        refine L.pick hF rfl rfl rfl rfl ?_
        refine L.move hF rfl rfl rfl ?_
        refine L.split (fun hc => ?_) (fun hc => ?_)
        · replace H := condT hc H
          refine L.fieldAddr Try.underlying25 rfl info3 rfl hF rfl rfl rfl rfl rfl ?_
          refine L.loadPtr shape3 hF rfl rfl rfl rfl rfl rfl ?_
          refine L.bin hF rfl rfl rfl rfl rfl rfl ?_
          refine L.pick hF rfl rfl rfl rfl ?_
          refine L.assign hF rfl rfl rfl ?_
          refine L.nil ?_
          refine WpC.ret ?_
          cases H
          exact Leaves.ret rfl rfl rfl ⟨rfl, rfl⟩
        · replace H := condF hc H
          refine L.off hF rfl rfl ?_
          refine L.off hF rfl rfl ?_
          refine L.off hF rfl rfl ?_
          refine L.pick hF rfl rfl rfl rfl ?_
          refine L.assign hF rfl rfl rfl ?_
          refine L.nil ?_
          refine WpC.ret ?_
          cases H
          exact Leaves.ret rfl rfl rfl ⟨rfl, rfl⟩
      · replace H := condF hc H
        refine L.off hF rfl rfl ?_
        refine L.off hF rfl rfl ?_
        refine L.off hF rfl rfl ?_
        refine L.off hF rfl rfl ?_
        refine L.off hF rfl rfl ?_
        refine L.pick hF rfl rfl rfl rfl ?_
        refine L.move hF rfl rfl rfl ?_
        refine L.off hF rfl rfl ?_
        refine L.off hF rfl rfl ?_
        refine L.off hF rfl rfl ?_
        refine L.pick hF rfl rfl rfl rfl ?_
        refine L.assign hF rfl rfl rfl ?_
        refine L.nil ?_
        refine WpC.ret ?_
        cases H
        exact Leaves.ret rfl rfl rfl ⟨rfl, rfl⟩
    · replace H := condF hc H
      refine L.off hF rfl rfl ?_
      refine L.off hF rfl rfl ?_
      refine L.off hF rfl rfl ?_
      refine L.off hF rfl rfl ?_
      refine L.off hF rfl rfl ?_
      refine L.pick hF rfl rfl rfl rfl ?_
      refine L.move hF rfl rfl rfl ?_
      refine L.off hF rfl rfl ?_
      refine L.off hF rfl rfl ?_
      refine L.off hF rfl rfl ?_
      refine L.off hF rfl rfl ?_
      refine L.off hF rfl rfl ?_
      refine L.pick hF rfl rfl rfl rfl ?_
      refine L.move hF rfl rfl rfl ?_
      refine L.off hF rfl rfl ?_
      refine L.off hF rfl rfl ?_
      refine L.off hF rfl rfl ?_
      refine L.pick hF rfl rfl rfl rfl ?_
      refine L.assign hF rfl rfl rfl ?_
      refine L.nil ?_
      refine WpC.ret ?_
      cases H
      exact Leaves.ret rfl rfl rfl ⟨rfl, rfl⟩
  · replace H := condF hc H
    refine L.off hF rfl rfl ?_
    refine L.off hF rfl rfl ?_
    refine L.off hF rfl rfl ?_
    refine L.off hF rfl rfl ?_
    refine L.off hF rfl rfl ?_
    refine L.pick hF rfl rfl rfl rfl ?_
    refine L.move hF rfl rfl rfl ?_
    refine L.off hF rfl rfl ?_
    refine L.off hF rfl rfl ?_
    refine L.off hF rfl rfl ?_
    refine L.off hF rfl rfl ?_
    refine L.off hF rfl rfl ?_
    refine L.pick hF rfl rfl rfl rfl ?_
    refine L.move hF rfl rfl rfl ?_
    refine L.off hF rfl rfl ?_
    refine L.off hF rfl rfl ?_
    refine L.off hF rfl rfl ?_
    refine L.off hF rfl rfl ?_
    refine L.off hF rfl rfl ?_
    refine L.pick hF rfl rfl rfl rfl ?_
    refine L.move hF rfl rfl rfl ?_
    refine L.off hF rfl rfl ?_
    refine L.off hF rfl rfl ?_
    refine L.off hF rfl rfl ?_
    refine L.pick hF rfl rfl rfl rfl ?_
    refine L.assign hF rfl rfl rfl ?_
    refine L.nil ?_
    refine WpC.ret ?_
    cases H
    exact Leaves.ret rfl rfl rfl ⟨rfl, rfl⟩
/-! ### Fimpl_within -/
def Fimpl_within (k : Nat) (a0 : Int) (a1 : Int) (a2 : Int) : Option Bool := cond (decide (a0 ≥ a1)) (some (decide (a0 ≤ a2))) (some false)
theorem ent93 : Enters Try.prog 93 := ⟨Try.f93, Try.func93, rfl, by decide⟩
set_option maxHeartbeats 8000000 in
set_option maxRecDepth 100000 in
theorem Fimpl_within_gives (k : Nat) (a0 : Int) (a1 : Int) (a2 : Int) (r : Bool) (H : Fimpl_within k a0 a1 a2 = some r) : Gives Try.prog 93 [V.one (cI a0), V.one (cI a1), V.one (cI a2)] [] [V.one (cL r)] [] := by
  refine Gives.intro Try.func93 rfl rfl rfl rfl ?_
  intro F hF hm
  unfold Fimpl_within at H
  obtain ⟨K, hK⟩ : ∃ K, k ≤ K := ⟨k, Nat.le_refl k⟩
  refine WpC.seq ?_
  refine WpC.regionL ?_
  refine L.assign hF rfl rfl rfl ?_
  refine L.nil ?_
  refine WpC.seq ?_
  refine WpC.regionL ?_
  refine L.move hF rfl rfl rfl ?_
  refine L.move hF rfl rfl rfl ?_
  refine L.bin hF rfl rfl rfl rfl rfl rfl ?_
  refine L.move hF rfl rfl rfl ?_
  refine L.split (fun hc => ?_) (fun hc => ?_)
  · replace H := condT hc H
    refine L.move hF rfl rfl rfl ?_
    refine L.move hF rfl rfl rfl ?_
    refine L.bin hF rfl rfl rfl rfl rfl rfl ?_
    refine L.pick hF rfl rfl rfl rfl ?_
    refine L.assign hF rfl rfl rfl ?_
    refine L.nil ?_
    refine WpC.ret ?_
    cases H
    exact Leaves.ret rfl rfl rfl ⟨rfl, rfl⟩
  · replace H := condF hc H
    refine L.off hF rfl rfl ?_
    refine L.off hF rfl rfl ?_
    refine L.off hF rfl rfl ?_
    refine L.pick hF rfl rfl rfl rfl ?_
    refine L.assign hF rfl rfl rfl ?_
    refine L.nil ?_
    refine WpC.ret ?_
    cases H
    exact Leaves.ret rfl rfl rfl ⟨rfl, rfl⟩
/-! ### Fimpl_Renewed -/
def Fimpl_Renewed.j3 (k : Nat) (v21 : Int) (v22 : Int) (v23 : Int) (v24 : Int) : Option (Timpl_Times × Bool) := some ((⟨v21, v22, v23, v24⟩ : Timpl_Times), true)
def Fimpl_Renewed.j2 (k : Nat) (v14 : Int) (v15 : Int) (v16 : Bool) (v17 : Int) (v18 : Int) (v19 : Int) (v20 : Int) : Option (Timpl_Times × Bool) := cond v16 (some ((⟨(0 : Int), (0 : Int), (0 : Int), (0 : Int)⟩ : Timpl_Times), false)) (cond (decide (v15 < (IntKind.i64.wrap (v20 - v14)))) (Fimpl_Renewed.j3 k v17 v14 (IntKind.i64.wrap (v14 + v15)) v20) (Fimpl_Renewed.j3 k v17 v14 v20 v20))
def Fimpl_Renewed (k : Nat) (a0 : Timpl_Times) (a1 : Int) (a2 : Int) : Option (Timpl_Times × Bool) := (Fimpl_TimesOk k a0).bind fun r25 => cond (!r25) (Fimpl_Renewed.j2 k a1 a2 true a0.Auth a0.Start a0.End a0.Renew) ((Fimpl_within k a1 a0.Start a0.End).bind fun r26 => cond (!r26) (Fimpl_Renewed.j2 k a1 a2 true a0.Auth a0.Start a0.End a0.Renew) (Fimpl_Renewed.j2 k a1 a2 (decide (a2 < (1 : Int))) a0.Auth a0.Start a0.End a0.Renew))
theorem ent28 : Enters Try.prog 28 := ⟨Try.f28, Try.func28, rfl, by decide⟩
set_option maxHeartbeats 8000000 in
set_option maxRecDepth 100000 in
theorem Fimpl_Renewed_gives (k : Nat) (a0 : Timpl_Times) (a1 : Int) (a2 : Int) (r : Timpl_Times × Bool) (H : Fimpl_Renewed k a0 a1 a2 = some r) : Gives Try.prog 28 [V.agg [cI a0.Auth, cI a0.Start, cI a0.End, cI a0.Renew], V.one (cI a1), V.one (cI a2)] [] [V.agg [cI r.1.Auth, cI r.1.Start, cI r.1.End, cI r.1.Renew], V.one (cL r.2)] [] := by
  refine Gives.intro Try.func28 rfl rfl rfl rfl ?_
  intro F hF hm
  unfold Fimpl_Renewed at H
  obtain ⟨K, hK⟩ : ∃ K, k ≤ K := ⟨k, Nat.le_refl k⟩
  refine WpC.seq ?_
  refine WpC.regionL ?_
  refine L.box 6 hF rfl rfl rfl rfl ?_
  refine L.alloc 7 info25 rfl hF rfl rfl rfl rfl ?_
  refine L.assign hF rfl rfl rfl ?_
  refine L.nil ?_
  refine WpC.seq ?_
  refine WpC.join (fun σ => ∃ kj2 : Nat, ∃ v14 : Int, ∃ v15 : Int, ∃ v16 : Bool, ∃ v17 : Int, ∃ v18 : Int, ∃ v19 : Int, ∃ v20 : Int, kj2 ≤ K ∧ Fimpl_Renewed.j2 kj2 v14 v15 v16 v17 v18 v19 v20 = some r ∧ σ = mkSt [(1, one (cI v14)), (2, one (cI v15)), (3, one (Cell.ptr 0 0)), (6, one (Cell.ptr 1 0)), (23, one (cL v16))] [] [(0, [cI v17, cI v18, cI v19, cI v20]), (1, [cI (0 : Int), cI (0 : Int), cI (0 : Int), cI (0 : Int)])] 2) ?_ ?_
  · rintro _ ⟨kj2, v14, v15, v16, v17, v18, v19, v20, hkj2, H, rfl⟩
    unfold Fimpl_Renewed.j2 at H
    refine WpC.cond rfl (fun hc => ?_) (fun hc => ?_)
    · replace H := condT hc H
      refine WpC.seq ?_
      refine WpC.regionL ?_
      refine L.buildF built25 hF rfl rfl rfl rfl ?_
      refine L.storePtr shape25 hF rfl rfl rfl rfl rfl rfl rfl ?_
      refine L.assign hF rfl rfl rfl ?_
      refine L.nil ?_
      refine WpC.ret ?_
      cases H
      exact Leaves.ret rfl rfl rfl ⟨rfl, rfl⟩
    · replace H := condF hc H
      refine WpC.skip ?_
      refine WpC.seq ?_
      refine WpC.regionL ?_
      refine L.move hF rfl rfl rfl ?_
      refine L.fieldAddr Try.underlying25 rfl info3 rfl hF rfl rfl rfl rfl rfl ?_
      refine L.storePtr shape3 hF rfl rfl rfl rfl rfl rfl rfl ?_
      refine L.nil ?_
      refine WpC.seq ?_
      refine WpC.regionL ?_
      refine L.fieldAddr Try.underlying25 rfl info3 rfl hF rfl rfl rfl rfl rfl ?_
      refine L.loadPtr shape3 hF rfl rfl rfl rfl rfl rfl ?_
      refine L.fieldAddr Try.underlying25 rfl info3 rfl hF rfl rfl rfl rfl rfl ?_
      refine L.storePtr shape3 hF rfl rfl rfl rfl rfl rfl rfl ?_
      refine L.nil ?_
      refine WpC.join (fun σ => ∃ kj3 : Nat, ∃ v21 : Int, ∃ v22 : Int, ∃ v23 : Int, ∃ v24 : Int, kj3 ≤ K ∧ Fimpl_Renewed.j3 kj3 v21 v22 v23 v24 = some r ∧ σ = mkSt [(3, one (Cell.ptr 0 0)), (6, one (Cell.ptr 1 0))] [] [(0, [cI v21, cI v22, cI v23, cI v24]), (1, [cI (0 : Int), cI (0 : Int), cI (0 : Int), cI (0 : Int)])] 2) ?_ ?_
      · rintro _ ⟨kj3, v21, v22, v23, v24, hkj3, H, rfl⟩
        unfold Fimpl_Renewed.j3 at H
        refine WpC.seq ?_
        refine WpC.regionL ?_
        refine L.loadPtr shape25 hF rfl rfl rfl rfl rfl rfl ?_
        refine L.storePtr shape25 hF rfl rfl rfl rfl rfl rfl rfl ?_
        refine L.assign hF rfl rfl rfl ?_
        refine L.nil ?_
        refine WpC.ret ?_
        cases H
        exact Leaves.ret rfl rfl rfl ⟨rfl, rfl⟩
      · refine WpC.seq ?_
        refine WpC.regionL ?_
        refine L.move hF rfl rfl rfl ?_
        refine L.fieldAddr Try.underlying25 rfl info3 rfl hF rfl rfl rfl rfl rfl ?_
        refine L.loadPtr shape3 hF rfl rfl rfl rfl rfl rfl ?_
        refine L.move hF rfl rfl rfl ?_
        refine L.bin hF rfl rfl rfl rfl rfl rfl ?_
        refine L.bin hF rfl rfl rfl rfl rfl rfl ?_
        refine L.nil ?_
        refine WpC.cond rfl (fun hc => ?_) (fun hc => ?_)
        · replace H := condT hc H
          refine WpC.regionL ?_
          refine L.move hF rfl rfl rfl ?_
          refine L.move hF rfl rfl rfl ?_
          refine L.bin hF rfl rfl rfl rfl rfl rfl ?_
          refine L.fieldAddr Try.underlying25 rfl info3 rfl hF rfl rfl rfl rfl rfl ?_
          refine L.storePtr shape3 hF rfl rfl rfl rfl rfl rfl rfl ?_
          refine L.nil ?_
          exact ⟨_, ⟨kj2, v17, v14, (IntKind.i64.wrap (v14 + v15)), v20, by omega, H, rfl⟩, Le.mk [(0, 0), (1, 1)] hm rfl ⟨⟨_, rfl, rfl⟩, ⟨_, rfl, rfl⟩, trivial⟩ trivial ⟨⟨_, _, rfl, rfl, rfl⟩, ⟨_, _, rfl, rfl, rfl⟩, trivial⟩⟩
        · replace H := condF hc H
          refine WpC.skip ?_
          exact ⟨_, ⟨kj2, v17, v14, v20, v20, by omega, H, rfl⟩, Le.mk [(0, 0), (1, 1)] hm rfl ⟨⟨_, rfl, rfl⟩, ⟨_, rfl, rfl⟩, trivial⟩ trivial ⟨⟨_, _, rfl, rfl, rfl⟩, ⟨_, _, rfl, rfl, rfl⟩, trivial⟩⟩
  · refine WpC.regionL ?_
    refine L.loadPtr shape25 hF rfl rfl rfl rfl rfl rfl ?_
    obtain ⟨r25, hr25, H⟩ := bindS H
    refine L.call [false] [] [] 8 hF rfl rfl rfl ent24 rfl rfl rfl rfl rfl (Fimpl_TimesOk_gives k  a0 r25 hr25) rfl ?_
    refine L.not hF rfl rfl rfl ?_
    refine L.move hF rfl rfl rfl ?_
    refine L.split (fun hc => ?_) (fun hc => ?_)
    · replace H := condT hc H
      refine L.off hF rfl rfl ?_
      refine L.off hF rfl rfl ?_
      refine L.off hF rfl rfl ?_
      refine L.off hF rfl rfl ?_
      refine L.off hF rfl rfl ?_
      refine L.off hF rfl rfl ?_
      refine L.off hF rfl rfl ?_
      refine L.pick hF rfl rfl rfl rfl ?_
      refine L.move hF rfl rfl rfl ?_
      refine L.off hF rfl rfl ?_
      refine L.off hF rfl rfl ?_
      refine L.pick hF rfl rfl rfl rfl ?_
      refine L.nil ?_
      exact ⟨_, ⟨k, a1, a2, true, a0.Auth, a0.Start, a0.End, a0.Renew, by omega, H, rfl⟩, Le.mk [(0, 6), (1, 7)] hm rfl ⟨⟨_, rfl, rfl⟩, ⟨_, rfl, rfl⟩, ⟨_, rfl, rfl⟩, ⟨_, rfl, rfl⟩, ⟨_, rfl, rfl⟩, trivial⟩ trivial ⟨⟨_, _, rfl, rfl, rfl⟩, ⟨_, _, rfl, rfl, rfl⟩, trivial⟩⟩
    · replace H := condF hc H
      refine L.move hF rfl rfl rfl ?_
      refine L.fieldAddr Try.underlying25 rfl info3 rfl hF rfl rfl rfl rfl rfl ?_
      refine L.loadPtr shape3 hF rfl rfl rfl rfl rfl rfl ?_
      refine L.fieldAddr Try.underlying25 rfl info3 rfl hF rfl rfl rfl rfl rfl ?_
      refine L.loadPtr shape3 hF rfl rfl rfl rfl rfl rfl ?_
      obtain ⟨r26, hr26, H⟩ := bindS H
      refine L.call [false, false, false] [] [] 9 hF rfl rfl rfl ent93 rfl rfl rfl rfl rfl (Fimpl_within_gives k  a1 a0.Start a0.End r26 hr26) rfl ?_
      refine L.not hF rfl rfl rfl ?_
      refine L.pick hF rfl rfl rfl rfl ?_
      refine L.move hF rfl rfl rfl ?_
      refine L.split (fun hc => ?_) (fun hc => ?_)
      · replace H := condT hc H
        refine L.off hF rfl rfl ?_
        refine L.off hF rfl rfl ?_
        refine L.pick hF rfl rfl rfl rfl ?_
        refine L.nil ?_
        exact ⟨_, ⟨k, a1, a2, true, a0.Auth, a0.Start, a0.End, a0.Renew, by omega, H, rfl⟩, Le.mk [(0, 6), (1, 7)] hm rfl ⟨⟨_, rfl, rfl⟩, ⟨_, rfl, rfl⟩, ⟨_, rfl, rfl⟩, ⟨_, rfl, rfl⟩, ⟨_, rfl, rfl⟩, trivial⟩ trivial ⟨⟨_, _, rfl, rfl, rfl⟩, ⟨_, _, rfl, rfl, rfl⟩, trivial⟩⟩
      · replace H := condF hc H
        refine L.move hF rfl rfl rfl ?_
        refine L.bin hF rfl rfl rfl rfl rfl rfl ?_
        refine L.pick hF rfl rfl rfl rfl ?_
        refine L.nil ?_
        exact ⟨_, ⟨k, a1, a2, (decide (a2 < (1 : Int))), a0.Auth, a0.Start, a0.End, a0.Renew, by omega, H, rfl⟩, Le.mk [(0, 6), (1, 7)] hm rfl ⟨⟨_, rfl, rfl⟩, ⟨_, rfl, rfl⟩, ⟨_, rfl, rfl⟩, ⟨_, rfl, rfl⟩, ⟨_, rfl, rfl⟩, trivial⟩ trivial ⟨⟨_, _, rfl, rfl, rfl⟩, ⟨_, _, rfl, rfl, rfl⟩, trivial⟩⟩
/-! ### Fspec_TimesOk -/
def Fspec_TimesOk (k : Nat) (a0 : Timpl_Times) : Option Bool := cond (decide (a0.Auth ≥ (0 : Int))) (cond (decide (a0.Start ≥ a0.Auth)) (cond (decide (a0.End ≥ a0.Start)) (cond (decide (a0.Renew ≥ a0.End)) (some (decide (a0.Renew ≤ (100000 : Int)))) (some false)) (some false)) (some false)) (some false)
theorem ent22 : Enters Try.prog 22 := ⟨Try.f22, Try.func22, rfl, by decide⟩
set_option maxHeartbeats 8000000 in
set_option maxRecDepth 100000 in
theorem Fspec_TimesOk_gives (k : Nat) (a0 : Timpl_Times) (r : Bool) (H : Fspec_TimesOk k a0 = some r) : Gives Try.prog 22 [V.agg [cI a0.Auth, cI a0.Start, cI a0.End, cI a0.Renew]] [] [V.one (cL r)] [] := by
  refine Gives.intro Try.func22 rfl rfl rfl rfl ?_
  intro F hF hm
  unfold Fspec_TimesOk at H
  obtain ⟨K, hK⟩ : ∃ K, k ≤ K := ⟨k, Nat.le_refl k⟩
  refine WpC.seq ?_
  refine WpC.regionL ?_
  refine L.box 4 hF rfl rfl rfl rfl ?_
  refine L.assign hF rfl rfl rfl ?_
  refine L.nil ?_
  refine WpC.seq ?_
  refine WpC.regionL ?_
  refine L.fieldAddr Try.underlying25 rfl info3 rfl hF rfl rfl rfl rfl rfl ?_
  refine L.loadPtr shape3 hF rfl rfl rfl rfl rfl rfl ?_
  refine L.bin hF rfl rfl rfl rfl rfl rfl ?_
  refine L.move hF rfl rfl rfl ?_
  refine L.split (fun hc => ?_) (fun hc => ?_)
  · replace H := condT hc H
    refine L.fieldAddr Try.underlying25 rfl info3 rfl hF rfl rfl rfl rfl rfl ?_
    refine L.loadPtr shape3 hF rfl rfl rfl rfl rfl rfl ?_
    refine L.fieldAddr Try.underlying25 rfl info3 rfl hF rfl rfl rfl rfl rfl ?_
    refine L.loadPtr shape3 hF rfl rfl rfl rfl rfl rfl ?_
    refine L.bin hF rfl rfl rfl rfl rfl rfl ?_
    refine L.pick hF rfl rfl rfl rfl ?_
    refine L.move hF rfl rfl rfl ?_
    refine L.split (fun hc => ?_) (fun hc => ?_)
    · replace H := condT hc H
      refine L.fieldAddr Try.underlying25 rfl info3 rfl hF rfl rfl rfl rfl rfl ?_
      refine L.loadPtr shape3 hF rfl rfl rfl rfl rfl rfl ?_
      refine L.fieldAddr Try.underlying25 rfl info3 rfl hF rfl rfl rfl rfl rfl ?_
      refine L.loadPtr shape3 hF rfl rfl rfl rfl rfl rfl ?_
      refine L.bin hF rfl rfl rfl rfl rfl rfl ?_
      refine L.pick hF rfl rfl rfl rfl ?_
      refine L.move hF rfl rfl rfl ?_
      refine L.split (fun hc => ?_) (fun hc => ?_)
      · replace H := condT hc H
        refine L.fieldAddr Try.underlying25 rfl info3 rfl hF rfl rfl rfl rfl rfl ?_
        refine L.loadPtr shape3 hF rfl rfl rfl rfl rfl rfl ?_
        refine L.fieldAddr Try.underlying25 rfl info3 rfl hF rfl rfl rfl rfl rfl ?_
        refine L.loadPtr shape3 hF rfl rfl rfl rfl rfl rfl ?_
        refine L.bin hF rfl rfl rfl rfl rfl rfl ?_
        refine L.pick hF rfl rfl rfl rfl ?_
        refine L.move hF rfl rfl rfl ?_
        refine L.split (fun hc => ?_) (fun hc => ?_)
        · replace H := condT hc H
          refine L.fieldAddr Try.underlying25 rfl info3 rfl hF rfl rfl rfl rfl rfl ?_
          refine L.loadPtr shape3 hF rfl rfl rfl rfl rfl rfl ?_
          refine L.bin hF rfl rfl rfl rfl rfl rfl ?_
          refine L.pick hF rfl rfl rfl rfl ?_
          refine L.assign hF rfl rfl rfl ?_
          refine L.nil ?_
          refine WpC.ret ?_
          cases H
          exact Leaves.ret rfl rfl rfl ⟨rfl, rfl⟩
        · replace H := condF hc H
          refine L.off hF rfl rfl ?_
          refine L.off hF rfl rfl ?_
          refine L.off hF rfl rfl ?_
          refine L.pick hF rfl rfl rfl rfl ?_
          refine L.assign hF rfl rfl rfl ?_
          refine L.nil ?_
          refine WpC.ret ?_
          cases H
          exact Leaves.ret rfl rfl rfl ⟨rfl, rfl⟩
      · replace H := condF hc H
        refine L.off hF rfl rfl ?_
        refine L.off hF rfl rfl ?_
        refine L.off hF rfl rfl ?_
        refine L.off hF rfl rfl ?_
        refine L.off hF rfl rfl ?_
        refine L.pick hF rfl rfl rfl rfl ?_
        refine L.move hF rfl rfl rfl ?_
        refine L.off hF rfl rfl ?_
        refine L.off hF rfl rfl ?_
        refine L.off hF rfl rfl ?_
        refine L.pick hF rfl rfl rfl rfl ?_
        refine L.assign hF rfl rfl rfl ?_
        refine L.nil ?_
        refine WpC.ret ?_
        cases H
        exact Leaves.ret rfl rfl rfl ⟨rfl, rfl⟩
    · replace H := condF hc H
      refine L.off hF rfl rfl ?_
      refine L.off hF rfl rfl ?_
      refine L.off hF rfl rfl ?_
      refine L.off hF rfl rfl ?_
      refine L.off hF rfl rfl ?_
      refine L.pick hF rfl rfl rfl rfl ?_
      refine L.move hF rfl rfl rfl ?_
      refine L.off hF rfl rfl ?_
      refine L.off hF rfl rfl ?_
      refine L.off hF rfl rfl ?_
      refine L.off hF rfl rfl ?_
      refine L.off hF rfl rfl ?_
      refine L.pick hF rfl rfl rfl rfl ?_
      refine L.move hF rfl rfl rfl ?_
      refine L.off hF rfl rfl ?_
      refine L.off hF rfl rfl ?_
      refine L.off hF rfl rfl ?_
      refine L.pick hF rfl rfl rfl rfl ?_
      refine L.assign hF rfl rfl rfl ?_
      refine L.nil ?_
      refine WpC.ret ?_
      cases H
      exact Leaves.ret rfl rfl rfl ⟨rfl, rfl⟩
  · replace H := condF hc H
    refine L.off hF rfl rfl ?_
    refine L.off hF rfl rfl ?_
    refine L.off hF rfl rfl ?_
    refine L.off hF rfl rfl ?_
    refine L.off hF rfl rfl ?_
    refine L.pick hF rfl rfl rfl rfl ?_
    refine L.move hF rfl rfl rfl ?_
    refine L.off hF rfl rfl ?_
    refine L.off hF rfl rfl ?_
    refine L.off hF rfl rfl ?_
    refine L.off hF rfl rfl ?_
    refine L.off hF rfl rfl ?_
    refine L.pick hF rfl rfl rfl rfl ?_
    refine L.move hF rfl rfl rfl ?_
    refine L.off hF rfl rfl ?_
    refine L.off hF rfl rfl ?_
    refine L.off hF rfl rfl ?_
    refine L.off hF rfl rfl ?_
    refine L.off hF rfl rfl ?_
    refine L.pick hF rfl rfl rfl rfl ?_
    refine L.move hF rfl rfl rfl ?_
    refine L.off hF rfl rfl ?_
    refine L.off hF rfl rfl ?_
    refine L.off hF rfl rfl ?_
    refine L.pick hF rfl rfl rfl rfl ?_
    refine L.assign hF rfl rfl rfl ?_
    refine L.nil ?_
    refine WpC.ret ?_
    cases H
    exact Leaves.ret rfl rfl rfl ⟨rfl, rfl⟩
/-! ### Fspec_l1In -/
def Fspec_l1In (k : Nat) (a0 : Int) (a1 : Int) (a2 : Int) : Option Bool := cond (decide (a0 ≥ a1)) (some (decide (a0 ≤ a2))) (some false)
theorem ent92 : Enters Try.prog 92 := ⟨Try.f92, Try.func92, rfl, by decide⟩
set_option maxHeartbeats 8000000 in
set_option maxRecDepth 100000 in
theorem Fspec_l1In_gives (k : Nat) (a0 : Int) (a1 : Int) (a2 : Int) (r : Bool) (H : Fspec_l1In k a0 a1 a2 = some r) : Gives Try.prog 92 [V.one (cI a0), V.one (cI a1), V.one (cI a2)] [] [V.one (cL r)] [] := by
  refine Gives.intro Try.func92 rfl rfl rfl rfl ?_
  intro F hF hm
  unfold Fspec_l1In at H
  obtain ⟨K, hK⟩ : ∃ K, k ≤ K := ⟨k, Nat.le_refl k⟩
  refine WpC.seq ?_
  refine WpC.regionL ?_
  refine L.assign hF rfl rfl rfl ?_
  refine L.nil ?_
  refine WpC.seq ?_
  refine WpC.regionL ?_
  refine L.move hF rfl rfl rfl ?_
  refine L.move hF rfl rfl rfl ?_
  refine L.bin hF rfl rfl rfl rfl rfl rfl ?_
  refine L.move hF rfl rfl rfl ?_
  refine L.split (fun hc => ?_) (fun hc => ?_)
  · replace H := condT hc H
    refine L.move hF rfl rfl rfl ?_
    refine L.move hF rfl rfl rfl ?_
    refine L.bin hF rfl rfl rfl rfl rfl rfl ?_
    refine L.pick hF rfl rfl rfl rfl ?_
    refine L.assign hF rfl rfl rfl ?_
    refine L.nil ?_
    refine WpC.ret ?_
    cases H
    exact Leaves.ret rfl rfl rfl ⟨rfl, rfl⟩
  · replace H := condF hc H
    refine L.off hF rfl rfl ?_
    refine L.off hF rfl rfl ?_
    refine L.off hF rfl rfl ?_
    refine L.pick hF rfl rfl rfl rfl ?_
    refine L.assign hF rfl rfl rfl ?_
    refine L.nil ?_
    refine WpC.ret ?_
    cases H
    exact Leaves.ret rfl rfl rfl ⟨rfl, rfl⟩
/-! ### Fspec_Renewed -/
def Fspec_Renewed.j3 (k : Nat) (v21 : Int) (v22 : Int) (v23 : Int) (v24 : Int) (v25 : Int) (v26 : Int) : Option (Timpl_Times × Bool) := some ((⟨v23, v21, v22, v26⟩ : Timpl_Times), true)
def Fspec_Renewed.j2 (k : Nat) (v14 : Int) (v15 : Int) (v16 : Bool) (v17 : Int) (v18 : Int) (v19 : Int) (v20 : Int) : Option (Timpl_Times × Bool) := cond v16 (some ((⟨(0 : Int), (0 : Int), (0 : Int), (0 : Int)⟩ : Timpl_Times), false)) (cond (decide (v15 ≤ (IntKind.i64.wrap (v20 - v14)))) (Fspec_Renewed.j3 k v14 (IntKind.i64.wrap (v14 + v15)) v17 v18 v19 v20) (Fspec_Renewed.j3 k v14 v20 v17 v18 v19 v20))
def Fspec_Renewed (k : Nat) (a0 : Timpl_Times) (a1 : Int) (a2 : Int) : Option (Timpl_Times × Bool) := (Fspec_TimesOk k a0).bind fun r27 => cond (!r27) (Fspec_Renewed.j2 k a1 a2 true a0.Auth a0.Start a0.End a0.Renew) ((Fspec_l1In k a1 a0.Start a0.End).bind fun r28 => cond (!r28) (Fspec_Renewed.j2 k a1 a2 true a0.Auth a0.Start a0.End a0.Renew) (Fspec_Renewed.j2 k a1 a2 (decide (a2 < (1 : Int))) a0.Auth a0.Start a0.End a0.Renew))
theorem ent27 : Enters Try.prog 27 := ⟨Try.f27, Try.func27, rfl, by decide⟩
set_option maxHeartbeats 8000000 in
set_option maxRecDepth 100000 in
theorem Fspec_Renewed_gives (k : Nat) (a0 : Timpl_Times) (a1 : Int) (a2 : Int) (r : Timpl_Times × Bool) (H : Fspec_Renewed k a0 a1 a2 = some r) : Gives Try.prog 27 [V.agg [cI a0.Auth, cI a0.Start, cI a0.End, cI a0.Renew], V.one (cI a1), V.one (cI a2)] [] [V.agg [cI r.1.Auth, cI r.1.Start, cI r.1.End, cI r.1.Renew], V.one (cL r.2)] [] := by
  refine Gives.intro Try.func27 rfl rfl rfl rfl ?_
  intro F hF hm
  unfold Fspec_Renewed at H
  obtain ⟨K, hK⟩ : ∃ K, k ≤ K := ⟨k, Nat.le_refl k⟩
  refine WpC.seq ?_
  refine WpC.regionL ?_
  refine L.box 6 hF rfl rfl rfl rfl ?_
  refine L.alloc 7 info25 rfl hF rfl rfl rfl rfl ?_
  refine L.assign hF rfl rfl rfl ?_
  refine L.nil ?_
  refine WpC.seq ?_
  refine WpC.join (fun σ => ∃ kj2 : Nat, ∃ v14 : Int, ∃ v15 : Int, ∃ v16 : Bool, ∃ v17 : Int, ∃ v18 : Int, ∃ v19 : Int, ∃ v20 : Int, kj2 ≤ K ∧ Fspec_Renewed.j2 kj2 v14 v15 v16 v17 v18 v19 v20 = some r ∧ σ = mkSt [(1, one (cI v14)), (2, one (cI v15)), (3, one (Cell.ptr 0 0)), (6, one (Cell.ptr 1 0)), (24, one (cL v16))] [] [(0, [cI v17, cI v18, cI v19, cI v20]), (1, [cI (0 : Int), cI (0 : Int), cI (0 : Int), cI (0 : Int)])] 2) ?_ ?_
  · rintro _ ⟨kj2, v14, v15, v16, v17, v18, v19, v20, hkj2, H, rfl⟩
    unfold Fspec_Renewed.j2 at H
    refine WpC.cond rfl (fun hc => ?_) (fun hc => ?_)
    · replace H := condT hc H
      refine WpC.seq ?_
      refine WpC.regionL ?_
      refine L.buildF built25 hF rfl rfl rfl rfl ?_
      refine L.storePtr shape25 hF rfl rfl rfl rfl rfl rfl rfl ?_
      refine L.assign hF rfl rfl rfl ?_
      refine L.nil ?_
      refine WpC.ret ?_
      cases H
      exact Leaves.ret rfl rfl rfl ⟨rfl, rfl⟩
    · replace H := condF hc H
      refine WpC.skip ?_
      refine WpC.seq ?_
      refine WpC.regionL ?_
      refine L.fieldAddr Try.underlying25 rfl info3 rfl hF rfl rfl rfl rfl rfl ?_
      refine L.loadPtr shape3 hF rfl rfl rfl rfl rfl rfl ?_
      refine L.assign hF rfl rfl rfl ?_
      refine L.nil ?_
      refine WpC.join (fun σ => ∃ kj3 : Nat, ∃ v21 : Int, ∃ v22 : Int, ∃ v23 : Int, ∃ v24 : Int, ∃ v25 : Int, ∃ v26 : Int, kj3 ≤ K ∧ Fspec_Renewed.j3 kj3 v21 v22 v23 v24 v25 v26 = some r ∧ σ = mkSt [(1, one (cI v21)), (3, one (Cell.ptr 0 0)), (6, one (Cell.ptr 1 0)), (8, one (cI v22))] [] [(0, [cI v23, cI v24, cI v25, cI v26]), (1, [cI (0 : Int), cI (0 : Int), cI (0 : Int), cI (0 : Int)])] 2) ?_ ?_
      · rintro _ ⟨kj3, v21, v22, v23, v24, v25, v26, hkj3, H, rfl⟩
        unfold Fspec_Renewed.j3 at H
        refine WpC.seq ?_
        refine WpC.regionL ?_
        refine L.fieldAddr Try.underlying25 rfl info3 rfl hF rfl rfl rfl rfl rfl ?_
        refine L.loadPtr shape3 hF rfl rfl rfl rfl rfl rfl ?_
        refine L.move hF rfl rfl rfl ?_
        refine L.move hF rfl rfl rfl ?_
        refine L.fieldAddr Try.underlying25 rfl info3 rfl hF rfl rfl rfl rfl rfl ?_
        refine L.loadPtr shape3 hF rfl rfl rfl rfl rfl rfl ?_
        refine L.buildF built25 hF rfl rfl rfl rfl ?_
        refine L.storePtr shape25 hF rfl rfl rfl rfl rfl rfl rfl ?_
        refine L.assign hF rfl rfl rfl ?_
        refine L.nil ?_
        refine WpC.ret ?_
        cases H
        exact Leaves.ret rfl rfl rfl ⟨rfl, rfl⟩
      · refine WpC.seq ?_
        refine WpC.regionL ?_
        refine L.move hF rfl rfl rfl ?_
        refine L.fieldAddr Try.underlying25 rfl info3 rfl hF rfl rfl rfl rfl rfl ?_
        refine L.loadPtr shape3 hF rfl rfl rfl rfl rfl rfl ?_
        refine L.move hF rfl rfl rfl ?_
        refine L.bin hF rfl rfl rfl rfl rfl rfl ?_
        refine L.bin hF rfl rfl rfl rfl rfl rfl ?_
        refine L.nil ?_
        refine WpC.cond rfl (fun hc => ?_) (fun hc => ?_)
        · replace H := condT hc H
          refine WpC.regionL ?_
          refine L.move hF rfl rfl rfl ?_
          refine L.move hF rfl rfl rfl ?_
          refine L.bin hF rfl rfl rfl rfl rfl rfl ?_
          refine L.assign hF rfl rfl rfl ?_
          refine L.nil ?_
          exact ⟨_, ⟨kj2, v14, (IntKind.i64.wrap (v14 + v15)), v17, v18, v19, v20, by omega, H, rfl⟩, Le.mk [(0, 0), (1, 1)] hm rfl ⟨⟨_, rfl, rfl⟩, ⟨_, rfl, rfl⟩, ⟨_, rfl, rfl⟩, ⟨_, rfl, rfl⟩, trivial⟩ trivial ⟨⟨_, _, rfl, rfl, rfl⟩, ⟨_, _, rfl, rfl, rfl⟩, trivial⟩⟩
        · replace H := condF hc H
          refine WpC.skip ?_
          exact ⟨_, ⟨kj2, v14, v20, v17, v18, v19, v20, by omega, H, rfl⟩, Le.mk [(0, 0), (1, 1)] hm rfl ⟨⟨_, rfl, rfl⟩, ⟨_, rfl, rfl⟩, ⟨_, rfl, rfl⟩, ⟨_, rfl, rfl⟩, trivial⟩ trivial ⟨⟨_, _, rfl, rfl, rfl⟩, ⟨_, _, rfl, rfl, rfl⟩, trivial⟩⟩
  · refine WpC.regionL ?_
    refine L.loadPtr shape25 hF rfl rfl rfl rfl rfl rfl ?_
    obtain ⟨r27, hr27, H⟩ := bindS H
    refine L.call [false] [] [] 8 hF rfl rfl rfl ent22 rfl rfl rfl rfl rfl (Fspec_TimesOk_gives k  a0 r27 hr27) rfl ?_
    refine L.not hF rfl rfl rfl ?_
    refine L.move hF rfl rfl rfl ?_
    refine L.split (fun hc => ?_) (fun hc => ?_)
    · replace H := condT hc H
      refine L.off hF rfl rfl ?_
      refine L.off hF rfl rfl ?_
      refine L.off hF rfl rfl ?_
      refine L.off hF rfl rfl ?_
      refine L.off hF rfl rfl ?_
      refine L.off hF rfl rfl ?_
      refine L.off hF rfl rfl ?_
      refine L.pick hF rfl rfl rfl rfl ?_
      refine L.move hF rfl rfl rfl ?_
      refine L.off hF rfl rfl ?_
      refine L.off hF rfl rfl ?_
      refine L.pick hF rfl rfl rfl rfl ?_
      refine L.nil ?_
      exact ⟨_, ⟨k, a1, a2, true, a0.Auth, a0.Start, a0.End, a0.Renew, by omega, H, rfl⟩, Le.mk [(0, 6), (1, 7)] hm rfl ⟨⟨_, rfl, rfl⟩, ⟨_, rfl, rfl⟩, ⟨_, rfl, rfl⟩, ⟨_, rfl, rfl⟩, ⟨_, rfl, rfl⟩, trivial⟩ trivial ⟨⟨_, _, rfl, rfl, rfl⟩, ⟨_, _, rfl, rfl, rfl⟩, trivial⟩⟩
    · replace H := condF hc H
      refine L.move hF rfl rfl rfl ?_
      refine L.fieldAddr Try.underlying25 rfl info3 rfl hF rfl rfl rfl rfl rfl ?_
      refine L.loadPtr shape3 hF rfl rfl rfl rfl rfl rfl ?_
      refine L.fieldAddr Try.underlying25 rfl info3 rfl hF rfl rfl rfl rfl rfl ?_
      refine L.loadPtr shape3 hF rfl rfl rfl rfl rfl rfl ?_
      obtain ⟨r28, hr28, H⟩ := bindS H
      refine L.call [false, false, false] [] [] 9 hF rfl rfl rfl ent92 rfl rfl rfl rfl rfl (Fspec_l1In_gives k  a1 a0.Start a0.End r28 hr28) rfl ?_
      refine L.not hF rfl rfl rfl ?_
      refine L.pick hF rfl rfl rfl rfl ?_
      refine L.move hF rfl rfl rfl ?_
      refine L.split (fun hc => ?_) (fun hc => ?_)
      · replace H := condT hc H
        refine L.off hF rfl rfl ?_
        refine L.off hF rfl rfl ?_
        refine L.pick hF rfl rfl rfl rfl ?_
        refine L.nil ?_
        exact ⟨_, ⟨k, a1, a2, true, a0.Auth, a0.Start, a0.End, a0.Renew, by omega, H, rfl⟩, Le.mk [(0, 6), (1, 7)] hm rfl ⟨⟨_, rfl, rfl⟩, ⟨_, rfl, rfl⟩, ⟨_, rfl, rfl⟩, ⟨_, rfl, rfl⟩, ⟨_, rfl, rfl⟩, trivial⟩ trivial ⟨⟨_, _, rfl, rfl, rfl⟩, ⟨_, _, rfl, rfl, rfl⟩, trivial⟩⟩
      · replace H := condF hc H
        refine L.move hF rfl rfl rfl ?_
        refine L.bin hF rfl rfl rfl rfl rfl rfl ?_
        refine L.pick hF rfl rfl rfl rfl ?_
        refine L.nil ?_
        exact ⟨_, ⟨k, a1, a2, (decide (a2 < (1 : Int))), a0.Auth, a0.Start, a0.End, a0.Renew, by omega, H, rfl⟩, Le.mk [(0, 6), (1, 7)] hm rfl ⟨⟨_, rfl, rfl⟩, ⟨_, rfl, rfl⟩, ⟨_, rfl, rfl⟩, ⟨_, rfl, rfl⟩, ⟨_, rfl, rfl⟩, trivial⟩ trivial ⟨⟨_, _, rfl, rfl, rfl⟩, ⟨_, _, rfl, rfl, rfl⟩, trivial⟩⟩
/-! ### Fspec_DrawInside -/
def Fspec_DrawInside (k : Nat) (a0 : List UInt8) : Option (Timpl_Times × Timpl_Times) := (Fspec_l1New k a0).bind fun r1 => (Fspec_l16Times k r1).bind fun r2 => (Fspec_l16Times k r2.2).bind fun r3 => some (r2.1, r3.1)
theorem ent45 : Enters Try.prog 45 := ⟨Try.f45, Try.func45, rfl, by decide⟩
set_option maxHeartbeats 8000000 in
set_option maxRecDepth 100000 in
theorem Fspec_DrawInside_gives (k : Nat) (a0 : List UInt8) (r : Timpl_Times × Timpl_Times) (H : Fspec_DrawInside k a0 = some r) : Gives Try.prog 45 [V.one (Cell.sl true (List.map eB a0))] [] [V.agg [cI r.1.Auth, cI r.1.Start, cI r.1.End, cI r.1.Renew], V.agg [cI r.2.Auth, cI r.2.Start, cI r.2.End, cI r.2.Renew]] [] := by
  refine Gives.intro Try.func45 rfl rfl rfl rfl ?_
  intro F hF hm
  unfold Fspec_DrawInside at H
  obtain ⟨K, hK⟩ : ∃ K, k ≤ K := ⟨k, Nat.le_refl k⟩
  refine WpC.seq ?_
  refine WpC.regionL ?_
  refine L.alloc 1 info25 rfl hF rfl rfl rfl rfl ?_
  refine L.alloc 2 info25 rfl hF rfl rfl rfl rfl ?_
  refine L.nil ?_
  refine WpC.seq ?_
  refine WpC.regionL ?_
  refine L.move hF rfl rfl rfl ?_
  obtain ⟨r1, hr1, H⟩ := bindS H
  refine L.call [false] [] [] 3 hF rfl rfl rfl ent95 rfl rfl rfl rfl rfl (Fspec_l1New_gives k  a0 r1 hr1) rfl ?_
  refine L.assign hF rfl rfl rfl ?_
  refine L.nil ?_
  refine WpC.seq ?_
  refine WpC.regionL ?_
  refine L.move hF rfl rfl rfl ?_
  obtain ⟨r2, hr2, H⟩ := bindS H
  refine L.call [false] [] [3] 4 hF rfl rfl rfl ent104 rfl rfl rfl rfl rfl (Fspec_l16Times_gives k  r1 r2 hr2) rfl ?_
  refine L.alloc 11 info25 rfl hF rfl rfl rfl rfl ?_
  refine L.storePtr shape25 hF rfl rfl rfl rfl rfl rfl rfl ?_
  refine L.nil ?_
  refine WpC.seq ?_
  obtain ⟨r3, hr3, H⟩ := bindS H
  refine A.begin mixed rfl rfl ?_
  intro W hI hO
  have n31 : W 0 #[true, true, true, true, true] (mkSt [(2, one (Cell.ptr 0 0)), (3, one (Cell.ptr 1 0))] [] [(0, [cI r2.1.Auth, cI r2.1.Start, cI r2.1.End, cI r2.1.Renew]), (1, [cI r3.1.Auth, cI r3.1.Start, cI r3.1.End, cI r3.1.Renew])] 2) := by
    refine hI _ _ _ (A.done (by kernel_rfl) ?_)
    refine WpC.ret ?_
    cases H
    exact Leaves.ret rfl rfl rfl ⟨rfl, rfl⟩
  have n15 : W 1 #[true, true, true, true, false] (mkSt [(2, one (Cell.ptr 0 0)), (3, one (Cell.ptr 1 0)), (12, agg [cI r3.1.Auth, cI r3.1.Start, cI r3.1.End, cI r3.1.Renew])] [] [(0, [cI r2.1.Auth, cI r2.1.Start, cI r2.1.End, cI r2.1.Renew]), (1, [cI (0 : Int), cI (0 : Int), cI (0 : Int), cI (0 : Int)])] 2) := by
    refine hI _ _ _ ?_
    refine A.all [4] (by kernel_rfl) rfl ⟨⟨_, rfl, ?_⟩, trivial⟩
    · refine L.storePtr shape25 hF rfl rfl rfl rfl rfl rfl rfl ?_
      refine L.nil ?_
      exact A.on (hO _ _ _ n31) (Le.mk [(0, 0), (1, 1)] hm rfl ⟨⟨_, rfl, rfl⟩, ⟨_, rfl, rfl⟩, trivial⟩ trivial ⟨⟨_, _, rfl, rfl, rfl⟩, ⟨_, _, rfl, rfl, rfl⟩, trivial⟩)
  have n7 : W 2 #[true, true, true, false, false] (mkSt [(2, one (Cell.ptr 0 0)), (3, one (Cell.ptr 1 0)), (10, agg [cI r2.1.Auth, cI r2.1.Start, cI r2.1.End, cI r2.1.Renew]), (12, agg [cI r3.1.Auth, cI r3.1.Start, cI r3.1.End, cI r3.1.Renew])] [] [(0, [cI (0 : Int), cI (0 : Int), cI (0 : Int), cI (0 : Int)]), (1, [cI (0 : Int), cI (0 : Int), cI (0 : Int), cI (0 : Int)])] 2) := by
    refine hI _ _ _ ?_
    refine A.all [3] (by kernel_rfl) rfl ⟨⟨_, rfl, ?_⟩, trivial⟩
    · refine L.storePtr shape25 hF rfl rfl rfl rfl rfl rfl rfl ?_
      refine L.nil ?_
      exact A.on (hO _ _ _ n15) (Le.mk [(0, 0), (1, 1)] hm rfl ⟨⟨_, rfl, rfl⟩, ⟨_, rfl, rfl⟩, ⟨_, rfl, rfl⟩, trivial⟩ trivial ⟨⟨_, _, rfl, rfl, rfl⟩, ⟨_, _, rfl, rfl, rfl⟩, trivial⟩)
  have n3 : W 3 #[true, true, false, false, false] (mkSt [(2, one (Cell.ptr 0 0)), (3, one (Cell.ptr 1 0)), (10, agg [cI r2.1.Auth, cI r2.1.Start, cI r2.1.End, cI r2.1.Renew]), (11, one (Cell.ptr 2 0))] [] [(0, [cI (0 : Int), cI (0 : Int), cI (0 : Int), cI (0 : Int)]), (1, [cI (0 : Int), cI (0 : Int), cI (0 : Int), cI (0 : Int)]), (2, [Cell.sl true (List.map eB r2.2.b), cI r2.2.i, cI r2.2.h])] 3) := by
    refine hI _ _ _ ?_
    refine A.all [2] (by kernel_rfl) rfl ⟨⟨_, rfl, ?_⟩, trivial⟩
    · refine L.call [false] [] [2] 3 hF rfl rfl rfl ent104 rfl rfl rfl rfl rfl (Fspec_l16Times_gives k  r2.2 r3 hr3) rfl ?_
      refine L.nil ?_
      exact A.on (hO _ _ _ n7) (Le.mk [(0, 0), (1, 1)] hm rfl ⟨⟨_, rfl, rfl⟩, ⟨_, rfl, rfl⟩, ⟨_, rfl, rfl⟩, ⟨_, rfl, rfl⟩, trivial⟩ trivial ⟨⟨_, _, rfl, rfl, rfl⟩, ⟨_, _, rfl, rfl, rfl⟩, trivial⟩)
  have n6 : W 3 #[false, true, true, false, false] (mkSt [(2, one (Cell.ptr 0 0)), (3, one (Cell.ptr 1 0)), (5, one (Cell.ptr 2 0)), (12, agg [cI r3.1.Auth, cI r3.1.Start, cI r3.1.End, cI r3.1.Renew])] [] [(0, [cI (0 : Int), cI (0 : Int), cI (0 : Int), cI (0 : Int)]), (1, [cI (0 : Int), cI (0 : Int), cI (0 : Int), cI (0 : Int)]), (2, [cI r2.1.Auth, cI r2.1.Start, cI r2.1.End, cI r2.1.Renew])] 3) := by
    refine hI _ _ _ ?_
    refine A.all [0] (by kernel_rfl) rfl ⟨⟨_, rfl, ?_⟩, trivial⟩
    · refine L.loadPtr shape25 hF rfl rfl rfl rfl rfl rfl ?_
      refine L.nil ?_
      exact A.on (hO _ _ _ n7) (Le.mk [(0, 0), (1, 1)] hm rfl ⟨⟨_, rfl, rfl⟩, ⟨_, rfl, rfl⟩, ⟨_, rfl, rfl⟩, ⟨_, rfl, rfl⟩, trivial⟩ trivial ⟨⟨_, _, rfl, rfl, rfl⟩, ⟨_, _, rfl, rfl, rfl⟩, trivial⟩)
  have n2 : W 4 #[false, true, false, false, false] (mkSt [(2, one (Cell.ptr 0 0)), (3, one (Cell.ptr 1 0)), (5, one (Cell.ptr 2 0)), (11, one (Cell.ptr 3 0))] [] [(0, [cI (0 : Int), cI (0 : Int), cI (0 : Int), cI (0 : Int)]), (1, [cI (0 : Int), cI (0 : Int), cI (0 : Int), cI (0 : Int)]), (2, [cI r2.1.Auth, cI r2.1.Start, cI r2.1.End, cI r2.1.Renew]), (3, [Cell.sl true (List.map eB r2.2.b), cI r2.2.i, cI r2.2.h])] 4) := by
    refine hI _ _ _ ?_
    refine A.all [0, 2] (by kernel_rfl) rfl ⟨⟨_, rfl, ?_⟩, ⟨_, rfl, ?_⟩, trivial⟩
    · refine L.loadPtr shape25 hF rfl rfl rfl rfl rfl rfl ?_
      refine L.nil ?_
      exact A.on (hO _ _ _ n3) (Le.mk [(0, 0), (1, 1), (2, 3)] hm rfl ⟨⟨_, rfl, rfl⟩, ⟨_, rfl, rfl⟩, ⟨_, rfl, rfl⟩, ⟨_, rfl, rfl⟩, trivial⟩ trivial ⟨⟨_, _, rfl, rfl, rfl⟩, ⟨_, _, rfl, rfl, rfl⟩, ⟨_, _, rfl, rfl, rfl⟩, trivial⟩)
    · refine L.call [false] [] [3] 4 hF rfl rfl rfl ent104 rfl rfl rfl rfl rfl (Fspec_l16Times_gives k  r2.2 r3 hr3) rfl ?_
      refine L.nil ?_
      exact A.on (hO _ _ _ n6) (Le.mk [(0, 0), (1, 1), (2, 2)] hm rfl ⟨⟨_, rfl, rfl⟩, ⟨_, rfl, rfl⟩, ⟨_, rfl, rfl⟩, ⟨_, rfl, rfl⟩, trivial⟩ trivial ⟨⟨_, _, rfl, rfl, rfl⟩, ⟨_, _, rfl, rfl, rfl⟩, ⟨_, _, rfl, rfl, rfl⟩, trivial⟩)
  have n0 : W 5 #[false, false, false, false, false] (mkSt [(2, one (Cell.ptr 0 0)), (3, one (Cell.ptr 1 0)), (4, one (Cell.ptr 2 0)), (5, one (Cell.ptr 3 0))] [] [(0, [cI (0 : Int), cI (0 : Int), cI (0 : Int), cI (0 : Int)]), (1, [cI (0 : Int), cI (0 : Int), cI (0 : Int), cI (0 : Int)]), (2, [Cell.sl true (List.map eB r2.2.b), cI r2.2.i, cI r2.2.h]), (3, [cI r2.1.Auth, cI r2.1.Start, cI r2.1.End, cI r2.1.Renew])] 4) := by
    refine hI _ _ _ ?_
    refine A.take 1 rfl (by kernel_rfl) (by kernel_rfl) (by kernel_rfl) rfl (Ca.move) (fun Q0 k0 => L.move hF rfl rfl rfl (L.nil k0)) ?_
    exact A.on (hO _ _ _ n2) (Le.mk [(0, 0), (1, 1), (2, 3), (3, 2)] hm rfl ⟨⟨_, rfl, rfl⟩, ⟨_, rfl, rfl⟩, ⟨_, rfl, rfl⟩, ⟨_, rfl, rfl⟩, trivial⟩ trivial ⟨⟨_, _, rfl, rfl, rfl⟩, ⟨_, _, rfl, rfl, rfl⟩, ⟨_, _, rfl, rfl, rfl⟩, ⟨_, _, rfl, rfl, rfl⟩, trivial⟩)
  exact hI _ _ _ (A.on (hO _ _ _ n0) (Le.mk [(0, 1), (1, 2), (2, 3), (3, 11)] hm rfl ⟨⟨_, rfl, rfl⟩, ⟨_, rfl, rfl⟩, ⟨_, rfl, rfl⟩, ⟨_, rfl, rfl⟩, trivial⟩ trivial ⟨⟨_, _, rfl, rfl, rfl⟩, ⟨_, _, rfl, rfl, rfl⟩, ⟨_, _, rfl, rfl, rfl⟩, ⟨_, _, rfl, rfl, rfl⟩, trivial⟩))
/-! ### Fimpl_Inside -/
def Fimpl_Inside.j2 (k : Nat) (v16 : Bool) (v17 : Int) (v18 : Int) (v19 : Int) (v20 : Int) (v21 : Int) (v22 : Int) (v23 : Int) (v24 : Int) : Option (Timpl_Times × Bool) := cond v16 (some ((⟨(0 : Int), (0 : Int), (0 : Int), (0 : Int)⟩ : Timpl_Times), false)) ((Fimpl_TimesOk k (⟨v17, (if v22 > v18 then v22 else v18), (if v23 < v19 then v23 else v19), (if v24 < v20 then v24 else v20)⟩ : Timpl_Times)).bind fun r26 => cond (!r26) (some ((⟨(0 : Int), (0 : Int), (0 : Int), (0 : Int)⟩ : Timpl_Times), false)) (some ((⟨v17, (if v22 > v18 then v22 else v18), (if v23 < v19 then v23 else v19), (if v24 < v20 then v24 else v20)⟩ : Timpl_Times), true)))
def Fimpl_Inside (k : Nat) (a0 : Timpl_Times) (a1 : Timpl_Times) : Option (Timpl_Times × Bool) := (Fimpl_TimesOk k a0).bind fun r27 => cond (!r27) (Fimpl_Inside.j2 k true a0.Auth a0.Start a0.End a0.Renew a1.Auth a1.Start a1.End a1.Renew) ((Fimpl_TimesOk k a1).bind fun r28 => Fimpl_Inside.j2 k (!r28) a0.Auth a0.Start a0.End a0.Renew a1.Auth a1.Start a1.End a1.Renew)
theorem ent31 : Enters Try.prog 31 := ⟨Try.f31, Try.func31, rfl, by decide⟩
set_option maxHeartbeats 8000000 in
set_option maxRecDepth 100000 in
theorem Fimpl_Inside_gives (k : Nat) (a0 : Timpl_Times) (a1 : Timpl_Times) (r : Timpl_Times × Bool) (H : Fimpl_Inside k a0 a1 = some r) : Gives Try.prog 31 [V.agg [cI a0.Auth, cI a0.Start, cI a0.End, cI a0.Renew], V.agg [cI a1.Auth, cI a1.Start, cI a1.End, cI a1.Renew]] [] [V.agg [cI r.1.Auth, cI r.1.Start, cI r.1.End, cI r.1.Renew], V.one (cL r.2)] [] := by
  refine Gives.intro Try.func31 rfl rfl rfl rfl ?_
  intro F hF hm
  unfold Fimpl_Inside at H
  obtain ⟨K, hK⟩ : ∃ K, k ≤ K := ⟨k, Nat.le_refl k⟩
  refine WpC.seq ?_
  refine WpC.regionL ?_
  refine L.box 8 hF rfl rfl rfl rfl ?_
  refine L.box 9 hF rfl rfl rfl rfl ?_
  refine L.alloc 10 info25 rfl hF rfl rfl rfl rfl ?_
  refine L.assign hF rfl rfl rfl ?_
  refine L.nil ?_
  refine WpC.seq ?_
  refine WpC.join (fun σ => ∃ kj2 : Nat, ∃ v16 : Bool, ∃ v17 : Int, ∃ v18 : Int, ∃ v19 : Int, ∃ v20 : Int, ∃ v21 : Int, ∃ v22 : Int, ∃ v23 : Int, ∃ v24 : Int, kj2 ≤ K ∧ Fimpl_Inside.j2 kj2 v16 v17 v18 v19 v20 v21 v22 v23 v24 = some r ∧ σ = mkSt [(2, one (Cell.ptr 0 0)), (3, one (Cell.ptr 1 0)), (4, one (Cell.ptr 2 0)), (14, one (cL v16))] [] [(0, [cI v17, cI v18, cI v19, cI v20]), (1, [cI v21, cI v22, cI v23, cI v24]), (2, [cI (0 : Int), cI (0 : Int), cI (0 : Int), cI (0 : Int)])] 3) ?_ ?_
  · rintro _ ⟨kj2, v16, v17, v18, v19, v20, v21, v22, v23, v24, hkj2, H, rfl⟩
    unfold Fimpl_Inside.j2 at H
    refine WpC.cond rfl (fun hc => ?_) (fun hc => ?_)
    · replace H := condT hc H
      refine WpC.seq ?_
      refine WpC.regionL ?_
      refine L.buildF built25 hF rfl rfl rfl rfl ?_
      refine L.storePtr shape25 hF rfl rfl rfl rfl rfl rfl rfl ?_
      refine L.assign hF rfl rfl rfl ?_
      refine L.nil ?_
      refine WpC.ret ?_
      cases H
      exact Leaves.ret rfl rfl rfl ⟨rfl, rfl⟩
    · replace H := condF hc H
      refine WpC.skip ?_
      refine WpC.seq ?_
      refine WpC.regionL ?_
      refine L.fieldAddr Try.underlying25 rfl info3 rfl hF rfl rfl rfl rfl rfl ?_
      refine L.loadPtr shape3 hF rfl rfl rfl rfl rfl rfl ?_
      refine L.fieldAddr Try.underlying25 rfl info3 rfl hF rfl rfl rfl rfl rfl ?_
      refine L.loadPtr shape3 hF rfl rfl rfl rfl rfl rfl ?_
      refine L.fieldAddr Try.underlying25 rfl info3 rfl hF rfl rfl rfl rfl rfl ?_
      refine L.loadPtr shape3 hF rfl rfl rfl rfl rfl rfl ?_
      refine L.maxI hF rfl rfl rfl rfl ?_
      refine L.fieldAddr Try.underlying25 rfl info3 rfl hF rfl rfl rfl rfl rfl ?_
      refine L.loadPtr shape3 hF rfl rfl rfl rfl rfl rfl ?_
      refine L.fieldAddr Try.underlying25 rfl info3 rfl hF rfl rfl rfl rfl rfl ?_
      refine L.loadPtr shape3 hF rfl rfl rfl rfl rfl rfl ?_
      refine L.minI hF rfl rfl rfl rfl ?_
      refine L.fieldAddr Try.underlying25 rfl info3 rfl hF rfl rfl rfl rfl rfl ?_
      refine L.loadPtr shape3 hF rfl rfl rfl rfl rfl rfl ?_
      refine L.fieldAddr Try.underlying25 rfl info3 rfl hF rfl rfl rfl rfl rfl ?_
      refine L.loadPtr shape3 hF rfl rfl rfl rfl rfl rfl ?_
      refine L.minI hF rfl rfl rfl rfl ?_
      refine L.buildF built25 hF rfl rfl rfl rfl ?_
      refine L.alloc 3 info25 rfl hF rfl rfl rfl rfl ?_
      refine L.storePtr shape25 hF rfl rfl rfl rfl rfl rfl rfl ?_
      refine L.nil ?_
      refine WpC.seq ?_
      refine WpC.seq ?_
      refine WpC.regionL ?_
      refine L.loadPtr shape25 hF rfl rfl rfl rfl rfl rfl ?_
      obtain ⟨r26, hr26, H⟩ := bindS H
      refine L.call [false] [] [] 4 hF rfl rfl rfl ent24 rfl rfl rfl rfl rfl (Fimpl_TimesOk_gives kj2  (⟨v17, (if v22 > v18 then v22 else v18), (if v23 < v19 then v23 else v19), (if v24 < v20 then v24 else v20)⟩ : Timpl_Times) r26 hr26) rfl ?_
      refine L.not hF rfl rfl rfl ?_
      refine L.nil ?_
      refine WpC.cond rfl (fun hc => ?_) (fun hc => ?_)
      · replace H := condT hc H
        refine WpC.seq ?_
        refine WpC.regionL ?_
        refine L.buildF built25 hF rfl rfl rfl rfl ?_
        refine L.storePtr shape25 hF rfl rfl rfl rfl rfl rfl rfl ?_
        refine L.assign hF rfl rfl rfl ?_
        refine L.nil ?_
        refine WpC.ret ?_
        cases H
        exact Leaves.ret rfl rfl rfl ⟨rfl, rfl⟩
      · replace H := condF hc H
        refine WpC.skip ?_
        refine WpC.seq ?_
        refine WpC.regionL ?_
        refine L.loadPtr shape25 hF rfl rfl rfl rfl rfl rfl ?_
        refine L.storePtr shape25 hF rfl rfl rfl rfl rfl rfl rfl ?_
        refine L.assign hF rfl rfl rfl ?_
        refine L.nil ?_
        refine WpC.ret ?_
        cases H
        exact Leaves.ret rfl rfl rfl ⟨rfl, rfl⟩
  · refine WpC.regionL ?_
    refine L.loadPtr shape25 hF rfl rfl rfl rfl rfl rfl ?_
    obtain ⟨r27, hr27, H⟩ := bindS H
    refine L.call [false] [] [] 11 hF rfl rfl rfl ent24 rfl rfl rfl rfl rfl (Fimpl_TimesOk_gives k  a0 r27 hr27) rfl ?_
    refine L.not hF rfl rfl rfl ?_
    refine L.move hF rfl rfl rfl ?_
    refine L.split (fun hc => ?_) (fun hc => ?_)
    · replace H := condT hc H
      refine L.off hF rfl rfl ?_
      refine L.off hF rfl rfl ?_
      refine L.off hF rfl rfl ?_
      refine L.pick hF rfl rfl rfl rfl ?_
      refine L.nil ?_
      exact ⟨_, ⟨k, true, a0.Auth, a0.Start, a0.End, a0.Renew, a1.Auth, a1.Start, a1.End, a1.Renew, by omega, H, rfl⟩, Le.mk [(0, 8), (1, 9), (2, 10)] hm rfl ⟨⟨_, rfl, rfl⟩, ⟨_, rfl, rfl⟩, ⟨_, rfl, rfl⟩, ⟨_, rfl, rfl⟩, trivial⟩ trivial ⟨⟨_, _, rfl, rfl, rfl⟩, ⟨_, _, rfl, rfl, rfl⟩, ⟨_, _, rfl, rfl, rfl⟩, trivial⟩⟩
    · replace H := condF hc H
      refine L.loadPtr shape25 hF rfl rfl rfl rfl rfl rfl ?_
      obtain ⟨r28, hr28, H⟩ := bindS H
      refine L.call [false] [] [] 12 hF rfl rfl rfl ent24 rfl rfl rfl rfl rfl (Fimpl_TimesOk_gives k  a1 r28 hr28) rfl ?_
      refine L.not hF rfl rfl rfl ?_
      refine L.pick hF rfl rfl rfl rfl ?_
      refine L.nil ?_
      exact ⟨_, ⟨k, (!r28), a0.Auth, a0.Start, a0.End, a0.Renew, a1.Auth, a1.Start, a1.End, a1.Renew, by omega, H, rfl⟩, Le.mk [(0, 8), (1, 9), (2, 10)] hm rfl ⟨⟨_, rfl, rfl⟩, ⟨_, rfl, rfl⟩, ⟨_, rfl, rfl⟩, ⟨_, rfl, rfl⟩, trivial⟩ trivial ⟨⟨_, _, rfl, rfl, rfl⟩, ⟨_, _, rfl, rfl, rfl⟩, ⟨_, _, rfl, rfl, rfl⟩, trivial⟩⟩
/-! ### Fspec_l16Least -/
def Fspec_l16Least (k : Nat) (a0 : Int) (a1 : Int) : Option Int := cond (decide (a0 < a1)) (some a0) (some a1)
theorem ent94 : Enters Try.prog 94 := ⟨Try.f94, Try.func94, rfl, by decide⟩
set_option maxHeartbeats 8000000 in
set_option maxRecDepth 100000 in
theorem Fspec_l16Least_gives (k : Nat) (a0 : Int) (a1 : Int) (r : Int) (H : Fspec_l16Least k a0 a1 = some r) : Gives Try.prog 94 [V.one (cI a0), V.one (cI a1)] [] [V.one (cI r)] [] := by
  refine Gives.intro Try.func94 rfl rfl rfl rfl ?_
  intro F hF hm
  unfold Fspec_l16Least at H
  obtain ⟨K, hK⟩ : ∃ K, k ≤ K := ⟨k, Nat.le_refl k⟩
  refine WpC.seq ?_
  refine WpC.regionL ?_
  refine L.assign hF rfl rfl rfl ?_
  refine L.nil ?_
  refine WpC.seq ?_
  refine WpC.seq ?_
  refine WpC.regionL ?_
  refine L.move hF rfl rfl rfl ?_
  refine L.move hF rfl rfl rfl ?_
  refine L.bin hF rfl rfl rfl rfl rfl rfl ?_
  refine L.nil ?_
  refine WpC.cond rfl (fun hc => ?_) (fun hc => ?_)
  · replace H := condT hc H
    refine WpC.seq ?_
    refine WpC.regionL ?_
    refine L.move hF rfl rfl rfl ?_
    refine L.assign hF rfl rfl rfl ?_
    refine L.nil ?_
    refine WpC.ret ?_
    cases H
    exact Leaves.ret rfl rfl rfl ⟨rfl, rfl⟩
  · replace H := condF hc H
    refine WpC.skip ?_
    refine WpC.seq ?_
    refine WpC.regionL ?_
    refine L.move hF rfl rfl rfl ?_
    refine L.assign hF rfl rfl rfl ?_
    refine L.nil ?_
    refine WpC.ret ?_
    cases H
    exact Leaves.ret rfl rfl rfl ⟨rfl, rfl⟩
end Go.Proofs.Ytflcaebmammlfaa.M
