import Derived.Test.YtcolcmjcjpikcaaMgZc
import Derived.Test.YtcolcmjcjpikcaaProg
namespace Go.Proofs.Ytcolcmjcjpikcaa.M
open Go Go.MG
set_option linter.unusedVariables false
set_option linter.unusedSimpArgs false
structure Timpl_Times where
  Auth : Int
  Start : Int
  End : Int
  Renew : Int
def eTimpl_Times (x : Timpl_Times) : List Cell := [cI x.Auth, cI x.Start, cI x.End, cI x.Renew]
structure Tspec_l1Cur where
  b : List UInt8
  i : Int
  h : Int
def eTspec_l1Cur (x : Tspec_l1Cur) : List Cell := [Cell.sl true (List.map eB x.b), cI x.i, cI x.h]
theorem mixed : Try.prog.follows .mixedOrders = true := by kernel_rfl
theorem shape3 : MG.shape Try.prog 3 = some (false, 1) := by kernel_rfl
theorem shape5 : MG.shape Try.prog 5 = some (false, 1) := by kernel_rfl
theorem shape9 : MG.shape Try.prog 9 = some (false, 1) := by kernel_rfl
theorem shape50 : MG.shape Try.prog 50 = some (false, 1) := by kernel_rfl
theorem shape65 : MG.shape Try.prog 65 = some (true, 4) := by kernel_rfl
theorem info3 : Try.prog.info? 3 = some Try.t3 := by kernel_rfl
theorem info5 : Try.prog.info? 5 = some Try.t5 := by kernel_rfl
theorem info9 : Try.prog.info? 9 = some Try.t9 := by kernel_rfl
theorem info50 : Try.prog.info? 50 = some Try.t50 := by kernel_rfl
theorem info65 : Try.prog.info? 65 = some Try.t65 := by kernel_rfl
theorem info235 : Try.prog.info? 235 = some Try.t235 := by kernel_rfl
theorem built65 : builtA Try.prog 65 = fillA (fun x => ([(0, 1), (1, 1), (2, 1), (3, 1)] : List (Nat × Nat))[x]?) [cI (0 : Int), cI (0 : Int), cI (0 : Int), cI (0 : Int)] := by kernel_rfl
theorem built235 : builtA Try.prog 235 = fillA (fun x => ([(0, 1), (1, 1), (2, 1)] : List (Nat × Nat))[x]?) [Cell.nil, cI (0 : Int), cI (0 : Int)] := by kernel_rfl
abbrev bx (a b c d : Int) : List Cell := [cI a, cI b, cI c, cI d]
theorem S3 {π : Nat → Option Nat} {σ : St} {t0 t1 t2 : Nat} {s0 u0 s1 u1 s2 u2 : Slot} (h0 : renS π s0 = some u0) (g0 : σ.slots t0 = some u0) (h1 : renS π s1 = some u1) (g1 : σ.slots t1 = some u1) (h2 : renS π s2 = some u2) (g2 : σ.slots t2 = some u2) : SlotsOk π σ [(t0, s0), (t1, s1), (t2, s2)] := ⟨⟨_, h0, g0⟩, ⟨_, h1, g1⟩, ⟨_, h2, g2⟩, trivial⟩
theorem S4 {π : Nat → Option Nat} {σ : St} {t0 t1 t2 t3 : Nat} {s0 u0 s1 u1 s2 u2 s3 u3 : Slot} (h0 : renS π s0 = some u0) (g0 : σ.slots t0 = some u0) (h1 : renS π s1 = some u1) (g1 : σ.slots t1 = some u1) (h2 : renS π s2 = some u2) (g2 : σ.slots t2 = some u2) (h3 : renS π s3 = some u3) (g3 : σ.slots t3 = some u3) : SlotsOk π σ [(t0, s0), (t1, s1), (t2, s2), (t3, s3)] := ⟨⟨_, h0, g0⟩, ⟨_, h1, g1⟩, ⟨_, h2, g2⟩, ⟨_, h3, g3⟩, trivial⟩
theorem S5 {π : Nat → Option Nat} {σ : St} {t0 t1 t2 t3 t4 : Nat} {s0 u0 s1 u1 s2 u2 s3 u3 s4 u4 : Slot} (h0 : renS π s0 = some u0) (g0 : σ.slots t0 = some u0) (h1 : renS π s1 = some u1) (g1 : σ.slots t1 = some u1) (h2 : renS π s2 = some u2) (g2 : σ.slots t2 = some u2) (h3 : renS π s3 = some u3) (g3 : σ.slots t3 = some u3) (h4 : renS π s4 = some u4) (g4 : σ.slots t4 = some u4) : SlotsOk π σ [(t0, s0), (t1, s1), (t2, s2), (t3, s3), (t4, s4)] := ⟨⟨_, h0, g0⟩, ⟨_, h1, g1⟩, ⟨_, h2, g2⟩, ⟨_, h3, g3⟩, ⟨_, h4, g4⟩, trivial⟩
theorem S6 {π : Nat → Option Nat} {σ : St} {t0 t1 t2 t3 t4 t5 : Nat} {s0 u0 s1 u1 s2 u2 s3 u3 s4 u4 s5 u5 : Slot} (h0 : renS π s0 = some u0) (g0 : σ.slots t0 = some u0) (h1 : renS π s1 = some u1) (g1 : σ.slots t1 = some u1) (h2 : renS π s2 = some u2) (g2 : σ.slots t2 = some u2) (h3 : renS π s3 = some u3) (g3 : σ.slots t3 = some u3) (h4 : renS π s4 = some u4) (g4 : σ.slots t4 = some u4) (h5 : renS π s5 = some u5) (g5 : σ.slots t5 = some u5) : SlotsOk π σ [(t0, s0), (t1, s1), (t2, s2), (t3, s3), (t4, s4), (t5, s5)] := ⟨⟨_, h0, g0⟩, ⟨_, h1, g1⟩, ⟨_, h2, g2⟩, ⟨_, h3, g3⟩, ⟨_, h4, g4⟩, ⟨_, h5, g5⟩, trivial⟩
theorem S7 {π : Nat → Option Nat} {σ : St} {t0 t1 t2 t3 t4 t5 t6 : Nat} {s0 u0 s1 u1 s2 u2 s3 u3 s4 u4 s5 u5 s6 u6 : Slot} (h0 : renS π s0 = some u0) (g0 : σ.slots t0 = some u0) (h1 : renS π s1 = some u1) (g1 : σ.slots t1 = some u1) (h2 : renS π s2 = some u2) (g2 : σ.slots t2 = some u2) (h3 : renS π s3 = some u3) (g3 : σ.slots t3 = some u3) (h4 : renS π s4 = some u4) (g4 : σ.slots t4 = some u4) (h5 : renS π s5 = some u5) (g5 : σ.slots t5 = some u5) (h6 : renS π s6 = some u6) (g6 : σ.slots t6 = some u6) : SlotsOk π σ [(t0, s0), (t1, s1), (t2, s2), (t3, s3), (t4, s4), (t5, s5), (t6, s6)] := ⟨⟨_, h0, g0⟩, ⟨_, h1, g1⟩, ⟨_, h2, g2⟩, ⟨_, h3, g3⟩, ⟨_, h4, g4⟩, ⟨_, h5, g5⟩, ⟨_, h6, g6⟩, trivial⟩
theorem S8 {π : Nat → Option Nat} {σ : St} {t0 t1 t2 t3 t4 t5 t6 t7 : Nat} {s0 u0 s1 u1 s2 u2 s3 u3 s4 u4 s5 u5 s6 u6 s7 u7 : Slot} (h0 : renS π s0 = some u0) (g0 : σ.slots t0 = some u0) (h1 : renS π s1 = some u1) (g1 : σ.slots t1 = some u1) (h2 : renS π s2 = some u2) (g2 : σ.slots t2 = some u2) (h3 : renS π s3 = some u3) (g3 : σ.slots t3 = some u3) (h4 : renS π s4 = some u4) (g4 : σ.slots t4 = some u4) (h5 : renS π s5 = some u5) (g5 : σ.slots t5 = some u5) (h6 : renS π s6 = some u6) (g6 : σ.slots t6 = some u6) (h7 : renS π s7 = some u7) (g7 : σ.slots t7 = some u7) : SlotsOk π σ [(t0, s0), (t1, s1), (t2, s2), (t3, s3), (t4, s4), (t5, s5), (t6, s6), (t7, s7)] := ⟨⟨_, h0, g0⟩, ⟨_, h1, g1⟩, ⟨_, h2, g2⟩, ⟨_, h3, g3⟩, ⟨_, h4, g4⟩, ⟨_, h5, g5⟩, ⟨_, h6, g6⟩, ⟨_, h7, g7⟩, trivial⟩
theorem S9 {π : Nat → Option Nat} {σ : St} {t0 t1 t2 t3 t4 t5 t6 t7 t8 : Nat} {s0 u0 s1 u1 s2 u2 s3 u3 s4 u4 s5 u5 s6 u6 s7 u7 s8 u8 : Slot} (h0 : renS π s0 = some u0) (g0 : σ.slots t0 = some u0) (h1 : renS π s1 = some u1) (g1 : σ.slots t1 = some u1) (h2 : renS π s2 = some u2) (g2 : σ.slots t2 = some u2) (h3 : renS π s3 = some u3) (g3 : σ.slots t3 = some u3) (h4 : renS π s4 = some u4) (g4 : σ.slots t4 = some u4) (h5 : renS π s5 = some u5) (g5 : σ.slots t5 = some u5) (h6 : renS π s6 = some u6) (g6 : σ.slots t6 = some u6) (h7 : renS π s7 = some u7) (g7 : σ.slots t7 = some u7) (h8 : renS π s8 = some u8) (g8 : σ.slots t8 = some u8) : SlotsOk π σ [(t0, s0), (t1, s1), (t2, s2), (t3, s3), (t4, s4), (t5, s5), (t6, s6), (t7, s7), (t8, s8)] := ⟨⟨_, h0, g0⟩, ⟨_, h1, g1⟩, ⟨_, h2, g2⟩, ⟨_, h3, g3⟩, ⟨_, h4, g4⟩, ⟨_, h5, g5⟩, ⟨_, h6, g6⟩, ⟨_, h7, g7⟩, ⟨_, h8, g8⟩, trivial⟩
theorem S10 {π : Nat → Option Nat} {σ : St} {t0 t1 t2 t3 t4 t5 t6 t7 t8 t9 : Nat} {s0 u0 s1 u1 s2 u2 s3 u3 s4 u4 s5 u5 s6 u6 s7 u7 s8 u8 s9 u9 : Slot} (h0 : renS π s0 = some u0) (g0 : σ.slots t0 = some u0) (h1 : renS π s1 = some u1) (g1 : σ.slots t1 = some u1) (h2 : renS π s2 = some u2) (g2 : σ.slots t2 = some u2) (h3 : renS π s3 = some u3) (g3 : σ.slots t3 = some u3) (h4 : renS π s4 = some u4) (g4 : σ.slots t4 = some u4) (h5 : renS π s5 = some u5) (g5 : σ.slots t5 = some u5) (h6 : renS π s6 = some u6) (g6 : σ.slots t6 = some u6) (h7 : renS π s7 = some u7) (g7 : σ.slots t7 = some u7) (h8 : renS π s8 = some u8) (g8 : σ.slots t8 = some u8) (h9 : renS π s9 = some u9) (g9 : σ.slots t9 = some u9) : SlotsOk π σ [(t0, s0), (t1, s1), (t2, s2), (t3, s3), (t4, s4), (t5, s5), (t6, s6), (t7, s7), (t8, s8), (t9, s9)] := ⟨⟨_, h0, g0⟩, ⟨_, h1, g1⟩, ⟨_, h2, g2⟩, ⟨_, h3, g3⟩, ⟨_, h4, g4⟩, ⟨_, h5, g5⟩, ⟨_, h6, g6⟩, ⟨_, h7, g7⟩, ⟨_, h8, g8⟩, ⟨_, h9, g9⟩, trivial⟩
theorem S11 {π : Nat → Option Nat} {σ : St} {t0 t1 t2 t3 t4 t5 t6 t7 t8 t9 t10 : Nat} {s0 u0 s1 u1 s2 u2 s3 u3 s4 u4 s5 u5 s6 u6 s7 u7 s8 u8 s9 u9 s10 u10 : Slot} (h0 : renS π s0 = some u0) (g0 : σ.slots t0 = some u0) (h1 : renS π s1 = some u1) (g1 : σ.slots t1 = some u1) (h2 : renS π s2 = some u2) (g2 : σ.slots t2 = some u2) (h3 : renS π s3 = some u3) (g3 : σ.slots t3 = some u3) (h4 : renS π s4 = some u4) (g4 : σ.slots t4 = some u4) (h5 : renS π s5 = some u5) (g5 : σ.slots t5 = some u5) (h6 : renS π s6 = some u6) (g6 : σ.slots t6 = some u6) (h7 : renS π s7 = some u7) (g7 : σ.slots t7 = some u7) (h8 : renS π s8 = some u8) (g8 : σ.slots t8 = some u8) (h9 : renS π s9 = some u9) (g9 : σ.slots t9 = some u9) (h10 : renS π s10 = some u10) (g10 : σ.slots t10 = some u10) : SlotsOk π σ [(t0, s0), (t1, s1), (t2, s2), (t3, s3), (t4, s4), (t5, s5), (t6, s6), (t7, s7), (t8, s8), (t9, s9), (t10, s10)] := ⟨⟨_, h0, g0⟩, ⟨_, h1, g1⟩, ⟨_, h2, g2⟩, ⟨_, h3, g3⟩, ⟨_, h4, g4⟩, ⟨_, h5, g5⟩, ⟨_, h6, g6⟩, ⟨_, h7, g7⟩, ⟨_, h8, g8⟩, ⟨_, h9, g9⟩, ⟨_, h10, g10⟩, trivial⟩
theorem S12 {π : Nat → Option Nat} {σ : St} {t0 t1 t2 t3 t4 t5 t6 t7 t8 t9 t10 t11 : Nat} {s0 u0 s1 u1 s2 u2 s3 u3 s4 u4 s5 u5 s6 u6 s7 u7 s8 u8 s9 u9 s10 u10 s11 u11 : Slot} (h0 : renS π s0 = some u0) (g0 : σ.slots t0 = some u0) (h1 : renS π s1 = some u1) (g1 : σ.slots t1 = some u1) (h2 : renS π s2 = some u2) (g2 : σ.slots t2 = some u2) (h3 : renS π s3 = some u3) (g3 : σ.slots t3 = some u3) (h4 : renS π s4 = some u4) (g4 : σ.slots t4 = some u4) (h5 : renS π s5 = some u5) (g5 : σ.slots t5 = some u5) (h6 : renS π s6 = some u6) (g6 : σ.slots t6 = some u6) (h7 : renS π s7 = some u7) (g7 : σ.slots t7 = some u7) (h8 : renS π s8 = some u8) (g8 : σ.slots t8 = some u8) (h9 : renS π s9 = some u9) (g9 : σ.slots t9 = some u9) (h10 : renS π s10 = some u10) (g10 : σ.slots t10 = some u10) (h11 : renS π s11 = some u11) (g11 : σ.slots t11 = some u11) : SlotsOk π σ [(t0, s0), (t1, s1), (t2, s2), (t3, s3), (t4, s4), (t5, s5), (t6, s6), (t7, s7), (t8, s8), (t9, s9), (t10, s10), (t11, s11)] := ⟨⟨_, h0, g0⟩, ⟨_, h1, g1⟩, ⟨_, h2, g2⟩, ⟨_, h3, g3⟩, ⟨_, h4, g4⟩, ⟨_, h5, g5⟩, ⟨_, h6, g6⟩, ⟨_, h7, g7⟩, ⟨_, h8, g8⟩, ⟨_, h9, g9⟩, ⟨_, h10, g10⟩, ⟨_, h11, g11⟩, trivial⟩
theorem S13 {π : Nat → Option Nat} {σ : St} {t0 t1 t2 t3 t4 t5 t6 t7 t8 t9 t10 t11 t12 : Nat} {s0 u0 s1 u1 s2 u2 s3 u3 s4 u4 s5 u5 s6 u6 s7 u7 s8 u8 s9 u9 s10 u10 s11 u11 s12 u12 : Slot} (h0 : renS π s0 = some u0) (g0 : σ.slots t0 = some u0) (h1 : renS π s1 = some u1) (g1 : σ.slots t1 = some u1) (h2 : renS π s2 = some u2) (g2 : σ.slots t2 = some u2) (h3 : renS π s3 = some u3) (g3 : σ.slots t3 = some u3) (h4 : renS π s4 = some u4) (g4 : σ.slots t4 = some u4) (h5 : renS π s5 = some u5) (g5 : σ.slots t5 = some u5) (h6 : renS π s6 = some u6) (g6 : σ.slots t6 = some u6) (h7 : renS π s7 = some u7) (g7 : σ.slots t7 = some u7) (h8 : renS π s8 = some u8) (g8 : σ.slots t8 = some u8) (h9 : renS π s9 = some u9) (g9 : σ.slots t9 = some u9) (h10 : renS π s10 = some u10) (g10 : σ.slots t10 = some u10) (h11 : renS π s11 = some u11) (g11 : σ.slots t11 = some u11) (h12 : renS π s12 = some u12) (g12 : σ.slots t12 = some u12) : SlotsOk π σ [(t0, s0), (t1, s1), (t2, s2), (t3, s3), (t4, s4), (t5, s5), (t6, s6), (t7, s7), (t8, s8), (t9, s9), (t10, s10), (t11, s11), (t12, s12)] := ⟨⟨_, h0, g0⟩, ⟨_, h1, g1⟩, ⟨_, h2, g2⟩, ⟨_, h3, g3⟩, ⟨_, h4, g4⟩, ⟨_, h5, g5⟩, ⟨_, h6, g6⟩, ⟨_, h7, g7⟩, ⟨_, h8, g8⟩, ⟨_, h9, g9⟩, ⟨_, h10, g10⟩, ⟨_, h11, g11⟩, ⟨_, h12, g12⟩, trivial⟩
theorem S14 {π : Nat → Option Nat} {σ : St} {t0 t1 t2 t3 t4 t5 t6 t7 t8 t9 t10 t11 t12 t13 : Nat} {s0 u0 s1 u1 s2 u2 s3 u3 s4 u4 s5 u5 s6 u6 s7 u7 s8 u8 s9 u9 s10 u10 s11 u11 s12 u12 s13 u13 : Slot} (h0 : renS π s0 = some u0) (g0 : σ.slots t0 = some u0) (h1 : renS π s1 = some u1) (g1 : σ.slots t1 = some u1) (h2 : renS π s2 = some u2) (g2 : σ.slots t2 = some u2) (h3 : renS π s3 = some u3) (g3 : σ.slots t3 = some u3) (h4 : renS π s4 = some u4) (g4 : σ.slots t4 = some u4) (h5 : renS π s5 = some u5) (g5 : σ.slots t5 = some u5) (h6 : renS π s6 = some u6) (g6 : σ.slots t6 = some u6) (h7 : renS π s7 = some u7) (g7 : σ.slots t7 = some u7) (h8 : renS π s8 = some u8) (g8 : σ.slots t8 = some u8) (h9 : renS π s9 = some u9) (g9 : σ.slots t9 = some u9) (h10 : renS π s10 = some u10) (g10 : σ.slots t10 = some u10) (h11 : renS π s11 = some u11) (g11 : σ.slots t11 = some u11) (h12 : renS π s12 = some u12) (g12 : σ.slots t12 = some u12) (h13 : renS π s13 = some u13) (g13 : σ.slots t13 = some u13) : SlotsOk π σ [(t0, s0), (t1, s1), (t2, s2), (t3, s3), (t4, s4), (t5, s5), (t6, s6), (t7, s7), (t8, s8), (t9, s9), (t10, s10), (t11, s11), (t12, s12), (t13, s13)] := ⟨⟨_, h0, g0⟩, ⟨_, h1, g1⟩, ⟨_, h2, g2⟩, ⟨_, h3, g3⟩, ⟨_, h4, g4⟩, ⟨_, h5, g5⟩, ⟨_, h6, g6⟩, ⟨_, h7, g7⟩, ⟨_, h8, g8⟩, ⟨_, h9, g9⟩, ⟨_, h10, g10⟩, ⟨_, h11, g11⟩, ⟨_, h12, g12⟩, ⟨_, h13, g13⟩, trivial⟩
theorem B2 {π : Nat → Option Nat} {σ : St} {k0 q0 k1 q1 : Nat} {c0 d0 c1 d1 : List Cell} (h0 : π k0 = some q0) (g0 : renCs π c0 = some d0) (e0 : σ.H.boxes q0 = some d0) (h1 : π k1 = some q1) (g1 : renCs π c1 = some d1) (e1 : σ.H.boxes q1 = some d1) : BoxesOk π σ [(k0, c0), (k1, c1)] := ⟨⟨_, _, h0, g0, e0⟩, ⟨_, _, h1, g1, e1⟩, trivial⟩
theorem B3 {π : Nat → Option Nat} {σ : St} {k0 q0 k1 q1 k2 q2 : Nat} {c0 d0 c1 d1 c2 d2 : List Cell} (h0 : π k0 = some q0) (g0 : renCs π c0 = some d0) (e0 : σ.H.boxes q0 = some d0) (h1 : π k1 = some q1) (g1 : renCs π c1 = some d1) (e1 : σ.H.boxes q1 = some d1) (h2 : π k2 = some q2) (g2 : renCs π c2 = some d2) (e2 : σ.H.boxes q2 = some d2) : BoxesOk π σ [(k0, c0), (k1, c1), (k2, c2)] := ⟨⟨_, _, h0, g0, e0⟩, ⟨_, _, h1, g1, e1⟩, ⟨_, _, h2, g2, e2⟩, trivial⟩
theorem B4 {π : Nat → Option Nat} {σ : St} {k0 q0 k1 q1 k2 q2 k3 q3 : Nat} {c0 d0 c1 d1 c2 d2 c3 d3 : List Cell} (h0 : π k0 = some q0) (g0 : renCs π c0 = some d0) (e0 : σ.H.boxes q0 = some d0) (h1 : π k1 = some q1) (g1 : renCs π c1 = some d1) (e1 : σ.H.boxes q1 = some d1) (h2 : π k2 = some q2) (g2 : renCs π c2 = some d2) (e2 : σ.H.boxes q2 = some d2) (h3 : π k3 = some q3) (g3 : renCs π c3 = some d3) (e3 : σ.H.boxes q3 = some d3) : BoxesOk π σ [(k0, c0), (k1, c1), (k2, c2), (k3, c3)] := ⟨⟨_, _, h0, g0, e0⟩, ⟨_, _, h1, g1, e1⟩, ⟨_, _, h2, g2, e2⟩, ⟨_, _, h3, g3, e3⟩, trivial⟩
theorem B5 {π : Nat → Option Nat} {σ : St} {k0 q0 k1 q1 k2 q2 k3 q3 k4 q4 : Nat} {c0 d0 c1 d1 c2 d2 c3 d3 c4 d4 : List Cell} (h0 : π k0 = some q0) (g0 : renCs π c0 = some d0) (e0 : σ.H.boxes q0 = some d0) (h1 : π k1 = some q1) (g1 : renCs π c1 = some d1) (e1 : σ.H.boxes q1 = some d1) (h2 : π k2 = some q2) (g2 : renCs π c2 = some d2) (e2 : σ.H.boxes q2 = some d2) (h3 : π k3 = some q3) (g3 : renCs π c3 = some d3) (e3 : σ.H.boxes q3 = some d3) (h4 : π k4 = some q4) (g4 : renCs π c4 = some d4) (e4 : σ.H.boxes q4 = some d4) : BoxesOk π σ [(k0, c0), (k1, c1), (k2, c2), (k3, c3), (k4, c4)] := ⟨⟨_, _, h0, g0, e0⟩, ⟨_, _, h1, g1, e1⟩, ⟨_, _, h2, g2, e2⟩, ⟨_, _, h3, g3, e3⟩, ⟨_, _, h4, g4, e4⟩, trivial⟩
theorem B6 {π : Nat → Option Nat} {σ : St} {k0 q0 k1 q1 k2 q2 k3 q3 k4 q4 k5 q5 : Nat} {c0 d0 c1 d1 c2 d2 c3 d3 c4 d4 c5 d5 : List Cell} (h0 : π k0 = some q0) (g0 : renCs π c0 = some d0) (e0 : σ.H.boxes q0 = some d0) (h1 : π k1 = some q1) (g1 : renCs π c1 = some d1) (e1 : σ.H.boxes q1 = some d1) (h2 : π k2 = some q2) (g2 : renCs π c2 = some d2) (e2 : σ.H.boxes q2 = some d2) (h3 : π k3 = some q3) (g3 : renCs π c3 = some d3) (e3 : σ.H.boxes q3 = some d3) (h4 : π k4 = some q4) (g4 : renCs π c4 = some d4) (e4 : σ.H.boxes q4 = some d4) (h5 : π k5 = some q5) (g5 : renCs π c5 = some d5) (e5 : σ.H.boxes q5 = some d5) : BoxesOk π σ [(k0, c0), (k1, c1), (k2, c2), (k3, c3), (k4, c4), (k5, c5)] := ⟨⟨_, _, h0, g0, e0⟩, ⟨_, _, h1, g1, e1⟩, ⟨_, _, h2, g2, e2⟩, ⟨_, _, h3, g3, e3⟩, ⟨_, _, h4, g4, e4⟩, ⟨_, _, h5, g5, e5⟩, trivial⟩
/-! ### Flaws_big -/
def Flaws_big (k : Nat) (a0 : List UInt8) : Option Bool := some (decide ((a0.length : Int) > (1048576 : Int)))
theorem ent47 : Enters Try.prog 47 := ⟨Try.f47, Try.func47, rfl, by decide⟩
set_option maxHeartbeats 8000000 in
set_option maxRecDepth 100000 in
theorem Flaws_big_gives (k : Nat) (g0 : Bool) (a0 : List UInt8) (r : Bool) (H : Flaws_big k a0 = some r) : Gives Try.prog 47 [V.one (Cell.sl g0 (List.map eB a0))] [] [V.one (cL r)] [] := by
  refine Gives.intro Try.func47 rfl rfl rfl rfl ?_
  intro F hF hm
  unfold Flaws_big at H
  obtain ⟨K, hK⟩ : ∃ K, k ≤ K := ⟨k, Nat.le_refl k⟩
  refine WpC.seq ?_
  refine WpC.regionL ?_
  refine L.assign hF rfl rfl rfl ?_
  refine L.nil ?_
  refine WpC.seq ?_
  refine WpC.regionL ?_
  refine L.move hF rfl rfl rfl ?_
  refine L.lenR (xs := a0) (e := eB) Try.underlying50 hF rfl rfl rfl rfl ?_
  refine L.bin hF rfl rfl rfl rfl rfl rfl ?_
  refine L.assign hF rfl rfl rfl ?_
  refine L.nil ?_
  refine WpC.ret ?_
  cases H
  exact Leaves.ret rfl rfl rfl ⟨rfl, rfl⟩
/-! ### Fspec_l1New -/
def Fspec_l1New.j2 (k : Nat) (v15 : List UInt8) (v16 : Int) : Option Tspec_l1Cur := some (⟨v15, (0 : Int), v16⟩ : Tspec_l1Cur)
def Fspec_l1New.l3 : Nat → (List UInt8) → Int → Int → Option Tspec_l1Cur
  | 0, _, _, _ => none
  | k3 + 1, v26, v27, v28 => cond (decide (v28 < (v26.length : Int))) (cond (decide (v28 < (4000 : Int))) ((at? v26 v28).bind fun b30 => (Fspec_l1New.l3 k3) v26 (Go.bits .and .i64 (IntKind.i64.wrap ((IntKind.i64.wrap ((IntKind.i64.wrap (v27 * (131 : Int))) + (b30.toNat : Int))) + (7 : Int))) (1073741823 : Int)) (IntKind.i64.wrap (v28 + (1 : Int)))) (Fspec_l1New.j2 k3 v26 v27)) (Fspec_l1New.j2 k3 v26 v27)
def Fspec_l1New (k : Nat) (a0 : List UInt8) : Option Tspec_l1Cur := Fspec_l1New.l3 k a0 (IntKind.i64.wrap ((10101 : Int) + (a0.length : Int))) (0 : Int)
theorem ent121 : Enters Try.prog 121 := ⟨Try.f121, Try.func121, rfl, by decide⟩
set_option maxHeartbeats 8000000 in
set_option maxRecDepth 100000 in
theorem Fspec_l1New_gives (k : Nat) (a0 : List UInt8) (r : Tspec_l1Cur) (H : Fspec_l1New k a0 = some r) : Gives Try.prog 121 [V.one (Cell.sl true (List.map eB a0))] [] [V.one (Cell.bx [Cell.sl true (List.map eB r.b), cI r.i, cI r.h])] [] := by
  refine Gives.intro Try.func121 rfl rfl rfl rfl ?_
  intro F hF hm
  unfold Fspec_l1New at H
  obtain ⟨K, hK⟩ : ∃ K, k ≤ K := ⟨k, Nat.le_refl k⟩
  refine WpC.seq ?_
  refine WpC.regionL ?_
  refine L.assign hF rfl rfl rfl ?_
  refine L.nil ?_
  refine WpC.seq ?_
  refine WpC.regionL ?_
  refine L.move hF rfl rfl rfl ?_
  refine L.lenR (xs := a0) (e := eB) Try.underlying50 hF rfl rfl rfl rfl ?_
  refine L.bin hF rfl rfl rfl rfl rfl rfl ?_
  refine L.assign hF rfl rfl rfl ?_
  refine L.nil ?_
  refine WpC.join (fun σ => ∃ kj2 : Nat, ∃ v15 : List UInt8, ∃ v16 : Int, kj2 ≤ K ∧ Fspec_l1New.j2 kj2 v15 v16 = some r ∧ σ = mkSt [(0, one (Cell.sl true (List.map eB v15))), (3, one (cI v16))] [] [] 0) ?_ ?_
  · rintro _ ⟨kj2, v15, v16, hkj2, H, rfl⟩
    unfold Fspec_l1New.j2 at H
    refine WpC.seq ?_
    refine WpC.regionL ?_
    refine L.move hF rfl rfl rfl ?_
    refine L.move hF rfl rfl rfl ?_
    refine L.buildF built235 hF rfl rfl rfl rfl ?_
    refine L.box 0 hF rfl rfl rfl rfl ?_
    refine L.assign hF rfl rfl rfl ?_
    refine L.nil ?_
    refine WpC.ret ?_
    cases H
    exact Leaves.ret rfl rfl rfl ⟨rfl, rfl⟩
  · refine WpC.seq ?_
    refine WpC.regionL ?_
    refine L.assign hF rfl rfl rfl ?_
    refine L.nil ?_
    refine WpC.block ?_
    refine WpC.loopL (P := Try.prog) (fun n σ => ∃ v26 : List UInt8, ∃ v27 : Int, ∃ v28 : Int, n ≤ K ∧ Fspec_l1New.l3 n v26 v27 v28 = some r ∧ σ = mkSt [(0, one (Cell.sl true (List.map eB v26))), (3, one (cI v27)), (4, one (cI v28))] [] [] 0) k ⟨_, ⟨a0, (IntKind.i64.wrap ((10101 : Int) + (a0.length : Int))), (0 : Int), by omega, H, rfl⟩, Le.mk [] hm rfl ⟨⟨_, rfl, rfl⟩, ⟨_, rfl, rfl⟩, ⟨_, rfl, rfl⟩, trivial⟩ trivial trivial⟩ ?_
    clear H
    rintro k3 _ ⟨v26, v27, v28, hk3, H, rfl⟩
    cases k3 with
    | zero => cases H
    | succ k3 =>
      rw [Fspec_l1New.l3] at H
      refine WpC.seq ?_
      refine WpC.seq ?_
      refine WpC.regionL ?_
      refine L.move hF rfl rfl rfl ?_
      refine L.move hF rfl rfl rfl ?_
      refine L.lenR (xs := v26) (e := eB) Try.underlying50 hF rfl rfl rfl rfl ?_
      refine L.bin hF rfl rfl rfl rfl rfl rfl ?_
      refine L.move hF rfl rfl rfl ?_
      refine L.split (fun hc => ?_) (fun hc => ?_)
      · replace H := condT hc H
        refine L.move hF rfl rfl rfl ?_
        refine L.bin hF rfl rfl rfl rfl rfl rfl ?_
        refine L.pick hF rfl rfl rfl rfl ?_
        refine L.nil ?_
        refine WpC.cond rfl (fun hc => ?_) (fun hc => ?_)
        · replace H := condT hc H
          refine WpC.skip ?_
          refine WpC.seq ?_
          refine WpC.block ?_
          refine WpC.regionL ?_
          refine L.move hF rfl rfl rfl ?_
          refine L.bin hF rfl rfl rfl rfl rfl rfl ?_
          refine L.move hF rfl rfl rfl ?_
          refine L.move hF rfl rfl rfl ?_
          obtain ⟨b30, hb30, H⟩ := bindS H
          refine L.idxR (xs := v26) (e := eB) Try.underlying50 info5 hF rfl rfl rfl rfl rfl hb30 rfl rfl ?_
          refine L.loadPe shape5 hF rfl rfl rfl rfl rfl ?_
          refine L.ofB Try.underlying5 Try.underlying3 hF rfl rfl rfl ?_
          refine L.bin hF rfl rfl rfl rfl rfl rfl ?_
          refine L.bin hF rfl rfl rfl rfl rfl rfl ?_
          refine L.bin hF rfl rfl rfl rfl rfl rfl ?_
          refine L.assign hF rfl rfl rfl ?_
          refine L.nil ?_
          refine WpC.regionL ?_
          refine L.move hF rfl rfl rfl ?_
          refine L.bin hF rfl rfl rfl rfl rfl rfl ?_
          refine L.assign hF rfl rfl rfl ?_
          refine L.nil ?_
          exact ⟨k3, _, by omega, ⟨v26, (Go.bits .and .i64 (IntKind.i64.wrap ((IntKind.i64.wrap ((IntKind.i64.wrap (v27 * (131 : Int))) + (b30.toNat : Int))) + (7 : Int))) (1073741823 : Int)), (IntKind.i64.wrap (v28 + (1 : Int))), by omega, H, rfl⟩, Le.mk [] hm rfl ⟨⟨_, rfl, rfl⟩, ⟨_, rfl, rfl⟩, ⟨_, rfl, rfl⟩, trivial⟩ trivial trivial⟩
        · replace H := condF hc H
          refine WpC.exit ?_
          exact ⟨_, ⟨k3, v26, v27, by omega, H, rfl⟩, Le.mk [] hm rfl ⟨⟨_, rfl, rfl⟩, ⟨_, rfl, rfl⟩, trivial⟩ trivial trivial⟩
      · replace H := condF hc H
        refine L.off hF rfl rfl ?_
        refine L.off hF rfl rfl ?_
        refine L.pick hF rfl rfl rfl rfl ?_
        refine L.nil ?_
        refine WpC.cond rfl (fun hc => by cases hc) (fun _ => ?_)
        refine WpC.exit ?_
        exact ⟨_, ⟨k3, v26, v27, by omega, H, rfl⟩, Le.mk [] hm rfl ⟨⟨_, rfl, rfl⟩, ⟨_, rfl, rfl⟩, trivial⟩ trivial trivial⟩
/-! ### Fspec_l1Byte -/
def Fspec_l1Byte (k : Nat) (o0 : Tspec_l1Cur) : Option (Int × Tspec_l1Cur) := cond (decide (o0.i < (o0.b.length : Int))) ((at? o0.b o0.i).bind fun b2 => some ((Go.bits .and .i64 (IntKind.i64.wrap ((Go.bits .and .i64 (Go.bits .xor .i64 (shrI .i64 (IntKind.i64.wrap ((IntKind.i64.wrap (o0.h * (6364136223846793005 : Int))) + (1442695040888963407 : Int))) (33 : Int)) (shrI .i64 (IntKind.i64.wrap ((IntKind.i64.wrap (o0.h * (6364136223846793005 : Int))) + (1442695040888963407 : Int))) (45 : Int))) (255 : Int)) + (b2.toNat : Int))) (255 : Int)), (⟨o0.b, (IntKind.i64.wrap (o0.i + (1 : Int))), (IntKind.i64.wrap ((IntKind.i64.wrap (o0.h * (6364136223846793005 : Int))) + (1442695040888963407 : Int)))⟩ : Tspec_l1Cur))) (some ((Go.bits .and .i64 (Go.bits .xor .i64 (shrI .i64 (IntKind.i64.wrap ((IntKind.i64.wrap (o0.h * (6364136223846793005 : Int))) + (1442695040888963407 : Int))) (33 : Int)) (shrI .i64 (IntKind.i64.wrap ((IntKind.i64.wrap (o0.h * (6364136223846793005 : Int))) + (1442695040888963407 : Int))) (45 : Int))) (255 : Int)), (⟨o0.b, o0.i, (IntKind.i64.wrap ((IntKind.i64.wrap (o0.h * (6364136223846793005 : Int))) + (1442695040888963407 : Int)))⟩ : Tspec_l1Cur)))
theorem ent221 : Enters Try.prog 221 := ⟨Try.f221, Try.func221, rfl, by decide⟩
set_option maxHeartbeats 8000000 in
set_option maxRecDepth 100000 in
theorem Fspec_l1Byte_gives (k : Nat) (o0 : Tspec_l1Cur) (r : Int × Tspec_l1Cur) (H : Fspec_l1Byte k o0 = some r) : Gives Try.prog 221 [V.one (Cell.ptr 0 0)] [[Cell.sl true (List.map eB o0.b), cI o0.i, cI o0.h]] [V.one (cI r.1)] [[Cell.sl true (List.map eB r.2.b), cI r.2.i, cI r.2.h]] := by
  refine Gives.intro Try.func221 rfl rfl rfl rfl ?_
  intro F hF hm
  unfold Fspec_l1Byte at H
  obtain ⟨K, hK⟩ : ∃ K, k ≤ K := ⟨k, Nat.le_refl k⟩
  refine WpC.seq ?_
  refine WpC.regionL ?_
  refine L.assign hF rfl rfl rfl ?_
  refine L.nil ?_
  refine WpC.seq ?_
  refine WpC.regionL ?_
  refine L.move hF rfl rfl rfl ?_
  refine L.move hF rfl rfl rfl ?_
  refine L.nilCheck hF rfl rfl rfl rfl ?_
  refine L.fieldAddr Try.underlying235 rfl info3 rfl hF rfl rfl rfl rfl rfl ?_
  refine L.loadPtr shape3 hF rfl rfl rfl rfl rfl rfl ?_
  refine L.bin hF rfl rfl rfl rfl rfl rfl ?_
  refine L.bin hF rfl rfl rfl rfl rfl rfl ?_
  refine L.nilCheck hF rfl rfl rfl rfl ?_
  refine L.fieldAddr Try.underlying235 rfl info3 rfl hF rfl rfl rfl rfl rfl ?_
  refine L.storePtr shape3 hF rfl rfl rfl rfl rfl rfl rfl ?_
  refine L.nil ?_
  refine WpC.seq ?_
  refine S.begin mixed (by kernel_rfl) ?_
  refine S.st 0 rfl rfl ((Ca.move).quiet) (fun Q0 k0 => L.move hF rfl rfl rfl (L.nil k0)) ?_
  refine S.st 1 rfl rfl ((Ca.nilCheck rfl rfl).quiet) (fun Q0 k0 => L.nilCheck hF rfl rfl rfl rfl (L.nil k0)) ?_
  refine S.st 2 rfl rfl ((Ca.fieldAddr Try.underlying235 rfl info3 rfl).quiet) (fun Q0 k0 => L.fieldAddr Try.underlying235 rfl info3 rfl hF rfl rfl rfl rfl rfl (L.nil k0)) ?_
  refine S.st 3 rfl rfl (Qu.load) (fun Q0 k0 => L.loadPtr shape3 hF rfl rfl rfl rfl rfl rfl (L.nil k0)) ?_
  refine S.st 4 rfl rfl ((Ca.bin rfl rfl (calm_int _ _ _ _ _ _ _ _)).quiet) (fun Q0 k0 => L.shr hF rfl rfl rfl rfl (by decide) (L.nil k0)) ?_
  refine S.st 5 rfl rfl ((Ca.move).quiet) (fun Q0 k0 => L.move hF rfl rfl rfl (L.nil k0)) ?_
  refine S.st 6 rfl rfl ((Ca.nilCheck rfl rfl).quiet) (fun Q0 k0 => L.nilCheck hF rfl rfl rfl rfl (L.nil k0)) ?_
  refine S.st 7 rfl rfl ((Ca.fieldAddr Try.underlying235 rfl info3 rfl).quiet) (fun Q0 k0 => L.fieldAddr Try.underlying235 rfl info3 rfl hF rfl rfl rfl rfl rfl (L.nil k0)) ?_
  refine S.st 8 rfl rfl (Qu.load) (fun Q0 k0 => L.loadPtr shape3 hF rfl rfl rfl rfl rfl rfl (L.nil k0)) ?_
  refine S.st 9 rfl rfl ((Ca.bin rfl rfl (calm_int _ _ _ _ _ _ _ _)).quiet) (fun Q0 k0 => L.shr hF rfl rfl rfl rfl (by decide) (L.nil k0)) ?_
  refine S.st 10 rfl rfl ((Ca.bin rfl rfl (calm_int _ _ _ _ _ _ _ _)).quiet) (fun Q0 k0 => L.bin hF rfl rfl rfl rfl rfl rfl (L.nil k0)) ?_
  refine S.st 11 rfl rfl ((Ca.bin rfl rfl (calm_int _ _ _ _ _ _ _ _)).quiet) (fun Q0 k0 => L.bin hF rfl rfl rfl rfl rfl rfl (L.nil k0)) ?_
  refine S.st 12 rfl rfl ((Ca.assign).quiet) (fun Q0 k0 => L.assign hF rfl rfl rfl (L.nil k0)) ?_
  refine S.nil ?_
  refine WpC.seq ?_
  refine WpC.seq ?_
  refine S.begin mixed (by kernel_rfl) ?_
  refine S.st 0 rfl rfl ((Ca.move).quiet) (fun Q0 k0 => L.move hF rfl rfl rfl (L.nil k0)) ?_
  refine S.st 1 rfl rfl ((Ca.nilCheck rfl rfl).quiet) (fun Q0 k0 => L.nilCheck hF rfl rfl rfl rfl (L.nil k0)) ?_
  refine S.st 2 rfl rfl ((Ca.fieldAddr Try.underlying235 rfl info3 rfl).quiet) (fun Q0 k0 => L.fieldAddr Try.underlying235 rfl info3 rfl hF rfl rfl rfl rfl rfl (L.nil k0)) ?_
  refine S.st 3 rfl rfl (Qu.load) (fun Q0 k0 => L.loadPtr shape3 hF rfl rfl rfl rfl rfl rfl (L.nil k0)) ?_
  refine S.st 4 rfl rfl ((Ca.move).quiet) (fun Q0 k0 => L.move hF rfl rfl rfl (L.nil k0)) ?_
  refine S.st 5 rfl rfl ((Ca.nilCheck rfl rfl).quiet) (fun Q0 k0 => L.nilCheck hF rfl rfl rfl rfl (L.nil k0)) ?_
  refine S.st 6 rfl rfl ((Ca.fieldAddr Try.underlying235 rfl info50 rfl).quiet) (fun Q0 k0 => L.fieldAddr Try.underlying235 rfl info50 rfl hF rfl rfl rfl rfl rfl (L.nil k0)) ?_
  refine S.st 7 rfl rfl (Qu.load) (fun Q0 k0 => L.loadPtr shape50 hF rfl rfl rfl rfl rfl rfl (L.nil k0)) ?_
  refine S.st 8 rfl rfl ((Ca.lenR (xs := o0.b) (e := eB) Try.underlying50 rfl rfl).quiet) (fun Q0 k0 => L.lenR (xs := o0.b) (e := eB) Try.underlying50 hF rfl rfl rfl rfl (L.nil k0)) ?_
  refine S.st 9 rfl rfl ((Ca.bin rfl rfl (calm_int _ _ _ _ _ _ _ _)).quiet) (fun Q0 k0 => L.bin hF rfl rfl rfl rfl rfl rfl (L.nil k0)) ?_
  refine S.nil ?_
  refine WpC.cond rfl (fun hc => ?_) (fun hc => ?_)
  · replace H := condT hc H
    refine WpC.seq ?_
    refine S.begin mixed (by kernel_rfl) ?_
    refine S.st 0 rfl rfl ((Ca.move).quiet) (fun Q0 k0 => L.move hF rfl rfl rfl (L.nil k0)) ?_
    refine S.st 1 rfl rfl ((Ca.move).quiet) (fun Q0 k0 => L.move hF rfl rfl rfl (L.nil k0)) ?_
    refine S.st 2 rfl rfl ((Ca.nilCheck rfl rfl).quiet) (fun Q0 k0 => L.nilCheck hF rfl rfl rfl rfl (L.nil k0)) ?_
    refine S.st 3 rfl rfl ((Ca.fieldAddr Try.underlying235 rfl info50 rfl).quiet) (fun Q0 k0 => L.fieldAddr Try.underlying235 rfl info50 rfl hF rfl rfl rfl rfl rfl (L.nil k0)) ?_
    refine S.st 4 rfl rfl (Qu.load) (fun Q0 k0 => L.loadPtr shape50 hF rfl rfl rfl rfl rfl rfl (L.nil k0)) ?_
    refine S.st 5 rfl rfl ((Ca.move).quiet) (fun Q0 k0 => L.move hF rfl rfl rfl (L.nil k0)) ?_
    refine S.st 6 rfl rfl ((Ca.nilCheck rfl rfl).quiet) (fun Q0 k0 => L.nilCheck hF rfl rfl rfl rfl (L.nil k0)) ?_
    refine S.st 7 rfl rfl ((Ca.fieldAddr Try.underlying235 rfl info3 rfl).quiet) (fun Q0 k0 => L.fieldAddr Try.underlying235 rfl info3 rfl hF rfl rfl rfl rfl rfl (L.nil k0)) ?_
    refine S.st 8 rfl rfl (Qu.load) (fun Q0 k0 => L.loadPtr shape3 hF rfl rfl rfl rfl rfl rfl (L.nil k0)) ?_
    obtain ⟨b2, hb2, H⟩ := bindS H
    refine S.st 9 rfl rfl ((Ca.indexAddr).quiet) (fun Q0 k0 => L.idxR (xs := o0.b) (e := eB) Try.underlying50 info5 hF rfl rfl rfl rfl rfl hb2 rfl rfl (L.nil k0)) ?_
    refine S.st 10 rfl rfl (Qu.load) (fun Q0 k0 => L.loadPe shape5 hF rfl rfl rfl rfl rfl (L.nil k0)) ?_
    refine S.st 11 rfl rfl ((Ca.conv Try.underlying5 Try.underlying3 rfl).quiet) (fun Q0 k0 => L.ofB Try.underlying5 Try.underlying3 hF rfl rfl rfl (L.nil k0)) ?_
    refine S.st 12 rfl rfl ((Ca.bin rfl rfl (calm_int _ _ _ _ _ _ _ _)).quiet) (fun Q0 k0 => L.bin hF rfl rfl rfl rfl rfl rfl (L.nil k0)) ?_
    refine S.st 13 rfl rfl ((Ca.bin rfl rfl (calm_int _ _ _ _ _ _ _ _)).quiet) (fun Q0 k0 => L.bin hF rfl rfl rfl rfl rfl rfl (L.nil k0)) ?_
    refine S.st 14 rfl rfl ((Ca.assign).quiet) (fun Q0 k0 => L.assign hF rfl rfl rfl (L.nil k0)) ?_
    refine S.nil ?_
    refine WpC.regionL ?_
    refine L.move hF rfl rfl rfl ?_
    refine L.move hF rfl rfl rfl ?_
    refine L.nilCheck hF rfl rfl rfl rfl ?_
    refine L.fieldAddr Try.underlying235 rfl info3 rfl hF rfl rfl rfl rfl rfl ?_
    refine L.loadPtr shape3 hF rfl rfl rfl rfl rfl rfl ?_
    refine L.bin hF rfl rfl rfl rfl rfl rfl ?_
    refine L.nilCheck hF rfl rfl rfl rfl ?_
    refine L.fieldAddr Try.underlying235 rfl info3 rfl hF rfl rfl rfl rfl rfl ?_
    refine L.storePtr shape3 hF rfl rfl rfl rfl rfl rfl rfl ?_
    refine L.nil ?_
    refine WpC.seq ?_
    refine WpC.regionL ?_
    refine L.move hF rfl rfl rfl ?_
    refine L.assign hF rfl rfl rfl ?_
    refine L.nil ?_
    refine WpC.ret ?_
    cases H
    exact Leaves.ret rfl rfl rfl ⟨rfl, rfl⟩
  · replace H := condF hc H
    refine WpC.skip ?_
    refine WpC.seq ?_
    refine WpC.regionL ?_
    refine L.move hF rfl rfl rfl ?_
    refine L.assign hF rfl rfl rfl ?_
    refine L.nil ?_
    refine WpC.ret ?_
    cases H
    exact Leaves.ret rfl rfl rfl ⟨rfl, rfl⟩
/-! ### Fspec_l1Below -/
def Fspec_l1Below (k : Nat) (a1 : Int) (o0 : Tspec_l1Cur) : Option (Int × Tspec_l1Cur) := cond (decide (a1 ≤ (0 : Int))) (some ((0 : Int), o0)) (cond (decide (a1 ≤ (256 : Int))) ((Fspec_l1Byte k o0).bind fun r3 => cond (!(a1 == 0)) (some ((Int.tmod r3.1 a1), r3.2)) none) ((Fspec_l1Byte k o0).bind fun r5 => (Fspec_l1Byte k r5.2).bind fun r6 => (Fspec_l1Byte k r6.2).bind fun r7 => (Fspec_l1Byte k r7.2).bind fun r8 => cond (!(a1 == 0)) (some ((Int.tmod (IntKind.i64.wrap ((IntKind.i64.wrap ((IntKind.i64.wrap ((IntKind.i64.wrap (r5.1 * (16777216 : Int))) + (IntKind.i64.wrap (r6.1 * (65536 : Int))))) + (IntKind.i64.wrap (r7.1 * (256 : Int))))) + r8.1)) a1), r8.2)) none))
theorem ent132 : Enters Try.prog 132 := ⟨Try.f132, Try.func132, rfl, by decide⟩
set_option maxHeartbeats 8000000 in
set_option maxRecDepth 100000 in
theorem Fspec_l1Below_gives (k : Nat) (a1 : Int) (o0 : Tspec_l1Cur) (r : Int × Tspec_l1Cur) (H : Fspec_l1Below k a1 o0 = some r) : Gives Try.prog 132 [V.one (Cell.ptr 0 0), V.one (cI a1)] [[Cell.sl true (List.map eB o0.b), cI o0.i, cI o0.h]] [V.one (cI r.1)] [[Cell.sl true (List.map eB r.2.b), cI r.2.i, cI r.2.h]] := by
  refine Gives.intro Try.func132 rfl rfl rfl rfl ?_
  intro F hF hm
  unfold Fspec_l1Below at H
  obtain ⟨K, hK⟩ : ∃ K, k ≤ K := ⟨k, Nat.le_refl k⟩
  refine WpC.seq ?_
  refine WpC.regionL ?_
  refine L.assign hF rfl rfl rfl ?_
  refine L.nil ?_
  refine WpC.seq ?_
  refine WpC.seq ?_
  refine WpC.regionL ?_
  refine L.move hF rfl rfl rfl ?_
  refine L.bin hF rfl rfl rfl rfl rfl rfl ?_
  refine L.nil ?_
  refine WpC.cond rfl (fun hc => ?_) (fun hc => ?_)
  · replace H := condT hc H
    refine WpC.seq ?_
    refine WpC.regionL ?_
    refine L.assign hF rfl rfl rfl ?_
    refine L.nil ?_
    refine WpC.ret ?_
    cases H
    exact Leaves.ret rfl rfl rfl ⟨rfl, rfl⟩
  · replace H := condF hc H
    refine WpC.skip ?_
    refine WpC.seq ?_
    refine WpC.seq ?_
    refine WpC.regionL ?_
    refine L.move hF rfl rfl rfl ?_
    refine L.bin hF rfl rfl rfl rfl rfl rfl ?_
    refine L.nil ?_
    refine WpC.cond rfl (fun hc => ?_) (fun hc => ?_)
    · replace H := condT hc H
      refine WpC.seq ?_
      refine WpC.regionL ?_
      refine L.move hF rfl rfl rfl ?_
      obtain ⟨r3, hr3, H⟩ := bindS H
      refine L.call [false] [] [0] 6 hF rfl rfl rfl ent221 rfl rfl rfl rfl rfl (Fspec_l1Byte_gives k  o0 r3 hr3) rfl ?_
      refine L.move hF rfl rfl rfl ?_
      obtain ⟨h4, H⟩ := condG H
      refine L.rem hF rfl rfl rfl rfl (by simpa using h4) ?_
      refine L.assign hF rfl rfl rfl ?_
      refine L.nil ?_
      refine WpC.ret ?_
      cases H
      exact Leaves.ret rfl rfl rfl ⟨rfl, rfl⟩
    · replace H := condF hc H
      refine WpC.skip ?_
      refine WpC.seq ?_
      refine WpC.regionL ?_
      refine L.move hF rfl rfl rfl ?_
      obtain ⟨r5, hr5, H⟩ := bindS H
      refine L.call [false] [] [0] 6 hF rfl rfl rfl ent221 rfl rfl rfl rfl rfl (Fspec_l1Byte_gives k  o0 r5 hr5) rfl ?_
      refine L.assign hF rfl rfl rfl ?_
      refine L.nil ?_
      refine WpC.seq ?_
      refine WpC.regionL ?_
      refine L.move hF rfl rfl rfl ?_
      obtain ⟨r6, hr6, H⟩ := bindS H
      refine L.call [false] [] [0] 10 hF rfl rfl rfl ent221 rfl rfl rfl rfl rfl (Fspec_l1Byte_gives k  r5.2 r6 hr6) rfl ?_
      refine L.assign hF rfl rfl rfl ?_
      refine L.nil ?_
      refine WpC.seq ?_
      refine WpC.regionL ?_
      refine L.move hF rfl rfl rfl ?_
      obtain ⟨r7, hr7, H⟩ := bindS H
      refine L.call [false] [] [0] 14 hF rfl rfl rfl ent221 rfl rfl rfl rfl rfl (Fspec_l1Byte_gives k  r6.2 r7 hr7) rfl ?_
      refine L.assign hF rfl rfl rfl ?_
      refine L.nil ?_
      refine WpC.seq ?_
      refine WpC.regionL ?_
      refine L.move hF rfl rfl rfl ?_
      obtain ⟨r8, hr8, H⟩ := bindS H
      refine L.call [false] [] [0] 18 hF rfl rfl rfl ent221 rfl rfl rfl rfl rfl (Fspec_l1Byte_gives k  r7.2 r8 hr8) rfl ?_
      refine L.assign hF rfl rfl rfl ?_
      refine L.nil ?_
      refine WpC.seq ?_
      refine WpC.regionL ?_
      refine L.move hF rfl rfl rfl ?_
      refine L.bin hF rfl rfl rfl rfl rfl rfl ?_
      refine L.move hF rfl rfl rfl ?_
      refine L.bin hF rfl rfl rfl rfl rfl rfl ?_
      refine L.bin hF rfl rfl rfl rfl rfl rfl ?_
      refine L.move hF rfl rfl rfl ?_
      refine L.bin hF rfl rfl rfl rfl rfl rfl ?_
      refine L.bin hF rfl rfl rfl rfl rfl rfl ?_
      refine L.move hF rfl rfl rfl ?_
      refine L.bin hF rfl rfl rfl rfl rfl rfl ?_
      refine L.move hF rfl rfl rfl ?_
      obtain ⟨h9, H⟩ := condG H
      refine L.rem hF rfl rfl rfl rfl (by simpa using h9) ?_
      refine L.assign hF rfl rfl rfl ?_
      refine L.nil ?_
      refine WpC.ret ?_
      cases H
      exact Leaves.ret rfl rfl rfl ⟨rfl, rfl⟩
/-! ### Fspec_l1Once -/
def Fspec_l1Once (k : Nat) (a1 : Int) (o0 : Tspec_l1Cur) : Option (Bool × Tspec_l1Cur) := (Fspec_l1Below k a1 o0).bind fun r1 => some ((r1.1 == (0 : Int)), r1.2)
theorem ent125 : Enters Try.prog 125 := ⟨Try.f125, Try.func125, rfl, by decide⟩
set_option maxHeartbeats 8000000 in
set_option maxRecDepth 100000 in
theorem Fspec_l1Once_gives (k : Nat) (a1 : Int) (o0 : Tspec_l1Cur) (r : Bool × Tspec_l1Cur) (H : Fspec_l1Once k a1 o0 = some r) : Gives Try.prog 125 [V.one (Cell.ptr 0 0), V.one (cI a1)] [[Cell.sl true (List.map eB o0.b), cI o0.i, cI o0.h]] [V.one (cL r.1)] [[Cell.sl true (List.map eB r.2.b), cI r.2.i, cI r.2.h]] := by
  refine Gives.intro Try.func125 rfl rfl rfl rfl ?_
  intro F hF hm
  unfold Fspec_l1Once at H
  obtain ⟨K, hK⟩ : ∃ K, k ≤ K := ⟨k, Nat.le_refl k⟩
  refine WpC.seq ?_
  refine WpC.regionL ?_
  refine L.assign hF rfl rfl rfl ?_
  refine L.nil ?_
  refine WpC.seq ?_
  refine WpC.regionL ?_
  refine L.move hF rfl rfl rfl ?_
  refine L.move hF rfl rfl rfl ?_
  obtain ⟨r1, hr1, H⟩ := bindS H
  refine L.call [false, false] [] [0] 6 hF rfl rfl rfl ent132 rfl rfl rfl rfl rfl (Fspec_l1Below_gives k  a1 o0 r1 hr1) rfl ?_
  refine L.bin hF rfl rfl rfl rfl rfl rfl ?_
  refine L.assign hF rfl rfl rfl ?_
  refine L.nil ?_
  refine WpC.ret ?_
  cases H
  exact Leaves.ret rfl rfl rfl ⟨rfl, rfl⟩
/-! ### Fspec_l1PickInt -/
def Fspec_l1PickInt (k : Nat) (a1 : List Int) (o0 : Tspec_l1Cur) : Option (Int × Tspec_l1Cur) := (Fspec_l1Below k (a1.length : Int) o0).bind fun r1 => (at? a1 r1.1).bind fun b2 => some (b2, r1.2)
theorem ent133 : Enters Try.prog 133 := ⟨Try.f133, Try.func133, rfl, by decide⟩
set_option maxHeartbeats 8000000 in
set_option maxRecDepth 100000 in
theorem Fspec_l1PickInt_gives (k : Nat) (g0 : Bool) (a1 : List Int) (o0 : Tspec_l1Cur) (r : Int × Tspec_l1Cur) (H : Fspec_l1PickInt k a1 o0 = some r) : Gives Try.prog 133 [V.one (Cell.ptr 0 0), V.one (Cell.sl g0 (List.map eI a1))] [[Cell.sl true (List.map eB o0.b), cI o0.i, cI o0.h]] [V.one (cI r.1)] [[Cell.sl true (List.map eB r.2.b), cI r.2.i, cI r.2.h]] := by
  refine Gives.intro Try.func133 rfl rfl rfl rfl ?_
  intro F hF hm
  unfold Fspec_l1PickInt at H
  obtain ⟨K, hK⟩ : ∃ K, k ≤ K := ⟨k, Nat.le_refl k⟩
  refine WpC.seq ?_
  refine WpC.regionL ?_
  refine L.assign hF rfl rfl rfl ?_
  refine L.nil ?_
  refine WpC.seq ?_
  refine WpC.regionL ?_
  refine L.move hF rfl rfl rfl ?_
  refine L.move hF rfl rfl rfl ?_
  refine L.move hF rfl rfl rfl ?_
  refine L.lenR (xs := a1) (e := eI) Try.underlying24 hF rfl rfl rfl rfl ?_
  obtain ⟨r1, hr1, H⟩ := bindS H
  refine L.call [false, false] [] [0] 6 hF rfl rfl rfl ent132 rfl rfl rfl rfl rfl (Fspec_l1Below_gives k  (a1.length : Int) o0 r1 hr1) rfl ?_
  obtain ⟨b2, hb2, H⟩ := bindS H
  refine L.idxR (xs := a1) (e := eI) Try.underlying24 info3 hF rfl rfl rfl rfl rfl hb2 rfl rfl ?_
  refine L.loadPe shape3 hF rfl rfl rfl rfl rfl ?_
  refine L.assign hF rfl rfl rfl ?_
  refine L.nil ?_
  refine WpC.ret ?_
  cases H
  exact Leaves.ret rfl rfl rfl ⟨rfl, rfl⟩
/-! ### Fspec_l16Times -/
def Fspec_l16Times (k : Nat) (o0 : Tspec_l1Cur) : Option (Timpl_Times × Tspec_l1Cur) := (Fspec_l1Below k (20 : Int) o0).bind fun r1 => (Fspec_l1Below k (10 : Int) r1.2).bind fun r2 => (Fspec_l1Below k (30 : Int) r2.2).bind fun r3 => (Fspec_l1Below k (50 : Int) r3.2).bind fun r4 => (Fspec_l1Once k (10 : Int) r4.2).bind fun r11 => cond r11.1 ((Fspec_l1Below k (4 : Int) r11.2).bind fun r12 => cond (r12.1 == (0 : Int)) ((Fspec_l1PickInt k ([(-1 : Int), (90 : Int)] : List Int) r12.2).bind fun r13 => some ((⟨r13.1, (IntKind.i64.wrap (r1.1 + r2.1)), (IntKind.i64.wrap ((IntKind.i64.wrap (r1.1 + r2.1)) + r3.1)), (IntKind.i64.wrap ((IntKind.i64.wrap ((IntKind.i64.wrap (r1.1 + r2.1)) + r3.1)) + r4.1))⟩ : Timpl_Times), r13.2)) (cond (r12.1 == (1 : Int)) ((Fspec_l1Below k (60 : Int) r12.2).bind fun r14 => some ((⟨r1.1, r14.1, (IntKind.i64.wrap ((IntKind.i64.wrap (r1.1 + r2.1)) + r3.1)), (IntKind.i64.wrap ((IntKind.i64.wrap ((IntKind.i64.wrap (r1.1 + r2.1)) + r3.1)) + r4.1))⟩ : Timpl_Times), r14.2)) (cond (r12.1 == (2 : Int)) ((Fspec_l1Below k (60 : Int) r12.2).bind fun r15 => some ((⟨r1.1, (IntKind.i64.wrap (r1.1 + r2.1)), r15.1, (IntKind.i64.wrap ((IntKind.i64.wrap ((IntKind.i64.wrap (r1.1 + r2.1)) + r3.1)) + r4.1))⟩ : Timpl_Times), r15.2)) ((Fspec_l1PickInt k ([(100000 : Int), (100001 : Int), (0 : Int)] : List Int) r12.2).bind fun r16 => some ((⟨r1.1, (IntKind.i64.wrap (r1.1 + r2.1)), (IntKind.i64.wrap ((IntKind.i64.wrap (r1.1 + r2.1)) + r3.1)), r16.1⟩ : Timpl_Times), r16.2))))) (some ((⟨r1.1, (IntKind.i64.wrap (r1.1 + r2.1)), (IntKind.i64.wrap ((IntKind.i64.wrap (r1.1 + r2.1)) + r3.1)), (IntKind.i64.wrap ((IntKind.i64.wrap ((IntKind.i64.wrap (r1.1 + r2.1)) + r3.1)) + r4.1))⟩ : Timpl_Times), r11.2))
theorem ent138 : Enters Try.prog 138 := ⟨Try.f138, Try.func138, rfl, by decide⟩
set_option maxHeartbeats 8000000 in
set_option maxRecDepth 100000 in
theorem Fspec_l16Times_gives (k : Nat) (o0 : Tspec_l1Cur) (r : Timpl_Times × Tspec_l1Cur) (H : Fspec_l16Times k o0 = some r) : Gives Try.prog 138 [V.one (Cell.ptr 0 0)] [[Cell.sl true (List.map eB o0.b), cI o0.i, cI o0.h]] [V.agg [cI r.1.Auth, cI r.1.Start, cI r.1.End, cI r.1.Renew]] [[Cell.sl true (List.map eB r.2.b), cI r.2.i, cI r.2.h]] := by
  refine Gives.intro Try.func138 rfl rfl rfl rfl ?_
  intro F hF hm
  unfold Fspec_l16Times at H
  obtain ⟨K, hK⟩ : ∃ K, k ≤ K := ⟨k, Nat.le_refl k⟩
  refine WpC.seq ?_
  refine WpC.regionL ?_
  refine L.alloc 5 info65 rfl hF rfl rfl rfl rfl ?_
  refine L.nil ?_
  refine WpC.seq ?_
  refine WpC.regionL ?_
  refine L.move hF rfl rfl rfl ?_
  obtain ⟨r1, hr1, H⟩ := bindS H
  refine L.call [false, false] [] [0] 6 hF rfl rfl rfl ent132 rfl rfl rfl rfl rfl (Fspec_l1Below_gives k  (20 : Int) o0 r1 hr1) rfl ?_
  refine L.buildF built65 hF rfl rfl rfl rfl ?_
  refine L.alloc 10 info65 rfl hF rfl rfl rfl rfl ?_
  refine L.storePtr shape65 hF rfl rfl rfl rfl rfl rfl rfl ?_
  refine L.nil ?_
  refine WpC.seq ?_
  obtain ⟨r2, hr2, H⟩ := bindS H
  refine A.begin mixed rfl rfl ?_
  intro W hI hO
  have n127 : W 0 #[true, true, true, true, true, true, true] (mkSt [(0, one (Cell.ptr 0 0)), (2, one (Cell.ptr 1 0)), (3, one (Cell.ptr 2 0))] [] [(0, [Cell.sl true (List.map eB r2.2.b), cI r2.2.i, cI r2.2.h]), (1, [cI (0 : Int), cI (0 : Int), cI (0 : Int), cI (0 : Int)]), (2, [cI r1.1, cI (IntKind.i64.wrap (r1.1 + r2.1)), cI (0 : Int), cI (0 : Int)])] 3) := by
    refine hI _ _ _ (A.done (by kernel_rfl) ?_)
    refine WpC.seq ?_
    obtain ⟨r3, hr3, H⟩ := bindS H
    refine A.begin mixed rfl rfl ?_
    intro W hI hO
    have n127 : W 0 #[true, true, true, true, true, true, true] (mkSt [(0, one (Cell.ptr 0 0)), (2, one (Cell.ptr 1 0)), (3, one (Cell.ptr 2 0))] [] [(0, [Cell.sl true (List.map eB r3.2.b), cI r3.2.i, cI r3.2.h]), (1, [cI (0 : Int), cI (0 : Int), cI (0 : Int), cI (0 : Int)]), (2, [cI r1.1, cI (IntKind.i64.wrap (r1.1 + r2.1)), cI (IntKind.i64.wrap ((IntKind.i64.wrap (r1.1 + r2.1)) + r3.1)), cI (0 : Int)])] 3) := by
      refine hI _ _ _ (A.done (by kernel_rfl) ?_)
      refine WpC.seq ?_
      obtain ⟨r4, hr4, H⟩ := bindS H
      refine A.begin mixed rfl rfl ?_
      intro W hI hO
      have n127 : W 0 #[true, true, true, true, true, true, true] (mkSt [(0, one (Cell.ptr 0 0)), (2, one (Cell.ptr 1 0)), (3, one (Cell.ptr 2 0))] [] [(0, [Cell.sl true (List.map eB r4.2.b), cI r4.2.i, cI r4.2.h]), (1, [cI (0 : Int), cI (0 : Int), cI (0 : Int), cI (0 : Int)]), (2, [cI r1.1, cI (IntKind.i64.wrap (r1.1 + r2.1)), cI (IntKind.i64.wrap ((IntKind.i64.wrap (r1.1 + r2.1)) + r3.1)), cI (IntKind.i64.wrap ((IntKind.i64.wrap ((IntKind.i64.wrap (r1.1 + r2.1)) + r3.1)) + r4.1))])] 3) := by
        refine hI _ _ _ (A.done (by kernel_rfl) ?_)
        refine WpC.seq ?_
        refine WpC.seq ?_
        refine WpC.regionL ?_
        refine L.move hF rfl rfl rfl ?_
        obtain ⟨r11, hr11, H⟩ := bindS H
        refine L.call [false, false] [] [0] 3 hF rfl rfl rfl ent125 rfl rfl rfl rfl rfl (Fspec_l1Once_gives k  (10 : Int) r4.2 r11 hr11) rfl ?_
        refine L.nil ?_
        refine WpC.cond rfl (fun hc => ?_) (fun hc => ?_)
        · replace H := condT hc H
          refine WpC.seq ?_
          refine WpC.regionL ?_
          refine L.move hF rfl rfl rfl ?_
          obtain ⟨r12, hr12, H⟩ := bindS H
          refine L.call [false, false] [] [0] 7 hF rfl rfl rfl ent132 rfl rfl rfl rfl rfl (Fspec_l1Below_gives k  (4 : Int) r11.2 r12 hr12) rfl ?_
          refine L.nil ?_
          refine WpC.block ?_
          refine WpC.seq ?_
          refine WpC.regionL ?_
          refine L.bin hF rfl rfl rfl rfl rfl rfl ?_
          refine L.assign hF rfl rfl rfl ?_
          refine L.nil ?_
          refine WpC.cond rfl (fun hc => ?_) (fun hc => ?_)
          · replace H := condT hc H
            refine WpC.regionL ?_
            refine L.move hF rfl rfl rfl ?_
            refine L.buildSlice (e := eI) 11 ([(-1 : Int), (90 : Int)] : List Int) Try.underlying24 info3 rfl rfl rfl hF rfl rfl rfl rfl rfl rfl rfl rfl ?_
            obtain ⟨r13, hr13, H⟩ := bindS H
            refine L.call [false, false] [11] [0] 12 hF rfl rfl rfl ent133 rfl rfl rfl rfl rfl (Fspec_l1PickInt_gives k false ([(-1 : Int), (90 : Int)] : List Int) r12.2 r13 hr13) rfl ?_
            refine L.fieldAddr Try.underlying65 rfl info3 rfl hF rfl rfl rfl rfl rfl ?_
            refine L.storePtr shape3 hF rfl rfl rfl rfl rfl rfl rfl ?_
            refine L.nil ?_
            refine WpC.seq ?_
            refine WpC.regionL ?_
            refine L.loadPtr shape65 hF rfl rfl rfl rfl rfl rfl ?_
            refine L.storePtr shape65 hF rfl rfl rfl rfl rfl rfl rfl ?_
            refine L.nil ?_
            refine WpC.ret ?_
            cases H
            exact Leaves.ret rfl rfl rfl ⟨rfl, rfl⟩
          · replace H := condF hc H
            refine WpC.seq ?_
            refine WpC.regionL ?_
            refine L.bin hF rfl rfl rfl rfl rfl rfl ?_
            refine L.assign hF rfl rfl rfl ?_
            refine L.nil ?_
            refine WpC.cond rfl (fun hc => ?_) (fun hc => ?_)
            · replace H := condT hc H
              refine WpC.regionL ?_
              refine L.move hF rfl rfl rfl ?_
              obtain ⟨r14, hr14, H⟩ := bindS H
              refine L.call [false, false] [] [0] 11 hF rfl rfl rfl ent132 rfl rfl rfl rfl rfl (Fspec_l1Below_gives k  (60 : Int) r12.2 r14 hr14) rfl ?_
              refine L.fieldAddr Try.underlying65 rfl info3 rfl hF rfl rfl rfl rfl rfl ?_
              refine L.storePtr shape3 hF rfl rfl rfl rfl rfl rfl rfl ?_
              refine L.nil ?_
              refine WpC.seq ?_
              refine WpC.regionL ?_
              refine L.loadPtr shape65 hF rfl rfl rfl rfl rfl rfl ?_
              refine L.storePtr shape65 hF rfl rfl rfl rfl rfl rfl rfl ?_
              refine L.nil ?_
              refine WpC.ret ?_
              cases H
              exact Leaves.ret rfl rfl rfl ⟨rfl, rfl⟩
            · replace H := condF hc H
              refine WpC.seq ?_
              refine WpC.regionL ?_
              refine L.bin hF rfl rfl rfl rfl rfl rfl ?_
              refine L.assign hF rfl rfl rfl ?_
              refine L.nil ?_
              refine WpC.cond rfl (fun hc => ?_) (fun hc => ?_)
              · replace H := condT hc H
                refine WpC.regionL ?_
                refine L.move hF rfl rfl rfl ?_
                obtain ⟨r15, hr15, H⟩ := bindS H
                refine L.call [false, false] [] [0] 11 hF rfl rfl rfl ent132 rfl rfl rfl rfl rfl (Fspec_l1Below_gives k  (60 : Int) r12.2 r15 hr15) rfl ?_
                refine L.fieldAddr Try.underlying65 rfl info3 rfl hF rfl rfl rfl rfl rfl ?_
                refine L.storePtr shape3 hF rfl rfl rfl rfl rfl rfl rfl ?_
                refine L.nil ?_
                refine WpC.seq ?_
                refine WpC.regionL ?_
                refine L.loadPtr shape65 hF rfl rfl rfl rfl rfl rfl ?_
                refine L.storePtr shape65 hF rfl rfl rfl rfl rfl rfl rfl ?_
                refine L.nil ?_
                refine WpC.ret ?_
                cases H
                exact Leaves.ret rfl rfl rfl ⟨rfl, rfl⟩
              · replace H := condF hc H
                refine WpC.regionL ?_
                refine L.move hF rfl rfl rfl ?_
                refine L.buildSlice (e := eI) 11 ([(100000 : Int), (100001 : Int), (0 : Int)] : List Int) Try.underlying24 info3 rfl rfl rfl hF rfl rfl rfl rfl rfl rfl rfl rfl ?_
                obtain ⟨r16, hr16, H⟩ := bindS H
                refine L.call [false, false] [11] [0] 12 hF rfl rfl rfl ent133 rfl rfl rfl rfl rfl (Fspec_l1PickInt_gives k false ([(100000 : Int), (100001 : Int), (0 : Int)] : List Int) r12.2 r16 hr16) rfl ?_
                refine L.fieldAddr Try.underlying65 rfl info3 rfl hF rfl rfl rfl rfl rfl ?_
                refine L.storePtr shape3 hF rfl rfl rfl rfl rfl rfl rfl ?_
                refine L.nil ?_
                refine WpC.seq ?_
                refine WpC.regionL ?_
                refine L.loadPtr shape65 hF rfl rfl rfl rfl rfl rfl ?_
                refine L.storePtr shape65 hF rfl rfl rfl rfl rfl rfl rfl ?_
                refine L.nil ?_
                refine WpC.ret ?_
                cases H
                exact Leaves.ret rfl rfl rfl ⟨rfl, rfl⟩
        · replace H := condF hc H
          refine WpC.skip ?_
          refine WpC.seq ?_
          refine WpC.regionL ?_
          refine L.loadPtr shape65 hF rfl rfl rfl rfl rfl rfl ?_
          refine L.storePtr shape65 hF rfl rfl rfl rfl rfl rfl rfl ?_
          refine L.nil ?_
          refine WpC.ret ?_
          cases H
          exact Leaves.ret rfl rfl rfl ⟨rfl, rfl⟩
      have n63 : W 1 #[true, true, true, true, true, true, false] (mkSt [(0, one (Cell.ptr 0 0)), (2, one (Cell.ptr 1 0)), (3, one (Cell.ptr 2 0)), (23, one (cI (IntKind.i64.wrap ((IntKind.i64.wrap ((IntKind.i64.wrap (r1.1 + r2.1)) + r3.1)) + r4.1)))), (24, one (Cell.ptr 2 3))] [] [(0, [Cell.sl true (List.map eB r4.2.b), cI r4.2.i, cI r4.2.h]), (1, [cI (0 : Int), cI (0 : Int), cI (0 : Int), cI (0 : Int)]), (2, [cI r1.1, cI (IntKind.i64.wrap (r1.1 + r2.1)), cI (IntKind.i64.wrap ((IntKind.i64.wrap (r1.1 + r2.1)) + r3.1)), cI (0 : Int)])] 3) := by
        refine hI _ _ _ ?_
        refine A.all [6] (by kernel_rfl) rfl ⟨⟨_, rfl, ?_⟩, trivial⟩
        · refine L.storePtr shape3 hF rfl rfl rfl rfl rfl rfl rfl ?_
          refine L.nil ?_
          exact A.on (hO _ _ _ n127) (Le.mk [(0, 0), (1, 1), (2, 2)] hm rfl ⟨⟨_, rfl, rfl⟩, ⟨_, rfl, rfl⟩, ⟨_, rfl, rfl⟩, trivial⟩ trivial ⟨⟨_, _, rfl, rfl, rfl⟩, ⟨_, _, rfl, rfl, rfl⟩, ⟨_, _, rfl, rfl, rfl⟩, trivial⟩)
      have n31 : W 2 #[true, true, true, true, true, false, false] (mkSt [(0, one (Cell.ptr 0 0)), (2, one (Cell.ptr 1 0)), (3, one (Cell.ptr 2 0)), (23, one (cI (IntKind.i64.wrap ((IntKind.i64.wrap ((IntKind.i64.wrap (r1.1 + r2.1)) + r3.1)) + r4.1))))] [] [(0, [Cell.sl true (List.map eB r4.2.b), cI r4.2.i, cI r4.2.h]), (1, [cI (0 : Int), cI (0 : Int), cI (0 : Int), cI (0 : Int)]), (2, [cI r1.1, cI (IntKind.i64.wrap (r1.1 + r2.1)), cI (IntKind.i64.wrap ((IntKind.i64.wrap (r1.1 + r2.1)) + r3.1)), cI (0 : Int)])] 3) := by
        refine hI _ _ _ ?_
        refine A.take 5 rfl (by kernel_rfl) (by kernel_rfl) (by kernel_rfl) rfl (Ca.fieldAddr Try.underlying65 rfl info3 rfl) (fun Q0 k0 => L.fieldAddr Try.underlying65 rfl info3 rfl hF rfl rfl rfl rfl rfl (L.nil k0)) ?_
        exact A.on (hO _ _ _ n63) (Le.mk [(0, 0), (1, 1), (2, 2)] hm rfl ⟨⟨_, rfl, rfl⟩, ⟨_, rfl, rfl⟩, ⟨_, rfl, rfl⟩, ⟨_, rfl, rfl⟩, ⟨_, rfl, rfl⟩, trivial⟩ trivial ⟨⟨_, _, rfl, rfl, rfl⟩, ⟨_, _, rfl, rfl, rfl⟩, ⟨_, _, rfl, rfl, rfl⟩, trivial⟩)
      have n15 : W 3 #[true, true, true, true, false, false, false] (mkSt [(0, one (Cell.ptr 0 0)), (2, one (Cell.ptr 1 0)), (3, one (Cell.ptr 2 0)), (20, one (cI (IntKind.i64.wrap ((IntKind.i64.wrap (r1.1 + r2.1)) + r3.1)))), (22, one (cI r4.1))] [] [(0, [Cell.sl true (List.map eB r4.2.b), cI r4.2.i, cI r4.2.h]), (1, [cI (0 : Int), cI (0 : Int), cI (0 : Int), cI (0 : Int)]), (2, [cI r1.1, cI (IntKind.i64.wrap (r1.1 + r2.1)), cI (IntKind.i64.wrap ((IntKind.i64.wrap (r1.1 + r2.1)) + r3.1)), cI (0 : Int)])] 3) := by
        refine hI _ _ _ ?_
        refine A.take 4 rfl (by kernel_rfl) (by kernel_rfl) (by kernel_rfl) rfl (Ca.bin rfl rfl (calm_int _ _ _ _ _ _ _ _)) (fun Q0 k0 => L.bin hF rfl rfl rfl rfl rfl rfl (L.nil k0)) ?_
        exact A.on (hO _ _ _ n31) (Le.mk [(0, 0), (1, 1), (2, 2)] hm rfl ⟨⟨_, rfl, rfl⟩, ⟨_, rfl, rfl⟩, ⟨_, rfl, rfl⟩, ⟨_, rfl, rfl⟩, trivial⟩ trivial ⟨⟨_, _, rfl, rfl, rfl⟩, ⟨_, _, rfl, rfl, rfl⟩, ⟨_, _, rfl, rfl, rfl⟩, trivial⟩)
      have n7 : W 4 #[true, true, true, false, false, false, false] (mkSt [(0, one (Cell.ptr 0 0)), (2, one (Cell.ptr 1 0)), (3, one (Cell.ptr 2 0)), (20, one (cI (IntKind.i64.wrap ((IntKind.i64.wrap (r1.1 + r2.1)) + r3.1)))), (21, one (Cell.ptr 0 0))] [] [(0, [Cell.sl true (List.map eB r3.2.b), cI r3.2.i, cI r3.2.h]), (1, [cI (0 : Int), cI (0 : Int), cI (0 : Int), cI (0 : Int)]), (2, [cI r1.1, cI (IntKind.i64.wrap (r1.1 + r2.1)), cI (IntKind.i64.wrap ((IntKind.i64.wrap (r1.1 + r2.1)) + r3.1)), cI (0 : Int)])] 3) := by
        refine hI _ _ _ ?_
        refine A.all [3] (by kernel_rfl) rfl ⟨⟨_, rfl, ?_⟩, trivial⟩
        · refine L.call [false, false] [] [0] 3 hF rfl rfl rfl ent132 rfl rfl rfl rfl rfl (Fspec_l1Below_gives k  (50 : Int) r3.2 r4 hr4) rfl ?_
          refine L.nil ?_
          exact A.on (hO _ _ _ n15) (Le.mk [(0, 0), (1, 1), (2, 2)] hm rfl ⟨⟨_, rfl, rfl⟩, ⟨_, rfl, rfl⟩, ⟨_, rfl, rfl⟩, ⟨_, rfl, rfl⟩, ⟨_, rfl, rfl⟩, trivial⟩ trivial ⟨⟨_, _, rfl, rfl, rfl⟩, ⟨_, _, rfl, rfl, rfl⟩, ⟨_, _, rfl, rfl, rfl⟩, trivial⟩)
      have n13 : W 4 #[true, false, true, true, false, false, false] (mkSt [(0, one (Cell.ptr 0 0)), (2, one (Cell.ptr 1 0)), (3, one (Cell.ptr 2 0)), (19, one (Cell.ptr 2 2)), (22, one (cI r4.1))] [] [(0, [Cell.sl true (List.map eB r4.2.b), cI r4.2.i, cI r4.2.h]), (1, [cI (0 : Int), cI (0 : Int), cI (0 : Int), cI (0 : Int)]), (2, [cI r1.1, cI (IntKind.i64.wrap (r1.1 + r2.1)), cI (IntKind.i64.wrap ((IntKind.i64.wrap (r1.1 + r2.1)) + r3.1)), cI (0 : Int)])] 3) := by
        refine hI _ _ _ ?_
        refine A.all [1] (by kernel_rfl) rfl ⟨⟨_, rfl, ?_⟩, trivial⟩
        · refine L.loadPtr shape3 hF rfl rfl rfl rfl rfl rfl ?_
          refine L.nil ?_
          exact A.on (hO _ _ _ n15) (Le.mk [(0, 0), (1, 1), (2, 2)] hm rfl ⟨⟨_, rfl, rfl⟩, ⟨_, rfl, rfl⟩, ⟨_, rfl, rfl⟩, ⟨_, rfl, rfl⟩, ⟨_, rfl, rfl⟩, trivial⟩ trivial ⟨⟨_, _, rfl, rfl, rfl⟩, ⟨_, _, rfl, rfl, rfl⟩, ⟨_, _, rfl, rfl, rfl⟩, trivial⟩)
      have n5 : W 5 #[true, false, true, false, false, false, false] (mkSt [(0, one (Cell.ptr 0 0)), (2, one (Cell.ptr 1 0)), (3, one (Cell.ptr 2 0)), (19, one (Cell.ptr 2 2)), (21, one (Cell.ptr 0 0))] [] [(0, [Cell.sl true (List.map eB r3.2.b), cI r3.2.i, cI r3.2.h]), (1, [cI (0 : Int), cI (0 : Int), cI (0 : Int), cI (0 : Int)]), (2, [cI r1.1, cI (IntKind.i64.wrap (r1.1 + r2.1)), cI (IntKind.i64.wrap ((IntKind.i64.wrap (r1.1 + r2.1)) + r3.1)), cI (0 : Int)])] 3) := by
        refine hI _ _ _ ?_
        refine A.all [1, 3] (by kernel_rfl) rfl ⟨⟨_, rfl, ?_⟩, ⟨_, rfl, ?_⟩, trivial⟩
        · refine L.loadPtr shape3 hF rfl rfl rfl rfl rfl rfl ?_
          refine L.nil ?_
          exact A.on (hO _ _ _ n7) (Le.mk [(0, 0), (1, 1), (2, 2)] hm rfl ⟨⟨_, rfl, rfl⟩, ⟨_, rfl, rfl⟩, ⟨_, rfl, rfl⟩, ⟨_, rfl, rfl⟩, ⟨_, rfl, rfl⟩, trivial⟩ trivial ⟨⟨_, _, rfl, rfl, rfl⟩, ⟨_, _, rfl, rfl, rfl⟩, ⟨_, _, rfl, rfl, rfl⟩, trivial⟩)
        · refine L.call [false, false] [] [0] 3 hF rfl rfl rfl ent132 rfl rfl rfl rfl rfl (Fspec_l1Below_gives k  (50 : Int) r3.2 r4 hr4) rfl ?_
          refine L.nil ?_
          exact A.on (hO _ _ _ n13) (Le.mk [(0, 0), (1, 1), (2, 2)] hm rfl ⟨⟨_, rfl, rfl⟩, ⟨_, rfl, rfl⟩, ⟨_, rfl, rfl⟩, ⟨_, rfl, rfl⟩, ⟨_, rfl, rfl⟩, trivial⟩ trivial ⟨⟨_, _, rfl, rfl, rfl⟩, ⟨_, _, rfl, rfl, rfl⟩, ⟨_, _, rfl, rfl, rfl⟩, trivial⟩)
      have n1 : W 6 #[true, false, false, false, false, false, false] (mkSt [(0, one (Cell.ptr 0 0)), (2, one (Cell.ptr 1 0)), (3, one (Cell.ptr 2 0)), (19, one (Cell.ptr 2 2))] [] [(0, [Cell.sl true (List.map eB r3.2.b), cI r3.2.i, cI r3.2.h]), (1, [cI (0 : Int), cI (0 : Int), cI (0 : Int), cI (0 : Int)]), (2, [cI r1.1, cI (IntKind.i64.wrap (r1.1 + r2.1)), cI (IntKind.i64.wrap ((IntKind.i64.wrap (r1.1 + r2.1)) + r3.1)), cI (0 : Int)])] 3) := by
        refine hI _ _ _ ?_
        refine A.take 2 rfl (by kernel_rfl) (by kernel_rfl) (by kernel_rfl) rfl (Ca.move) (fun Q0 k0 => L.move hF rfl rfl rfl (L.nil k0)) ?_
        exact A.on (hO _ _ _ n5) (Le.mk [(0, 0), (1, 1), (2, 2)] hm rfl ⟨⟨_, rfl, rfl⟩, ⟨_, rfl, rfl⟩, ⟨_, rfl, rfl⟩, ⟨_, rfl, rfl⟩, ⟨_, rfl, rfl⟩, trivial⟩ trivial ⟨⟨_, _, rfl, rfl, rfl⟩, ⟨_, _, rfl, rfl, rfl⟩, ⟨_, _, rfl, rfl, rfl⟩, trivial⟩)
      have n0 : W 7 #[false, false, false, false, false, false, false] (mkSt [(0, one (Cell.ptr 0 0)), (2, one (Cell.ptr 1 0)), (3, one (Cell.ptr 2 0))] [] [(0, [Cell.sl true (List.map eB r3.2.b), cI r3.2.i, cI r3.2.h]), (1, [cI (0 : Int), cI (0 : Int), cI (0 : Int), cI (0 : Int)]), (2, [cI r1.1, cI (IntKind.i64.wrap (r1.1 + r2.1)), cI (IntKind.i64.wrap ((IntKind.i64.wrap (r1.1 + r2.1)) + r3.1)), cI (0 : Int)])] 3) := by
        refine hI _ _ _ ?_
        refine A.take 0 rfl (by kernel_rfl) (by kernel_rfl) (by kernel_rfl) rfl (Ca.fieldAddr Try.underlying65 rfl info3 rfl) (fun Q0 k0 => L.fieldAddr Try.underlying65 rfl info3 rfl hF rfl rfl rfl rfl rfl (L.nil k0)) ?_
        exact A.on (hO _ _ _ n1) (Le.mk [(0, 0), (1, 1), (2, 2)] hm rfl ⟨⟨_, rfl, rfl⟩, ⟨_, rfl, rfl⟩, ⟨_, rfl, rfl⟩, ⟨_, rfl, rfl⟩, trivial⟩ trivial ⟨⟨_, _, rfl, rfl, rfl⟩, ⟨_, _, rfl, rfl, rfl⟩, ⟨_, _, rfl, rfl, rfl⟩, trivial⟩)
      exact hI _ _ _ (A.on (hO _ _ _ n0) (Le.mk [(0, 0), (1, 1), (2, 2)] hm rfl ⟨⟨_, rfl, rfl⟩, ⟨_, rfl, rfl⟩, ⟨_, rfl, rfl⟩, trivial⟩ trivial ⟨⟨_, _, rfl, rfl, rfl⟩, ⟨_, _, rfl, rfl, rfl⟩, ⟨_, _, rfl, rfl, rfl⟩, trivial⟩))
    have n63 : W 1 #[true, true, true, true, true, true, false] (mkSt [(0, one (Cell.ptr 0 0)), (2, one (Cell.ptr 1 0)), (3, one (Cell.ptr 2 0)), (17, one (cI (IntKind.i64.wrap ((IntKind.i64.wrap (r1.1 + r2.1)) + r3.1)))), (18, one (Cell.ptr 2 2))] [] [(0, [Cell.sl true (List.map eB r3.2.b), cI r3.2.i, cI r3.2.h]), (1, [cI (0 : Int), cI (0 : Int), cI (0 : Int), cI (0 : Int)]), (2, [cI r1.1, cI (IntKind.i64.wrap (r1.1 + r2.1)), cI (0 : Int), cI (0 : Int)])] 3) := by
      refine hI _ _ _ ?_
      refine A.all [6] (by kernel_rfl) rfl ⟨⟨_, rfl, ?_⟩, trivial⟩
      · refine L.storePtr shape3 hF rfl rfl rfl rfl rfl rfl rfl ?_
        refine L.nil ?_
        exact A.on (hO _ _ _ n127) (Le.mk [(0, 0), (1, 1), (2, 2)] hm rfl ⟨⟨_, rfl, rfl⟩, ⟨_, rfl, rfl⟩, ⟨_, rfl, rfl⟩, trivial⟩ trivial ⟨⟨_, _, rfl, rfl, rfl⟩, ⟨_, _, rfl, rfl, rfl⟩, ⟨_, _, rfl, rfl, rfl⟩, trivial⟩)
    have n31 : W 2 #[true, true, true, true, true, false, false] (mkSt [(0, one (Cell.ptr 0 0)), (2, one (Cell.ptr 1 0)), (3, one (Cell.ptr 2 0)), (17, one (cI (IntKind.i64.wrap ((IntKind.i64.wrap (r1.1 + r2.1)) + r3.1))))] [] [(0, [Cell.sl true (List.map eB r3.2.b), cI r3.2.i, cI r3.2.h]), (1, [cI (0 : Int), cI (0 : Int), cI (0 : Int), cI (0 : Int)]), (2, [cI r1.1, cI (IntKind.i64.wrap (r1.1 + r2.1)), cI (0 : Int), cI (0 : Int)])] 3) := by
      refine hI _ _ _ ?_
      refine A.take 5 rfl (by kernel_rfl) (by kernel_rfl) (by kernel_rfl) rfl (Ca.fieldAddr Try.underlying65 rfl info3 rfl) (fun Q0 k0 => L.fieldAddr Try.underlying65 rfl info3 rfl hF rfl rfl rfl rfl rfl (L.nil k0)) ?_
      exact A.on (hO _ _ _ n63) (Le.mk [(0, 0), (1, 1), (2, 2)] hm rfl ⟨⟨_, rfl, rfl⟩, ⟨_, rfl, rfl⟩, ⟨_, rfl, rfl⟩, ⟨_, rfl, rfl⟩, ⟨_, rfl, rfl⟩, trivial⟩ trivial ⟨⟨_, _, rfl, rfl, rfl⟩, ⟨_, _, rfl, rfl, rfl⟩, ⟨_, _, rfl, rfl, rfl⟩, trivial⟩)
    have n15 : W 3 #[true, true, true, true, false, false, false] (mkSt [(0, one (Cell.ptr 0 0)), (2, one (Cell.ptr 1 0)), (3, one (Cell.ptr 2 0)), (14, one (cI (IntKind.i64.wrap (r1.1 + r2.1)))), (16, one (cI r3.1))] [] [(0, [Cell.sl true (List.map eB r3.2.b), cI r3.2.i, cI r3.2.h]), (1, [cI (0 : Int), cI (0 : Int), cI (0 : Int), cI (0 : Int)]), (2, [cI r1.1, cI (IntKind.i64.wrap (r1.1 + r2.1)), cI (0 : Int), cI (0 : Int)])] 3) := by
      refine hI _ _ _ ?_
      refine A.take 4 rfl (by kernel_rfl) (by kernel_rfl) (by kernel_rfl) rfl (Ca.bin rfl rfl (calm_int _ _ _ _ _ _ _ _)) (fun Q0 k0 => L.bin hF rfl rfl rfl rfl rfl rfl (L.nil k0)) ?_
      exact A.on (hO _ _ _ n31) (Le.mk [(0, 0), (1, 1), (2, 2)] hm rfl ⟨⟨_, rfl, rfl⟩, ⟨_, rfl, rfl⟩, ⟨_, rfl, rfl⟩, ⟨_, rfl, rfl⟩, trivial⟩ trivial ⟨⟨_, _, rfl, rfl, rfl⟩, ⟨_, _, rfl, rfl, rfl⟩, ⟨_, _, rfl, rfl, rfl⟩, trivial⟩)
    have n7 : W 4 #[true, true, true, false, false, false, false] (mkSt [(0, one (Cell.ptr 0 0)), (2, one (Cell.ptr 1 0)), (3, one (Cell.ptr 2 0)), (14, one (cI (IntKind.i64.wrap (r1.1 + r2.1)))), (15, one (Cell.ptr 0 0))] [] [(0, [Cell.sl true (List.map eB r2.2.b), cI r2.2.i, cI r2.2.h]), (1, [cI (0 : Int), cI (0 : Int), cI (0 : Int), cI (0 : Int)]), (2, [cI r1.1, cI (IntKind.i64.wrap (r1.1 + r2.1)), cI (0 : Int), cI (0 : Int)])] 3) := by
      refine hI _ _ _ ?_
      refine A.all [3] (by kernel_rfl) rfl ⟨⟨_, rfl, ?_⟩, trivial⟩
      · refine L.call [false, false] [] [0] 3 hF rfl rfl rfl ent132 rfl rfl rfl rfl rfl (Fspec_l1Below_gives k  (30 : Int) r2.2 r3 hr3) rfl ?_
        refine L.nil ?_
        exact A.on (hO _ _ _ n15) (Le.mk [(0, 0), (1, 1), (2, 2)] hm rfl ⟨⟨_, rfl, rfl⟩, ⟨_, rfl, rfl⟩, ⟨_, rfl, rfl⟩, ⟨_, rfl, rfl⟩, ⟨_, rfl, rfl⟩, trivial⟩ trivial ⟨⟨_, _, rfl, rfl, rfl⟩, ⟨_, _, rfl, rfl, rfl⟩, ⟨_, _, rfl, rfl, rfl⟩, trivial⟩)
    have n13 : W 4 #[true, false, true, true, false, false, false] (mkSt [(0, one (Cell.ptr 0 0)), (2, one (Cell.ptr 1 0)), (3, one (Cell.ptr 2 0)), (13, one (Cell.ptr 2 1)), (16, one (cI r3.1))] [] [(0, [Cell.sl true (List.map eB r3.2.b), cI r3.2.i, cI r3.2.h]), (1, [cI (0 : Int), cI (0 : Int), cI (0 : Int), cI (0 : Int)]), (2, [cI r1.1, cI (IntKind.i64.wrap (r1.1 + r2.1)), cI (0 : Int), cI (0 : Int)])] 3) := by
      refine hI _ _ _ ?_
      refine A.all [1] (by kernel_rfl) rfl ⟨⟨_, rfl, ?_⟩, trivial⟩
      · refine L.loadPtr shape3 hF rfl rfl rfl rfl rfl rfl ?_
        refine L.nil ?_
        exact A.on (hO _ _ _ n15) (Le.mk [(0, 0), (1, 1), (2, 2)] hm rfl ⟨⟨_, rfl, rfl⟩, ⟨_, rfl, rfl⟩, ⟨_, rfl, rfl⟩, ⟨_, rfl, rfl⟩, ⟨_, rfl, rfl⟩, trivial⟩ trivial ⟨⟨_, _, rfl, rfl, rfl⟩, ⟨_, _, rfl, rfl, rfl⟩, ⟨_, _, rfl, rfl, rfl⟩, trivial⟩)
    have n5 : W 5 #[true, false, true, false, false, false, false] (mkSt [(0, one (Cell.ptr 0 0)), (2, one (Cell.ptr 1 0)), (3, one (Cell.ptr 2 0)), (13, one (Cell.ptr 2 1)), (15, one (Cell.ptr 0 0))] [] [(0, [Cell.sl true (List.map eB r2.2.b), cI r2.2.i, cI r2.2.h]), (1, [cI (0 : Int), cI (0 : Int), cI (0 : Int), cI (0 : Int)]), (2, [cI r1.1, cI (IntKind.i64.wrap (r1.1 + r2.1)), cI (0 : Int), cI (0 : Int)])] 3) := by
      refine hI _ _ _ ?_
      refine A.all [1, 3] (by kernel_rfl) rfl ⟨⟨_, rfl, ?_⟩, ⟨_, rfl, ?_⟩, trivial⟩
      · refine L.loadPtr shape3 hF rfl rfl rfl rfl rfl rfl ?_
        refine L.nil ?_
        exact A.on (hO _ _ _ n7) (Le.mk [(0, 0), (1, 1), (2, 2)] hm rfl ⟨⟨_, rfl, rfl⟩, ⟨_, rfl, rfl⟩, ⟨_, rfl, rfl⟩, ⟨_, rfl, rfl⟩, ⟨_, rfl, rfl⟩, trivial⟩ trivial ⟨⟨_, _, rfl, rfl, rfl⟩, ⟨_, _, rfl, rfl, rfl⟩, ⟨_, _, rfl, rfl, rfl⟩, trivial⟩)
      · refine L.call [false, false] [] [0] 3 hF rfl rfl rfl ent132 rfl rfl rfl rfl rfl (Fspec_l1Below_gives k  (30 : Int) r2.2 r3 hr3) rfl ?_
        refine L.nil ?_
        exact A.on (hO _ _ _ n13) (Le.mk [(0, 0), (1, 1), (2, 2)] hm rfl ⟨⟨_, rfl, rfl⟩, ⟨_, rfl, rfl⟩, ⟨_, rfl, rfl⟩, ⟨_, rfl, rfl⟩, ⟨_, rfl, rfl⟩, trivial⟩ trivial ⟨⟨_, _, rfl, rfl, rfl⟩, ⟨_, _, rfl, rfl, rfl⟩, ⟨_, _, rfl, rfl, rfl⟩, trivial⟩)
    have n1 : W 6 #[true, false, false, false, false, false, false] (mkSt [(0, one (Cell.ptr 0 0)), (2, one (Cell.ptr 1 0)), (3, one (Cell.ptr 2 0)), (13, one (Cell.ptr 2 1))] [] [(0, [Cell.sl true (List.map eB r2.2.b), cI r2.2.i, cI r2.2.h]), (1, [cI (0 : Int), cI (0 : Int), cI (0 : Int), cI (0 : Int)]), (2, [cI r1.1, cI (IntKind.i64.wrap (r1.1 + r2.1)), cI (0 : Int), cI (0 : Int)])] 3) := by
      refine hI _ _ _ ?_
      refine A.take 2 rfl (by kernel_rfl) (by kernel_rfl) (by kernel_rfl) rfl (Ca.move) (fun Q0 k0 => L.move hF rfl rfl rfl (L.nil k0)) ?_
      exact A.on (hO _ _ _ n5) (Le.mk [(0, 0), (1, 1), (2, 2)] hm rfl ⟨⟨_, rfl, rfl⟩, ⟨_, rfl, rfl⟩, ⟨_, rfl, rfl⟩, ⟨_, rfl, rfl⟩, ⟨_, rfl, rfl⟩, trivial⟩ trivial ⟨⟨_, _, rfl, rfl, rfl⟩, ⟨_, _, rfl, rfl, rfl⟩, ⟨_, _, rfl, rfl, rfl⟩, trivial⟩)
    have n0 : W 7 #[false, false, false, false, false, false, false] (mkSt [(0, one (Cell.ptr 0 0)), (2, one (Cell.ptr 1 0)), (3, one (Cell.ptr 2 0))] [] [(0, [Cell.sl true (List.map eB r2.2.b), cI r2.2.i, cI r2.2.h]), (1, [cI (0 : Int), cI (0 : Int), cI (0 : Int), cI (0 : Int)]), (2, [cI r1.1, cI (IntKind.i64.wrap (r1.1 + r2.1)), cI (0 : Int), cI (0 : Int)])] 3) := by
      refine hI _ _ _ ?_
      refine A.take 0 rfl (by kernel_rfl) (by kernel_rfl) (by kernel_rfl) rfl (Ca.fieldAddr Try.underlying65 rfl info3 rfl) (fun Q0 k0 => L.fieldAddr Try.underlying65 rfl info3 rfl hF rfl rfl rfl rfl rfl (L.nil k0)) ?_
      exact A.on (hO _ _ _ n1) (Le.mk [(0, 0), (1, 1), (2, 2)] hm rfl ⟨⟨_, rfl, rfl⟩, ⟨_, rfl, rfl⟩, ⟨_, rfl, rfl⟩, ⟨_, rfl, rfl⟩, trivial⟩ trivial ⟨⟨_, _, rfl, rfl, rfl⟩, ⟨_, _, rfl, rfl, rfl⟩, ⟨_, _, rfl, rfl, rfl⟩, trivial⟩)
    exact hI _ _ _ (A.on (hO _ _ _ n0) (Le.mk [(0, 0), (1, 1), (2, 2)] hm rfl ⟨⟨_, rfl, rfl⟩, ⟨_, rfl, rfl⟩, ⟨_, rfl, rfl⟩, trivial⟩ trivial ⟨⟨_, _, rfl, rfl, rfl⟩, ⟨_, _, rfl, rfl, rfl⟩, ⟨_, _, rfl, rfl, rfl⟩, trivial⟩))
  have n63 : W 1 #[true, true, true, true, true, true, false] (mkSt [(0, one (Cell.ptr 0 0)), (2, one (Cell.ptr 1 0)), (3, one (Cell.ptr 2 0)), (11, one (cI (IntKind.i64.wrap (r1.1 + r2.1)))), (12, one (Cell.ptr 2 1))] [] [(0, [Cell.sl true (List.map eB r2.2.b), cI r2.2.i, cI r2.2.h]), (1, [cI (0 : Int), cI (0 : Int), cI (0 : Int), cI (0 : Int)]), (2, [cI r1.1, cI (0 : Int), cI (0 : Int), cI (0 : Int)])] 3) := by
    refine hI _ _ _ ?_
    refine A.all [6] (by kernel_rfl) rfl ⟨⟨_, rfl, ?_⟩, trivial⟩
    · refine L.storePtr shape3 hF rfl rfl rfl rfl rfl rfl rfl ?_
      refine L.nil ?_
      exact A.on (hO _ _ _ n127) (Le.mk [(0, 0), (1, 1), (2, 2)] hm rfl ⟨⟨_, rfl, rfl⟩, ⟨_, rfl, rfl⟩, ⟨_, rfl, rfl⟩, trivial⟩ trivial ⟨⟨_, _, rfl, rfl, rfl⟩, ⟨_, _, rfl, rfl, rfl⟩, ⟨_, _, rfl, rfl, rfl⟩, trivial⟩)
  have n31 : W 2 #[true, true, true, true, true, false, false] (mkSt [(0, one (Cell.ptr 0 0)), (2, one (Cell.ptr 1 0)), (3, one (Cell.ptr 2 0)), (11, one (cI (IntKind.i64.wrap (r1.1 + r2.1))))] [] [(0, [Cell.sl true (List.map eB r2.2.b), cI r2.2.i, cI r2.2.h]), (1, [cI (0 : Int), cI (0 : Int), cI (0 : Int), cI (0 : Int)]), (2, [cI r1.1, cI (0 : Int), cI (0 : Int), cI (0 : Int)])] 3) := by
    refine hI _ _ _ ?_
    refine A.take 5 rfl (by kernel_rfl) (by kernel_rfl) (by kernel_rfl) rfl (Ca.fieldAddr Try.underlying65 rfl info3 rfl) (fun Q0 k0 => L.fieldAddr Try.underlying65 rfl info3 rfl hF rfl rfl rfl rfl rfl (L.nil k0)) ?_
    exact A.on (hO _ _ _ n63) (Le.mk [(0, 0), (1, 1), (2, 2)] hm rfl ⟨⟨_, rfl, rfl⟩, ⟨_, rfl, rfl⟩, ⟨_, rfl, rfl⟩, ⟨_, rfl, rfl⟩, ⟨_, rfl, rfl⟩, trivial⟩ trivial ⟨⟨_, _, rfl, rfl, rfl⟩, ⟨_, _, rfl, rfl, rfl⟩, ⟨_, _, rfl, rfl, rfl⟩, trivial⟩)
  have n15 : W 3 #[true, true, true, true, false, false, false] (mkSt [(0, one (Cell.ptr 0 0)), (2, one (Cell.ptr 1 0)), (3, one (Cell.ptr 2 0)), (8, one (cI r1.1)), (10, one (cI r2.1))] [] [(0, [Cell.sl true (List.map eB r2.2.b), cI r2.2.i, cI r2.2.h]), (1, [cI (0 : Int), cI (0 : Int), cI (0 : Int), cI (0 : Int)]), (2, [cI r1.1, cI (0 : Int), cI (0 : Int), cI (0 : Int)])] 3) := by
    refine hI _ _ _ ?_
    refine A.take 4 rfl (by kernel_rfl) (by kernel_rfl) (by kernel_rfl) rfl (Ca.bin rfl rfl (calm_int _ _ _ _ _ _ _ _)) (fun Q0 k0 => L.bin hF rfl rfl rfl rfl rfl rfl (L.nil k0)) ?_
    exact A.on (hO _ _ _ n31) (Le.mk [(0, 0), (1, 1), (2, 2)] hm rfl ⟨⟨_, rfl, rfl⟩, ⟨_, rfl, rfl⟩, ⟨_, rfl, rfl⟩, ⟨_, rfl, rfl⟩, trivial⟩ trivial ⟨⟨_, _, rfl, rfl, rfl⟩, ⟨_, _, rfl, rfl, rfl⟩, ⟨_, _, rfl, rfl, rfl⟩, trivial⟩)
  have n7 : W 4 #[true, true, true, false, false, false, false] (mkSt [(0, one (Cell.ptr 0 0)), (2, one (Cell.ptr 1 0)), (3, one (Cell.ptr 2 0)), (8, one (cI r1.1)), (9, one (Cell.ptr 0 0))] [] [(0, [Cell.sl true (List.map eB r1.2.b), cI r1.2.i, cI r1.2.h]), (1, [cI (0 : Int), cI (0 : Int), cI (0 : Int), cI (0 : Int)]), (2, [cI r1.1, cI (0 : Int), cI (0 : Int), cI (0 : Int)])] 3) := by
    refine hI _ _ _ ?_
    refine A.all [3] (by kernel_rfl) rfl ⟨⟨_, rfl, ?_⟩, trivial⟩
    · refine L.call [false, false] [] [0] 3 hF rfl rfl rfl ent132 rfl rfl rfl rfl rfl (Fspec_l1Below_gives k  (10 : Int) r1.2 r2 hr2) rfl ?_
      refine L.nil ?_
      exact A.on (hO _ _ _ n15) (Le.mk [(0, 0), (1, 1), (2, 2)] hm rfl ⟨⟨_, rfl, rfl⟩, ⟨_, rfl, rfl⟩, ⟨_, rfl, rfl⟩, ⟨_, rfl, rfl⟩, ⟨_, rfl, rfl⟩, trivial⟩ trivial ⟨⟨_, _, rfl, rfl, rfl⟩, ⟨_, _, rfl, rfl, rfl⟩, ⟨_, _, rfl, rfl, rfl⟩, trivial⟩)
  have n13 : W 4 #[true, false, true, true, false, false, false] (mkSt [(0, one (Cell.ptr 0 0)), (2, one (Cell.ptr 1 0)), (3, one (Cell.ptr 2 0)), (7, one (Cell.ptr 2 0)), (10, one (cI r2.1))] [] [(0, [Cell.sl true (List.map eB r2.2.b), cI r2.2.i, cI r2.2.h]), (1, [cI (0 : Int), cI (0 : Int), cI (0 : Int), cI (0 : Int)]), (2, [cI r1.1, cI (0 : Int), cI (0 : Int), cI (0 : Int)])] 3) := by
    refine hI _ _ _ ?_
    refine A.all [1] (by kernel_rfl) rfl ⟨⟨_, rfl, ?_⟩, trivial⟩
    · refine L.loadPtr shape3 hF rfl rfl rfl rfl rfl rfl ?_
      refine L.nil ?_
      exact A.on (hO _ _ _ n15) (Le.mk [(0, 0), (1, 1), (2, 2)] hm rfl ⟨⟨_, rfl, rfl⟩, ⟨_, rfl, rfl⟩, ⟨_, rfl, rfl⟩, ⟨_, rfl, rfl⟩, ⟨_, rfl, rfl⟩, trivial⟩ trivial ⟨⟨_, _, rfl, rfl, rfl⟩, ⟨_, _, rfl, rfl, rfl⟩, ⟨_, _, rfl, rfl, rfl⟩, trivial⟩)
  have n5 : W 5 #[true, false, true, false, false, false, false] (mkSt [(0, one (Cell.ptr 0 0)), (2, one (Cell.ptr 1 0)), (3, one (Cell.ptr 2 0)), (7, one (Cell.ptr 2 0)), (9, one (Cell.ptr 0 0))] [] [(0, [Cell.sl true (List.map eB r1.2.b), cI r1.2.i, cI r1.2.h]), (1, [cI (0 : Int), cI (0 : Int), cI (0 : Int), cI (0 : Int)]), (2, [cI r1.1, cI (0 : Int), cI (0 : Int), cI (0 : Int)])] 3) := by
    refine hI _ _ _ ?_
    refine A.all [1, 3] (by kernel_rfl) rfl ⟨⟨_, rfl, ?_⟩, ⟨_, rfl, ?_⟩, trivial⟩
    · refine L.loadPtr shape3 hF rfl rfl rfl rfl rfl rfl ?_
      refine L.nil ?_
      exact A.on (hO _ _ _ n7) (Le.mk [(0, 0), (1, 1), (2, 2)] hm rfl ⟨⟨_, rfl, rfl⟩, ⟨_, rfl, rfl⟩, ⟨_, rfl, rfl⟩, ⟨_, rfl, rfl⟩, ⟨_, rfl, rfl⟩, trivial⟩ trivial ⟨⟨_, _, rfl, rfl, rfl⟩, ⟨_, _, rfl, rfl, rfl⟩, ⟨_, _, rfl, rfl, rfl⟩, trivial⟩)
    · refine L.call [false, false] [] [0] 3 hF rfl rfl rfl ent132 rfl rfl rfl rfl rfl (Fspec_l1Below_gives k  (10 : Int) r1.2 r2 hr2) rfl ?_
      refine L.nil ?_
      exact A.on (hO _ _ _ n13) (Le.mk [(0, 0), (1, 1), (2, 2)] hm rfl ⟨⟨_, rfl, rfl⟩, ⟨_, rfl, rfl⟩, ⟨_, rfl, rfl⟩, ⟨_, rfl, rfl⟩, ⟨_, rfl, rfl⟩, trivial⟩ trivial ⟨⟨_, _, rfl, rfl, rfl⟩, ⟨_, _, rfl, rfl, rfl⟩, ⟨_, _, rfl, rfl, rfl⟩, trivial⟩)
  have n1 : W 6 #[true, false, false, false, false, false, false] (mkSt [(0, one (Cell.ptr 0 0)), (2, one (Cell.ptr 1 0)), (3, one (Cell.ptr 2 0)), (7, one (Cell.ptr 2 0))] [] [(0, [Cell.sl true (List.map eB r1.2.b), cI r1.2.i, cI r1.2.h]), (1, [cI (0 : Int), cI (0 : Int), cI (0 : Int), cI (0 : Int)]), (2, [cI r1.1, cI (0 : Int), cI (0 : Int), cI (0 : Int)])] 3) := by
    refine hI _ _ _ ?_
    refine A.take 2 rfl (by kernel_rfl) (by kernel_rfl) (by kernel_rfl) rfl (Ca.move) (fun Q0 k0 => L.move hF rfl rfl rfl (L.nil k0)) ?_
    exact A.on (hO _ _ _ n5) (Le.mk [(0, 0), (1, 1), (2, 2)] hm rfl ⟨⟨_, rfl, rfl⟩, ⟨_, rfl, rfl⟩, ⟨_, rfl, rfl⟩, ⟨_, rfl, rfl⟩, ⟨_, rfl, rfl⟩, trivial⟩ trivial ⟨⟨_, _, rfl, rfl, rfl⟩, ⟨_, _, rfl, rfl, rfl⟩, ⟨_, _, rfl, rfl, rfl⟩, trivial⟩)
  have n0 : W 7 #[false, false, false, false, false, false, false] (mkSt [(0, one (Cell.ptr 0 0)), (2, one (Cell.ptr 1 0)), (3, one (Cell.ptr 2 0))] [] [(0, [Cell.sl true (List.map eB r1.2.b), cI r1.2.i, cI r1.2.h]), (1, [cI (0 : Int), cI (0 : Int), cI (0 : Int), cI (0 : Int)]), (2, [cI r1.1, cI (0 : Int), cI (0 : Int), cI (0 : Int)])] 3) := by
    refine hI _ _ _ ?_
    refine A.take 0 rfl (by kernel_rfl) (by kernel_rfl) (by kernel_rfl) rfl (Ca.fieldAddr Try.underlying65 rfl info3 rfl) (fun Q0 k0 => L.fieldAddr Try.underlying65 rfl info3 rfl hF rfl rfl rfl rfl rfl (L.nil k0)) ?_
    exact A.on (hO _ _ _ n1) (Le.mk [(0, 0), (1, 1), (2, 2)] hm rfl ⟨⟨_, rfl, rfl⟩, ⟨_, rfl, rfl⟩, ⟨_, rfl, rfl⟩, ⟨_, rfl, rfl⟩, trivial⟩ trivial ⟨⟨_, _, rfl, rfl, rfl⟩, ⟨_, _, rfl, rfl, rfl⟩, ⟨_, _, rfl, rfl, rfl⟩, trivial⟩)
  exact hI _ _ _ (A.on (hO _ _ _ n0) (Le.mk [(0, 0), (1, 5), (2, 10)] hm rfl ⟨⟨_, rfl, rfl⟩, ⟨_, rfl, rfl⟩, ⟨_, rfl, rfl⟩, trivial⟩ trivial ⟨⟨_, _, rfl, rfl, rfl⟩, ⟨_, _, rfl, rfl, rfl⟩, ⟨_, _, rfl, rfl, rfl⟩, trivial⟩))
/-! ### Fspec_DrawShowTimes -/
def Fspec_DrawShowTimes (k : Nat) (a0 : List UInt8) : Option Timpl_Times := (Fspec_l1New k a0).bind fun r1 => (Fspec_l16Times k r1).bind fun r2 => some r2.1
theorem ent62 : Enters Try.prog 62 := ⟨Try.f62, Try.func62, rfl, by decide⟩
set_option maxHeartbeats 8000000 in
set_option maxRecDepth 100000 in
theorem Fspec_DrawShowTimes_gives (k : Nat) (a0 : List UInt8) (r : Timpl_Times) (H : Fspec_DrawShowTimes k a0 = some r) : Gives Try.prog 62 [V.one (Cell.sl true (List.map eB a0))] [] [V.agg [cI r.Auth, cI r.Start, cI r.End, cI r.Renew]] [] := by
  refine Gives.intro Try.func62 rfl rfl rfl rfl ?_
  intro F hF hm
  unfold Fspec_DrawShowTimes at H
  obtain ⟨K, hK⟩ : ∃ K, k ≤ K := ⟨k, Nat.le_refl k⟩
  refine WpC.seq ?_
  refine WpC.regionL ?_
  refine L.alloc 1 info65 rfl hF rfl rfl rfl rfl ?_
  refine L.nil ?_
  refine WpC.seq ?_
  refine WpC.regionL ?_
  refine L.move hF rfl rfl rfl ?_
  obtain ⟨r1, hr1, H⟩ := bindS H
  refine L.call [false] [] [] 2 hF rfl rfl rfl ent121 rfl rfl rfl rfl rfl (Fspec_l1New_gives k  a0 r1 hr1) rfl ?_
  refine L.assign hF rfl rfl rfl ?_
  refine L.nil ?_
  refine WpC.seq ?_
  refine WpC.regionL ?_
  refine L.move hF rfl rfl rfl ?_
  obtain ⟨r2, hr2, H⟩ := bindS H
  refine L.call [false] [] [2] 3 hF rfl rfl rfl ent138 rfl rfl rfl rfl rfl (Fspec_l16Times_gives k  r1 r2 hr2) rfl ?_
  refine L.storePtr shape65 hF rfl rfl rfl rfl rfl rfl rfl ?_
  refine L.nil ?_
  refine WpC.ret ?_
  cases H
  exact Leaves.ret rfl rfl rfl ⟨rfl, rfl⟩
/-! ### Fimpl_TimesOk -/
def Fimpl_TimesOk (k : Nat) (a0 : Timpl_Times) : Option Bool := cond (decide (a0.Auth ≥ (0 : Int))) (cond (decide (a0.Start ≥ a0.Auth)) (cond (decide (a0.End ≥ a0.Start)) (cond (decide (a0.Renew ≥ a0.End)) (some (decide (a0.Renew ≤ (100000 : Int)))) (some false)) (some false)) (some false)) (some false)
theorem ent139 : Enters Try.prog 139 := ⟨Try.f139, Try.func139, rfl, by decide⟩
set_option maxHeartbeats 8000000 in
set_option maxRecDepth 100000 in
theorem Fimpl_TimesOk_gives (k : Nat) (a0 : Timpl_Times) (r : Bool) (H : Fimpl_TimesOk k a0 = some r) : Gives Try.prog 139 [V.agg [cI a0.Auth, cI a0.Start, cI a0.End, cI a0.Renew]] [] [V.one (cL r)] [] := by
  refine Gives.intro Try.func139 rfl rfl rfl rfl ?_
  intro F hF hm
  unfold Fimpl_TimesOk at H
  obtain ⟨K, hK⟩ : ∃ K, k ≤ K := ⟨k, Nat.le_refl k⟩
  refine WpC.seq ?_
  refine WpC.regionL ?_
  refine L.box 4 hF rfl rfl rfl rfl ?_
  refine L.assign hF rfl rfl rfl ?_
  refine L.nil ?_
  refine WpC.seq ?_
  refine WpC.regionL ?_
  refine L.fieldAddr Try.underlying65 rfl info3 rfl hF rfl rfl rfl rfl rfl ?_
  refine L.loadPtr shape3 hF rfl rfl rfl rfl rfl rfl ?_
  refine L.bin hF rfl rfl rfl rfl rfl rfl ?_
  refine L.move hF rfl rfl rfl ?_
  refine L.split (fun hc => ?_) (fun hc => ?_)
  · replace H := condT hc H
    refine L.fieldAddr Try.underlying65 rfl info3 rfl hF rfl rfl rfl rfl rfl ?_
    refine L.loadPtr shape3 hF rfl rfl rfl rfl rfl rfl ?_
    refine L.fieldAddr Try.underlying65 rfl info3 rfl hF rfl rfl rfl rfl rfl ?_
    refine L.loadPtr shape3 hF rfl rfl rfl rfl rfl rfl ?_
    refine L.bin hF rfl rfl rfl rfl rfl rfl ?_
    refine L.pick hF rfl rfl rfl rfl ?_
    refine L.move hF rfl rfl rfl ?_
    refine L.split (fun hc => ?_) (fun hc => ?_)
    · replace H := condT hc H
      refine L.fieldAddr Try.underlying65 rfl info3 rfl hF rfl rfl rfl rfl rfl ?_
      refine L.loadPtr shape3 hF rfl rfl rfl rfl rfl rfl ?_
      refine L.fieldAddr Try.underlying65 rfl info3 rfl hF rfl rfl rfl rfl rfl ?_
      refine L.loadPtr shape3 hF rfl rfl rfl rfl rfl rfl ?_
      refine L.bin hF rfl rfl rfl rfl rfl rfl ?_
      refine L.pick hF rfl rfl rfl rfl ?_
      refine L.move hF rfl rfl rfl ?_
      refine L.split (fun hc => ?_) (fun hc => ?_)
      · replace H := condT hc H
        refine L.fieldAddr Try.underlying65 rfl info3 rfl hF rfl rfl rfl rfl rfl ?_
        refine L.loadPtr shape3 hF rfl rfl rfl rfl rfl rfl ?_
        refine L.fieldAddr Try.underlying65 rfl info3 rfl hF rfl rfl rfl rfl rfl ?_
        refine L.loadPtr shape3 hF rfl rfl rfl rfl rfl rfl ?_
        refine L.bin hF rfl rfl rfl rfl rfl rfl ?_
        refine L.pick hF rfl rfl rfl rfl ?_
        refine L.move hF rfl rfl rfl ?_
        refine L.split (fun hc => ?_) (fun hc => ?_)
        · replace H := condT hc H
          refine L.fieldAddr Try.underlying65 rfl info3 rfl hF rfl rfl rfl rfl rfl ?_
          refine L.loadPtr shape3 hF rfl rfl rfl rfl rfl rfl ?_
          refine L.bin hF rfl rfl rfl rfl rfl rfl ?_
          refine L.pick hF rfl rfl rfl rfl ?_
          refine L.assign hF rfl rfl rfl ?_
          refine L.nil ?_
          refine WpC.ret ?_
          cases H
          exact Leaves.ret rfl rfl rfl ⟨rfl, rfl⟩
        · replace H := condF hc H
          refine L.off hF rfl rfl ?_
          refine L.off hF rfl rfl ?_
          refine L.off hF rfl rfl ?_
          refine L.pick hF rfl rfl rfl rfl ?_
          refine L.assign hF rfl rfl rfl ?_
          refine L.nil ?_
          refine WpC.ret ?_
          cases H
          exact Leaves.ret rfl rfl rfl ⟨rfl, rfl⟩
      · replace H := condF hc H
        refine L.off hF rfl rfl ?_
        refine L.off hF rfl rfl ?_
        refine L.off hF rfl rfl ?_
        refine L.off hF rfl rfl ?_
        refine L.off hF rfl rfl ?_
        refine L.pick hF rfl rfl rfl rfl ?_
        refine L.move hF rfl rfl rfl ?_
        refine L.off hF rfl rfl ?_
        refine L.off hF rfl rfl ?_
        refine L.off hF rfl rfl ?_
        refine L.pick hF rfl rfl rfl rfl ?_
        refine L.assign hF rfl rfl rfl ?_
        refine L.nil ?_
        refine WpC.ret ?_
        cases H
        exact Leaves.ret rfl rfl rfl ⟨rfl, rfl⟩
    · replace H := condF hc H
      refine L.off hF rfl rfl ?_
      refine L.off hF rfl rfl ?_
      refine L.off hF rfl rfl ?_
      refine L.off hF rfl rfl ?_
      refine L.off hF rfl rfl ?_
      refine L.pick hF rfl rfl rfl rfl ?_
      refine L.move hF rfl rfl rfl ?_
      refine L.off hF rfl rfl ?_
      refine L.off hF rfl rfl ?_
      refine L.off hF rfl rfl ?_
      refine L.off hF rfl rfl ?_
      refine L.off hF rfl rfl ?_
      refine L.pick hF rfl rfl rfl rfl ?_
      refine L.move hF rfl rfl rfl ?_
      refine L.off hF rfl rfl ?_
      refine L.off hF rfl rfl ?_
      refine L.off hF rfl rfl ?_
      refine L.pick hF rfl rfl rfl rfl ?_
      refine L.assign hF rfl rfl rfl ?_
      refine L.nil ?_
      refine WpC.ret ?_
      cases H
      exact Leaves.ret rfl rfl rfl ⟨rfl, rfl⟩
  · replace H := condF hc H
    refine L.off hF rfl rfl ?_
    refine L.off hF rfl rfl ?_
    refine L.off hF rfl rfl ?_
    refine L.off hF rfl rfl ?_
    refine L.off hF rfl rfl ?_
    refine L.pick hF rfl rfl rfl rfl ?_
    refine L.move hF rfl rfl rfl ?_
    refine L.off hF rfl rfl ?_
    refine L.off hF rfl rfl ?_
    refine L.off hF rfl rfl ?_
    refine L.off hF rfl rfl ?_
    refine L.off hF rfl rfl ?_
    refine L.pick hF rfl rfl rfl rfl ?_
    refine L.move hF rfl rfl rfl ?_
    refine L.off hF rfl rfl ?_
    refine L.off hF rfl rfl ?_
    refine L.off hF rfl rfl ?_
    refine L.off hF rfl rfl ?_
    refine L.off hF rfl rfl ?_
    refine L.pick hF rfl rfl rfl rfl ?_
    refine L.move hF rfl rfl rfl ?_
    refine L.off hF rfl rfl ?_
    refine L.off hF rfl rfl ?_
    refine L.off hF rfl rfl ?_
    refine L.pick hF rfl rfl rfl rfl ?_
    refine L.assign hF rfl rfl rfl ?_
    refine L.nil ?_
    refine WpC.ret ?_
    cases H
    exact Leaves.ret rfl rfl rfl ⟨rfl, rfl⟩
/-! ### Fimpl_within -/
def Fimpl_within (k : Nat) (a0 : Int) (a1 : Int) (a2 : Int) : Option Bool := cond (decide (a0 ≥ a1)) (some (decide (a0 ≤ a2))) (some false)
theorem ent113 : Enters Try.prog 113 := ⟨Try.f113, Try.func113, rfl, by decide⟩
set_option maxHeartbeats 8000000 in
set_option maxRecDepth 100000 in
theorem Fimpl_within_gives (k : Nat) (a0 : Int) (a1 : Int) (a2 : Int) (r : Bool) (H : Fimpl_within k a0 a1 a2 = some r) : Gives Try.prog 113 [V.one (cI a0), V.one (cI a1), V.one (cI a2)] [] [V.one (cL r)] [] := by
  refine Gives.intro Try.func113 rfl rfl rfl rfl ?_
  intro F hF hm
  unfold Fimpl_within at H
  obtain ⟨K, hK⟩ : ∃ K, k ≤ K := ⟨k, Nat.le_refl k⟩
  refine WpC.seq ?_
  refine WpC.regionL ?_
  refine L.assign hF rfl rfl rfl ?_
  refine L.nil ?_
  refine WpC.seq ?_
  refine WpC.regionL ?_
  refine L.move hF rfl rfl rfl ?_
  refine L.move hF rfl rfl rfl ?_
  refine L.bin hF rfl rfl rfl rfl rfl rfl ?_
  refine L.move hF rfl rfl rfl ?_
  refine L.split (fun hc => ?_) (fun hc => ?_)
  · replace H := condT hc H
    refine L.move hF rfl rfl rfl ?_
    refine L.move hF rfl rfl rfl ?_
    refine L.bin hF rfl rfl rfl rfl rfl rfl ?_
    refine L.pick hF rfl rfl rfl rfl ?_
    refine L.assign hF rfl rfl rfl ?_
    refine L.nil ?_
    refine WpC.ret ?_
    cases H
    exact Leaves.ret rfl rfl rfl ⟨rfl, rfl⟩
  · replace H := condF hc H
    refine L.off hF rfl rfl ?_
    refine L.off hF rfl rfl ?_
    refine L.off hF rfl rfl ?_
    refine L.pick hF rfl rfl rfl rfl ?_
    refine L.assign hF rfl rfl rfl ?_
    refine L.nil ?_
    refine WpC.ret ?_
    cases H
    exact Leaves.ret rfl rfl rfl ⟨rfl, rfl⟩
/-! ### Fimpl_Var -/
def Fimpl_Var.l2 : Nat → Int → (List UInt8) → Option (List UInt8)
  | 0, _, _ => none
  | k2 + 1, v16, v17 => cond (decide (v16 > (127 : Int))) (cond (decide ((2 * (v17.length + ([(ofI (Go.bits .or .i64 (Go.bits .and .i64 v16 (127 : Int)) (128 : Int)))] : List UInt8).length) + 192) * 1 ≤ 281474976710656)) ((Fimpl_Var.l2 k2) (shrI .i64 v16 (7 : Int)) (v17 ++ ([(ofI (Go.bits .or .i64 (Go.bits .and .i64 v16 (127 : Int)) (128 : Int)))] : List UInt8))) none) (cond (decide ((2 * (v17.length + ([(ofI v16)] : List UInt8).length) + 192) * 1 ≤ 281474976710656)) (some (v17 ++ ([(ofI v16)] : List UInt8))) none)
def Fimpl_Var (k : Nat) (a0 : Int) : Option (List UInt8) := (Fimpl_within k a0 (0 : Int) (562949953421311 : Int)).bind fun r2 => cond (!r2) (some ([] : List UInt8)) (Fimpl_Var.l2 k a0 ([] : List UInt8))
theorem ent124 : Enters Try.prog 124 := ⟨Try.f124, Try.func124, rfl, by decide⟩
set_option maxHeartbeats 8000000 in
set_option maxRecDepth 100000 in
theorem Fimpl_Var_gives (k : Nat) (a0 : Int) (r : List UInt8) (H : Fimpl_Var k a0 = some r) : Gives Try.prog 124 [V.one (cI a0)] [] [V.one (cS r)] [] := by
  refine Gives.intro Try.func124 rfl rfl rfl rfl ?_
  intro F hF hm
  unfold Fimpl_Var at H
  obtain ⟨K, hK⟩ : ∃ K, k ≤ K := ⟨k, Nat.le_refl k⟩
  refine WpC.seq ?_
  refine WpC.regionL ?_
  refine L.assign hF rfl rfl rfl ?_
  refine L.nil ?_
  refine WpC.seq ?_
  refine WpC.seq ?_
  refine WpC.regionL ?_
  refine L.move hF rfl rfl rfl ?_
  obtain ⟨r2, hr2, H⟩ := bindS H
  refine L.call [false, false, false] [] [] 1 hF rfl rfl rfl ent113 rfl rfl rfl rfl rfl (Fimpl_within_gives k  a0 (0 : Int) (562949953421311 : Int) r2 hr2) rfl ?_
  refine L.not hF rfl rfl rfl ?_
  refine L.nil ?_
  refine WpC.cond rfl (fun hc => ?_) (fun hc => ?_)
  · replace H := condT hc H
    refine WpC.seq ?_
    refine WpC.regionL ?_
    refine L.assign hF rfl rfl rfl ?_
    refine L.nil ?_
    refine WpC.ret ?_
    cases H
    exact Leaves.ret rfl rfl rfl ⟨rfl, rfl⟩
  · replace H := condF hc H
    refine WpC.skip ?_
    refine WpC.seq ?_
    refine WpC.regionL ?_
    refine L.buildSlice (e := eB) 2 ([] : List UInt8) Try.underlying50 info5 rfl rfl rfl hF rfl rfl rfl rfl rfl rfl rfl rfl ?_
    refine L.assign hF rfl rfl rfl ?_
    refine L.nil ?_
    refine WpC.seq ?_
    refine WpC.block ?_
    refine WpC.loopL (P := Try.prog) (fun n σ => ∃ v16 : Int, ∃ v17 : List UInt8, n ≤ K ∧ Fimpl_Var.l2 n v16 v17 = some r ∧ σ = mkSt [(0, one (cI v16)), (3, one (Cell.own 0))] [(0, ⟨1, List.map eB v17⟩)] [] 1) k ⟨_, ⟨a0, ([] : List UInt8), by omega, H, rfl⟩, Le.mk [(0, 2)] hm rfl ⟨⟨_, rfl, rfl⟩, ⟨_, rfl, rfl⟩, trivial⟩ ⟨⟨_, rfl, rfl⟩, trivial⟩ trivial⟩ ?_
    clear H
    rintro k2 _ ⟨v16, v17, hk2, H, rfl⟩
    cases k2 with
    | zero => cases H
    | succ k2 =>
      rw [Fimpl_Var.l2] at H
      refine WpC.seq ?_
      refine WpC.seq ?_
      refine WpC.regionL ?_
      refine L.move hF rfl rfl rfl ?_
      refine L.bin hF rfl rfl rfl rfl rfl rfl ?_
      refine L.nil ?_
      refine WpC.cond rfl (fun hc => ?_) (fun hc => ?_)
      · replace H := condT hc H
        refine WpC.skip ?_
        refine WpC.block ?_
        refine WpC.seq ?_
        refine WpC.regionL ?_
        refine L.move hF rfl rfl rfl ?_
        refine L.move hF rfl rfl rfl ?_
        refine L.bin hF rfl rfl rfl rfl rfl rfl ?_
        refine L.bin hF rfl rfl rfl rfl rfl rfl ?_
        refine L.toB Try.underlying3 Try.underlying5 hF rfl rfl rfl ?_
        refine L.buildSlice (e := eB) 1 ([(ofI (Go.bits .or .i64 (Go.bits .and .i64 v16 (127 : Int)) (128 : Int)))] : List UInt8) Try.underlying50 info5 rfl rfl rfl hF rfl rfl rfl rfl rfl rfl rfl rfl ?_
        obtain ⟨h18, H⟩ := condG H
        refine L.append (xs := v17) (ys := ([(ofI (Go.bits .or .i64 (Go.bits .and .i64 v16 (127 : Int)) (128 : Int)))] : List UInt8)) (e := eB) 2 Try.underlying50 info5 rfl rfl hF rfl rfl rfl rfl rfl rfl rfl rfl (fun _ => rfl) (fun _ _ h1 h2 => by cases h1; cases h2; rfl) ⟨_, Try.underlying50⟩ (of_decide_eq_true h18) rfl rfl ?_
        refine L.assign hF rfl rfl rfl ?_
        refine L.nil ?_
        refine WpC.regionL ?_
        refine L.move hF rfl rfl rfl ?_
        refine L.shr hF rfl rfl rfl rfl (by decide) ?_
        refine L.assign hF rfl rfl rfl ?_
        refine L.nil ?_
        exact ⟨k2, _, by omega, ⟨(shrI .i64 v16 (7 : Int)), (v17 ++ ([(ofI (Go.bits .or .i64 (Go.bits .and .i64 v16 (127 : Int)) (128 : Int)))] : List UInt8)), by omega, H, rfl⟩, Le.mk [(0, 2)] hm rfl ⟨⟨_, rfl, rfl⟩, ⟨_, rfl, rfl⟩, trivial⟩ ⟨⟨_, rfl, rfl⟩, trivial⟩ trivial⟩
      · replace H := condF hc H
        refine WpC.exit ?_
        refine WpC.seq ?_
        refine WpC.regionL ?_
        refine L.move hF rfl rfl rfl ?_
        refine L.move hF rfl rfl rfl ?_
        refine L.toB Try.underlying3 Try.underlying5 hF rfl rfl rfl ?_
        refine L.buildSlice (e := eB) 1 ([(ofI v16)] : List UInt8) Try.underlying50 info5 rfl rfl rfl hF rfl rfl rfl rfl rfl rfl rfl rfl ?_
        obtain ⟨h19, H⟩ := condG H
        refine L.append (xs := v17) (ys := ([(ofI v16)] : List UInt8)) (e := eB) 2 Try.underlying50 info5 rfl rfl hF rfl rfl rfl rfl rfl rfl rfl rfl (fun _ => rfl) (fun _ _ h1 h2 => by cases h1; cases h2; rfl) ⟨_, Try.underlying50⟩ (of_decide_eq_true h19) rfl rfl ?_
        refine L.b2s (xs := (v17 ++ ([(ofI v16)] : List UInt8))) Try.underlying50 Try.underlying5 Try.underlying9 hF rfl rfl rfl rfl ?_
        refine L.assign hF rfl rfl rfl ?_
        refine L.nil ?_
        refine WpC.ret ?_
        cases H
        exact Leaves.ret rfl rfl rfl ⟨rfl, rfl⟩
/-! ### Fimpl_ReadVar -/
def Fimpl_ReadVar.l2 : Nat → (List UInt8) → Int → Int → Option (Int × Int)
  | 0, _, _, _ => none
  | k2 + 1, v82, v83, v84 => cond (decide (v84 < (v82.length : Int))) (cond (decide (v84 < (7 : Int))) ((at? v82 v84).bind fun b92 => cond (!(decide ((IntKind.i64.wrap ((7 : Int) * v84)) < 0))) ((at? v82 v84).bind fun b94 => cond (decide (b94 < (128 : UInt8))) ((Fimpl_Var k2 (Go.bits .or .i64 v83 (shlI .i64 ((b92 &&& (127 : UInt8)).toNat : Int) (IntKind.i64.wrap ((7 : Int) * v84))))).bind fun r97 => (cut? v82 (0 : Int) (IntKind.i64.wrap (v84 + (1 : Int)))).bind fun b98 => cond (r97 != b98) (some ((0 : Int), (0 : Int))) (some ((Go.bits .or .i64 v83 (shlI .i64 ((b92 &&& (127 : UInt8)).toNat : Int) (IntKind.i64.wrap ((7 : Int) * v84)))), (IntKind.i64.wrap (v84 + (1 : Int)))))) ((Fimpl_ReadVar.l2 k2) v82 (Go.bits .or .i64 v83 (shlI .i64 ((b92 &&& (127 : UInt8)).toNat : Int) (IntKind.i64.wrap ((7 : Int) * v84)))) (IntKind.i64.wrap (v84 + (1 : Int))))) none) (some ((0 : Int), (0 : Int)))) (some ((0 : Int), (0 : Int)))
def Fimpl_ReadVar (k : Nat) (a0 : List UInt8) : Option (Int × Int) := Fimpl_ReadVar.l2 k a0 (0 : Int) (0 : Int)
theorem ent217 : Enters Try.prog 217 := ⟨Try.f217, Try.func217, rfl, by decide⟩
set_option maxHeartbeats 8000000 in
set_option maxRecDepth 100000 in
theorem Fimpl_ReadVar_gives (k : Nat) (a0 : List UInt8) (r : Int × Int) (H : Fimpl_ReadVar k a0 = some r) : Gives Try.prog 217 [V.one (cS a0)] [] [V.one (cI r.1), V.one (cI r.2)] [] := by
  refine Gives.intro Try.func217 rfl rfl rfl rfl ?_
  intro F hF hm
  unfold Fimpl_ReadVar at H
  obtain ⟨K, hK⟩ : ∃ K, k ≤ K := ⟨k, Nat.le_refl k⟩
  refine WpC.seq ?_
  refine WpC.regionL ?_
  refine L.assign hF rfl rfl rfl ?_
  refine L.assign hF rfl rfl rfl ?_
  refine L.nil ?_
  refine WpC.seq ?_
  refine WpC.regionL ?_
  refine L.assign hF rfl rfl rfl ?_
  refine L.nil ?_
  refine WpC.seq ?_
  refine WpC.seq ?_
  refine WpC.regionL ?_
  refine L.assign hF rfl rfl rfl ?_
  refine L.nil ?_
  refine WpC.block ?_
  refine WpC.loopL (P := Try.prog) (fun n σ => ∃ v82 : List UInt8, ∃ v83 : Int, ∃ v84 : Int, n ≤ K ∧ Fimpl_ReadVar.l2 n v82 v83 v84 = some r ∧ σ = mkSt [(0, one (cS v82)), (4, one (cI v83)), (5, one (cI v84))] [] [] 0) k ⟨_, ⟨a0, (0 : Int), (0 : Int), by omega, H, rfl⟩, Le.mk [] hm rfl ⟨⟨_, rfl, rfl⟩, ⟨_, rfl, rfl⟩, ⟨_, rfl, rfl⟩, trivial⟩ trivial trivial⟩ ?_
  clear H
  rintro k2 _ ⟨v82, v83, v84, hk2, H, rfl⟩
  cases k2 with
  | zero => cases H
  | succ k2 =>
    rw [Fimpl_ReadVar.l2] at H
    refine WpC.seq ?_
    refine WpC.seq ?_
    refine WpC.regionL ?_
    refine L.move hF rfl rfl rfl ?_
    refine L.move hF rfl rfl rfl ?_
    refine L.lenS Try.underlying9 hF rfl rfl rfl ?_
    refine L.bin hF rfl rfl rfl rfl rfl rfl ?_
    refine L.move hF rfl rfl rfl ?_
    refine L.split (fun hc => ?_) (fun hc => ?_)
    · replace H := condT hc H
      refine L.move hF rfl rfl rfl ?_
      refine L.bin hF rfl rfl rfl rfl rfl rfl ?_
      refine L.pick hF rfl rfl rfl rfl ?_
      refine L.nil ?_
      refine WpC.cond rfl (fun hc => ?_) (fun hc => ?_)
      · replace H := condT hc H
        refine WpC.skip ?_
        refine WpC.seq ?_
        refine WpC.block ?_
        refine WpC.seq ?_
        refine WpC.regionL ?_
        refine L.move hF rfl rfl rfl ?_
        refine L.move hF rfl rfl rfl ?_
        refine L.move hF rfl rfl rfl ?_
        obtain ⟨b92, hb92, H⟩ := bindS H
        refine L.idxS Try.underlying9 hF rfl rfl rfl rfl hb92 ?_
        refine L.binB (a := b92) (b := (127 : UInt8)) hF rfl rfl rfl rfl rfl ?_
        refine L.ofB Try.underlying5 Try.underlying3 hF rfl rfl rfl ?_
        refine L.move hF rfl rfl rfl ?_
        refine L.bin hF rfl rfl rfl rfl rfl rfl ?_
        obtain ⟨h93, H⟩ := condG H
        refine L.shl hF rfl rfl rfl rfl (by simpa using h93) ?_
        refine L.bin hF rfl rfl rfl rfl rfl rfl ?_
        refine L.assign hF rfl rfl rfl ?_
        refine L.nil ?_
        refine WpC.seq ?_
        refine WpC.regionL ?_
        refine L.move hF rfl rfl rfl ?_
        refine L.move hF rfl rfl rfl ?_
        obtain ⟨b94, hb94, H⟩ := bindS H
        refine L.idxS Try.underlying9 hF rfl rfl rfl rfl hb94 ?_
        refine L.binB (a := b94) (b := (128 : UInt8)) hF rfl rfl rfl rfl rfl ?_
        refine L.nil ?_
        refine WpC.cond rfl (fun hc => ?_) (fun hc => ?_)
        · replace H := condT hc H
          refine WpC.seq ?_
          refine WpC.seq ?_
          obtain ⟨r97, hr97, H⟩ := bindS H
          obtain ⟨b98, hb98, H⟩ := bindS H
          refine A.begin mixed rfl rfl ?_
          intro W hI hO
          have n127 : W 0 #[true, true, true, true, true, true, true] (mkSt [(4, one (cI (Go.bits .or .i64 v83 (shlI .i64 ((b92 &&& (127 : UInt8)).toNat : Int) (IntKind.i64.wrap ((7 : Int) * v84)))))), (5, one (cI v84)), (36, one (cL (r97 != b98)))] [] [] 0) := by
            refine hI _ _ _ (A.done (by kernel_rfl) ?_)
            refine WpC.cond rfl (fun hc => ?_) (fun hc => ?_)
            · replace H := condT hc H
              refine WpC.seq ?_
              refine WpC.regionL ?_
              refine L.assign hF rfl rfl rfl ?_
              refine L.assign hF rfl rfl rfl ?_
              refine L.nil ?_
              refine WpC.ret ?_
              cases H
              exact Leaves.ret rfl rfl rfl ⟨rfl, rfl⟩
            · replace H := condF hc H
              refine WpC.skip ?_
              refine WpC.seq ?_
              refine WpC.regionL ?_
              refine L.move hF rfl rfl rfl ?_
              refine L.move hF rfl rfl rfl ?_
              refine L.bin hF rfl rfl rfl rfl rfl rfl ?_
              refine L.assign hF rfl rfl rfl ?_
              refine L.assign hF rfl rfl rfl ?_
              refine L.nil ?_
              refine WpC.ret ?_
              cases H
              exact Leaves.ret rfl rfl rfl ⟨rfl, rfl⟩
          have n63 : W 1 #[true, true, true, true, true, true, false] (mkSt [(4, one (cI (Go.bits .or .i64 v83 (shlI .i64 ((b92 &&& (127 : UInt8)).toNat : Int) (IntKind.i64.wrap ((7 : Int) * v84)))))), (5, one (cI v84)), (31, one (cS r97)), (35, one (cS b98))] [] [] 0) := by
            refine hI _ _ _ ?_
            refine A.take 6 rfl (by kernel_rfl) (by kernel_rfl) (by kernel_rfl) rfl (Ca.bin rfl rfl (calm_str _ _ _ _ _ _)) (fun Q0 k0 => L.binS hF rfl rfl rfl rfl rfl (L.nil k0)) ?_
            exact A.on (hO _ _ _ n127) (Le.mk [] hm rfl ⟨⟨_, rfl, rfl⟩, ⟨_, rfl, rfl⟩, ⟨_, rfl, rfl⟩, trivial⟩ trivial trivial)
          have n61 : W 2 #[true, false, true, true, true, true, false] (mkSt [(4, one (cI (Go.bits .or .i64 v83 (shlI .i64 ((b92 &&& (127 : UInt8)).toNat : Int) (IntKind.i64.wrap ((7 : Int) * v84)))))), (5, one (cI v84)), (30, one (cI (Go.bits .or .i64 v83 (shlI .i64 ((b92 &&& (127 : UInt8)).toNat : Int) (IntKind.i64.wrap ((7 : Int) * v84)))))), (35, one (cS b98))] [] [] 0) := by
            refine hI _ _ _ ?_
            refine A.all [1] (by kernel_rfl) rfl ⟨⟨_, rfl, ?_⟩, trivial⟩
            · refine L.call [false] [] [] 0 hF rfl rfl rfl ent124 rfl rfl rfl rfl rfl (Fimpl_Var_gives k2  (Go.bits .or .i64 v83 (shlI .i64 ((b92 &&& (127 : UInt8)).toNat : Int) (IntKind.i64.wrap ((7 : Int) * v84)))) r97 hr97) rfl ?_
              refine L.nil ?_
              exact A.on (hO _ _ _ n63) (Le.mk [] hm rfl ⟨⟨_, rfl, rfl⟩, ⟨_, rfl, rfl⟩, ⟨_, rfl, rfl⟩, ⟨_, rfl, rfl⟩, trivial⟩ trivial trivial)
          have n29 : W 3 #[true, false, true, true, true, false, false] (mkSt [(4, one (cI (Go.bits .or .i64 v83 (shlI .i64 ((b92 &&& (127 : UInt8)).toNat : Int) (IntKind.i64.wrap ((7 : Int) * v84)))))), (5, one (cI v84)), (30, one (cI (Go.bits .or .i64 v83 (shlI .i64 ((b92 &&& (127 : UInt8)).toNat : Int) (IntKind.i64.wrap ((7 : Int) * v84)))))), (32, one (cS v82)), (34, one (cI (IntKind.i64.wrap (v84 + (1 : Int)))))] [] [] 0) := by
            refine hI _ _ _ ?_
            refine A.take 5 rfl (by kernel_rfl) (by kernel_rfl) (by kernel_rfl) rfl (Ca.slice) (fun Q0 k0 => L.cutS Try.underlying9 hF rfl rfl rfl rfl rfl hb98 (L.nil k0)) ?_
            exact A.on (hO _ _ _ n61) (Le.mk [] hm rfl ⟨⟨_, rfl, rfl⟩, ⟨_, rfl, rfl⟩, ⟨_, rfl, rfl⟩, ⟨_, rfl, rfl⟩, trivial⟩ trivial trivial)
          have n13 : W 4 #[true, false, true, true, false, false, false] (mkSt [(4, one (cI (Go.bits .or .i64 v83 (shlI .i64 ((b92 &&& (127 : UInt8)).toNat : Int) (IntKind.i64.wrap ((7 : Int) * v84)))))), (5, one (cI v84)), (30, one (cI (Go.bits .or .i64 v83 (shlI .i64 ((b92 &&& (127 : UInt8)).toNat : Int) (IntKind.i64.wrap ((7 : Int) * v84)))))), (32, one (cS v82)), (33, one (cI v84))] [] [] 0) := by
            refine hI _ _ _ ?_
            refine A.take 4 rfl (by kernel_rfl) (by kernel_rfl) (by kernel_rfl) rfl (Ca.bin rfl rfl (calm_int _ _ _ _ _ _ _ _)) (fun Q0 k0 => L.bin hF rfl rfl rfl rfl rfl rfl (L.nil k0)) ?_
            exact A.on (hO _ _ _ n29) (Le.mk [] hm rfl ⟨⟨_, rfl, rfl⟩, ⟨_, rfl, rfl⟩, ⟨_, rfl, rfl⟩, ⟨_, rfl, rfl⟩, ⟨_, rfl, rfl⟩, trivial⟩ trivial trivial)
          have n5 : W 5 #[true, false, true, false, false, false, false] (mkSt [(4, one (cI (Go.bits .or .i64 v83 (shlI .i64 ((b92 &&& (127 : UInt8)).toNat : Int) (IntKind.i64.wrap ((7 : Int) * v84)))))), (5, one (cI v84)), (30, one (cI (Go.bits .or .i64 v83 (shlI .i64 ((b92 &&& (127 : UInt8)).toNat : Int) (IntKind.i64.wrap ((7 : Int) * v84)))))), (32, one (cS v82))] [] [] 0) := by
            refine hI _ _ _ ?_
            refine A.take 3 rfl (by kernel_rfl) (by kernel_rfl) (by kernel_rfl) rfl (Ca.move) (fun Q0 k0 => L.move hF rfl rfl rfl (L.nil k0)) ?_
            exact A.on (hO _ _ _ n13) (Le.mk [] hm rfl ⟨⟨_, rfl, rfl⟩, ⟨_, rfl, rfl⟩, ⟨_, rfl, rfl⟩, ⟨_, rfl, rfl⟩, ⟨_, rfl, rfl⟩, trivial⟩ trivial trivial)
          have n1 : W 6 #[true, false, false, false, false, false, false] (mkSt [(0, one (cS v82)), (4, one (cI (Go.bits .or .i64 v83 (shlI .i64 ((b92 &&& (127 : UInt8)).toNat : Int) (IntKind.i64.wrap ((7 : Int) * v84)))))), (5, one (cI v84)), (30, one (cI (Go.bits .or .i64 v83 (shlI .i64 ((b92 &&& (127 : UInt8)).toNat : Int) (IntKind.i64.wrap ((7 : Int) * v84))))))] [] [] 0) := by
            refine hI _ _ _ ?_
            refine A.take 2 rfl (by kernel_rfl) (by kernel_rfl) (by kernel_rfl) rfl (Ca.move) (fun Q0 k0 => L.move hF rfl rfl rfl (L.nil k0)) ?_
            exact A.on (hO _ _ _ n5) (Le.mk [] hm rfl ⟨⟨_, rfl, rfl⟩, ⟨_, rfl, rfl⟩, ⟨_, rfl, rfl⟩, ⟨_, rfl, rfl⟩, trivial⟩ trivial trivial)
          have n0 : W 7 #[false, false, false, false, false, false, false] (mkSt [(0, one (cS v82)), (4, one (cI (Go.bits .or .i64 v83 (shlI .i64 ((b92 &&& (127 : UInt8)).toNat : Int) (IntKind.i64.wrap ((7 : Int) * v84)))))), (5, one (cI v84))] [] [] 0) := by
            refine hI _ _ _ ?_
            refine A.take 0 rfl (by kernel_rfl) (by kernel_rfl) (by kernel_rfl) rfl (Ca.move) (fun Q0 k0 => L.move hF rfl rfl rfl (L.nil k0)) ?_
            exact A.on (hO _ _ _ n1) (Le.mk [] hm rfl ⟨⟨_, rfl, rfl⟩, ⟨_, rfl, rfl⟩, ⟨_, rfl, rfl⟩, ⟨_, rfl, rfl⟩, trivial⟩ trivial trivial)
          exact hI _ _ _ (A.on (hO _ _ _ n0) (Le.mk [] hm rfl ⟨⟨_, rfl, rfl⟩, ⟨_, rfl, rfl⟩, ⟨_, rfl, rfl⟩, trivial⟩ trivial trivial))
        · replace H := condF hc H
          refine WpC.skip ?_
          refine WpC.regionL ?_
          refine L.move hF rfl rfl rfl ?_
          refine L.bin hF rfl rfl rfl rfl rfl rfl ?_
          refine L.assign hF rfl rfl rfl ?_
          refine L.nil ?_
          exact ⟨k2, _, by omega, ⟨v82, (Go.bits .or .i64 v83 (shlI .i64 ((b92 &&& (127 : UInt8)).toNat : Int) (IntKind.i64.wrap ((7 : Int) * v84)))), (IntKind.i64.wrap (v84 + (1 : Int))), by omega, H, rfl⟩, Le.mk [] hm rfl ⟨⟨_, rfl, rfl⟩, ⟨_, rfl, rfl⟩, ⟨_, rfl, rfl⟩, trivial⟩ trivial trivial⟩
      · replace H := condF hc H
        refine WpC.exit ?_
        refine WpC.seq ?_
        refine WpC.regionL ?_
        refine L.assign hF rfl rfl rfl ?_
        refine L.assign hF rfl rfl rfl ?_
        refine L.nil ?_
        refine WpC.ret ?_
        cases H
        exact Leaves.ret rfl rfl rfl ⟨rfl, rfl⟩
    · replace H := condF hc H
      refine L.off hF rfl rfl ?_
      refine L.off hF rfl rfl ?_
      refine L.pick hF rfl rfl rfl rfl ?_
      refine L.nil ?_
      refine WpC.cond rfl (fun hc => by cases hc) (fun _ => ?_)
      refine WpC.exit ?_
      refine WpC.seq ?_
      refine WpC.regionL ?_
      refine L.assign hF rfl rfl rfl ?_
      refine L.assign hF rfl rfl rfl ?_
      refine L.nil ?_
      refine WpC.ret ?_
      cases H
      exact Leaves.ret rfl rfl rfl ⟨rfl, rfl⟩
/-! ### Fimpl_varAt -/
def Fimpl_varAt (k : Nat) (a0 : List UInt8) (a1 : Int) : Option (Int × Int) := (cut? a0 a1 (a0.length : Int)).bind fun b1 => (Fimpl_ReadVar k b1).bind fun r2 => cond (r2.2 == (0 : Int)) (some ((-1 : Int), a1)) (some (r2.1, (IntKind.i64.wrap (a1 + r2.2))))
theorem ent218 : Enters Try.prog 218 := ⟨Try.f218, Try.func218, rfl, by decide⟩
set_option maxHeartbeats 8000000 in
set_option maxRecDepth 100000 in
theorem Fimpl_varAt_gives (k : Nat) (a0 : List UInt8) (a1 : Int) (r : Int × Int) (H : Fimpl_varAt k a0 a1 = some r) : Gives Try.prog 218 [V.one (cS a0), V.one (cI a1)] [] [V.one (cI r.1), V.one (cI r.2)] [] := by
  refine Gives.intro Try.func218 rfl rfl rfl rfl ?_
  intro F hF hm
  unfold Fimpl_varAt at H
  obtain ⟨K, hK⟩ : ∃ K, k ≤ K := ⟨k, Nat.le_refl k⟩
  refine WpC.seq ?_
  refine WpC.regionL ?_
  refine L.assign hF rfl rfl rfl ?_
  refine L.assign hF rfl rfl rfl ?_
  refine L.nil ?_
  refine WpC.seq ?_
  refine WpC.regionL ?_
  refine L.move hF rfl rfl rfl ?_
  refine L.move hF rfl rfl rfl ?_
  obtain ⟨b1, hb1, H⟩ := bindS H
  refine L.cutS Try.underlying9 hF rfl rfl rfl rfl rfl hb1 ?_
  obtain ⟨r2, hr2, H⟩ := bindS H
  refine L.call [false] [] [] 2 hF rfl rfl rfl ent217 rfl rfl rfl rfl rfl (Fimpl_ReadVar_gives k  b1 r2 hr2) rfl ?_
  refine L.move hF rfl rfl rfl ?_
  refine L.extract hF rfl rfl rfl rfl ?_
  refine L.extract hF rfl rfl rfl rfl ?_
  refine L.assign hF rfl rfl rfl ?_
  refine L.assign hF rfl rfl rfl ?_
  refine L.nil ?_
  refine WpC.seq ?_
  refine WpC.seq ?_
  refine WpC.regionL ?_
  refine L.move hF rfl rfl rfl ?_
  refine L.bin hF rfl rfl rfl rfl rfl rfl ?_
  refine L.nil ?_
  refine WpC.cond rfl (fun hc => ?_) (fun hc => ?_)
  · replace H := condT hc H
    refine WpC.seq ?_
    refine WpC.regionL ?_
    refine L.move hF rfl rfl rfl ?_
    refine L.assign hF rfl rfl rfl ?_
    refine L.assign hF rfl rfl rfl ?_
    refine L.nil ?_
    refine WpC.ret ?_
    cases H
    exact Leaves.ret rfl rfl rfl ⟨rfl, rfl⟩
  · replace H := condF hc H
    refine WpC.skip ?_
    refine WpC.seq ?_
    refine WpC.regionL ?_
    refine L.move hF rfl rfl rfl ?_
    refine L.move hF rfl rfl rfl ?_
    refine L.move hF rfl rfl rfl ?_
    refine L.bin hF rfl rfl rfl rfl rfl rfl ?_
    refine L.assign hF rfl rfl rfl ?_
    refine L.assign hF rfl rfl rfl ?_
    refine L.nil ?_
    refine WpC.ret ?_
    cases H
    exact Leaves.ret rfl rfl rfl ⟨rfl, rfl⟩
/-! ### Fimpl_isKey -/
def Fimpl_isKey (k : Nat) (a0 : Int) : Option Bool := (Fimpl_within k a0 (1 : Int) (1000000 : Int)).bind fun r1 => some r1
theorem ent277 : Enters Try.prog 277 := ⟨Try.f277, Try.func277, rfl, by decide⟩
set_option maxHeartbeats 8000000 in
set_option maxRecDepth 100000 in
theorem Fimpl_isKey_gives (k : Nat) (a0 : Int) (r : Bool) (H : Fimpl_isKey k a0 = some r) : Gives Try.prog 277 [V.one (cI a0)] [] [V.one (cL r)] [] := by
  refine Gives.intro Try.func277 rfl rfl rfl rfl ?_
  intro F hF hm
  unfold Fimpl_isKey at H
  obtain ⟨K, hK⟩ : ∃ K, k ≤ K := ⟨k, Nat.le_refl k⟩
  refine WpC.seq ?_
  refine WpC.regionL ?_
  refine L.assign hF rfl rfl rfl ?_
  refine L.nil ?_
  refine WpC.seq ?_
  refine WpC.regionL ?_
  refine L.move hF rfl rfl rfl ?_
  obtain ⟨r1, hr1, H⟩ := bindS H
  refine L.call [false, false, false] [] [] 1 hF rfl rfl rfl ent113 rfl rfl rfl rfl rfl (Fimpl_within_gives k  a0 (1 : Int) (1000000 : Int) r1 hr1) rfl ?_
  refine L.assign hF rfl rfl rfl ?_
  refine L.nil ?_
  refine WpC.ret ?_
  cases H
  exact Leaves.ret rfl rfl rfl ⟨rfl, rfl⟩
/-! ### Fimpl_termAt -/
def Fimpl_termAt.l4 (cREC : (List UInt8) → Int → Int → Option Int) : Nat → (List UInt8) → Int → Int → Int → Int → Option Int
  | 0, _, _, _, _, _ => none
  | k4 + 1, v96, v97, v98, v99, v100 => cond (decide (v100 < v98)) (cond (decide (v99 ≥ (0 : Int))) ((cREC v96 v99 (IntKind.i64.wrap (v97 - (1 : Int)))).bind fun r102 => (Fimpl_termAt.l4 cREC k4) v96 v97 v98 r102 (IntKind.i64.wrap (v100 + (1 : Int)))) (some v99)) (some v99)
def Fimpl_termAt : Nat → (List UInt8) → Int → Int → Option Int
  | 0, _, _, _ => none
  | k + 1, a0, a1, a2 => cond (decide (a1 ≥ (a0.length : Int))) (some (-1 : Int)) (cond (decide (a2 < (1 : Int))) (some (-1 : Int)) ((Fimpl_varAt k a0 (IntKind.i64.wrap (a1 + (1 : Int)))).bind fun r1 => (at? a0 a1).bind fun b54 => cond (b54 == (97 : UInt8)) ((Fimpl_within k r1.1 (0 : Int) (40 : Int)).bind fun r58 => cond (!r58) (some (-1 : Int)) (cond (decide (r1.1 > (IntKind.i64.wrap ((a0.length : Int) - r1.2)))) (some (-1 : Int)) (some (IntKind.i64.wrap (r1.2 + r1.1))))) (cond (b54 == (107 : UInt8)) ((Fimpl_isKey k r1.1).bind fun r60 => cond (!r60) (some (-1 : Int)) (some r1.2)) (cond (b54 == (108 : UInt8)) ((Fimpl_within k r1.1 (0 : Int) (12 : Int)).bind fun r62 => cond (!r62) (some (-1 : Int)) (Fimpl_termAt.l4 (Fimpl_termAt k) k a0 a2 r1.1 r1.2 (0 : Int))) (cond (b54 == (115 : UInt8)) ((Fimpl_isKey k r1.1).bind fun r104 => cond (!r104) (some (-1 : Int)) (((Fimpl_termAt k) a0 r1.2 (IntKind.i64.wrap (a2 - (1 : Int)))).bind fun r105 => some r105)) (some (-1 : Int)))))))
theorem ent236 : Enters Try.prog 236 := ⟨Try.f236, Try.func236, rfl, by decide⟩
set_option maxHeartbeats 8000000 in
set_option maxRecDepth 100000 in
theorem Fimpl_termAt_gives : ∀ (k : Nat) (a0 : List UInt8) (a1 : Int) (a2 : Int) (r : Int) (H : Fimpl_termAt k a0 a1 a2 = some r), Gives Try.prog 236 [V.one (cS a0), V.one (cI a1), V.one (cI a2)] [] [V.one (cI r)] [] := by
  intro k
  induction k with
  | zero => intros; rename_i H; cases H
  | succ k ih =>
    intro a0 a1 a2 r H
    refine Gives.intro Try.func236 rfl rfl rfl rfl ?_
    intro F hF hm
    rw [Fimpl_termAt] at H
    obtain ⟨K, hK⟩ : ∃ K, k ≤ K := ⟨k, Nat.le_refl k⟩
    refine WpC.seq ?_
    refine WpC.regionL ?_
    refine L.assign hF rfl rfl rfl ?_
    refine L.nil ?_
    refine WpC.seq ?_
    refine WpC.seq ?_
    refine WpC.regionL ?_
    refine L.move hF rfl rfl rfl ?_
    refine L.move hF rfl rfl rfl ?_
    refine L.lenS Try.underlying9 hF rfl rfl rfl ?_
    refine L.bin hF rfl rfl rfl rfl rfl rfl ?_
    refine L.move hF rfl rfl rfl ?_
    refine L.split (fun hc => ?_) (fun hc => ?_)
    · replace H := condT hc H
      refine L.off hF rfl rfl ?_
      refine L.off hF rfl rfl ?_
      refine L.pick hF rfl rfl rfl rfl ?_
      refine L.nil ?_
      refine WpC.cond rfl (fun _ => ?_) (fun hc => by cases hc)
      refine WpC.seq ?_
      refine WpC.regionL ?_
      refine L.assign hF rfl rfl rfl ?_
      refine L.nil ?_
      refine WpC.ret ?_
      cases H
      exact Leaves.ret rfl rfl rfl ⟨rfl, rfl⟩
    · replace H := condF hc H
      refine L.move hF rfl rfl rfl ?_
      refine L.bin hF rfl rfl rfl rfl rfl rfl ?_
      refine L.pick hF rfl rfl rfl rfl ?_
      refine L.nil ?_
      refine WpC.cond rfl (fun hc => ?_) (fun hc => ?_)
      · replace H := condT hc H
        refine WpC.seq ?_
        refine WpC.regionL ?_
        refine L.assign hF rfl rfl rfl ?_
        refine L.nil ?_
        refine WpC.ret ?_
        cases H
        exact Leaves.ret rfl rfl rfl ⟨rfl, rfl⟩
      · replace H := condF hc H
        refine WpC.skip ?_
        refine WpC.seq ?_
        refine WpC.regionL ?_
        refine L.move hF rfl rfl rfl ?_
        refine L.move hF rfl rfl rfl ?_
        refine L.bin hF rfl rfl rfl rfl rfl rfl ?_
        obtain ⟨r1, hr1, H⟩ := bindS H
        refine L.call [false, false] [] [] 3 hF rfl rfl rfl ent218 rfl rfl rfl rfl rfl (Fimpl_varAt_gives k  a0 (IntKind.i64.wrap (a1 + (1 : Int))) r1 hr1) rfl ?_
        refine L.move hF rfl rfl rfl ?_
        refine L.extract hF rfl rfl rfl rfl ?_
        refine L.extract hF rfl rfl rfl rfl ?_
        refine L.assign hF rfl rfl rfl ?_
        refine L.assign hF rfl rfl rfl ?_
        refine L.nil ?_
        refine WpC.seq ?_
        refine WpC.seq ?_
        refine WpC.regionL ?_
        refine L.move hF rfl rfl rfl ?_
        refine L.move hF rfl rfl rfl ?_
        obtain ⟨b54, hb54, H⟩ := bindS H
        refine L.idxS Try.underlying9 hF rfl rfl rfl rfl hb54 ?_
        refine L.nil ?_
        refine WpC.block ?_
        refine WpC.seq ?_
        refine WpC.regionL ?_
        refine L.binB (a := b54) (b := (97 : UInt8)) hF rfl rfl rfl rfl rfl ?_
        refine L.assign hF rfl rfl rfl ?_
        refine L.nil ?_
        refine WpC.cond rfl (fun hc => ?_) (fun hc => ?_)
        · replace H := condT hc H
          refine WpC.seq ?_
          refine WpC.seq ?_
          refine WpC.regionL ?_
          refine L.move hF rfl rfl rfl ?_
          obtain ⟨r58, hr58, H⟩ := bindS H
          refine L.call [false, false, false] [] [] 5 hF rfl rfl rfl ent113 rfl rfl rfl rfl rfl (Fimpl_within_gives k  r1.1 (0 : Int) (40 : Int) r58 hr58) rfl ?_
          refine L.not hF rfl rfl rfl ?_
          refine L.move hF rfl rfl rfl ?_
          refine L.split (fun hc => ?_) (fun hc => ?_)
          · replace H := condT hc H
            refine L.off hF rfl rfl ?_
            refine L.off hF rfl rfl ?_
            refine L.off hF rfl rfl ?_
            refine L.off hF rfl rfl ?_
            refine L.off hF rfl rfl ?_
            refine L.off hF rfl rfl ?_
            refine L.pick hF rfl rfl rfl rfl ?_
            refine L.nil ?_
            refine WpC.cond rfl (fun _ => ?_) (fun hc => by cases hc)
            refine WpC.seq ?_
            refine WpC.regionL ?_
            refine L.assign hF rfl rfl rfl ?_
            refine L.nil ?_
            refine WpC.ret ?_
            cases H
            exact Leaves.ret rfl rfl rfl ⟨rfl, rfl⟩
          · replace H := condF hc H
            refine L.move hF rfl rfl rfl ?_
            refine L.move hF rfl rfl rfl ?_
            refine L.lenS Try.underlying9 hF rfl rfl rfl ?_
            refine L.move hF rfl rfl rfl ?_
            refine L.bin hF rfl rfl rfl rfl rfl rfl ?_
            refine L.bin hF rfl rfl rfl rfl rfl rfl ?_
            refine L.pick hF rfl rfl rfl rfl ?_
            refine L.nil ?_
            refine WpC.cond rfl (fun hc => ?_) (fun hc => ?_)
            · replace H := condT hc H
              refine WpC.seq ?_
              refine WpC.regionL ?_
              refine L.assign hF rfl rfl rfl ?_
              refine L.nil ?_
              refine WpC.ret ?_
              cases H
              exact Leaves.ret rfl rfl rfl ⟨rfl, rfl⟩
            · replace H := condF hc H
              refine WpC.skip ?_
              refine WpC.seq ?_
              refine WpC.regionL ?_
              refine L.move hF rfl rfl rfl ?_
              refine L.move hF rfl rfl rfl ?_
              refine L.bin hF rfl rfl rfl rfl rfl rfl ?_
              refine L.assign hF rfl rfl rfl ?_
              refine L.nil ?_
              refine WpC.ret ?_
              cases H
              exact Leaves.ret rfl rfl rfl ⟨rfl, rfl⟩
        · replace H := condF hc H
          refine WpC.seq ?_
          refine WpC.regionL ?_
          refine L.binB (a := b54) (b := (107 : UInt8)) hF rfl rfl rfl rfl rfl ?_
          refine L.assign hF rfl rfl rfl ?_
          refine L.nil ?_
          refine WpC.cond rfl (fun hc => ?_) (fun hc => ?_)
          · replace H := condT hc H
            refine WpC.seq ?_
            refine WpC.seq ?_
            refine WpC.regionL ?_
            refine L.move hF rfl rfl rfl ?_
            obtain ⟨r60, hr60, H⟩ := bindS H
            refine L.call [false] [] [] 5 hF rfl rfl rfl ent277 rfl rfl rfl rfl rfl (Fimpl_isKey_gives k  r1.1 r60 hr60) rfl ?_
            refine L.not hF rfl rfl rfl ?_
            refine L.nil ?_
            refine WpC.cond rfl (fun hc => ?_) (fun hc => ?_)
            · replace H := condT hc H
              refine WpC.seq ?_
              refine WpC.regionL ?_
              refine L.assign hF rfl rfl rfl ?_
              refine L.nil ?_
              refine WpC.ret ?_
              cases H
              exact Leaves.ret rfl rfl rfl ⟨rfl, rfl⟩
            · replace H := condF hc H
              refine WpC.skip ?_
              refine WpC.seq ?_
              refine WpC.regionL ?_
              refine L.move hF rfl rfl rfl ?_
              refine L.assign hF rfl rfl rfl ?_
              refine L.nil ?_
              refine WpC.ret ?_
              cases H
              exact Leaves.ret rfl rfl rfl ⟨rfl, rfl⟩
          · replace H := condF hc H
            refine WpC.seq ?_
            refine WpC.regionL ?_
            refine L.binB (a := b54) (b := (108 : UInt8)) hF rfl rfl rfl rfl rfl ?_
            refine L.assign hF rfl rfl rfl ?_
            refine L.nil ?_
            refine WpC.cond rfl (fun hc => ?_) (fun hc => ?_)
            · replace H := condT hc H
              refine WpC.seq ?_
              refine WpC.seq ?_
              refine WpC.regionL ?_
              refine L.move hF rfl rfl rfl ?_
              obtain ⟨r62, hr62, H⟩ := bindS H
              refine L.call [false, false, false] [] [] 5 hF rfl rfl rfl ent113 rfl rfl rfl rfl rfl (Fimpl_within_gives k  r1.1 (0 : Int) (12 : Int) r62 hr62) rfl ?_
              refine L.not hF rfl rfl rfl ?_
              refine L.nil ?_
              refine WpC.cond rfl (fun hc => ?_) (fun hc => ?_)
              · replace H := condT hc H
                refine WpC.seq ?_
                refine WpC.regionL ?_
                refine L.assign hF rfl rfl rfl ?_
                refine L.nil ?_
                refine WpC.ret ?_
                cases H
                exact Leaves.ret rfl rfl rfl ⟨rfl, rfl⟩
              · replace H := condF hc H
                refine WpC.skip ?_
                refine WpC.seq ?_
                refine WpC.seq ?_
                refine WpC.regionL ?_
                refine L.assign hF rfl rfl rfl ?_
                refine L.nil ?_
                refine WpC.block ?_
                refine WpC.loopL (P := Try.prog) (fun n σ => ∃ v96 : List UInt8, ∃ v97 : Int, ∃ v98 : Int, ∃ v99 : Int, ∃ v100 : Int, n ≤ K ∧ Fimpl_termAt.l4 (Fimpl_termAt k) n v96 v97 v98 v99 v100 = some r ∧ σ = mkSt [(0, one (cS v96)), (2, one (cI v97)), (7, one (cI v98)), (8, one (cI v99)), (9, one (cI v100))] [] [] 0) k ⟨_, ⟨a0, a2, r1.1, r1.2, (0 : Int), by omega, H, rfl⟩, Le.mk [] hm rfl ⟨⟨_, rfl, rfl⟩, ⟨_, rfl, rfl⟩, ⟨_, rfl, rfl⟩, ⟨_, rfl, rfl⟩, ⟨_, rfl, rfl⟩, trivial⟩ trivial trivial⟩ ?_
                clear H
                rintro k4 _ ⟨v96, v97, v98, v99, v100, hk4, H, rfl⟩
                cases k4 with
                | zero => cases H
                | succ k4 =>
                  rw [Fimpl_termAt.l4] at H
                  refine WpC.seq ?_
                  refine WpC.seq ?_
                  refine WpC.regionL ?_
                  refine L.move hF rfl rfl rfl ?_
                  refine L.move hF rfl rfl rfl ?_
                  refine L.bin hF rfl rfl rfl rfl rfl rfl ?_
                  refine L.move hF rfl rfl rfl ?_
                  refine L.split (fun hc => ?_) (fun hc => ?_)
                  · replace H := condT hc H
                    refine L.move hF rfl rfl rfl ?_
                    refine L.bin hF rfl rfl rfl rfl rfl rfl ?_
                    refine L.pick hF rfl rfl rfl rfl ?_
                    refine L.nil ?_
                    refine WpC.cond rfl (fun hc => ?_) (fun hc => ?_)
                    · replace H := condT hc H
                      refine WpC.skip ?_
                      refine WpC.seq ?_
                      refine WpC.block ?_
                      refine WpC.regionL ?_
                      refine L.move hF rfl rfl rfl ?_
                      refine L.move hF rfl rfl rfl ?_
                      refine L.move hF rfl rfl rfl ?_
                      refine L.bin hF rfl rfl rfl rfl rfl rfl ?_
                      obtain ⟨r102, hr102, H⟩ := bindS H
                      refine L.call [false, false, false] [] [] 0 hF rfl rfl rfl ent236 rfl rfl rfl rfl rfl (ih  v96 v99 (IntKind.i64.wrap (v97 - (1 : Int))) r102 hr102) rfl ?_
                      refine L.assign hF rfl rfl rfl ?_
                      refine L.nil ?_
                      refine WpC.regionL ?_
                      refine L.move hF rfl rfl rfl ?_
                      refine L.bin hF rfl rfl rfl rfl rfl rfl ?_
                      refine L.assign hF rfl rfl rfl ?_
                      refine L.nil ?_
                      exact ⟨k4, _, by omega, ⟨v96, v97, v98, r102, (IntKind.i64.wrap (v100 + (1 : Int))), by omega, H, rfl⟩, Le.mk [] hm rfl ⟨⟨_, rfl, rfl⟩, ⟨_, rfl, rfl⟩, ⟨_, rfl, rfl⟩, ⟨_, rfl, rfl⟩, ⟨_, rfl, rfl⟩, trivial⟩ trivial trivial⟩
                    · replace H := condF hc H
                      refine WpC.exit ?_
                      refine WpC.seq ?_
                      refine WpC.regionL ?_
                      refine L.move hF rfl rfl rfl ?_
                      refine L.assign hF rfl rfl rfl ?_
                      refine L.nil ?_
                      refine WpC.ret ?_
                      cases H
                      exact Leaves.ret rfl rfl rfl ⟨rfl, rfl⟩
                  · replace H := condF hc H
                    refine L.off hF rfl rfl ?_
                    refine L.off hF rfl rfl ?_
                    refine L.pick hF rfl rfl rfl rfl ?_
                    refine L.nil ?_
                    refine WpC.cond rfl (fun hc => by cases hc) (fun _ => ?_)
                    refine WpC.exit ?_
                    refine WpC.seq ?_
                    refine WpC.regionL ?_
                    refine L.move hF rfl rfl rfl ?_
                    refine L.assign hF rfl rfl rfl ?_
                    refine L.nil ?_
                    refine WpC.ret ?_
                    cases H
                    exact Leaves.ret rfl rfl rfl ⟨rfl, rfl⟩
            · replace H := condF hc H
              refine WpC.seq ?_
              refine WpC.regionL ?_
              refine L.binB (a := b54) (b := (115 : UInt8)) hF rfl rfl rfl rfl rfl ?_
              refine L.assign hF rfl rfl rfl ?_
              refine L.nil ?_
              refine WpC.cond rfl (fun hc => ?_) (fun hc => ?_)
              · replace H := condT hc H
                refine WpC.seq ?_
                refine WpC.seq ?_
                refine WpC.regionL ?_
                refine L.move hF rfl rfl rfl ?_
                obtain ⟨r104, hr104, H⟩ := bindS H
                refine L.call [false] [] [] 5 hF rfl rfl rfl ent277 rfl rfl rfl rfl rfl (Fimpl_isKey_gives k  r1.1 r104 hr104) rfl ?_
                refine L.not hF rfl rfl rfl ?_
                refine L.nil ?_
                refine WpC.cond rfl (fun hc => ?_) (fun hc => ?_)
                · replace H := condT hc H
                  refine WpC.seq ?_
                  refine WpC.regionL ?_
                  refine L.assign hF rfl rfl rfl ?_
                  refine L.nil ?_
                  refine WpC.ret ?_
                  cases H
                  exact Leaves.ret rfl rfl rfl ⟨rfl, rfl⟩
                · replace H := condF hc H
                  refine WpC.skip ?_
                  refine WpC.seq ?_
                  refine WpC.regionL ?_
                  refine L.move hF rfl rfl rfl ?_
                  refine L.move hF rfl rfl rfl ?_
                  refine L.move hF rfl rfl rfl ?_
                  refine L.bin hF rfl rfl rfl rfl rfl rfl ?_
                  obtain ⟨r105, hr105, H⟩ := bindS H
                  refine L.call [false, false, false] [] [] 6 hF rfl rfl rfl ent236 rfl rfl rfl rfl rfl (ih  a0 r1.2 (IntKind.i64.wrap (a2 - (1 : Int))) r105 hr105) rfl ?_
                  refine L.assign hF rfl rfl rfl ?_
                  refine L.nil ?_
                  refine WpC.ret ?_
                  cases H
                  exact Leaves.ret rfl rfl rfl ⟨rfl, rfl⟩
              · replace H := condF hc H
                refine WpC.skip ?_
                refine WpC.seq ?_
                refine WpC.regionL ?_
                refine L.assign hF rfl rfl rfl ?_
                refine L.nil ?_
                refine WpC.ret ?_
                cases H
                exact Leaves.ret rfl rfl rfl ⟨rfl, rfl⟩
/-! ### Fimpl_TermOk -/
def Fimpl_TermOk (k : Nat) (a0 : List UInt8) : Option Bool := (Fimpl_within k (a0.length : Int) (1 : Int) (900 : Int)).bind fun r3 => cond r3 ((Fimpl_termAt k a0 (0 : Int) (8 : Int)).bind fun r4 => some (r4 == (a0.length : Int))) (some false)
theorem ent274 : Enters Try.prog 274 := ⟨Try.f274, Try.func274, rfl, by decide⟩
set_option maxHeartbeats 8000000 in
set_option maxRecDepth 100000 in
theorem Fimpl_TermOk_gives (k : Nat) (a0 : List UInt8) (r : Bool) (H : Fimpl_TermOk k a0 = some r) : Gives Try.prog 274 [V.one (cS a0)] [] [V.one (cL r)] [] := by
  refine Gives.intro Try.func274 rfl rfl rfl rfl ?_
  intro F hF hm
  unfold Fimpl_TermOk at H
  obtain ⟨K, hK⟩ : ∃ K, k ≤ K := ⟨k, Nat.le_refl k⟩
  refine WpC.seq ?_
  refine WpC.regionL ?_
  refine L.assign hF rfl rfl rfl ?_
  refine L.nil ?_
  refine WpC.seq ?_
  refine WpC.regionL ?_
  refine L.move hF rfl rfl rfl ?_
  refine L.lenS Try.underlying9 hF rfl rfl rfl ?_
  obtain ⟨r3, hr3, H⟩ := bindS H
  refine L.call [false, false, false] [] [] 1 hF rfl rfl rfl ent113 rfl rfl rfl rfl rfl (Fimpl_within_gives k  (a0.length : Int) (1 : Int) (900 : Int) r3 hr3) rfl ?_
  refine L.move hF rfl rfl rfl ?_
  refine L.split (fun hc => ?_) (fun hc => ?_)
  · replace H := condT hc H
    refine L.move hF rfl rfl rfl ?_
    obtain ⟨r4, hr4, H⟩ := bindS H
    refine L.call [false, false, false] [] [] 2 hF rfl rfl rfl ent236 rfl rfl rfl rfl rfl (Fimpl_termAt_gives k  a0 (0 : Int) (8 : Int) r4 hr4) rfl ?_
    refine L.move hF rfl rfl rfl ?_
    refine L.lenS Try.underlying9 hF rfl rfl rfl ?_
    refine L.bin hF rfl rfl rfl rfl rfl rfl ?_
    refine L.pick hF rfl rfl rfl rfl ?_
    refine L.assign hF rfl rfl rfl ?_
    refine L.nil ?_
    refine WpC.ret ?_
    cases H
    exact Leaves.ret rfl rfl rfl ⟨rfl, rfl⟩
  · replace H := condF hc H
    refine L.off hF rfl rfl ?_
    refine L.off hF rfl rfl ?_
    refine L.off hF rfl rfl ?_
    refine L.off hF rfl rfl ?_
    refine L.off hF rfl rfl ?_
    refine L.pick hF rfl rfl rfl rfl ?_
    refine L.assign hF rfl rfl rfl ?_
    refine L.nil ?_
    refine WpC.ret ?_
    cases H
    exact Leaves.ret rfl rfl rfl ⟨rfl, rfl⟩
/-! ### Fimpl_term -/
def Fimpl_term (k : Nat) (a0 : List UInt8) : Option (List UInt8) := (Fimpl_TermOk k a0).bind fun r2 => cond (!r2) (some ([] : List UInt8)) (some a0)
theorem ent275 : Enters Try.prog 275 := ⟨Try.f275, Try.func275, rfl, by decide⟩
set_option maxHeartbeats 8000000 in
set_option maxRecDepth 100000 in
theorem Fimpl_term_gives (k : Nat) (a0 : List UInt8) (r : List UInt8) (H : Fimpl_term k a0 = some r) : Gives Try.prog 275 [V.one (cS a0)] [] [V.one (cS r)] [] := by
  refine Gives.intro Try.func275 rfl rfl rfl rfl ?_
  intro F hF hm
  unfold Fimpl_term at H
  obtain ⟨K, hK⟩ : ∃ K, k ≤ K := ⟨k, Nat.le_refl k⟩
  refine WpC.seq ?_
  refine WpC.regionL ?_
  refine L.assign hF rfl rfl rfl ?_
  refine L.nil ?_
  refine WpC.seq ?_
  refine WpC.seq ?_
  refine WpC.regionL ?_
  refine L.move hF rfl rfl rfl ?_
  obtain ⟨r2, hr2, H⟩ := bindS H
  refine L.call [false] [] [] 1 hF rfl rfl rfl ent274 rfl rfl rfl rfl rfl (Fimpl_TermOk_gives k  a0 r2 hr2) rfl ?_
  refine L.not hF rfl rfl rfl ?_
  refine L.nil ?_
  refine WpC.cond rfl (fun hc => ?_) (fun hc => ?_)
  · replace H := condT hc H
    refine WpC.seq ?_
    refine WpC.regionL ?_
    refine L.assign hF rfl rfl rfl ?_
    refine L.nil ?_
    refine WpC.ret ?_
    cases H
    exact Leaves.ret rfl rfl rfl ⟨rfl, rfl⟩
  · replace H := condF hc H
    refine WpC.skip ?_
    refine WpC.seq ?_
    refine WpC.regionL ?_
    refine L.move hF rfl rfl rfl ?_
    refine L.assign hF rfl rfl rfl ?_
    refine L.nil ?_
    refine WpC.ret ?_
    cases H
    exact Leaves.ret rfl rfl rfl ⟨rfl, rfl⟩
/-! ### Fimpl_Atom -/
def Fimpl_Atom (k : Nat) (a0 : List UInt8) : Option (List UInt8) := (Fimpl_Var k (a0.length : Int)).bind fun r1 => cond (decide (([97] : List UInt8).length + r1.length ≤ 9223372036854775807)) (cond (decide ((([97] : List UInt8) ++ r1).length + a0.length ≤ 9223372036854775807)) ((Fimpl_term k ((([97] : List UInt8) ++ r1) ++ a0)).bind fun r4 => some r4) none) none
theorem ent273 : Enters Try.prog 273 := ⟨Try.f273, Try.func273, rfl, by decide⟩
set_option maxHeartbeats 8000000 in
set_option maxRecDepth 100000 in
theorem Fimpl_Atom_gives (k : Nat) (a0 : List UInt8) (r : List UInt8) (H : Fimpl_Atom k a0 = some r) : Gives Try.prog 273 [V.one (cS a0)] [] [V.one (cS r)] [] := by
  refine Gives.intro Try.func273 rfl rfl rfl rfl ?_
  intro F hF hm
  unfold Fimpl_Atom at H
  obtain ⟨K, hK⟩ : ∃ K, k ≤ K := ⟨k, Nat.le_refl k⟩
  refine WpC.seq ?_
  refine WpC.regionL ?_
  refine L.assign hF rfl rfl rfl ?_
  refine L.nil ?_
  refine WpC.seq ?_
  refine WpC.regionL ?_
  refine L.move hF rfl rfl rfl ?_
  refine L.lenS Try.underlying9 hF rfl rfl rfl ?_
  obtain ⟨r1, hr1, H⟩ := bindS H
  refine L.call [false] [] [] 1 hF rfl rfl rfl ent124 rfl rfl rfl rfl rfl (Fimpl_Var_gives k  (a0.length : Int) r1 hr1) rfl ?_
  obtain ⟨h2, H⟩ := condG H
  refine L.catS hF rfl rfl rfl rfl (of_decide_eq_true h2) ?_
  refine L.move hF rfl rfl rfl ?_
  obtain ⟨h3, H⟩ := condG H
  refine L.catS hF rfl rfl rfl rfl (of_decide_eq_true h3) ?_
  obtain ⟨r4, hr4, H⟩ := bindS H
  refine L.call [false] [] [] 2 hF rfl rfl rfl ent275 rfl rfl rfl rfl rfl (Fimpl_term_gives k  ((([97] : List UInt8) ++ r1) ++ a0) r4 hr4) rfl ?_
  refine L.assign hF rfl rfl rfl ?_
  refine L.nil ?_
  refine WpC.ret ?_
  cases H
  exact Leaves.ret rfl rfl rfl ⟨rfl, rfl⟩
/-! ### Fimpl_Num -/
def Fimpl_Num (k : Nat) (a0 : Int) : Option (List UInt8) := (Fimpl_Var k a0).bind fun r1 => cond (r1 == ([] : List UInt8)) (some ([] : List UInt8)) ((Fimpl_Atom k r1).bind fun r2 => some r2)
theorem ent227 : Enters Try.prog 227 := ⟨Try.f227, Try.func227, rfl, by decide⟩
set_option maxHeartbeats 8000000 in
set_option maxRecDepth 100000 in
theorem Fimpl_Num_gives (k : Nat) (a0 : Int) (r : List UInt8) (H : Fimpl_Num k a0 = some r) : Gives Try.prog 227 [V.one (cI a0)] [] [V.one (cS r)] [] := by
  refine Gives.intro Try.func227 rfl rfl rfl rfl ?_
  intro F hF hm
  unfold Fimpl_Num at H
  obtain ⟨K, hK⟩ : ∃ K, k ≤ K := ⟨k, Nat.le_refl k⟩
  refine WpC.seq ?_
  refine WpC.regionL ?_
  refine L.assign hF rfl rfl rfl ?_
  refine L.nil ?_
  refine WpC.seq ?_
  refine WpC.regionL ?_
  refine L.move hF rfl rfl rfl ?_
  obtain ⟨r1, hr1, H⟩ := bindS H
  refine L.call [false] [] [] 1 hF rfl rfl rfl ent124 rfl rfl rfl rfl rfl (Fimpl_Var_gives k  a0 r1 hr1) rfl ?_
  refine L.assign hF rfl rfl rfl ?_
  refine L.nil ?_
  refine WpC.seq ?_
  refine WpC.seq ?_
  refine WpC.regionL ?_
  refine L.move hF rfl rfl rfl ?_
  refine L.binS hF rfl rfl rfl rfl rfl ?_
  refine L.nil ?_
  refine WpC.cond rfl (fun hc => ?_) (fun hc => ?_)
  · replace H := condT hc H
    refine WpC.seq ?_
    refine WpC.regionL ?_
    refine L.assign hF rfl rfl rfl ?_
    refine L.nil ?_
    refine WpC.ret ?_
    cases H
    exact Leaves.ret rfl rfl rfl ⟨rfl, rfl⟩
  · replace H := condF hc H
    refine WpC.skip ?_
    refine WpC.seq ?_
    refine WpC.regionL ?_
    refine L.move hF rfl rfl rfl ?_
    obtain ⟨r2, hr2, H⟩ := bindS H
    refine L.call [false] [] [] 2 hF rfl rfl rfl ent273 rfl rfl rfl rfl rfl (Fimpl_Atom_gives k  r1 r2 hr2) rfl ?_
    refine L.assign hF rfl rfl rfl ?_
    refine L.nil ?_
    refine WpC.ret ?_
    cases H
    exact Leaves.ret rfl rfl rfl ⟨rfl, rfl⟩
/-! ### Fimpl_List -/
def Fimpl_List.l2 : Nat → (List UInt8) → (List (List UInt8)) → Int → Int → Option (List UInt8)
  | 0, _, _, _, _ => none
  | k2 + 1, v61, v62, v63, v64 => cond (decide (v64 < v63)) ((at? v62 v64).bind fun b69 => (Fimpl_TermOk k2 b69).bind fun r71 => cond (!r71) (some ([] : List UInt8)) (cond (decide (v61.length + b69.length ≤ 9223372036854775807)) ((Fimpl_List.l2 k2) (v61 ++ b69) v62 v63 (IntKind.i64.wrap (v64 + (1 : Int)))) none)) ((Fimpl_term k2 v61).bind fun r73 => some r73)
def Fimpl_List (k : Nat) (a0 : List (List UInt8)) : Option (List UInt8) := (Fimpl_Var k (a0.length : Int)).bind fun r1 => cond (decide (([108] : List UInt8).length + r1.length ≤ 9223372036854775807)) (Fimpl_List.l2 k (([108] : List UInt8) ++ r1) a0 (a0.length : Int) (0 : Int)) none
theorem ent228 : Enters Try.prog 228 := ⟨Try.f228, Try.func228, rfl, by decide⟩
set_option maxHeartbeats 8000000 in
set_option maxRecDepth 100000 in
theorem Fimpl_List_gives (k : Nat) (g0 : Bool) (a0 : List (List UInt8)) (r : List UInt8) (H : Fimpl_List k a0 = some r) : Gives Try.prog 228 [V.one (Cell.sl g0 (List.map eS a0))] [] [V.one (cS r)] [] := by
  refine Gives.intro Try.func228 rfl rfl rfl rfl ?_
  intro F hF hm
  unfold Fimpl_List at H
  obtain ⟨K, hK⟩ : ∃ K, k ≤ K := ⟨k, Nat.le_refl k⟩
  refine WpC.seq ?_
  refine WpC.regionL ?_
  refine L.assign hF rfl rfl rfl ?_
  refine L.nil ?_
  refine WpC.seq ?_
  refine WpC.regionL ?_
  refine L.move hF rfl rfl rfl ?_
  refine L.lenR (xs := a0) (e := eS) Try.underlying120 hF rfl rfl rfl rfl ?_
  obtain ⟨r1, hr1, H⟩ := bindS H
  refine L.call [false] [] [] 1 hF rfl rfl rfl ent124 rfl rfl rfl rfl rfl (Fimpl_Var_gives k  (a0.length : Int) r1 hr1) rfl ?_
  obtain ⟨h2, H⟩ := condG H
  refine L.catS hF rfl rfl rfl rfl (of_decide_eq_true h2) ?_
  refine L.assign hF rfl rfl rfl ?_
  refine L.nil ?_
  refine WpC.seq ?_
  refine WpC.seq ?_
  refine WpC.regionL ?_
  refine L.move hF rfl rfl rfl ?_
  refine L.lenR (xs := a0) (e := eS) Try.underlying120 hF rfl rfl rfl rfl ?_
  refine L.move hF rfl rfl rfl ?_
  refine L.nil ?_
  refine WpC.block ?_
  refine WpC.loopL (P := Try.prog) (fun n σ => ∃ v61 : List UInt8, ∃ v62 : List (List UInt8), ∃ v63 : Int, ∃ v64 : Int, n ≤ K ∧ Fimpl_List.l2 n v61 v62 v63 v64 = some r ∧ σ = mkSt [(3, one (cS v61)), (10, one (Cell.sl g0 (List.map eS v62))), (11, one (cI v63)), (12, one (cI v64))] [] [] 0) k ⟨_, ⟨(([108] : List UInt8) ++ r1), a0, (a0.length : Int), (0 : Int), by omega, H, rfl⟩, Le.mk [] hm rfl ⟨⟨_, rfl, rfl⟩, ⟨_, rfl, rfl⟩, ⟨_, rfl, rfl⟩, ⟨_, rfl, rfl⟩, trivial⟩ trivial trivial⟩ ?_
  clear H
  rintro k2 _ ⟨v61, v62, v63, v64, hk2, H, rfl⟩
  cases k2 with
  | zero => cases H
  | succ k2 =>
    rw [Fimpl_List.l2] at H
    refine WpC.seq ?_
    refine WpC.regionL ?_
    refine L.bin hF rfl rfl rfl rfl rfl rfl ?_
    refine L.nil ?_
    refine WpC.seq ?_
    refine WpC.cond rfl (fun hc => ?_) (fun hc => ?_)
    · replace H := condT hc H
      refine WpC.skip ?_
      refine WpC.seq ?_
      refine WpC.block ?_
      refine WpC.seq ?_
      refine WpC.regionL ?_
      obtain ⟨b69, hb69, H⟩ := bindS H
      refine L.idxR (xs := v62) (e := eS) Try.underlying120 info9 hF rfl rfl rfl rfl rfl hb69 rfl rfl ?_
      refine L.loadPe shape9 hF rfl rfl rfl rfl rfl ?_
      refine L.assign hF rfl rfl rfl ?_
      refine L.nil ?_
      refine WpC.seq ?_
      refine WpC.seq ?_
      refine WpC.regionL ?_
      refine L.move hF rfl rfl rfl ?_
      obtain ⟨r71, hr71, H⟩ := bindS H
      refine L.call [false] [] [] 0 hF rfl rfl rfl ent274 rfl rfl rfl rfl rfl (Fimpl_TermOk_gives k2  b69 r71 hr71) rfl ?_
      refine L.not hF rfl rfl rfl ?_
      refine L.nil ?_
      refine WpC.cond rfl (fun hc => ?_) (fun hc => ?_)
      · replace H := condT hc H
        refine WpC.seq ?_
        refine WpC.regionL ?_
        refine L.assign hF rfl rfl rfl ?_
        refine L.nil ?_
        refine WpC.ret ?_
        cases H
        exact Leaves.ret rfl rfl rfl ⟨rfl, rfl⟩
      · replace H := condF hc H
        refine WpC.skip ?_
        refine WpC.regionL ?_
        refine L.move hF rfl rfl rfl ?_
        refine L.move hF rfl rfl rfl ?_
        obtain ⟨h72, H⟩ := condG H
        refine L.catS hF rfl rfl rfl rfl (of_decide_eq_true h72) ?_
        refine L.assign hF rfl rfl rfl ?_
        refine L.nil ?_
        refine WpC.regionL ?_
        refine L.bin hF rfl rfl rfl rfl rfl rfl ?_
        refine L.move hF rfl rfl rfl ?_
        refine L.nil ?_
        exact ⟨k2, _, by omega, ⟨(v61 ++ b69), v62, v63, (IntKind.i64.wrap (v64 + (1 : Int))), by omega, H, rfl⟩, Le.mk [] hm rfl ⟨⟨_, rfl, rfl⟩, ⟨_, rfl, rfl⟩, ⟨_, rfl, rfl⟩, ⟨_, rfl, rfl⟩, trivial⟩ trivial trivial⟩
    · replace H := condF hc H
      refine WpC.exit ?_
      refine WpC.seq ?_
      refine WpC.regionL ?_
      refine L.move hF rfl rfl rfl ?_
      obtain ⟨r73, hr73, H⟩ := bindS H
      refine L.call [false] [] [] 0 hF rfl rfl rfl ent275 rfl rfl rfl rfl rfl (Fimpl_term_gives k2  v61 r73 hr73) rfl ?_
      refine L.assign hF rfl rfl rfl ?_
      refine L.nil ?_
      refine WpC.ret ?_
      cases H
      exact Leaves.ret rfl rfl rfl ⟨rfl, rfl⟩
/-! ### Fimpl_Nums -/
def Fimpl_Nums.l2 : Nat → (List (List UInt8)) → (List Int) → Int → Int → Option (List UInt8)
  | 0, _, _, _, _ => none
  | k2 + 1, v49, v50, v51, v52 => cond (decide (v52 < v51)) ((at? v50 v52).bind fun b56 => (Fimpl_Num k2 b56).bind fun r57 => cond (r57 == ([] : List UInt8)) (some ([] : List UInt8)) (cond (decide ((2 * (v49.length + ([r57] : List (List UInt8)).length) + 192) * 16 ≤ 281474976710656)) ((Fimpl_Nums.l2 k2) (v49 ++ ([r57] : List (List UInt8))) v50 v51 (IntKind.i64.wrap (v52 + (1 : Int)))) none)) ((Fimpl_List k2 v49).bind fun r59 => some r59)
def Fimpl_Nums (k : Nat) (a0 : List Int) : Option (List UInt8) := Fimpl_Nums.l2 k ([] : List (List UInt8)) a0 (a0.length : Int) (0 : Int)
theorem ent140 : Enters Try.prog 140 := ⟨Try.f140, Try.func140, rfl, by decide⟩
set_option maxHeartbeats 8000000 in
set_option maxRecDepth 100000 in
theorem Fimpl_Nums_gives (k : Nat) (g0 : Bool) (a0 : List Int) (r : List UInt8) (H : Fimpl_Nums k a0 = some r) : Gives Try.prog 140 [V.one (Cell.sl g0 (List.map eI a0))] [] [V.one (cS r)] [] := by
  refine Gives.intro Try.func140 rfl rfl rfl rfl ?_
  intro F hF hm
  unfold Fimpl_Nums at H
  obtain ⟨K, hK⟩ : ∃ K, k ≤ K := ⟨k, Nat.le_refl k⟩
  refine WpC.seq ?_
  refine WpC.regionL ?_
  refine L.assign hF rfl rfl rfl ?_
  refine L.nil ?_
  refine WpC.seq ?_
  refine WpC.regionL ?_
  refine L.buildSlice (e := eS) 1 ([] : List (List UInt8)) Try.underlying120 info9 rfl rfl rfl hF rfl rfl rfl rfl rfl rfl rfl rfl ?_
  refine L.assign hF rfl rfl rfl ?_
  refine L.nil ?_
  refine WpC.seq ?_
  refine WpC.seq ?_
  refine WpC.regionL ?_
  refine L.move hF rfl rfl rfl ?_
  refine L.lenR (xs := a0) (e := eI) Try.underlying24 hF rfl rfl rfl rfl ?_
  refine L.move hF rfl rfl rfl ?_
  refine L.nil ?_
  refine WpC.block ?_
  refine WpC.loopL (P := Try.prog) (fun n σ => ∃ v49 : List (List UInt8), ∃ v50 : List Int, ∃ v51 : Int, ∃ v52 : Int, n ≤ K ∧ Fimpl_Nums.l2 n v49 v50 v51 v52 = some r ∧ σ = mkSt [(3, one (Cell.own 0)), (8, one (Cell.sl g0 (List.map eI v50))), (9, one (cI v51)), (10, one (cI v52))] [(0, ⟨1, List.map eS v49⟩)] [] 1) k ⟨_, ⟨([] : List (List UInt8)), a0, (a0.length : Int), (0 : Int), by omega, H, rfl⟩, Le.mk [(0, 1)] hm rfl ⟨⟨_, rfl, rfl⟩, ⟨_, rfl, rfl⟩, ⟨_, rfl, rfl⟩, ⟨_, rfl, rfl⟩, trivial⟩ ⟨⟨_, rfl, rfl⟩, trivial⟩ trivial⟩ ?_
  clear H
  rintro k2 _ ⟨v49, v50, v51, v52, hk2, H, rfl⟩
  cases k2 with
  | zero => cases H
  | succ k2 =>
    rw [Fimpl_Nums.l2] at H
    refine WpC.seq ?_
    refine WpC.regionL ?_
    refine L.bin hF rfl rfl rfl rfl rfl rfl ?_
    refine L.nil ?_
    refine WpC.seq ?_
    refine WpC.cond rfl (fun hc => ?_) (fun hc => ?_)
    · replace H := condT hc H
      refine WpC.skip ?_
      refine WpC.seq ?_
      refine WpC.block ?_
      refine WpC.seq ?_
      refine WpC.regionL ?_
      obtain ⟨b56, hb56, H⟩ := bindS H
      refine L.idxR (xs := v50) (e := eI) Try.underlying24 info3 hF rfl rfl rfl rfl rfl hb56 rfl rfl ?_
      refine L.loadPe shape3 hF rfl rfl rfl rfl rfl ?_
      refine L.assign hF rfl rfl rfl ?_
      refine L.nil ?_
      refine WpC.seq ?_
      refine WpC.regionL ?_
      refine L.move hF rfl rfl rfl ?_
      obtain ⟨r57, hr57, H⟩ := bindS H
      refine L.call [false] [] [] 1 hF rfl rfl rfl ent227 rfl rfl rfl rfl rfl (Fimpl_Num_gives k2  b56 r57 hr57) rfl ?_
      refine L.assign hF rfl rfl rfl ?_
      refine L.nil ?_
      refine WpC.seq ?_
      refine WpC.seq ?_
      refine WpC.regionL ?_
      refine L.move hF rfl rfl rfl ?_
      refine L.binS hF rfl rfl rfl rfl rfl ?_
      refine L.nil ?_
      refine WpC.cond rfl (fun hc => ?_) (fun hc => ?_)
      · replace H := condT hc H
        refine WpC.seq ?_
        refine WpC.regionL ?_
        refine L.assign hF rfl rfl rfl ?_
        refine L.nil ?_
        refine WpC.ret ?_
        cases H
        exact Leaves.ret rfl rfl rfl ⟨rfl, rfl⟩
      · replace H := condF hc H
        refine WpC.skip ?_
        refine WpC.regionL ?_
        refine L.move hF rfl rfl rfl ?_
        refine L.move hF rfl rfl rfl ?_
        refine L.buildSlice (e := eS) 2 ([r57] : List (List UInt8)) Try.underlying120 info9 rfl rfl rfl hF rfl rfl rfl rfl rfl rfl rfl rfl ?_
        obtain ⟨h58, H⟩ := condG H
        refine L.append (xs := v49) (ys := ([r57] : List (List UInt8))) (e := eS) 3 Try.underlying120 info9 rfl rfl hF rfl rfl rfl rfl rfl rfl rfl rfl (fun _ => rfl) (fun _ _ h1 h2 => by cases h1; cases h2; rfl) ⟨_, Try.underlying120⟩ (of_decide_eq_true h58) rfl rfl ?_
        refine L.assign hF rfl rfl rfl ?_
        refine L.nil ?_
        refine WpC.regionL ?_
        refine L.bin hF rfl rfl rfl rfl rfl rfl ?_
        refine L.move hF rfl rfl rfl ?_
        refine L.nil ?_
        exact ⟨k2, _, by omega, ⟨(v49 ++ ([r57] : List (List UInt8))), v50, v51, (IntKind.i64.wrap (v52 + (1 : Int))), by omega, H, rfl⟩, Le.mk [(0, 3)] hm rfl ⟨⟨_, rfl, rfl⟩, ⟨_, rfl, rfl⟩, ⟨_, rfl, rfl⟩, ⟨_, rfl, rfl⟩, trivial⟩ ⟨⟨_, rfl, rfl⟩, trivial⟩ trivial⟩
    · replace H := condF hc H
      refine WpC.exit ?_
      refine WpC.seq ?_
      refine WpC.regionL ?_
      refine L.move hF rfl rfl rfl ?_
      obtain ⟨r59, hr59, H⟩ := bindS H
      refine L.call [false] [0] [] 1 hF rfl rfl rfl ent228 rfl rfl rfl rfl rfl (Fimpl_List_gives k2 false v49 r59 hr59) rfl ?_
      refine L.assign hF rfl rfl rfl ?_
      refine L.nil ?_
      refine WpC.ret ?_
      cases H
      exact Leaves.ret rfl rfl rfl ⟨rfl, rfl⟩
/-! ### Fimpl_ShowTimes -/
def Fimpl_ShowTimes (k : Nat) (a0 : Timpl_Times) : Option (List UInt8) := (Fimpl_TimesOk k a0).bind fun r2 => cond (!r2) (some ([] : List UInt8)) ((Fimpl_Nums k ([a0.Auth, a0.Start, a0.End, a0.Renew] : List Int)).bind fun r3 => some r3)
theorem ent63 : Enters Try.prog 63 := ⟨Try.f63, Try.func63, rfl, by decide⟩
set_option maxHeartbeats 8000000 in
set_option maxRecDepth 100000 in
theorem Fimpl_ShowTimes_gives (k : Nat) (a0 : Timpl_Times) (r : List UInt8) (H : Fimpl_ShowTimes k a0 = some r) : Gives Try.prog 63 [V.agg [cI a0.Auth, cI a0.Start, cI a0.End, cI a0.Renew]] [] [V.one (cS r)] [] := by
  refine Gives.intro Try.func63 rfl rfl rfl rfl ?_
  intro F hF hm
  unfold Fimpl_ShowTimes at H
  obtain ⟨K, hK⟩ : ∃ K, k ≤ K := ⟨k, Nat.le_refl k⟩
  refine WpC.seq ?_
  refine WpC.regionL ?_
  refine L.box 4 hF rfl rfl rfl rfl ?_
  refine L.assign hF rfl rfl rfl ?_
  refine L.nil ?_
  refine WpC.seq ?_
  refine WpC.seq ?_
  refine WpC.regionL ?_
  refine L.loadPtr shape65 hF rfl rfl rfl rfl rfl rfl ?_
  obtain ⟨r2, hr2, H⟩ := bindS H
  refine L.call [false] [] [] 5 hF rfl rfl rfl ent139 rfl rfl rfl rfl rfl (Fimpl_TimesOk_gives k  a0 r2 hr2) rfl ?_
  refine L.not hF rfl rfl rfl ?_
  refine L.nil ?_
  refine WpC.cond rfl (fun hc => ?_) (fun hc => ?_)
  · replace H := condT hc H
    refine WpC.seq ?_
    refine WpC.regionL ?_
    refine L.assign hF rfl rfl rfl ?_
    refine L.nil ?_
    refine WpC.ret ?_
    cases H
    exact Leaves.ret rfl rfl rfl ⟨rfl, rfl⟩
  · replace H := condF hc H
    refine WpC.skip ?_
    refine WpC.seq ?_
    refine WpC.regionL ?_
    refine L.fieldAddr Try.underlying65 rfl info3 rfl hF rfl rfl rfl rfl rfl ?_
    refine L.loadPtr shape3 hF rfl rfl rfl rfl rfl rfl ?_
    refine L.fieldAddr Try.underlying65 rfl info3 rfl hF rfl rfl rfl rfl rfl ?_
    refine L.loadPtr shape3 hF rfl rfl rfl rfl rfl rfl ?_
    refine L.fieldAddr Try.underlying65 rfl info3 rfl hF rfl rfl rfl rfl rfl ?_
    refine L.loadPtr shape3 hF rfl rfl rfl rfl rfl rfl ?_
    refine L.fieldAddr Try.underlying65 rfl info3 rfl hF rfl rfl rfl rfl rfl ?_
    refine L.loadPtr shape3 hF rfl rfl rfl rfl rfl rfl ?_
    refine L.buildSlice (e := eI) 6 ([a0.Auth, a0.Start, a0.End, a0.Renew] : List Int) Try.underlying24 info3 rfl rfl rfl hF rfl rfl rfl rfl rfl rfl rfl rfl ?_
    obtain ⟨r3, hr3, H⟩ := bindS H
    refine L.call [false] [6] [] 7 hF rfl rfl rfl ent140 rfl rfl rfl rfl rfl (Fimpl_Nums_gives k false ([a0.Auth, a0.Start, a0.End, a0.Renew] : List Int) r3 hr3) rfl ?_
    refine L.assign hF rfl rfl rfl ?_
    refine L.nil ?_
    refine WpC.ret ?_
    cases H
    exact Leaves.ret rfl rfl rfl ⟨rfl, rfl⟩
/-! ### Fimpl_isOf -/
def Fimpl_isOf (k : Nat) (a0 : List UInt8) (a1 : UInt8) : Option Bool := (Fimpl_TermOk k a0).bind fun r3 => cond r3 ((at? a0 (0 : Int)).bind fun b4 => some (b4 == a1)) (some false)
theorem ent235 : Enters Try.prog 235 := ⟨Try.f235, Try.func235, rfl, by decide⟩
set_option maxHeartbeats 8000000 in
set_option maxRecDepth 100000 in
theorem Fimpl_isOf_gives (k : Nat) (a0 : List UInt8) (a1 : UInt8) (r : Bool) (H : Fimpl_isOf k a0 a1 = some r) : Gives Try.prog 235 [V.one (cS a0), V.one (cU a1)] [] [V.one (cL r)] [] := by
  refine Gives.intro Try.func235 rfl rfl rfl rfl ?_
  intro F hF hm
  unfold Fimpl_isOf at H
  obtain ⟨K, hK⟩ : ∃ K, k ≤ K := ⟨k, Nat.le_refl k⟩
  refine WpC.seq ?_
  refine WpC.regionL ?_
  refine L.assign hF rfl rfl rfl ?_
  refine L.nil ?_
  refine WpC.seq ?_
  refine WpC.regionL ?_
  refine L.move hF rfl rfl rfl ?_
  obtain ⟨r3, hr3, H⟩ := bindS H
  refine L.call [false] [] [] 2 hF rfl rfl rfl ent274 rfl rfl rfl rfl rfl (Fimpl_TermOk_gives k  a0 r3 hr3) rfl ?_
  refine L.move hF rfl rfl rfl ?_
  refine L.split (fun hc => ?_) (fun hc => ?_)
  · replace H := condT hc H
    refine L.move hF rfl rfl rfl ?_
    obtain ⟨b4, hb4, H⟩ := bindS H
    refine L.idxS Try.underlying9 hF rfl rfl rfl rfl hb4 ?_
    refine L.move hF rfl rfl rfl ?_
    refine L.binB (a := b4) (b := a1) hF rfl rfl rfl rfl rfl ?_
    refine L.pick hF rfl rfl rfl rfl ?_
    refine L.assign hF rfl rfl rfl ?_
    refine L.nil ?_
    refine WpC.ret ?_
    cases H
    exact Leaves.ret rfl rfl rfl ⟨rfl, rfl⟩
  · replace H := condF hc H
    refine L.off hF rfl rfl ?_
    refine L.off hF rfl rfl ?_
    refine L.off hF rfl rfl ?_
    refine L.off hF rfl rfl ?_
    refine L.pick hF rfl rfl rfl rfl ?_
    refine L.assign hF rfl rfl rfl ?_
    refine L.nil ?_
    refine WpC.ret ?_
    cases H
    exact Leaves.ret rfl rfl rfl ⟨rfl, rfl⟩
/-! ### Fimpl_Parts -/
def Fimpl_Parts.l2 : Nat → (List UInt8) → Int → (List (List UInt8)) → Int → Int → Option (List (List UInt8) × Bool)
  | 0, _, _, _, _, _ => none
  | k2 + 1, v57, v58, v59, v60, v61 => cond (decide (v61 < v60)) ((Fimpl_termAt k2 v57 v58 (8 : Int)).bind fun r65 => (cut? v57 v58 r65).bind fun b66 => cond (decide ((2 * (v59.length + ([b66] : List (List UInt8)).length) + 192) * 16 ≤ 281474976710656)) ((Fimpl_Parts.l2 k2) v57 r65 (v59 ++ ([b66] : List (List UInt8))) v60 (IntKind.i64.wrap (v61 + (1 : Int)))) none) (some (v59, true))
def Fimpl_Parts (k : Nat) (a0 : List UInt8) : Option (List (List UInt8) × Bool) := (Fimpl_isOf k a0 (108 : UInt8)).bind fun r2 => cond (!r2) (some ([], false)) ((Fimpl_varAt k a0 (1 : Int)).bind fun r3 => Fimpl_Parts.l2 k a0 r3.2 ([] : List (List UInt8)) r3.1 (0 : Int))
theorem ent144 : Enters Try.prog 144 := ⟨Try.f144, Try.func144, rfl, by decide⟩
set_option maxHeartbeats 8000000 in
set_option maxRecDepth 100000 in
theorem Fimpl_Parts_gives (k : Nat) (a0 : List UInt8) (r : List (List UInt8) × Bool) (H : Fimpl_Parts k a0 = some r) : Gives Try.prog 144 [V.one (cS a0)] [] [V.one (Cell.ow 1 (List.map eS r.1)), V.one (cL r.2)] [] := by
  refine Gives.intro Try.func144 rfl rfl rfl rfl ?_
  intro F hF hm
  unfold Fimpl_Parts at H
  obtain ⟨K, hK⟩ : ∃ K, k ≤ K := ⟨k, Nat.le_refl k⟩
  refine WpC.seq ?_
  refine WpC.regionL ?_
  refine L.assign hF rfl rfl rfl ?_
  refine L.assign hF rfl rfl rfl ?_
  refine L.nil ?_
  refine WpC.seq ?_
  refine WpC.seq ?_
  refine WpC.regionL ?_
  refine L.move hF rfl rfl rfl ?_
  obtain ⟨r2, hr2, H⟩ := bindS H
  refine L.call [false, false] [] [] 1 hF rfl rfl rfl ent235 rfl rfl rfl rfl rfl (Fimpl_isOf_gives k  a0 (108 : UInt8) r2 hr2) rfl ?_
  refine L.not hF rfl rfl rfl ?_
  refine L.nil ?_
  refine WpC.cond rfl (fun hc => ?_) (fun hc => ?_)
  · replace H := condT hc H
    refine WpC.seq ?_
    refine WpC.regionL ?_
    refine L.assign hF rfl rfl rfl ?_
    refine L.assign hF rfl rfl rfl ?_
    refine L.nil ?_
    refine WpC.le (Le.own 2 0 2 1 rfl rfl rfl) ?_
    refine WpC.ret ?_
    cases H
    exact Leaves.ret rfl rfl rfl ⟨rfl, rfl⟩
  · replace H := condF hc H
    refine WpC.skip ?_
    refine WpC.seq ?_
    refine WpC.regionL ?_
    refine L.move hF rfl rfl rfl ?_
    obtain ⟨r3, hr3, H⟩ := bindS H
    refine L.call [false, false] [] [] 2 hF rfl rfl rfl ent218 rfl rfl rfl rfl rfl (Fimpl_varAt_gives k  a0 (1 : Int) r3 hr3) rfl ?_
    refine L.move hF rfl rfl rfl ?_
    refine L.extract hF rfl rfl rfl rfl ?_
    refine L.extract hF rfl rfl rfl rfl ?_
    refine L.assign hF rfl rfl rfl ?_
    refine L.assign hF rfl rfl rfl ?_
    refine L.nil ?_
    refine WpC.seq ?_
    refine WpC.regionL ?_
    refine L.buildSlice (e := eS) 4 ([] : List (List UInt8)) Try.underlying120 info9 rfl rfl rfl hF rfl rfl rfl rfl rfl rfl rfl rfl ?_
    refine L.assign hF rfl rfl rfl ?_
    refine L.nil ?_
    refine WpC.seq ?_
    refine WpC.seq ?_
    refine WpC.regionL ?_
    refine L.move hF rfl rfl rfl ?_
    refine L.move hF rfl rfl rfl ?_
    refine L.nil ?_
    refine WpC.block ?_
    refine WpC.loopL (P := Try.prog) (fun n σ => ∃ v57 : List UInt8, ∃ v58 : Int, ∃ v59 : List (List UInt8), ∃ v60 : Int, ∃ v61 : Int, n ≤ K ∧ Fimpl_Parts.l2 n v57 v58 v59 v60 v61 = some r ∧ σ = mkSt [(0, one (cS v57)), (5, one (cI v58)), (6, one (Cell.own 0)), (17, one (cI v60)), (18, one (cI v61))] [(0, ⟨1, List.map eS v59⟩)] [] 1) k ⟨_, ⟨a0, r3.2, ([] : List (List UInt8)), r3.1, (0 : Int), by omega, H, rfl⟩, Le.mk [(0, 4)] hm rfl ⟨⟨_, rfl, rfl⟩, ⟨_, rfl, rfl⟩, ⟨_, rfl, rfl⟩, ⟨_, rfl, rfl⟩, ⟨_, rfl, rfl⟩, trivial⟩ ⟨⟨_, rfl, rfl⟩, trivial⟩ trivial⟩ ?_
    clear H
    rintro k2 _ ⟨v57, v58, v59, v60, v61, hk2, H, rfl⟩
    cases k2 with
    | zero => cases H
    | succ k2 =>
      rw [Fimpl_Parts.l2] at H
      refine WpC.seq ?_
      refine WpC.regionL ?_
      refine L.bin hF rfl rfl rfl rfl rfl rfl ?_
      refine L.nil ?_
      refine WpC.seq ?_
      refine WpC.cond rfl (fun hc => ?_) (fun hc => ?_)
      · replace H := condT hc H
        refine WpC.skip ?_
        refine WpC.seq ?_
        refine WpC.block ?_
        refine WpC.seq ?_
        refine WpC.regionL ?_
        refine L.move hF rfl rfl rfl ?_
        refine L.move hF rfl rfl rfl ?_
        obtain ⟨r65, hr65, H⟩ := bindS H
        refine L.call [false, false, false] [] [] 1 hF rfl rfl rfl ent236 rfl rfl rfl rfl rfl (Fimpl_termAt_gives k2  v57 v58 (8 : Int) r65 hr65) rfl ?_
        refine L.assign hF rfl rfl rfl ?_
        refine L.nil ?_
        refine WpC.seq ?_
        refine WpC.regionL ?_
        refine L.move hF rfl rfl rfl ?_
        refine L.move hF rfl rfl rfl ?_
        refine L.move hF rfl rfl rfl ?_
        refine L.move hF rfl rfl rfl ?_
        obtain ⟨b66, hb66, H⟩ := bindS H
        refine L.cutS Try.underlying9 hF rfl rfl rfl rfl rfl hb66 ?_
        refine L.buildSlice (e := eS) 2 ([b66] : List (List UInt8)) Try.underlying120 info9 rfl rfl rfl hF rfl rfl rfl rfl rfl rfl rfl rfl ?_
        obtain ⟨h67, H⟩ := condG H
        refine L.append (xs := v59) (ys := ([b66] : List (List UInt8))) (e := eS) 3 Try.underlying120 info9 rfl rfl hF rfl rfl rfl rfl rfl rfl rfl rfl (fun _ => rfl) (fun _ _ h1 h2 => by cases h1; cases h2; rfl) ⟨_, Try.underlying120⟩ (of_decide_eq_true h67) rfl rfl ?_
        refine L.assign hF rfl rfl rfl ?_
        refine L.nil ?_
        refine WpC.regionL ?_
        refine L.move hF rfl rfl rfl ?_
        refine L.assign hF rfl rfl rfl ?_
        refine L.nil ?_
        refine WpC.regionL ?_
        refine L.bin hF rfl rfl rfl rfl rfl rfl ?_
        refine L.move hF rfl rfl rfl ?_
        refine L.nil ?_
        exact ⟨k2, _, by omega, ⟨v57, r65, (v59 ++ ([b66] : List (List UInt8))), v60, (IntKind.i64.wrap (v61 + (1 : Int))), by omega, H, rfl⟩, Le.mk [(0, 3)] hm rfl ⟨⟨_, rfl, rfl⟩, ⟨_, rfl, rfl⟩, ⟨_, rfl, rfl⟩, ⟨_, rfl, rfl⟩, ⟨_, rfl, rfl⟩, trivial⟩ ⟨⟨_, rfl, rfl⟩, trivial⟩ trivial⟩
      · replace H := condF hc H
        refine WpC.exit ?_
        refine WpC.seq ?_
        refine WpC.regionL ?_
        refine L.move hF rfl rfl rfl ?_
        refine L.assign hF rfl rfl rfl ?_
        refine L.assign hF rfl rfl rfl ?_
        refine L.nil ?_
        refine WpC.ret ?_
        cases H
        exact Leaves.ret rfl rfl rfl ⟨rfl, rfl⟩
/-! ### Fimpl_ReadAtom -/
def Fimpl_ReadAtom (k : Nat) (a0 : List UInt8) : Option (List UInt8 × Bool) := (Fimpl_isOf k a0 (97 : UInt8)).bind fun r2 => cond (!r2) (some (([] : List UInt8), false)) ((Fimpl_varAt k a0 (1 : Int)).bind fun r3 => (cut? a0 r3.2 (a0.length : Int)).bind fun b4 => some (b4, true))
theorem ent272 : Enters Try.prog 272 := ⟨Try.f272, Try.func272, rfl, by decide⟩
set_option maxHeartbeats 8000000 in
set_option maxRecDepth 100000 in
theorem Fimpl_ReadAtom_gives (k : Nat) (a0 : List UInt8) (r : List UInt8 × Bool) (H : Fimpl_ReadAtom k a0 = some r) : Gives Try.prog 272 [V.one (cS a0)] [] [V.one (cS r.1), V.one (cL r.2)] [] := by
  refine Gives.intro Try.func272 rfl rfl rfl rfl ?_
  intro F hF hm
  unfold Fimpl_ReadAtom at H
  obtain ⟨K, hK⟩ : ∃ K, k ≤ K := ⟨k, Nat.le_refl k⟩
  refine WpC.seq ?_
  refine WpC.regionL ?_
  refine L.assign hF rfl rfl rfl ?_
  refine L.assign hF rfl rfl rfl ?_
  refine L.nil ?_
  refine WpC.seq ?_
  refine WpC.seq ?_
  refine WpC.regionL ?_
  refine L.move hF rfl rfl rfl ?_
  obtain ⟨r2, hr2, H⟩ := bindS H
  refine L.call [false, false] [] [] 1 hF rfl rfl rfl ent235 rfl rfl rfl rfl rfl (Fimpl_isOf_gives k  a0 (97 : UInt8) r2 hr2) rfl ?_
  refine L.not hF rfl rfl rfl ?_
  refine L.nil ?_
  refine WpC.cond rfl (fun hc => ?_) (fun hc => ?_)
  · replace H := condT hc H
    refine WpC.seq ?_
    refine WpC.regionL ?_
    refine L.assign hF rfl rfl rfl ?_
    refine L.assign hF rfl rfl rfl ?_
    refine L.nil ?_
    refine WpC.ret ?_
    cases H
    exact Leaves.ret rfl rfl rfl ⟨rfl, rfl⟩
  · replace H := condF hc H
    refine WpC.skip ?_
    refine WpC.seq ?_
    refine WpC.regionL ?_
    refine L.move hF rfl rfl rfl ?_
    obtain ⟨r3, hr3, H⟩ := bindS H
    refine L.call [false, false] [] [] 2 hF rfl rfl rfl ent218 rfl rfl rfl rfl rfl (Fimpl_varAt_gives k  a0 (1 : Int) r3 hr3) rfl ?_
    refine L.move hF rfl rfl rfl ?_
    refine L.extract hF rfl rfl rfl rfl ?_
    refine L.extract hF rfl rfl rfl rfl ?_
    refine L.assign hF rfl rfl rfl ?_
    refine L.assign hF rfl rfl rfl ?_
    refine L.nil ?_
    refine WpC.seq ?_
    refine WpC.regionL ?_
    refine L.move hF rfl rfl rfl ?_
    refine L.move hF rfl rfl rfl ?_
    obtain ⟨b4, hb4, H⟩ := bindS H
    refine L.cutS Try.underlying9 hF rfl rfl rfl rfl rfl hb4 ?_
    refine L.assign hF rfl rfl rfl ?_
    refine L.assign hF rfl rfl rfl ?_
    refine L.nil ?_
    refine WpC.ret ?_
    cases H
    exact Leaves.ret rfl rfl rfl ⟨rfl, rfl⟩
/-! ### Fimpl_ReadNum -/
def Fimpl_ReadNum (k : Nat) (a0 : List UInt8) : Option (Int × Bool) := (Fimpl_ReadAtom k a0).bind fun r1 => (Fimpl_ReadVar k r1.1).bind fun r2 => cond (!r1.2) (some ((0 : Int), false)) (cond (r2.2 == (0 : Int)) (some ((0 : Int), false)) (cond (r2.2 != (r1.1.length : Int)) (some ((0 : Int), false)) (some (r2.1, true))))
theorem ent226 : Enters Try.prog 226 := ⟨Try.f226, Try.func226, rfl, by decide⟩
set_option maxHeartbeats 8000000 in
set_option maxRecDepth 100000 in
theorem Fimpl_ReadNum_gives (k : Nat) (a0 : List UInt8) (r : Int × Bool) (H : Fimpl_ReadNum k a0 = some r) : Gives Try.prog 226 [V.one (cS a0)] [] [V.one (cI r.1), V.one (cL r.2)] [] := by
  refine Gives.intro Try.func226 rfl rfl rfl rfl ?_
  intro F hF hm
  unfold Fimpl_ReadNum at H
  obtain ⟨K, hK⟩ : ∃ K, k ≤ K := ⟨k, Nat.le_refl k⟩
  refine WpC.seq ?_
  refine WpC.regionL ?_
  refine L.assign hF rfl rfl rfl ?_
  refine L.assign hF rfl rfl rfl ?_
  refine L.nil ?_
  refine WpC.seq ?_
  refine WpC.regionL ?_
  refine L.move hF rfl rfl rfl ?_
  obtain ⟨r1, hr1, H⟩ := bindS H
  refine L.call [false] [] [] 1 hF rfl rfl rfl ent272 rfl rfl rfl rfl rfl (Fimpl_ReadAtom_gives k  a0 r1 hr1) rfl ?_
  refine L.move hF rfl rfl rfl ?_
  refine L.extract hF rfl rfl rfl rfl ?_
  refine L.extract hF rfl rfl rfl rfl ?_
  refine L.assign hF rfl rfl rfl ?_
  refine L.assign hF rfl rfl rfl ?_
  refine L.nil ?_
  refine WpC.seq ?_
  refine WpC.regionL ?_
  refine L.move hF rfl rfl rfl ?_
  obtain ⟨r2, hr2, H⟩ := bindS H
  refine L.call [false] [] [] 3 hF rfl rfl rfl ent217 rfl rfl rfl rfl rfl (Fimpl_ReadVar_gives k  r1.1 r2 hr2) rfl ?_
  refine L.move hF rfl rfl rfl ?_
  refine L.extract hF rfl rfl rfl rfl ?_
  refine L.extract hF rfl rfl rfl rfl ?_
  refine L.assign hF rfl rfl rfl ?_
  refine L.assign hF rfl rfl rfl ?_
  refine L.nil ?_
  refine WpC.seq ?_
  refine WpC.seq ?_
  refine WpC.regionL ?_
  refine L.move hF rfl rfl rfl ?_
  refine L.not hF rfl rfl rfl ?_
  refine L.move hF rfl rfl rfl ?_
  refine L.split (fun hc => ?_) (fun hc => ?_)
  · replace H := condT hc H
    refine L.off hF rfl rfl ?_
    refine L.off hF rfl rfl ?_
    refine L.pick hF rfl rfl rfl rfl ?_
    refine L.move hF rfl rfl rfl ?_
    refine L.off hF rfl rfl ?_
    refine L.off hF rfl rfl ?_
    refine L.off hF rfl rfl ?_
    refine L.off hF rfl rfl ?_
    refine L.pick hF rfl rfl rfl rfl ?_
    refine L.nil ?_
    refine WpC.cond rfl (fun _ => ?_) (fun hc => by cases hc)
    refine WpC.seq ?_
    refine WpC.regionL ?_
    refine L.assign hF rfl rfl rfl ?_
    refine L.assign hF rfl rfl rfl ?_
    refine L.nil ?_
    refine WpC.ret ?_
    cases H
    exact Leaves.ret rfl rfl rfl ⟨rfl, rfl⟩
  · replace H := condF hc H
    refine L.move hF rfl rfl rfl ?_
    refine L.bin hF rfl rfl rfl rfl rfl rfl ?_
    refine L.pick hF rfl rfl rfl rfl ?_
    refine L.move hF rfl rfl rfl ?_
    refine L.split (fun hc => ?_) (fun hc => ?_)
    · replace H := condT hc H
      refine L.off hF rfl rfl ?_
      refine L.off hF rfl rfl ?_
      refine L.off hF rfl rfl ?_
      refine L.off hF rfl rfl ?_
      refine L.pick hF rfl rfl rfl rfl ?_
      refine L.nil ?_
      refine WpC.cond rfl (fun _ => ?_) (fun hc => by cases hc)
      refine WpC.seq ?_
      refine WpC.regionL ?_
      refine L.assign hF rfl rfl rfl ?_
      refine L.assign hF rfl rfl rfl ?_
      refine L.nil ?_
      refine WpC.ret ?_
      cases H
      exact Leaves.ret rfl rfl rfl ⟨rfl, rfl⟩
    · replace H := condF hc H
      refine L.move hF rfl rfl rfl ?_
      refine L.move hF rfl rfl rfl ?_
      refine L.lenS Try.underlying9 hF rfl rfl rfl ?_
      refine L.bin hF rfl rfl rfl rfl rfl rfl ?_
      refine L.pick hF rfl rfl rfl rfl ?_
      refine L.nil ?_
      refine WpC.cond rfl (fun hc => ?_) (fun hc => ?_)
      · replace H := condT hc H
        refine WpC.seq ?_
        refine WpC.regionL ?_
        refine L.assign hF rfl rfl rfl ?_
        refine L.assign hF rfl rfl rfl ?_
        refine L.nil ?_
        refine WpC.ret ?_
        cases H
        exact Leaves.ret rfl rfl rfl ⟨rfl, rfl⟩
      · replace H := condF hc H
        refine WpC.skip ?_
        refine WpC.seq ?_
        refine WpC.regionL ?_
        refine L.move hF rfl rfl rfl ?_
        refine L.assign hF rfl rfl rfl ?_
        refine L.assign hF rfl rfl rfl ?_
        refine L.nil ?_
        refine WpC.ret ?_
        cases H
        exact Leaves.ret rfl rfl rfl ⟨rfl, rfl⟩
/-! ### Fimpl_ReadNums -/
def Fimpl_ReadNums.l2 : Nat → (List Int) → (List (List UInt8)) → Int → Int → Option (List Int × Bool)
  | 0, _, _, _, _ => none
  | k2 + 1, v48, v49, v50, v51 => cond (decide (v51 < v50)) ((at? v49 v51).bind fun b55 => (Fimpl_ReadNum k2 b55).bind fun r56 => cond (!r56.2) (some ([], false)) (cond (decide ((2 * (v48.length + ([r56.1] : List Int).length) + 192) * 8 ≤ 281474976710656)) ((Fimpl_ReadNums.l2 k2) (v48 ++ ([r56.1] : List Int)) v49 v50 (IntKind.i64.wrap (v51 + (1 : Int)))) none)) (some (v48, true))
def Fimpl_ReadNums (k : Nat) (a0 : List UInt8) : Option (List Int × Bool) := (Fimpl_Parts k a0).bind fun r1 => cond (!r1.2) (some ([], false)) (Fimpl_ReadNums.l2 k ([] : List Int) r1.1 (r1.1.length : Int) (0 : Int))
theorem ent136 : Enters Try.prog 136 := ⟨Try.f136, Try.func136, rfl, by decide⟩
set_option maxHeartbeats 8000000 in
set_option maxRecDepth 100000 in
theorem Fimpl_ReadNums_gives (k : Nat) (a0 : List UInt8) (r : List Int × Bool) (H : Fimpl_ReadNums k a0 = some r) : Gives Try.prog 136 [V.one (cS a0)] [] [V.one (Cell.ow 1 (List.map eI r.1)), V.one (cL r.2)] [] := by
  refine Gives.intro Try.func136 rfl rfl rfl rfl ?_
  intro F hF hm
  unfold Fimpl_ReadNums at H
  obtain ⟨K, hK⟩ : ∃ K, k ≤ K := ⟨k, Nat.le_refl k⟩
  refine WpC.seq ?_
  refine WpC.regionL ?_
  refine L.assign hF rfl rfl rfl ?_
  refine L.assign hF rfl rfl rfl ?_
  refine L.nil ?_
  refine WpC.seq ?_
  refine WpC.regionL ?_
  refine L.move hF rfl rfl rfl ?_
  obtain ⟨r1, hr1, H⟩ := bindS H
  refine L.call [false] [] [] 1 hF rfl rfl rfl ent144 rfl rfl rfl rfl rfl (Fimpl_Parts_gives k  a0 r1 hr1) rfl ?_
  refine L.move hF rfl rfl rfl ?_
  refine L.extract hF rfl rfl rfl rfl ?_
  refine L.extract hF rfl rfl rfl rfl ?_
  refine L.assign hF rfl rfl rfl ?_
  refine L.assign hF rfl rfl rfl ?_
  refine L.nil ?_
  refine WpC.seq ?_
  refine WpC.seq ?_
  refine WpC.regionL ?_
  refine L.move hF rfl rfl rfl ?_
  refine L.not hF rfl rfl rfl ?_
  refine L.nil ?_
  refine WpC.cond rfl (fun hc => ?_) (fun hc => ?_)
  · replace H := condT hc H
    refine WpC.seq ?_
    refine WpC.regionL ?_
    refine L.assign hF rfl rfl rfl ?_
    refine L.assign hF rfl rfl rfl ?_
    refine L.nil ?_
    refine WpC.le (Le.own 2 0 3 1 rfl rfl rfl) ?_
    refine WpC.ret ?_
    cases H
    exact Leaves.ret rfl rfl rfl ⟨rfl, rfl⟩
  · replace H := condF hc H
    refine WpC.skip ?_
    refine WpC.seq ?_
    refine WpC.regionL ?_
    refine L.buildSlice (e := eI) 3 ([] : List Int) Try.underlying24 info3 rfl rfl rfl hF rfl rfl rfl rfl rfl rfl rfl rfl ?_
    refine L.assign hF rfl rfl rfl ?_
    refine L.nil ?_
    refine WpC.seq ?_
    refine WpC.seq ?_
    refine WpC.regionL ?_
    refine L.move hF rfl rfl rfl ?_
    refine L.lenR (xs := r1.1) (e := eS) Try.underlying120 hF rfl rfl rfl rfl ?_
    refine L.move hF rfl rfl rfl ?_
    refine L.nil ?_
    refine WpC.block ?_
    refine WpC.loopL (P := Try.prog) (fun n σ => ∃ v48 : List Int, ∃ v49 : List (List UInt8), ∃ v50 : Int, ∃ v51 : Int, n ≤ K ∧ Fimpl_ReadNums.l2 n v48 v49 v50 v51 = some r ∧ σ = mkSt [(6, one (Cell.own 0)), (19, one (Cell.own 1)), (20, one (cI v50)), (21, one (cI v51))] [(0, ⟨1, List.map eI v48⟩), (1, ⟨1, List.map eS v49⟩)] [] 2) k ⟨_, ⟨([] : List Int), r1.1, (r1.1.length : Int), (0 : Int), by omega, H, rfl⟩, Le.mk [(0, 3), (1, 1)] hm rfl ⟨⟨_, rfl, rfl⟩, ⟨_, rfl, rfl⟩, ⟨_, rfl, rfl⟩, ⟨_, rfl, rfl⟩, trivial⟩ ⟨⟨_, rfl, rfl⟩, ⟨_, rfl, rfl⟩, trivial⟩ trivial⟩ ?_
    clear H
    rintro k2 _ ⟨v48, v49, v50, v51, hk2, H, rfl⟩
    cases k2 with
    | zero => cases H
    | succ k2 =>
      rw [Fimpl_ReadNums.l2] at H
      refine WpC.seq ?_
      refine WpC.regionL ?_
      refine L.bin hF rfl rfl rfl rfl rfl rfl ?_
      refine L.nil ?_
      refine WpC.seq ?_
      refine WpC.cond rfl (fun hc => ?_) (fun hc => ?_)
      · replace H := condT hc H
        refine WpC.skip ?_
        refine WpC.seq ?_
        refine WpC.block ?_
        refine WpC.seq ?_
        refine WpC.regionL ?_
        obtain ⟨b55, hb55, H⟩ := bindS H
        refine L.idxR (xs := v49) (e := eS) Try.underlying120 info9 hF rfl rfl rfl rfl rfl hb55 rfl rfl ?_
        refine L.loadEp (xs := v49) (e := eS) shape9 hF rfl rfl rfl rfl (at?_get hb55).2 rfl rfl ?_
        refine L.assign hF rfl rfl rfl ?_
        refine L.nil ?_
        refine WpC.seq ?_
        refine WpC.regionL ?_
        refine L.move hF rfl rfl rfl ?_
        obtain ⟨r56, hr56, H⟩ := bindS H
        refine L.call [false] [] [] 2 hF rfl rfl rfl ent226 rfl rfl rfl rfl rfl (Fimpl_ReadNum_gives k2  b55 r56 hr56) rfl ?_
        refine L.move hF rfl rfl rfl ?_
        refine L.extract hF rfl rfl rfl rfl ?_
        refine L.extract hF rfl rfl rfl rfl ?_
        refine L.assign hF rfl rfl rfl ?_
        refine L.assign hF rfl rfl rfl ?_
        refine L.nil ?_
        refine WpC.seq ?_
        refine WpC.seq ?_
        refine WpC.regionL ?_
        refine L.move hF rfl rfl rfl ?_
        refine L.not hF rfl rfl rfl ?_
        refine L.nil ?_
        refine WpC.cond rfl (fun hc => ?_) (fun hc => ?_)
        · replace H := condT hc H
          refine WpC.seq ?_
          refine WpC.regionL ?_
          refine L.assign hF rfl rfl rfl ?_
          refine L.assign hF rfl rfl rfl ?_
          refine L.nil ?_
          refine WpC.le (Le.own 2 0 4 1 rfl rfl rfl) ?_
          refine WpC.ret ?_
          cases H
          exact Leaves.ret rfl rfl rfl ⟨rfl, rfl⟩
        · replace H := condF hc H
          refine WpC.skip ?_
          refine WpC.regionL ?_
          refine L.move hF rfl rfl rfl ?_
          refine L.move hF rfl rfl rfl ?_
          refine L.buildSlice (e := eI) 4 ([r56.1] : List Int) Try.underlying24 info3 rfl rfl rfl hF rfl rfl rfl rfl rfl rfl rfl rfl ?_
          obtain ⟨h57, H⟩ := condG H
          refine L.append (xs := v48) (ys := ([r56.1] : List Int)) (e := eI) 5 Try.underlying24 info3 rfl rfl hF rfl rfl rfl rfl rfl rfl rfl rfl (fun _ => rfl) (fun _ _ h1 h2 => by cases h1; cases h2; rfl) ⟨_, Try.underlying24⟩ (of_decide_eq_true h57) rfl rfl ?_
          refine L.assign hF rfl rfl rfl ?_
          refine L.nil ?_
          refine WpC.regionL ?_
          refine L.bin hF rfl rfl rfl rfl rfl rfl ?_
          refine L.move hF rfl rfl rfl ?_
          refine L.nil ?_
          exact ⟨k2, _, by omega, ⟨(v48 ++ ([r56.1] : List Int)), v49, v50, (IntKind.i64.wrap (v51 + (1 : Int))), by omega, H, rfl⟩, Le.mk [(0, 5), (1, 1)] hm rfl ⟨⟨_, rfl, rfl⟩, ⟨_, rfl, rfl⟩, ⟨_, rfl, rfl⟩, ⟨_, rfl, rfl⟩, trivial⟩ ⟨⟨_, rfl, rfl⟩, ⟨_, rfl, rfl⟩, trivial⟩ trivial⟩
      · replace H := condF hc H
        refine WpC.exit ?_
        refine WpC.seq ?_
        refine WpC.regionL ?_
        refine L.move hF rfl rfl rfl ?_
        refine L.assign hF rfl rfl rfl ?_
        refine L.assign hF rfl rfl rfl ?_
        refine L.nil ?_
        refine WpC.ret ?_
        cases H
        exact Leaves.ret rfl rfl rfl ⟨rfl, rfl⟩
/-! ### Fimpl_ReadTimes -/
def Fimpl_ReadTimes (k : Nat) (a0 : List UInt8) : Option (Timpl_Times × Bool) := (Fimpl_ReadNums k a0).bind fun r1 => cond ((r1.1.length : Int) != (4 : Int)) (some ((⟨(0 : Int), (0 : Int), (0 : Int), (0 : Int)⟩ : Timpl_Times), false)) ((at? r1.1 (0 : Int)).bind fun b2 => (at? r1.1 (1 : Int)).bind fun b3 => (at? r1.1 (2 : Int)).bind fun b4 => (at? r1.1 (3 : Int)).bind fun b5 => (Fimpl_ShowTimes k (⟨b2, b3, b4, b5⟩ : Timpl_Times)).bind fun r7 => cond (r7 != a0) (some ((⟨(0 : Int), (0 : Int), (0 : Int), (0 : Int)⟩ : Timpl_Times), false)) (some ((⟨b2, b3, b4, b5⟩ : Timpl_Times), true)))
theorem ent58 : Enters Try.prog 58 := ⟨Try.f58, Try.func58, rfl, by decide⟩
set_option maxHeartbeats 8000000 in
set_option maxRecDepth 100000 in
theorem Fimpl_ReadTimes_gives (k : Nat) (a0 : List UInt8) (r : Timpl_Times × Bool) (H : Fimpl_ReadTimes k a0 = some r) : Gives Try.prog 58 [V.one (cS a0)] [] [V.agg [cI r.1.Auth, cI r.1.Start, cI r.1.End, cI r.1.Renew], V.one (cL r.2)] [] := by
  refine Gives.intro Try.func58 rfl rfl rfl rfl ?_
  intro F hF hm
  unfold Fimpl_ReadTimes at H
  obtain ⟨K, hK⟩ : ∃ K, k ≤ K := ⟨k, Nat.le_refl k⟩
  refine WpC.seq ?_
  refine WpC.regionL ?_
  refine L.alloc 1 info65 rfl hF rfl rfl rfl rfl ?_
  refine L.assign hF rfl rfl rfl ?_
  refine L.nil ?_
  refine WpC.seq ?_
  refine WpC.regionL ?_
  refine L.move hF rfl rfl rfl ?_
  obtain ⟨r1, hr1, H⟩ := bindS H
  refine L.call [false] [] [] 2 hF rfl rfl rfl ent136 rfl rfl rfl rfl rfl (Fimpl_ReadNums_gives k  a0 r1 hr1) rfl ?_
  refine L.move hF rfl rfl rfl ?_
  refine L.extract hF rfl rfl rfl rfl ?_
  refine L.extract hF rfl rfl rfl rfl ?_
  refine L.assign hF rfl rfl rfl ?_
  refine L.assign hF rfl rfl rfl ?_
  refine L.nil ?_
  refine WpC.seq ?_
  refine WpC.seq ?_
  refine WpC.regionL ?_
  refine L.move hF rfl rfl rfl ?_
  refine L.lenR (xs := r1.1) (e := eI) Try.underlying24 hF rfl rfl rfl rfl ?_
  refine L.bin hF rfl rfl rfl rfl rfl rfl ?_
  refine L.nil ?_
  refine WpC.cond rfl (fun hc => ?_) (fun hc => ?_)
  · replace H := condT hc H
    refine WpC.seq ?_
    refine WpC.regionL ?_
    refine L.buildF built65 hF rfl rfl rfl rfl ?_
    refine L.storePtr shape65 hF rfl rfl rfl rfl rfl rfl rfl ?_
    refine L.assign hF rfl rfl rfl ?_
    refine L.nil ?_
    refine WpC.ret ?_
    cases H
    exact Leaves.ret rfl rfl rfl ⟨rfl, rfl⟩
  · replace H := condF hc H
    refine WpC.skip ?_
    refine WpC.seq ?_
    obtain ⟨b2, hb2, H⟩ := bindS H
    obtain ⟨b3, hb3, H⟩ := bindS H
    obtain ⟨b4, hb4, H⟩ := bindS H
    obtain ⟨b5, hb5, H⟩ := bindS H
    refine A.begin mixed rfl rfl ?_
    intro W hI hO
    have n32767 : W 0 #[true, true, true, true, true, true, true, true, true, true, true, true, true, true, true] (mkSt [(0, one (cS a0)), (2, one (Cell.ptr 0 0)), (6, one (Cell.ptr 1 0))] [] [(0, [cI (0 : Int), cI (0 : Int), cI (0 : Int), cI (0 : Int)]), (1, [cI b2, cI b3, cI b4, cI b5])] 2) := by
      refine hI _ _ _ (A.done (by kernel_rfl) ?_)
      refine WpC.seq ?_
      refine WpC.seq ?_
      refine WpC.regionL ?_
      refine L.loadPtr shape65 hF rfl rfl rfl rfl rfl rfl ?_
      obtain ⟨r7, hr7, H⟩ := bindS H
      refine L.call [false] [] [] 2 hF rfl rfl rfl ent63 rfl rfl rfl rfl rfl (Fimpl_ShowTimes_gives k  (⟨b2, b3, b4, b5⟩ : Timpl_Times) r7 hr7) rfl ?_
      refine L.move hF rfl rfl rfl ?_
      refine L.binS hF rfl rfl rfl rfl rfl ?_
      refine L.nil ?_
      refine WpC.cond rfl (fun hc => ?_) (fun hc => ?_)
      · replace H := condT hc H
        refine WpC.seq ?_
        refine WpC.regionL ?_
        refine L.buildF built65 hF rfl rfl rfl rfl ?_
        refine L.storePtr shape65 hF rfl rfl rfl rfl rfl rfl rfl ?_
        refine L.assign hF rfl rfl rfl ?_
        refine L.nil ?_
        refine WpC.ret ?_
        cases H
        exact Leaves.ret rfl rfl rfl ⟨rfl, rfl⟩
      · replace H := condF hc H
        refine WpC.skip ?_
        refine WpC.seq ?_
        refine WpC.regionL ?_
        refine L.loadPtr shape65 hF rfl rfl rfl rfl rfl rfl ?_
        refine L.storePtr shape65 hF rfl rfl rfl rfl rfl rfl rfl ?_
        refine L.assign hF rfl rfl rfl ?_
        refine L.nil ?_
        refine WpC.ret ?_
        cases H
        exact Leaves.ret rfl rfl rfl ⟨rfl, rfl⟩
    have n16383 : W 1 #[true, true, true, true, true, true, true, true, true, true, true, true, true, true, false] (mkSt [(0, one (cS a0)), (2, one (Cell.ptr 0 0)), (6, one (Cell.ptr 1 0)), (28, agg [cI b2, cI b3, cI b4, cI b5])] [] [(0, [cI (0 : Int), cI (0 : Int), cI (0 : Int), cI (0 : Int)]), (1, [cI (0 : Int), cI (0 : Int), cI (0 : Int), cI (0 : Int)])] 2) := by
      refine hI _ _ _ ?_
      refine A.all [14] (by kernel_rfl) rfl ⟨⟨_, rfl, ?_⟩, trivial⟩
      · refine L.storePtr shape65 hF rfl rfl rfl rfl rfl rfl rfl ?_
        refine L.nil ?_
        exact A.on (hO _ _ _ n32767) (Le.mk [(0, 0), (1, 1)] hm rfl ⟨⟨_, rfl, rfl⟩, ⟨_, rfl, rfl⟩, ⟨_, rfl, rfl⟩, trivial⟩ trivial ⟨⟨_, _, rfl, rfl, rfl⟩, ⟨_, _, rfl, rfl, rfl⟩, trivial⟩)
    have n8191 : W 2 #[true, true, true, true, true, true, true, true, true, true, true, true, true, false, false] (mkSt [(0, one (cS a0)), (2, one (Cell.ptr 0 0)), (28, agg [cI b2, cI b3, cI b4, cI b5])] [] [(0, [cI (0 : Int), cI (0 : Int), cI (0 : Int), cI (0 : Int)])] 1) := by
      refine hI _ _ _ ?_
      refine A.all [13] (by kernel_rfl) rfl ⟨⟨_, rfl, ?_⟩, trivial⟩
      · refine L.alloc 1 info65 rfl hF rfl rfl rfl rfl ?_
        refine L.nil ?_
        exact A.on (hO _ _ _ n16383) (Le.mk [(0, 0), (1, 1)] hm rfl ⟨⟨_, rfl, rfl⟩, ⟨_, rfl, rfl⟩, ⟨_, rfl, rfl⟩, ⟨_, rfl, rfl⟩, trivial⟩ trivial ⟨⟨_, _, rfl, rfl, rfl⟩, ⟨_, _, rfl, rfl, rfl⟩, trivial⟩)
    have n12287 : W 2 #[true, true, true, true, true, true, true, true, true, true, true, true, false, true, false] (mkSt [(0, one (cS a0)), (2, one (Cell.ptr 0 0)), (6, one (Cell.ptr 1 0)), (18, one (cI b2)), (21, one (cI b3)), (24, one (cI b4)), (27, one (cI b5))] [] [(0, [cI (0 : Int), cI (0 : Int), cI (0 : Int), cI (0 : Int)]), (1, [cI (0 : Int), cI (0 : Int), cI (0 : Int), cI (0 : Int)])] 2) := by
      refine hI _ _ _ ?_
      refine A.take 12 rfl (by kernel_rfl) (by kernel_rfl) (by kernel_rfl) rfl (Ca.build rfl (by rw [built65]; rfl)) (fun Q0 k0 => L.buildF built65 hF rfl rfl rfl rfl (L.nil k0)) ?_
      exact A.on (hO _ _ _ n16383) (Le.mk [(0, 0), (1, 1)] hm rfl ⟨⟨_, rfl, rfl⟩, ⟨_, rfl, rfl⟩, ⟨_, rfl, rfl⟩, ⟨_, rfl, rfl⟩, trivial⟩ trivial ⟨⟨_, _, rfl, rfl, rfl⟩, ⟨_, _, rfl, rfl, rfl⟩, trivial⟩)
    have n10239 : W 3 #[true, true, true, true, true, true, true, true, true, true, true, false, false, true, false] (mkSt [(0, one (cS a0)), (2, one (Cell.ptr 0 0)), (6, one (Cell.ptr 1 0)), (18, one (cI b2)), (21, one (cI b3)), (24, one (cI b4)), (26, one (Cell.ep 2 ((3 : Int).toNat) 0))] [(2, ⟨1, List.map eI r1.1⟩)] [(0, [cI (0 : Int), cI (0 : Int), cI (0 : Int), cI (0 : Int)]), (1, [cI (0 : Int), cI (0 : Int), cI (0 : Int), cI (0 : Int)])] 3) := by
      refine hI _ _ _ ?_
      refine A.all [11] (by kernel_rfl) rfl ⟨⟨_, rfl, ?_⟩, trivial⟩
      · refine L.loadEp (xs := r1.1) (e := eI) shape3 hF rfl rfl rfl rfl (at?_get hb5).2 rfl rfl ?_
        refine L.nil ?_
        exact A.on (hO _ _ _ n12287) (Le.mk [(0, 0), (1, 1)] hm rfl ⟨⟨_, rfl, rfl⟩, ⟨_, rfl, rfl⟩, ⟨_, rfl, rfl⟩, ⟨_, rfl, rfl⟩, ⟨_, rfl, rfl⟩, ⟨_, rfl, rfl⟩, ⟨_, rfl, rfl⟩, trivial⟩ trivial ⟨⟨_, _, rfl, rfl, rfl⟩, ⟨_, _, rfl, rfl, rfl⟩, trivial⟩)
    have n12255 : W 3 #[true, true, true, true, true, false, true, true, true, true, true, true, false, true, false] (mkSt [(0, one (cS a0)), (2, one (Cell.ptr 0 0)), (6, one (Cell.ptr 1 0)), (18, one (cI b2)), (20, one (Cell.ep 2 ((1 : Int).toNat) 0)), (24, one (cI b4)), (27, one (cI b5))] [(2, ⟨1, List.map eI r1.1⟩)] [(0, [cI (0 : Int), cI (0 : Int), cI (0 : Int), cI (0 : Int)]), (1, [cI (0 : Int), cI (0 : Int), cI (0 : Int), cI (0 : Int)])] 3) := by
      refine hI _ _ _ ?_
      refine A.all [5] (by kernel_rfl) rfl ⟨⟨_, rfl, ?_⟩, trivial⟩
      · refine L.loadEp (xs := r1.1) (e := eI) shape3 hF rfl rfl rfl rfl (at?_get hb3).2 rfl rfl ?_
        refine L.nil ?_
        exact A.on (hO _ _ _ n12287) (Le.mk [(0, 0), (1, 1)] hm rfl ⟨⟨_, rfl, rfl⟩, ⟨_, rfl, rfl⟩, ⟨_, rfl, rfl⟩, ⟨_, rfl, rfl⟩, ⟨_, rfl, rfl⟩, ⟨_, rfl, rfl⟩, ⟨_, rfl, rfl⟩, trivial⟩ trivial ⟨⟨_, _, rfl, rfl, rfl⟩, ⟨_, _, rfl, rfl, rfl⟩, trivial⟩)
    have n12283 : W 3 #[true, true, false, true, true, true, true, true, true, true, true, true, false, true, false] (mkSt [(0, one (cS a0)), (2, one (Cell.ptr 0 0)), (6, one (Cell.ptr 1 0)), (17, one (Cell.ep 2 ((0 : Int).toNat) 0)), (21, one (cI b3)), (24, one (cI b4)), (27, one (cI b5))] [(2, ⟨1, List.map eI r1.1⟩)] [(0, [cI (0 : Int), cI (0 : Int), cI (0 : Int), cI (0 : Int)]), (1, [cI (0 : Int), cI (0 : Int), cI (0 : Int), cI (0 : Int)])] 3) := by
      refine hI _ _ _ ?_
      refine A.all [2] (by kernel_rfl) rfl ⟨⟨_, rfl, ?_⟩, trivial⟩
      · refine L.loadEp (xs := r1.1) (e := eI) shape3 hF rfl rfl rfl rfl (at?_get hb2).2 rfl rfl ?_
        refine L.nil ?_
        exact A.on (hO _ _ _ n12287) (Le.mk [(0, 0), (1, 1)] hm rfl ⟨⟨_, rfl, rfl⟩, ⟨_, rfl, rfl⟩, ⟨_, rfl, rfl⟩, ⟨_, rfl, rfl⟩, ⟨_, rfl, rfl⟩, ⟨_, rfl, rfl⟩, ⟨_, rfl, rfl⟩, trivial⟩ trivial ⟨⟨_, _, rfl, rfl, rfl⟩, ⟨_, _, rfl, rfl, rfl⟩, trivial⟩)
    have n4095 : W 3 #[true, true, true, true, true, true, true, true, true, true, true, true, false, false, false] (mkSt [(0, one (cS a0)), (2, one (Cell.ptr 0 0)), (18, one (cI b2)), (21, one (cI b3)), (24, one (cI b4)), (27, one (cI b5))] [] [(0, [cI (0 : Int), cI (0 : Int), cI (0 : Int), cI (0 : Int)])] 1) := by
      refine hI _ _ _ ?_
      refine A.take 12 rfl (by kernel_rfl) (by kernel_rfl) (by kernel_rfl) rfl (Ca.build rfl (by rw [built65]; rfl)) (fun Q0 k0 => L.buildF built65 hF rfl rfl rfl rfl (L.nil k0)) ?_
      exact A.on (hO _ _ _ n8191) (Le.mk [(0, 0)] hm rfl ⟨⟨_, rfl, rfl⟩, ⟨_, rfl, rfl⟩, ⟨_, rfl, rfl⟩, trivial⟩ trivial ⟨⟨_, _, rfl, rfl, rfl⟩, trivial⟩)
    have n12031 : W 3 #[true, true, true, true, true, true, true, true, false, true, true, true, false, true, false] (mkSt [(0, one (cS a0)), (2, one (Cell.ptr 0 0)), (6, one (Cell.ptr 1 0)), (18, one (cI b2)), (21, one (cI b3)), (23, one (Cell.ep 2 ((2 : Int).toNat) 0)), (27, one (cI b5))] [(2, ⟨1, List.map eI r1.1⟩)] [(0, [cI (0 : Int), cI (0 : Int), cI (0 : Int), cI (0 : Int)]), (1, [cI (0 : Int), cI (0 : Int), cI (0 : Int), cI (0 : Int)])] 3) := by
      refine hI _ _ _ ?_
      refine A.all [8] (by kernel_rfl) rfl ⟨⟨_, rfl, ?_⟩, trivial⟩
      · refine L.loadEp (xs := r1.1) (e := eI) shape3 hF rfl rfl rfl rfl (at?_get hb4).2 rfl rfl ?_
        refine L.nil ?_
        exact A.on (hO _ _ _ n12287) (Le.mk [(0, 0), (1, 1)] hm rfl ⟨⟨_, rfl, rfl⟩, ⟨_, rfl, rfl⟩, ⟨_, rfl, rfl⟩, ⟨_, rfl, rfl⟩, ⟨_, rfl, rfl⟩, ⟨_, rfl, rfl⟩, ⟨_, rfl, rfl⟩, trivial⟩ trivial ⟨⟨_, _, rfl, rfl, rfl⟩, ⟨_, _, rfl, rfl, rfl⟩, trivial⟩)
    have n10207 : W 4 #[true, true, true, true, true, false, true, true, true, true, true, false, false, true, false] (mkSt [(0, one (cS a0)), (2, one (Cell.ptr 0 0)), (6, one (Cell.ptr 1 0)), (18, one (cI b2)), (20, one (Cell.ep 2 ((1 : Int).toNat) 0)), (24, one (cI b4)), (26, one (Cell.ep 2 ((3 : Int).toNat) 0))] [(2, ⟨1, List.map eI r1.1⟩)] [(0, [cI (0 : Int), cI (0 : Int), cI (0 : Int), cI (0 : Int)]), (1, [cI (0 : Int), cI (0 : Int), cI (0 : Int), cI (0 : Int)])] 3) := by
      refine hI _ _ _ ?_
      refine A.all [5, 11] (by kernel_rfl) rfl ⟨⟨_, rfl, ?_⟩, ⟨_, rfl, ?_⟩, trivial⟩
      · refine L.loadEp (xs := r1.1) (e := eI) shape3 hF rfl rfl rfl rfl (at?_get hb3).2 rfl rfl ?_
        refine L.nil ?_
        exact A.on (hO _ _ _ n10239) (Le.mk [(0, 0), (1, 1), (2, 2)] hm rfl ⟨⟨_, rfl, rfl⟩, ⟨_, rfl, rfl⟩, ⟨_, rfl, rfl⟩, ⟨_, rfl, rfl⟩, ⟨_, rfl, rfl⟩, ⟨_, rfl, rfl⟩, ⟨_, rfl, rfl⟩, trivial⟩ ⟨⟨_, rfl, rfl⟩, trivial⟩ ⟨⟨_, _, rfl, rfl, rfl⟩, ⟨_, _, rfl, rfl, rfl⟩, trivial⟩)
      · refine L.loadEp (xs := r1.1) (e := eI) shape3 hF rfl rfl rfl rfl (at?_get hb5).2 rfl rfl ?_
        refine L.nil ?_
        exact A.on (hO _ _ _ n12255) (Le.mk [(0, 0), (1, 1), (2, 2)] hm rfl ⟨⟨_, rfl, rfl⟩, ⟨_, rfl, rfl⟩, ⟨_, rfl, rfl⟩, ⟨_, rfl, rfl⟩, ⟨_, rfl, rfl⟩, ⟨_, rfl, rfl⟩, ⟨_, rfl, rfl⟩, trivial⟩ ⟨⟨_, rfl, rfl⟩, trivial⟩ ⟨⟨_, _, rfl, rfl, rfl⟩, ⟨_, _, rfl, rfl, rfl⟩, trivial⟩)
    have n10235 : W 4 #[true, true, false, true, true, true, true, true, true, true, true, false, false, true, false] (mkSt [(0, one (cS a0)), (2, one (Cell.ptr 0 0)), (6, one (Cell.ptr 1 0)), (17, one (Cell.ep 2 ((0 : Int).toNat) 0)), (21, one (cI b3)), (24, one (cI b4)), (26, one (Cell.ep 2 ((3 : Int).toNat) 0))] [(2, ⟨1, List.map eI r1.1⟩)] [(0, [cI (0 : Int), cI (0 : Int), cI (0 : Int), cI (0 : Int)]), (1, [cI (0 : Int), cI (0 : Int), cI (0 : Int), cI (0 : Int)])] 3) := by
      refine hI _ _ _ ?_
      refine A.all [2, 11] (by kernel_rfl) rfl ⟨⟨_, rfl, ?_⟩, ⟨_, rfl, ?_⟩, trivial⟩
      · refine L.loadEp (xs := r1.1) (e := eI) shape3 hF rfl rfl rfl rfl (at?_get hb2).2 rfl rfl ?_
        refine L.nil ?_
        exact A.on (hO _ _ _ n10239) (Le.mk [(0, 0), (1, 1), (2, 2)] hm rfl ⟨⟨_, rfl, rfl⟩, ⟨_, rfl, rfl⟩, ⟨_, rfl, rfl⟩, ⟨_, rfl, rfl⟩, ⟨_, rfl, rfl⟩, ⟨_, rfl, rfl⟩, ⟨_, rfl, rfl⟩, trivial⟩ ⟨⟨_, rfl, rfl⟩, trivial⟩ ⟨⟨_, _, rfl, rfl, rfl⟩, ⟨_, _, rfl, rfl, rfl⟩, trivial⟩)
      · refine L.loadEp (xs := r1.1) (e := eI) shape3 hF rfl rfl rfl rfl (at?_get hb5).2 rfl rfl ?_
        refine L.nil ?_
        exact A.on (hO _ _ _ n12283) (Le.mk [(0, 0), (1, 1), (2, 2)] hm rfl ⟨⟨_, rfl, rfl⟩, ⟨_, rfl, rfl⟩, ⟨_, rfl, rfl⟩, ⟨_, rfl, rfl⟩, ⟨_, rfl, rfl⟩, ⟨_, rfl, rfl⟩, ⟨_, rfl, rfl⟩, trivial⟩ ⟨⟨_, rfl, rfl⟩, trivial⟩ ⟨⟨_, _, rfl, rfl, rfl⟩, ⟨_, _, rfl, rfl, rfl⟩, trivial⟩)
    have n9983 : W 4 #[true, true, true, true, true, true, true, true, false, true, true, false, false, true, false] (mkSt [(0, one (cS a0)), (2, one (Cell.ptr 0 0)), (6, one (Cell.ptr 1 0)), (18, one (cI b2)), (21, one (cI b3)), (23, one (Cell.ep 2 ((2 : Int).toNat) 0)), (26, one (Cell.ep 2 ((3 : Int).toNat) 0))] [(2, ⟨1, List.map eI r1.1⟩)] [(0, [cI (0 : Int), cI (0 : Int), cI (0 : Int), cI (0 : Int)]), (1, [cI (0 : Int), cI (0 : Int), cI (0 : Int), cI (0 : Int)])] 3) := by
      refine hI _ _ _ ?_
      refine A.all [8, 11] (by kernel_rfl) rfl ⟨⟨_, rfl, ?_⟩, ⟨_, rfl, ?_⟩, trivial⟩
      · refine L.loadEp (xs := r1.1) (e := eI) shape3 hF rfl rfl rfl rfl (at?_get hb4).2 rfl rfl ?_
        refine L.nil ?_
        exact A.on (hO _ _ _ n10239) (Le.mk [(0, 0), (1, 1), (2, 2)] hm rfl ⟨⟨_, rfl, rfl⟩, ⟨_, rfl, rfl⟩, ⟨_, rfl, rfl⟩, ⟨_, rfl, rfl⟩, ⟨_, rfl, rfl⟩, ⟨_, rfl, rfl⟩, ⟨_, rfl, rfl⟩, trivial⟩ ⟨⟨_, rfl, rfl⟩, trivial⟩ ⟨⟨_, _, rfl, rfl, rfl⟩, ⟨_, _, rfl, rfl, rfl⟩, trivial⟩)
      · refine L.loadEp (xs := r1.1) (e := eI) shape3 hF rfl rfl rfl rfl (at?_get hb5).2 rfl rfl ?_
        refine L.nil ?_
        exact A.on (hO _ _ _ n12031) (Le.mk [(0, 0), (1, 1), (2, 2)] hm rfl ⟨⟨_, rfl, rfl⟩, ⟨_, rfl, rfl⟩, ⟨_, rfl, rfl⟩, ⟨_, rfl, rfl⟩, ⟨_, rfl, rfl⟩, ⟨_, rfl, rfl⟩, ⟨_, rfl, rfl⟩, trivial⟩ ⟨⟨_, rfl, rfl⟩, trivial⟩ ⟨⟨_, _, rfl, rfl, rfl⟩, ⟨_, _, rfl, rfl, rfl⟩, trivial⟩)
    have n2047 : W 4 #[true, true, true, true, true, true, true, true, true, true, true, false, false, false, false] (mkSt [(0, one (cS a0)), (2, one (Cell.ptr 0 0)), (18, one (cI b2)), (21, one (cI b3)), (24, one (cI b4)), (26, one (Cell.ep 1 ((3 : Int).toNat) 0))] [(1, ⟨1, List.map eI r1.1⟩)] [(0, [cI (0 : Int), cI (0 : Int), cI (0 : Int), cI (0 : Int)])] 2) := by
      refine hI _ _ _ ?_
      refine A.all [11, 13] (by kernel_rfl) rfl ⟨⟨_, rfl, ?_⟩, ⟨_, rfl, ?_⟩, trivial⟩
      · refine L.loadEp (xs := r1.1) (e := eI) shape3 hF rfl rfl rfl rfl (at?_get hb5).2 rfl rfl ?_
        refine L.nil ?_
        exact A.on (hO _ _ _ n4095) (Le.mk [(0, 0)] hm rfl ⟨⟨_, rfl, rfl⟩, ⟨_, rfl, rfl⟩, ⟨_, rfl, rfl⟩, ⟨_, rfl, rfl⟩, ⟨_, rfl, rfl⟩, ⟨_, rfl, rfl⟩, trivial⟩ trivial ⟨⟨_, _, rfl, rfl, rfl⟩, trivial⟩)
      · refine L.alloc 2 info65 rfl hF rfl rfl rfl rfl ?_
        refine L.nil ?_
        exact A.on (hO _ _ _ n10239) (Le.mk [(0, 0), (1, 2), (2, 1)] hm rfl ⟨⟨_, rfl, rfl⟩, ⟨_, rfl, rfl⟩, ⟨_, rfl, rfl⟩, ⟨_, rfl, rfl⟩, ⟨_, rfl, rfl⟩, ⟨_, rfl, rfl⟩, ⟨_, rfl, rfl⟩, trivial⟩ ⟨⟨_, rfl, rfl⟩, trivial⟩ ⟨⟨_, _, rfl, rfl, rfl⟩, ⟨_, _, rfl, rfl, rfl⟩, trivial⟩)
    have n12251 : W 4 #[true, true, false, true, true, false, true, true, true, true, true, true, false, true, false] (mkSt [(0, one (cS a0)), (2, one (Cell.ptr 0 0)), (6, one (Cell.ptr 1 0)), (17, one (Cell.ep 2 ((0 : Int).toNat) 0)), (20, one (Cell.ep 2 ((1 : Int).toNat) 0)), (24, one (cI b4)), (27, one (cI b5))] [(2, ⟨1, List.map eI r1.1⟩)] [(0, [cI (0 : Int), cI (0 : Int), cI (0 : Int), cI (0 : Int)]), (1, [cI (0 : Int), cI (0 : Int), cI (0 : Int), cI (0 : Int)])] 3) := by
      refine hI _ _ _ ?_
      refine A.all [2, 5] (by kernel_rfl) rfl ⟨⟨_, rfl, ?_⟩, ⟨_, rfl, ?_⟩, trivial⟩
      · refine L.loadEp (xs := r1.1) (e := eI) shape3 hF rfl rfl rfl rfl (at?_get hb2).2 rfl rfl ?_
        refine L.nil ?_
        exact A.on (hO _ _ _ n12255) (Le.mk [(0, 0), (1, 1), (2, 2)] hm rfl ⟨⟨_, rfl, rfl⟩, ⟨_, rfl, rfl⟩, ⟨_, rfl, rfl⟩, ⟨_, rfl, rfl⟩, ⟨_, rfl, rfl⟩, ⟨_, rfl, rfl⟩, ⟨_, rfl, rfl⟩, trivial⟩ ⟨⟨_, rfl, rfl⟩, trivial⟩ ⟨⟨_, _, rfl, rfl, rfl⟩, ⟨_, _, rfl, rfl, rfl⟩, trivial⟩)
      · refine L.loadEp (xs := r1.1) (e := eI) shape3 hF rfl rfl rfl rfl (at?_get hb3).2 rfl rfl ?_
        refine L.nil ?_
        exact A.on (hO _ _ _ n12283) (Le.mk [(0, 0), (1, 1), (2, 2)] hm rfl ⟨⟨_, rfl, rfl⟩, ⟨_, rfl, rfl⟩, ⟨_, rfl, rfl⟩, ⟨_, rfl, rfl⟩, ⟨_, rfl, rfl⟩, ⟨_, rfl, rfl⟩, ⟨_, rfl, rfl⟩, trivial⟩ ⟨⟨_, rfl, rfl⟩, trivial⟩ ⟨⟨_, _, rfl, rfl, rfl⟩, ⟨_, _, rfl, rfl, rfl⟩, trivial⟩)
    have n4063 : W 4 #[true, true, true, true, true, false, true, true, true, true, true, true, false, false, false] (mkSt [(0, one (cS a0)), (2, one (Cell.ptr 0 0)), (18, one (cI b2)), (20, one (Cell.ep 1 ((1 : Int).toNat) 0)), (24, one (cI b4)), (27, one (cI b5))] [(1, ⟨1, List.map eI r1.1⟩)] [(0, [cI (0 : Int), cI (0 : Int), cI (0 : Int), cI (0 : Int)])] 2) := by
      refine hI _ _ _ ?_
      refine A.all [5, 13] (by kernel_rfl) rfl ⟨⟨_, rfl, ?_⟩, ⟨_, rfl, ?_⟩, trivial⟩
      · refine L.loadEp (xs := r1.1) (e := eI) shape3 hF rfl rfl rfl rfl (at?_get hb3).2 rfl rfl ?_
        refine L.nil ?_
        exact A.on (hO _ _ _ n4095) (Le.mk [(0, 0)] hm rfl ⟨⟨_, rfl, rfl⟩, ⟨_, rfl, rfl⟩, ⟨_, rfl, rfl⟩, ⟨_, rfl, rfl⟩, ⟨_, rfl, rfl⟩, ⟨_, rfl, rfl⟩, trivial⟩ trivial ⟨⟨_, _, rfl, rfl, rfl⟩, trivial⟩)
      · refine L.alloc 2 info65 rfl hF rfl rfl rfl rfl ?_
        refine L.nil ?_
        exact A.on (hO _ _ _ n12255) (Le.mk [(0, 0), (1, 2), (2, 1)] hm rfl ⟨⟨_, rfl, rfl⟩, ⟨_, rfl, rfl⟩, ⟨_, rfl, rfl⟩, ⟨_, rfl, rfl⟩, ⟨_, rfl, rfl⟩, ⟨_, rfl, rfl⟩, ⟨_, rfl, rfl⟩, trivial⟩ ⟨⟨_, rfl, rfl⟩, trivial⟩ ⟨⟨_, _, rfl, rfl, rfl⟩, ⟨_, _, rfl, rfl, rfl⟩, trivial⟩)
    have n11999 : W 4 #[true, true, true, true, true, false, true, true, false, true, true, true, false, true, false] (mkSt [(0, one (cS a0)), (2, one (Cell.ptr 0 0)), (6, one (Cell.ptr 1 0)), (18, one (cI b2)), (20, one (Cell.ep 2 ((1 : Int).toNat) 0)), (23, one (Cell.ep 2 ((2 : Int).toNat) 0)), (27, one (cI b5))] [(2, ⟨1, List.map eI r1.1⟩)] [(0, [cI (0 : Int), cI (0 : Int), cI (0 : Int), cI (0 : Int)]), (1, [cI (0 : Int), cI (0 : Int), cI (0 : Int), cI (0 : Int)])] 3) := by
      refine hI _ _ _ ?_
      refine A.all [5, 8] (by kernel_rfl) rfl ⟨⟨_, rfl, ?_⟩, ⟨_, rfl, ?_⟩, trivial⟩
      · refine L.loadEp (xs := r1.1) (e := eI) shape3 hF rfl rfl rfl rfl (at?_get hb3).2 rfl rfl ?_
        refine L.nil ?_
        exact A.on (hO _ _ _ n12031) (Le.mk [(0, 0), (1, 1), (2, 2)] hm rfl ⟨⟨_, rfl, rfl⟩, ⟨_, rfl, rfl⟩, ⟨_, rfl, rfl⟩, ⟨_, rfl, rfl⟩, ⟨_, rfl, rfl⟩, ⟨_, rfl, rfl⟩, ⟨_, rfl, rfl⟩, trivial⟩ ⟨⟨_, rfl, rfl⟩, trivial⟩ ⟨⟨_, _, rfl, rfl, rfl⟩, ⟨_, _, rfl, rfl, rfl⟩, trivial⟩)
      · refine L.loadEp (xs := r1.1) (e := eI) shape3 hF rfl rfl rfl rfl (at?_get hb4).2 rfl rfl ?_
        refine L.nil ?_
        exact A.on (hO _ _ _ n12255) (Le.mk [(0, 0), (1, 1), (2, 2)] hm rfl ⟨⟨_, rfl, rfl⟩, ⟨_, rfl, rfl⟩, ⟨_, rfl, rfl⟩, ⟨_, rfl, rfl⟩, ⟨_, rfl, rfl⟩, ⟨_, rfl, rfl⟩, ⟨_, rfl, rfl⟩, trivial⟩ ⟨⟨_, rfl, rfl⟩, trivial⟩ ⟨⟨_, _, rfl, rfl, rfl⟩, ⟨_, _, rfl, rfl, rfl⟩, trivial⟩)
    have n12027 : W 4 #[true, true, false, true, true, true, true, true, false, true, true, true, false, true, false] (mkSt [(0, one (cS a0)), (2, one (Cell.ptr 0 0)), (6, one (Cell.ptr 1 0)), (17, one (Cell.ep 2 ((0 : Int).toNat) 0)), (21, one (cI b3)), (23, one (Cell.ep 2 ((2 : Int).toNat) 0)), (27, one (cI b5))] [(2, ⟨1, List.map eI r1.1⟩)] [(0, [cI (0 : Int), cI (0 : Int), cI (0 : Int), cI (0 : Int)]), (1, [cI (0 : Int), cI (0 : Int), cI (0 : Int), cI (0 : Int)])] 3) := by
      refine hI _ _ _ ?_
      refine A.all [2, 8] (by kernel_rfl) rfl ⟨⟨_, rfl, ?_⟩, ⟨_, rfl, ?_⟩, trivial⟩
      · refine L.loadEp (xs := r1.1) (e := eI) shape3 hF rfl rfl rfl rfl (at?_get hb2).2 rfl rfl ?_
        refine L.nil ?_
        exact A.on (hO _ _ _ n12031) (Le.mk [(0, 0), (1, 1), (2, 2)] hm rfl ⟨⟨_, rfl, rfl⟩, ⟨_, rfl, rfl⟩, ⟨_, rfl, rfl⟩, ⟨_, rfl, rfl⟩, ⟨_, rfl, rfl⟩, ⟨_, rfl, rfl⟩, ⟨_, rfl, rfl⟩, trivial⟩ ⟨⟨_, rfl, rfl⟩, trivial⟩ ⟨⟨_, _, rfl, rfl, rfl⟩, ⟨_, _, rfl, rfl, rfl⟩, trivial⟩)
      · refine L.loadEp (xs := r1.1) (e := eI) shape3 hF rfl rfl rfl rfl (at?_get hb4).2 rfl rfl ?_
        refine L.nil ?_
        exact A.on (hO _ _ _ n12283) (Le.mk [(0, 0), (1, 1), (2, 2)] hm rfl ⟨⟨_, rfl, rfl⟩, ⟨_, rfl, rfl⟩, ⟨_, rfl, rfl⟩, ⟨_, rfl, rfl⟩, ⟨_, rfl, rfl⟩, ⟨_, rfl, rfl⟩, ⟨_, rfl, rfl⟩, trivial⟩ ⟨⟨_, rfl, rfl⟩, trivial⟩ ⟨⟨_, _, rfl, rfl, rfl⟩, ⟨_, _, rfl, rfl, rfl⟩, trivial⟩)
    have n4091 : W 4 #[true, true, false, true, true, true, true, true, true, true, true, true, false, false, false] (mkSt [(0, one (cS a0)), (2, one (Cell.ptr 0 0)), (17, one (Cell.ep 1 ((0 : Int).toNat) 0)), (21, one (cI b3)), (24, one (cI b4)), (27, one (cI b5))] [(1, ⟨1, List.map eI r1.1⟩)] [(0, [cI (0 : Int), cI (0 : Int), cI (0 : Int), cI (0 : Int)])] 2) := by
      refine hI _ _ _ ?_
      refine A.all [2, 13] (by kernel_rfl) rfl ⟨⟨_, rfl, ?_⟩, ⟨_, rfl, ?_⟩, trivial⟩
      · refine L.loadEp (xs := r1.1) (e := eI) shape3 hF rfl rfl rfl rfl (at?_get hb2).2 rfl rfl ?_
        refine L.nil ?_
        exact A.on (hO _ _ _ n4095) (Le.mk [(0, 0)] hm rfl ⟨⟨_, rfl, rfl⟩, ⟨_, rfl, rfl⟩, ⟨_, rfl, rfl⟩, ⟨_, rfl, rfl⟩, ⟨_, rfl, rfl⟩, ⟨_, rfl, rfl⟩, trivial⟩ trivial ⟨⟨_, _, rfl, rfl, rfl⟩, trivial⟩)
      · refine L.alloc 2 info65 rfl hF rfl rfl rfl rfl ?_
        refine L.nil ?_
        exact A.on (hO _ _ _ n12283) (Le.mk [(0, 0), (1, 2), (2, 1)] hm rfl ⟨⟨_, rfl, rfl⟩, ⟨_, rfl, rfl⟩, ⟨_, rfl, rfl⟩, ⟨_, rfl, rfl⟩, ⟨_, rfl, rfl⟩, ⟨_, rfl, rfl⟩, ⟨_, rfl, rfl⟩, trivial⟩ ⟨⟨_, rfl, rfl⟩, trivial⟩ ⟨⟨_, _, rfl, rfl, rfl⟩, ⟨_, _, rfl, rfl, rfl⟩, trivial⟩)
    have n3839 : W 4 #[true, true, true, true, true, true, true, true, false, true, true, true, false, false, false] (mkSt [(0, one (cS a0)), (2, one (Cell.ptr 0 0)), (18, one (cI b2)), (21, one (cI b3)), (23, one (Cell.ep 1 ((2 : Int).toNat) 0)), (27, one (cI b5))] [(1, ⟨1, List.map eI r1.1⟩)] [(0, [cI (0 : Int), cI (0 : Int), cI (0 : Int), cI (0 : Int)])] 2) := by
      refine hI _ _ _ ?_
      refine A.all [8, 13] (by kernel_rfl) rfl ⟨⟨_, rfl, ?_⟩, ⟨_, rfl, ?_⟩, trivial⟩
      · refine L.loadEp (xs := r1.1) (e := eI) shape3 hF rfl rfl rfl rfl (at?_get hb4).2 rfl rfl ?_
        refine L.nil ?_
        exact A.on (hO _ _ _ n4095) (Le.mk [(0, 0)] hm rfl ⟨⟨_, rfl, rfl⟩, ⟨_, rfl, rfl⟩, ⟨_, rfl, rfl⟩, ⟨_, rfl, rfl⟩, ⟨_, rfl, rfl⟩, ⟨_, rfl, rfl⟩, trivial⟩ trivial ⟨⟨_, _, rfl, rfl, rfl⟩, trivial⟩)
      · refine L.alloc 2 info65 rfl hF rfl rfl rfl rfl ?_
        refine L.nil ?_
        exact A.on (hO _ _ _ n12031) (Le.mk [(0, 0), (1, 2), (2, 1)] hm rfl ⟨⟨_, rfl, rfl⟩, ⟨_, rfl, rfl⟩, ⟨_, rfl, rfl⟩, ⟨_, rfl, rfl⟩, ⟨_, rfl, rfl⟩, ⟨_, rfl, rfl⟩, ⟨_, rfl, rfl⟩, trivial⟩ ⟨⟨_, rfl, rfl⟩, trivial⟩ ⟨⟨_, _, rfl, rfl, rfl⟩, ⟨_, _, rfl, rfl, rfl⟩, trivial⟩)
    have n2015 : W 5 #[true, true, true, true, true, false, true, true, true, true, true, false, false, false, false] (mkSt [(0, one (cS a0)), (2, one (Cell.ptr 0 0)), (18, one (cI b2)), (20, one (Cell.ep 1 ((1 : Int).toNat) 0)), (24, one (cI b4)), (26, one (Cell.ep 1 ((3 : Int).toNat) 0))] [(1, ⟨1, List.map eI r1.1⟩)] [(0, [cI (0 : Int), cI (0 : Int), cI (0 : Int), cI (0 : Int)])] 2) := by
      refine hI _ _ _ ?_
      refine A.all [5, 11, 13] (by kernel_rfl) rfl ⟨⟨_, rfl, ?_⟩, ⟨_, rfl, ?_⟩, ⟨_, rfl, ?_⟩, trivial⟩
      · refine L.loadEp (xs := r1.1) (e := eI) shape3 hF rfl rfl rfl rfl (at?_get hb3).2 rfl rfl ?_
        refine L.nil ?_
        exact A.on (hO _ _ _ n2047) (Le.mk [(0, 0), (1, 1)] hm rfl ⟨⟨_, rfl, rfl⟩, ⟨_, rfl, rfl⟩, ⟨_, rfl, rfl⟩, ⟨_, rfl, rfl⟩, ⟨_, rfl, rfl⟩, ⟨_, rfl, rfl⟩, trivial⟩ ⟨⟨_, rfl, rfl⟩, trivial⟩ ⟨⟨_, _, rfl, rfl, rfl⟩, trivial⟩)
      · refine L.loadEp (xs := r1.1) (e := eI) shape3 hF rfl rfl rfl rfl (at?_get hb5).2 rfl rfl ?_
        refine L.nil ?_
        exact A.on (hO _ _ _ n4063) (Le.mk [(0, 0), (1, 1)] hm rfl ⟨⟨_, rfl, rfl⟩, ⟨_, rfl, rfl⟩, ⟨_, rfl, rfl⟩, ⟨_, rfl, rfl⟩, ⟨_, rfl, rfl⟩, ⟨_, rfl, rfl⟩, trivial⟩ ⟨⟨_, rfl, rfl⟩, trivial⟩ ⟨⟨_, _, rfl, rfl, rfl⟩, trivial⟩)
      · refine L.alloc 2 info65 rfl hF rfl rfl rfl rfl ?_
        refine L.nil ?_
        exact A.on (hO _ _ _ n10207) (Le.mk [(0, 0), (1, 2), (2, 1)] hm rfl ⟨⟨_, rfl, rfl⟩, ⟨_, rfl, rfl⟩, ⟨_, rfl, rfl⟩, ⟨_, rfl, rfl⟩, ⟨_, rfl, rfl⟩, ⟨_, rfl, rfl⟩, ⟨_, rfl, rfl⟩, trivial⟩ ⟨⟨_, rfl, rfl⟩, trivial⟩ ⟨⟨_, _, rfl, rfl, rfl⟩, ⟨_, _, rfl, rfl, rfl⟩, trivial⟩)
    have n2043 : W 5 #[true, true, false, true, true, true, true, true, true, true, true, false, false, false, false] (mkSt [(0, one (cS a0)), (2, one (Cell.ptr 0 0)), (17, one (Cell.ep 1 ((0 : Int).toNat) 0)), (21, one (cI b3)), (24, one (cI b4)), (26, one (Cell.ep 1 ((3 : Int).toNat) 0))] [(1, ⟨1, List.map eI r1.1⟩)] [(0, [cI (0 : Int), cI (0 : Int), cI (0 : Int), cI (0 : Int)])] 2) := by
      refine hI _ _ _ ?_
      refine A.all [2, 11, 13] (by kernel_rfl) rfl ⟨⟨_, rfl, ?_⟩, ⟨_, rfl, ?_⟩, ⟨_, rfl, ?_⟩, trivial⟩
      · refine L.loadEp (xs := r1.1) (e := eI) shape3 hF rfl rfl rfl rfl (at?_get hb2).2 rfl rfl ?_
        refine L.nil ?_
        exact A.on (hO _ _ _ n2047) (Le.mk [(0, 0), (1, 1)] hm rfl ⟨⟨_, rfl, rfl⟩, ⟨_, rfl, rfl⟩, ⟨_, rfl, rfl⟩, ⟨_, rfl, rfl⟩, ⟨_, rfl, rfl⟩, ⟨_, rfl, rfl⟩, trivial⟩ ⟨⟨_, rfl, rfl⟩, trivial⟩ ⟨⟨_, _, rfl, rfl, rfl⟩, trivial⟩)
      · refine L.loadEp (xs := r1.1) (e := eI) shape3 hF rfl rfl rfl rfl (at?_get hb5).2 rfl rfl ?_
        refine L.nil ?_
        exact A.on (hO _ _ _ n4091) (Le.mk [(0, 0), (1, 1)] hm rfl ⟨⟨_, rfl, rfl⟩, ⟨_, rfl, rfl⟩, ⟨_, rfl, rfl⟩, ⟨_, rfl, rfl⟩, ⟨_, rfl, rfl⟩, ⟨_, rfl, rfl⟩, trivial⟩ ⟨⟨_, rfl, rfl⟩, trivial⟩ ⟨⟨_, _, rfl, rfl, rfl⟩, trivial⟩)
      · refine L.alloc 2 info65 rfl hF rfl rfl rfl rfl ?_
        refine L.nil ?_
        exact A.on (hO _ _ _ n10235) (Le.mk [(0, 0), (1, 2), (2, 1)] hm rfl ⟨⟨_, rfl, rfl⟩, ⟨_, rfl, rfl⟩, ⟨_, rfl, rfl⟩, ⟨_, rfl, rfl⟩, ⟨_, rfl, rfl⟩, ⟨_, rfl, rfl⟩, ⟨_, rfl, rfl⟩, trivial⟩ ⟨⟨_, rfl, rfl⟩, trivial⟩ ⟨⟨_, _, rfl, rfl, rfl⟩, ⟨_, _, rfl, rfl, rfl⟩, trivial⟩)
    have n1791 : W 5 #[true, true, true, true, true, true, true, true, false, true, true, false, false, false, false] (mkSt [(0, one (cS a0)), (2, one (Cell.ptr 0 0)), (18, one (cI b2)), (21, one (cI b3)), (23, one (Cell.ep 1 ((2 : Int).toNat) 0)), (26, one (Cell.ep 1 ((3 : Int).toNat) 0))] [(1, ⟨1, List.map eI r1.1⟩)] [(0, [cI (0 : Int), cI (0 : Int), cI (0 : Int), cI (0 : Int)])] 2) := by
      refine hI _ _ _ ?_
      refine A.all [8, 11, 13] (by kernel_rfl) rfl ⟨⟨_, rfl, ?_⟩, ⟨_, rfl, ?_⟩, ⟨_, rfl, ?_⟩, trivial⟩
      · refine L.loadEp (xs := r1.1) (e := eI) shape3 hF rfl rfl rfl rfl (at?_get hb4).2 rfl rfl ?_
        refine L.nil ?_
        exact A.on (hO _ _ _ n2047) (Le.mk [(0, 0), (1, 1)] hm rfl ⟨⟨_, rfl, rfl⟩, ⟨_, rfl, rfl⟩, ⟨_, rfl, rfl⟩, ⟨_, rfl, rfl⟩, ⟨_, rfl, rfl⟩, ⟨_, rfl, rfl⟩, trivial⟩ ⟨⟨_, rfl, rfl⟩, trivial⟩ ⟨⟨_, _, rfl, rfl, rfl⟩, trivial⟩)
      · refine L.loadEp (xs := r1.1) (e := eI) shape3 hF rfl rfl rfl rfl (at?_get hb5).2 rfl rfl ?_
        refine L.nil ?_
        exact A.on (hO _ _ _ n3839) (Le.mk [(0, 0), (1, 1)] hm rfl ⟨⟨_, rfl, rfl⟩, ⟨_, rfl, rfl⟩, ⟨_, rfl, rfl⟩, ⟨_, rfl, rfl⟩, ⟨_, rfl, rfl⟩, ⟨_, rfl, rfl⟩, trivial⟩ ⟨⟨_, rfl, rfl⟩, trivial⟩ ⟨⟨_, _, rfl, rfl, rfl⟩, trivial⟩)
      · refine L.alloc 2 info65 rfl hF rfl rfl rfl rfl ?_
        refine L.nil ?_
        exact A.on (hO _ _ _ n9983) (Le.mk [(0, 0), (1, 2), (2, 1)] hm rfl ⟨⟨_, rfl, rfl⟩, ⟨_, rfl, rfl⟩, ⟨_, rfl, rfl⟩, ⟨_, rfl, rfl⟩, ⟨_, rfl, rfl⟩, ⟨_, rfl, rfl⟩, ⟨_, rfl, rfl⟩, trivial⟩ ⟨⟨_, rfl, rfl⟩, trivial⟩ ⟨⟨_, _, rfl, rfl, rfl⟩, ⟨_, _, rfl, rfl, rfl⟩, trivial⟩)
    have n4059 : W 5 #[true, true, false, true, true, false, true, true, true, true, true, true, false, false, false] (mkSt [(0, one (cS a0)), (2, one (Cell.ptr 0 0)), (17, one (Cell.ep 1 ((0 : Int).toNat) 0)), (20, one (Cell.ep 1 ((1 : Int).toNat) 0)), (24, one (cI b4)), (27, one (cI b5))] [(1, ⟨1, List.map eI r1.1⟩)] [(0, [cI (0 : Int), cI (0 : Int), cI (0 : Int), cI (0 : Int)])] 2) := by
      refine hI _ _ _ ?_
      refine A.all [2, 5, 13] (by kernel_rfl) rfl ⟨⟨_, rfl, ?_⟩, ⟨_, rfl, ?_⟩, ⟨_, rfl, ?_⟩, trivial⟩
      · refine L.loadEp (xs := r1.1) (e := eI) shape3 hF rfl rfl rfl rfl (at?_get hb2).2 rfl rfl ?_
        refine L.nil ?_
        exact A.on (hO _ _ _ n4063) (Le.mk [(0, 0), (1, 1)] hm rfl ⟨⟨_, rfl, rfl⟩, ⟨_, rfl, rfl⟩, ⟨_, rfl, rfl⟩, ⟨_, rfl, rfl⟩, ⟨_, rfl, rfl⟩, ⟨_, rfl, rfl⟩, trivial⟩ ⟨⟨_, rfl, rfl⟩, trivial⟩ ⟨⟨_, _, rfl, rfl, rfl⟩, trivial⟩)
      · refine L.loadEp (xs := r1.1) (e := eI) shape3 hF rfl rfl rfl rfl (at?_get hb3).2 rfl rfl ?_
        refine L.nil ?_
        exact A.on (hO _ _ _ n4091) (Le.mk [(0, 0), (1, 1)] hm rfl ⟨⟨_, rfl, rfl⟩, ⟨_, rfl, rfl⟩, ⟨_, rfl, rfl⟩, ⟨_, rfl, rfl⟩, ⟨_, rfl, rfl⟩, ⟨_, rfl, rfl⟩, trivial⟩ ⟨⟨_, rfl, rfl⟩, trivial⟩ ⟨⟨_, _, rfl, rfl, rfl⟩, trivial⟩)
      · refine L.alloc 2 info65 rfl hF rfl rfl rfl rfl ?_
        refine L.nil ?_
        exact A.on (hO _ _ _ n12251) (Le.mk [(0, 0), (1, 2), (2, 1)] hm rfl ⟨⟨_, rfl, rfl⟩, ⟨_, rfl, rfl⟩, ⟨_, rfl, rfl⟩, ⟨_, rfl, rfl⟩, ⟨_, rfl, rfl⟩, ⟨_, rfl, rfl⟩, ⟨_, rfl, rfl⟩, trivial⟩ ⟨⟨_, rfl, rfl⟩, trivial⟩ ⟨⟨_, _, rfl, rfl, rfl⟩, ⟨_, _, rfl, rfl, rfl⟩, trivial⟩)
    have n3835 : W 5 #[true, true, false, true, true, true, true, true, false, true, true, true, false, false, false] (mkSt [(0, one (cS a0)), (2, one (Cell.ptr 0 0)), (17, one (Cell.ep 1 ((0 : Int).toNat) 0)), (21, one (cI b3)), (23, one (Cell.ep 1 ((2 : Int).toNat) 0)), (27, one (cI b5))] [(1, ⟨1, List.map eI r1.1⟩)] [(0, [cI (0 : Int), cI (0 : Int), cI (0 : Int), cI (0 : Int)])] 2) := by
      refine hI _ _ _ ?_
      refine A.all [2, 8, 13] (by kernel_rfl) rfl ⟨⟨_, rfl, ?_⟩, ⟨_, rfl, ?_⟩, ⟨_, rfl, ?_⟩, trivial⟩
      · refine L.loadEp (xs := r1.1) (e := eI) shape3 hF rfl rfl rfl rfl (at?_get hb2).2 rfl rfl ?_
        refine L.nil ?_
        exact A.on (hO _ _ _ n3839) (Le.mk [(0, 0), (1, 1)] hm rfl ⟨⟨_, rfl, rfl⟩, ⟨_, rfl, rfl⟩, ⟨_, rfl, rfl⟩, ⟨_, rfl, rfl⟩, ⟨_, rfl, rfl⟩, ⟨_, rfl, rfl⟩, trivial⟩ ⟨⟨_, rfl, rfl⟩, trivial⟩ ⟨⟨_, _, rfl, rfl, rfl⟩, trivial⟩)
      · refine L.loadEp (xs := r1.1) (e := eI) shape3 hF rfl rfl rfl rfl (at?_get hb4).2 rfl rfl ?_
        refine L.nil ?_
        exact A.on (hO _ _ _ n4091) (Le.mk [(0, 0), (1, 1)] hm rfl ⟨⟨_, rfl, rfl⟩, ⟨_, rfl, rfl⟩, ⟨_, rfl, rfl⟩, ⟨_, rfl, rfl⟩, ⟨_, rfl, rfl⟩, ⟨_, rfl, rfl⟩, trivial⟩ ⟨⟨_, rfl, rfl⟩, trivial⟩ ⟨⟨_, _, rfl, rfl, rfl⟩, trivial⟩)
      · refine L.alloc 2 info65 rfl hF rfl rfl rfl rfl ?_
        refine L.nil ?_
        exact A.on (hO _ _ _ n12027) (Le.mk [(0, 0), (1, 2), (2, 1)] hm rfl ⟨⟨_, rfl, rfl⟩, ⟨_, rfl, rfl⟩, ⟨_, rfl, rfl⟩, ⟨_, rfl, rfl⟩, ⟨_, rfl, rfl⟩, ⟨_, rfl, rfl⟩, ⟨_, rfl, rfl⟩, trivial⟩ ⟨⟨_, rfl, rfl⟩, trivial⟩ ⟨⟨_, _, rfl, rfl, rfl⟩, ⟨_, _, rfl, rfl, rfl⟩, trivial⟩)
    have n3807 : W 5 #[true, true, true, true, true, false, true, true, false, true, true, true, false, false, false] (mkSt [(0, one (cS a0)), (2, one (Cell.ptr 0 0)), (18, one (cI b2)), (20, one (Cell.ep 1 ((1 : Int).toNat) 0)), (23, one (Cell.ep 1 ((2 : Int).toNat) 0)), (27, one (cI b5))] [(1, ⟨1, List.map eI r1.1⟩)] [(0, [cI (0 : Int), cI (0 : Int), cI (0 : Int), cI (0 : Int)])] 2) := by
      refine hI _ _ _ ?_
      refine A.all [5, 8, 13] (by kernel_rfl) rfl ⟨⟨_, rfl, ?_⟩, ⟨_, rfl, ?_⟩, ⟨_, rfl, ?_⟩, trivial⟩
      · refine L.loadEp (xs := r1.1) (e := eI) shape3 hF rfl rfl rfl rfl (at?_get hb3).2 rfl rfl ?_
        refine L.nil ?_
        exact A.on (hO _ _ _ n3839) (Le.mk [(0, 0), (1, 1)] hm rfl ⟨⟨_, rfl, rfl⟩, ⟨_, rfl, rfl⟩, ⟨_, rfl, rfl⟩, ⟨_, rfl, rfl⟩, ⟨_, rfl, rfl⟩, ⟨_, rfl, rfl⟩, trivial⟩ ⟨⟨_, rfl, rfl⟩, trivial⟩ ⟨⟨_, _, rfl, rfl, rfl⟩, trivial⟩)
      · refine L.loadEp (xs := r1.1) (e := eI) shape3 hF rfl rfl rfl rfl (at?_get hb4).2 rfl rfl ?_
        refine L.nil ?_
        exact A.on (hO _ _ _ n4063) (Le.mk [(0, 0), (1, 1)] hm rfl ⟨⟨_, rfl, rfl⟩, ⟨_, rfl, rfl⟩, ⟨_, rfl, rfl⟩, ⟨_, rfl, rfl⟩, ⟨_, rfl, rfl⟩, ⟨_, rfl, rfl⟩, trivial⟩ ⟨⟨_, rfl, rfl⟩, trivial⟩ ⟨⟨_, _, rfl, rfl, rfl⟩, trivial⟩)
      · refine L.alloc 2 info65 rfl hF rfl rfl rfl rfl ?_
        refine L.nil ?_
        exact A.on (hO _ _ _ n11999) (Le.mk [(0, 0), (1, 2), (2, 1)] hm rfl ⟨⟨_, rfl, rfl⟩, ⟨_, rfl, rfl⟩, ⟨_, rfl, rfl⟩, ⟨_, rfl, rfl⟩, ⟨_, rfl, rfl⟩, ⟨_, rfl, rfl⟩, ⟨_, rfl, rfl⟩, trivial⟩ ⟨⟨_, rfl, rfl⟩, trivial⟩ ⟨⟨_, _, rfl, rfl, rfl⟩, ⟨_, _, rfl, rfl, rfl⟩, trivial⟩)
    have n11995 : W 5 #[true, true, false, true, true, false, true, true, false, true, true, true, false, true, false] (mkSt [(0, one (cS a0)), (2, one (Cell.ptr 0 0)), (6, one (Cell.ptr 1 0)), (17, one (Cell.ep 2 ((0 : Int).toNat) 0)), (20, one (Cell.ep 2 ((1 : Int).toNat) 0)), (23, one (Cell.ep 2 ((2 : Int).toNat) 0)), (27, one (cI b5))] [(2, ⟨1, List.map eI r1.1⟩)] [(0, [cI (0 : Int), cI (0 : Int), cI (0 : Int), cI (0 : Int)]), (1, [cI (0 : Int), cI (0 : Int), cI (0 : Int), cI (0 : Int)])] 3) := by
      refine hI _ _ _ ?_
      refine A.all [2, 5, 8] (by kernel_rfl) rfl ⟨⟨_, rfl, ?_⟩, ⟨_, rfl, ?_⟩, ⟨_, rfl, ?_⟩, trivial⟩
      · refine L.loadEp (xs := r1.1) (e := eI) shape3 hF rfl rfl rfl rfl (at?_get hb2).2 rfl rfl ?_
        refine L.nil ?_
        exact A.on (hO _ _ _ n11999) (Le.mk [(0, 0), (1, 1), (2, 2)] hm rfl ⟨⟨_, rfl, rfl⟩, ⟨_, rfl, rfl⟩, ⟨_, rfl, rfl⟩, ⟨_, rfl, rfl⟩, ⟨_, rfl, rfl⟩, ⟨_, rfl, rfl⟩, ⟨_, rfl, rfl⟩, trivial⟩ ⟨⟨_, rfl, rfl⟩, trivial⟩ ⟨⟨_, _, rfl, rfl, rfl⟩, ⟨_, _, rfl, rfl, rfl⟩, trivial⟩)
      · refine L.loadEp (xs := r1.1) (e := eI) shape3 hF rfl rfl rfl rfl (at?_get hb3).2 rfl rfl ?_
        refine L.nil ?_
        exact A.on (hO _ _ _ n12027) (Le.mk [(0, 0), (1, 1), (2, 2)] hm rfl ⟨⟨_, rfl, rfl⟩, ⟨_, rfl, rfl⟩, ⟨_, rfl, rfl⟩, ⟨_, rfl, rfl⟩, ⟨_, rfl, rfl⟩, ⟨_, rfl, rfl⟩, ⟨_, rfl, rfl⟩, trivial⟩ ⟨⟨_, rfl, rfl⟩, trivial⟩ ⟨⟨_, _, rfl, rfl, rfl⟩, ⟨_, _, rfl, rfl, rfl⟩, trivial⟩)
      · refine L.loadEp (xs := r1.1) (e := eI) shape3 hF rfl rfl rfl rfl (at?_get hb4).2 rfl rfl ?_
        refine L.nil ?_
        exact A.on (hO _ _ _ n12251) (Le.mk [(0, 0), (1, 1), (2, 2)] hm rfl ⟨⟨_, rfl, rfl⟩, ⟨_, rfl, rfl⟩, ⟨_, rfl, rfl⟩, ⟨_, rfl, rfl⟩, ⟨_, rfl, rfl⟩, ⟨_, rfl, rfl⟩, ⟨_, rfl, rfl⟩, trivial⟩ ⟨⟨_, rfl, rfl⟩, trivial⟩ ⟨⟨_, _, rfl, rfl, rfl⟩, ⟨_, _, rfl, rfl, rfl⟩, trivial⟩)
    have n10203 : W 5 #[true, true, false, true, true, false, true, true, true, true, true, false, false, true, false] (mkSt [(0, one (cS a0)), (2, one (Cell.ptr 0 0)), (6, one (Cell.ptr 1 0)), (17, one (Cell.ep 2 ((0 : Int).toNat) 0)), (20, one (Cell.ep 2 ((1 : Int).toNat) 0)), (24, one (cI b4)), (26, one (Cell.ep 2 ((3 : Int).toNat) 0))] [(2, ⟨1, List.map eI r1.1⟩)] [(0, [cI (0 : Int), cI (0 : Int), cI (0 : Int), cI (0 : Int)]), (1, [cI (0 : Int), cI (0 : Int), cI (0 : Int), cI (0 : Int)])] 3) := by
      refine hI _ _ _ ?_
      refine A.all [2, 5, 11] (by kernel_rfl) rfl ⟨⟨_, rfl, ?_⟩, ⟨_, rfl, ?_⟩, ⟨_, rfl, ?_⟩, trivial⟩
      · refine L.loadEp (xs := r1.1) (e := eI) shape3 hF rfl rfl rfl rfl (at?_get hb2).2 rfl rfl ?_
        refine L.nil ?_
        exact A.on (hO _ _ _ n10207) (Le.mk [(0, 0), (1, 1), (2, 2)] hm rfl ⟨⟨_, rfl, rfl⟩, ⟨_, rfl, rfl⟩, ⟨_, rfl, rfl⟩, ⟨_, rfl, rfl⟩, ⟨_, rfl, rfl⟩, ⟨_, rfl, rfl⟩, ⟨_, rfl, rfl⟩, trivial⟩ ⟨⟨_, rfl, rfl⟩, trivial⟩ ⟨⟨_, _, rfl, rfl, rfl⟩, ⟨_, _, rfl, rfl, rfl⟩, trivial⟩)
      · refine L.loadEp (xs := r1.1) (e := eI) shape3 hF rfl rfl rfl rfl (at?_get hb3).2 rfl rfl ?_
        refine L.nil ?_
        exact A.on (hO _ _ _ n10235) (Le.mk [(0, 0), (1, 1), (2, 2)] hm rfl ⟨⟨_, rfl, rfl⟩, ⟨_, rfl, rfl⟩, ⟨_, rfl, rfl⟩, ⟨_, rfl, rfl⟩, ⟨_, rfl, rfl⟩, ⟨_, rfl, rfl⟩, ⟨_, rfl, rfl⟩, trivial⟩ ⟨⟨_, rfl, rfl⟩, trivial⟩ ⟨⟨_, _, rfl, rfl, rfl⟩, ⟨_, _, rfl, rfl, rfl⟩, trivial⟩)
      · refine L.loadEp (xs := r1.1) (e := eI) shape3 hF rfl rfl rfl rfl (at?_get hb5).2 rfl rfl ?_
        refine L.nil ?_
        exact A.on (hO _ _ _ n12251) (Le.mk [(0, 0), (1, 1), (2, 2)] hm rfl ⟨⟨_, rfl, rfl⟩, ⟨_, rfl, rfl⟩, ⟨_, rfl, rfl⟩, ⟨_, rfl, rfl⟩, ⟨_, rfl, rfl⟩, ⟨_, rfl, rfl⟩, ⟨_, rfl, rfl⟩, trivial⟩ ⟨⟨_, rfl, rfl⟩, trivial⟩ ⟨⟨_, _, rfl, rfl, rfl⟩, ⟨_, _, rfl, rfl, rfl⟩, trivial⟩)
    have n9951 : W 5 #[true, true, true, true, true, false, true, true, false, true, true, false, false, true, false] (mkSt [(0, one (cS a0)), (2, one (Cell.ptr 0 0)), (6, one (Cell.ptr 1 0)), (18, one (cI b2)), (20, one (Cell.ep 2 ((1 : Int).toNat) 0)), (23, one (Cell.ep 2 ((2 : Int).toNat) 0)), (26, one (Cell.ep 2 ((3 : Int).toNat) 0))] [(2, ⟨1, List.map eI r1.1⟩)] [(0, [cI (0 : Int), cI (0 : Int), cI (0 : Int), cI (0 : Int)]), (1, [cI (0 : Int), cI (0 : Int), cI (0 : Int), cI (0 : Int)])] 3) := by
      refine hI _ _ _ ?_
      refine A.all [5, 8, 11] (by kernel_rfl) rfl ⟨⟨_, rfl, ?_⟩, ⟨_, rfl, ?_⟩, ⟨_, rfl, ?_⟩, trivial⟩
      · refine L.loadEp (xs := r1.1) (e := eI) shape3 hF rfl rfl rfl rfl (at?_get hb3).2 rfl rfl ?_
        refine L.nil ?_
        exact A.on (hO _ _ _ n9983) (Le.mk [(0, 0), (1, 1), (2, 2)] hm rfl ⟨⟨_, rfl, rfl⟩, ⟨_, rfl, rfl⟩, ⟨_, rfl, rfl⟩, ⟨_, rfl, rfl⟩, ⟨_, rfl, rfl⟩, ⟨_, rfl, rfl⟩, ⟨_, rfl, rfl⟩, trivial⟩ ⟨⟨_, rfl, rfl⟩, trivial⟩ ⟨⟨_, _, rfl, rfl, rfl⟩, ⟨_, _, rfl, rfl, rfl⟩, trivial⟩)
      · refine L.loadEp (xs := r1.1) (e := eI) shape3 hF rfl rfl rfl rfl (at?_get hb4).2 rfl rfl ?_
        refine L.nil ?_
        exact A.on (hO _ _ _ n10207) (Le.mk [(0, 0), (1, 1), (2, 2)] hm rfl ⟨⟨_, rfl, rfl⟩, ⟨_, rfl, rfl⟩, ⟨_, rfl, rfl⟩, ⟨_, rfl, rfl⟩, ⟨_, rfl, rfl⟩, ⟨_, rfl, rfl⟩, ⟨_, rfl, rfl⟩, trivial⟩ ⟨⟨_, rfl, rfl⟩, trivial⟩ ⟨⟨_, _, rfl, rfl, rfl⟩, ⟨_, _, rfl, rfl, rfl⟩, trivial⟩)
      · refine L.loadEp (xs := r1.1) (e := eI) shape3 hF rfl rfl rfl rfl (at?_get hb5).2 rfl rfl ?_
        refine L.nil ?_
        exact A.on (hO _ _ _ n11999) (Le.mk [(0, 0), (1, 1), (2, 2)] hm rfl ⟨⟨_, rfl, rfl⟩, ⟨_, rfl, rfl⟩, ⟨_, rfl, rfl⟩, ⟨_, rfl, rfl⟩, ⟨_, rfl, rfl⟩, ⟨_, rfl, rfl⟩, ⟨_, rfl, rfl⟩, trivial⟩ ⟨⟨_, rfl, rfl⟩, trivial⟩ ⟨⟨_, _, rfl, rfl, rfl⟩, ⟨_, _, rfl, rfl, rfl⟩, trivial⟩)
    have n9979 : W 5 #[true, true, false, true, true, true, true, true, false, true, true, false, false, true, false] (mkSt [(0, one (cS a0)), (2, one (Cell.ptr 0 0)), (6, one (Cell.ptr 1 0)), (17, one (Cell.ep 2 ((0 : Int).toNat) 0)), (21, one (cI b3)), (23, one (Cell.ep 2 ((2 : Int).toNat) 0)), (26, one (Cell.ep 2 ((3 : Int).toNat) 0))] [(2, ⟨1, List.map eI r1.1⟩)] [(0, [cI (0 : Int), cI (0 : Int), cI (0 : Int), cI (0 : Int)]), (1, [cI (0 : Int), cI (0 : Int), cI (0 : Int), cI (0 : Int)])] 3) := by
      refine hI _ _ _ ?_
      refine A.all [2, 8, 11] (by kernel_rfl) rfl ⟨⟨_, rfl, ?_⟩, ⟨_, rfl, ?_⟩, ⟨_, rfl, ?_⟩, trivial⟩
      · refine L.loadEp (xs := r1.1) (e := eI) shape3 hF rfl rfl rfl rfl (at?_get hb2).2 rfl rfl ?_
        refine L.nil ?_
        exact A.on (hO _ _ _ n9983) (Le.mk [(0, 0), (1, 1), (2, 2)] hm rfl ⟨⟨_, rfl, rfl⟩, ⟨_, rfl, rfl⟩, ⟨_, rfl, rfl⟩, ⟨_, rfl, rfl⟩, ⟨_, rfl, rfl⟩, ⟨_, rfl, rfl⟩, ⟨_, rfl, rfl⟩, trivial⟩ ⟨⟨_, rfl, rfl⟩, trivial⟩ ⟨⟨_, _, rfl, rfl, rfl⟩, ⟨_, _, rfl, rfl, rfl⟩, trivial⟩)
      · refine L.loadEp (xs := r1.1) (e := eI) shape3 hF rfl rfl rfl rfl (at?_get hb4).2 rfl rfl ?_
        refine L.nil ?_
        exact A.on (hO _ _ _ n10235) (Le.mk [(0, 0), (1, 1), (2, 2)] hm rfl ⟨⟨_, rfl, rfl⟩, ⟨_, rfl, rfl⟩, ⟨_, rfl, rfl⟩, ⟨_, rfl, rfl⟩, ⟨_, rfl, rfl⟩, ⟨_, rfl, rfl⟩, ⟨_, rfl, rfl⟩, trivial⟩ ⟨⟨_, rfl, rfl⟩, trivial⟩ ⟨⟨_, _, rfl, rfl, rfl⟩, ⟨_, _, rfl, rfl, rfl⟩, trivial⟩)
      · refine L.loadEp (xs := r1.1) (e := eI) shape3 hF rfl rfl rfl rfl (at?_get hb5).2 rfl rfl ?_
        refine L.nil ?_
        exact A.on (hO _ _ _ n12027) (Le.mk [(0, 0), (1, 1), (2, 2)] hm rfl ⟨⟨_, rfl, rfl⟩, ⟨_, rfl, rfl⟩, ⟨_, rfl, rfl⟩, ⟨_, rfl, rfl⟩, ⟨_, rfl, rfl⟩, ⟨_, rfl, rfl⟩, ⟨_, rfl, rfl⟩, trivial⟩ ⟨⟨_, rfl, rfl⟩, trivial⟩ ⟨⟨_, _, rfl, rfl, rfl⟩, ⟨_, _, rfl, rfl, rfl⟩, trivial⟩)
    have n1787 : W 6 #[true, true, false, true, true, true, true, true, false, true, true, false, false, false, false] (mkSt [(0, one (cS a0)), (2, one (Cell.ptr 0 0)), (17, one (Cell.ep 1 ((0 : Int).toNat) 0)), (21, one (cI b3)), (23, one (Cell.ep 1 ((2 : Int).toNat) 0)), (26, one (Cell.ep 1 ((3 : Int).toNat) 0))] [(1, ⟨1, List.map eI r1.1⟩)] [(0, [cI (0 : Int), cI (0 : Int), cI (0 : Int), cI (0 : Int)])] 2) := by
      refine hI _ _ _ ?_
      refine A.all [2, 8, 11, 13] (by kernel_rfl) rfl ⟨⟨_, rfl, ?_⟩, ⟨_, rfl, ?_⟩, ⟨_, rfl, ?_⟩, ⟨_, rfl, ?_⟩, trivial⟩
      · refine L.loadEp (xs := r1.1) (e := eI) shape3 hF rfl rfl rfl rfl (at?_get hb2).2 rfl rfl ?_
        refine L.nil ?_
        exact A.on (hO _ _ _ n1791) (Le.mk [(0, 0), (1, 1)] hm rfl ⟨⟨_, rfl, rfl⟩, ⟨_, rfl, rfl⟩, ⟨_, rfl, rfl⟩, ⟨_, rfl, rfl⟩, ⟨_, rfl, rfl⟩, ⟨_, rfl, rfl⟩, trivial⟩ ⟨⟨_, rfl, rfl⟩, trivial⟩ ⟨⟨_, _, rfl, rfl, rfl⟩, trivial⟩)
      · refine L.loadEp (xs := r1.1) (e := eI) shape3 hF rfl rfl rfl rfl (at?_get hb4).2 rfl rfl ?_
        refine L.nil ?_
        exact A.on (hO _ _ _ n2043) (Le.mk [(0, 0), (1, 1)] hm rfl ⟨⟨_, rfl, rfl⟩, ⟨_, rfl, rfl⟩, ⟨_, rfl, rfl⟩, ⟨_, rfl, rfl⟩, ⟨_, rfl, rfl⟩, ⟨_, rfl, rfl⟩, trivial⟩ ⟨⟨_, rfl, rfl⟩, trivial⟩ ⟨⟨_, _, rfl, rfl, rfl⟩, trivial⟩)
      · refine L.loadEp (xs := r1.1) (e := eI) shape3 hF rfl rfl rfl rfl (at?_get hb5).2 rfl rfl ?_
        refine L.nil ?_
        exact A.on (hO _ _ _ n3835) (Le.mk [(0, 0), (1, 1)] hm rfl ⟨⟨_, rfl, rfl⟩, ⟨_, rfl, rfl⟩, ⟨_, rfl, rfl⟩, ⟨_, rfl, rfl⟩, ⟨_, rfl, rfl⟩, ⟨_, rfl, rfl⟩, trivial⟩ ⟨⟨_, rfl, rfl⟩, trivial⟩ ⟨⟨_, _, rfl, rfl, rfl⟩, trivial⟩)
      · refine L.alloc 2 info65 rfl hF rfl rfl rfl rfl ?_
        refine L.nil ?_
        exact A.on (hO _ _ _ n9979) (Le.mk [(0, 0), (1, 2), (2, 1)] hm rfl ⟨⟨_, rfl, rfl⟩, ⟨_, rfl, rfl⟩, ⟨_, rfl, rfl⟩, ⟨_, rfl, rfl⟩, ⟨_, rfl, rfl⟩, ⟨_, rfl, rfl⟩, ⟨_, rfl, rfl⟩, trivial⟩ ⟨⟨_, rfl, rfl⟩, trivial⟩ ⟨⟨_, _, rfl, rfl, rfl⟩, ⟨_, _, rfl, rfl, rfl⟩, trivial⟩)
    have n9947 : W 6 #[true, true, false, true, true, false, true, true, false, true, true, false, false, true, false] (mkSt [(0, one (cS a0)), (2, one (Cell.ptr 0 0)), (6, one (Cell.ptr 1 0)), (17, one (Cell.ep 2 ((0 : Int).toNat) 0)), (20, one (Cell.ep 2 ((1 : Int).toNat) 0)), (23, one (Cell.ep 2 ((2 : Int).toNat) 0)), (26, one (Cell.ep 2 ((3 : Int).toNat) 0))] [(2, ⟨1, List.map eI r1.1⟩)] [(0, [cI (0 : Int), cI (0 : Int), cI (0 : Int), cI (0 : Int)]), (1, [cI (0 : Int), cI (0 : Int), cI (0 : Int), cI (0 : Int)])] 3) := by
      refine hI _ _ _ ?_
      refine A.all [2, 5, 8, 11] (by kernel_rfl) rfl ⟨⟨_, rfl, ?_⟩, ⟨_, rfl, ?_⟩, ⟨_, rfl, ?_⟩, ⟨_, rfl, ?_⟩, trivial⟩
      · refine L.loadEp (xs := r1.1) (e := eI) shape3 hF rfl rfl rfl rfl (at?_get hb2).2 rfl rfl ?_
        refine L.nil ?_
        exact A.on (hO _ _ _ n9951) (Le.mk [(0, 0), (1, 1), (2, 2)] hm rfl ⟨⟨_, rfl, rfl⟩, ⟨_, rfl, rfl⟩, ⟨_, rfl, rfl⟩, ⟨_, rfl, rfl⟩, ⟨_, rfl, rfl⟩, ⟨_, rfl, rfl⟩, ⟨_, rfl, rfl⟩, trivial⟩ ⟨⟨_, rfl, rfl⟩, trivial⟩ ⟨⟨_, _, rfl, rfl, rfl⟩, ⟨_, _, rfl, rfl, rfl⟩, trivial⟩)
      · refine L.loadEp (xs := r1.1) (e := eI) shape3 hF rfl rfl rfl rfl (at?_get hb3).2 rfl rfl ?_
        refine L.nil ?_
        exact A.on (hO _ _ _ n9979) (Le.mk [(0, 0), (1, 1), (2, 2)] hm rfl ⟨⟨_, rfl, rfl⟩, ⟨_, rfl, rfl⟩, ⟨_, rfl, rfl⟩, ⟨_, rfl, rfl⟩, ⟨_, rfl, rfl⟩, ⟨_, rfl, rfl⟩, ⟨_, rfl, rfl⟩, trivial⟩ ⟨⟨_, rfl, rfl⟩, trivial⟩ ⟨⟨_, _, rfl, rfl, rfl⟩, ⟨_, _, rfl, rfl, rfl⟩, trivial⟩)
      · refine L.loadEp (xs := r1.1) (e := eI) shape3 hF rfl rfl rfl rfl (at?_get hb4).2 rfl rfl ?_
        refine L.nil ?_
        exact A.on (hO _ _ _ n10203) (Le.mk [(0, 0), (1, 1), (2, 2)] hm rfl ⟨⟨_, rfl, rfl⟩, ⟨_, rfl, rfl⟩, ⟨_, rfl, rfl⟩, ⟨_, rfl, rfl⟩, ⟨_, rfl, rfl⟩, ⟨_, rfl, rfl⟩, ⟨_, rfl, rfl⟩, trivial⟩ ⟨⟨_, rfl, rfl⟩, trivial⟩ ⟨⟨_, _, rfl, rfl, rfl⟩, ⟨_, _, rfl, rfl, rfl⟩, trivial⟩)
      · refine L.loadEp (xs := r1.1) (e := eI) shape3 hF rfl rfl rfl rfl (at?_get hb5).2 rfl rfl ?_
        refine L.nil ?_
        exact A.on (hO _ _ _ n11995) (Le.mk [(0, 0), (1, 1), (2, 2)] hm rfl ⟨⟨_, rfl, rfl⟩, ⟨_, rfl, rfl⟩, ⟨_, rfl, rfl⟩, ⟨_, rfl, rfl⟩, ⟨_, rfl, rfl⟩, ⟨_, rfl, rfl⟩, ⟨_, rfl, rfl⟩, trivial⟩ ⟨⟨_, rfl, rfl⟩, trivial⟩ ⟨⟨_, _, rfl, rfl, rfl⟩, ⟨_, _, rfl, rfl, rfl⟩, trivial⟩)
    have n2011 : W 6 #[true, true, false, true, true, false, true, true, true, true, true, false, false, false, false] (mkSt [(0, one (cS a0)), (2, one (Cell.ptr 0 0)), (17, one (Cell.ep 1 ((0 : Int).toNat) 0)), (20, one (Cell.ep 1 ((1 : Int).toNat) 0)), (24, one (cI b4)), (26, one (Cell.ep 1 ((3 : Int).toNat) 0))] [(1, ⟨1, List.map eI r1.1⟩)] [(0, [cI (0 : Int), cI (0 : Int), cI (0 : Int), cI (0 : Int)])] 2) := by
      refine hI _ _ _ ?_
      refine A.all [2, 5, 11, 13] (by kernel_rfl) rfl ⟨⟨_, rfl, ?_⟩, ⟨_, rfl, ?_⟩, ⟨_, rfl, ?_⟩, ⟨_, rfl, ?_⟩, trivial⟩
      · refine L.loadEp (xs := r1.1) (e := eI) shape3 hF rfl rfl rfl rfl (at?_get hb2).2 rfl rfl ?_
        refine L.nil ?_
        exact A.on (hO _ _ _ n2015) (Le.mk [(0, 0), (1, 1)] hm rfl ⟨⟨_, rfl, rfl⟩, ⟨_, rfl, rfl⟩, ⟨_, rfl, rfl⟩, ⟨_, rfl, rfl⟩, ⟨_, rfl, rfl⟩, ⟨_, rfl, rfl⟩, trivial⟩ ⟨⟨_, rfl, rfl⟩, trivial⟩ ⟨⟨_, _, rfl, rfl, rfl⟩, trivial⟩)
      · refine L.loadEp (xs := r1.1) (e := eI) shape3 hF rfl rfl rfl rfl (at?_get hb3).2 rfl rfl ?_
        refine L.nil ?_
        exact A.on (hO _ _ _ n2043) (Le.mk [(0, 0), (1, 1)] hm rfl ⟨⟨_, rfl, rfl⟩, ⟨_, rfl, rfl⟩, ⟨_, rfl, rfl⟩, ⟨_, rfl, rfl⟩, ⟨_, rfl, rfl⟩, ⟨_, rfl, rfl⟩, trivial⟩ ⟨⟨_, rfl, rfl⟩, trivial⟩ ⟨⟨_, _, rfl, rfl, rfl⟩, trivial⟩)
      · refine L.loadEp (xs := r1.1) (e := eI) shape3 hF rfl rfl rfl rfl (at?_get hb5).2 rfl rfl ?_
        refine L.nil ?_
        exact A.on (hO _ _ _ n4059) (Le.mk [(0, 0), (1, 1)] hm rfl ⟨⟨_, rfl, rfl⟩, ⟨_, rfl, rfl⟩, ⟨_, rfl, rfl⟩, ⟨_, rfl, rfl⟩, ⟨_, rfl, rfl⟩, ⟨_, rfl, rfl⟩, trivial⟩ ⟨⟨_, rfl, rfl⟩, trivial⟩ ⟨⟨_, _, rfl, rfl, rfl⟩, trivial⟩)
      · refine L.alloc 2 info65 rfl hF rfl rfl rfl rfl ?_
        refine L.nil ?_
        exact A.on (hO _ _ _ n10203) (Le.mk [(0, 0), (1, 2), (2, 1)] hm rfl ⟨⟨_, rfl, rfl⟩, ⟨_, rfl, rfl⟩, ⟨_, rfl, rfl⟩, ⟨_, rfl, rfl⟩, ⟨_, rfl, rfl⟩, ⟨_, rfl, rfl⟩, ⟨_, rfl, rfl⟩, trivial⟩ ⟨⟨_, rfl, rfl⟩, trivial⟩ ⟨⟨_, _, rfl, rfl, rfl⟩, ⟨_, _, rfl, rfl, rfl⟩, trivial⟩)
    have n3803 : W 6 #[true, true, false, true, true, false, true, true, false, true, true, true, false, false, false] (mkSt [(0, one (cS a0)), (2, one (Cell.ptr 0 0)), (17, one (Cell.ep 1 ((0 : Int).toNat) 0)), (20, one (Cell.ep 1 ((1 : Int).toNat) 0)), (23, one (Cell.ep 1 ((2 : Int).toNat) 0)), (27, one (cI b5))] [(1, ⟨1, List.map eI r1.1⟩)] [(0, [cI (0 : Int), cI (0 : Int), cI (0 : Int), cI (0 : Int)])] 2) := by
      refine hI _ _ _ ?_
      refine A.all [2, 5, 8, 13] (by kernel_rfl) rfl ⟨⟨_, rfl, ?_⟩, ⟨_, rfl, ?_⟩, ⟨_, rfl, ?_⟩, ⟨_, rfl, ?_⟩, trivial⟩
      · refine L.loadEp (xs := r1.1) (e := eI) shape3 hF rfl rfl rfl rfl (at?_get hb2).2 rfl rfl ?_
        refine L.nil ?_
        exact A.on (hO _ _ _ n3807) (Le.mk [(0, 0), (1, 1)] hm rfl ⟨⟨_, rfl, rfl⟩, ⟨_, rfl, rfl⟩, ⟨_, rfl, rfl⟩, ⟨_, rfl, rfl⟩, ⟨_, rfl, rfl⟩, ⟨_, rfl, rfl⟩, trivial⟩ ⟨⟨_, rfl, rfl⟩, trivial⟩ ⟨⟨_, _, rfl, rfl, rfl⟩, trivial⟩)
      · refine L.loadEp (xs := r1.1) (e := eI) shape3 hF rfl rfl rfl rfl (at?_get hb3).2 rfl rfl ?_
        refine L.nil ?_
        exact A.on (hO _ _ _ n3835) (Le.mk [(0, 0), (1, 1)] hm rfl ⟨⟨_, rfl, rfl⟩, ⟨_, rfl, rfl⟩, ⟨_, rfl, rfl⟩, ⟨_, rfl, rfl⟩, ⟨_, rfl, rfl⟩, ⟨_, rfl, rfl⟩, trivial⟩ ⟨⟨_, rfl, rfl⟩, trivial⟩ ⟨⟨_, _, rfl, rfl, rfl⟩, trivial⟩)
      · refine L.loadEp (xs := r1.1) (e := eI) shape3 hF rfl rfl rfl rfl (at?_get hb4).2 rfl rfl ?_
        refine L.nil ?_
        exact A.on (hO _ _ _ n4059) (Le.mk [(0, 0), (1, 1)] hm rfl ⟨⟨_, rfl, rfl⟩, ⟨_, rfl, rfl⟩, ⟨_, rfl, rfl⟩, ⟨_, rfl, rfl⟩, ⟨_, rfl, rfl⟩, ⟨_, rfl, rfl⟩, trivial⟩ ⟨⟨_, rfl, rfl⟩, trivial⟩ ⟨⟨_, _, rfl, rfl, rfl⟩, trivial⟩)
      · refine L.alloc 2 info65 rfl hF rfl rfl rfl rfl ?_
        refine L.nil ?_
        exact A.on (hO _ _ _ n11995) (Le.mk [(0, 0), (1, 2), (2, 1)] hm rfl ⟨⟨_, rfl, rfl⟩, ⟨_, rfl, rfl⟩, ⟨_, rfl, rfl⟩, ⟨_, rfl, rfl⟩, ⟨_, rfl, rfl⟩, ⟨_, rfl, rfl⟩, ⟨_, rfl, rfl⟩, trivial⟩ ⟨⟨_, rfl, rfl⟩, trivial⟩ ⟨⟨_, _, rfl, rfl, rfl⟩, ⟨_, _, rfl, rfl, rfl⟩, trivial⟩)
    have n1759 : W 6 #[true, true, true, true, true, false, true, true, false, true, true, false, false, false, false] (mkSt [(0, one (cS a0)), (2, one (Cell.ptr 0 0)), (18, one (cI b2)), (20, one (Cell.ep 1 ((1 : Int).toNat) 0)), (23, one (Cell.ep 1 ((2 : Int).toNat) 0)), (26, one (Cell.ep 1 ((3 : Int).toNat) 0))] [(1, ⟨1, List.map eI r1.1⟩)] [(0, [cI (0 : Int), cI (0 : Int), cI (0 : Int), cI (0 : Int)])] 2) := by
      refine hI _ _ _ ?_
      refine A.all [5, 8, 11, 13] (by kernel_rfl) rfl ⟨⟨_, rfl, ?_⟩, ⟨_, rfl, ?_⟩, ⟨_, rfl, ?_⟩, ⟨_, rfl, ?_⟩, trivial⟩
      · refine L.loadEp (xs := r1.1) (e := eI) shape3 hF rfl rfl rfl rfl (at?_get hb3).2 rfl rfl ?_
        refine L.nil ?_
        exact A.on (hO _ _ _ n1791) (Le.mk [(0, 0), (1, 1)] hm rfl ⟨⟨_, rfl, rfl⟩, ⟨_, rfl, rfl⟩, ⟨_, rfl, rfl⟩, ⟨_, rfl, rfl⟩, ⟨_, rfl, rfl⟩, ⟨_, rfl, rfl⟩, trivial⟩ ⟨⟨_, rfl, rfl⟩, trivial⟩ ⟨⟨_, _, rfl, rfl, rfl⟩, trivial⟩)
      · refine L.loadEp (xs := r1.1) (e := eI) shape3 hF rfl rfl rfl rfl (at?_get hb4).2 rfl rfl ?_
        refine L.nil ?_
        exact A.on (hO _ _ _ n2015) (Le.mk [(0, 0), (1, 1)] hm rfl ⟨⟨_, rfl, rfl⟩, ⟨_, rfl, rfl⟩, ⟨_, rfl, rfl⟩, ⟨_, rfl, rfl⟩, ⟨_, rfl, rfl⟩, ⟨_, rfl, rfl⟩, trivial⟩ ⟨⟨_, rfl, rfl⟩, trivial⟩ ⟨⟨_, _, rfl, rfl, rfl⟩, trivial⟩)
      · refine L.loadEp (xs := r1.1) (e := eI) shape3 hF rfl rfl rfl rfl (at?_get hb5).2 rfl rfl ?_
        refine L.nil ?_
        exact A.on (hO _ _ _ n3807) (Le.mk [(0, 0), (1, 1)] hm rfl ⟨⟨_, rfl, rfl⟩, ⟨_, rfl, rfl⟩, ⟨_, rfl, rfl⟩, ⟨_, rfl, rfl⟩, ⟨_, rfl, rfl⟩, ⟨_, rfl, rfl⟩, trivial⟩ ⟨⟨_, rfl, rfl⟩, trivial⟩ ⟨⟨_, _, rfl, rfl, rfl⟩, trivial⟩)
      · refine L.alloc 2 info65 rfl hF rfl rfl rfl rfl ?_
        refine L.nil ?_
        exact A.on (hO _ _ _ n9951) (Le.mk [(0, 0), (1, 2), (2, 1)] hm rfl ⟨⟨_, rfl, rfl⟩, ⟨_, rfl, rfl⟩, ⟨_, rfl, rfl⟩, ⟨_, rfl, rfl⟩, ⟨_, rfl, rfl⟩, ⟨_, rfl, rfl⟩, ⟨_, rfl, rfl⟩, trivial⟩ ⟨⟨_, rfl, rfl⟩, trivial⟩ ⟨⟨_, _, rfl, rfl, rfl⟩, ⟨_, _, rfl, rfl, rfl⟩, trivial⟩)
    have n1755 : W 7 #[true, true, false, true, true, false, true, true, false, true, true, false, false, false, false] (mkSt [(0, one (cS a0)), (2, one (Cell.ptr 0 0)), (17, one (Cell.ep 1 ((0 : Int).toNat) 0)), (20, one (Cell.ep 1 ((1 : Int).toNat) 0)), (23, one (Cell.ep 1 ((2 : Int).toNat) 0)), (26, one (Cell.ep 1 ((3 : Int).toNat) 0))] [(1, ⟨1, List.map eI r1.1⟩)] [(0, [cI (0 : Int), cI (0 : Int), cI (0 : Int), cI (0 : Int)])] 2) := by
      refine hI _ _ _ ?_
      refine A.all [2, 5, 8, 11, 13] (by kernel_rfl) rfl ⟨⟨_, rfl, ?_⟩, ⟨_, rfl, ?_⟩, ⟨_, rfl, ?_⟩, ⟨_, rfl, ?_⟩, ⟨_, rfl, ?_⟩, trivial⟩
      · refine L.loadEp (xs := r1.1) (e := eI) shape3 hF rfl rfl rfl rfl (at?_get hb2).2 rfl rfl ?_
        refine L.nil ?_
        exact A.on (hO _ _ _ n1759) (Le.mk [(0, 0), (1, 1)] hm rfl ⟨⟨_, rfl, rfl⟩, ⟨_, rfl, rfl⟩, ⟨_, rfl, rfl⟩, ⟨_, rfl, rfl⟩, ⟨_, rfl, rfl⟩, ⟨_, rfl, rfl⟩, trivial⟩ ⟨⟨_, rfl, rfl⟩, trivial⟩ ⟨⟨_, _, rfl, rfl, rfl⟩, trivial⟩)
      · refine L.loadEp (xs := r1.1) (e := eI) shape3 hF rfl rfl rfl rfl (at?_get hb3).2 rfl rfl ?_
        refine L.nil ?_
        exact A.on (hO _ _ _ n1787) (Le.mk [(0, 0), (1, 1)] hm rfl ⟨⟨_, rfl, rfl⟩, ⟨_, rfl, rfl⟩, ⟨_, rfl, rfl⟩, ⟨_, rfl, rfl⟩, ⟨_, rfl, rfl⟩, ⟨_, rfl, rfl⟩, trivial⟩ ⟨⟨_, rfl, rfl⟩, trivial⟩ ⟨⟨_, _, rfl, rfl, rfl⟩, trivial⟩)
      · refine L.loadEp (xs := r1.1) (e := eI) shape3 hF rfl rfl rfl rfl (at?_get hb4).2 rfl rfl ?_
        refine L.nil ?_
        exact A.on (hO _ _ _ n2011) (Le.mk [(0, 0), (1, 1)] hm rfl ⟨⟨_, rfl, rfl⟩, ⟨_, rfl, rfl⟩, ⟨_, rfl, rfl⟩, ⟨_, rfl, rfl⟩, ⟨_, rfl, rfl⟩, ⟨_, rfl, rfl⟩, trivial⟩ ⟨⟨_, rfl, rfl⟩, trivial⟩ ⟨⟨_, _, rfl, rfl, rfl⟩, trivial⟩)
      · refine L.loadEp (xs := r1.1) (e := eI) shape3 hF rfl rfl rfl rfl (at?_get hb5).2 rfl rfl ?_
        refine L.nil ?_
        exact A.on (hO _ _ _ n3803) (Le.mk [(0, 0), (1, 1)] hm rfl ⟨⟨_, rfl, rfl⟩, ⟨_, rfl, rfl⟩, ⟨_, rfl, rfl⟩, ⟨_, rfl, rfl⟩, ⟨_, rfl, rfl⟩, ⟨_, rfl, rfl⟩, trivial⟩ ⟨⟨_, rfl, rfl⟩, trivial⟩ ⟨⟨_, _, rfl, rfl, rfl⟩, trivial⟩)
      · refine L.alloc 2 info65 rfl hF rfl rfl rfl rfl ?_
        refine L.nil ?_
        exact A.on (hO _ _ _ n9947) (Le.mk [(0, 0), (1, 2), (2, 1)] hm rfl ⟨⟨_, rfl, rfl⟩, ⟨_, rfl, rfl⟩, ⟨_, rfl, rfl⟩, ⟨_, rfl, rfl⟩, ⟨_, rfl, rfl⟩, ⟨_, rfl, rfl⟩, ⟨_, rfl, rfl⟩, trivial⟩ ⟨⟨_, rfl, rfl⟩, trivial⟩ ⟨⟨_, _, rfl, rfl, rfl⟩, ⟨_, _, rfl, rfl, rfl⟩, trivial⟩)
    have n731 : W 8 #[true, true, false, true, true, false, true, true, false, true, false, false, false, false, false] (mkSt [(0, one (cS a0)), (2, one (Cell.ptr 0 0)), (17, one (Cell.ep 1 ((0 : Int).toNat) 0)), (20, one (Cell.ep 1 ((1 : Int).toNat) 0)), (23, one (Cell.ep 1 ((2 : Int).toNat) 0)), (25, one (Cell.own 1))] [(1, ⟨1, List.map eI r1.1⟩)] [(0, [cI (0 : Int), cI (0 : Int), cI (0 : Int), cI (0 : Int)])] 2) := by
      refine hI _ _ _ ?_
      refine A.take 10 rfl (by kernel_rfl) (by kernel_rfl) (by kernel_rfl) rfl (Ca.indexAddr) (fun Q0 k0 => L.idxR (xs := r1.1) (e := eI) Try.underlying24 info3 hF rfl rfl rfl rfl rfl hb5 rfl rfl (L.nil k0)) ?_
      exact A.on (hO _ _ _ n1755) (Le.mk [(0, 0), (1, 1)] hm rfl ⟨⟨_, rfl, rfl⟩, ⟨_, rfl, rfl⟩, ⟨_, rfl, rfl⟩, ⟨_, rfl, rfl⟩, ⟨_, rfl, rfl⟩, ⟨_, rfl, rfl⟩, trivial⟩ ⟨⟨_, rfl, rfl⟩, trivial⟩ ⟨⟨_, _, rfl, rfl, rfl⟩, trivial⟩)
    have n219 : W 9 #[true, true, false, true, true, false, true, true, false, false, false, false, false, false, false] (mkSt [(0, one (cS a0)), (2, one (Cell.ptr 0 0)), (4, one (Cell.own 1)), (17, one (Cell.ep 1 ((0 : Int).toNat) 0)), (20, one (Cell.ep 1 ((1 : Int).toNat) 0)), (23, one (Cell.ep 1 ((2 : Int).toNat) 0))] [(1, ⟨1, List.map eI r1.1⟩)] [(0, [cI (0 : Int), cI (0 : Int), cI (0 : Int), cI (0 : Int)])] 2) := by
      refine hI _ _ _ ?_
      refine A.take 9 rfl (by kernel_rfl) (by kernel_rfl) (by kernel_rfl) rfl (Ca.move) (fun Q0 k0 => L.move hF rfl rfl rfl (L.nil k0)) ?_
      exact A.on (hO _ _ _ n731) (Le.mk [(0, 0), (1, 1)] hm rfl ⟨⟨_, rfl, rfl⟩, ⟨_, rfl, rfl⟩, ⟨_, rfl, rfl⟩, ⟨_, rfl, rfl⟩, ⟨_, rfl, rfl⟩, ⟨_, rfl, rfl⟩, trivial⟩ ⟨⟨_, rfl, rfl⟩, trivial⟩ ⟨⟨_, _, rfl, rfl, rfl⟩, trivial⟩)
    have n91 : W 10 #[true, true, false, true, true, false, true, false, false, false, false, false, false, false, false] (mkSt [(0, one (cS a0)), (2, one (Cell.ptr 0 0)), (4, one (Cell.own 1)), (17, one (Cell.ep 1 ((0 : Int).toNat) 0)), (20, one (Cell.ep 1 ((1 : Int).toNat) 0)), (22, one (Cell.own 1))] [(1, ⟨1, List.map eI r1.1⟩)] [(0, [cI (0 : Int), cI (0 : Int), cI (0 : Int), cI (0 : Int)])] 2) := by
      refine hI _ _ _ ?_
      refine A.take 7 rfl (by kernel_rfl) (by kernel_rfl) (by kernel_rfl) rfl (Ca.indexAddr) (fun Q0 k0 => L.idxR (xs := r1.1) (e := eI) Try.underlying24 info3 hF rfl rfl rfl rfl rfl hb4 rfl rfl (L.nil k0)) ?_
      exact A.on (hO _ _ _ n219) (Le.mk [(0, 0), (1, 1)] hm rfl ⟨⟨_, rfl, rfl⟩, ⟨_, rfl, rfl⟩, ⟨_, rfl, rfl⟩, ⟨_, rfl, rfl⟩, ⟨_, rfl, rfl⟩, ⟨_, rfl, rfl⟩, trivial⟩ ⟨⟨_, rfl, rfl⟩, trivial⟩ ⟨⟨_, _, rfl, rfl, rfl⟩, trivial⟩)
    have n27 : W 11 #[true, true, false, true, true, false, false, false, false, false, false, false, false, false, false] (mkSt [(0, one (cS a0)), (2, one (Cell.ptr 0 0)), (4, one (Cell.own 1)), (17, one (Cell.ep 1 ((0 : Int).toNat) 0)), (20, one (Cell.ep 1 ((1 : Int).toNat) 0))] [(1, ⟨1, List.map eI r1.1⟩)] [(0, [cI (0 : Int), cI (0 : Int), cI (0 : Int), cI (0 : Int)])] 2) := by
      refine hI _ _ _ ?_
      refine A.take 6 rfl (by kernel_rfl) (by kernel_rfl) (by kernel_rfl) rfl (Ca.move) (fun Q0 k0 => L.move hF rfl rfl rfl (L.nil k0)) ?_
      exact A.on (hO _ _ _ n91) (Le.mk [(0, 0), (1, 1)] hm rfl ⟨⟨_, rfl, rfl⟩, ⟨_, rfl, rfl⟩, ⟨_, rfl, rfl⟩, ⟨_, rfl, rfl⟩, ⟨_, rfl, rfl⟩, ⟨_, rfl, rfl⟩, trivial⟩ ⟨⟨_, rfl, rfl⟩, trivial⟩ ⟨⟨_, _, rfl, rfl, rfl⟩, trivial⟩)
    have n11 : W 12 #[true, true, false, true, false, false, false, false, false, false, false, false, false, false, false] (mkSt [(0, one (cS a0)), (2, one (Cell.ptr 0 0)), (4, one (Cell.own 1)), (17, one (Cell.ep 1 ((0 : Int).toNat) 0)), (19, one (Cell.own 1))] [(1, ⟨1, List.map eI r1.1⟩)] [(0, [cI (0 : Int), cI (0 : Int), cI (0 : Int), cI (0 : Int)])] 2) := by
      refine hI _ _ _ ?_
      refine A.take 4 rfl (by kernel_rfl) (by kernel_rfl) (by kernel_rfl) rfl (Ca.indexAddr) (fun Q0 k0 => L.idxR (xs := r1.1) (e := eI) Try.underlying24 info3 hF rfl rfl rfl rfl rfl hb3 rfl rfl (L.nil k0)) ?_
      exact A.on (hO _ _ _ n27) (Le.mk [(0, 0), (1, 1)] hm rfl ⟨⟨_, rfl, rfl⟩, ⟨_, rfl, rfl⟩, ⟨_, rfl, rfl⟩, ⟨_, rfl, rfl⟩, ⟨_, rfl, rfl⟩, trivial⟩ ⟨⟨_, rfl, rfl⟩, trivial⟩ ⟨⟨_, _, rfl, rfl, rfl⟩, trivial⟩)
    have n3 : W 13 #[true, true, false, false, false, false, false, false, false, false, false, false, false, false, false] (mkSt [(0, one (cS a0)), (2, one (Cell.ptr 0 0)), (4, one (Cell.own 1)), (17, one (Cell.ep 1 ((0 : Int).toNat) 0))] [(1, ⟨1, List.map eI r1.1⟩)] [(0, [cI (0 : Int), cI (0 : Int), cI (0 : Int), cI (0 : Int)])] 2) := by
      refine hI _ _ _ ?_
      refine A.take 3 rfl (by kernel_rfl) (by kernel_rfl) (by kernel_rfl) rfl (Ca.move) (fun Q0 k0 => L.move hF rfl rfl rfl (L.nil k0)) ?_
      exact A.on (hO _ _ _ n11) (Le.mk [(0, 0), (1, 1)] hm rfl ⟨⟨_, rfl, rfl⟩, ⟨_, rfl, rfl⟩, ⟨_, rfl, rfl⟩, ⟨_, rfl, rfl⟩, ⟨_, rfl, rfl⟩, trivial⟩ ⟨⟨_, rfl, rfl⟩, trivial⟩ ⟨⟨_, _, rfl, rfl, rfl⟩, trivial⟩)
    have n1 : W 14 #[true, false, false, false, false, false, false, false, false, false, false, false, false, false, false] (mkSt [(0, one (cS a0)), (2, one (Cell.ptr 0 0)), (4, one (Cell.own 1)), (16, one (Cell.own 1))] [(1, ⟨1, List.map eI r1.1⟩)] [(0, [cI (0 : Int), cI (0 : Int), cI (0 : Int), cI (0 : Int)])] 2) := by
      refine hI _ _ _ ?_
      refine A.take 1 rfl (by kernel_rfl) (by kernel_rfl) (by kernel_rfl) rfl (Ca.indexAddr) (fun Q0 k0 => L.idxR (xs := r1.1) (e := eI) Try.underlying24 info3 hF rfl rfl rfl rfl rfl hb2 rfl rfl (L.nil k0)) ?_
      exact A.on (hO _ _ _ n3) (Le.mk [(0, 0), (1, 1)] hm rfl ⟨⟨_, rfl, rfl⟩, ⟨_, rfl, rfl⟩, ⟨_, rfl, rfl⟩, ⟨_, rfl, rfl⟩, trivial⟩ ⟨⟨_, rfl, rfl⟩, trivial⟩ ⟨⟨_, _, rfl, rfl, rfl⟩, trivial⟩)
    have n0 : W 15 #[false, false, false, false, false, false, false, false, false, false, false, false, false, false, false] (mkSt [(0, one (cS a0)), (2, one (Cell.ptr 0 0)), (4, one (Cell.own 1))] [(1, ⟨1, List.map eI r1.1⟩)] [(0, [cI (0 : Int), cI (0 : Int), cI (0 : Int), cI (0 : Int)])] 2) := by
      refine hI _ _ _ ?_
      refine A.take 0 rfl (by kernel_rfl) (by kernel_rfl) (by kernel_rfl) rfl (Ca.move) (fun Q0 k0 => L.move hF rfl rfl rfl (L.nil k0)) ?_
      exact A.on (hO _ _ _ n1) (Le.mk [(0, 0), (1, 1)] hm rfl ⟨⟨_, rfl, rfl⟩, ⟨_, rfl, rfl⟩, ⟨_, rfl, rfl⟩, ⟨_, rfl, rfl⟩, trivial⟩ ⟨⟨_, rfl, rfl⟩, trivial⟩ ⟨⟨_, _, rfl, rfl, rfl⟩, trivial⟩)
    exact hI _ _ _ (A.on (hO _ _ _ n0) (Le.mk [(0, 1), (1, 2)] hm rfl ⟨⟨_, rfl, rfl⟩, ⟨_, rfl, rfl⟩, ⟨_, rfl, rfl⟩, trivial⟩ ⟨⟨_, rfl, rfl⟩, trivial⟩ ⟨⟨_, _, rfl, rfl, rfl⟩, trivial⟩))
/-! ### Fspec_TimesOk -/
def Fspec_TimesOk (k : Nat) (a0 : Timpl_Times) : Option Bool := cond (decide (a0.Auth ≥ (0 : Int))) (cond (decide (a0.Start ≥ a0.Auth)) (cond (decide (a0.End ≥ a0.Start)) (cond (decide (a0.Renew ≥ a0.End)) (some (decide (a0.Renew ≤ (100000 : Int)))) (some false)) (some false)) (some false)) (some false)
theorem ent65 : Enters Try.prog 65 := ⟨Try.f65, Try.func65, rfl, by decide⟩
set_option maxHeartbeats 8000000 in
set_option maxRecDepth 100000 in
theorem Fspec_TimesOk_gives (k : Nat) (a0 : Timpl_Times) (r : Bool) (H : Fspec_TimesOk k a0 = some r) : Gives Try.prog 65 [V.agg [cI a0.Auth, cI a0.Start, cI a0.End, cI a0.Renew]] [] [V.one (cL r)] [] := by
  refine Gives.intro Try.func65 rfl rfl rfl rfl ?_
  intro F hF hm
  unfold Fspec_TimesOk at H
  obtain ⟨K, hK⟩ : ∃ K, k ≤ K := ⟨k, Nat.le_refl k⟩
  refine WpC.seq ?_
  refine WpC.regionL ?_
  refine L.box 4 hF rfl rfl rfl rfl ?_
  refine L.assign hF rfl rfl rfl ?_
  refine L.nil ?_
  refine WpC.seq ?_
  refine WpC.regionL ?_
  refine L.fieldAddr Try.underlying65 rfl info3 rfl hF rfl rfl rfl rfl rfl ?_
  refine L.loadPtr shape3 hF rfl rfl rfl rfl rfl rfl ?_
  refine L.bin hF rfl rfl rfl rfl rfl rfl ?_
  refine L.move hF rfl rfl rfl ?_
  refine L.split (fun hc => ?_) (fun hc => ?_)
  · replace H := condT hc H
    refine L.fieldAddr Try.underlying65 rfl info3 rfl hF rfl rfl rfl rfl rfl ?_
    refine L.loadPtr shape3 hF rfl rfl rfl rfl rfl rfl ?_
    refine L.fieldAddr Try.underlying65 rfl info3 rfl hF rfl rfl rfl rfl rfl ?_
    refine L.loadPtr shape3 hF rfl rfl rfl rfl rfl rfl ?_
    refine L.bin hF rfl rfl rfl rfl rfl rfl ?_
    refine L.pick hF rfl rfl rfl rfl ?_
    refine L.move hF rfl rfl rfl ?_
    refine L.split (fun hc => ?_) (fun hc => ?_)
    · replace H := condT hc H
      refine L.fieldAddr Try.underlying65 rfl info3 rfl hF rfl rfl rfl rfl rfl ?_
      refine L.loadPtr shape3 hF rfl rfl rfl rfl rfl rfl ?_
      refine L.fieldAddr Try.underlying65 rfl info3 rfl hF rfl rfl rfl rfl rfl ?_
      refine L.loadPtr shape3 hF rfl rfl rfl rfl rfl rfl ?_
      refine L.bin hF rfl rfl rfl rfl rfl rfl ?_
      refine L.pick hF rfl rfl rfl rfl ?_
      refine L.move hF rfl rfl rfl ?_
      refine L.split (fun hc => ?_) (fun hc => ?_)
      · replace H := condT hc H
        refine L.fieldAddr Try.underlying65 rfl info3 rfl hF rfl rfl rfl rfl rfl ?_
        refine L.loadPtr shape3 hF rfl rfl rfl rfl rfl rfl ?_
        refine L.fieldAddr Try.underlying65 rfl info3 rfl hF rfl rfl rfl rfl rfl ?_
        refine L.loadPtr shape3 hF rfl rfl rfl rfl rfl rfl ?_
        refine L.bin hF rfl rfl rfl rfl rfl rfl ?_
        refine L.pick hF rfl rfl rfl rfl ?_
        refine L.move hF rfl rfl rfl ?_
        refine L.split (fun hc => ?_) (fun hc => ?_)
        · replace H := condT hc H
          refine L.fieldAddr Try.underlying65 rfl info3 rfl hF rfl rfl rfl rfl rfl ?_
          refine L.loadPtr shape3 hF rfl rfl rfl rfl rfl rfl ?_
          refine L.bin hF rfl rfl rfl rfl rfl rfl ?_
          refine L.pick hF rfl rfl rfl rfl ?_
          refine L.assign hF rfl rfl rfl ?_
          refine L.nil ?_
          refine WpC.ret ?_
          cases H
          exact Leaves.ret rfl rfl rfl ⟨rfl, rfl⟩
        · replace H := condF hc H
          refine L.off hF rfl rfl ?_
          refine L.off hF rfl rfl ?_
          refine L.off hF rfl rfl ?_
          refine L.pick hF rfl rfl rfl rfl ?_
          refine L.assign hF rfl rfl rfl ?_
          refine L.nil ?_
          refine WpC.ret ?_
          cases H
          exact Leaves.ret rfl rfl rfl ⟨rfl, rfl⟩
      · replace H := condF hc H
        refine L.off hF rfl rfl ?_
        refine L.off hF rfl rfl ?_
        refine L.off hF rfl rfl ?_
        refine L.off hF rfl rfl ?_
        refine L.off hF rfl rfl ?_
        refine L.pick hF rfl rfl rfl rfl ?_
        refine L.move hF rfl rfl rfl ?_
        refine L.off hF rfl rfl ?_
        refine L.off hF rfl rfl ?_
        refine L.off hF rfl rfl ?_
        refine L.pick hF rfl rfl rfl rfl ?_
        refine L.assign hF rfl rfl rfl ?_
        refine L.nil ?_
        refine WpC.ret ?_
        cases H
        exact Leaves.ret rfl rfl rfl ⟨rfl, rfl⟩
    · replace H := condF hc H
      refine L.off hF rfl rfl ?_
      refine L.off hF rfl rfl ?_
      refine L.off hF rfl rfl ?_
      refine L.off hF rfl rfl ?_
      refine L.off hF rfl rfl ?_
      refine L.pick hF rfl rfl rfl rfl ?_
      refine L.move hF rfl rfl rfl ?_
      refine L.off hF rfl rfl ?_
      refine L.off hF rfl rfl ?_
      refine L.off hF rfl rfl ?_
      refine L.off hF rfl rfl ?_
      refine L.off hF rfl rfl ?_
      refine L.pick hF rfl rfl rfl rfl ?_
      refine L.move hF rfl rfl rfl ?_
      refine L.off hF rfl rfl ?_
      refine L.off hF rfl rfl ?_
      refine L.off hF rfl rfl ?_
      refine L.pick hF rfl rfl rfl rfl ?_
      refine L.assign hF rfl rfl rfl ?_
      refine L.nil ?_
      refine WpC.ret ?_
      cases H
      exact Leaves.ret rfl rfl rfl ⟨rfl, rfl⟩
  · replace H := condF hc H
    refine L.off hF rfl rfl ?_
    refine L.off hF rfl rfl ?_
    refine L.off hF rfl rfl ?_
    refine L.off hF rfl rfl ?_
    refine L.off hF rfl rfl ?_
    refine L.pick hF rfl rfl rfl rfl ?_
    refine L.move hF rfl rfl rfl ?_
    refine L.off hF rfl rfl ?_
    refine L.off hF rfl rfl ?_
    refine L.off hF rfl rfl ?_
    refine L.off hF rfl rfl ?_
    refine L.off hF rfl rfl ?_
    refine L.pick hF rfl rfl rfl rfl ?_
    refine L.move hF rfl rfl rfl ?_
    refine L.off hF rfl rfl ?_
    refine L.off hF rfl rfl ?_
    refine L.off hF rfl rfl ?_
    refine L.off hF rfl rfl ?_
    refine L.off hF rfl rfl ?_
    refine L.pick hF rfl rfl rfl rfl ?_
    refine L.move hF rfl rfl rfl ?_
    refine L.off hF rfl rfl ?_
    refine L.off hF rfl rfl ?_
    refine L.off hF rfl rfl ?_
    refine L.pick hF rfl rfl rfl rfl ?_
    refine L.assign hF rfl rfl rfl ?_
    refine L.nil ?_
    refine WpC.ret ?_
    cases H
    exact Leaves.ret rfl rfl rfl ⟨rfl, rfl⟩
/-! ### Fspec_l1In -/
def Fspec_l1In (k : Nat) (a0 : Int) (a1 : Int) (a2 : Int) : Option Bool := cond (decide (a0 ≥ a1)) (some (decide (a0 ≤ a2))) (some false)
theorem ent152 : Enters Try.prog 152 := ⟨Try.f152, Try.func152, rfl, by decide⟩
set_option maxHeartbeats 8000000 in
set_option maxRecDepth 100000 in
theorem Fspec_l1In_gives (k : Nat) (a0 : Int) (a1 : Int) (a2 : Int) (r : Bool) (H : Fspec_l1In k a0 a1 a2 = some r) : Gives Try.prog 152 [V.one (cI a0), V.one (cI a1), V.one (cI a2)] [] [V.one (cL r)] [] := by
  refine Gives.intro Try.func152 rfl rfl rfl rfl ?_
  intro F hF hm
  unfold Fspec_l1In at H
  obtain ⟨K, hK⟩ : ∃ K, k ≤ K := ⟨k, Nat.le_refl k⟩
  refine WpC.seq ?_
  refine WpC.regionL ?_
  refine L.assign hF rfl rfl rfl ?_
  refine L.nil ?_
  refine WpC.seq ?_
  refine WpC.regionL ?_
  refine L.move hF rfl rfl rfl ?_
  refine L.move hF rfl rfl rfl ?_
  refine L.bin hF rfl rfl rfl rfl rfl rfl ?_
  refine L.move hF rfl rfl rfl ?_
  refine L.split (fun hc => ?_) (fun hc => ?_)
  · replace H := condT hc H
    refine L.move hF rfl rfl rfl ?_
    refine L.move hF rfl rfl rfl ?_
    refine L.bin hF rfl rfl rfl rfl rfl rfl ?_
    refine L.pick hF rfl rfl rfl rfl ?_
    refine L.assign hF rfl rfl rfl ?_
    refine L.nil ?_
    refine WpC.ret ?_
    cases H
    exact Leaves.ret rfl rfl rfl ⟨rfl, rfl⟩
  · replace H := condF hc H
    refine L.off hF rfl rfl ?_
    refine L.off hF rfl rfl ?_
    refine L.off hF rfl rfl ?_
    refine L.pick hF rfl rfl rfl rfl ?_
    refine L.assign hF rfl rfl rfl ?_
    refine L.nil ?_
    refine WpC.ret ?_
    cases H
    exact Leaves.ret rfl rfl rfl ⟨rfl, rfl⟩
end Go.Proofs.Ytcolcmjcjpikcaa.M
