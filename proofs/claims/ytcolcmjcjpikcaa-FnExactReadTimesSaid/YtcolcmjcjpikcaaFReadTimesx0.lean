import Derived.Test.YtcolcmjcjpikcaaMgZc
import Derived.Test.YtcolcmjcjpikcaaProg
namespace Go.Proofs.Ytcolcmjcjpikcaa.M
open Go Go.MG
set_option linter.unusedVariables false
set_option linter.unusedSimpArgs false
structure Timpl_Times where
  Auth : Int
  Start : Int
  End : Int
  Renew : Int
def eTimpl_Times (x : Timpl_Times) : List Cell := [cI x.Auth, cI x.Start, cI x.End, cI x.Renew]
theorem mixed : Try.prog.follows .mixedOrders = true := by kernel_rfl
theorem shape3 : MG.shape Try.prog 3 = some (false, 1) := by kernel_rfl
theorem shape9 : MG.shape Try.prog 9 = some (false, 1) := by kernel_rfl
theorem shape65 : MG.shape Try.prog 65 = some (true, 4) := by kernel_rfl
theorem info3 : Try.prog.info? 3 = some Try.t3 := by kernel_rfl
theorem info5 : Try.prog.info? 5 = some Try.t5 := by kernel_rfl
theorem info9 : Try.prog.info? 9 = some Try.t9 := by kernel_rfl
theorem info65 : Try.prog.info? 65 = some Try.t65 := by kernel_rfl
theorem built65 : builtA Try.prog 65 = fillA (fun x => ([(0, 1), (1, 1), (2, 1), (3, 1)] : List (Nat × Nat))[x]?) [cI (0 : Int), cI (0 : Int), cI (0 : Int), cI (0 : Int)] := by kernel_rfl
abbrev bx (a b c d : Int) : List Cell := [cI a, cI b, cI c, cI d]
theorem S3 {π : Nat → Option Nat} {σ : St} {t0 t1 t2 : Nat} {s0 u0 s1 u1 s2 u2 : Slot} (h0 : renS π s0 = some u0) (g0 : σ.slots t0 = some u0) (h1 : renS π s1 = some u1) (g1 : σ.slots t1 = some u1) (h2 : renS π s2 = some u2) (g2 : σ.slots t2 = some u2) : SlotsOk π σ [(t0, s0), (t1, s1), (t2, s2)] := ⟨⟨_, h0, g0⟩, ⟨_, h1, g1⟩, ⟨_, h2, g2⟩, trivial⟩
theorem S4 {π : Nat → Option Nat} {σ : St} {t0 t1 t2 t3 : Nat} {s0 u0 s1 u1 s2 u2 s3 u3 : Slot} (h0 : renS π s0 = some u0) (g0 : σ.slots t0 = some u0) (h1 : renS π s1 = some u1) (g1 : σ.slots t1 = some u1) (h2 : renS π s2 = some u2) (g2 : σ.slots t2 = some u2) (h3 : renS π s3 = some u3) (g3 : σ.slots t3 = some u3) : SlotsOk π σ [(t0, s0), (t1, s1), (t2, s2), (t3, s3)] := ⟨⟨_, h0, g0⟩, ⟨_, h1, g1⟩, ⟨_, h2, g2⟩, ⟨_, h3, g3⟩, trivial⟩
theorem S5 {π : Nat → Option Nat} {σ : St} {t0 t1 t2 t3 t4 : Nat} {s0 u0 s1 u1 s2 u2 s3 u3 s4 u4 : Slot} (h0 : renS π s0 = some u0) (g0 : σ.slots t0 = some u0) (h1 : renS π s1 = some u1) (g1 : σ.slots t1 = some u1) (h2 : renS π s2 = some u2) (g2 : σ.slots t2 = some u2) (h3 : renS π s3 = some u3) (g3 : σ.slots t3 = some u3) (h4 : renS π s4 = some u4) (g4 : σ.slots t4 = some u4) : SlotsOk π σ [(t0, s0), (t1, s1), (t2, s2), (t3, s3), (t4, s4)] := ⟨⟨_, h0, g0⟩, ⟨_, h1, g1⟩, ⟨_, h2, g2⟩, ⟨_, h3, g3⟩, ⟨_, h4, g4⟩, trivial⟩
theorem S6 {π : Nat → Option Nat} {σ : St} {t0 t1 t2 t3 t4 t5 : Nat} {s0 u0 s1 u1 s2 u2 s3 u3 s4 u4 s5 u5 : Slot} (h0 : renS π s0 = some u0) (g0 : σ.slots t0 = some u0) (h1 : renS π s1 = some u1) (g1 : σ.slots t1 = some u1) (h2 : renS π s2 = some u2) (g2 : σ.slots t2 = some u2) (h3 : renS π s3 = some u3) (g3 : σ.slots t3 = some u3) (h4 : renS π s4 = some u4) (g4 : σ.slots t4 = some u4) (h5 : renS π s5 = some u5) (g5 : σ.slots t5 = some u5) : SlotsOk π σ [(t0, s0), (t1, s1), (t2, s2), (t3, s3), (t4, s4), (t5, s5)] := ⟨⟨_, h0, g0⟩, ⟨_, h1, g1⟩, ⟨_, h2, g2⟩, ⟨_, h3, g3⟩, ⟨_, h4, g4⟩, ⟨_, h5, g5⟩, trivial⟩
theorem S7 {π : Nat → Option Nat} {σ : St} {t0 t1 t2 t3 t4 t5 t6 : Nat} {s0 u0 s1 u1 s2 u2 s3 u3 s4 u4 s5 u5 s6 u6 : Slot} (h0 : renS π s0 = some u0) (g0 : σ.slots t0 = some u0) (h1 : renS π s1 = some u1) (g1 : σ.slots t1 = some u1) (h2 : renS π s2 = some u2) (g2 : σ.slots t2 = some u2) (h3 : renS π s3 = some u3) (g3 : σ.slots t3 = some u3) (h4 : renS π s4 = some u4) (g4 : σ.slots t4 = some u4) (h5 : renS π s5 = some u5) (g5 : σ.slots t5 = some u5) (h6 : renS π s6 = some u6) (g6 : σ.slots t6 = some u6) : SlotsOk π σ [(t0, s0), (t1, s1), (t2, s2), (t3, s3), (t4, s4), (t5, s5), (t6, s6)] := ⟨⟨_, h0, g0⟩, ⟨_, h1, g1⟩, ⟨_, h2, g2⟩, ⟨_, h3, g3⟩, ⟨_, h4, g4⟩, ⟨_, h5, g5⟩, ⟨_, h6, g6⟩, trivial⟩
theorem S8 {π : Nat → Option Nat} {σ : St} {t0 t1 t2 t3 t4 t5 t6 t7 : Nat} {s0 u0 s1 u1 s2 u2 s3 u3 s4 u4 s5 u5 s6 u6 s7 u7 : Slot} (h0 : renS π s0 = some u0) (g0 : σ.slots t0 = some u0) (h1 : renS π s1 = some u1) (g1 : σ.slots t1 = some u1) (h2 : renS π s2 = some u2) (g2 : σ.slots t2 = some u2) (h3 : renS π s3 = some u3) (g3 : σ.slots t3 = some u3) (h4 : renS π s4 = some u4) (g4 : σ.slots t4 = some u4) (h5 : renS π s5 = some u5) (g5 : σ.slots t5 = some u5) (h6 : renS π s6 = some u6) (g6 : σ.slots t6 = some u6) (h7 : renS π s7 = some u7) (g7 : σ.slots t7 = some u7) : SlotsOk π σ [(t0, s0), (t1, s1), (t2, s2), (t3, s3), (t4, s4), (t5, s5), (t6, s6), (t7, s7)] := ⟨⟨_, h0, g0⟩, ⟨_, h1, g1⟩, ⟨_, h2, g2⟩, ⟨_, h3, g3⟩, ⟨_, h4, g4⟩, ⟨_, h5, g5⟩, ⟨_, h6, g6⟩, ⟨_, h7, g7⟩, trivial⟩
theorem S9 {π : Nat → Option Nat} {σ : St} {t0 t1 t2 t3 t4 t5 t6 t7 t8 : Nat} {s0 u0 s1 u1 s2 u2 s3 u3 s4 u4 s5 u5 s6 u6 s7 u7 s8 u8 : Slot} (h0 : renS π s0 = some u0) (g0 : σ.slots t0 = some u0) (h1 : renS π s1 = some u1) (g1 : σ.slots t1 = some u1) (h2 : renS π s2 = some u2) (g2 : σ.slots t2 = some u2) (h3 : renS π s3 = some u3) (g3 : σ.slots t3 = some u3) (h4 : renS π s4 = some u4) (g4 : σ.slots t4 = some u4) (h5 : renS π s5 = some u5) (g5 : σ.slots t5 = some u5) (h6 : renS π s6 = some u6) (g6 : σ.slots t6 = some u6) (h7 : renS π s7 = some u7) (g7 : σ.slots t7 = some u7) (h8 : renS π s8 = some u8) (g8 : σ.slots t8 = some u8) : SlotsOk π σ [(t0, s0), (t1, s1), (t2, s2), (t3, s3), (t4, s4), (t5, s5), (t6, s6), (t7, s7), (t8, s8)] := ⟨⟨_, h0, g0⟩, ⟨_, h1, g1⟩, ⟨_, h2, g2⟩, ⟨_, h3, g3⟩, ⟨_, h4, g4⟩, ⟨_, h5, g5⟩, ⟨_, h6, g6⟩, ⟨_, h7, g7⟩, ⟨_, h8, g8⟩, trivial⟩
theorem S10 {π : Nat → Option Nat} {σ : St} {t0 t1 t2 t3 t4 t5 t6 t7 t8 t9 : Nat} {s0 u0 s1 u1 s2 u2 s3 u3 s4 u4 s5 u5 s6 u6 s7 u7 s8 u8 s9 u9 : Slot} (h0 : renS π s0 = some u0) (g0 : σ.slots t0 = some u0) (h1 : renS π s1 = some u1) (g1 : σ.slots t1 = some u1) (h2 : renS π s2 = some u2) (g2 : σ.slots t2 = some u2) (h3 : renS π s3 = some u3) (g3 : σ.slots t3 = some u3) (h4 : renS π s4 = some u4) (g4 : σ.slots t4 = some u4) (h5 : renS π s5 = some u5) (g5 : σ.slots t5 = some u5) (h6 : renS π s6 = some u6) (g6 : σ.slots t6 = some u6) (h7 : renS π s7 = some u7) (g7 : σ.slots t7 = some u7) (h8 : renS π s8 = some u8) (g8 : σ.slots t8 = some u8) (h9 : renS π s9 = some u9) (g9 : σ.slots t9 = some u9) : SlotsOk π σ [(t0, s0), (t1, s1), (t2, s2), (t3, s3), (t4, s4), (t5, s5), (t6, s6), (t7, s7), (t8, s8), (t9, s9)] := ⟨⟨_, h0, g0⟩, ⟨_, h1, g1⟩, ⟨_, h2, g2⟩, ⟨_, h3, g3⟩, ⟨_, h4, g4⟩, ⟨_, h5, g5⟩, ⟨_, h6, g6⟩, ⟨_, h7, g7⟩, ⟨_, h8, g8⟩, ⟨_, h9, g9⟩, trivial⟩
theorem S11 {π : Nat → Option Nat} {σ : St} {t0 t1 t2 t3 t4 t5 t6 t7 t8 t9 t10 : Nat} {s0 u0 s1 u1 s2 u2 s3 u3 s4 u4 s5 u5 s6 u6 s7 u7 s8 u8 s9 u9 s10 u10 : Slot} (h0 : renS π s0 = some u0) (g0 : σ.slots t0 = some u0) (h1 : renS π s1 = some u1) (g1 : σ.slots t1 = some u1) (h2 : renS π s2 = some u2) (g2 : σ.slots t2 = some u2) (h3 : renS π s3 = some u3) (g3 : σ.slots t3 = some u3) (h4 : renS π s4 = some u4) (g4 : σ.slots t4 = some u4) (h5 : renS π s5 = some u5) (g5 : σ.slots t5 = some u5) (h6 : renS π s6 = some u6) (g6 : σ.slots t6 = some u6) (h7 : renS π s7 = some u7) (g7 : σ.slots t7 = some u7) (h8 : renS π s8 = some u8) (g8 : σ.slots t8 = some u8) (h9 : renS π s9 = some u9) (g9 : σ.slots t9 = some u9) (h10 : renS π s10 = some u10) (g10 : σ.slots t10 = some u10) : SlotsOk π σ [(t0, s0), (t1, s1), (t2, s2), (t3, s3), (t4, s4), (t5, s5), (t6, s6), (t7, s7), (t8, s8), (t9, s9), (t10, s10)] := ⟨⟨_, h0, g0⟩, ⟨_, h1, g1⟩, ⟨_, h2, g2⟩, ⟨_, h3, g3⟩, ⟨_, h4, g4⟩, ⟨_, h5, g5⟩, ⟨_, h6, g6⟩, ⟨_, h7, g7⟩, ⟨_, h8, g8⟩, ⟨_, h9, g9⟩, ⟨_, h10, g10⟩, trivial⟩
theorem S12 {π : Nat → Option Nat} {σ : St} {t0 t1 t2 t3 t4 t5 t6 t7 t8 t9 t10 t11 : Nat} {s0 u0 s1 u1 s2 u2 s3 u3 s4 u4 s5 u5 s6 u6 s7 u7 s8 u8 s9 u9 s10 u10 s11 u11 : Slot} (h0 : renS π s0 = some u0) (g0 : σ.slots t0 = some u0) (h1 : renS π s1 = some u1) (g1 : σ.slots t1 = some u1) (h2 : renS π s2 = some u2) (g2 : σ.slots t2 = some u2) (h3 : renS π s3 = some u3) (g3 : σ.slots t3 = some u3) (h4 : renS π s4 = some u4) (g4 : σ.slots t4 = some u4) (h5 : renS π s5 = some u5) (g5 : σ.slots t5 = some u5) (h6 : renS π s6 = some u6) (g6 : σ.slots t6 = some u6) (h7 : renS π s7 = some u7) (g7 : σ.slots t7 = some u7) (h8 : renS π s8 = some u8) (g8 : σ.slots t8 = some u8) (h9 : renS π s9 = some u9) (g9 : σ.slots t9 = some u9) (h10 : renS π s10 = some u10) (g10 : σ.slots t10 = some u10) (h11 : renS π s11 = some u11) (g11 : σ.slots t11 = some u11) : SlotsOk π σ [(t0, s0), (t1, s1), (t2, s2), (t3, s3), (t4, s4), (t5, s5), (t6, s6), (t7, s7), (t8, s8), (t9, s9), (t10, s10), (t11, s11)] := ⟨⟨_, h0, g0⟩, ⟨_, h1, g1⟩, ⟨_, h2, g2⟩, ⟨_, h3, g3⟩, ⟨_, h4, g4⟩, ⟨_, h5, g5⟩, ⟨_, h6, g6⟩, ⟨_, h7, g7⟩, ⟨_, h8, g8⟩, ⟨_, h9, g9⟩, ⟨_, h10, g10⟩, ⟨_, h11, g11⟩, trivial⟩
theorem S13 {π : Nat → Option Nat} {σ : St} {t0 t1 t2 t3 t4 t5 t6 t7 t8 t9 t10 t11 t12 : Nat} {s0 u0 s1 u1 s2 u2 s3 u3 s4 u4 s5 u5 s6 u6 s7 u7 s8 u8 s9 u9 s10 u10 s11 u11 s12 u12 : Slot} (h0 : renS π s0 = some u0) (g0 : σ.slots t0 = some u0) (h1 : renS π s1 = some u1) (g1 : σ.slots t1 = some u1) (h2 : renS π s2 = some u2) (g2 : σ.slots t2 = some u2) (h3 : renS π s3 = some u3) (g3 : σ.slots t3 = some u3) (h4 : renS π s4 = some u4) (g4 : σ.slots t4 = some u4) (h5 : renS π s5 = some u5) (g5 : σ.slots t5 = some u5) (h6 : renS π s6 = some u6) (g6 : σ.slots t6 = some u6) (h7 : renS π s7 = some u7) (g7 : σ.slots t7 = some u7) (h8 : renS π s8 = some u8) (g8 : σ.slots t8 = some u8) (h9 : renS π s9 = some u9) (g9 : σ.slots t9 = some u9) (h10 : renS π s10 = some u10) (g10 : σ.slots t10 = some u10) (h11 : renS π s11 = some u11) (g11 : σ.slots t11 = some u11) (h12 : renS π s12 = some u12) (g12 : σ.slots t12 = some u12) : SlotsOk π σ [(t0, s0), (t1, s1), (t2, s2), (t3, s3), (t4, s4), (t5, s5), (t6, s6), (t7, s7), (t8, s8), (t9, s9), (t10, s10), (t11, s11), (t12, s12)] := ⟨⟨_, h0, g0⟩, ⟨_, h1, g1⟩, ⟨_, h2, g2⟩, ⟨_, h3, g3⟩, ⟨_, h4, g4⟩, ⟨_, h5, g5⟩, ⟨_, h6, g6⟩, ⟨_, h7, g7⟩, ⟨_, h8, g8⟩, ⟨_, h9, g9⟩, ⟨_, h10, g10⟩, ⟨_, h11, g11⟩, ⟨_, h12, g12⟩, trivial⟩
theorem S14 {π : Nat → Option Nat} {σ : St} {t0 t1 t2 t3 t4 t5 t6 t7 t8 t9 t10 t11 t12 t13 : Nat} {s0 u0 s1 u1 s2 u2 s3 u3 s4 u4 s5 u5 s6 u6 s7 u7 s8 u8 s9 u9 s10 u10 s11 u11 s12 u12 s13 u13 : Slot} (h0 : renS π s0 = some u0) (g0 : σ.slots t0 = some u0) (h1 : renS π s1 = some u1) (g1 : σ.slots t1 = some u1) (h2 : renS π s2 = some u2) (g2 : σ.slots t2 = some u2) (h3 : renS π s3 = some u3) (g3 : σ.slots t3 = some u3) (h4 : renS π s4 = some u4) (g4 : σ.slots t4 = some u4) (h5 : renS π s5 = some u5) (g5 : σ.slots t5 = some u5) (h6 : renS π s6 = some u6) (g6 : σ.slots t6 = some u6) (h7 : renS π s7 = some u7) (g7 : σ.slots t7 = some u7) (h8 : renS π s8 = some u8) (g8 : σ.slots t8 = some u8) (h9 : renS π s9 = some u9) (g9 : σ.slots t9 = some u9) (h10 : renS π s10 = some u10) (g10 : σ.slots t10 = some u10) (h11 : renS π s11 = some u11) (g11 : σ.slots t11 = some u11) (h12 : renS π s12 = some u12) (g12 : σ.slots t12 = some u12) (h13 : renS π s13 = some u13) (g13 : σ.slots t13 = some u13) : SlotsOk π σ [(t0, s0), (t1, s1), (t2, s2), (t3, s3), (t4, s4), (t5, s5), (t6, s6), (t7, s7), (t8, s8), (t9, s9), (t10, s10), (t11, s11), (t12, s12), (t13, s13)] := ⟨⟨_, h0, g0⟩, ⟨_, h1, g1⟩, ⟨_, h2, g2⟩, ⟨_, h3, g3⟩, ⟨_, h4, g4⟩, ⟨_, h5, g5⟩, ⟨_, h6, g6⟩, ⟨_, h7, g7⟩, ⟨_, h8, g8⟩, ⟨_, h9, g9⟩, ⟨_, h10, g10⟩, ⟨_, h11, g11⟩, ⟨_, h12, g12⟩, ⟨_, h13, g13⟩, trivial⟩
theorem B2 {π : Nat → Option Nat} {σ : St} {k0 q0 k1 q1 : Nat} {c0 d0 c1 d1 : List Cell} (h0 : π k0 = some q0) (g0 : renCs π c0 = some d0) (e0 : σ.H.boxes q0 = some d0) (h1 : π k1 = some q1) (g1 : renCs π c1 = some d1) (e1 : σ.H.boxes q1 = some d1) : BoxesOk π σ [(k0, c0), (k1, c1)] := ⟨⟨_, _, h0, g0, e0⟩, ⟨_, _, h1, g1, e1⟩, trivial⟩
theorem B3 {π : Nat → Option Nat} {σ : St} {k0 q0 k1 q1 k2 q2 : Nat} {c0 d0 c1 d1 c2 d2 : List Cell} (h0 : π k0 = some q0) (g0 : renCs π c0 = some d0) (e0 : σ.H.boxes q0 = some d0) (h1 : π k1 = some q1) (g1 : renCs π c1 = some d1) (e1 : σ.H.boxes q1 = some d1) (h2 : π k2 = some q2) (g2 : renCs π c2 = some d2) (e2 : σ.H.boxes q2 = some d2) : BoxesOk π σ [(k0, c0), (k1, c1), (k2, c2)] := ⟨⟨_, _, h0, g0, e0⟩, ⟨_, _, h1, g1, e1⟩, ⟨_, _, h2, g2, e2⟩, trivial⟩
theorem B4 {π : Nat → Option Nat} {σ : St} {k0 q0 k1 q1 k2 q2 k3 q3 : Nat} {c0 d0 c1 d1 c2 d2 c3 d3 : List Cell} (h0 : π k0 = some q0) (g0 : renCs π c0 = some d0) (e0 : σ.H.boxes q0 = some d0) (h1 : π k1 = some q1) (g1 : renCs π c1 = some d1) (e1 : σ.H.boxes q1 = some d1) (h2 : π k2 = some q2) (g2 : renCs π c2 = some d2) (e2 : σ.H.boxes q2 = some d2) (h3 : π k3 = some q3) (g3 : renCs π c3 = some d3) (e3 : σ.H.boxes q3 = some d3) : BoxesOk π σ [(k0, c0), (k1, c1), (k2, c2), (k3, c3)] := ⟨⟨_, _, h0, g0, e0⟩, ⟨_, _, h1, g1, e1⟩, ⟨_, _, h2, g2, e2⟩, ⟨_, _, h3, g3, e3⟩, trivial⟩
theorem B5 {π : Nat → Option Nat} {σ : St} {k0 q0 k1 q1 k2 q2 k3 q3 k4 q4 : Nat} {c0 d0 c1 d1 c2 d2 c3 d3 c4 d4 : List Cell} (h0 : π k0 = some q0) (g0 : renCs π c0 = some d0) (e0 : σ.H.boxes q0 = some d0) (h1 : π k1 = some q1) (g1 : renCs π c1 = some d1) (e1 : σ.H.boxes q1 = some d1) (h2 : π k2 = some q2) (g2 : renCs π c2 = some d2) (e2 : σ.H.boxes q2 = some d2) (h3 : π k3 = some q3) (g3 : renCs π c3 = some d3) (e3 : σ.H.boxes q3 = some d3) (h4 : π k4 = some q4) (g4 : renCs π c4 = some d4) (e4 : σ.H.boxes q4 = some d4) : BoxesOk π σ [(k0, c0), (k1, c1), (k2, c2), (k3, c3), (k4, c4)] := ⟨⟨_, _, h0, g0, e0⟩, ⟨_, _, h1, g1, e1⟩, ⟨_, _, h2, g2, e2⟩, ⟨_, _, h3, g3, e3⟩, ⟨_, _, h4, g4, e4⟩, trivial⟩
theorem B6 {π : Nat → Option Nat} {σ : St} {k0 q0 k1 q1 k2 q2 k3 q3 k4 q4 k5 q5 : Nat} {c0 d0 c1 d1 c2 d2 c3 d3 c4 d4 c5 d5 : List Cell} (h0 : π k0 = some q0) (g0 : renCs π c0 = some d0) (e0 : σ.H.boxes q0 = some d0) (h1 : π k1 = some q1) (g1 : renCs π c1 = some d1) (e1 : σ.H.boxes q1 = some d1) (h2 : π k2 = some q2) (g2 : renCs π c2 = some d2) (e2 : σ.H.boxes q2 = some d2) (h3 : π k3 = some q3) (g3 : renCs π c3 = some d3) (e3 : σ.H.boxes q3 = some d3) (h4 : π k4 = some q4) (g4 : renCs π c4 = some d4) (e4 : σ.H.boxes q4 = some d4) (h5 : π k5 = some q5) (g5 : renCs π c5 = some d5) (e5 : σ.H.boxes q5 = some d5) : BoxesOk π σ [(k0, c0), (k1, c1), (k2, c2), (k3, c3), (k4, c4), (k5, c5)] := ⟨⟨_, _, h0, g0, e0⟩, ⟨_, _, h1, g1, e1⟩, ⟨_, _, h2, g2, e2⟩, ⟨_, _, h3, g3, e3⟩, ⟨_, _, h4, g4, e4⟩, ⟨_, _, h5, g5, e5⟩, trivial⟩
/-! ### Fspec_l1In -/
def Fspec_l1In (k : Nat) (a0 : Int) (a1 : Int) (a2 : Int) : Option Bool := cond (decide (a0 ≥ a1)) (some (decide (a0 ≤ a2))) (some false)
theorem ent152 : Enters Try.prog 152 := ⟨Try.f152, Try.func152, rfl, by decide⟩
set_option maxHeartbeats 8000000 in
set_option maxRecDepth 100000 in
theorem Fspec_l1In_gives (k : Nat) (a0 : Int) (a1 : Int) (a2 : Int) (r : Bool) (H : Fspec_l1In k a0 a1 a2 = some r) : Gives Try.prog 152 [V.one (cI a0), V.one (cI a1), V.one (cI a2)] [] [V.one (cL r)] [] := by
  refine Gives.intro Try.func152 rfl rfl rfl rfl ?_
  intro F hF hm
  unfold Fspec_l1In at H
  obtain ⟨K, hK⟩ : ∃ K, k ≤ K := ⟨k, Nat.le_refl k⟩
  refine WpC.seq ?_
  refine WpC.regionL ?_
  refine L.assign hF rfl rfl rfl ?_
  refine L.nil ?_
  refine WpC.seq ?_
  refine WpC.regionL ?_
  refine L.move hF rfl rfl rfl ?_
  refine L.move hF rfl rfl rfl ?_
  refine L.bin hF rfl rfl rfl rfl rfl rfl ?_
  refine L.move hF rfl rfl rfl ?_
  refine L.split (fun hc => ?_) (fun hc => ?_)
  · replace H := condT hc H
    refine L.move hF rfl rfl rfl ?_
    refine L.move hF rfl rfl rfl ?_
    refine L.bin hF rfl rfl rfl rfl rfl rfl ?_
    refine L.pick hF rfl rfl rfl rfl ?_
    refine L.assign hF rfl rfl rfl ?_
    refine L.nil ?_
    refine WpC.ret ?_
    cases H
    exact Leaves.ret rfl rfl rfl ⟨rfl, rfl⟩
  · replace H := condF hc H
    refine L.off hF rfl rfl ?_
    refine L.off hF rfl rfl ?_
    refine L.off hF rfl rfl ?_
    refine L.pick hF rfl rfl rfl rfl ?_
    refine L.assign hF rfl rfl rfl ?_
    refine L.nil ?_
    refine WpC.ret ?_
    cases H
    exact Leaves.ret rfl rfl rfl ⟨rfl, rfl⟩
/-! ### Fspec_Var -/
def Fspec_Var.l2 : Nat → Int → (List UInt8) → Option (List UInt8)
  | 0, _, _ => none
  | k2 + 1, v16, v17 => cond (decide (v16 ≥ (128 : Int))) (cond (decide ((2 * (v17.length + ([(ofI (IntKind.i64.wrap ((128 : Int) + (Int.tmod v16 (128 : Int)))))] : List UInt8).length) + 192) * 1 ≤ 281474976710656)) ((Fspec_Var.l2 k2) (IntKind.i64.wrap (Int.tdiv v16 (128 : Int))) (v17 ++ ([(ofI (IntKind.i64.wrap ((128 : Int) + (Int.tmod v16 (128 : Int)))))] : List UInt8))) none) (cond (decide ((2 * (v17.length + ([(ofI v16)] : List UInt8).length) + 192) * 1 ≤ 281474976710656)) (some (v17 ++ ([(ofI v16)] : List UInt8))) none)
def Fspec_Var (k : Nat) (a0 : Int) : Option (List UInt8) := (Fspec_l1In k a0 (0 : Int) (562949953421311 : Int)).bind fun r2 => cond (!r2) (some ([] : List UInt8)) (Fspec_Var.l2 k a0 ([] : List UInt8))
theorem ent128 : Enters Try.prog 128 := ⟨Try.f128, Try.func128, rfl, by decide⟩
set_option maxHeartbeats 8000000 in
set_option maxRecDepth 100000 in
theorem Fspec_Var_gives (k : Nat) (a0 : Int) (r : List UInt8) (H : Fspec_Var k a0 = some r) : Gives Try.prog 128 [V.one (cI a0)] [] [V.one (cS r)] [] := by
  refine Gives.intro Try.func128 rfl rfl rfl rfl ?_
  intro F hF hm
  unfold Fspec_Var at H
  obtain ⟨K, hK⟩ : ∃ K, k ≤ K := ⟨k, Nat.le_refl k⟩
  refine WpC.seq ?_
  refine WpC.regionL ?_
  refine L.assign hF rfl rfl rfl ?_
  refine L.nil ?_
  refine WpC.seq ?_
  refine WpC.seq ?_
  refine WpC.regionL ?_
  refine L.move hF rfl rfl rfl ?_
  obtain ⟨r2, hr2, H⟩ := bindS H
  refine L.call [false, false, false] [] [] 1 hF rfl rfl rfl ent152 rfl rfl rfl rfl rfl (Fspec_l1In_gives k  a0 (0 : Int) (562949953421311 : Int) r2 hr2) rfl ?_
  refine L.not hF rfl rfl rfl ?_
  refine L.nil ?_
  refine WpC.cond rfl (fun hc => ?_) (fun hc => ?_)
  · replace H := condT hc H
    refine WpC.seq ?_
    refine WpC.regionL ?_
    refine L.assign hF rfl rfl rfl ?_
    refine L.nil ?_
    refine WpC.ret ?_
    cases H
    exact Leaves.ret rfl rfl rfl ⟨rfl, rfl⟩
  · replace H := condF hc H
    refine WpC.skip ?_
    refine WpC.seq ?_
    refine WpC.regionL ?_
    refine L.buildSlice (e := eB) 2 ([] : List UInt8) Try.underlying50 info5 rfl rfl rfl hF rfl rfl rfl rfl rfl rfl rfl rfl ?_
    refine L.assign hF rfl rfl rfl ?_
    refine L.nil ?_
    refine WpC.seq ?_
    refine WpC.block ?_
    refine WpC.loopL (P := Try.prog) (fun n σ => ∃ v16 : Int, ∃ v17 : List UInt8, n ≤ K ∧ Fspec_Var.l2 n v16 v17 = some r ∧ σ = mkSt [(0, one (cI v16)), (3, one (Cell.own 0))] [(0, ⟨1, List.map eB v17⟩)] [] 1) k ⟨_, ⟨a0, ([] : List UInt8), by omega, H, rfl⟩, Le.mk [(0, 2)] hm rfl ⟨⟨_, rfl, rfl⟩, ⟨_, rfl, rfl⟩, trivial⟩ ⟨⟨_, rfl, rfl⟩, trivial⟩ trivial⟩ ?_
    clear H
    rintro k2 _ ⟨v16, v17, hk2, H, rfl⟩
    cases k2 with
    | zero => cases H
    | succ k2 =>
      rw [Fspec_Var.l2] at H
      refine WpC.seq ?_
      refine WpC.seq ?_
      refine WpC.regionL ?_
      refine L.move hF rfl rfl rfl ?_
      refine L.bin hF rfl rfl rfl rfl rfl rfl ?_
      refine L.nil ?_
      refine WpC.cond rfl (fun hc => ?_) (fun hc => ?_)
      · replace H := condT hc H
        refine WpC.skip ?_
        refine WpC.block ?_
        refine WpC.seq ?_
        refine WpC.regionL ?_
        refine L.move hF rfl rfl rfl ?_
        refine L.move hF rfl rfl rfl ?_
        refine L.rem hF rfl rfl rfl rfl (by decide) ?_
        refine L.bin hF rfl rfl rfl rfl rfl rfl ?_
        refine L.toB Try.underlying3 Try.underlying5 hF rfl rfl rfl ?_
        refine L.buildSlice (e := eB) 1 ([(ofI (IntKind.i64.wrap ((128 : Int) + (Int.tmod v16 (128 : Int)))))] : List UInt8) Try.underlying50 info5 rfl rfl rfl hF rfl rfl rfl rfl rfl rfl rfl rfl ?_
        obtain ⟨h18, H⟩ := condG H
        refine L.append (xs := v17) (ys := ([(ofI (IntKind.i64.wrap ((128 : Int) + (Int.tmod v16 (128 : Int)))))] : List UInt8)) (e := eB) 2 Try.underlying50 info5 rfl rfl hF rfl rfl rfl rfl rfl rfl rfl rfl (fun _ => rfl) (fun _ _ h1 h2 => by cases h1; cases h2; rfl) ⟨_, Try.underlying50⟩ (of_decide_eq_true h18) rfl rfl ?_
        refine L.assign hF rfl rfl rfl ?_
        refine L.nil ?_
        refine WpC.regionL ?_
        refine L.move hF rfl rfl rfl ?_
        refine L.quo hF rfl rfl rfl rfl (by decide) ?_
        refine L.assign hF rfl rfl rfl ?_
        refine L.nil ?_
        exact ⟨k2, _, by omega, ⟨(IntKind.i64.wrap (Int.tdiv v16 (128 : Int))), (v17 ++ ([(ofI (IntKind.i64.wrap ((128 : Int) + (Int.tmod v16 (128 : Int)))))] : List UInt8)), by omega, H, rfl⟩, Le.mk [(0, 2)] hm rfl ⟨⟨_, rfl, rfl⟩, ⟨_, rfl, rfl⟩, trivial⟩ ⟨⟨_, rfl, rfl⟩, trivial⟩ trivial⟩
      · replace H := condF hc H
        refine WpC.exit ?_
        refine WpC.seq ?_
        refine WpC.regionL ?_
        refine L.move hF rfl rfl rfl ?_
        refine L.move hF rfl rfl rfl ?_
        refine L.toB Try.underlying3 Try.underlying5 hF rfl rfl rfl ?_
        refine L.buildSlice (e := eB) 1 ([(ofI v16)] : List UInt8) Try.underlying50 info5 rfl rfl rfl hF rfl rfl rfl rfl rfl rfl rfl rfl ?_
        obtain ⟨h19, H⟩ := condG H
        refine L.append (xs := v17) (ys := ([(ofI v16)] : List UInt8)) (e := eB) 2 Try.underlying50 info5 rfl rfl hF rfl rfl rfl rfl rfl rfl rfl rfl (fun _ => rfl) (fun _ _ h1 h2 => by cases h1; cases h2; rfl) ⟨_, Try.underlying50⟩ (of_decide_eq_true h19) rfl rfl ?_
        refine L.b2s (xs := (v17 ++ ([(ofI v16)] : List UInt8))) Try.underlying50 Try.underlying5 Try.underlying9 hF rfl rfl rfl rfl ?_
        refine L.assign hF rfl rfl rfl ?_
        refine L.nil ?_
        refine WpC.ret ?_
        cases H
        exact Leaves.ret rfl rfl rfl ⟨rfl, rfl⟩
/-! ### Fspec_ReadVar -/
def Fspec_ReadVar.l26 (cl22 : (List UInt8) → Int → Option (Int × Int)) : Nat → (List UInt8) → Int → Int → Int → Int → Bool → Option (Int × Int)
  | 0, _, _, _, _, _, _ => none
  | k26 + 1, v553, v554, v555, v556, v557, v558 => cond (decide (v556 ≥ (0 : Int))) ((at? v553 v556).bind fun b560 => (Fspec_ReadVar.l26 cl22 k26) v553 v554 (IntKind.i64.wrap ((IntKind.i64.wrap (v555 * (128 : Int))) + (Int.tmod (b560.toNat : Int) (128 : Int)))) (IntKind.i64.wrap (v556 - (1 : Int))) v557 v558) ((Fspec_Var k26 v555).bind fun r561 => (cut? v553 (0 : Int) v554).bind fun b562 => cond (r561 == b562) (some (v555, v554)) (cl22 v553 (IntKind.i64.wrap (v554 + (1 : Int)))))
def Fspec_ReadVar.l22 : Nat → (List UInt8) → Int → Option (Int × Int)
  | 0, _, _ => none
  | k22 + 1, v465, v466 => cond (decide (v466 ≤ (7 : Int))) (cond (decide (v466 ≤ (v465.length : Int))) (Fspec_ReadVar.l26 (Fspec_ReadVar.l22 k22) k22 v465 v466 (0 : Int) (IntKind.i64.wrap (v466 - (1 : Int))) (v465.length : Int) (decide (v466 ≤ (v465.length : Int)))) (some ((0 : Int), (0 : Int)))) (some ((0 : Int), (0 : Int)))
def Fspec_ReadVar (k : Nat) (a0 : List UInt8) : Option (Int × Int) := Fspec_ReadVar.l22 k a0 (1 : Int)
theorem ent216 : Enters Try.prog 216 := ⟨Try.f216, Try.func216, rfl, by decide⟩
set_option maxHeartbeats 8000000 in
set_option maxRecDepth 100000 in
theorem Fspec_ReadVar_gives (k : Nat) (a0 : List UInt8) (r : Int × Int) (H : Fspec_ReadVar k a0 = some r) : Gives Try.prog 216 [V.one (cS a0)] [] [V.one (cI r.1), V.one (cI r.2)] [] := by
  refine Gives.intro Try.func216 rfl rfl rfl rfl ?_
  intro F hF hm
  unfold Fspec_ReadVar at H
  obtain ⟨K, hK⟩ : ∃ K, k ≤ K := ⟨k, Nat.le_refl k⟩
  refine WpC.seq ?_
  refine WpC.regionL ?_
  refine L.assign hF rfl rfl rfl ?_
  refine L.assign hF rfl rfl rfl ?_
  refine L.nil ?_
  refine WpC.seq ?_
  refine WpC.seq ?_
  refine WpC.regionL ?_
  refine L.assign hF rfl rfl rfl ?_
  refine L.nil ?_
  refine WpC.block ?_
  refine WpC.loopL (P := Try.prog) (fun n σ => ∃ v465 : List UInt8, ∃ v466 : Int, n ≤ K ∧ Fspec_ReadVar.l22 n v465 v466 = some r ∧ σ = mkSt [(0, one (cS v465)), (4, one (cI v466))] [] [] 0) k ⟨_, ⟨a0, (1 : Int), by omega, H, rfl⟩, Le.mk [] hm rfl ⟨⟨_, rfl, rfl⟩, ⟨_, rfl, rfl⟩, trivial⟩ trivial trivial⟩ ?_
  clear H
  rintro k22 _ ⟨v465, v466, hk22, H, rfl⟩
  cases k22 with
  | zero => cases H
  | succ k22 =>
    rw [Fspec_ReadVar.l22] at H
    refine WpC.seq ?_
    refine WpC.seq ?_
    refine WpC.regionL ?_
    refine L.move hF rfl rfl rfl ?_
    refine L.bin hF rfl rfl rfl rfl rfl rfl ?_
    refine L.move hF rfl rfl rfl ?_
    refine L.split (fun hc => ?_) (fun hc => ?_)
    · replace H := condT hc H
      refine L.move hF rfl rfl rfl ?_
      refine L.move hF rfl rfl rfl ?_
      refine L.lenS Try.underlying9 hF rfl rfl rfl ?_
      refine L.bin hF rfl rfl rfl rfl rfl rfl ?_
      refine L.pick hF rfl rfl rfl rfl ?_
      refine L.nil ?_
      refine WpC.cond rfl (fun hc => ?_) (fun hc => ?_)
      · replace H := condT hc H
        refine WpC.skip ?_
        refine WpC.seq ?_
        refine WpC.block ?_
        refine WpC.seq ?_
        refine WpC.regionL ?_
        refine L.assign hF rfl rfl rfl ?_
        refine L.nil ?_
        refine WpC.seq ?_
        refine WpC.seq ?_
        refine WpC.regionL ?_
        refine L.move hF rfl rfl rfl ?_
        refine L.bin hF rfl rfl rfl rfl rfl rfl ?_
        refine L.assign hF rfl rfl rfl ?_
        refine L.nil ?_
        refine WpC.block ?_
        refine WpC.loopL (P := Try.prog) (fun n σ => ∃ v553 : List UInt8, ∃ v554 : Int, ∃ v555 : Int, ∃ v556 : Int, ∃ v557 : Int, ∃ v558 : Bool, n ≤ K ∧ Fspec_ReadVar.l26 (Fspec_ReadVar.l22 k22) n v553 v554 v555 v556 v557 v558 = some r ∧ σ = mkSt [(0, one (cS v553)), (4, one (cI v554)), (5, one (cI v555)), (6, one (cI v556)), (10, one (cI v554)), (11, one (cS v553)), (12, one (cI v557)), (13, one (cL v558))] [] [] 0) k22 ⟨_, ⟨v465, v466, (0 : Int), (IntKind.i64.wrap (v466 - (1 : Int))), (v465.length : Int), (decide (v466 ≤ (v465.length : Int))), by omega, H, rfl⟩, Le.mk [] hm rfl ⟨⟨_, rfl, rfl⟩, ⟨_, rfl, rfl⟩, ⟨_, rfl, rfl⟩, ⟨_, rfl, rfl⟩, ⟨_, rfl, rfl⟩, ⟨_, rfl, rfl⟩, ⟨_, rfl, rfl⟩, ⟨_, rfl, rfl⟩, trivial⟩ trivial trivial⟩ ?_
        clear H
        rintro k26 _ ⟨v553, v554, v555, v556, v557, v558, hk26, H, rfl⟩
        cases k26 with
        | zero => cases H
        | succ k26 =>
          rw [Fspec_ReadVar.l26] at H
          refine WpC.seq ?_
          refine WpC.seq ?_
          refine WpC.regionL ?_
          refine L.move hF rfl rfl rfl ?_
          refine L.bin hF rfl rfl rfl rfl rfl rfl ?_
          refine L.nil ?_
          refine WpC.cond rfl (fun hc => ?_) (fun hc => ?_)
          · replace H := condT hc H
            refine WpC.skip ?_
            refine WpC.seq ?_
            refine WpC.block ?_
            refine WpC.regionL ?_
            refine L.move hF rfl rfl rfl ?_
            refine L.bin hF rfl rfl rfl rfl rfl rfl ?_
            refine L.move hF rfl rfl rfl ?_
            refine L.move hF rfl rfl rfl ?_
            obtain ⟨b560, hb560, H⟩ := bindS H
            refine L.idxS Try.underlying9 hF rfl rfl rfl rfl hb560 ?_
            refine L.ofB Try.underlying5 Try.underlying3 hF rfl rfl rfl ?_
            refine L.rem hF rfl rfl rfl rfl (by decide) ?_
            refine L.bin hF rfl rfl rfl rfl rfl rfl ?_
            refine L.assign hF rfl rfl rfl ?_
            refine L.nil ?_
            refine WpC.regionL ?_
            refine L.move hF rfl rfl rfl ?_
            refine L.bin hF rfl rfl rfl rfl rfl rfl ?_
            refine L.assign hF rfl rfl rfl ?_
            refine L.nil ?_
            exact ⟨k26, _, by omega, ⟨v553, v554, (IntKind.i64.wrap ((IntKind.i64.wrap (v555 * (128 : Int))) + (Int.tmod (b560.toNat : Int) (128 : Int)))), (IntKind.i64.wrap (v556 - (1 : Int))), v557, v558, by omega, H, rfl⟩, Le.mk [] hm rfl ⟨⟨_, rfl, rfl⟩, ⟨_, rfl, rfl⟩, ⟨_, rfl, rfl⟩, ⟨_, rfl, rfl⟩, ⟨_, rfl, rfl⟩, ⟨_, rfl, rfl⟩, ⟨_, rfl, rfl⟩, ⟨_, rfl, rfl⟩, trivial⟩ trivial trivial⟩
          · replace H := condF hc H
            refine WpC.exit ?_
            refine WpC.seq ?_
            obtain ⟨r561, hr561, H⟩ := bindS H
            obtain ⟨b562, hb562, H⟩ := bindS H
            refine A.begin mixed rfl rfl ?_
            intro W hI hO
            have n63 : W 0 #[true, true, true, true, true, true] (mkSt [(0, one (cS v553)), (4, one (cI v554)), (5, one (cI v555)), (10, one (cI v554)), (11, one (cS v553)), (12, one (cI v557)), (13, one (cL v558)), (36, one (cL (r561 == b562)))] [] [] 0) := by
              refine hI _ _ _ (A.done (by kernel_rfl) ?_)
              refine WpC.cond rfl (fun hc => ?_) (fun hc => ?_)
              · replace H := condT hc H
                refine WpC.seq ?_
                refine WpC.regionL ?_
                refine L.move hF rfl rfl rfl ?_
                refine L.move hF rfl rfl rfl ?_
                refine L.assign hF rfl rfl rfl ?_
                refine L.assign hF rfl rfl rfl ?_
                refine L.nil ?_
                refine WpC.ret ?_
                cases H
                exact Leaves.ret rfl rfl rfl ⟨rfl, rfl⟩
              · replace H := condF hc H
                refine WpC.skip ?_
                refine WpC.regionL ?_
                refine L.move hF rfl rfl rfl ?_
                refine L.bin hF rfl rfl rfl rfl rfl rfl ?_
                refine L.assign hF rfl rfl rfl ?_
                refine L.nil ?_
                exact ⟨k22, _, by omega, ⟨v553, (IntKind.i64.wrap (v554 + (1 : Int))), by omega, H, rfl⟩, Le.mk [] hm rfl ⟨⟨_, rfl, rfl⟩, ⟨_, rfl, rfl⟩, trivial⟩ trivial trivial⟩
            have n31 : W 1 #[true, true, true, true, true, false] (mkSt [(0, one (cS v553)), (4, one (cI v554)), (5, one (cI v555)), (10, one (cI v554)), (11, one (cS v553)), (12, one (cI v557)), (13, one (cL v558)), (32, one (cS r561)), (35, one (cS b562))] [] [] 0) := by
              refine hI _ _ _ ?_
              refine A.take 5 rfl (by kernel_rfl) (by kernel_rfl) (by kernel_rfl) rfl (Ca.bin rfl rfl (calm_str _ _ _ _ _ _)) (fun Q0 k0 => L.binS hF rfl rfl rfl rfl rfl (L.nil k0)) ?_
              exact A.on (hO _ _ _ n63) (Le.mk [] hm rfl ⟨⟨_, rfl, rfl⟩, ⟨_, rfl, rfl⟩, ⟨_, rfl, rfl⟩, ⟨_, rfl, rfl⟩, ⟨_, rfl, rfl⟩, ⟨_, rfl, rfl⟩, ⟨_, rfl, rfl⟩, ⟨_, rfl, rfl⟩, trivial⟩ trivial trivial)
            have n29 : W 2 #[true, false, true, true, true, false] (mkSt [(0, one (cS v553)), (4, one (cI v554)), (5, one (cI v555)), (10, one (cI v554)), (11, one (cS v553)), (12, one (cI v557)), (13, one (cL v558)), (31, one (cI v555)), (35, one (cS b562))] [] [] 0) := by
              refine hI _ _ _ ?_
              refine A.all [1] (by kernel_rfl) rfl ⟨⟨_, rfl, ?_⟩, trivial⟩
              · refine L.call [false] [] [] 0 hF rfl rfl rfl ent128 rfl rfl rfl rfl rfl (Fspec_Var_gives k26  v555 r561 hr561) rfl ?_
                refine L.nil ?_
                exact A.on (hO _ _ _ n31) (Le.mk [] hm rfl ⟨⟨_, rfl, rfl⟩, ⟨_, rfl, rfl⟩, ⟨_, rfl, rfl⟩, ⟨_, rfl, rfl⟩, ⟨_, rfl, rfl⟩, ⟨_, rfl, rfl⟩, ⟨_, rfl, rfl⟩, ⟨_, rfl, rfl⟩, ⟨_, rfl, rfl⟩, trivial⟩ trivial trivial)
            have n13 : W 3 #[true, false, true, true, false, false] (mkSt [(0, one (cS v553)), (4, one (cI v554)), (5, one (cI v555)), (10, one (cI v554)), (11, one (cS v553)), (12, one (cI v557)), (13, one (cL v558)), (31, one (cI v555)), (33, one (cS v553)), (34, one (cI v554))] [] [] 0) := by
              refine hI _ _ _ ?_
              refine A.take 4 rfl (by kernel_rfl) (by kernel_rfl) (by kernel_rfl) rfl (Ca.slice) (fun Q0 k0 => L.cutS Try.underlying9 hF rfl rfl rfl rfl rfl hb562 (L.nil k0)) ?_
              exact A.on (hO _ _ _ n29) (Le.mk [] hm rfl ⟨⟨_, rfl, rfl⟩, ⟨_, rfl, rfl⟩, ⟨_, rfl, rfl⟩, ⟨_, rfl, rfl⟩, ⟨_, rfl, rfl⟩, ⟨_, rfl, rfl⟩, ⟨_, rfl, rfl⟩, ⟨_, rfl, rfl⟩, ⟨_, rfl, rfl⟩, trivial⟩ trivial trivial)
            have n5 : W 4 #[true, false, true, false, false, false] (mkSt [(0, one (cS v553)), (4, one (cI v554)), (5, one (cI v555)), (10, one (cI v554)), (11, one (cS v553)), (12, one (cI v557)), (13, one (cL v558)), (31, one (cI v555)), (33, one (cS v553))] [] [] 0) := by
              refine hI _ _ _ ?_
              refine A.take 3 rfl (by kernel_rfl) (by kernel_rfl) (by kernel_rfl) rfl (Ca.move) (fun Q0 k0 => L.move hF rfl rfl rfl (L.nil k0)) ?_
              exact A.on (hO _ _ _ n13) (Le.mk [] hm rfl ⟨⟨_, rfl, rfl⟩, ⟨_, rfl, rfl⟩, ⟨_, rfl, rfl⟩, ⟨_, rfl, rfl⟩, ⟨_, rfl, rfl⟩, ⟨_, rfl, rfl⟩, ⟨_, rfl, rfl⟩, ⟨_, rfl, rfl⟩, ⟨_, rfl, rfl⟩, ⟨_, rfl, rfl⟩, trivial⟩ trivial trivial)
            have n1 : W 5 #[true, false, false, false, false, false] (mkSt [(0, one (cS v553)), (4, one (cI v554)), (5, one (cI v555)), (10, one (cI v554)), (11, one (cS v553)), (12, one (cI v557)), (13, one (cL v558)), (31, one (cI v555))] [] [] 0) := by
              refine hI _ _ _ ?_
              refine A.take 2 rfl (by kernel_rfl) (by kernel_rfl) (by kernel_rfl) rfl (Ca.move) (fun Q0 k0 => L.move hF rfl rfl rfl (L.nil k0)) ?_
              exact A.on (hO _ _ _ n5) (Le.mk [] hm rfl ⟨⟨_, rfl, rfl⟩, ⟨_, rfl, rfl⟩, ⟨_, rfl, rfl⟩, ⟨_, rfl, rfl⟩, ⟨_, rfl, rfl⟩, ⟨_, rfl, rfl⟩, ⟨_, rfl, rfl⟩, ⟨_, rfl, rfl⟩, ⟨_, rfl, rfl⟩, trivial⟩ trivial trivial)
            have n0 : W 6 #[false, false, false, false, false, false] (mkSt [(0, one (cS v553)), (4, one (cI v554)), (5, one (cI v555)), (10, one (cI v554)), (11, one (cS v553)), (12, one (cI v557)), (13, one (cL v558))] [] [] 0) := by
              refine hI _ _ _ ?_
              refine A.take 0 rfl (by kernel_rfl) (by kernel_rfl) (by kernel_rfl) rfl (Ca.move) (fun Q0 k0 => L.move hF rfl rfl rfl (L.nil k0)) ?_
              exact A.on (hO _ _ _ n1) (Le.mk [] hm rfl ⟨⟨_, rfl, rfl⟩, ⟨_, rfl, rfl⟩, ⟨_, rfl, rfl⟩, ⟨_, rfl, rfl⟩, ⟨_, rfl, rfl⟩, ⟨_, rfl, rfl⟩, ⟨_, rfl, rfl⟩, ⟨_, rfl, rfl⟩, trivial⟩ trivial trivial)
            exact hI _ _ _ (A.on (hO _ _ _ n0) (Le.mk [] hm rfl ⟨⟨_, rfl, rfl⟩, ⟨_, rfl, rfl⟩, ⟨_, rfl, rfl⟩, ⟨_, rfl, rfl⟩, ⟨_, rfl, rfl⟩, ⟨_, rfl, rfl⟩, ⟨_, rfl, rfl⟩, trivial⟩ trivial trivial))
      · replace H := condF hc H
        refine WpC.exit ?_
        refine WpC.seq ?_
        refine WpC.regionL ?_
        refine L.assign hF rfl rfl rfl ?_
        refine L.assign hF rfl rfl rfl ?_
        refine L.nil ?_
        refine WpC.ret ?_
        cases H
        exact Leaves.ret rfl rfl rfl ⟨rfl, rfl⟩
    · replace H := condF hc H
      refine L.off hF rfl rfl ?_
      refine L.off hF rfl rfl ?_
      refine L.off hF rfl rfl ?_
      refine L.off hF rfl rfl ?_
      refine L.pick hF rfl rfl rfl rfl ?_
      refine L.nil ?_
      refine WpC.cond rfl (fun hc => by cases hc) (fun _ => ?_)
      refine WpC.exit ?_
      refine WpC.seq ?_
      refine WpC.regionL ?_
      refine L.assign hF rfl rfl rfl ?_
      refine L.assign hF rfl rfl rfl ?_
      refine L.nil ?_
      refine WpC.ret ?_
      cases H
      exact Leaves.ret rfl rfl rfl ⟨rfl, rfl⟩
/-! ### Fspec_l2Term -/
def Fspec_l2Term.j16 (cl15 : (List UInt8) → Int → Int → Int → Int → Int → Int → Option (Int × Int)) (k : Nat) (v191 : List UInt8) (v192 : Int) (v193 : Int) (v194 : Int) (v195 : Int) (v196 : Int) (v197 : Int) : Option (Int × Int) := cl15 v191 v192 v193 v194 v195 v196 (IntKind.i64.wrap (v197 + (1 : Int)))
def Fspec_l2Term.l15 (cREC : (List UInt8) → Int → Int → Option (Int × Int)) : Nat → (List UInt8) → Int → Int → Int → Int → Int → Int → Option (Int × Int)
  | 0, _, _, _, _, _, _, _ => none
  | k15 + 1, v183, v184, v185, v186, v187, v188, v189 => cond (decide (v189 < v186)) ((cREC v183 v187 (IntKind.i64.wrap (v185 - (1 : Int)))).bind fun r198 => cond (r198.1 == (0 : Int)) (some ((0 : Int), (0 : Int))) (cond (decide (r198.2 > v188)) (Fspec_l2Term.j16 (Fspec_l2Term.l15 cREC k15) k15 v183 v184 v185 v186 (IntKind.i64.wrap (v187 + r198.1)) r198.2 v189) (Fspec_l2Term.j16 (Fspec_l2Term.l15 cREC k15) k15 v183 v184 v185 v186 (IntKind.i64.wrap (v187 + r198.1)) v188 v189))) (some ((IntKind.i64.wrap (v187 - v184)), (IntKind.i64.wrap ((1 : Int) + v188))))
def Fspec_l2Term : Nat → (List UInt8) → Int → Int → Option (Int × Int)
  | 0, _, _, _ => none
  | k + 1, a0, a1, a2 => cond (decide (a1 ≥ (a0.length : Int))) (some ((0 : Int), (0 : Int))) (cond (decide (a2 < (1 : Int))) (some ((0 : Int), (0 : Int))) ((cut? a0 (IntKind.i64.wrap (a1 + (1 : Int))) (a0.length : Int)).bind fun b1 => (Fspec_ReadVar k b1).bind fun r2 => cond (r2.2 == (0 : Int)) (some ((0 : Int), (0 : Int))) ((at? a0 a1).bind fun b101 => cond (b101 == (97 : UInt8)) (cond (decide (r2.1 > (40 : Int))) (some ((0 : Int), (0 : Int))) (cond (decide (r2.1 > (IntKind.i64.wrap ((a0.length : Int) - (IntKind.i64.wrap ((IntKind.i64.wrap (a1 + (1 : Int))) + r2.2)))))) (some ((0 : Int), (0 : Int))) (some ((IntKind.i64.wrap ((IntKind.i64.wrap ((1 : Int) + r2.2)) + r2.1)), (1 : Int))))) (cond (b101 == (107 : UInt8)) ((Fspec_l1In k r2.1 (1 : Int) (1000000 : Int)).bind fun r103 => cond (!r103) (some ((0 : Int), (0 : Int))) (some ((IntKind.i64.wrap ((1 : Int) + r2.2)), (1 : Int)))) (cond (b101 == (115 : UInt8)) (((Fspec_l2Term k) a0 (IntKind.i64.wrap ((IntKind.i64.wrap (a1 + (1 : Int))) + r2.2)) (IntKind.i64.wrap (a2 - (1 : Int)))).bind fun r104 => cond (r104.1 == (0 : Int)) (some ((0 : Int), (0 : Int))) ((Fspec_l1In k r2.1 (1 : Int) (1000000 : Int)).bind fun r108 => cond (!r108) (some ((0 : Int), (0 : Int))) (some ((IntKind.i64.wrap ((IntKind.i64.wrap ((1 : Int) + r2.2)) + r104.1)), (IntKind.i64.wrap ((1 : Int) + r104.2)))))) (cond (b101 == (108 : UInt8)) (cond (decide (r2.1 > (12 : Int))) (some ((0 : Int), (0 : Int))) (Fspec_l2Term.l15 (Fspec_l2Term k) k a0 a1 a2 r2.1 (IntKind.i64.wrap ((IntKind.i64.wrap (a1 + (1 : Int))) + r2.2)) (0 : Int) (0 : Int))) (some ((0 : Int), (0 : Int)))))))))
theorem ent230 : Enters Try.prog 230 := ⟨Try.f230, Try.func230, rfl, by decide⟩
set_option maxHeartbeats 8000000 in
set_option maxRecDepth 100000 in
theorem Fspec_l2Term_gives : ∀ (k : Nat) (a0 : List UInt8) (a1 : Int) (a2 : Int) (r : Int × Int) (H : Fspec_l2Term k a0 a1 a2 = some r), Gives Try.prog 230 [V.one (cS a0), V.one (cI a1), V.one (cI a2)] [] [V.one (cI r.1), V.one (cI r.2)] [] := by
  intro k
  induction k with
  | zero => intros; rename_i H; cases H
  | succ k ih =>
    intro a0 a1 a2 r H
    refine Gives.intro Try.func230 rfl rfl rfl rfl ?_
    intro F hF hm
    rw [Fspec_l2Term] at H
    obtain ⟨K, hK⟩ : ∃ K, k ≤ K := ⟨k, Nat.le_refl k⟩
    refine WpC.seq ?_
    refine WpC.regionL ?_
    refine L.assign hF rfl rfl rfl ?_
    refine L.assign hF rfl rfl rfl ?_
    refine L.nil ?_
    refine WpC.seq ?_
    refine WpC.seq ?_
    refine WpC.regionL ?_
    refine L.move hF rfl rfl rfl ?_
    refine L.move hF rfl rfl rfl ?_
    refine L.lenS Try.underlying9 hF rfl rfl rfl ?_
    refine L.bin hF rfl rfl rfl rfl rfl rfl ?_
    refine L.move hF rfl rfl rfl ?_
    refine L.split (fun hc => ?_) (fun hc => ?_)
    · replace H := condT hc H
      refine L.off hF rfl rfl ?_
      refine L.off hF rfl rfl ?_
      refine L.pick hF rfl rfl rfl rfl ?_
      refine L.nil ?_
      refine WpC.cond rfl (fun _ => ?_) (fun hc => by cases hc)
      refine WpC.seq ?_
      refine WpC.regionL ?_
      refine L.assign hF rfl rfl rfl ?_
      refine L.assign hF rfl rfl rfl ?_
      refine L.nil ?_
      refine WpC.ret ?_
      cases H
      exact Leaves.ret rfl rfl rfl ⟨rfl, rfl⟩
    · replace H := condF hc H
      refine L.move hF rfl rfl rfl ?_
      refine L.bin hF rfl rfl rfl rfl rfl rfl ?_
      refine L.pick hF rfl rfl rfl rfl ?_
      refine L.nil ?_
      refine WpC.cond rfl (fun hc => ?_) (fun hc => ?_)
      · replace H := condT hc H
        refine WpC.seq ?_
        refine WpC.regionL ?_
        refine L.assign hF rfl rfl rfl ?_
        refine L.assign hF rfl rfl rfl ?_
        refine L.nil ?_
        refine WpC.ret ?_
        cases H
        exact Leaves.ret rfl rfl rfl ⟨rfl, rfl⟩
      · replace H := condF hc H
        refine WpC.skip ?_
        refine WpC.seq ?_
        refine WpC.regionL ?_
        refine L.move hF rfl rfl rfl ?_
        refine L.move hF rfl rfl rfl ?_
        refine L.bin hF rfl rfl rfl rfl rfl rfl ?_
        obtain ⟨b1, hb1, H⟩ := bindS H
        refine L.cutS Try.underlying9 hF rfl rfl rfl rfl rfl hb1 ?_
        obtain ⟨r2, hr2, H⟩ := bindS H
        refine L.call [false] [] [] 3 hF rfl rfl rfl ent216 rfl rfl rfl rfl rfl (Fspec_ReadVar_gives k  b1 r2 hr2) rfl ?_
        refine L.move hF rfl rfl rfl ?_
        refine L.extract hF rfl rfl rfl rfl ?_
        refine L.extract hF rfl rfl rfl rfl ?_
        refine L.assign hF rfl rfl rfl ?_
        refine L.assign hF rfl rfl rfl ?_
        refine L.nil ?_
        refine WpC.seq ?_
        refine WpC.seq ?_
        refine WpC.regionL ?_
        refine L.move hF rfl rfl rfl ?_
        refine L.bin hF rfl rfl rfl rfl rfl rfl ?_
        refine L.nil ?_
        refine WpC.cond rfl (fun hc => ?_) (fun hc => ?_)
        · replace H := condT hc H
          refine WpC.seq ?_
          refine WpC.regionL ?_
          refine L.assign hF rfl rfl rfl ?_
          refine L.assign hF rfl rfl rfl ?_
          refine L.nil ?_
          refine WpC.ret ?_
          cases H
          exact Leaves.ret rfl rfl rfl ⟨rfl, rfl⟩
        · replace H := condF hc H
          refine WpC.skip ?_
          refine WpC.seq ?_
          refine WpC.regionL ?_
          refine L.move hF rfl rfl rfl ?_
          refine L.bin hF rfl rfl rfl rfl rfl rfl ?_
          refine L.move hF rfl rfl rfl ?_
          refine L.bin hF rfl rfl rfl rfl rfl rfl ?_
          refine L.assign hF rfl rfl rfl ?_
          refine L.nil ?_
          refine WpC.seq ?_
          refine WpC.seq ?_
          refine WpC.regionL ?_
          refine L.move hF rfl rfl rfl ?_
          refine L.move hF rfl rfl rfl ?_
          obtain ⟨b101, hb101, H⟩ := bindS H
          refine L.idxS Try.underlying9 hF rfl rfl rfl rfl hb101 ?_
          refine L.nil ?_
          refine WpC.block ?_
          refine WpC.seq ?_
          refine WpC.regionL ?_
          refine L.binB (a := b101) (b := (97 : UInt8)) hF rfl rfl rfl rfl rfl ?_
          refine L.assign hF rfl rfl rfl ?_
          refine L.nil ?_
          refine WpC.cond rfl (fun hc => ?_) (fun hc => ?_)
          · replace H := condT hc H
            refine WpC.seq ?_
            refine WpC.seq ?_
            refine WpC.regionL ?_
            refine L.move hF rfl rfl rfl ?_
            refine L.bin hF rfl rfl rfl rfl rfl rfl ?_
            refine L.move hF rfl rfl rfl ?_
            refine L.split (fun hc => ?_) (fun hc => ?_)
            · replace H := condT hc H
              refine L.off hF rfl rfl ?_
              refine L.off hF rfl rfl ?_
              refine L.off hF rfl rfl ?_
              refine L.off hF rfl rfl ?_
              refine L.off hF rfl rfl ?_
              refine L.off hF rfl rfl ?_
              refine L.pick hF rfl rfl rfl rfl ?_
              refine L.nil ?_
              refine WpC.cond rfl (fun _ => ?_) (fun hc => by cases hc)
              refine WpC.seq ?_
              refine WpC.regionL ?_
              refine L.assign hF rfl rfl rfl ?_
              refine L.assign hF rfl rfl rfl ?_
              refine L.nil ?_
              refine WpC.ret ?_
              cases H
              exact Leaves.ret rfl rfl rfl ⟨rfl, rfl⟩
            · replace H := condF hc H
              refine L.move hF rfl rfl rfl ?_
              refine L.move hF rfl rfl rfl ?_
              refine L.lenS Try.underlying9 hF rfl rfl rfl ?_
              refine L.move hF rfl rfl rfl ?_
              refine L.bin hF rfl rfl rfl rfl rfl rfl ?_
              refine L.bin hF rfl rfl rfl rfl rfl rfl ?_
              refine L.pick hF rfl rfl rfl rfl ?_
              refine L.nil ?_
              refine WpC.cond rfl (fun hc => ?_) (fun hc => ?_)
              · replace H := condT hc H
                refine WpC.seq ?_
                refine WpC.regionL ?_
                refine L.assign hF rfl rfl rfl ?_
                refine L.assign hF rfl rfl rfl ?_
                refine L.nil ?_
                refine WpC.ret ?_
                cases H
                exact Leaves.ret rfl rfl rfl ⟨rfl, rfl⟩
              · replace H := condF hc H
                refine WpC.skip ?_
                refine WpC.seq ?_
                refine WpC.regionL ?_
                refine L.move hF rfl rfl rfl ?_
                refine L.bin hF rfl rfl rfl rfl rfl rfl ?_
                refine L.move hF rfl rfl rfl ?_
                refine L.bin hF rfl rfl rfl rfl rfl rfl ?_
                refine L.assign hF rfl rfl rfl ?_
                refine L.assign hF rfl rfl rfl ?_
                refine L.nil ?_
                refine WpC.ret ?_
                cases H
                exact Leaves.ret rfl rfl rfl ⟨rfl, rfl⟩
          · replace H := condF hc H
            refine WpC.seq ?_
            refine WpC.regionL ?_
            refine L.binB (a := b101) (b := (107 : UInt8)) hF rfl rfl rfl rfl rfl ?_
            refine L.assign hF rfl rfl rfl ?_
            refine L.nil ?_
            refine WpC.cond rfl (fun hc => ?_) (fun hc => ?_)
            · replace H := condT hc H
              refine WpC.seq ?_
              refine WpC.seq ?_
              refine WpC.regionL ?_
              refine L.move hF rfl rfl rfl ?_
              obtain ⟨r103, hr103, H⟩ := bindS H
              refine L.call [false, false, false] [] [] 5 hF rfl rfl rfl ent152 rfl rfl rfl rfl rfl (Fspec_l1In_gives k  r2.1 (1 : Int) (1000000 : Int) r103 hr103) rfl ?_
              refine L.not hF rfl rfl rfl ?_
              refine L.nil ?_
              refine WpC.cond rfl (fun hc => ?_) (fun hc => ?_)
              · replace H := condT hc H
                refine WpC.seq ?_
                refine WpC.regionL ?_
                refine L.assign hF rfl rfl rfl ?_
                refine L.assign hF rfl rfl rfl ?_
                refine L.nil ?_
                refine WpC.ret ?_
                cases H
                exact Leaves.ret rfl rfl rfl ⟨rfl, rfl⟩
              · replace H := condF hc H
                refine WpC.skip ?_
                refine WpC.seq ?_
                refine WpC.regionL ?_
                refine L.move hF rfl rfl rfl ?_
                refine L.bin hF rfl rfl rfl rfl rfl rfl ?_
                refine L.assign hF rfl rfl rfl ?_
                refine L.assign hF rfl rfl rfl ?_
                refine L.nil ?_
                refine WpC.ret ?_
                cases H
                exact Leaves.ret rfl rfl rfl ⟨rfl, rfl⟩
            · replace H := condF hc H
              refine WpC.seq ?_
              refine WpC.regionL ?_
              refine L.binB (a := b101) (b := (115 : UInt8)) hF rfl rfl rfl rfl rfl ?_
              refine L.assign hF rfl rfl rfl ?_
              refine L.nil ?_
              refine WpC.cond rfl (fun hc => ?_) (fun hc => ?_)
              · replace H := condT hc H
                refine WpC.seq ?_
                refine WpC.regionL ?_
                refine L.move hF rfl rfl rfl ?_
                refine L.move hF rfl rfl rfl ?_
                refine L.move hF rfl rfl rfl ?_
                refine L.bin hF rfl rfl rfl rfl rfl rfl ?_
                obtain ⟨r104, hr104, H⟩ := bindS H
                refine L.call [false, false, false] [] [] 5 hF rfl rfl rfl ent230 rfl rfl rfl rfl rfl (ih  a0 (IntKind.i64.wrap ((IntKind.i64.wrap (a1 + (1 : Int))) + r2.2)) (IntKind.i64.wrap (a2 - (1 : Int))) r104 hr104) rfl ?_
                refine L.move hF rfl rfl rfl ?_
                refine L.extract hF rfl rfl rfl rfl ?_
                refine L.extract hF rfl rfl rfl rfl ?_
                refine L.assign hF rfl rfl rfl ?_
                refine L.assign hF rfl rfl rfl ?_
                refine L.nil ?_
                refine WpC.seq ?_
                refine WpC.seq ?_
                refine WpC.regionL ?_
                refine L.move hF rfl rfl rfl ?_
                refine L.bin hF rfl rfl rfl rfl rfl rfl ?_
                refine L.move hF rfl rfl rfl ?_
                refine L.split (fun hc => ?_) (fun hc => ?_)
                · replace H := condT hc H
                  refine L.off hF rfl rfl ?_
                  refine L.off hF rfl rfl ?_
                  refine L.off hF rfl rfl ?_
                  refine L.pick hF rfl rfl rfl rfl ?_
                  refine L.nil ?_
                  refine WpC.cond rfl (fun _ => ?_) (fun hc => by cases hc)
                  refine WpC.seq ?_
                  refine WpC.regionL ?_
                  refine L.assign hF rfl rfl rfl ?_
                  refine L.assign hF rfl rfl rfl ?_
                  refine L.nil ?_
                  refine WpC.ret ?_
                  cases H
                  exact Leaves.ret rfl rfl rfl ⟨rfl, rfl⟩
                · replace H := condF hc H
                  refine L.move hF rfl rfl rfl ?_
                  obtain ⟨r108, hr108, H⟩ := bindS H
                  refine L.call [false, false, false] [] [] 7 hF rfl rfl rfl ent152 rfl rfl rfl rfl rfl (Fspec_l1In_gives k  r2.1 (1 : Int) (1000000 : Int) r108 hr108) rfl ?_
                  refine L.not hF rfl rfl rfl ?_
                  refine L.pick hF rfl rfl rfl rfl ?_
                  refine L.nil ?_
                  refine WpC.cond rfl (fun hc => ?_) (fun hc => ?_)
                  · replace H := condT hc H
                    refine WpC.seq ?_
                    refine WpC.regionL ?_
                    refine L.assign hF rfl rfl rfl ?_
                    refine L.assign hF rfl rfl rfl ?_
                    refine L.nil ?_
                    refine WpC.ret ?_
                    cases H
                    exact Leaves.ret rfl rfl rfl ⟨rfl, rfl⟩
                  · replace H := condF hc H
                    refine WpC.skip ?_
                    refine WpC.seq ?_
                    refine WpC.regionL ?_
                    refine L.move hF rfl rfl rfl ?_
                    refine L.bin hF rfl rfl rfl rfl rfl rfl ?_
                    refine L.move hF rfl rfl rfl ?_
                    refine L.bin hF rfl rfl rfl rfl rfl rfl ?_
                    refine L.move hF rfl rfl rfl ?_
                    refine L.bin hF rfl rfl rfl rfl rfl rfl ?_
                    refine L.assign hF rfl rfl rfl ?_
                    refine L.assign hF rfl rfl rfl ?_
                    refine L.nil ?_
                    refine WpC.ret ?_
                    cases H
                    exact Leaves.ret rfl rfl rfl ⟨rfl, rfl⟩
              · replace H := condF hc H
                refine WpC.seq ?_
                refine WpC.regionL ?_
                refine L.binB (a := b101) (b := (108 : UInt8)) hF rfl rfl rfl rfl rfl ?_
                refine L.assign hF rfl rfl rfl ?_
                refine L.nil ?_
                refine WpC.cond rfl (fun hc => ?_) (fun hc => ?_)
                · replace H := condT hc H
                  refine WpC.seq ?_
                  refine WpC.seq ?_
                  refine WpC.regionL ?_
                  refine L.move hF rfl rfl rfl ?_
                  refine L.bin hF rfl rfl rfl rfl rfl rfl ?_
                  refine L.nil ?_
                  refine WpC.cond rfl (fun hc => ?_) (fun hc => ?_)
                  · replace H := condT hc H
                    refine WpC.seq ?_
                    refine WpC.regionL ?_
                    refine L.assign hF rfl rfl rfl ?_
                    refine L.assign hF rfl rfl rfl ?_
                    refine L.nil ?_
                    refine WpC.ret ?_
                    cases H
                    exact Leaves.ret rfl rfl rfl ⟨rfl, rfl⟩
                  · replace H := condF hc H
                    refine WpC.skip ?_
                    refine WpC.seq ?_
                    refine WpC.regionL ?_
                    refine L.assign hF rfl rfl rfl ?_
                    refine L.nil ?_
                    refine WpC.seq ?_
                    refine WpC.seq ?_
                    refine WpC.regionL ?_
                    refine L.assign hF rfl rfl rfl ?_
                    refine L.nil ?_
                    refine WpC.block ?_
                    refine WpC.loopL (P := Try.prog) (fun n σ => ∃ v183 : List UInt8, ∃ v184 : Int, ∃ v185 : Int, ∃ v186 : Int, ∃ v187 : Int, ∃ v188 : Int, ∃ v189 : Int, n ≤ K ∧ Fspec_l2Term.l15 (Fspec_l2Term k) n v183 v184 v185 v186 v187 v188 v189 = some r ∧ σ = mkSt [(0, one (cS v183)), (1, one (cI v184)), (2, one (cI v185)), (8, one (cI v186)), (10, one (cI v187)), (13, one (cI v188)), (14, one (cI v189))] [] [] 0) k ⟨_, ⟨a0, a1, a2, r2.1, (IntKind.i64.wrap ((IntKind.i64.wrap (a1 + (1 : Int))) + r2.2)), (0 : Int), (0 : Int), by omega, H, rfl⟩, Le.mk [] hm rfl ⟨⟨_, rfl, rfl⟩, ⟨_, rfl, rfl⟩, ⟨_, rfl, rfl⟩, ⟨_, rfl, rfl⟩, ⟨_, rfl, rfl⟩, ⟨_, rfl, rfl⟩, ⟨_, rfl, rfl⟩, trivial⟩ trivial trivial⟩ ?_
                    clear H
                    rintro k15 _ ⟨v183, v184, v185, v186, v187, v188, v189, hk15, H, rfl⟩
                    cases k15 with
                    | zero => cases H
                    | succ k15 =>
                      rw [Fspec_l2Term.l15] at H
                      refine WpC.seq ?_
                      refine WpC.seq ?_
                      refine WpC.regionL ?_
                      refine L.move hF rfl rfl rfl ?_
                      refine L.move hF rfl rfl rfl ?_
                      refine L.bin hF rfl rfl rfl rfl rfl rfl ?_
                      refine L.nil ?_
                      refine WpC.cond rfl (fun hc => ?_) (fun hc => ?_)
                      · replace H := condT hc H
                        refine WpC.skip ?_
                        refine WpC.join (fun σ => ∃ kj16 : Nat, ∃ v191 : List UInt8, ∃ v192 : Int, ∃ v193 : Int, ∃ v194 : Int, ∃ v195 : Int, ∃ v196 : Int, ∃ v197 : Int, kj16 ≤ K ∧ Fspec_l2Term.j16 (Fspec_l2Term.l15 (Fspec_l2Term k) k15) kj16 v191 v192 v193 v194 v195 v196 v197 = some r ∧ σ = mkSt [(0, one (cS v191)), (1, one (cI v192)), (2, one (cI v193)), (8, one (cI v194)), (10, one (cI v195)), (13, one (cI v196)), (14, one (cI v197))] [] [] 0) ?_ ?_
                        · rintro _ ⟨kj16, v191, v192, v193, v194, v195, v196, v197, hkj16, H, rfl⟩
                          unfold Fspec_l2Term.j16 at H
                          refine WpC.regionL ?_
                          refine L.move hF rfl rfl rfl ?_
                          refine L.bin hF rfl rfl rfl rfl rfl rfl ?_
                          refine L.assign hF rfl rfl rfl ?_
                          refine L.nil ?_
                          exact ⟨k15, _, by omega, ⟨v191, v192, v193, v194, v195, v196, (IntKind.i64.wrap (v197 + (1 : Int))), by omega, H, rfl⟩, Le.mk [] hm rfl ⟨⟨_, rfl, rfl⟩, ⟨_, rfl, rfl⟩, ⟨_, rfl, rfl⟩, ⟨_, rfl, rfl⟩, ⟨_, rfl, rfl⟩, ⟨_, rfl, rfl⟩, ⟨_, rfl, rfl⟩, trivial⟩ trivial trivial⟩
                        · refine WpC.block ?_
                          refine WpC.seq ?_
                          refine WpC.regionL ?_
                          refine L.move hF rfl rfl rfl ?_
                          refine L.move hF rfl rfl rfl ?_
                          refine L.move hF rfl rfl rfl ?_
                          refine L.bin hF rfl rfl rfl rfl rfl rfl ?_
                          obtain ⟨r198, hr198, H⟩ := bindS H
                          refine L.call [false, false, false] [] [] 0 hF rfl rfl rfl ent230 rfl rfl rfl rfl rfl (ih  v183 v187 (IntKind.i64.wrap (v185 - (1 : Int))) r198 hr198) rfl ?_
                          refine L.move hF rfl rfl rfl ?_
                          refine L.extract hF rfl rfl rfl rfl ?_
                          refine L.extract hF rfl rfl rfl rfl ?_
                          refine L.assign hF rfl rfl rfl ?_
                          refine L.assign hF rfl rfl rfl ?_
                          refine L.nil ?_
                          refine WpC.seq ?_
                          refine WpC.seq ?_
                          refine WpC.regionL ?_
                          refine L.move hF rfl rfl rfl ?_
                          refine L.bin hF rfl rfl rfl rfl rfl rfl ?_
                          refine L.nil ?_
                          refine WpC.cond rfl (fun hc => ?_) (fun hc => ?_)
                          · replace H := condT hc H
                            refine WpC.seq ?_
                            refine WpC.regionL ?_
                            refine L.assign hF rfl rfl rfl ?_
                            refine L.assign hF rfl rfl rfl ?_
                            refine L.nil ?_
                            refine WpC.ret ?_
                            cases H
                            exact Leaves.ret rfl rfl rfl ⟨rfl, rfl⟩
                          · replace H := condF hc H
                            refine WpC.skip ?_
                            refine WpC.seq ?_
                            refine WpC.regionL ?_
                            refine L.move hF rfl rfl rfl ?_
                            refine L.move hF rfl rfl rfl ?_
                            refine L.bin hF rfl rfl rfl rfl rfl rfl ?_
                            refine L.assign hF rfl rfl rfl ?_
                            refine L.nil ?_
                            refine WpC.seq ?_
                            refine WpC.regionL ?_
                            refine L.move hF rfl rfl rfl ?_
                            refine L.move hF rfl rfl rfl ?_
                            refine L.bin hF rfl rfl rfl rfl rfl rfl ?_
                            refine L.nil ?_
                            refine WpC.cond rfl (fun hc => ?_) (fun hc => ?_)
                            · replace H := condT hc H
                              refine WpC.regionL ?_
                              refine L.move hF rfl rfl rfl ?_
                              refine L.assign hF rfl rfl rfl ?_
                              refine L.nil ?_
                              exact ⟨_, ⟨k15, v183, v184, v185, v186, (IntKind.i64.wrap (v187 + r198.1)), r198.2, v189, by omega, H, rfl⟩, Le.mk [] hm rfl ⟨⟨_, rfl, rfl⟩, ⟨_, rfl, rfl⟩, ⟨_, rfl, rfl⟩, ⟨_, rfl, rfl⟩, ⟨_, rfl, rfl⟩, ⟨_, rfl, rfl⟩, ⟨_, rfl, rfl⟩, trivial⟩ trivial trivial⟩
                            · replace H := condF hc H
                              refine WpC.skip ?_
                              exact ⟨_, ⟨k15, v183, v184, v185, v186, (IntKind.i64.wrap (v187 + r198.1)), v188, v189, by omega, H, rfl⟩, Le.mk [] hm rfl ⟨⟨_, rfl, rfl⟩, ⟨_, rfl, rfl⟩, ⟨_, rfl, rfl⟩, ⟨_, rfl, rfl⟩, ⟨_, rfl, rfl⟩, ⟨_, rfl, rfl⟩, ⟨_, rfl, rfl⟩, trivial⟩ trivial trivial⟩
                      · replace H := condF hc H
                        refine WpC.exit ?_
                        refine WpC.seq ?_
                        refine WpC.regionL ?_
                        refine L.move hF rfl rfl rfl ?_
                        refine L.move hF rfl rfl rfl ?_
                        refine L.bin hF rfl rfl rfl rfl rfl rfl ?_
                        refine L.move hF rfl rfl rfl ?_
                        refine L.bin hF rfl rfl rfl rfl rfl rfl ?_
                        refine L.assign hF rfl rfl rfl ?_
                        refine L.assign hF rfl rfl rfl ?_
                        refine L.nil ?_
                        refine WpC.ret ?_
                        cases H
                        exact Leaves.ret rfl rfl rfl ⟨rfl, rfl⟩
                · replace H := condF hc H
                  refine WpC.skip ?_
                  refine WpC.seq ?_
                  refine WpC.regionL ?_
                  refine L.assign hF rfl rfl rfl ?_
                  refine L.assign hF rfl rfl rfl ?_
                  refine L.nil ?_
                  refine WpC.ret ?_
                  cases H
                  exact Leaves.ret rfl rfl rfl ⟨rfl, rfl⟩
/-! ### Fspec_TermOk -/
def Fspec_TermOk (k : Nat) (a0 : List UInt8) : Option Bool := (Fspec_l2Term k a0 (0 : Int) (8 : Int)).bind fun r1 => cond (decide (r1.1 > (0 : Int))) (cond (r1.1 == (a0.length : Int)) (some (decide (r1.1 ≤ (900 : Int)))) (some false)) (some false)
theorem ent229 : Enters Try.prog 229 := ⟨Try.f229, Try.func229, rfl, by decide⟩
set_option maxHeartbeats 8000000 in
set_option maxRecDepth 100000 in
theorem Fspec_TermOk_gives (k : Nat) (a0 : List UInt8) (r : Bool) (H : Fspec_TermOk k a0 = some r) : Gives Try.prog 229 [V.one (cS a0)] [] [V.one (cL r)] [] := by
  refine Gives.intro Try.func229 rfl rfl rfl rfl ?_
  intro F hF hm
  unfold Fspec_TermOk at H
  obtain ⟨K, hK⟩ : ∃ K, k ≤ K := ⟨k, Nat.le_refl k⟩
  refine WpC.seq ?_
  refine WpC.regionL ?_
  refine L.assign hF rfl rfl rfl ?_
  refine L.nil ?_
  refine WpC.seq ?_
  refine WpC.regionL ?_
  refine L.move hF rfl rfl rfl ?_
  obtain ⟨r1, hr1, H⟩ := bindS H
  refine L.call [false, false, false] [] [] 1 hF rfl rfl rfl ent230 rfl rfl rfl rfl rfl (Fspec_l2Term_gives k  a0 (0 : Int) (8 : Int) r1 hr1) rfl ?_
  refine L.move hF rfl rfl rfl ?_
  refine L.extract hF rfl rfl rfl rfl ?_
  refine L.extract hF rfl rfl rfl rfl ?_
  refine L.assign hF rfl rfl rfl ?_
  refine L.assign hF rfl rfl rfl ?_
  refine L.nil ?_
  refine WpC.seq ?_
  refine WpC.regionL ?_
  refine L.move hF rfl rfl rfl ?_
  refine L.bin hF rfl rfl rfl rfl rfl rfl ?_
  refine L.move hF rfl rfl rfl ?_
  refine L.split (fun hc => ?_) (fun hc => ?_)
  · replace H := condT hc H
    refine L.move hF rfl rfl rfl ?_
    refine L.move hF rfl rfl rfl ?_
    refine L.lenS Try.underlying9 hF rfl rfl rfl ?_
    refine L.bin hF rfl rfl rfl rfl rfl rfl ?_
    refine L.pick hF rfl rfl rfl rfl ?_
    refine L.move hF rfl rfl rfl ?_
    refine L.split (fun hc => ?_) (fun hc => ?_)
    · replace H := condT hc H
      refine L.move hF rfl rfl rfl ?_
      refine L.bin hF rfl rfl rfl rfl rfl rfl ?_
      refine L.pick hF rfl rfl rfl rfl ?_
      refine L.assign hF rfl rfl rfl ?_
      refine L.nil ?_
      refine WpC.ret ?_
      cases H
      exact Leaves.ret rfl rfl rfl ⟨rfl, rfl⟩
    · replace H := condF hc H
      refine L.off hF rfl rfl ?_
      refine L.off hF rfl rfl ?_
      refine L.pick hF rfl rfl rfl rfl ?_
      refine L.assign hF rfl rfl rfl ?_
      refine L.nil ?_
      refine WpC.ret ?_
      cases H
      exact Leaves.ret rfl rfl rfl ⟨rfl, rfl⟩
  · replace H := condF hc H
    refine L.off hF rfl rfl ?_
    refine L.off hF rfl rfl ?_
    refine L.off hF rfl rfl ?_
    refine L.off hF rfl rfl ?_
    refine L.pick hF rfl rfl rfl rfl ?_
    refine L.move hF rfl rfl rfl ?_
    refine L.off hF rfl rfl ?_
    refine L.off hF rfl rfl ?_
    refine L.pick hF rfl rfl rfl rfl ?_
    refine L.assign hF rfl rfl rfl ?_
    refine L.nil ?_
    refine WpC.ret ?_
    cases H
    exact Leaves.ret rfl rfl rfl ⟨rfl, rfl⟩
/-! ### Fspec_Parts -/
def Fspec_Parts.l4 : Nat → (List UInt8) → (List (List UInt8)) → Int → Int → Int → Option (List (List UInt8) × Bool)
  | 0, _, _, _, _, _ => none
  | k4 + 1, v68, v69, v70, v71, v72 => cond (decide (v72 < v70)) ((Fspec_l2Term k4 v68 v71 (8 : Int)).bind fun r76 => (cut? v68 v71 (IntKind.i64.wrap (v71 + r76.1))).bind fun b77 => cond (decide ((2 * (v69.length + ([b77] : List (List UInt8)).length) + 192) * 16 ≤ 281474976710656)) ((Fspec_Parts.l4 k4) v68 (v69 ++ ([b77] : List (List UInt8))) v70 (IntKind.i64.wrap (v71 + r76.1)) (IntKind.i64.wrap (v72 + (1 : Int)))) none) (some (v69, true))
def Fspec_Parts.j2 (k : Nat) (v10 : List UInt8) (v11 : List (List UInt8)) (v12 : Bool) : Option (List (List UInt8) × Bool) := cond v12 (some (v11, false)) ((cut? v10 (1 : Int) (v10.length : Int)).bind fun b13 => (Fspec_ReadVar k b13).bind fun r14 => Fspec_Parts.l4 k v10 v11 r14.1 (IntKind.i64.wrap ((1 : Int) + r14.2)) (0 : Int))
def Fspec_Parts (k : Nat) (a0 : List UInt8) : Option (List (List UInt8) × Bool) := (Fspec_TermOk k a0).bind fun r79 => cond (!r79) (Fspec_Parts.j2 k a0 ([] : List (List UInt8)) true) ((at? a0 (0 : Int)).bind fun b80 => Fspec_Parts.j2 k a0 ([] : List (List UInt8)) (b80 != (108 : UInt8)))
theorem ent141 : Enters Try.prog 141 := ⟨Try.f141, Try.func141, rfl, by decide⟩
set_option maxHeartbeats 8000000 in
set_option maxRecDepth 100000 in
theorem Fspec_Parts_gives (k : Nat) (a0 : List UInt8) (r : List (List UInt8) × Bool) (H : Fspec_Parts k a0 = some r) : Gives Try.prog 141 [V.one (cS a0)] [] [V.one (Cell.ow 1 (List.map eS r.1)), V.one (cL r.2)] [] := by
  refine Gives.intro Try.func141 rfl rfl rfl rfl ?_
  intro F hF hm
  unfold Fspec_Parts at H
  obtain ⟨K, hK⟩ : ∃ K, k ≤ K := ⟨k, Nat.le_refl k⟩
  refine WpC.seq ?_
  refine WpC.regionL ?_
  refine L.assign hF rfl rfl rfl ?_
  refine L.assign hF rfl rfl rfl ?_
  refine L.nil ?_
  refine WpC.seq ?_
  refine WpC.regionL ?_
  refine L.buildSlice (e := eS) 1 ([] : List (List UInt8)) Try.underlying120 info9 rfl rfl rfl hF rfl rfl rfl rfl rfl rfl rfl rfl ?_
  refine L.assign hF rfl rfl rfl ?_
  refine L.nil ?_
  refine WpC.seq ?_
  refine WpC.join (fun σ => ∃ kj2 : Nat, ∃ v10 : List UInt8, ∃ v11 : List (List UInt8), ∃ v12 : Bool, kj2 ≤ K ∧ Fspec_Parts.j2 kj2 v10 v11 v12 = some r ∧ σ = mkSt [(0, one (cS v10)), (4, one (Cell.own 0)), (19, one (cL v12))] [(0, ⟨1, List.map eS v11⟩)] [] 1) ?_ ?_
  · rintro _ ⟨kj2, v10, v11, v12, hkj2, H, rfl⟩
    unfold Fspec_Parts.j2 at H
    refine WpC.cond rfl (fun hc => ?_) (fun hc => ?_)
    · replace H := condT hc H
      refine WpC.seq ?_
      refine WpC.regionL ?_
      refine L.move hF rfl rfl rfl ?_
      refine L.assign hF rfl rfl rfl ?_
      refine L.assign hF rfl rfl rfl ?_
      refine L.nil ?_
      refine WpC.ret ?_
      cases H
      exact Leaves.ret rfl rfl rfl ⟨rfl, rfl⟩
    · replace H := condF hc H
      refine WpC.skip ?_
      refine WpC.seq ?_
      refine WpC.regionL ?_
      refine L.move hF rfl rfl rfl ?_
      obtain ⟨b13, hb13, H⟩ := bindS H
      refine L.cutS Try.underlying9 hF rfl rfl rfl rfl rfl hb13 ?_
      obtain ⟨r14, hr14, H⟩ := bindS H
      refine L.call [false] [] [] 1 hF rfl rfl rfl ent216 rfl rfl rfl rfl rfl (Fspec_ReadVar_gives kj2  b13 r14 hr14) rfl ?_
      refine L.move hF rfl rfl rfl ?_
      refine L.extract hF rfl rfl rfl rfl ?_
      refine L.extract hF rfl rfl rfl rfl ?_
      refine L.assign hF rfl rfl rfl ?_
      refine L.assign hF rfl rfl rfl ?_
      refine L.nil ?_
      refine WpC.seq ?_
      refine WpC.regionL ?_
      refine L.move hF rfl rfl rfl ?_
      refine L.bin hF rfl rfl rfl rfl rfl rfl ?_
      refine L.assign hF rfl rfl rfl ?_
      refine L.nil ?_
      refine WpC.seq ?_
      refine WpC.seq ?_
      refine WpC.regionL ?_
      refine L.assign hF rfl rfl rfl ?_
      refine L.nil ?_
      refine WpC.block ?_
      refine WpC.loopL (P := Try.prog) (fun n σ => ∃ v68 : List UInt8, ∃ v69 : List (List UInt8), ∃ v70 : Int, ∃ v71 : Int, ∃ v72 : Int, n ≤ K ∧ Fspec_Parts.l4 n v68 v69 v70 v71 v72 = some r ∧ σ = mkSt [(0, one (cS v68)), (4, one (Cell.own 0)), (5, one (cI v70)), (7, one (cI v71)), (8, one (cI v72))] [(0, ⟨1, List.map eS v69⟩)] [] 1) kj2 ⟨_, ⟨v10, v11, r14.1, (IntKind.i64.wrap ((1 : Int) + r14.2)), (0 : Int), by omega, H, rfl⟩, Le.mk [(0, 0)] hm rfl ⟨⟨_, rfl, rfl⟩, ⟨_, rfl, rfl⟩, ⟨_, rfl, rfl⟩, ⟨_, rfl, rfl⟩, ⟨_, rfl, rfl⟩, trivial⟩ ⟨⟨_, rfl, rfl⟩, trivial⟩ trivial⟩ ?_
      clear H
      rintro k4 _ ⟨v68, v69, v70, v71, v72, hk4, H, rfl⟩
      cases k4 with
      | zero => cases H
      | succ k4 =>
        rw [Fspec_Parts.l4] at H
        refine WpC.seq ?_
        refine WpC.seq ?_
        refine WpC.regionL ?_
        refine L.move hF rfl rfl rfl ?_
        refine L.move hF rfl rfl rfl ?_
        refine L.bin hF rfl rfl rfl rfl rfl rfl ?_
        refine L.nil ?_
        refine WpC.cond rfl (fun hc => ?_) (fun hc => ?_)
        · replace H := condT hc H
          refine WpC.skip ?_
          refine WpC.seq ?_
          refine WpC.block ?_
          refine WpC.seq ?_
          refine WpC.regionL ?_
          refine L.move hF rfl rfl rfl ?_
          refine L.move hF rfl rfl rfl ?_
          obtain ⟨r76, hr76, H⟩ := bindS H
          refine L.call [false, false, false] [] [] 1 hF rfl rfl rfl ent230 rfl rfl rfl rfl rfl (Fspec_l2Term_gives k4  v68 v71 (8 : Int) r76 hr76) rfl ?_
          refine L.move hF rfl rfl rfl ?_
          refine L.extract hF rfl rfl rfl rfl ?_
          refine L.extract hF rfl rfl rfl rfl ?_
          refine L.assign hF rfl rfl rfl ?_
          refine L.assign hF rfl rfl rfl ?_
          refine L.nil ?_
          refine WpC.seq ?_
          refine WpC.regionL ?_
          refine L.move hF rfl rfl rfl ?_
          refine L.move hF rfl rfl rfl ?_
          refine L.move hF rfl rfl rfl ?_
          refine L.move hF rfl rfl rfl ?_
          refine L.move hF rfl rfl rfl ?_
          refine L.bin hF rfl rfl rfl rfl rfl rfl ?_
          obtain ⟨b77, hb77, H⟩ := bindS H
          refine L.cutS Try.underlying9 hF rfl rfl rfl rfl rfl hb77 ?_
          refine L.buildSlice (e := eS) 3 ([b77] : List (List UInt8)) Try.underlying120 info9 rfl rfl rfl hF rfl rfl rfl rfl rfl rfl rfl rfl ?_
          obtain ⟨h78, H⟩ := condG H
          refine L.append (xs := v69) (ys := ([b77] : List (List UInt8))) (e := eS) 4 Try.underlying120 info9 rfl rfl hF rfl rfl rfl rfl rfl rfl rfl rfl (fun _ => rfl) (fun _ _ h1 h2 => by cases h1; cases h2; rfl) ⟨_, Try.underlying120⟩ (of_decide_eq_true h78) rfl rfl ?_
          refine L.assign hF rfl rfl rfl ?_
          refine L.nil ?_
          refine WpC.regionL ?_
          refine L.move hF rfl rfl rfl ?_
          refine L.move hF rfl rfl rfl ?_
          refine L.bin hF rfl rfl rfl rfl rfl rfl ?_
          refine L.assign hF rfl rfl rfl ?_
          refine L.nil ?_
          refine WpC.regionL ?_
          refine L.move hF rfl rfl rfl ?_
          refine L.bin hF rfl rfl rfl rfl rfl rfl ?_
          refine L.assign hF rfl rfl rfl ?_
          refine L.nil ?_
          exact ⟨k4, _, by omega, ⟨v68, (v69 ++ ([b77] : List (List UInt8))), v70, (IntKind.i64.wrap (v71 + r76.1)), (IntKind.i64.wrap (v72 + (1 : Int))), by omega, H, rfl⟩, Le.mk [(0, 4)] hm rfl ⟨⟨_, rfl, rfl⟩, ⟨_, rfl, rfl⟩, ⟨_, rfl, rfl⟩, ⟨_, rfl, rfl⟩, ⟨_, rfl, rfl⟩, trivial⟩ ⟨⟨_, rfl, rfl⟩, trivial⟩ trivial⟩
        · replace H := condF hc H
          refine WpC.exit ?_
          refine WpC.seq ?_
          refine WpC.regionL ?_
          refine L.move hF rfl rfl rfl ?_
          refine L.assign hF rfl rfl rfl ?_
          refine L.assign hF rfl rfl rfl ?_
          refine L.nil ?_
          refine WpC.ret ?_
          cases H
          exact Leaves.ret rfl rfl rfl ⟨rfl, rfl⟩
  · refine WpC.regionL ?_
    refine L.move hF rfl rfl rfl ?_
    obtain ⟨r79, hr79, H⟩ := bindS H
    refine L.call [false] [] [] 2 hF rfl rfl rfl ent229 rfl rfl rfl rfl rfl (Fspec_TermOk_gives k  a0 r79 hr79) rfl ?_
    refine L.not hF rfl rfl rfl ?_
    refine L.move hF rfl rfl rfl ?_
    refine L.split (fun hc => ?_) (fun hc => ?_)
    · replace H := condT hc H
      refine L.off hF rfl rfl ?_
      refine L.off hF rfl rfl ?_
      refine L.off hF rfl rfl ?_
      refine L.pick hF rfl rfl rfl rfl ?_
      refine L.nil ?_
      exact ⟨_, ⟨k, a0, ([] : List (List UInt8)), true, by omega, H, rfl⟩, Le.mk [(0, 1)] hm rfl ⟨⟨_, rfl, rfl⟩, ⟨_, rfl, rfl⟩, ⟨_, rfl, rfl⟩, trivial⟩ ⟨⟨_, rfl, rfl⟩, trivial⟩ trivial⟩
    · replace H := condF hc H
      refine L.move hF rfl rfl rfl ?_
      obtain ⟨b80, hb80, H⟩ := bindS H
      refine L.idxS Try.underlying9 hF rfl rfl rfl rfl hb80 ?_
      refine L.binB (a := b80) (b := (108 : UInt8)) hF rfl rfl rfl rfl rfl ?_
      refine L.pick hF rfl rfl rfl rfl ?_
      refine L.nil ?_
      exact ⟨_, ⟨k, a0, ([] : List (List UInt8)), (b80 != (108 : UInt8)), by omega, H, rfl⟩, Le.mk [(0, 1)] hm rfl ⟨⟨_, rfl, rfl⟩, ⟨_, rfl, rfl⟩, ⟨_, rfl, rfl⟩, trivial⟩ ⟨⟨_, rfl, rfl⟩, trivial⟩ trivial⟩
/-! ### Fspec_ReadAtom -/
def Fspec_ReadAtom (k : Nat) (a0 : List UInt8) : Option (List UInt8 × Bool) := (Fspec_TermOk k a0).bind fun r7 => cond (!r7) (some (([] : List UInt8), false)) ((at? a0 (0 : Int)).bind fun b8 => cond (b8 != (97 : UInt8)) (some (([] : List UInt8), false)) ((cut? a0 (1 : Int) (a0.length : Int)).bind fun b9 => (Fspec_ReadVar k b9).bind fun r10 => (cut? a0 (IntKind.i64.wrap ((1 : Int) + r10.2)) (a0.length : Int)).bind fun b11 => some (b11, true)))
theorem ent269 : Enters Try.prog 269 := ⟨Try.f269, Try.func269, rfl, by decide⟩
set_option maxHeartbeats 8000000 in
set_option maxRecDepth 100000 in
theorem Fspec_ReadAtom_gives (k : Nat) (a0 : List UInt8) (r : List UInt8 × Bool) (H : Fspec_ReadAtom k a0 = some r) : Gives Try.prog 269 [V.one (cS a0)] [] [V.one (cS r.1), V.one (cL r.2)] [] := by
  refine Gives.intro Try.func269 rfl rfl rfl rfl ?_
  intro F hF hm
  unfold Fspec_ReadAtom at H
  obtain ⟨K, hK⟩ : ∃ K, k ≤ K := ⟨k, Nat.le_refl k⟩
  refine WpC.seq ?_
  refine WpC.regionL ?_
  refine L.assign hF rfl rfl rfl ?_
  refine L.assign hF rfl rfl rfl ?_
  refine L.nil ?_
  refine WpC.seq ?_
  refine WpC.seq ?_
  refine WpC.regionL ?_
  refine L.move hF rfl rfl rfl ?_
  obtain ⟨r7, hr7, H⟩ := bindS H
  refine L.call [false] [] [] 1 hF rfl rfl rfl ent229 rfl rfl rfl rfl rfl (Fspec_TermOk_gives k  a0 r7 hr7) rfl ?_
  refine L.not hF rfl rfl rfl ?_
  refine L.move hF rfl rfl rfl ?_
  refine L.split (fun hc => ?_) (fun hc => ?_)
  · replace H := condT hc H
    refine L.off hF rfl rfl ?_
    refine L.off hF rfl rfl ?_
    refine L.off hF rfl rfl ?_
    refine L.pick hF rfl rfl rfl rfl ?_
    refine L.nil ?_
    refine WpC.cond rfl (fun _ => ?_) (fun hc => by cases hc)
    refine WpC.seq ?_
    refine WpC.regionL ?_
    refine L.assign hF rfl rfl rfl ?_
    refine L.assign hF rfl rfl rfl ?_
    refine L.nil ?_
    refine WpC.ret ?_
    cases H
    exact Leaves.ret rfl rfl rfl ⟨rfl, rfl⟩
  · replace H := condF hc H
    refine L.move hF rfl rfl rfl ?_
    obtain ⟨b8, hb8, H⟩ := bindS H
    refine L.idxS Try.underlying9 hF rfl rfl rfl rfl hb8 ?_
    refine L.binB (a := b8) (b := (97 : UInt8)) hF rfl rfl rfl rfl rfl ?_
    refine L.pick hF rfl rfl rfl rfl ?_
    refine L.nil ?_
    refine WpC.cond rfl (fun hc => ?_) (fun hc => ?_)
    · replace H := condT hc H
      refine WpC.seq ?_
      refine WpC.regionL ?_
      refine L.assign hF rfl rfl rfl ?_
      refine L.assign hF rfl rfl rfl ?_
      refine L.nil ?_
      refine WpC.ret ?_
      cases H
      exact Leaves.ret rfl rfl rfl ⟨rfl, rfl⟩
    · replace H := condF hc H
      refine WpC.skip ?_
      refine WpC.seq ?_
      refine WpC.regionL ?_
      refine L.move hF rfl rfl rfl ?_
      obtain ⟨b9, hb9, H⟩ := bindS H
      refine L.cutS Try.underlying9 hF rfl rfl rfl rfl rfl hb9 ?_
      obtain ⟨r10, hr10, H⟩ := bindS H
      refine L.call [false] [] [] 2 hF rfl rfl rfl ent216 rfl rfl rfl rfl rfl (Fspec_ReadVar_gives k  b9 r10 hr10) rfl ?_
      refine L.move hF rfl rfl rfl ?_
      refine L.extract hF rfl rfl rfl rfl ?_
      refine L.extract hF rfl rfl rfl rfl ?_
      refine L.assign hF rfl rfl rfl ?_
      refine L.assign hF rfl rfl rfl ?_
      refine L.nil ?_
      refine WpC.seq ?_
      refine WpC.regionL ?_
      refine L.move hF rfl rfl rfl ?_
      refine L.move hF rfl rfl rfl ?_
      refine L.bin hF rfl rfl rfl rfl rfl rfl ?_
      obtain ⟨b11, hb11, H⟩ := bindS H
      refine L.cutS Try.underlying9 hF rfl rfl rfl rfl rfl hb11 ?_
      refine L.assign hF rfl rfl rfl ?_
      refine L.assign hF rfl rfl rfl ?_
      refine L.nil ?_
      refine WpC.ret ?_
      cases H
      exact Leaves.ret rfl rfl rfl ⟨rfl, rfl⟩
/-! ### Fspec_ReadNum -/
def Fspec_ReadNum (k : Nat) (a0 : List UInt8) : Option (Int × Bool) := (Fspec_ReadAtom k a0).bind fun r1 => (Fspec_ReadVar k r1.1).bind fun r2 => cond (!r1.2) (some ((0 : Int), false)) (cond (r2.2 == (0 : Int)) (some ((0 : Int), false)) (cond (r2.2 != (r1.1.length : Int)) (some ((0 : Int), false)) (some (r2.1, true))))
theorem ent224 : Enters Try.prog 224 := ⟨Try.f224, Try.func224, rfl, by decide⟩
set_option maxHeartbeats 8000000 in
set_option maxRecDepth 100000 in
theorem Fspec_ReadNum_gives (k : Nat) (a0 : List UInt8) (r : Int × Bool) (H : Fspec_ReadNum k a0 = some r) : Gives Try.prog 224 [V.one (cS a0)] [] [V.one (cI r.1), V.one (cL r.2)] [] := by
  refine Gives.intro Try.func224 rfl rfl rfl rfl ?_
  intro F hF hm
  unfold Fspec_ReadNum at H
  obtain ⟨K, hK⟩ : ∃ K, k ≤ K := ⟨k, Nat.le_refl k⟩
  refine WpC.seq ?_
  refine WpC.regionL ?_
  refine L.assign hF rfl rfl rfl ?_
  refine L.assign hF rfl rfl rfl ?_
  refine L.nil ?_
  refine WpC.seq ?_
  refine WpC.regionL ?_
  refine L.move hF rfl rfl rfl ?_
  obtain ⟨r1, hr1, H⟩ := bindS H
  refine L.call [false] [] [] 1 hF rfl rfl rfl ent269 rfl rfl rfl rfl rfl (Fspec_ReadAtom_gives k  a0 r1 hr1) rfl ?_
  refine L.move hF rfl rfl rfl ?_
  refine L.extract hF rfl rfl rfl rfl ?_
  refine L.extract hF rfl rfl rfl rfl ?_
  refine L.assign hF rfl rfl rfl ?_
  refine L.assign hF rfl rfl rfl ?_
  refine L.nil ?_
  refine WpC.seq ?_
  refine WpC.regionL ?_
  refine L.move hF rfl rfl rfl ?_
  obtain ⟨r2, hr2, H⟩ := bindS H
  refine L.call [false] [] [] 3 hF rfl rfl rfl ent216 rfl rfl rfl rfl rfl (Fspec_ReadVar_gives k  r1.1 r2 hr2) rfl ?_
  refine L.move hF rfl rfl rfl ?_
  refine L.extract hF rfl rfl rfl rfl ?_
  refine L.extract hF rfl rfl rfl rfl ?_
  refine L.assign hF rfl rfl rfl ?_
  refine L.assign hF rfl rfl rfl ?_
  refine L.nil ?_
  refine WpC.seq ?_
  refine WpC.seq ?_
  refine WpC.regionL ?_
  refine L.move hF rfl rfl rfl ?_
  refine L.not hF rfl rfl rfl ?_
  refine L.move hF rfl rfl rfl ?_
  refine L.split (fun hc => ?_) (fun hc => ?_)
  · replace H := condT hc H
    refine L.off hF rfl rfl ?_
    refine L.off hF rfl rfl ?_
    refine L.pick hF rfl rfl rfl rfl ?_
    refine L.move hF rfl rfl rfl ?_
    refine L.off hF rfl rfl ?_
    refine L.off hF rfl rfl ?_
    refine L.off hF rfl rfl ?_
    refine L.off hF rfl rfl ?_
    refine L.pick hF rfl rfl rfl rfl ?_
    refine L.nil ?_
    refine WpC.cond rfl (fun _ => ?_) (fun hc => by cases hc)
    refine WpC.seq ?_
    refine WpC.regionL ?_
    refine L.assign hF rfl rfl rfl ?_
    refine L.assign hF rfl rfl rfl ?_
    refine L.nil ?_
    refine WpC.ret ?_
    cases H
    exact Leaves.ret rfl rfl rfl ⟨rfl, rfl⟩
  · replace H := condF hc H
    refine L.move hF rfl rfl rfl ?_
    refine L.bin hF rfl rfl rfl rfl rfl rfl ?_
    refine L.pick hF rfl rfl rfl rfl ?_
    refine L.move hF rfl rfl rfl ?_
    refine L.split (fun hc => ?_) (fun hc => ?_)
    · replace H := condT hc H
      refine L.off hF rfl rfl ?_
      refine L.off hF rfl rfl ?_
      refine L.off hF rfl rfl ?_
      refine L.off hF rfl rfl ?_
      refine L.pick hF rfl rfl rfl rfl ?_
      refine L.nil ?_
      refine WpC.cond rfl (fun _ => ?_) (fun hc => by cases hc)
      refine WpC.seq ?_
      refine WpC.regionL ?_
      refine L.assign hF rfl rfl rfl ?_
      refine L.assign hF rfl rfl rfl ?_
      refine L.nil ?_
      refine WpC.ret ?_
      cases H
      exact Leaves.ret rfl rfl rfl ⟨rfl, rfl⟩
    · replace H := condF hc H
      refine L.move hF rfl rfl rfl ?_
      refine L.move hF rfl rfl rfl ?_
      refine L.lenS Try.underlying9 hF rfl rfl rfl ?_
      refine L.bin hF rfl rfl rfl rfl rfl rfl ?_
      refine L.pick hF rfl rfl rfl rfl ?_
      refine L.nil ?_
      refine WpC.cond rfl (fun hc => ?_) (fun hc => ?_)
      · replace H := condT hc H
        refine WpC.seq ?_
        refine WpC.regionL ?_
        refine L.assign hF rfl rfl rfl ?_
        refine L.assign hF rfl rfl rfl ?_
        refine L.nil ?_
        refine WpC.ret ?_
        cases H
        exact Leaves.ret rfl rfl rfl ⟨rfl, rfl⟩
      · replace H := condF hc H
        refine WpC.skip ?_
        refine WpC.seq ?_
        refine WpC.regionL ?_
        refine L.move hF rfl rfl rfl ?_
        refine L.assign hF rfl rfl rfl ?_
        refine L.assign hF rfl rfl rfl ?_
        refine L.nil ?_
        refine WpC.ret ?_
        cases H
        exact Leaves.ret rfl rfl rfl ⟨rfl, rfl⟩
/-! ### Fspec_ReadNums -/
def Fspec_ReadNums.j14 (cl12 : (List Int) → (List (List UInt8)) → Bool → Int → Option (List Int × Bool)) (k : Nat) (v104 : List Int) (v105 : List (List UInt8)) (v106 : Bool) (v107 : Int) (v108 : Int) : Option (List Int × Bool) := cond (decide ((2 * (v104.length + ([v108] : List Int).length) + 192) * 8 ≤ 281474976710656)) (cl12 (v104 ++ ([v108] : List Int)) v105 v106 (IntKind.i64.wrap (v107 + (1 : Int)))) none
def Fspec_ReadNums.l12 : Nat → (List Int) → (List (List UInt8)) → Bool → Int → Option (List Int × Bool)
  | 0, _, _, _, _ => none
  | k12 + 1, v90, v91, v92, v93 => cond (decide (v93 < (v91.length : Int))) ((at? v91 v93).bind fun b102 => (Fspec_ReadNum k12 b102).bind fun r103 => cond v92 (Fspec_ReadNums.j14 (Fspec_ReadNums.l12 k12) k12 v90 v91 r103.2 v93 r103.1) (Fspec_ReadNums.j14 (Fspec_ReadNums.l12 k12) k12 v90 v91 false v93 r103.1)) (cond (!v92) (some (([] : List Int), false)) (some (v90, true)))
def Fspec_ReadNums (k : Nat) (a0 : List UInt8) : Option (List Int × Bool) := (Fspec_Parts k a0).bind fun r1 => Fspec_ReadNums.l12 k ([] : List Int) r1.1 r1.2 (0 : Int)
theorem ent134 : Enters Try.prog 134 := ⟨Try.f134, Try.func134, rfl, by decide⟩
set_option maxHeartbeats 8000000 in
set_option maxRecDepth 100000 in
theorem Fspec_ReadNums_gives (k : Nat) (a0 : List UInt8) (r : List Int × Bool) (H : Fspec_ReadNums k a0 = some r) : Gives Try.prog 134 [V.one (cS a0)] [] [V.one (Cell.ow 1 (List.map eI r.1)), V.one (cL r.2)] [] := by
  refine Gives.intro Try.func134 rfl rfl rfl rfl ?_
  intro F hF hm
  unfold Fspec_ReadNums at H
  obtain ⟨K, hK⟩ : ∃ K, k ≤ K := ⟨k, Nat.le_refl k⟩
  refine WpC.seq ?_
  refine WpC.regionL ?_
  refine L.assign hF rfl rfl rfl ?_
  refine L.assign hF rfl rfl rfl ?_
  refine L.nil ?_
  refine WpC.seq ?_
  refine WpC.regionL ?_
  refine L.buildSlice (e := eI) 1 ([] : List Int) Try.underlying24 info3 rfl rfl rfl hF rfl rfl rfl rfl rfl rfl rfl rfl ?_
  refine L.assign hF rfl rfl rfl ?_
  refine L.nil ?_
  refine WpC.seq ?_
  refine WpC.regionL ?_
  refine L.move hF rfl rfl rfl ?_
  obtain ⟨r1, hr1, H⟩ := bindS H
  refine L.call [false] [] [] 2 hF rfl rfl rfl ent141 rfl rfl rfl rfl rfl (Fspec_Parts_gives k  a0 r1 hr1) rfl ?_
  refine L.move hF rfl rfl rfl ?_
  refine L.extract hF rfl rfl rfl rfl ?_
  refine L.extract hF rfl rfl rfl rfl ?_
  refine L.assign hF rfl rfl rfl ?_
  refine L.assign hF rfl rfl rfl ?_
  refine L.nil ?_
  refine WpC.seq ?_
  refine WpC.seq ?_
  refine WpC.regionL ?_
  refine L.assign hF rfl rfl rfl ?_
  refine L.nil ?_
  refine WpC.block ?_
  refine WpC.loopL (P := Try.prog) (fun n σ => ∃ v90 : List Int, ∃ v91 : List (List UInt8), ∃ v92 : Bool, ∃ v93 : Int, n ≤ K ∧ Fspec_ReadNums.l12 n v90 v91 v92 v93 = some r ∧ σ = mkSt [(4, one (Cell.own 0)), (5, one (Cell.own 1)), (6, one (cL v92)), (7, one (cI v93))] [(0, ⟨1, List.map eI v90⟩), (1, ⟨1, List.map eS v91⟩)] [] 2) k ⟨_, ⟨([] : List Int), r1.1, r1.2, (0 : Int), by omega, H, rfl⟩, Le.mk [(0, 1), (1, 2)] hm rfl ⟨⟨_, rfl, rfl⟩, ⟨_, rfl, rfl⟩, ⟨_, rfl, rfl⟩, ⟨_, rfl, rfl⟩, trivial⟩ ⟨⟨_, rfl, rfl⟩, ⟨_, rfl, rfl⟩, trivial⟩ trivial⟩ ?_
  clear H
  rintro k12 _ ⟨v90, v91, v92, v93, hk12, H, rfl⟩
  cases k12 with
  | zero => cases H
  | succ k12 =>
    rw [Fspec_ReadNums.l12] at H
    refine WpC.seq ?_
    refine WpC.seq ?_
    refine WpC.regionL ?_
    refine L.move hF rfl rfl rfl ?_
    refine L.move hF rfl rfl rfl ?_
    refine L.lenR (xs := v91) (e := eS) Try.underlying120 hF rfl rfl rfl rfl ?_
    refine L.bin hF rfl rfl rfl rfl rfl rfl ?_
    refine L.nil ?_
    refine WpC.cond rfl (fun hc => ?_) (fun hc => ?_)
    · replace H := condT hc H
      refine WpC.skip ?_
      refine WpC.seq ?_
      refine WpC.block ?_
      refine WpC.seq ?_
      refine WpC.regionL ?_
      refine L.move hF rfl rfl rfl ?_
      refine L.move hF rfl rfl rfl ?_
      obtain ⟨b102, hb102, H⟩ := bindS H
      refine L.idxR (xs := v91) (e := eS) Try.underlying120 info9 hF rfl rfl rfl rfl rfl hb102 rfl rfl ?_
      refine L.loadEp (xs := v91) (e := eS) shape9 hF rfl rfl rfl rfl (at?_get hb102).2 rfl rfl ?_
      obtain ⟨r103, hr103, H⟩ := bindS H
      refine L.call [false] [] [] 2 hF rfl rfl rfl ent224 rfl rfl rfl rfl rfl (Fspec_ReadNum_gives k12  b102 r103 hr103) rfl ?_
      refine L.move hF rfl rfl rfl ?_
      refine L.extract hF rfl rfl rfl rfl ?_
      refine L.extract hF rfl rfl rfl rfl ?_
      refine L.assign hF rfl rfl rfl ?_
      refine L.assign hF rfl rfl rfl ?_
      refine L.nil ?_
      refine WpC.join (fun σ => ∃ kj14 : Nat, ∃ v104 : List Int, ∃ v105 : List (List UInt8), ∃ v106 : Bool, ∃ v107 : Int, ∃ v108 : Int, kj14 ≤ K ∧ Fspec_ReadNums.j14 (Fspec_ReadNums.l12 k12) kj14 v104 v105 v106 v107 v108 = some r ∧ σ = mkSt [(4, one (Cell.own 0)), (5, one (Cell.own 1)), (6, one (cL v106)), (7, one (cI v107)), (8, one (cI v108))] [(0, ⟨1, List.map eI v104⟩), (1, ⟨1, List.map eS v105⟩)] [] 2) ?_ ?_
      · rintro _ ⟨kj14, v104, v105, v106, v107, v108, hkj14, H, rfl⟩
        unfold Fspec_ReadNums.j14 at H
        refine WpC.regionL ?_
        refine L.move hF rfl rfl rfl ?_
        refine L.move hF rfl rfl rfl ?_
        refine L.buildSlice (e := eI) 2 ([v108] : List Int) Try.underlying24 info3 rfl rfl rfl hF rfl rfl rfl rfl rfl rfl rfl rfl ?_
        obtain ⟨h109, H⟩ := condG H
        refine L.append (xs := v104) (ys := ([v108] : List Int)) (e := eI) 3 Try.underlying24 info3 rfl rfl hF rfl rfl rfl rfl rfl rfl rfl rfl (fun _ => rfl) (fun _ _ h1 h2 => by cases h1; cases h2; rfl) ⟨_, Try.underlying24⟩ (of_decide_eq_true h109) rfl rfl ?_
        refine L.assign hF rfl rfl rfl ?_
        refine L.nil ?_
        refine WpC.regionL ?_
        refine L.move hF rfl rfl rfl ?_
        refine L.bin hF rfl rfl rfl rfl rfl rfl ?_
        refine L.assign hF rfl rfl rfl ?_
        refine L.nil ?_
        exact ⟨k12, _, by omega, ⟨(v104 ++ ([v108] : List Int)), v105, v106, (IntKind.i64.wrap (v107 + (1 : Int))), by omega, H, rfl⟩, Le.mk [(0, 3), (1, 1)] hm rfl ⟨⟨_, rfl, rfl⟩, ⟨_, rfl, rfl⟩, ⟨_, rfl, rfl⟩, ⟨_, rfl, rfl⟩, trivial⟩ ⟨⟨_, rfl, rfl⟩, ⟨_, rfl, rfl⟩, trivial⟩ trivial⟩
      · refine WpC.regionL ?_
        refine L.move hF rfl rfl rfl ?_
        refine L.move hF rfl rfl rfl ?_
        refine L.split (fun hc => ?_) (fun hc => ?_)
        · replace H := condT hc H
          refine L.move hF rfl rfl rfl ?_
          refine L.pick hF rfl rfl rfl rfl ?_
          refine L.assign hF rfl rfl rfl ?_
          refine L.nil ?_
          exact ⟨_, ⟨k12, v90, v91, r103.2, v93, r103.1, by omega, H, rfl⟩, Le.mk [(0, 0), (1, 1)] hm rfl ⟨⟨_, rfl, rfl⟩, ⟨_, rfl, rfl⟩, ⟨_, rfl, rfl⟩, ⟨_, rfl, rfl⟩, ⟨_, rfl, rfl⟩, trivial⟩ ⟨⟨_, rfl, rfl⟩, ⟨_, rfl, rfl⟩, trivial⟩ trivial⟩
        · replace H := condF hc H
          refine L.off hF rfl rfl ?_
          refine L.pick hF rfl rfl rfl rfl ?_
          refine L.assign hF rfl rfl rfl ?_
          refine L.nil ?_
          exact ⟨_, ⟨k12, v90, v91, false, v93, r103.1, by omega, H, rfl⟩, Le.mk [(0, 0), (1, 1)] hm rfl ⟨⟨_, rfl, rfl⟩, ⟨_, rfl, rfl⟩, ⟨_, rfl, rfl⟩, ⟨_, rfl, rfl⟩, ⟨_, rfl, rfl⟩, trivial⟩ ⟨⟨_, rfl, rfl⟩, ⟨_, rfl, rfl⟩, trivial⟩ trivial⟩
    · replace H := condF hc H
      refine WpC.exit ?_
      refine WpC.seq ?_
      refine WpC.seq ?_
      refine WpC.regionL ?_
      refine L.move hF rfl rfl rfl ?_
      refine L.not hF rfl rfl rfl ?_
      refine L.nil ?_
      refine WpC.cond rfl (fun hc => ?_) (fun hc => ?_)
      · replace H := condT hc H
        refine WpC.seq ?_
        refine WpC.regionL ?_
        refine L.buildSlice (e := eI) 2 ([] : List Int) Try.underlying24 info3 rfl rfl rfl hF rfl rfl rfl rfl rfl rfl rfl rfl ?_
        refine L.assign hF rfl rfl rfl ?_
        refine L.assign hF rfl rfl rfl ?_
        refine L.nil ?_
        refine WpC.ret ?_
        cases H
        exact Leaves.ret rfl rfl rfl ⟨rfl, rfl⟩
      · replace H := condF hc H
        refine WpC.skip ?_
        refine WpC.seq ?_
        refine WpC.regionL ?_
        refine L.move hF rfl rfl rfl ?_
        refine L.assign hF rfl rfl rfl ?_
        refine L.assign hF rfl rfl rfl ?_
        refine L.nil ?_
        refine WpC.ret ?_
        cases H
        exact Leaves.ret rfl rfl rfl ⟨rfl, rfl⟩
/-! ### Fspec_TimesOk -/
def Fspec_TimesOk (k : Nat) (a0 : Timpl_Times) : Option Bool := cond (decide (a0.Auth ≥ (0 : Int))) (cond (decide (a0.Start ≥ a0.Auth)) (cond (decide (a0.End ≥ a0.Start)) (cond (decide (a0.Renew ≥ a0.End)) (some (decide (a0.Renew ≤ (100000 : Int)))) (some false)) (some false)) (some false)) (some false)
theorem ent65 : Enters Try.prog 65 := ⟨Try.f65, Try.func65, rfl, by decide⟩
set_option maxHeartbeats 8000000 in
set_option maxRecDepth 100000 in
theorem Fspec_TimesOk_gives (k : Nat) (a0 : Timpl_Times) (r : Bool) (H : Fspec_TimesOk k a0 = some r) : Gives Try.prog 65 [V.agg [cI a0.Auth, cI a0.Start, cI a0.End, cI a0.Renew]] [] [V.one (cL r)] [] := by
  refine Gives.intro Try.func65 rfl rfl rfl rfl ?_
  intro F hF hm
  unfold Fspec_TimesOk at H
  obtain ⟨K, hK⟩ : ∃ K, k ≤ K := ⟨k, Nat.le_refl k⟩
  refine WpC.seq ?_
  refine WpC.regionL ?_
  refine L.box 4 hF rfl rfl rfl rfl ?_
  refine L.assign hF rfl rfl rfl ?_
  refine L.nil ?_
  refine WpC.seq ?_
  refine WpC.regionL ?_
  refine L.fieldAddr Try.underlying65 rfl info3 rfl hF rfl rfl rfl rfl rfl ?_
  refine L.loadPtr shape3 hF rfl rfl rfl rfl rfl rfl ?_
  refine L.bin hF rfl rfl rfl rfl rfl rfl ?_
  refine L.move hF rfl rfl rfl ?_
  refine L.split (fun hc => ?_) (fun hc => ?_)
  · replace H := condT hc H
    refine L.fieldAddr Try.underlying65 rfl info3 rfl hF rfl rfl rfl rfl rfl ?_
    refine L.loadPtr shape3 hF rfl rfl rfl rfl rfl rfl ?_
    refine L.fieldAddr Try.underlying65 rfl info3 rfl hF rfl rfl rfl rfl rfl ?_
    refine L.loadPtr shape3 hF rfl rfl rfl rfl rfl rfl ?_
    refine L.bin hF rfl rfl rfl rfl rfl rfl ?_
    refine L.pick hF rfl rfl rfl rfl ?_
    refine L.move hF rfl rfl rfl ?_
    refine L.split (fun hc => ?_) (fun hc => ?_)
    · replace H := condT hc H
      refine L.fieldAddr Try.underlying65 rfl info3 rfl hF rfl rfl rfl rfl rfl ?_
      refine L.loadPtr shape3 hF rfl rfl rfl rfl rfl rfl ?_
      refine L.fieldAddr Try.underlying65 rfl info3 rfl hF rfl rfl rfl rfl rfl ?_
      refine L.loadPtr shape3 hF rfl rfl rfl rfl rfl rfl ?_
      refine L.bin hF rfl rfl rfl rfl rfl rfl ?_
      refine L.pick hF rfl rfl rfl rfl ?_
      refine L.move hF rfl rfl rfl ?_
      refine L.split (fun hc => ?_) (fun hc => ?_)
      · replace H := condT hc H
        refine L.fieldAddr Try.underlying65 rfl info3 rfl hF rfl rfl rfl rfl rfl ?_
        refine L.loadPtr shape3 hF rfl rfl rfl rfl rfl rfl ?_
        refine L.fieldAddr Try.underlying65 rfl info3 rfl hF rfl rfl rfl rfl rfl ?_
        refine L.loadPtr shape3 hF rfl rfl rfl rfl rfl rfl ?_
        refine L.bin hF rfl rfl rfl rfl rfl rfl ?_
        refine L.pick hF rfl rfl rfl rfl ?_
        refine L.move hF rfl rfl rfl ?_
        refine L.split (fun hc => ?_) (fun hc => ?_)
        · replace H := condT hc H
          refine L.fieldAddr Try.underlying65 rfl info3 rfl hF rfl rfl rfl rfl rfl ?_
          refine L.loadPtr shape3 hF rfl rfl rfl rfl rfl rfl ?_
          refine L.bin hF rfl rfl rfl rfl rfl rfl ?_
          refine L.pick hF rfl rfl rfl rfl ?_
          refine L.assign hF rfl rfl rfl ?_
          refine L.nil ?_
          refine WpC.ret ?_
          cases H
          exact Leaves.ret rfl rfl rfl ⟨rfl, rfl⟩
        · replace H := condF hc H
          refine L.off hF rfl rfl ?_
          refine L.off hF rfl rfl ?_
          refine L.off hF rfl rfl ?_
          refine L.pick hF rfl rfl rfl rfl ?_
          refine L.assign hF rfl rfl rfl ?_
          refine L.nil ?_
          refine WpC.ret ?_
          cases H
          exact Leaves.ret rfl rfl rfl ⟨rfl, rfl⟩
      · replace H := condF hc H
        refine L.off hF rfl rfl ?_
        refine L.off hF rfl rfl ?_
        refine L.off hF rfl rfl ?_
        refine L.off hF rfl rfl ?_
        refine L.off hF rfl rfl ?_
        refine L.pick hF rfl rfl rfl rfl ?_
        refine L.move hF rfl rfl rfl ?_
        refine L.off hF rfl rfl ?_
        refine L.off hF rfl rfl ?_
        refine L.off hF rfl rfl ?_
        refine L.pick hF rfl rfl rfl rfl ?_
        refine L.assign hF rfl rfl rfl ?_
        refine L.nil ?_
        refine WpC.ret ?_
        cases H
        exact Leaves.ret rfl rfl rfl ⟨rfl, rfl⟩
    · replace H := condF hc H
      refine L.off hF rfl rfl ?_
      refine L.off hF rfl rfl ?_
      refine L.off hF rfl rfl ?_
      refine L.off hF rfl rfl ?_
      refine L.off hF rfl rfl ?_
      refine L.pick hF rfl rfl rfl rfl ?_
      refine L.move hF rfl rfl rfl ?_
      refine L.off hF rfl rfl ?_
      refine L.off hF rfl rfl ?_
      refine L.off hF rfl rfl ?_
      refine L.off hF rfl rfl ?_
      refine L.off hF rfl rfl ?_
      refine L.pick hF rfl rfl rfl rfl ?_
      refine L.move hF rfl rfl rfl ?_
      refine L.off hF rfl rfl ?_
      refine L.off hF rfl rfl ?_
      refine L.off hF rfl rfl ?_
      refine L.pick hF rfl rfl rfl rfl ?_
      refine L.assign hF rfl rfl rfl ?_
      refine L.nil ?_
      refine WpC.ret ?_
      cases H
      exact Leaves.ret rfl rfl rfl ⟨rfl, rfl⟩
  · replace H := condF hc H
    refine L.off hF rfl rfl ?_
    refine L.off hF rfl rfl ?_
    refine L.off hF rfl rfl ?_
    refine L.off hF rfl rfl ?_
    refine L.off hF rfl rfl ?_
    refine L.pick hF rfl rfl rfl rfl ?_
    refine L.move hF rfl rfl rfl ?_
    refine L.off hF rfl rfl ?_
    refine L.off hF rfl rfl ?_
    refine L.off hF rfl rfl ?_
    refine L.off hF rfl rfl ?_
    refine L.off hF rfl rfl ?_
    refine L.pick hF rfl rfl rfl rfl ?_
    refine L.move hF rfl rfl rfl ?_
    refine L.off hF rfl rfl ?_
    refine L.off hF rfl rfl ?_
    refine L.off hF rfl rfl ?_
    refine L.off hF rfl rfl ?_
    refine L.off hF rfl rfl ?_
    refine L.pick hF rfl rfl rfl rfl ?_
    refine L.move hF rfl rfl rfl ?_
    refine L.off hF rfl rfl ?_
    refine L.off hF rfl rfl ?_
    refine L.off hF rfl rfl ?_
    refine L.pick hF rfl rfl rfl rfl ?_
    refine L.assign hF rfl rfl rfl ?_
    refine L.nil ?_
    refine WpC.ret ?_
    cases H
    exact Leaves.ret rfl rfl rfl ⟨rfl, rfl⟩
/-! ### Fspec_l2Ok -/
def Fspec_l2Ok (k : Nat) (a0 : List UInt8) : Option (List UInt8) := (Fspec_TermOk k a0).bind fun r2 => cond r2 (some a0) (some ([] : List UInt8))
theorem ent292 : Enters Try.prog 292 := ⟨Try.f292, Try.func292, rfl, by decide⟩
set_option maxHeartbeats 8000000 in
set_option maxRecDepth 100000 in
theorem Fspec_l2Ok_gives (k : Nat) (a0 : List UInt8) (r : List UInt8) (H : Fspec_l2Ok k a0 = some r) : Gives Try.prog 292 [V.one (cS a0)] [] [V.one (cS r)] [] := by
  refine Gives.intro Try.func292 rfl rfl rfl rfl ?_
  intro F hF hm
  unfold Fspec_l2Ok at H
  obtain ⟨K, hK⟩ : ∃ K, k ≤ K := ⟨k, Nat.le_refl k⟩
  refine WpC.seq ?_
  refine WpC.regionL ?_
  refine L.assign hF rfl rfl rfl ?_
  refine L.nil ?_
  refine WpC.seq ?_
  refine WpC.seq ?_
  refine WpC.regionL ?_
  refine L.move hF rfl rfl rfl ?_
  obtain ⟨r2, hr2, H⟩ := bindS H
  refine L.call [false] [] [] 1 hF rfl rfl rfl ent229 rfl rfl rfl rfl rfl (Fspec_TermOk_gives k  a0 r2 hr2) rfl ?_
  refine L.nil ?_
  refine WpC.cond rfl (fun hc => ?_) (fun hc => ?_)
  · replace H := condT hc H
    refine WpC.seq ?_
    refine WpC.regionL ?_
    refine L.move hF rfl rfl rfl ?_
    refine L.assign hF rfl rfl rfl ?_
    refine L.nil ?_
    refine WpC.ret ?_
    cases H
    exact Leaves.ret rfl rfl rfl ⟨rfl, rfl⟩
  · replace H := condF hc H
    refine WpC.skip ?_
    refine WpC.seq ?_
    refine WpC.regionL ?_
    refine L.assign hF rfl rfl rfl ?_
    refine L.nil ?_
    refine WpC.ret ?_
    cases H
    exact Leaves.ret rfl rfl rfl ⟨rfl, rfl⟩
/-! ### Fspec_Atom -/
def Fspec_Atom (k : Nat) (a0 : List UInt8) : Option (List UInt8) := cond (decide ((a0.length : Int) > (40 : Int))) (some ([] : List UInt8)) ((Fspec_Var k (a0.length : Int)).bind fun r1 => cond (decide (([97] : List UInt8).length + r1.length ≤ 9223372036854775807)) (cond (decide ((([97] : List UInt8) ++ r1).length + a0.length ≤ 9223372036854775807)) ((Fspec_l2Ok k ((([97] : List UInt8) ++ r1) ++ a0)).bind fun r4 => some r4) none) none)
theorem ent291 : Enters Try.prog 291 := ⟨Try.f291, Try.func291, rfl, by decide⟩
set_option maxHeartbeats 8000000 in
set_option maxRecDepth 100000 in
theorem Fspec_Atom_gives (k : Nat) (a0 : List UInt8) (r : List UInt8) (H : Fspec_Atom k a0 = some r) : Gives Try.prog 291 [V.one (cS a0)] [] [V.one (cS r)] [] := by
  refine Gives.intro Try.func291 rfl rfl rfl rfl ?_
  intro F hF hm
  unfold Fspec_Atom at H
  obtain ⟨K, hK⟩ : ∃ K, k ≤ K := ⟨k, Nat.le_refl k⟩
  refine WpC.seq ?_
  refine WpC.regionL ?_
  refine L.assign hF rfl rfl rfl ?_
  refine L.nil ?_
  refine WpC.seq ?_
  refine WpC.seq ?_
  refine WpC.regionL ?_
  refine L.move hF rfl rfl rfl ?_
  refine L.lenS Try.underlying9 hF rfl rfl rfl ?_
  refine L.bin hF rfl rfl rfl rfl rfl rfl ?_
  refine L.nil ?_
  refine WpC.cond rfl (fun hc => ?_) (fun hc => ?_)
  · replace H := condT hc H
    refine WpC.seq ?_
    refine WpC.regionL ?_
    refine L.assign hF rfl rfl rfl ?_
    refine L.nil ?_
    refine WpC.ret ?_
    cases H
    exact Leaves.ret rfl rfl rfl ⟨rfl, rfl⟩
  · replace H := condF hc H
    refine WpC.skip ?_
    refine WpC.seq ?_
    refine WpC.regionL ?_
    refine L.move hF rfl rfl rfl ?_
    refine L.lenS Try.underlying9 hF rfl rfl rfl ?_
    obtain ⟨r1, hr1, H⟩ := bindS H
    refine L.call [false] [] [] 1 hF rfl rfl rfl ent128 rfl rfl rfl rfl rfl (Fspec_Var_gives k  (a0.length : Int) r1 hr1) rfl ?_
    obtain ⟨h2, H⟩ := condG H
    refine L.catS hF rfl rfl rfl rfl (of_decide_eq_true h2) ?_
    refine L.move hF rfl rfl rfl ?_
    obtain ⟨h3, H⟩ := condG H
    refine L.catS hF rfl rfl rfl rfl (of_decide_eq_true h3) ?_
    obtain ⟨r4, hr4, H⟩ := bindS H
    refine L.call [false] [] [] 2 hF rfl rfl rfl ent292 rfl rfl rfl rfl rfl (Fspec_l2Ok_gives k  ((([97] : List UInt8) ++ r1) ++ a0) r4 hr4) rfl ?_
    refine L.assign hF rfl rfl rfl ?_
    refine L.nil ?_
    refine WpC.ret ?_
    cases H
    exact Leaves.ret rfl rfl rfl ⟨rfl, rfl⟩
/-! ### Fspec_Num -/
def Fspec_Num (k : Nat) (a0 : Int) : Option (List UInt8) := (Fspec_Var k a0).bind fun r1 => cond (r1 == ([] : List UInt8)) (some ([] : List UInt8)) ((Fspec_Atom k r1).bind fun r2 => some r2)
theorem ent270 : Enters Try.prog 270 := ⟨Try.f270, Try.func270, rfl, by decide⟩
set_option maxHeartbeats 8000000 in
set_option maxRecDepth 100000 in
theorem Fspec_Num_gives (k : Nat) (a0 : Int) (r : List UInt8) (H : Fspec_Num k a0 = some r) : Gives Try.prog 270 [V.one (cI a0)] [] [V.one (cS r)] [] := by
  refine Gives.intro Try.func270 rfl rfl rfl rfl ?_
  intro F hF hm
  unfold Fspec_Num at H
  obtain ⟨K, hK⟩ : ∃ K, k ≤ K := ⟨k, Nat.le_refl k⟩
  refine WpC.seq ?_
  refine WpC.regionL ?_
  refine L.assign hF rfl rfl rfl ?_
  refine L.nil ?_
  refine WpC.seq ?_
  refine WpC.regionL ?_
  refine L.move hF rfl rfl rfl ?_
  obtain ⟨r1, hr1, H⟩ := bindS H
  refine L.call [false] [] [] 1 hF rfl rfl rfl ent128 rfl rfl rfl rfl rfl (Fspec_Var_gives k  a0 r1 hr1) rfl ?_
  refine L.assign hF rfl rfl rfl ?_
  refine L.nil ?_
  refine WpC.seq ?_
  refine WpC.seq ?_
  refine WpC.regionL ?_
  refine L.move hF rfl rfl rfl ?_
  refine L.binS hF rfl rfl rfl rfl rfl ?_
  refine L.nil ?_
  refine WpC.cond rfl (fun hc => ?_) (fun hc => ?_)
  · replace H := condT hc H
    refine WpC.seq ?_
    refine WpC.regionL ?_
    refine L.assign hF rfl rfl rfl ?_
    refine L.nil ?_
    refine WpC.ret ?_
    cases H
    exact Leaves.ret rfl rfl rfl ⟨rfl, rfl⟩
  · replace H := condF hc H
    refine WpC.skip ?_
    refine WpC.seq ?_
    refine WpC.regionL ?_
    refine L.move hF rfl rfl rfl ?_
    obtain ⟨r2, hr2, H⟩ := bindS H
    refine L.call [false] [] [] 2 hF rfl rfl rfl ent291 rfl rfl rfl rfl rfl (Fspec_Atom_gives k  r1 r2 hr2) rfl ?_
    refine L.assign hF rfl rfl rfl ?_
    refine L.nil ?_
    refine WpC.ret ?_
    cases H
    exact Leaves.ret rfl rfl rfl ⟨rfl, rfl⟩
/-! ### Fspec_List -/
def Fspec_List.l2 : Nat → (List (List UInt8)) → (List UInt8) → Int → Option (List UInt8)
  | 0, _, _, _ => none
  | k2 + 1, v76, v77, v78 => cond (decide (v78 < (v76.length : Int))) ((at? v76 v78).bind fun b87 => (Fspec_TermOk k2 b87).bind fun r88 => cond (!r88) (some ([] : List UInt8)) ((at? v76 v78).bind fun b89 => cond (decide (v77.length + b89.length ≤ 9223372036854775807)) ((Fspec_List.l2 k2) v76 (v77 ++ b89) (IntKind.i64.wrap (v78 + (1 : Int)))) none)) ((Fspec_l2Ok k2 v77).bind fun r91 => some r91)
def Fspec_List (k : Nat) (a0 : List (List UInt8)) : Option (List UInt8) := cond (decide ((a0.length : Int) > (12 : Int))) (some ([] : List UInt8)) ((Fspec_Var k (a0.length : Int)).bind fun r1 => cond (decide (([108] : List UInt8).length + r1.length ≤ 9223372036854775807)) (Fspec_List.l2 k a0 (([108] : List UInt8) ++ r1) (0 : Int)) none)
theorem ent271 : Enters Try.prog 271 := ⟨Try.f271, Try.func271, rfl, by decide⟩
set_option maxHeartbeats 8000000 in
set_option maxRecDepth 100000 in
theorem Fspec_List_gives (k : Nat) (g0 : Bool) (a0 : List (List UInt8)) (r : List UInt8) (H : Fspec_List k a0 = some r) : Gives Try.prog 271 [V.one (Cell.sl g0 (List.map eS a0))] [] [V.one (cS r)] [] := by
  refine Gives.intro Try.func271 rfl rfl rfl rfl ?_
  intro F hF hm
  unfold Fspec_List at H
  obtain ⟨K, hK⟩ : ∃ K, k ≤ K := ⟨k, Nat.le_refl k⟩
  refine WpC.seq ?_
  refine WpC.regionL ?_
  refine L.assign hF rfl rfl rfl ?_
  refine L.nil ?_
  refine WpC.seq ?_
  refine WpC.seq ?_
  refine WpC.regionL ?_
  refine L.move hF rfl rfl rfl ?_
  refine L.lenR (xs := a0) (e := eS) Try.underlying120 hF rfl rfl rfl rfl ?_
  refine L.bin hF rfl rfl rfl rfl rfl rfl ?_
  refine L.nil ?_
  refine WpC.cond rfl (fun hc => ?_) (fun hc => ?_)
  · replace H := condT hc H
    refine WpC.seq ?_
    refine WpC.regionL ?_
    refine L.assign hF rfl rfl rfl ?_
    refine L.nil ?_
    refine WpC.ret ?_
    cases H
    exact Leaves.ret rfl rfl rfl ⟨rfl, rfl⟩
  · replace H := condF hc H
    refine WpC.skip ?_
    refine WpC.seq ?_
    refine WpC.regionL ?_
    refine L.move hF rfl rfl rfl ?_
    refine L.lenR (xs := a0) (e := eS) Try.underlying120 hF rfl rfl rfl rfl ?_
    obtain ⟨r1, hr1, H⟩ := bindS H
    refine L.call [false] [] [] 1 hF rfl rfl rfl ent128 rfl rfl rfl rfl rfl (Fspec_Var_gives k  (a0.length : Int) r1 hr1) rfl ?_
    obtain ⟨h2, H⟩ := condG H
    refine L.catS hF rfl rfl rfl rfl (of_decide_eq_true h2) ?_
    refine L.assign hF rfl rfl rfl ?_
    refine L.nil ?_
    refine WpC.seq ?_
    refine WpC.seq ?_
    refine WpC.regionL ?_
    refine L.assign hF rfl rfl rfl ?_
    refine L.nil ?_
    refine WpC.block ?_
    refine WpC.loopL (P := Try.prog) (fun n σ => ∃ v76 : List (List UInt8), ∃ v77 : List UInt8, ∃ v78 : Int, n ≤ K ∧ Fspec_List.l2 n v76 v77 v78 = some r ∧ σ = mkSt [(0, one (Cell.sl g0 (List.map eS v76))), (3, one (cS v77)), (4, one (cI v78))] [] [] 0) k ⟨_, ⟨a0, (([108] : List UInt8) ++ r1), (0 : Int), by omega, H, rfl⟩, Le.mk [] hm rfl ⟨⟨_, rfl, rfl⟩, ⟨_, rfl, rfl⟩, ⟨_, rfl, rfl⟩, trivial⟩ trivial trivial⟩ ?_
    clear H
    rintro k2 _ ⟨v76, v77, v78, hk2, H, rfl⟩
    cases k2 with
    | zero => cases H
    | succ k2 =>
      rw [Fspec_List.l2] at H
      refine WpC.seq ?_
      refine WpC.seq ?_
      refine WpC.regionL ?_
      refine L.move hF rfl rfl rfl ?_
      refine L.move hF rfl rfl rfl ?_
      refine L.lenR (xs := v76) (e := eS) Try.underlying120 hF rfl rfl rfl rfl ?_
      refine L.bin hF rfl rfl rfl rfl rfl rfl ?_
      refine L.nil ?_
      refine WpC.cond rfl (fun hc => ?_) (fun hc => ?_)
      · replace H := condT hc H
        refine WpC.skip ?_
        refine WpC.seq ?_
        refine WpC.block ?_
        refine WpC.seq ?_
        refine WpC.seq ?_
        refine WpC.regionL ?_
        refine L.move hF rfl rfl rfl ?_
        refine L.move hF rfl rfl rfl ?_
        obtain ⟨b87, hb87, H⟩ := bindS H
        refine L.idxR (xs := v76) (e := eS) Try.underlying120 info9 hF rfl rfl rfl rfl rfl hb87 rfl rfl ?_
        refine L.loadPe shape9 hF rfl rfl rfl rfl rfl ?_
        obtain ⟨r88, hr88, H⟩ := bindS H
        refine L.call [false] [] [] 0 hF rfl rfl rfl ent229 rfl rfl rfl rfl rfl (Fspec_TermOk_gives k2  b87 r88 hr88) rfl ?_
        refine L.not hF rfl rfl rfl ?_
        refine L.nil ?_
        refine WpC.cond rfl (fun hc => ?_) (fun hc => ?_)
        · replace H := condT hc H
          refine WpC.seq ?_
          refine WpC.regionL ?_
          refine L.assign hF rfl rfl rfl ?_
          refine L.nil ?_
          refine WpC.ret ?_
          cases H
          exact Leaves.ret rfl rfl rfl ⟨rfl, rfl⟩
        · replace H := condF hc H
          refine WpC.skip ?_
          refine WpC.regionL ?_
          refine L.move hF rfl rfl rfl ?_
          refine L.move hF rfl rfl rfl ?_
          refine L.move hF rfl rfl rfl ?_
          obtain ⟨b89, hb89, H⟩ := bindS H
          refine L.idxR (xs := v76) (e := eS) Try.underlying120 info9 hF rfl rfl rfl rfl rfl hb89 rfl rfl ?_
          refine L.loadPe shape9 hF rfl rfl rfl rfl rfl ?_
          obtain ⟨h90, H⟩ := condG H
          refine L.catS hF rfl rfl rfl rfl (of_decide_eq_true h90) ?_
          refine L.assign hF rfl rfl rfl ?_
          refine L.nil ?_
          refine WpC.regionL ?_
          refine L.move hF rfl rfl rfl ?_
          refine L.bin hF rfl rfl rfl rfl rfl rfl ?_
          refine L.assign hF rfl rfl rfl ?_
          refine L.nil ?_
          exact ⟨k2, _, by omega, ⟨v76, (v77 ++ b89), (IntKind.i64.wrap (v78 + (1 : Int))), by omega, H, rfl⟩, Le.mk [] hm rfl ⟨⟨_, rfl, rfl⟩, ⟨_, rfl, rfl⟩, ⟨_, rfl, rfl⟩, trivial⟩ trivial trivial⟩
      · replace H := condF hc H
        refine WpC.exit ?_
        refine WpC.seq ?_
        refine WpC.regionL ?_
        refine L.move hF rfl rfl rfl ?_
        obtain ⟨r91, hr91, H⟩ := bindS H
        refine L.call [false] [] [] 0 hF rfl rfl rfl ent292 rfl rfl rfl rfl rfl (Fspec_l2Ok_gives k2  v77 r91 hr91) rfl ?_
        refine L.assign hF rfl rfl rfl ?_
        refine L.nil ?_
        refine WpC.ret ?_
        cases H
        exact Leaves.ret rfl rfl rfl ⟨rfl, rfl⟩
/-! ### Fspec_Nums -/
def Fspec_Nums.j2 (k : Nat) (v27 : List (List UInt8)) : Option (List UInt8) := (Fspec_List k v27).bind fun r28 => some r28
def Fspec_Nums.l3 : Nat → (List Int) → (List (List UInt8)) → Int → Option (List UInt8)
  | 0, _, _, _ => none
  | k3 + 1, v46, v47, v48 => cond (decide (v48 < (v46.length : Int))) (cond (decide (v48 ≤ (12 : Int))) ((at? v46 v48).bind fun b52 => (Fspec_Num k3 b52).bind fun r53 => cond (r53 == ([] : List UInt8)) (some ([] : List UInt8)) (cond (decide ((2 * (v47.length + ([r53] : List (List UInt8)).length) + 192) * 16 ≤ 281474976710656)) ((Fspec_Nums.l3 k3) v46 (v47 ++ ([r53] : List (List UInt8))) (IntKind.i64.wrap (v48 + (1 : Int)))) none)) (Fspec_Nums.j2 k3 v47)) (Fspec_Nums.j2 k3 v47)
def Fspec_Nums (k : Nat) (a0 : List Int) : Option (List UInt8) := Fspec_Nums.l3 k a0 ([] : List (List UInt8)) (0 : Int)
theorem ent225 : Enters Try.prog 225 := ⟨Try.f225, Try.func225, rfl, by decide⟩
set_option maxHeartbeats 8000000 in
set_option maxRecDepth 100000 in
theorem Fspec_Nums_gives (k : Nat) (g0 : Bool) (a0 : List Int) (r : List UInt8) (H : Fspec_Nums k a0 = some r) : Gives Try.prog 225 [V.one (Cell.sl g0 (List.map eI a0))] [] [V.one (cS r)] [] := by
  refine Gives.intro Try.func225 rfl rfl rfl rfl ?_
  intro F hF hm
  unfold Fspec_Nums at H
  obtain ⟨K, hK⟩ : ∃ K, k ≤ K := ⟨k, Nat.le_refl k⟩
  refine WpC.seq ?_
  refine WpC.regionL ?_
  refine L.assign hF rfl rfl rfl ?_
  refine L.nil ?_
  refine WpC.seq ?_
  refine WpC.regionL ?_
  refine L.buildSlice (e := eS) 1 ([] : List (List UInt8)) Try.underlying120 info9 rfl rfl rfl hF rfl rfl rfl rfl rfl rfl rfl rfl ?_
  refine L.assign hF rfl rfl rfl ?_
  refine L.nil ?_
  refine WpC.join (fun σ => ∃ kj2 : Nat, ∃ v27 : List (List UInt8), kj2 ≤ K ∧ Fspec_Nums.j2 kj2 v27 = some r ∧ σ = mkSt [(3, one (Cell.own 0))] [(0, ⟨1, List.map eS v27⟩)] [] 1) ?_ ?_
  · rintro _ ⟨kj2, v27, hkj2, H, rfl⟩
    unfold Fspec_Nums.j2 at H
    refine WpC.seq ?_
    refine WpC.regionL ?_
    refine L.move hF rfl rfl rfl ?_
    obtain ⟨r28, hr28, H⟩ := bindS H
    refine L.call [false] [0] [] 1 hF rfl rfl rfl ent271 rfl rfl rfl rfl rfl (Fspec_List_gives kj2 false v27 r28 hr28) rfl ?_
    refine L.assign hF rfl rfl rfl ?_
    refine L.nil ?_
    refine WpC.ret ?_
    cases H
    exact Leaves.ret rfl rfl rfl ⟨rfl, rfl⟩
  · refine WpC.seq ?_
    refine WpC.regionL ?_
    refine L.assign hF rfl rfl rfl ?_
    refine L.nil ?_
    refine WpC.block ?_
    refine WpC.loopL (P := Try.prog) (fun n σ => ∃ v46 : List Int, ∃ v47 : List (List UInt8), ∃ v48 : Int, n ≤ K ∧ Fspec_Nums.l3 n v46 v47 v48 = some r ∧ σ = mkSt [(0, one (Cell.sl g0 (List.map eI v46))), (3, one (Cell.own 0)), (4, one (cI v48))] [(0, ⟨1, List.map eS v47⟩)] [] 1) k ⟨_, ⟨a0, ([] : List (List UInt8)), (0 : Int), by omega, H, rfl⟩, Le.mk [(0, 1)] hm rfl ⟨⟨_, rfl, rfl⟩, ⟨_, rfl, rfl⟩, ⟨_, rfl, rfl⟩, trivial⟩ ⟨⟨_, rfl, rfl⟩, trivial⟩ trivial⟩ ?_
    clear H
    rintro k3 _ ⟨v46, v47, v48, hk3, H, rfl⟩
    cases k3 with
    | zero => cases H
    | succ k3 =>
      rw [Fspec_Nums.l3] at H
      refine WpC.seq ?_
      refine WpC.seq ?_
      refine WpC.regionL ?_
      refine L.move hF rfl rfl rfl ?_
      refine L.move hF rfl rfl rfl ?_
      refine L.lenR (xs := v46) (e := eI) Try.underlying24 hF rfl rfl rfl rfl ?_
      refine L.bin hF rfl rfl rfl rfl rfl rfl ?_
      refine L.move hF rfl rfl rfl ?_
      refine L.split (fun hc => ?_) (fun hc => ?_)
      · replace H := condT hc H
        refine L.move hF rfl rfl rfl ?_
        refine L.bin hF rfl rfl rfl rfl rfl rfl ?_
        refine L.pick hF rfl rfl rfl rfl ?_
        refine L.nil ?_
        refine WpC.cond rfl (fun hc => ?_) (fun hc => ?_)
        · replace H := condT hc H
          refine WpC.skip ?_
          refine WpC.seq ?_
          refine WpC.block ?_
          refine WpC.seq ?_
          refine WpC.regionL ?_
          refine L.move hF rfl rfl rfl ?_
          refine L.move hF rfl rfl rfl ?_
          obtain ⟨b52, hb52, H⟩ := bindS H
          refine L.idxR (xs := v46) (e := eI) Try.underlying24 info3 hF rfl rfl rfl rfl rfl hb52 rfl rfl ?_
          refine L.loadPe shape3 hF rfl rfl rfl rfl rfl ?_
          obtain ⟨r53, hr53, H⟩ := bindS H
          refine L.call [false] [] [] 1 hF rfl rfl rfl ent270 rfl rfl rfl rfl rfl (Fspec_Num_gives k3  b52 r53 hr53) rfl ?_
          refine L.assign hF rfl rfl rfl ?_
          refine L.nil ?_
          refine WpC.seq ?_
          refine WpC.seq ?_
          refine WpC.regionL ?_
          refine L.move hF rfl rfl rfl ?_
          refine L.binS hF rfl rfl rfl rfl rfl ?_
          refine L.nil ?_
          refine WpC.cond rfl (fun hc => ?_) (fun hc => ?_)
          · replace H := condT hc H
            refine WpC.seq ?_
            refine WpC.regionL ?_
            refine L.assign hF rfl rfl rfl ?_
            refine L.nil ?_
            refine WpC.ret ?_
            cases H
            exact Leaves.ret rfl rfl rfl ⟨rfl, rfl⟩
          · replace H := condF hc H
            refine WpC.skip ?_
            refine WpC.regionL ?_
            refine L.move hF rfl rfl rfl ?_
            refine L.move hF rfl rfl rfl ?_
            refine L.buildSlice (e := eS) 2 ([r53] : List (List UInt8)) Try.underlying120 info9 rfl rfl rfl hF rfl rfl rfl rfl rfl rfl rfl rfl ?_
            obtain ⟨h54, H⟩ := condG H
            refine L.append (xs := v47) (ys := ([r53] : List (List UInt8))) (e := eS) 3 Try.underlying120 info9 rfl rfl hF rfl rfl rfl rfl rfl rfl rfl rfl (fun _ => rfl) (fun _ _ h1 h2 => by cases h1; cases h2; rfl) ⟨_, Try.underlying120⟩ (of_decide_eq_true h54) rfl rfl ?_
            refine L.assign hF rfl rfl rfl ?_
            refine L.nil ?_
            refine WpC.regionL ?_
            refine L.move hF rfl rfl rfl ?_
            refine L.bin hF rfl rfl rfl rfl rfl rfl ?_
            refine L.assign hF rfl rfl rfl ?_
            refine L.nil ?_
            exact ⟨k3, _, by omega, ⟨v46, (v47 ++ ([r53] : List (List UInt8))), (IntKind.i64.wrap (v48 + (1 : Int))), by omega, H, rfl⟩, Le.mk [(0, 3)] hm rfl ⟨⟨_, rfl, rfl⟩, ⟨_, rfl, rfl⟩, ⟨_, rfl, rfl⟩, trivial⟩ ⟨⟨_, rfl, rfl⟩, trivial⟩ trivial⟩
        · replace H := condF hc H
          refine WpC.exit ?_
          exact ⟨_, ⟨k3, v47, by omega, H, rfl⟩, Le.mk [(0, 0)] hm rfl ⟨⟨_, rfl, rfl⟩, trivial⟩ ⟨⟨_, rfl, rfl⟩, trivial⟩ trivial⟩
      · replace H := condF hc H
        refine L.off hF rfl rfl ?_
        refine L.off hF rfl rfl ?_
        refine L.pick hF rfl rfl rfl rfl ?_
        refine L.nil ?_
        refine WpC.cond rfl (fun hc => by cases hc) (fun _ => ?_)
        refine WpC.exit ?_
        exact ⟨_, ⟨k3, v47, by omega, H, rfl⟩, Le.mk [(0, 0)] hm rfl ⟨⟨_, rfl, rfl⟩, trivial⟩ ⟨⟨_, rfl, rfl⟩, trivial⟩ trivial⟩
/-! ### Fspec_ShowTimes -/
def Fspec_ShowTimes (k : Nat) (a0 : Timpl_Times) : Option (List UInt8) := (Fspec_TimesOk k a0).bind fun r2 => cond (!r2) (some ([] : List UInt8)) ((Fspec_Nums k ([a0.Auth, a0.Start, a0.End, a0.Renew] : List Int)).bind fun r3 => some r3)
theorem ent135 : Enters Try.prog 135 := ⟨Try.f135, Try.func135, rfl, by decide⟩
set_option maxHeartbeats 8000000 in
set_option maxRecDepth 100000 in
theorem Fspec_ShowTimes_gives (k : Nat) (a0 : Timpl_Times) (r : List UInt8) (H : Fspec_ShowTimes k a0 = some r) : Gives Try.prog 135 [V.agg [cI a0.Auth, cI a0.Start, cI a0.End, cI a0.Renew]] [] [V.one (cS r)] [] := by
  refine Gives.intro Try.func135 rfl rfl rfl rfl ?_
  intro F hF hm
  unfold Fspec_ShowTimes at H
  obtain ⟨K, hK⟩ : ∃ K, k ≤ K := ⟨k, Nat.le_refl k⟩
  refine WpC.seq ?_
  refine WpC.regionL ?_
  refine L.box 4 hF rfl rfl rfl rfl ?_
  refine L.assign hF rfl rfl rfl ?_
  refine L.nil ?_
  refine WpC.seq ?_
  refine WpC.seq ?_
  refine WpC.regionL ?_
  refine L.loadPtr shape65 hF rfl rfl rfl rfl rfl rfl ?_
  obtain ⟨r2, hr2, H⟩ := bindS H
  refine L.call [false] [] [] 5 hF rfl rfl rfl ent65 rfl rfl rfl rfl rfl (Fspec_TimesOk_gives k  a0 r2 hr2) rfl ?_
  refine L.not hF rfl rfl rfl ?_
  refine L.nil ?_
  refine WpC.cond rfl (fun hc => ?_) (fun hc => ?_)
  · replace H := condT hc H
    refine WpC.seq ?_
    refine WpC.regionL ?_
    refine L.assign hF rfl rfl rfl ?_
    refine L.nil ?_
    refine WpC.ret ?_
    cases H
    exact Leaves.ret rfl rfl rfl ⟨rfl, rfl⟩
  · replace H := condF hc H
    refine WpC.skip ?_
    refine WpC.seq ?_
    refine WpC.regionL ?_
    refine L.fieldAddr Try.underlying65 rfl info3 rfl hF rfl rfl rfl rfl rfl ?_
    refine L.loadPtr shape3 hF rfl rfl rfl rfl rfl rfl ?_
    refine L.fieldAddr Try.underlying65 rfl info3 rfl hF rfl rfl rfl rfl rfl ?_
    refine L.loadPtr shape3 hF rfl rfl rfl rfl rfl rfl ?_
    refine L.fieldAddr Try.underlying65 rfl info3 rfl hF rfl rfl rfl rfl rfl ?_
    refine L.loadPtr shape3 hF rfl rfl rfl rfl rfl rfl ?_
    refine L.fieldAddr Try.underlying65 rfl info3 rfl hF rfl rfl rfl rfl rfl ?_
    refine L.loadPtr shape3 hF rfl rfl rfl rfl rfl rfl ?_
    refine L.buildSlice (e := eI) 6 ([a0.Auth, a0.Start, a0.End, a0.Renew] : List Int) Try.underlying24 info3 rfl rfl rfl hF rfl rfl rfl rfl rfl rfl rfl rfl ?_
    obtain ⟨r3, hr3, H⟩ := bindS H
    refine L.call [false] [6] [] 7 hF rfl rfl rfl ent225 rfl rfl rfl rfl rfl (Fspec_Nums_gives k false ([a0.Auth, a0.Start, a0.End, a0.Renew] : List Int) r3 hr3) rfl ?_
    refine L.assign hF rfl rfl rfl ?_
    refine L.nil ?_
    refine WpC.ret ?_
    cases H
    exact Leaves.ret rfl rfl rfl ⟨rfl, rfl⟩
/-! ### Fspec_ReadTimes -/
def Fspec_ReadTimes.j2 (k : Nat) (v5 : List UInt8) (v6 : List Int) (v7 : Bool) : Option (Timpl_Times × Bool) := cond v7 (some ((⟨(0 : Int), (0 : Int), (0 : Int), (0 : Int)⟩ : Timpl_Times), false)) ((at? v6 (0 : Int)).bind fun b8 => (at? v6 (1 : Int)).bind fun b9 => (at? v6 (2 : Int)).bind fun b10 => (at? v6 (3 : Int)).bind fun b11 => (Fspec_ShowTimes k (⟨b8, b9, b10, b11⟩ : Timpl_Times)).bind fun r13 => cond (r13 != v5) (some ((⟨(0 : Int), (0 : Int), (0 : Int), (0 : Int)⟩ : Timpl_Times), false)) (some ((⟨b8, b9, b10, b11⟩ : Timpl_Times), true)))
def Fspec_ReadTimes (k : Nat) (a0 : List UInt8) : Option (Timpl_Times × Bool) := (Fspec_ReadNums k a0).bind fun r1 => cond (!r1.2) (Fspec_ReadTimes.j2 k a0 r1.1 true) (Fspec_ReadTimes.j2 k a0 r1.1 ((r1.1.length : Int) != (4 : Int)))
theorem ent57 : Enters Try.prog 57 := ⟨Try.f57, Try.func57, rfl, by decide⟩
set_option maxHeartbeats 8000000 in
set_option maxRecDepth 100000 in
theorem Fspec_ReadTimes_gives (k : Nat) (a0 : List UInt8) (r : Timpl_Times × Bool) (H : Fspec_ReadTimes k a0 = some r) : Gives Try.prog 57 [V.one (cS a0)] [] [V.agg [cI r.1.Auth, cI r.1.Start, cI r.1.End, cI r.1.Renew], V.one (cL r.2)] [] := by
  refine Gives.intro Try.func57 rfl rfl rfl rfl ?_
  intro F hF hm
  unfold Fspec_ReadTimes at H
  obtain ⟨K, hK⟩ : ∃ K, k ≤ K := ⟨k, Nat.le_refl k⟩
  refine WpC.seq ?_
  refine WpC.regionL ?_
  refine L.alloc 1 info65 rfl hF rfl rfl rfl rfl ?_
  refine L.assign hF rfl rfl rfl ?_
  refine L.nil ?_
  refine WpC.seq ?_
  refine WpC.regionL ?_
  refine L.move hF rfl rfl rfl ?_
  obtain ⟨r1, hr1, H⟩ := bindS H
  refine L.call [false] [] [] 2 hF rfl rfl rfl ent134 rfl rfl rfl rfl rfl (Fspec_ReadNums_gives k  a0 r1 hr1) rfl ?_
  refine L.move hF rfl rfl rfl ?_
  refine L.extract hF rfl rfl rfl rfl ?_
  refine L.extract hF rfl rfl rfl rfl ?_
  refine L.assign hF rfl rfl rfl ?_
  refine L.assign hF rfl rfl rfl ?_
  refine L.nil ?_
  refine WpC.seq ?_
  refine WpC.join (fun σ => ∃ kj2 : Nat, ∃ v5 : List UInt8, ∃ v6 : List Int, ∃ v7 : Bool, kj2 ≤ K ∧ Fspec_ReadTimes.j2 kj2 v5 v6 v7 = some r ∧ σ = mkSt [(0, one (cS v5)), (2, one (Cell.ptr 0 0)), (4, one (Cell.own 1)), (18, one (cL v7))] [(1, ⟨1, List.map eI v6⟩)] [(0, [cI (0 : Int), cI (0 : Int), cI (0 : Int), cI (0 : Int)])] 2) ?_ ?_
  · rintro _ ⟨kj2, v5, v6, v7, hkj2, H, rfl⟩
    unfold Fspec_ReadTimes.j2 at H
    refine WpC.cond rfl (fun hc => ?_) (fun hc => ?_)
    · replace H := condT hc H
      refine WpC.seq ?_
      refine WpC.regionL ?_
      refine L.buildF built65 hF rfl rfl rfl rfl ?_
      refine L.storePtr shape65 hF rfl rfl rfl rfl rfl rfl rfl ?_
      refine L.assign hF rfl rfl rfl ?_
      refine L.nil ?_
      refine WpC.ret ?_
      cases H
      exact Leaves.ret rfl rfl rfl ⟨rfl, rfl⟩
    · replace H := condF hc H
      refine WpC.skip ?_
      refine WpC.seq ?_
      obtain ⟨b8, hb8, H⟩ := bindS H
      obtain ⟨b9, hb9, H⟩ := bindS H
      obtain ⟨b10, hb10, H⟩ := bindS H
      obtain ⟨b11, hb11, H⟩ := bindS H
      refine A.begin mixed rfl rfl ?_
      intro W hI hO
      have n32767 : W 0 #[true, true, true, true, true, true, true, true, true, true, true, true, true, true, true] (mkSt [(0, one (cS v5)), (2, one (Cell.ptr 0 0)), (6, one (Cell.ptr 1 0))] [] [(0, [cI (0 : Int), cI (0 : Int), cI (0 : Int), cI (0 : Int)]), (1, [cI b8, cI b9, cI b10, cI b11])] 2) := by
        refine hI _ _ _ (A.done (by kernel_rfl) ?_)
        refine WpC.seq ?_
        refine WpC.seq ?_
        refine WpC.regionL ?_
        refine L.loadPtr shape65 hF rfl rfl rfl rfl rfl rfl ?_
        obtain ⟨r13, hr13, H⟩ := bindS H
        refine L.call [false] [] [] 2 hF rfl rfl rfl ent135 rfl rfl rfl rfl rfl (Fspec_ShowTimes_gives kj2  (⟨b8, b9, b10, b11⟩ : Timpl_Times) r13 hr13) rfl ?_
        refine L.move hF rfl rfl rfl ?_
        refine L.binS hF rfl rfl rfl rfl rfl ?_
        refine L.nil ?_
        refine WpC.cond rfl (fun hc => ?_) (fun hc => ?_)
        · replace H := condT hc H
          refine WpC.seq ?_
          refine WpC.regionL ?_
          refine L.buildF built65 hF rfl rfl rfl rfl ?_
          refine L.storePtr shape65 hF rfl rfl rfl rfl rfl rfl rfl ?_
          refine L.assign hF rfl rfl rfl ?_
          refine L.nil ?_
          refine WpC.ret ?_
          cases H
          exact Leaves.ret rfl rfl rfl ⟨rfl, rfl⟩
        · replace H := condF hc H
          refine WpC.skip ?_
          refine WpC.seq ?_
          refine WpC.regionL ?_
          refine L.loadPtr shape65 hF rfl rfl rfl rfl rfl rfl ?_
          refine L.storePtr shape65 hF rfl rfl rfl rfl rfl rfl rfl ?_
          refine L.assign hF rfl rfl rfl ?_
          refine L.nil ?_
          refine WpC.ret ?_
          cases H
          exact Leaves.ret rfl rfl rfl ⟨rfl, rfl⟩
      have n16383 : W 1 #[true, true, true, true, true, true, true, true, true, true, true, true, true, true, false] (mkSt [(0, one (cS v5)), (2, one (Cell.ptr 0 0)), (6, one (Cell.ptr 1 0)), (32, agg [cI b8, cI b9, cI b10, cI b11])] [] [(0, [cI (0 : Int), cI (0 : Int), cI (0 : Int), cI (0 : Int)]), (1, [cI (0 : Int), cI (0 : Int), cI (0 : Int), cI (0 : Int)])] 2) := by
        refine hI _ _ _ ?_
        refine A.all [14] (by kernel_rfl) rfl ⟨⟨_, rfl, ?_⟩, trivial⟩
        · refine L.storePtr shape65 hF rfl rfl rfl rfl rfl rfl rfl ?_
          refine L.nil ?_
          exact A.on (hO _ _ _ n32767) (Le.mk [(0, 0), (1, 1)] hm rfl ⟨⟨_, rfl, rfl⟩, ⟨_, rfl, rfl⟩, ⟨_, rfl, rfl⟩, trivial⟩ trivial ⟨⟨_, _, rfl, rfl, rfl⟩, ⟨_, _, rfl, rfl, rfl⟩, trivial⟩)
      have n8191 : W 2 #[true, true, true, true, true, true, true, true, true, true, true, true, true, false, false] (mkSt [(0, one (cS v5)), (2, one (Cell.ptr 0 0)), (32, agg [cI b8, cI b9, cI b10, cI b11])] [] [(0, [cI (0 : Int), cI (0 : Int), cI (0 : Int), cI (0 : Int)])] 1) := by
        refine hI _ _ _ ?_
        refine A.all [13] (by kernel_rfl) rfl ⟨⟨_, rfl, ?_⟩, trivial⟩
        · refine L.alloc 1 info65 rfl hF rfl rfl rfl rfl ?_
          refine L.nil ?_
          exact A.on (hO _ _ _ n16383) (Le.mk [(0, 0), (1, 1)] hm rfl ⟨⟨_, rfl, rfl⟩, ⟨_, rfl, rfl⟩, ⟨_, rfl, rfl⟩, ⟨_, rfl, rfl⟩, trivial⟩ trivial ⟨⟨_, _, rfl, rfl, rfl⟩, ⟨_, _, rfl, rfl, rfl⟩, trivial⟩)
      have n12287 : W 2 #[true, true, true, true, true, true, true, true, true, true, true, true, false, true, false] (mkSt [(0, one (cS v5)), (2, one (Cell.ptr 0 0)), (6, one (Cell.ptr 1 0)), (22, one (cI b8)), (25, one (cI b9)), (28, one (cI b10)), (31, one (cI b11))] [] [(0, [cI (0 : Int), cI (0 : Int), cI (0 : Int), cI (0 : Int)]), (1, [cI (0 : Int), cI (0 : Int), cI (0 : Int), cI (0 : Int)])] 2) := by
        refine hI _ _ _ ?_
        refine A.take 12 rfl (by kernel_rfl) (by kernel_rfl) (by kernel_rfl) rfl (Ca.build rfl (by rw [built65]; rfl)) (fun Q0 k0 => L.buildF built65 hF rfl rfl rfl rfl (L.nil k0)) ?_
        exact A.on (hO _ _ _ n16383) (Le.mk [(0, 0), (1, 1)] hm rfl ⟨⟨_, rfl, rfl⟩, ⟨_, rfl, rfl⟩, ⟨_, rfl, rfl⟩, ⟨_, rfl, rfl⟩, trivial⟩ trivial ⟨⟨_, _, rfl, rfl, rfl⟩, ⟨_, _, rfl, rfl, rfl⟩, trivial⟩)
      have n10239 : W 3 #[true, true, true, true, true, true, true, true, true, true, true, false, false, true, false] (mkSt [(0, one (cS v5)), (2, one (Cell.ptr 0 0)), (6, one (Cell.ptr 1 0)), (22, one (cI b8)), (25, one (cI b9)), (28, one (cI b10)), (30, one (Cell.ep 2 ((3 : Int).toNat) 0))] [(2, ⟨1, List.map eI v6⟩)] [(0, [cI (0 : Int), cI (0 : Int), cI (0 : Int), cI (0 : Int)]), (1, [cI (0 : Int), cI (0 : Int), cI (0 : Int), cI (0 : Int)])] 3) := by
        refine hI _ _ _ ?_
        refine A.all [11] (by kernel_rfl) rfl ⟨⟨_, rfl, ?_⟩, trivial⟩
        · refine L.loadEp (xs := v6) (e := eI) shape3 hF rfl rfl rfl rfl (at?_get hb11).2 rfl rfl ?_
          refine L.nil ?_
          exact A.on (hO _ _ _ n12287) (Le.mk [(0, 0), (1, 1)] hm rfl ⟨⟨_, rfl, rfl⟩, ⟨_, rfl, rfl⟩, ⟨_, rfl, rfl⟩, ⟨_, rfl, rfl⟩, ⟨_, rfl, rfl⟩, ⟨_, rfl, rfl⟩, ⟨_, rfl, rfl⟩, trivial⟩ trivial ⟨⟨_, _, rfl, rfl, rfl⟩, ⟨_, _, rfl, rfl, rfl⟩, trivial⟩)
      have n12255 : W 3 #[true, true, true, true, true, false, true, true, true, true, true, true, false, true, false] (mkSt [(0, one (cS v5)), (2, one (Cell.ptr 0 0)), (6, one (Cell.ptr 1 0)), (22, one (cI b8)), (24, one (Cell.ep 2 ((1 : Int).toNat) 0)), (28, one (cI b10)), (31, one (cI b11))] [(2, ⟨1, List.map eI v6⟩)] [(0, [cI (0 : Int), cI (0 : Int), cI (0 : Int), cI (0 : Int)]), (1, [cI (0 : Int), cI (0 : Int), cI (0 : Int), cI (0 : Int)])] 3) := by
        refine hI _ _ _ ?_
        refine A.all [5] (by kernel_rfl) rfl ⟨⟨_, rfl, ?_⟩, trivial⟩
        · refine L.loadEp (xs := v6) (e := eI) shape3 hF rfl rfl rfl rfl (at?_get hb9).2 rfl rfl ?_
          refine L.nil ?_
          exact A.on (hO _ _ _ n12287) (Le.mk [(0, 0), (1, 1)] hm rfl ⟨⟨_, rfl, rfl⟩, ⟨_, rfl, rfl⟩, ⟨_, rfl, rfl⟩, ⟨_, rfl, rfl⟩, ⟨_, rfl, rfl⟩, ⟨_, rfl, rfl⟩, ⟨_, rfl, rfl⟩, trivial⟩ trivial ⟨⟨_, _, rfl, rfl, rfl⟩, ⟨_, _, rfl, rfl, rfl⟩, trivial⟩)
      have n12283 : W 3 #[true, true, false, true, true, true, true, true, true, true, true, true, false, true, false] (mkSt [(0, one (cS v5)), (2, one (Cell.ptr 0 0)), (6, one (Cell.ptr 1 0)), (21, one (Cell.ep 2 ((0 : Int).toNat) 0)), (25, one (cI b9)), (28, one (cI b10)), (31, one (cI b11))] [(2, ⟨1, List.map eI v6⟩)] [(0, [cI (0 : Int), cI (0 : Int), cI (0 : Int), cI (0 : Int)]), (1, [cI (0 : Int), cI (0 : Int), cI (0 : Int), cI (0 : Int)])] 3) := by
        refine hI _ _ _ ?_
        refine A.all [2] (by kernel_rfl) rfl ⟨⟨_, rfl, ?_⟩, trivial⟩
        · refine L.loadEp (xs := v6) (e := eI) shape3 hF rfl rfl rfl rfl (at?_get hb8).2 rfl rfl ?_
          refine L.nil ?_
          exact A.on (hO _ _ _ n12287) (Le.mk [(0, 0), (1, 1)] hm rfl ⟨⟨_, rfl, rfl⟩, ⟨_, rfl, rfl⟩, ⟨_, rfl, rfl⟩, ⟨_, rfl, rfl⟩, ⟨_, rfl, rfl⟩, ⟨_, rfl, rfl⟩, ⟨_, rfl, rfl⟩, trivial⟩ trivial ⟨⟨_, _, rfl, rfl, rfl⟩, ⟨_, _, rfl, rfl, rfl⟩, trivial⟩)
      have n4095 : W 3 #[true, true, true, true, true, true, true, true, true, true, true, true, false, false, false] (mkSt [(0, one (cS v5)), (2, one (Cell.ptr 0 0)), (22, one (cI b8)), (25, one (cI b9)), (28, one (cI b10)), (31, one (cI b11))] [] [(0, [cI (0 : Int), cI (0 : Int), cI (0 : Int), cI (0 : Int)])] 1) := by
        refine hI _ _ _ ?_
        refine A.take 12 rfl (by kernel_rfl) (by kernel_rfl) (by kernel_rfl) rfl (Ca.build rfl (by rw [built65]; rfl)) (fun Q0 k0 => L.buildF built65 hF rfl rfl rfl rfl (L.nil k0)) ?_
        exact A.on (hO _ _ _ n8191) (Le.mk [(0, 0)] hm rfl ⟨⟨_, rfl, rfl⟩, ⟨_, rfl, rfl⟩, ⟨_, rfl, rfl⟩, trivial⟩ trivial ⟨⟨_, _, rfl, rfl, rfl⟩, trivial⟩)
      have n12031 : W 3 #[true, true, true, true, true, true, true, true, false, true, true, true, false, true, false] (mkSt [(0, one (cS v5)), (2, one (Cell.ptr 0 0)), (6, one (Cell.ptr 1 0)), (22, one (cI b8)), (25, one (cI b9)), (27, one (Cell.ep 2 ((2 : Int).toNat) 0)), (31, one (cI b11))] [(2, ⟨1, List.map eI v6⟩)] [(0, [cI (0 : Int), cI (0 : Int), cI (0 : Int), cI (0 : Int)]), (1, [cI (0 : Int), cI (0 : Int), cI (0 : Int), cI (0 : Int)])] 3) := by
        refine hI _ _ _ ?_
        refine A.all [8] (by kernel_rfl) rfl ⟨⟨_, rfl, ?_⟩, trivial⟩
        · refine L.loadEp (xs := v6) (e := eI) shape3 hF rfl rfl rfl rfl (at?_get hb10).2 rfl rfl ?_
          refine L.nil ?_
          exact A.on (hO _ _ _ n12287) (Le.mk [(0, 0), (1, 1)] hm rfl ⟨⟨_, rfl, rfl⟩, ⟨_, rfl, rfl⟩, ⟨_, rfl, rfl⟩, ⟨_, rfl, rfl⟩, ⟨_, rfl, rfl⟩, ⟨_, rfl, rfl⟩, ⟨_, rfl, rfl⟩, trivial⟩ trivial ⟨⟨_, _, rfl, rfl, rfl⟩, ⟨_, _, rfl, rfl, rfl⟩, trivial⟩)
      have n10207 : W 4 #[true, true, true, true, true, false, true, true, true, true, true, false, false, true, false] (mkSt [(0, one (cS v5)), (2, one (Cell.ptr 0 0)), (6, one (Cell.ptr 1 0)), (22, one (cI b8)), (24, one (Cell.ep 2 ((1 : Int).toNat) 0)), (28, one (cI b10)), (30, one (Cell.ep 2 ((3 : Int).toNat) 0))] [(2, ⟨1, List.map eI v6⟩)] [(0, [cI (0 : Int), cI (0 : Int), cI (0 : Int), cI (0 : Int)]), (1, [cI (0 : Int), cI (0 : Int), cI (0 : Int), cI (0 : Int)])] 3) := by
        refine hI _ _ _ ?_
        refine A.all [5, 11] (by kernel_rfl) rfl ⟨⟨_, rfl, ?_⟩, ⟨_, rfl, ?_⟩, trivial⟩
        · refine L.loadEp (xs := v6) (e := eI) shape3 hF rfl rfl rfl rfl (at?_get hb9).2 rfl rfl ?_
          refine L.nil ?_
          exact A.on (hO _ _ _ n10239) (Le.mk [(0, 0), (1, 1), (2, 2)] hm rfl ⟨⟨_, rfl, rfl⟩, ⟨_, rfl, rfl⟩, ⟨_, rfl, rfl⟩, ⟨_, rfl, rfl⟩, ⟨_, rfl, rfl⟩, ⟨_, rfl, rfl⟩, ⟨_, rfl, rfl⟩, trivial⟩ ⟨⟨_, rfl, rfl⟩, trivial⟩ ⟨⟨_, _, rfl, rfl, rfl⟩, ⟨_, _, rfl, rfl, rfl⟩, trivial⟩)
        · refine L.loadEp (xs := v6) (e := eI) shape3 hF rfl rfl rfl rfl (at?_get hb11).2 rfl rfl ?_
          refine L.nil ?_
          exact A.on (hO _ _ _ n12255) (Le.mk [(0, 0), (1, 1), (2, 2)] hm rfl ⟨⟨_, rfl, rfl⟩, ⟨_, rfl, rfl⟩, ⟨_, rfl, rfl⟩, ⟨_, rfl, rfl⟩, ⟨_, rfl, rfl⟩, ⟨_, rfl, rfl⟩, ⟨_, rfl, rfl⟩, trivial⟩ ⟨⟨_, rfl, rfl⟩, trivial⟩ ⟨⟨_, _, rfl, rfl, rfl⟩, ⟨_, _, rfl, rfl, rfl⟩, trivial⟩)
      have n10235 : W 4 #[true, true, false, true, true, true, true, true, true, true, true, false, false, true, false] (mkSt [(0, one (cS v5)), (2, one (Cell.ptr 0 0)), (6, one (Cell.ptr 1 0)), (21, one (Cell.ep 2 ((0 : Int).toNat) 0)), (25, one (cI b9)), (28, one (cI b10)), (30, one (Cell.ep 2 ((3 : Int).toNat) 0))] [(2, ⟨1, List.map eI v6⟩)] [(0, [cI (0 : Int), cI (0 : Int), cI (0 : Int), cI (0 : Int)]), (1, [cI (0 : Int), cI (0 : Int), cI (0 : Int), cI (0 : Int)])] 3) := by
        refine hI _ _ _ ?_
        refine A.all [2, 11] (by kernel_rfl) rfl ⟨⟨_, rfl, ?_⟩, ⟨_, rfl, ?_⟩, trivial⟩
        · refine L.loadEp (xs := v6) (e := eI) shape3 hF rfl rfl rfl rfl (at?_get hb8).2 rfl rfl ?_
          refine L.nil ?_
          exact A.on (hO _ _ _ n10239) (Le.mk [(0, 0), (1, 1), (2, 2)] hm rfl ⟨⟨_, rfl, rfl⟩, ⟨_, rfl, rfl⟩, ⟨_, rfl, rfl⟩, ⟨_, rfl, rfl⟩, ⟨_, rfl, rfl⟩, ⟨_, rfl, rfl⟩, ⟨_, rfl, rfl⟩, trivial⟩ ⟨⟨_, rfl, rfl⟩, trivial⟩ ⟨⟨_, _, rfl, rfl, rfl⟩, ⟨_, _, rfl, rfl, rfl⟩, trivial⟩)
        · refine L.loadEp (xs := v6) (e := eI) shape3 hF rfl rfl rfl rfl (at?_get hb11).2 rfl rfl ?_
          refine L.nil ?_
          exact A.on (hO _ _ _ n12283) (Le.mk [(0, 0), (1, 1), (2, 2)] hm rfl ⟨⟨_, rfl, rfl⟩, ⟨_, rfl, rfl⟩, ⟨_, rfl, rfl⟩, ⟨_, rfl, rfl⟩, ⟨_, rfl, rfl⟩, ⟨_, rfl, rfl⟩, ⟨_, rfl, rfl⟩, trivial⟩ ⟨⟨_, rfl, rfl⟩, trivial⟩ ⟨⟨_, _, rfl, rfl, rfl⟩, ⟨_, _, rfl, rfl, rfl⟩, trivial⟩)
      have n9983 : W 4 #[true, true, true, true, true, true, true, true, false, true, true, false, false, true, false] (mkSt [(0, one (cS v5)), (2, one (Cell.ptr 0 0)), (6, one (Cell.ptr 1 0)), (22, one (cI b8)), (25, one (cI b9)), (27, one (Cell.ep 2 ((2 : Int).toNat) 0)), (30, one (Cell.ep 2 ((3 : Int).toNat) 0))] [(2, ⟨1, List.map eI v6⟩)] [(0, [cI (0 : Int), cI (0 : Int), cI (0 : Int), cI (0 : Int)]), (1, [cI (0 : Int), cI (0 : Int), cI (0 : Int), cI (0 : Int)])] 3) := by
        refine hI _ _ _ ?_
        refine A.all [8, 11] (by kernel_rfl) rfl ⟨⟨_, rfl, ?_⟩, ⟨_, rfl, ?_⟩, trivial⟩
        · refine L.loadEp (xs := v6) (e := eI) shape3 hF rfl rfl rfl rfl (at?_get hb10).2 rfl rfl ?_
          refine L.nil ?_
          exact A.on (hO _ _ _ n10239) (Le.mk [(0, 0), (1, 1), (2, 2)] hm rfl ⟨⟨_, rfl, rfl⟩, ⟨_, rfl, rfl⟩, ⟨_, rfl, rfl⟩, ⟨_, rfl, rfl⟩, ⟨_, rfl, rfl⟩, ⟨_, rfl, rfl⟩, ⟨_, rfl, rfl⟩, trivial⟩ ⟨⟨_, rfl, rfl⟩, trivial⟩ ⟨⟨_, _, rfl, rfl, rfl⟩, ⟨_, _, rfl, rfl, rfl⟩, trivial⟩)
        · refine L.loadEp (xs := v6) (e := eI) shape3 hF rfl rfl rfl rfl (at?_get hb11).2 rfl rfl ?_
          refine L.nil ?_
          exact A.on (hO _ _ _ n12031) (Le.mk [(0, 0), (1, 1), (2, 2)] hm rfl ⟨⟨_, rfl, rfl⟩, ⟨_, rfl, rfl⟩, ⟨_, rfl, rfl⟩, ⟨_, rfl, rfl⟩, ⟨_, rfl, rfl⟩, ⟨_, rfl, rfl⟩, ⟨_, rfl, rfl⟩, trivial⟩ ⟨⟨_, rfl, rfl⟩, trivial⟩ ⟨⟨_, _, rfl, rfl, rfl⟩, ⟨_, _, rfl, rfl, rfl⟩, trivial⟩)
      have n2047 : W 4 #[true, true, true, true, true, true, true, true, true, true, true, false, false, false, false] (mkSt [(0, one (cS v5)), (2, one (Cell.ptr 0 0)), (22, one (cI b8)), (25, one (cI b9)), (28, one (cI b10)), (30, one (Cell.ep 1 ((3 : Int).toNat) 0))] [(1, ⟨1, List.map eI v6⟩)] [(0, [cI (0 : Int), cI (0 : Int), cI (0 : Int), cI (0 : Int)])] 2) := by
        refine hI _ _ _ ?_
        refine A.all [11, 13] (by kernel_rfl) rfl ⟨⟨_, rfl, ?_⟩, ⟨_, rfl, ?_⟩, trivial⟩
        · refine L.loadEp (xs := v6) (e := eI) shape3 hF rfl rfl rfl rfl (at?_get hb11).2 rfl rfl ?_
          refine L.nil ?_
          exact A.on (hO _ _ _ n4095) (Le.mk [(0, 0)] hm rfl ⟨⟨_, rfl, rfl⟩, ⟨_, rfl, rfl⟩, ⟨_, rfl, rfl⟩, ⟨_, rfl, rfl⟩, ⟨_, rfl, rfl⟩, ⟨_, rfl, rfl⟩, trivial⟩ trivial ⟨⟨_, _, rfl, rfl, rfl⟩, trivial⟩)
        · refine L.alloc 2 info65 rfl hF rfl rfl rfl rfl ?_
          refine L.nil ?_
          exact A.on (hO _ _ _ n10239) (Le.mk [(0, 0), (1, 2), (2, 1)] hm rfl ⟨⟨_, rfl, rfl⟩, ⟨_, rfl, rfl⟩, ⟨_, rfl, rfl⟩, ⟨_, rfl, rfl⟩, ⟨_, rfl, rfl⟩, ⟨_, rfl, rfl⟩, ⟨_, rfl, rfl⟩, trivial⟩ ⟨⟨_, rfl, rfl⟩, trivial⟩ ⟨⟨_, _, rfl, rfl, rfl⟩, ⟨_, _, rfl, rfl, rfl⟩, trivial⟩)
      have n12251 : W 4 #[true, true, false, true, true, false, true, true, true, true, true, true, false, true, false] (mkSt [(0, one (cS v5)), (2, one (Cell.ptr 0 0)), (6, one (Cell.ptr 1 0)), (21, one (Cell.ep 2 ((0 : Int).toNat) 0)), (24, one (Cell.ep 2 ((1 : Int).toNat) 0)), (28, one (cI b10)), (31, one (cI b11))] [(2, ⟨1, List.map eI v6⟩)] [(0, [cI (0 : Int), cI (0 : Int), cI (0 : Int), cI (0 : Int)]), (1, [cI (0 : Int), cI (0 : Int), cI (0 : Int), cI (0 : Int)])] 3) := by
        refine hI _ _ _ ?_
        refine A.all [2, 5] (by kernel_rfl) rfl ⟨⟨_, rfl, ?_⟩, ⟨_, rfl, ?_⟩, trivial⟩
        · refine L.loadEp (xs := v6) (e := eI) shape3 hF rfl rfl rfl rfl (at?_get hb8).2 rfl rfl ?_
          refine L.nil ?_
          exact A.on (hO _ _ _ n12255) (Le.mk [(0, 0), (1, 1), (2, 2)] hm rfl ⟨⟨_, rfl, rfl⟩, ⟨_, rfl, rfl⟩, ⟨_, rfl, rfl⟩, ⟨_, rfl, rfl⟩, ⟨_, rfl, rfl⟩, ⟨_, rfl, rfl⟩, ⟨_, rfl, rfl⟩, trivial⟩ ⟨⟨_, rfl, rfl⟩, trivial⟩ ⟨⟨_, _, rfl, rfl, rfl⟩, ⟨_, _, rfl, rfl, rfl⟩, trivial⟩)
        · refine L.loadEp (xs := v6) (e := eI) shape3 hF rfl rfl rfl rfl (at?_get hb9).2 rfl rfl ?_
          refine L.nil ?_
          exact A.on (hO _ _ _ n12283) (Le.mk [(0, 0), (1, 1), (2, 2)] hm rfl ⟨⟨_, rfl, rfl⟩, ⟨_, rfl, rfl⟩, ⟨_, rfl, rfl⟩, ⟨_, rfl, rfl⟩, ⟨_, rfl, rfl⟩, ⟨_, rfl, rfl⟩, ⟨_, rfl, rfl⟩, trivial⟩ ⟨⟨_, rfl, rfl⟩, trivial⟩ ⟨⟨_, _, rfl, rfl, rfl⟩, ⟨_, _, rfl, rfl, rfl⟩, trivial⟩)
      have n4063 : W 4 #[true, true, true, true, true, false, true, true, true, true, true, true, false, false, false] (mkSt [(0, one (cS v5)), (2, one (Cell.ptr 0 0)), (22, one (cI b8)), (24, one (Cell.ep 1 ((1 : Int).toNat) 0)), (28, one (cI b10)), (31, one (cI b11))] [(1, ⟨1, List.map eI v6⟩)] [(0, [cI (0 : Int), cI (0 : Int), cI (0 : Int), cI (0 : Int)])] 2) := by
        refine hI _ _ _ ?_
        refine A.all [5, 13] (by kernel_rfl) rfl ⟨⟨_, rfl, ?_⟩, ⟨_, rfl, ?_⟩, trivial⟩
        · refine L.loadEp (xs := v6) (e := eI) shape3 hF rfl rfl rfl rfl (at?_get hb9).2 rfl rfl ?_
          refine L.nil ?_
          exact A.on (hO _ _ _ n4095) (Le.mk [(0, 0)] hm rfl ⟨⟨_, rfl, rfl⟩, ⟨_, rfl, rfl⟩, ⟨_, rfl, rfl⟩, ⟨_, rfl, rfl⟩, ⟨_, rfl, rfl⟩, ⟨_, rfl, rfl⟩, trivial⟩ trivial ⟨⟨_, _, rfl, rfl, rfl⟩, trivial⟩)
        · refine L.alloc 2 info65 rfl hF rfl rfl rfl rfl ?_
          refine L.nil ?_
          exact A.on (hO _ _ _ n12255) (Le.mk [(0, 0), (1, 2), (2, 1)] hm rfl ⟨⟨_, rfl, rfl⟩, ⟨_, rfl, rfl⟩, ⟨_, rfl, rfl⟩, ⟨_, rfl, rfl⟩, ⟨_, rfl, rfl⟩, ⟨_, rfl, rfl⟩, ⟨_, rfl, rfl⟩, trivial⟩ ⟨⟨_, rfl, rfl⟩, trivial⟩ ⟨⟨_, _, rfl, rfl, rfl⟩, ⟨_, _, rfl, rfl, rfl⟩, trivial⟩)
      have n11999 : W 4 #[true, true, true, true, true, false, true, true, false, true, true, true, false, true, false] (mkSt [(0, one (cS v5)), (2, one (Cell.ptr 0 0)), (6, one (Cell.ptr 1 0)), (22, one (cI b8)), (24, one (Cell.ep 2 ((1 : Int).toNat) 0)), (27, one (Cell.ep 2 ((2 : Int).toNat) 0)), (31, one (cI b11))] [(2, ⟨1, List.map eI v6⟩)] [(0, [cI (0 : Int), cI (0 : Int), cI (0 : Int), cI (0 : Int)]), (1, [cI (0 : Int), cI (0 : Int), cI (0 : Int), cI (0 : Int)])] 3) := by
        refine hI _ _ _ ?_
        refine A.all [5, 8] (by kernel_rfl) rfl ⟨⟨_, rfl, ?_⟩, ⟨_, rfl, ?_⟩, trivial⟩
        · refine L.loadEp (xs := v6) (e := eI) shape3 hF rfl rfl rfl rfl (at?_get hb9).2 rfl rfl ?_
          refine L.nil ?_
          exact A.on (hO _ _ _ n12031) (Le.mk [(0, 0), (1, 1), (2, 2)] hm rfl ⟨⟨_, rfl, rfl⟩, ⟨_, rfl, rfl⟩, ⟨_, rfl, rfl⟩, ⟨_, rfl, rfl⟩, ⟨_, rfl, rfl⟩, ⟨_, rfl, rfl⟩, ⟨_, rfl, rfl⟩, trivial⟩ ⟨⟨_, rfl, rfl⟩, trivial⟩ ⟨⟨_, _, rfl, rfl, rfl⟩, ⟨_, _, rfl, rfl, rfl⟩, trivial⟩)
        · refine L.loadEp (xs := v6) (e := eI) shape3 hF rfl rfl rfl rfl (at?_get hb10).2 rfl rfl ?_
          refine L.nil ?_
          exact A.on (hO _ _ _ n12255) (Le.mk [(0, 0), (1, 1), (2, 2)] hm rfl ⟨⟨_, rfl, rfl⟩, ⟨_, rfl, rfl⟩, ⟨_, rfl, rfl⟩, ⟨_, rfl, rfl⟩, ⟨_, rfl, rfl⟩, ⟨_, rfl, rfl⟩, ⟨_, rfl, rfl⟩, trivial⟩ ⟨⟨_, rfl, rfl⟩, trivial⟩ ⟨⟨_, _, rfl, rfl, rfl⟩, ⟨_, _, rfl, rfl, rfl⟩, trivial⟩)
      have n12027 : W 4 #[true, true, false, true, true, true, true, true, false, true, true, true, false, true, false] (mkSt [(0, one (cS v5)), (2, one (Cell.ptr 0 0)), (6, one (Cell.ptr 1 0)), (21, one (Cell.ep 2 ((0 : Int).toNat) 0)), (25, one (cI b9)), (27, one (Cell.ep 2 ((2 : Int).toNat) 0)), (31, one (cI b11))] [(2, ⟨1, List.map eI v6⟩)] [(0, [cI (0 : Int), cI (0 : Int), cI (0 : Int), cI (0 : Int)]), (1, [cI (0 : Int), cI (0 : Int), cI (0 : Int), cI (0 : Int)])] 3) := by
        refine hI _ _ _ ?_
        refine A.all [2, 8] (by kernel_rfl) rfl ⟨⟨_, rfl, ?_⟩, ⟨_, rfl, ?_⟩, trivial⟩
        · refine L.loadEp (xs := v6) (e := eI) shape3 hF rfl rfl rfl rfl (at?_get hb8).2 rfl rfl ?_
          refine L.nil ?_
          exact A.on (hO _ _ _ n12031) (Le.mk [(0, 0), (1, 1), (2, 2)] hm rfl ⟨⟨_, rfl, rfl⟩, ⟨_, rfl, rfl⟩, ⟨_, rfl, rfl⟩, ⟨_, rfl, rfl⟩, ⟨_, rfl, rfl⟩, ⟨_, rfl, rfl⟩, ⟨_, rfl, rfl⟩, trivial⟩ ⟨⟨_, rfl, rfl⟩, trivial⟩ ⟨⟨_, _, rfl, rfl, rfl⟩, ⟨_, _, rfl, rfl, rfl⟩, trivial⟩)
        · refine L.loadEp (xs := v6) (e := eI) shape3 hF rfl rfl rfl rfl (at?_get hb10).2 rfl rfl ?_
          refine L.nil ?_
          exact A.on (hO _ _ _ n12283) (Le.mk [(0, 0), (1, 1), (2, 2)] hm rfl ⟨⟨_, rfl, rfl⟩, ⟨_, rfl, rfl⟩, ⟨_, rfl, rfl⟩, ⟨_, rfl, rfl⟩, ⟨_, rfl, rfl⟩, ⟨_, rfl, rfl⟩, ⟨_, rfl, rfl⟩, trivial⟩ ⟨⟨_, rfl, rfl⟩, trivial⟩ ⟨⟨_, _, rfl, rfl, rfl⟩, ⟨_, _, rfl, rfl, rfl⟩, trivial⟩)
      have n4091 : W 4 #[true, true, false, true, true, true, true, true, true, true, true, true, false, false, false] (mkSt [(0, one (cS v5)), (2, one (Cell.ptr 0 0)), (21, one (Cell.ep 1 ((0 : Int).toNat) 0)), (25, one (cI b9)), (28, one (cI b10)), (31, one (cI b11))] [(1, ⟨1, List.map eI v6⟩)] [(0, [cI (0 : Int), cI (0 : Int), cI (0 : Int), cI (0 : Int)])] 2) := by
        refine hI _ _ _ ?_
        refine A.all [2, 13] (by kernel_rfl) rfl ⟨⟨_, rfl, ?_⟩, ⟨_, rfl, ?_⟩, trivial⟩
        · refine L.loadEp (xs := v6) (e := eI) shape3 hF rfl rfl rfl rfl (at?_get hb8).2 rfl rfl ?_
          refine L.nil ?_
          exact A.on (hO _ _ _ n4095) (Le.mk [(0, 0)] hm rfl ⟨⟨_, rfl, rfl⟩, ⟨_, rfl, rfl⟩, ⟨_, rfl, rfl⟩, ⟨_, rfl, rfl⟩, ⟨_, rfl, rfl⟩, ⟨_, rfl, rfl⟩, trivial⟩ trivial ⟨⟨_, _, rfl, rfl, rfl⟩, trivial⟩)
        · refine L.alloc 2 info65 rfl hF rfl rfl rfl rfl ?_
          refine L.nil ?_
          exact A.on (hO _ _ _ n12283) (Le.mk [(0, 0), (1, 2), (2, 1)] hm rfl ⟨⟨_, rfl, rfl⟩, ⟨_, rfl, rfl⟩, ⟨_, rfl, rfl⟩, ⟨_, rfl, rfl⟩, ⟨_, rfl, rfl⟩, ⟨_, rfl, rfl⟩, ⟨_, rfl, rfl⟩, trivial⟩ ⟨⟨_, rfl, rfl⟩, trivial⟩ ⟨⟨_, _, rfl, rfl, rfl⟩, ⟨_, _, rfl, rfl, rfl⟩, trivial⟩)
      have n3839 : W 4 #[true, true, true, true, true, true, true, true, false, true, true, true, false, false, false] (mkSt [(0, one (cS v5)), (2, one (Cell.ptr 0 0)), (22, one (cI b8)), (25, one (cI b9)), (27, one (Cell.ep 1 ((2 : Int).toNat) 0)), (31, one (cI b11))] [(1, ⟨1, List.map eI v6⟩)] [(0, [cI (0 : Int), cI (0 : Int), cI (0 : Int), cI (0 : Int)])] 2) := by
        refine hI _ _ _ ?_
        refine A.all [8, 13] (by kernel_rfl) rfl ⟨⟨_, rfl, ?_⟩, ⟨_, rfl, ?_⟩, trivial⟩
        · refine L.loadEp (xs := v6) (e := eI) shape3 hF rfl rfl rfl rfl (at?_get hb10).2 rfl rfl ?_
          refine L.nil ?_
          exact A.on (hO _ _ _ n4095) (Le.mk [(0, 0)] hm rfl ⟨⟨_, rfl, rfl⟩, ⟨_, rfl, rfl⟩, ⟨_, rfl, rfl⟩, ⟨_, rfl, rfl⟩, ⟨_, rfl, rfl⟩, ⟨_, rfl, rfl⟩, trivial⟩ trivial ⟨⟨_, _, rfl, rfl, rfl⟩, trivial⟩)
        · refine L.alloc 2 info65 rfl hF rfl rfl rfl rfl ?_
          refine L.nil ?_
          exact A.on (hO _ _ _ n12031) (Le.mk [(0, 0), (1, 2), (2, 1)] hm rfl ⟨⟨_, rfl, rfl⟩, ⟨_, rfl, rfl⟩, ⟨_, rfl, rfl⟩, ⟨_, rfl, rfl⟩, ⟨_, rfl, rfl⟩, ⟨_, rfl, rfl⟩, ⟨_, rfl, rfl⟩, trivial⟩ ⟨⟨_, rfl, rfl⟩, trivial⟩ ⟨⟨_, _, rfl, rfl, rfl⟩, ⟨_, _, rfl, rfl, rfl⟩, trivial⟩)
      have n2015 : W 5 #[true, true, true, true, true, false, true, true, true, true, true, false, false, false, false] (mkSt [(0, one (cS v5)), (2, one (Cell.ptr 0 0)), (22, one (cI b8)), (24, one (Cell.ep 1 ((1 : Int).toNat) 0)), (28, one (cI b10)), (30, one (Cell.ep 1 ((3 : Int).toNat) 0))] [(1, ⟨1, List.map eI v6⟩)] [(0, [cI (0 : Int), cI (0 : Int), cI (0 : Int), cI (0 : Int)])] 2) := by
        refine hI _ _ _ ?_
        refine A.all [5, 11, 13] (by kernel_rfl) rfl ⟨⟨_, rfl, ?_⟩, ⟨_, rfl, ?_⟩, ⟨_, rfl, ?_⟩, trivial⟩
        · refine L.loadEp (xs := v6) (e := eI) shape3 hF rfl rfl rfl rfl (at?_get hb9).2 rfl rfl ?_
          refine L.nil ?_
          exact A.on (hO _ _ _ n2047) (Le.mk [(0, 0), (1, 1)] hm rfl ⟨⟨_, rfl, rfl⟩, ⟨_, rfl, rfl⟩, ⟨_, rfl, rfl⟩, ⟨_, rfl, rfl⟩, ⟨_, rfl, rfl⟩, ⟨_, rfl, rfl⟩, trivial⟩ ⟨⟨_, rfl, rfl⟩, trivial⟩ ⟨⟨_, _, rfl, rfl, rfl⟩, trivial⟩)
        · refine L.loadEp (xs := v6) (e := eI) shape3 hF rfl rfl rfl rfl (at?_get hb11).2 rfl rfl ?_
          refine L.nil ?_
          exact A.on (hO _ _ _ n4063) (Le.mk [(0, 0), (1, 1)] hm rfl ⟨⟨_, rfl, rfl⟩, ⟨_, rfl, rfl⟩, ⟨_, rfl, rfl⟩, ⟨_, rfl, rfl⟩, ⟨_, rfl, rfl⟩, ⟨_, rfl, rfl⟩, trivial⟩ ⟨⟨_, rfl, rfl⟩, trivial⟩ ⟨⟨_, _, rfl, rfl, rfl⟩, trivial⟩)
        · refine L.alloc 2 info65 rfl hF rfl rfl rfl rfl ?_
          refine L.nil ?_
          exact A.on (hO _ _ _ n10207) (Le.mk [(0, 0), (1, 2), (2, 1)] hm rfl ⟨⟨_, rfl, rfl⟩, ⟨_, rfl, rfl⟩, ⟨_, rfl, rfl⟩, ⟨_, rfl, rfl⟩, ⟨_, rfl, rfl⟩, ⟨_, rfl, rfl⟩, ⟨_, rfl, rfl⟩, trivial⟩ ⟨⟨_, rfl, rfl⟩, trivial⟩ ⟨⟨_, _, rfl, rfl, rfl⟩, ⟨_, _, rfl, rfl, rfl⟩, trivial⟩)
      have n2043 : W 5 #[true, true, false, true, true, true, true, true, true, true, true, false, false, false, false] (mkSt [(0, one (cS v5)), (2, one (Cell.ptr 0 0)), (21, one (Cell.ep 1 ((0 : Int).toNat) 0)), (25, one (cI b9)), (28, one (cI b10)), (30, one (Cell.ep 1 ((3 : Int).toNat) 0))] [(1, ⟨1, List.map eI v6⟩)] [(0, [cI (0 : Int), cI (0 : Int), cI (0 : Int), cI (0 : Int)])] 2) := by
        refine hI _ _ _ ?_
        refine A.all [2, 11, 13] (by kernel_rfl) rfl ⟨⟨_, rfl, ?_⟩, ⟨_, rfl, ?_⟩, ⟨_, rfl, ?_⟩, trivial⟩
        · refine L.loadEp (xs := v6) (e := eI) shape3 hF rfl rfl rfl rfl (at?_get hb8).2 rfl rfl ?_
          refine L.nil ?_
          exact A.on (hO _ _ _ n2047) (Le.mk [(0, 0), (1, 1)] hm rfl ⟨⟨_, rfl, rfl⟩, ⟨_, rfl, rfl⟩, ⟨_, rfl, rfl⟩, ⟨_, rfl, rfl⟩, ⟨_, rfl, rfl⟩, ⟨_, rfl, rfl⟩, trivial⟩ ⟨⟨_, rfl, rfl⟩, trivial⟩ ⟨⟨_, _, rfl, rfl, rfl⟩, trivial⟩)
        · refine L.loadEp (xs := v6) (e := eI) shape3 hF rfl rfl rfl rfl (at?_get hb11).2 rfl rfl ?_
          refine L.nil ?_
          exact A.on (hO _ _ _ n4091) (Le.mk [(0, 0), (1, 1)] hm rfl ⟨⟨_, rfl, rfl⟩, ⟨_, rfl, rfl⟩, ⟨_, rfl, rfl⟩, ⟨_, rfl, rfl⟩, ⟨_, rfl, rfl⟩, ⟨_, rfl, rfl⟩, trivial⟩ ⟨⟨_, rfl, rfl⟩, trivial⟩ ⟨⟨_, _, rfl, rfl, rfl⟩, trivial⟩)
        · refine L.alloc 2 info65 rfl hF rfl rfl rfl rfl ?_
          refine L.nil ?_
          exact A.on (hO _ _ _ n10235) (Le.mk [(0, 0), (1, 2), (2, 1)] hm rfl ⟨⟨_, rfl, rfl⟩, ⟨_, rfl, rfl⟩, ⟨_, rfl, rfl⟩, ⟨_, rfl, rfl⟩, ⟨_, rfl, rfl⟩, ⟨_, rfl, rfl⟩, ⟨_, rfl, rfl⟩, trivial⟩ ⟨⟨_, rfl, rfl⟩, trivial⟩ ⟨⟨_, _, rfl, rfl, rfl⟩, ⟨_, _, rfl, rfl, rfl⟩, trivial⟩)
      have n1791 : W 5 #[true, true, true, true, true, true, true, true, false, true, true, false, false, false, false] (mkSt [(0, one (cS v5)), (2, one (Cell.ptr 0 0)), (22, one (cI b8)), (25, one (cI b9)), (27, one (Cell.ep 1 ((2 : Int).toNat) 0)), (30, one (Cell.ep 1 ((3 : Int).toNat) 0))] [(1, ⟨1, List.map eI v6⟩)] [(0, [cI (0 : Int), cI (0 : Int), cI (0 : Int), cI (0 : Int)])] 2) := by
        refine hI _ _ _ ?_
        refine A.all [8, 11, 13] (by kernel_rfl) rfl ⟨⟨_, rfl, ?_⟩, ⟨_, rfl, ?_⟩, ⟨_, rfl, ?_⟩, trivial⟩
        · refine L.loadEp (xs := v6) (e := eI) shape3 hF rfl rfl rfl rfl (at?_get hb10).2 rfl rfl ?_
          refine L.nil ?_
          exact A.on (hO _ _ _ n2047) (Le.mk [(0, 0), (1, 1)] hm rfl ⟨⟨_, rfl, rfl⟩, ⟨_, rfl, rfl⟩, ⟨_, rfl, rfl⟩, ⟨_, rfl, rfl⟩, ⟨_, rfl, rfl⟩, ⟨_, rfl, rfl⟩, trivial⟩ ⟨⟨_, rfl, rfl⟩, trivial⟩ ⟨⟨_, _, rfl, rfl, rfl⟩, trivial⟩)
        · refine L.loadEp (xs := v6) (e := eI) shape3 hF rfl rfl rfl rfl (at?_get hb11).2 rfl rfl ?_
          refine L.nil ?_
          exact A.on (hO _ _ _ n3839) (Le.mk [(0, 0), (1, 1)] hm rfl ⟨⟨_, rfl, rfl⟩, ⟨_, rfl, rfl⟩, ⟨_, rfl, rfl⟩, ⟨_, rfl, rfl⟩, ⟨_, rfl, rfl⟩, ⟨_, rfl, rfl⟩, trivial⟩ ⟨⟨_, rfl, rfl⟩, trivial⟩ ⟨⟨_, _, rfl, rfl, rfl⟩, trivial⟩)
        · refine L.alloc 2 info65 rfl hF rfl rfl rfl rfl ?_
          refine L.nil ?_
          exact A.on (hO _ _ _ n9983) (Le.mk [(0, 0), (1, 2), (2, 1)] hm rfl ⟨⟨_, rfl, rfl⟩, ⟨_, rfl, rfl⟩, ⟨_, rfl, rfl⟩, ⟨_, rfl, rfl⟩, ⟨_, rfl, rfl⟩, ⟨_, rfl, rfl⟩, ⟨_, rfl, rfl⟩, trivial⟩ ⟨⟨_, rfl, rfl⟩, trivial⟩ ⟨⟨_, _, rfl, rfl, rfl⟩, ⟨_, _, rfl, rfl, rfl⟩, trivial⟩)
      have n4059 : W 5 #[true, true, false, true, true, false, true, true, true, true, true, true, false, false, false] (mkSt [(0, one (cS v5)), (2, one (Cell.ptr 0 0)), (21, one (Cell.ep 1 ((0 : Int).toNat) 0)), (24, one (Cell.ep 1 ((1 : Int).toNat) 0)), (28, one (cI b10)), (31, one (cI b11))] [(1, ⟨1, List.map eI v6⟩)] [(0, [cI (0 : Int), cI (0 : Int), cI (0 : Int), cI (0 : Int)])] 2) := by
        refine hI _ _ _ ?_
        refine A.all [2, 5, 13] (by kernel_rfl) rfl ⟨⟨_, rfl, ?_⟩, ⟨_, rfl, ?_⟩, ⟨_, rfl, ?_⟩, trivial⟩
        · refine L.loadEp (xs := v6) (e := eI) shape3 hF rfl rfl rfl rfl (at?_get hb8).2 rfl rfl ?_
          refine L.nil ?_
          exact A.on (hO _ _ _ n4063) (Le.mk [(0, 0), (1, 1)] hm rfl ⟨⟨_, rfl, rfl⟩, ⟨_, rfl, rfl⟩, ⟨_, rfl, rfl⟩, ⟨_, rfl, rfl⟩, ⟨_, rfl, rfl⟩, ⟨_, rfl, rfl⟩, trivial⟩ ⟨⟨_, rfl, rfl⟩, trivial⟩ ⟨⟨_, _, rfl, rfl, rfl⟩, trivial⟩)
        · refine L.loadEp (xs := v6) (e := eI) shape3 hF rfl rfl rfl rfl (at?_get hb9).2 rfl rfl ?_
          refine L.nil ?_
          exact A.on (hO _ _ _ n4091) (Le.mk [(0, 0), (1, 1)] hm rfl ⟨⟨_, rfl, rfl⟩, ⟨_, rfl, rfl⟩, ⟨_, rfl, rfl⟩, ⟨_, rfl, rfl⟩, ⟨_, rfl, rfl⟩, ⟨_, rfl, rfl⟩, trivial⟩ ⟨⟨_, rfl, rfl⟩, trivial⟩ ⟨⟨_, _, rfl, rfl, rfl⟩, trivial⟩)
        · refine L.alloc 2 info65 rfl hF rfl rfl rfl rfl ?_
          refine L.nil ?_
          exact A.on (hO _ _ _ n12251) (Le.mk [(0, 0), (1, 2), (2, 1)] hm rfl ⟨⟨_, rfl, rfl⟩, ⟨_, rfl, rfl⟩, ⟨_, rfl, rfl⟩, ⟨_, rfl, rfl⟩, ⟨_, rfl, rfl⟩, ⟨_, rfl, rfl⟩, ⟨_, rfl, rfl⟩, trivial⟩ ⟨⟨_, rfl, rfl⟩, trivial⟩ ⟨⟨_, _, rfl, rfl, rfl⟩, ⟨_, _, rfl, rfl, rfl⟩, trivial⟩)
      have n3835 : W 5 #[true, true, false, true, true, true, true, true, false, true, true, true, false, false, false] (mkSt [(0, one (cS v5)), (2, one (Cell.ptr 0 0)), (21, one (Cell.ep 1 ((0 : Int).toNat) 0)), (25, one (cI b9)), (27, one (Cell.ep 1 ((2 : Int).toNat) 0)), (31, one (cI b11))] [(1, ⟨1, List.map eI v6⟩)] [(0, [cI (0 : Int), cI (0 : Int), cI (0 : Int), cI (0 : Int)])] 2) := by
        refine hI _ _ _ ?_
        refine A.all [2, 8, 13] (by kernel_rfl) rfl ⟨⟨_, rfl, ?_⟩, ⟨_, rfl, ?_⟩, ⟨_, rfl, ?_⟩, trivial⟩
        · refine L.loadEp (xs := v6) (e := eI) shape3 hF rfl rfl rfl rfl (at?_get hb8).2 rfl rfl ?_
          refine L.nil ?_
          exact A.on (hO _ _ _ n3839) (Le.mk [(0, 0), (1, 1)] hm rfl ⟨⟨_, rfl, rfl⟩, ⟨_, rfl, rfl⟩, ⟨_, rfl, rfl⟩, ⟨_, rfl, rfl⟩, ⟨_, rfl, rfl⟩, ⟨_, rfl, rfl⟩, trivial⟩ ⟨⟨_, rfl, rfl⟩, trivial⟩ ⟨⟨_, _, rfl, rfl, rfl⟩, trivial⟩)
        · refine L.loadEp (xs := v6) (e := eI) shape3 hF rfl rfl rfl rfl (at?_get hb10).2 rfl rfl ?_
          refine L.nil ?_
          exact A.on (hO _ _ _ n4091) (Le.mk [(0, 0), (1, 1)] hm rfl ⟨⟨_, rfl, rfl⟩, ⟨_, rfl, rfl⟩, ⟨_, rfl, rfl⟩, ⟨_, rfl, rfl⟩, ⟨_, rfl, rfl⟩, ⟨_, rfl, rfl⟩, trivial⟩ ⟨⟨_, rfl, rfl⟩, trivial⟩ ⟨⟨_, _, rfl, rfl, rfl⟩, trivial⟩)
        · refine L.alloc 2 info65 rfl hF rfl rfl rfl rfl ?_
          refine L.nil ?_
          exact A.on (hO _ _ _ n12027) (Le.mk [(0, 0), (1, 2), (2, 1)] hm rfl ⟨⟨_, rfl, rfl⟩, ⟨_, rfl, rfl⟩, ⟨_, rfl, rfl⟩, ⟨_, rfl, rfl⟩, ⟨_, rfl, rfl⟩, ⟨_, rfl, rfl⟩, ⟨_, rfl, rfl⟩, trivial⟩ ⟨⟨_, rfl, rfl⟩, trivial⟩ ⟨⟨_, _, rfl, rfl, rfl⟩, ⟨_, _, rfl, rfl, rfl⟩, trivial⟩)
      have n3807 : W 5 #[true, true, true, true, true, false, true, true, false, true, true, true, false, false, false] (mkSt [(0, one (cS v5)), (2, one (Cell.ptr 0 0)), (22, one (cI b8)), (24, one (Cell.ep 1 ((1 : Int).toNat) 0)), (27, one (Cell.ep 1 ((2 : Int).toNat) 0)), (31, one (cI b11))] [(1, ⟨1, List.map eI v6⟩)] [(0, [cI (0 : Int), cI (0 : Int), cI (0 : Int), cI (0 : Int)])] 2) := by
        refine hI _ _ _ ?_
        refine A.all [5, 8, 13] (by kernel_rfl) rfl ⟨⟨_, rfl, ?_⟩, ⟨_, rfl, ?_⟩, ⟨_, rfl, ?_⟩, trivial⟩
        · refine L.loadEp (xs := v6) (e := eI) shape3 hF rfl rfl rfl rfl (at?_get hb9).2 rfl rfl ?_
          refine L.nil ?_
          exact A.on (hO _ _ _ n3839) (Le.mk [(0, 0), (1, 1)] hm rfl ⟨⟨_, rfl, rfl⟩, ⟨_, rfl, rfl⟩, ⟨_, rfl, rfl⟩, ⟨_, rfl, rfl⟩, ⟨_, rfl, rfl⟩, ⟨_, rfl, rfl⟩, trivial⟩ ⟨⟨_, rfl, rfl⟩, trivial⟩ ⟨⟨_, _, rfl, rfl, rfl⟩, trivial⟩)
        · refine L.loadEp (xs := v6) (e := eI) shape3 hF rfl rfl rfl rfl (at?_get hb10).2 rfl rfl ?_
          refine L.nil ?_
          exact A.on (hO _ _ _ n4063) (Le.mk [(0, 0), (1, 1)] hm rfl ⟨⟨_, rfl, rfl⟩, ⟨_, rfl, rfl⟩, ⟨_, rfl, rfl⟩, ⟨_, rfl, rfl⟩, ⟨_, rfl, rfl⟩, ⟨_, rfl, rfl⟩, trivial⟩ ⟨⟨_, rfl, rfl⟩, trivial⟩ ⟨⟨_, _, rfl, rfl, rfl⟩, trivial⟩)
        · refine L.alloc 2 info65 rfl hF rfl rfl rfl rfl ?_
          refine L.nil ?_
          exact A.on (hO _ _ _ n11999) (Le.mk [(0, 0), (1, 2), (2, 1)] hm rfl ⟨⟨_, rfl, rfl⟩, ⟨_, rfl, rfl⟩, ⟨_, rfl, rfl⟩, ⟨_, rfl, rfl⟩, ⟨_, rfl, rfl⟩, ⟨_, rfl, rfl⟩, ⟨_, rfl, rfl⟩, trivial⟩ ⟨⟨_, rfl, rfl⟩, trivial⟩ ⟨⟨_, _, rfl, rfl, rfl⟩, ⟨_, _, rfl, rfl, rfl⟩, trivial⟩)
      have n11995 : W 5 #[true, true, false, true, true, false, true, true, false, true, true, true, false, true, false] (mkSt [(0, one (cS v5)), (2, one (Cell.ptr 0 0)), (6, one (Cell.ptr 1 0)), (21, one (Cell.ep 2 ((0 : Int).toNat) 0)), (24, one (Cell.ep 2 ((1 : Int).toNat) 0)), (27, one (Cell.ep 2 ((2 : Int).toNat) 0)), (31, one (cI b11))] [(2, ⟨1, List.map eI v6⟩)] [(0, [cI (0 : Int), cI (0 : Int), cI (0 : Int), cI (0 : Int)]), (1, [cI (0 : Int), cI (0 : Int), cI (0 : Int), cI (0 : Int)])] 3) := by
        refine hI _ _ _ ?_
        refine A.all [2, 5, 8] (by kernel_rfl) rfl ⟨⟨_, rfl, ?_⟩, ⟨_, rfl, ?_⟩, ⟨_, rfl, ?_⟩, trivial⟩
        · refine L.loadEp (xs := v6) (e := eI) shape3 hF rfl rfl rfl rfl (at?_get hb8).2 rfl rfl ?_
          refine L.nil ?_
          exact A.on (hO _ _ _ n11999) (Le.mk [(0, 0), (1, 1), (2, 2)] hm rfl ⟨⟨_, rfl, rfl⟩, ⟨_, rfl, rfl⟩, ⟨_, rfl, rfl⟩, ⟨_, rfl, rfl⟩, ⟨_, rfl, rfl⟩, ⟨_, rfl, rfl⟩, ⟨_, rfl, rfl⟩, trivial⟩ ⟨⟨_, rfl, rfl⟩, trivial⟩ ⟨⟨_, _, rfl, rfl, rfl⟩, ⟨_, _, rfl, rfl, rfl⟩, trivial⟩)
        · refine L.loadEp (xs := v6) (e := eI) shape3 hF rfl rfl rfl rfl (at?_get hb9).2 rfl rfl ?_
          refine L.nil ?_
          exact A.on (hO _ _ _ n12027) (Le.mk [(0, 0), (1, 1), (2, 2)] hm rfl ⟨⟨_, rfl, rfl⟩, ⟨_, rfl, rfl⟩, ⟨_, rfl, rfl⟩, ⟨_, rfl, rfl⟩, ⟨_, rfl, rfl⟩, ⟨_, rfl, rfl⟩, ⟨_, rfl, rfl⟩, trivial⟩ ⟨⟨_, rfl, rfl⟩, trivial⟩ ⟨⟨_, _, rfl, rfl, rfl⟩, ⟨_, _, rfl, rfl, rfl⟩, trivial⟩)
        · refine L.loadEp (xs := v6) (e := eI) shape3 hF rfl rfl rfl rfl (at?_get hb10).2 rfl rfl ?_
          refine L.nil ?_
          exact A.on (hO _ _ _ n12251) (Le.mk [(0, 0), (1, 1), (2, 2)] hm rfl ⟨⟨_, rfl, rfl⟩, ⟨_, rfl, rfl⟩, ⟨_, rfl, rfl⟩, ⟨_, rfl, rfl⟩, ⟨_, rfl, rfl⟩, ⟨_, rfl, rfl⟩, ⟨_, rfl, rfl⟩, trivial⟩ ⟨⟨_, rfl, rfl⟩, trivial⟩ ⟨⟨_, _, rfl, rfl, rfl⟩, ⟨_, _, rfl, rfl, rfl⟩, trivial⟩)
      have n10203 : W 5 #[true, true, false, true, true, false, true, true, true, true, true, false, false, true, false] (mkSt [(0, one (cS v5)), (2, one (Cell.ptr 0 0)), (6, one (Cell.ptr 1 0)), (21, one (Cell.ep 2 ((0 : Int).toNat) 0)), (24, one (Cell.ep 2 ((1 : Int).toNat) 0)), (28, one (cI b10)), (30, one (Cell.ep 2 ((3 : Int).toNat) 0))] [(2, ⟨1, List.map eI v6⟩)] [(0, [cI (0 : Int), cI (0 : Int), cI (0 : Int), cI (0 : Int)]), (1, [cI (0 : Int), cI (0 : Int), cI (0 : Int), cI (0 : Int)])] 3) := by
        refine hI _ _ _ ?_
        refine A.all [2, 5, 11] (by kernel_rfl) rfl ⟨⟨_, rfl, ?_⟩, ⟨_, rfl, ?_⟩, ⟨_, rfl, ?_⟩, trivial⟩
        · refine L.loadEp (xs := v6) (e := eI) shape3 hF rfl rfl rfl rfl (at?_get hb8).2 rfl rfl ?_
          refine L.nil ?_
          exact A.on (hO _ _ _ n10207) (Le.mk [(0, 0), (1, 1), (2, 2)] hm rfl ⟨⟨_, rfl, rfl⟩, ⟨_, rfl, rfl⟩, ⟨_, rfl, rfl⟩, ⟨_, rfl, rfl⟩, ⟨_, rfl, rfl⟩, ⟨_, rfl, rfl⟩, ⟨_, rfl, rfl⟩, trivial⟩ ⟨⟨_, rfl, rfl⟩, trivial⟩ ⟨⟨_, _, rfl, rfl, rfl⟩, ⟨_, _, rfl, rfl, rfl⟩, trivial⟩)
        · refine L.loadEp (xs := v6) (e := eI) shape3 hF rfl rfl rfl rfl (at?_get hb9).2 rfl rfl ?_
          refine L.nil ?_
          exact A.on (hO _ _ _ n10235) (Le.mk [(0, 0), (1, 1), (2, 2)] hm rfl ⟨⟨_, rfl, rfl⟩, ⟨_, rfl, rfl⟩, ⟨_, rfl, rfl⟩, ⟨_, rfl, rfl⟩, ⟨_, rfl, rfl⟩, ⟨_, rfl, rfl⟩, ⟨_, rfl, rfl⟩, trivial⟩ ⟨⟨_, rfl, rfl⟩, trivial⟩ ⟨⟨_, _, rfl, rfl, rfl⟩, ⟨_, _, rfl, rfl, rfl⟩, trivial⟩)
        · refine L.loadEp (xs := v6) (e := eI) shape3 hF rfl rfl rfl rfl (at?_get hb11).2 rfl rfl ?_
          refine L.nil ?_
          exact A.on (hO _ _ _ n12251) (Le.mk [(0, 0), (1, 1), (2, 2)] hm rfl ⟨⟨_, rfl, rfl⟩, ⟨_, rfl, rfl⟩, ⟨_, rfl, rfl⟩, ⟨_, rfl, rfl⟩, ⟨_, rfl, rfl⟩, ⟨_, rfl, rfl⟩, ⟨_, rfl, rfl⟩, trivial⟩ ⟨⟨_, rfl, rfl⟩, trivial⟩ ⟨⟨_, _, rfl, rfl, rfl⟩, ⟨_, _, rfl, rfl, rfl⟩, trivial⟩)
      have n9951 : W 5 #[true, true, true, true, true, false, true, true, false, true, true, false, false, true, false] (mkSt [(0, one (cS v5)), (2, one (Cell.ptr 0 0)), (6, one (Cell.ptr 1 0)), (22, one (cI b8)), (24, one (Cell.ep 2 ((1 : Int).toNat) 0)), (27, one (Cell.ep 2 ((2 : Int).toNat) 0)), (30, one (Cell.ep 2 ((3 : Int).toNat) 0))] [(2, ⟨1, List.map eI v6⟩)] [(0, [cI (0 : Int), cI (0 : Int), cI (0 : Int), cI (0 : Int)]), (1, [cI (0 : Int), cI (0 : Int), cI (0 : Int), cI (0 : Int)])] 3) := by
        refine hI _ _ _ ?_
        refine A.all [5, 8, 11] (by kernel_rfl) rfl ⟨⟨_, rfl, ?_⟩, ⟨_, rfl, ?_⟩, ⟨_, rfl, ?_⟩, trivial⟩
        · refine L.loadEp (xs := v6) (e := eI) shape3 hF rfl rfl rfl rfl (at?_get hb9).2 rfl rfl ?_
          refine L.nil ?_
          exact A.on (hO _ _ _ n9983) (Le.mk [(0, 0), (1, 1), (2, 2)] hm rfl ⟨⟨_, rfl, rfl⟩, ⟨_, rfl, rfl⟩, ⟨_, rfl, rfl⟩, ⟨_, rfl, rfl⟩, ⟨_, rfl, rfl⟩, ⟨_, rfl, rfl⟩, ⟨_, rfl, rfl⟩, trivial⟩ ⟨⟨_, rfl, rfl⟩, trivial⟩ ⟨⟨_, _, rfl, rfl, rfl⟩, ⟨_, _, rfl, rfl, rfl⟩, trivial⟩)
        · refine L.loadEp (xs := v6) (e := eI) shape3 hF rfl rfl rfl rfl (at?_get hb10).2 rfl rfl ?_
          refine L.nil ?_
          exact A.on (hO _ _ _ n10207) (Le.mk [(0, 0), (1, 1), (2, 2)] hm rfl ⟨⟨_, rfl, rfl⟩, ⟨_, rfl, rfl⟩, ⟨_, rfl, rfl⟩, ⟨_, rfl, rfl⟩, ⟨_, rfl, rfl⟩, ⟨_, rfl, rfl⟩, ⟨_, rfl, rfl⟩, trivial⟩ ⟨⟨_, rfl, rfl⟩, trivial⟩ ⟨⟨_, _, rfl, rfl, rfl⟩, ⟨_, _, rfl, rfl, rfl⟩, trivial⟩)
        · refine L.loadEp (xs := v6) (e := eI) shape3 hF rfl rfl rfl rfl (at?_get hb11).2 rfl rfl ?_
          refine L.nil ?_
          exact A.on (hO _ _ _ n11999) (Le.mk [(0, 0), (1, 1), (2, 2)] hm rfl ⟨⟨_, rfl, rfl⟩, ⟨_, rfl, rfl⟩, ⟨_, rfl, rfl⟩, ⟨_, rfl, rfl⟩, ⟨_, rfl, rfl⟩, ⟨_, rfl, rfl⟩, ⟨_, rfl, rfl⟩, trivial⟩ ⟨⟨_, rfl, rfl⟩, trivial⟩ ⟨⟨_, _, rfl, rfl, rfl⟩, ⟨_, _, rfl, rfl, rfl⟩, trivial⟩)
      have n9979 : W 5 #[true, true, false, true, true, true, true, true, false, true, true, false, false, true, false] (mkSt [(0, one (cS v5)), (2, one (Cell.ptr 0 0)), (6, one (Cell.ptr 1 0)), (21, one (Cell.ep 2 ((0 : Int).toNat) 0)), (25, one (cI b9)), (27, one (Cell.ep 2 ((2 : Int).toNat) 0)), (30, one (Cell.ep 2 ((3 : Int).toNat) 0))] [(2, ⟨1, List.map eI v6⟩)] [(0, [cI (0 : Int), cI (0 : Int), cI (0 : Int), cI (0 : Int)]), (1, [cI (0 : Int), cI (0 : Int), cI (0 : Int), cI (0 : Int)])] 3) := by
        refine hI _ _ _ ?_
        refine A.all [2, 8, 11] (by kernel_rfl) rfl ⟨⟨_, rfl, ?_⟩, ⟨_, rfl, ?_⟩, ⟨_, rfl, ?_⟩, trivial⟩
        · refine L.loadEp (xs := v6) (e := eI) shape3 hF rfl rfl rfl rfl (at?_get hb8).2 rfl rfl ?_
          refine L.nil ?_
          exact A.on (hO _ _ _ n9983) (Le.mk [(0, 0), (1, 1), (2, 2)] hm rfl ⟨⟨_, rfl, rfl⟩, ⟨_, rfl, rfl⟩, ⟨_, rfl, rfl⟩, ⟨_, rfl, rfl⟩, ⟨_, rfl, rfl⟩, ⟨_, rfl, rfl⟩, ⟨_, rfl, rfl⟩, trivial⟩ ⟨⟨_, rfl, rfl⟩, trivial⟩ ⟨⟨_, _, rfl, rfl, rfl⟩, ⟨_, _, rfl, rfl, rfl⟩, trivial⟩)
        · refine L.loadEp (xs := v6) (e := eI) shape3 hF rfl rfl rfl rfl (at?_get hb10).2 rfl rfl ?_
          refine L.nil ?_
          exact A.on (hO _ _ _ n10235) (Le.mk [(0, 0), (1, 1), (2, 2)] hm rfl ⟨⟨_, rfl, rfl⟩, ⟨_, rfl, rfl⟩, ⟨_, rfl, rfl⟩, ⟨_, rfl, rfl⟩, ⟨_, rfl, rfl⟩, ⟨_, rfl, rfl⟩, ⟨_, rfl, rfl⟩, trivial⟩ ⟨⟨_, rfl, rfl⟩, trivial⟩ ⟨⟨_, _, rfl, rfl, rfl⟩, ⟨_, _, rfl, rfl, rfl⟩, trivial⟩)
        · refine L.loadEp (xs := v6) (e := eI) shape3 hF rfl rfl rfl rfl (at?_get hb11).2 rfl rfl ?_
          refine L.nil ?_
          exact A.on (hO _ _ _ n12027) (Le.mk [(0, 0), (1, 1), (2, 2)] hm rfl ⟨⟨_, rfl, rfl⟩, ⟨_, rfl, rfl⟩, ⟨_, rfl, rfl⟩, ⟨_, rfl, rfl⟩, ⟨_, rfl, rfl⟩, ⟨_, rfl, rfl⟩, ⟨_, rfl, rfl⟩, trivial⟩ ⟨⟨_, rfl, rfl⟩, trivial⟩ ⟨⟨_, _, rfl, rfl, rfl⟩, ⟨_, _, rfl, rfl, rfl⟩, trivial⟩)
      have n1787 : W 6 #[true, true, false, true, true, true, true, true, false, true, true, false, false, false, false] (mkSt [(0, one (cS v5)), (2, one (Cell.ptr 0 0)), (21, one (Cell.ep 1 ((0 : Int).toNat) 0)), (25, one (cI b9)), (27, one (Cell.ep 1 ((2 : Int).toNat) 0)), (30, one (Cell.ep 1 ((3 : Int).toNat) 0))] [(1, ⟨1, List.map eI v6⟩)] [(0, [cI (0 : Int), cI (0 : Int), cI (0 : Int), cI (0 : Int)])] 2) := by
        refine hI _ _ _ ?_
        refine A.all [2, 8, 11, 13] (by kernel_rfl) rfl ⟨⟨_, rfl, ?_⟩, ⟨_, rfl, ?_⟩, ⟨_, rfl, ?_⟩, ⟨_, rfl, ?_⟩, trivial⟩
        · refine L.loadEp (xs := v6) (e := eI) shape3 hF rfl rfl rfl rfl (at?_get hb8).2 rfl rfl ?_
          refine L.nil ?_
          exact A.on (hO _ _ _ n1791) (Le.mk [(0, 0), (1, 1)] hm rfl ⟨⟨_, rfl, rfl⟩, ⟨_, rfl, rfl⟩, ⟨_, rfl, rfl⟩, ⟨_, rfl, rfl⟩, ⟨_, rfl, rfl⟩, ⟨_, rfl, rfl⟩, trivial⟩ ⟨⟨_, rfl, rfl⟩, trivial⟩ ⟨⟨_, _, rfl, rfl, rfl⟩, trivial⟩)
        · refine L.loadEp (xs := v6) (e := eI) shape3 hF rfl rfl rfl rfl (at?_get hb10).2 rfl rfl ?_
          refine L.nil ?_
          exact A.on (hO _ _ _ n2043) (Le.mk [(0, 0), (1, 1)] hm rfl ⟨⟨_, rfl, rfl⟩, ⟨_, rfl, rfl⟩, ⟨_, rfl, rfl⟩, ⟨_, rfl, rfl⟩, ⟨_, rfl, rfl⟩, ⟨_, rfl, rfl⟩, trivial⟩ ⟨⟨_, rfl, rfl⟩, trivial⟩ ⟨⟨_, _, rfl, rfl, rfl⟩, trivial⟩)
        · refine L.loadEp (xs := v6) (e := eI) shape3 hF rfl rfl rfl rfl (at?_get hb11).2 rfl rfl ?_
          refine L.nil ?_
          exact A.on (hO _ _ _ n3835) (Le.mk [(0, 0), (1, 1)] hm rfl ⟨⟨_, rfl, rfl⟩, ⟨_, rfl, rfl⟩, ⟨_, rfl, rfl⟩, ⟨_, rfl, rfl⟩, ⟨_, rfl, rfl⟩, ⟨_, rfl, rfl⟩, trivial⟩ ⟨⟨_, rfl, rfl⟩, trivial⟩ ⟨⟨_, _, rfl, rfl, rfl⟩, trivial⟩)
        · refine L.alloc 2 info65 rfl hF rfl rfl rfl rfl ?_
          refine L.nil ?_
          exact A.on (hO _ _ _ n9979) (Le.mk [(0, 0), (1, 2), (2, 1)] hm rfl ⟨⟨_, rfl, rfl⟩, ⟨_, rfl, rfl⟩, ⟨_, rfl, rfl⟩, ⟨_, rfl, rfl⟩, ⟨_, rfl, rfl⟩, ⟨_, rfl, rfl⟩, ⟨_, rfl, rfl⟩, trivial⟩ ⟨⟨_, rfl, rfl⟩, trivial⟩ ⟨⟨_, _, rfl, rfl, rfl⟩, ⟨_, _, rfl, rfl, rfl⟩, trivial⟩)
      have n9947 : W 6 #[true, true, false, true, true, false, true, true, false, true, true, false, false, true, false] (mkSt [(0, one (cS v5)), (2, one (Cell.ptr 0 0)), (6, one (Cell.ptr 1 0)), (21, one (Cell.ep 2 ((0 : Int).toNat) 0)), (24, one (Cell.ep 2 ((1 : Int).toNat) 0)), (27, one (Cell.ep 2 ((2 : Int).toNat) 0)), (30, one (Cell.ep 2 ((3 : Int).toNat) 0))] [(2, ⟨1, List.map eI v6⟩)] [(0, [cI (0 : Int), cI (0 : Int), cI (0 : Int), cI (0 : Int)]), (1, [cI (0 : Int), cI (0 : Int), cI (0 : Int), cI (0 : Int)])] 3) := by
        refine hI _ _ _ ?_
        refine A.all [2, 5, 8, 11] (by kernel_rfl) rfl ⟨⟨_, rfl, ?_⟩, ⟨_, rfl, ?_⟩, ⟨_, rfl, ?_⟩, ⟨_, rfl, ?_⟩, trivial⟩
        · refine L.loadEp (xs := v6) (e := eI) shape3 hF rfl rfl rfl rfl (at?_get hb8).2 rfl rfl ?_
          refine L.nil ?_
          exact A.on (hO _ _ _ n9951) (Le.mk [(0, 0), (1, 1), (2, 2)] hm rfl ⟨⟨_, rfl, rfl⟩, ⟨_, rfl, rfl⟩, ⟨_, rfl, rfl⟩, ⟨_, rfl, rfl⟩, ⟨_, rfl, rfl⟩, ⟨_, rfl, rfl⟩, ⟨_, rfl, rfl⟩, trivial⟩ ⟨⟨_, rfl, rfl⟩, trivial⟩ ⟨⟨_, _, rfl, rfl, rfl⟩, ⟨_, _, rfl, rfl, rfl⟩, trivial⟩)
        · refine L.loadEp (xs := v6) (e := eI) shape3 hF rfl rfl rfl rfl (at?_get hb9).2 rfl rfl ?_
          refine L.nil ?_
          exact A.on (hO _ _ _ n9979) (Le.mk [(0, 0), (1, 1), (2, 2)] hm rfl ⟨⟨_, rfl, rfl⟩, ⟨_, rfl, rfl⟩, ⟨_, rfl, rfl⟩, ⟨_, rfl, rfl⟩, ⟨_, rfl, rfl⟩, ⟨_, rfl, rfl⟩, ⟨_, rfl, rfl⟩, trivial⟩ ⟨⟨_, rfl, rfl⟩, trivial⟩ ⟨⟨_, _, rfl, rfl, rfl⟩, ⟨_, _, rfl, rfl, rfl⟩, trivial⟩)
        · refine L.loadEp (xs := v6) (e := eI) shape3 hF rfl rfl rfl rfl (at?_get hb10).2 rfl rfl ?_
          refine L.nil ?_
          exact A.on (hO _ _ _ n10203) (Le.mk [(0, 0), (1, 1), (2, 2)] hm rfl ⟨⟨_, rfl, rfl⟩, ⟨_, rfl, rfl⟩, ⟨_, rfl, rfl⟩, ⟨_, rfl, rfl⟩, ⟨_, rfl, rfl⟩, ⟨_, rfl, rfl⟩, ⟨_, rfl, rfl⟩, trivial⟩ ⟨⟨_, rfl, rfl⟩, trivial⟩ ⟨⟨_, _, rfl, rfl, rfl⟩, ⟨_, _, rfl, rfl, rfl⟩, trivial⟩)
        · refine L.loadEp (xs := v6) (e := eI) shape3 hF rfl rfl rfl rfl (at?_get hb11).2 rfl rfl ?_
          refine L.nil ?_
          exact A.on (hO _ _ _ n11995) (Le.mk [(0, 0), (1, 1), (2, 2)] hm rfl ⟨⟨_, rfl, rfl⟩, ⟨_, rfl, rfl⟩, ⟨_, rfl, rfl⟩, ⟨_, rfl, rfl⟩, ⟨_, rfl, rfl⟩, ⟨_, rfl, rfl⟩, ⟨_, rfl, rfl⟩, trivial⟩ ⟨⟨_, rfl, rfl⟩, trivial⟩ ⟨⟨_, _, rfl, rfl, rfl⟩, ⟨_, _, rfl, rfl, rfl⟩, trivial⟩)
      have n2011 : W 6 #[true, true, false, true, true, false, true, true, true, true, true, false, false, false, false] (mkSt [(0, one (cS v5)), (2, one (Cell.ptr 0 0)), (21, one (Cell.ep 1 ((0 : Int).toNat) 0)), (24, one (Cell.ep 1 ((1 : Int).toNat) 0)), (28, one (cI b10)), (30, one (Cell.ep 1 ((3 : Int).toNat) 0))] [(1, ⟨1, List.map eI v6⟩)] [(0, [cI (0 : Int), cI (0 : Int), cI (0 : Int), cI (0 : Int)])] 2) := by
        refine hI _ _ _ ?_
        refine A.all [2, 5, 11, 13] (by kernel_rfl) rfl ⟨⟨_, rfl, ?_⟩, ⟨_, rfl, ?_⟩, ⟨_, rfl, ?_⟩, ⟨_, rfl, ?_⟩, trivial⟩
        · refine L.loadEp (xs := v6) (e := eI) shape3 hF rfl rfl rfl rfl (at?_get hb8).2 rfl rfl ?_
          refine L.nil ?_
          exact A.on (hO _ _ _ n2015) (Le.mk [(0, 0), (1, 1)] hm rfl ⟨⟨_, rfl, rfl⟩, ⟨_, rfl, rfl⟩, ⟨_, rfl, rfl⟩, ⟨_, rfl, rfl⟩, ⟨_, rfl, rfl⟩, ⟨_, rfl, rfl⟩, trivial⟩ ⟨⟨_, rfl, rfl⟩, trivial⟩ ⟨⟨_, _, rfl, rfl, rfl⟩, trivial⟩)
        · refine L.loadEp (xs := v6) (e := eI) shape3 hF rfl rfl rfl rfl (at?_get hb9).2 rfl rfl ?_
          refine L.nil ?_
          exact A.on (hO _ _ _ n2043) (Le.mk [(0, 0), (1, 1)] hm rfl ⟨⟨_, rfl, rfl⟩, ⟨_, rfl, rfl⟩, ⟨_, rfl, rfl⟩, ⟨_, rfl, rfl⟩, ⟨_, rfl, rfl⟩, ⟨_, rfl, rfl⟩, trivial⟩ ⟨⟨_, rfl, rfl⟩, trivial⟩ ⟨⟨_, _, rfl, rfl, rfl⟩, trivial⟩)
        · refine L.loadEp (xs := v6) (e := eI) shape3 hF rfl rfl rfl rfl (at?_get hb11).2 rfl rfl ?_
          refine L.nil ?_
          exact A.on (hO _ _ _ n4059) (Le.mk [(0, 0), (1, 1)] hm rfl ⟨⟨_, rfl, rfl⟩, ⟨_, rfl, rfl⟩, ⟨_, rfl, rfl⟩, ⟨_, rfl, rfl⟩, ⟨_, rfl, rfl⟩, ⟨_, rfl, rfl⟩, trivial⟩ ⟨⟨_, rfl, rfl⟩, trivial⟩ ⟨⟨_, _, rfl, rfl, rfl⟩, trivial⟩)
        · refine L.alloc 2 info65 rfl hF rfl rfl rfl rfl ?_
          refine L.nil ?_
          exact A.on (hO _ _ _ n10203) (Le.mk [(0, 0), (1, 2), (2, 1)] hm rfl ⟨⟨_, rfl, rfl⟩, ⟨_, rfl, rfl⟩, ⟨_, rfl, rfl⟩, ⟨_, rfl, rfl⟩, ⟨_, rfl, rfl⟩, ⟨_, rfl, rfl⟩, ⟨_, rfl, rfl⟩, trivial⟩ ⟨⟨_, rfl, rfl⟩, trivial⟩ ⟨⟨_, _, rfl, rfl, rfl⟩, ⟨_, _, rfl, rfl, rfl⟩, trivial⟩)
      have n3803 : W 6 #[true, true, false, true, true, false, true, true, false, true, true, true, false, false, false] (mkSt [(0, one (cS v5)), (2, one (Cell.ptr 0 0)), (21, one (Cell.ep 1 ((0 : Int).toNat) 0)), (24, one (Cell.ep 1 ((1 : Int).toNat) 0)), (27, one (Cell.ep 1 ((2 : Int).toNat) 0)), (31, one (cI b11))] [(1, ⟨1, List.map eI v6⟩)] [(0, [cI (0 : Int), cI (0 : Int), cI (0 : Int), cI (0 : Int)])] 2) := by
        refine hI _ _ _ ?_
        refine A.all [2, 5, 8, 13] (by kernel_rfl) rfl ⟨⟨_, rfl, ?_⟩, ⟨_, rfl, ?_⟩, ⟨_, rfl, ?_⟩, ⟨_, rfl, ?_⟩, trivial⟩
        · refine L.loadEp (xs := v6) (e := eI) shape3 hF rfl rfl rfl rfl (at?_get hb8).2 rfl rfl ?_
          refine L.nil ?_
          exact A.on (hO _ _ _ n3807) (Le.mk [(0, 0), (1, 1)] hm rfl ⟨⟨_, rfl, rfl⟩, ⟨_, rfl, rfl⟩, ⟨_, rfl, rfl⟩, ⟨_, rfl, rfl⟩, ⟨_, rfl, rfl⟩, ⟨_, rfl, rfl⟩, trivial⟩ ⟨⟨_, rfl, rfl⟩, trivial⟩ ⟨⟨_, _, rfl, rfl, rfl⟩, trivial⟩)
        · refine L.loadEp (xs := v6) (e := eI) shape3 hF rfl rfl rfl rfl (at?_get hb9).2 rfl rfl ?_
          refine L.nil ?_
          exact A.on (hO _ _ _ n3835) (Le.mk [(0, 0), (1, 1)] hm rfl ⟨⟨_, rfl, rfl⟩, ⟨_, rfl, rfl⟩, ⟨_, rfl, rfl⟩, ⟨_, rfl, rfl⟩, ⟨_, rfl, rfl⟩, ⟨_, rfl, rfl⟩, trivial⟩ ⟨⟨_, rfl, rfl⟩, trivial⟩ ⟨⟨_, _, rfl, rfl, rfl⟩, trivial⟩)
        · refine L.loadEp (xs := v6) (e := eI) shape3 hF rfl rfl rfl rfl (at?_get hb10).2 rfl rfl ?_
          refine L.nil ?_
          exact A.on (hO _ _ _ n4059) (Le.mk [(0, 0), (1, 1)] hm rfl ⟨⟨_, rfl, rfl⟩, ⟨_, rfl, rfl⟩, ⟨_, rfl, rfl⟩, ⟨_, rfl, rfl⟩, ⟨_, rfl, rfl⟩, ⟨_, rfl, rfl⟩, trivial⟩ ⟨⟨_, rfl, rfl⟩, trivial⟩ ⟨⟨_, _, rfl, rfl, rfl⟩, trivial⟩)
        · refine L.alloc 2 info65 rfl hF rfl rfl rfl rfl ?_
          refine L.nil ?_
          exact A.on (hO _ _ _ n11995) (Le.mk [(0, 0), (1, 2), (2, 1)] hm rfl ⟨⟨_, rfl, rfl⟩, ⟨_, rfl, rfl⟩, ⟨_, rfl, rfl⟩, ⟨_, rfl, rfl⟩, ⟨_, rfl, rfl⟩, ⟨_, rfl, rfl⟩, ⟨_, rfl, rfl⟩, trivial⟩ ⟨⟨_, rfl, rfl⟩, trivial⟩ ⟨⟨_, _, rfl, rfl, rfl⟩, ⟨_, _, rfl, rfl, rfl⟩, trivial⟩)
      have n1759 : W 6 #[true, true, true, true, true, false, true, true, false, true, true, false, false, false, false] (mkSt [(0, one (cS v5)), (2, one (Cell.ptr 0 0)), (22, one (cI b8)), (24, one (Cell.ep 1 ((1 : Int).toNat) 0)), (27, one (Cell.ep 1 ((2 : Int).toNat) 0)), (30, one (Cell.ep 1 ((3 : Int).toNat) 0))] [(1, ⟨1, List.map eI v6⟩)] [(0, [cI (0 : Int), cI (0 : Int), cI (0 : Int), cI (0 : Int)])] 2) := by
        refine hI _ _ _ ?_
        refine A.all [5, 8, 11, 13] (by kernel_rfl) rfl ⟨⟨_, rfl, ?_⟩, ⟨_, rfl, ?_⟩, ⟨_, rfl, ?_⟩, ⟨_, rfl, ?_⟩, trivial⟩
        · refine L.loadEp (xs := v6) (e := eI) shape3 hF rfl rfl rfl rfl (at?_get hb9).2 rfl rfl ?_
          refine L.nil ?_
          exact A.on (hO _ _ _ n1791) (Le.mk [(0, 0), (1, 1)] hm rfl ⟨⟨_, rfl, rfl⟩, ⟨_, rfl, rfl⟩, ⟨_, rfl, rfl⟩, ⟨_, rfl, rfl⟩, ⟨_, rfl, rfl⟩, ⟨_, rfl, rfl⟩, trivial⟩ ⟨⟨_, rfl, rfl⟩, trivial⟩ ⟨⟨_, _, rfl, rfl, rfl⟩, trivial⟩)
        · refine L.loadEp (xs := v6) (e := eI) shape3 hF rfl rfl rfl rfl (at?_get hb10).2 rfl rfl ?_
          refine L.nil ?_
          exact A.on (hO _ _ _ n2015) (Le.mk [(0, 0), (1, 1)] hm rfl ⟨⟨_, rfl, rfl⟩, ⟨_, rfl, rfl⟩, ⟨_, rfl, rfl⟩, ⟨_, rfl, rfl⟩, ⟨_, rfl, rfl⟩, ⟨_, rfl, rfl⟩, trivial⟩ ⟨⟨_, rfl, rfl⟩, trivial⟩ ⟨⟨_, _, rfl, rfl, rfl⟩, trivial⟩)
        · refine L.loadEp (xs := v6) (e := eI) shape3 hF rfl rfl rfl rfl (at?_get hb11).2 rfl rfl ?_
          refine L.nil ?_
          exact A.on (hO _ _ _ n3807) (Le.mk [(0, 0), (1, 1)] hm rfl ⟨⟨_, rfl, rfl⟩, ⟨_, rfl, rfl⟩, ⟨_, rfl, rfl⟩, ⟨_, rfl, rfl⟩, ⟨_, rfl, rfl⟩, ⟨_, rfl, rfl⟩, trivial⟩ ⟨⟨_, rfl, rfl⟩, trivial⟩ ⟨⟨_, _, rfl, rfl, rfl⟩, trivial⟩)
        · refine L.alloc 2 info65 rfl hF rfl rfl rfl rfl ?_
          refine L.nil ?_
          exact A.on (hO _ _ _ n9951) (Le.mk [(0, 0), (1, 2), (2, 1)] hm rfl ⟨⟨_, rfl, rfl⟩, ⟨_, rfl, rfl⟩, ⟨_, rfl, rfl⟩, ⟨_, rfl, rfl⟩, ⟨_, rfl, rfl⟩, ⟨_, rfl, rfl⟩, ⟨_, rfl, rfl⟩, trivial⟩ ⟨⟨_, rfl, rfl⟩, trivial⟩ ⟨⟨_, _, rfl, rfl, rfl⟩, ⟨_, _, rfl, rfl, rfl⟩, trivial⟩)
      have n1755 : W 7 #[true, true, false, true, true, false, true, true, false, true, true, false, false, false, false] (mkSt [(0, one (cS v5)), (2, one (Cell.ptr 0 0)), (21, one (Cell.ep 1 ((0 : Int).toNat) 0)), (24, one (Cell.ep 1 ((1 : Int).toNat) 0)), (27, one (Cell.ep 1 ((2 : Int).toNat) 0)), (30, one (Cell.ep 1 ((3 : Int).toNat) 0))] [(1, ⟨1, List.map eI v6⟩)] [(0, [cI (0 : Int), cI (0 : Int), cI (0 : Int), cI (0 : Int)])] 2) := by
        refine hI _ _ _ ?_
        refine A.all [2, 5, 8, 11, 13] (by kernel_rfl) rfl ⟨⟨_, rfl, ?_⟩, ⟨_, rfl, ?_⟩, ⟨_, rfl, ?_⟩, ⟨_, rfl, ?_⟩, ⟨_, rfl, ?_⟩, trivial⟩
        · refine L.loadEp (xs := v6) (e := eI) shape3 hF rfl rfl rfl rfl (at?_get hb8).2 rfl rfl ?_
          refine L.nil ?_
          exact A.on (hO _ _ _ n1759) (Le.mk [(0, 0), (1, 1)] hm rfl ⟨⟨_, rfl, rfl⟩, ⟨_, rfl, rfl⟩, ⟨_, rfl, rfl⟩, ⟨_, rfl, rfl⟩, ⟨_, rfl, rfl⟩, ⟨_, rfl, rfl⟩, trivial⟩ ⟨⟨_, rfl, rfl⟩, trivial⟩ ⟨⟨_, _, rfl, rfl, rfl⟩, trivial⟩)
        · refine L.loadEp (xs := v6) (e := eI) shape3 hF rfl rfl rfl rfl (at?_get hb9).2 rfl rfl ?_
          refine L.nil ?_
          exact A.on (hO _ _ _ n1787) (Le.mk [(0, 0), (1, 1)] hm rfl ⟨⟨_, rfl, rfl⟩, ⟨_, rfl, rfl⟩, ⟨_, rfl, rfl⟩, ⟨_, rfl, rfl⟩, ⟨_, rfl, rfl⟩, ⟨_, rfl, rfl⟩, trivial⟩ ⟨⟨_, rfl, rfl⟩, trivial⟩ ⟨⟨_, _, rfl, rfl, rfl⟩, trivial⟩)
        · refine L.loadEp (xs := v6) (e := eI) shape3 hF rfl rfl rfl rfl (at?_get hb10).2 rfl rfl ?_
          refine L.nil ?_
          exact A.on (hO _ _ _ n2011) (Le.mk [(0, 0), (1, 1)] hm rfl ⟨⟨_, rfl, rfl⟩, ⟨_, rfl, rfl⟩, ⟨_, rfl, rfl⟩, ⟨_, rfl, rfl⟩, ⟨_, rfl, rfl⟩, ⟨_, rfl, rfl⟩, trivial⟩ ⟨⟨_, rfl, rfl⟩, trivial⟩ ⟨⟨_, _, rfl, rfl, rfl⟩, trivial⟩)
        · refine L.loadEp (xs := v6) (e := eI) shape3 hF rfl rfl rfl rfl (at?_get hb11).2 rfl rfl ?_
          refine L.nil ?_
          exact A.on (hO _ _ _ n3803) (Le.mk [(0, 0), (1, 1)] hm rfl ⟨⟨_, rfl, rfl⟩, ⟨_, rfl, rfl⟩, ⟨_, rfl, rfl⟩, ⟨_, rfl, rfl⟩, ⟨_, rfl, rfl⟩, ⟨_, rfl, rfl⟩, trivial⟩ ⟨⟨_, rfl, rfl⟩, trivial⟩ ⟨⟨_, _, rfl, rfl, rfl⟩, trivial⟩)
        · refine L.alloc 2 info65 rfl hF rfl rfl rfl rfl ?_
          refine L.nil ?_
          exact A.on (hO _ _ _ n9947) (Le.mk [(0, 0), (1, 2), (2, 1)] hm rfl ⟨⟨_, rfl, rfl⟩, ⟨_, rfl, rfl⟩, ⟨_, rfl, rfl⟩, ⟨_, rfl, rfl⟩, ⟨_, rfl, rfl⟩, ⟨_, rfl, rfl⟩, ⟨_, rfl, rfl⟩, trivial⟩ ⟨⟨_, rfl, rfl⟩, trivial⟩ ⟨⟨_, _, rfl, rfl, rfl⟩, ⟨_, _, rfl, rfl, rfl⟩, trivial⟩)
      have n731 : W 8 #[true, true, false, true, true, false, true, true, false, true, false, false, false, false, false] (mkSt [(0, one (cS v5)), (2, one (Cell.ptr 0 0)), (21, one (Cell.ep 1 ((0 : Int).toNat) 0)), (24, one (Cell.ep 1 ((1 : Int).toNat) 0)), (27, one (Cell.ep 1 ((2 : Int).toNat) 0)), (29, one (Cell.own 1))] [(1, ⟨1, List.map eI v6⟩)] [(0, [cI (0 : Int), cI (0 : Int), cI (0 : Int), cI (0 : Int)])] 2) := by
        refine hI _ _ _ ?_
        refine A.take 10 rfl (by kernel_rfl) (by kernel_rfl) (by kernel_rfl) rfl (Ca.indexAddr) (fun Q0 k0 => L.idxR (xs := v6) (e := eI) Try.underlying24 info3 hF rfl rfl rfl rfl rfl hb11 rfl rfl (L.nil k0)) ?_
        exact A.on (hO _ _ _ n1755) (Le.mk [(0, 0), (1, 1)] hm rfl ⟨⟨_, rfl, rfl⟩, ⟨_, rfl, rfl⟩, ⟨_, rfl, rfl⟩, ⟨_, rfl, rfl⟩, ⟨_, rfl, rfl⟩, ⟨_, rfl, rfl⟩, trivial⟩ ⟨⟨_, rfl, rfl⟩, trivial⟩ ⟨⟨_, _, rfl, rfl, rfl⟩, trivial⟩)
      have n219 : W 9 #[true, true, false, true, true, false, true, true, false, false, false, false, false, false, false] (mkSt [(0, one (cS v5)), (2, one (Cell.ptr 0 0)), (4, one (Cell.own 1)), (21, one (Cell.ep 1 ((0 : Int).toNat) 0)), (24, one (Cell.ep 1 ((1 : Int).toNat) 0)), (27, one (Cell.ep 1 ((2 : Int).toNat) 0))] [(1, ⟨1, List.map eI v6⟩)] [(0, [cI (0 : Int), cI (0 : Int), cI (0 : Int), cI (0 : Int)])] 2) := by
        refine hI _ _ _ ?_
        refine A.take 9 rfl (by kernel_rfl) (by kernel_rfl) (by kernel_rfl) rfl (Ca.move) (fun Q0 k0 => L.move hF rfl rfl rfl (L.nil k0)) ?_
        exact A.on (hO _ _ _ n731) (Le.mk [(0, 0), (1, 1)] hm rfl ⟨⟨_, rfl, rfl⟩, ⟨_, rfl, rfl⟩, ⟨_, rfl, rfl⟩, ⟨_, rfl, rfl⟩, ⟨_, rfl, rfl⟩, ⟨_, rfl, rfl⟩, trivial⟩ ⟨⟨_, rfl, rfl⟩, trivial⟩ ⟨⟨_, _, rfl, rfl, rfl⟩, trivial⟩)
      have n91 : W 10 #[true, true, false, true, true, false, true, false, false, false, false, false, false, false, false] (mkSt [(0, one (cS v5)), (2, one (Cell.ptr 0 0)), (4, one (Cell.own 1)), (21, one (Cell.ep 1 ((0 : Int).toNat) 0)), (24, one (Cell.ep 1 ((1 : Int).toNat) 0)), (26, one (Cell.own 1))] [(1, ⟨1, List.map eI v6⟩)] [(0, [cI (0 : Int), cI (0 : Int), cI (0 : Int), cI (0 : Int)])] 2) := by
        refine hI _ _ _ ?_
        refine A.take 7 rfl (by kernel_rfl) (by kernel_rfl) (by kernel_rfl) rfl (Ca.indexAddr) (fun Q0 k0 => L.idxR (xs := v6) (e := eI) Try.underlying24 info3 hF rfl rfl rfl rfl rfl hb10 rfl rfl (L.nil k0)) ?_
        exact A.on (hO _ _ _ n219) (Le.mk [(0, 0), (1, 1)] hm rfl ⟨⟨_, rfl, rfl⟩, ⟨_, rfl, rfl⟩, ⟨_, rfl, rfl⟩, ⟨_, rfl, rfl⟩, ⟨_, rfl, rfl⟩, ⟨_, rfl, rfl⟩, trivial⟩ ⟨⟨_, rfl, rfl⟩, trivial⟩ ⟨⟨_, _, rfl, rfl, rfl⟩, trivial⟩)
      have n27 : W 11 #[true, true, false, true, true, false, false, false, false, false, false, false, false, false, false] (mkSt [(0, one (cS v5)), (2, one (Cell.ptr 0 0)), (4, one (Cell.own 1)), (21, one (Cell.ep 1 ((0 : Int).toNat) 0)), (24, one (Cell.ep 1 ((1 : Int).toNat) 0))] [(1, ⟨1, List.map eI v6⟩)] [(0, [cI (0 : Int), cI (0 : Int), cI (0 : Int), cI (0 : Int)])] 2) := by
        refine hI _ _ _ ?_
        refine A.take 6 rfl (by kernel_rfl) (by kernel_rfl) (by kernel_rfl) rfl (Ca.move) (fun Q0 k0 => L.move hF rfl rfl rfl (L.nil k0)) ?_
        exact A.on (hO _ _ _ n91) (Le.mk [(0, 0), (1, 1)] hm rfl ⟨⟨_, rfl, rfl⟩, ⟨_, rfl, rfl⟩, ⟨_, rfl, rfl⟩, ⟨_, rfl, rfl⟩, ⟨_, rfl, rfl⟩, ⟨_, rfl, rfl⟩, trivial⟩ ⟨⟨_, rfl, rfl⟩, trivial⟩ ⟨⟨_, _, rfl, rfl, rfl⟩, trivial⟩)
      have n11 : W 12 #[true, true, false, true, false, false, false, false, false, false, false, false, false, false, false] (mkSt [(0, one (cS v5)), (2, one (Cell.ptr 0 0)), (4, one (Cell.own 1)), (21, one (Cell.ep 1 ((0 : Int).toNat) 0)), (23, one (Cell.own 1))] [(1, ⟨1, List.map eI v6⟩)] [(0, [cI (0 : Int), cI (0 : Int), cI (0 : Int), cI (0 : Int)])] 2) := by
        refine hI _ _ _ ?_
        refine A.take 4 rfl (by kernel_rfl) (by kernel_rfl) (by kernel_rfl) rfl (Ca.indexAddr) (fun Q0 k0 => L.idxR (xs := v6) (e := eI) Try.underlying24 info3 hF rfl rfl rfl rfl rfl hb9 rfl rfl (L.nil k0)) ?_
        exact A.on (hO _ _ _ n27) (Le.mk [(0, 0), (1, 1)] hm rfl ⟨⟨_, rfl, rfl⟩, ⟨_, rfl, rfl⟩, ⟨_, rfl, rfl⟩, ⟨_, rfl, rfl⟩, ⟨_, rfl, rfl⟩, trivial⟩ ⟨⟨_, rfl, rfl⟩, trivial⟩ ⟨⟨_, _, rfl, rfl, rfl⟩, trivial⟩)
      have n3 : W 13 #[true, true, false, false, false, false, false, false, false, false, false, false, false, false, false] (mkSt [(0, one (cS v5)), (2, one (Cell.ptr 0 0)), (4, one (Cell.own 1)), (21, one (Cell.ep 1 ((0 : Int).toNat) 0))] [(1, ⟨1, List.map eI v6⟩)] [(0, [cI (0 : Int), cI (0 : Int), cI (0 : Int), cI (0 : Int)])] 2) := by
        refine hI _ _ _ ?_
        refine A.take 3 rfl (by kernel_rfl) (by kernel_rfl) (by kernel_rfl) rfl (Ca.move) (fun Q0 k0 => L.move hF rfl rfl rfl (L.nil k0)) ?_
        exact A.on (hO _ _ _ n11) (Le.mk [(0, 0), (1, 1)] hm rfl ⟨⟨_, rfl, rfl⟩, ⟨_, rfl, rfl⟩, ⟨_, rfl, rfl⟩, ⟨_, rfl, rfl⟩, ⟨_, rfl, rfl⟩, trivial⟩ ⟨⟨_, rfl, rfl⟩, trivial⟩ ⟨⟨_, _, rfl, rfl, rfl⟩, trivial⟩)
      have n1 : W 14 #[true, false, false, false, false, false, false, false, false, false, false, false, false, false, false] (mkSt [(0, one (cS v5)), (2, one (Cell.ptr 0 0)), (4, one (Cell.own 1)), (20, one (Cell.own 1))] [(1, ⟨1, List.map eI v6⟩)] [(0, [cI (0 : Int), cI (0 : Int), cI (0 : Int), cI (0 : Int)])] 2) := by
        refine hI _ _ _ ?_
        refine A.take 1 rfl (by kernel_rfl) (by kernel_rfl) (by kernel_rfl) rfl (Ca.indexAddr) (fun Q0 k0 => L.idxR (xs := v6) (e := eI) Try.underlying24 info3 hF rfl rfl rfl rfl rfl hb8 rfl rfl (L.nil k0)) ?_
        exact A.on (hO _ _ _ n3) (Le.mk [(0, 0), (1, 1)] hm rfl ⟨⟨_, rfl, rfl⟩, ⟨_, rfl, rfl⟩, ⟨_, rfl, rfl⟩, ⟨_, rfl, rfl⟩, trivial⟩ ⟨⟨_, rfl, rfl⟩, trivial⟩ ⟨⟨_, _, rfl, rfl, rfl⟩, trivial⟩)
      have n0 : W 15 #[false, false, false, false, false, false, false, false, false, false, false, false, false, false, false] (mkSt [(0, one (cS v5)), (2, one (Cell.ptr 0 0)), (4, one (Cell.own 1))] [(1, ⟨1, List.map eI v6⟩)] [(0, [cI (0 : Int), cI (0 : Int), cI (0 : Int), cI (0 : Int)])] 2) := by
        refine hI _ _ _ ?_
        refine A.take 0 rfl (by kernel_rfl) (by kernel_rfl) (by kernel_rfl) rfl (Ca.move) (fun Q0 k0 => L.move hF rfl rfl rfl (L.nil k0)) ?_
        exact A.on (hO _ _ _ n1) (Le.mk [(0, 0), (1, 1)] hm rfl ⟨⟨_, rfl, rfl⟩, ⟨_, rfl, rfl⟩, ⟨_, rfl, rfl⟩, ⟨_, rfl, rfl⟩, trivial⟩ ⟨⟨_, rfl, rfl⟩, trivial⟩ ⟨⟨_, _, rfl, rfl, rfl⟩, trivial⟩)
      exact hI _ _ _ (A.on (hO _ _ _ n0) (Le.mk [(0, 0), (1, 1)] hm rfl ⟨⟨_, rfl, rfl⟩, ⟨_, rfl, rfl⟩, ⟨_, rfl, rfl⟩, trivial⟩ ⟨⟨_, rfl, rfl⟩, trivial⟩ ⟨⟨_, _, rfl, rfl, rfl⟩, trivial⟩))
  · refine WpC.regionL ?_
    refine L.move hF rfl rfl rfl ?_
    refine L.not hF rfl rfl rfl ?_
    refine L.move hF rfl rfl rfl ?_
    refine L.split (fun hc => ?_) (fun hc => ?_)
    · replace H := condT hc H
      refine L.off hF rfl rfl ?_
      refine L.off hF rfl rfl ?_
      refine L.off hF rfl rfl ?_
      refine L.pick hF rfl rfl rfl rfl ?_
      refine L.nil ?_
      exact ⟨_, ⟨k, a0, r1.1, true, by omega, H, rfl⟩, Le.mk [(0, 1), (1, 2)] hm rfl ⟨⟨_, rfl, rfl⟩, ⟨_, rfl, rfl⟩, ⟨_, rfl, rfl⟩, ⟨_, rfl, rfl⟩, trivial⟩ ⟨⟨_, rfl, rfl⟩, trivial⟩ ⟨⟨_, _, rfl, rfl, rfl⟩, trivial⟩⟩
    · replace H := condF hc H
      refine L.move hF rfl rfl rfl ?_
      refine L.lenR (xs := r1.1) (e := eI) Try.underlying24 hF rfl rfl rfl rfl ?_
      refine L.bin hF rfl rfl rfl rfl rfl rfl ?_
      refine L.pick hF rfl rfl rfl rfl ?_
      refine L.nil ?_
      exact ⟨_, ⟨k, a0, r1.1, ((r1.1.length : Int) != (4 : Int)), by omega, H, rfl⟩, Le.mk [(0, 1), (1, 2)] hm rfl ⟨⟨_, rfl, rfl⟩, ⟨_, rfl, rfl⟩, ⟨_, rfl, rfl⟩, ⟨_, rfl, rfl⟩, trivial⟩ ⟨⟨_, rfl, rfl⟩, trivial⟩ ⟨⟨_, _, rfl, rfl, rfl⟩, trivial⟩⟩
/-! ### Fimpl_within -/
def Fimpl_within (k : Nat) (a0 : Int) (a1 : Int) (a2 : Int) : Option Bool := cond (decide (a0 ≥ a1)) (some (decide (a0 ≤ a2))) (some false)
theorem ent113 : Enters Try.prog 113 := ⟨Try.f113, Try.func113, rfl, by decide⟩
set_option maxHeartbeats 8000000 in
set_option maxRecDepth 100000 in
theorem Fimpl_within_gives (k : Nat) (a0 : Int) (a1 : Int) (a2 : Int) (r : Bool) (H : Fimpl_within k a0 a1 a2 = some r) : Gives Try.prog 113 [V.one (cI a0), V.one (cI a1), V.one (cI a2)] [] [V.one (cL r)] [] := by
  refine Gives.intro Try.func113 rfl rfl rfl rfl ?_
  intro F hF hm
  unfold Fimpl_within at H
  obtain ⟨K, hK⟩ : ∃ K, k ≤ K := ⟨k, Nat.le_refl k⟩
  refine WpC.seq ?_
  refine WpC.regionL ?_
  refine L.assign hF rfl rfl rfl ?_
  refine L.nil ?_
  refine WpC.seq ?_
  refine WpC.regionL ?_
  refine L.move hF rfl rfl rfl ?_
  refine L.move hF rfl rfl rfl ?_
  refine L.bin hF rfl rfl rfl rfl rfl rfl ?_
  refine L.move hF rfl rfl rfl ?_
  refine L.split (fun hc => ?_) (fun hc => ?_)
  · replace H := condT hc H
    refine L.move hF rfl rfl rfl ?_
    refine L.move hF rfl rfl rfl ?_
    refine L.bin hF rfl rfl rfl rfl rfl rfl ?_
    refine L.pick hF rfl rfl rfl rfl ?_
    refine L.assign hF rfl rfl rfl ?_
    refine L.nil ?_
    refine WpC.ret ?_
    cases H
    exact Leaves.ret rfl rfl rfl ⟨rfl, rfl⟩
  · replace H := condF hc H
    refine L.off hF rfl rfl ?_
    refine L.off hF rfl rfl ?_
    refine L.off hF rfl rfl ?_
    refine L.pick hF rfl rfl rfl rfl ?_
    refine L.assign hF rfl rfl rfl ?_
    refine L.nil ?_
    refine WpC.ret ?_
    cases H
    exact Leaves.ret rfl rfl rfl ⟨rfl, rfl⟩
/-! ### Fimpl_Var -/
def Fimpl_Var.l2 : Nat → Int → (List UInt8) → Option (List UInt8)
  | 0, _, _ => none
  | k2 + 1, v16, v17 => cond (decide (v16 > (127 : Int))) (cond (decide ((2 * (v17.length + ([(ofI (Go.bits .or .i64 (Go.bits .and .i64 v16 (127 : Int)) (128 : Int)))] : List UInt8).length) + 192) * 1 ≤ 281474976710656)) ((Fimpl_Var.l2 k2) (shrI .i64 v16 (7 : Int)) (v17 ++ ([(ofI (Go.bits .or .i64 (Go.bits .and .i64 v16 (127 : Int)) (128 : Int)))] : List UInt8))) none) (cond (decide ((2 * (v17.length + ([(ofI v16)] : List UInt8).length) + 192) * 1 ≤ 281474976710656)) (some (v17 ++ ([(ofI v16)] : List UInt8))) none)
def Fimpl_Var (k : Nat) (a0 : Int) : Option (List UInt8) := (Fimpl_within k a0 (0 : Int) (562949953421311 : Int)).bind fun r2 => cond (!r2) (some ([] : List UInt8)) (Fimpl_Var.l2 k a0 ([] : List UInt8))
theorem ent124 : Enters Try.prog 124 := ⟨Try.f124, Try.func124, rfl, by decide⟩
set_option maxHeartbeats 8000000 in
set_option maxRecDepth 100000 in
theorem Fimpl_Var_gives (k : Nat) (a0 : Int) (r : List UInt8) (H : Fimpl_Var k a0 = some r) : Gives Try.prog 124 [V.one (cI a0)] [] [V.one (cS r)] [] := by
  refine Gives.intro Try.func124 rfl rfl rfl rfl ?_
  intro F hF hm
  unfold Fimpl_Var at H
  obtain ⟨K, hK⟩ : ∃ K, k ≤ K := ⟨k, Nat.le_refl k⟩
  refine WpC.seq ?_
  refine WpC.regionL ?_
  refine L.assign hF rfl rfl rfl ?_
  refine L.nil ?_
  refine WpC.seq ?_
  refine WpC.seq ?_
  refine WpC.regionL ?_
  refine L.move hF rfl rfl rfl ?_
  obtain ⟨r2, hr2, H⟩ := bindS H
  refine L.call [false, false, false] [] [] 1 hF rfl rfl rfl ent113 rfl rfl rfl rfl rfl (Fimpl_within_gives k  a0 (0 : Int) (562949953421311 : Int) r2 hr2) rfl ?_
  refine L.not hF rfl rfl rfl ?_
  refine L.nil ?_
  refine WpC.cond rfl (fun hc => ?_) (fun hc => ?_)
  · replace H := condT hc H
    refine WpC.seq ?_
    refine WpC.regionL ?_
    refine L.assign hF rfl rfl rfl ?_
    refine L.nil ?_
    refine WpC.ret ?_
    cases H
    exact Leaves.ret rfl rfl rfl ⟨rfl, rfl⟩
  · replace H := condF hc H
    refine WpC.skip ?_
    refine WpC.seq ?_
    refine WpC.regionL ?_
    refine L.buildSlice (e := eB) 2 ([] : List UInt8) Try.underlying50 info5 rfl rfl rfl hF rfl rfl rfl rfl rfl rfl rfl rfl ?_
    refine L.assign hF rfl rfl rfl ?_
    refine L.nil ?_
    refine WpC.seq ?_
    refine WpC.block ?_
    refine WpC.loopL (P := Try.prog) (fun n σ => ∃ v16 : Int, ∃ v17 : List UInt8, n ≤ K ∧ Fimpl_Var.l2 n v16 v17 = some r ∧ σ = mkSt [(0, one (cI v16)), (3, one (Cell.own 0))] [(0, ⟨1, List.map eB v17⟩)] [] 1) k ⟨_, ⟨a0, ([] : List UInt8), by omega, H, rfl⟩, Le.mk [(0, 2)] hm rfl ⟨⟨_, rfl, rfl⟩, ⟨_, rfl, rfl⟩, trivial⟩ ⟨⟨_, rfl, rfl⟩, trivial⟩ trivial⟩ ?_
    clear H
    rintro k2 _ ⟨v16, v17, hk2, H, rfl⟩
    cases k2 with
    | zero => cases H
    | succ k2 =>
      rw [Fimpl_Var.l2] at H
      refine WpC.seq ?_
      refine WpC.seq ?_
      refine WpC.regionL ?_
      refine L.move hF rfl rfl rfl ?_
      refine L.bin hF rfl rfl rfl rfl rfl rfl ?_
      refine L.nil ?_
      refine WpC.cond rfl (fun hc => ?_) (fun hc => ?_)
      · replace H := condT hc H
        refine WpC.skip ?_
        refine WpC.block ?_
        refine WpC.seq ?_
        refine WpC.regionL ?_
        refine L.move hF rfl rfl rfl ?_
        refine L.move hF rfl rfl rfl ?_
        refine L.bin hF rfl rfl rfl rfl rfl rfl ?_
        refine L.bin hF rfl rfl rfl rfl rfl rfl ?_
        refine L.toB Try.underlying3 Try.underlying5 hF rfl rfl rfl ?_
        refine L.buildSlice (e := eB) 1 ([(ofI (Go.bits .or .i64 (Go.bits .and .i64 v16 (127 : Int)) (128 : Int)))] : List UInt8) Try.underlying50 info5 rfl rfl rfl hF rfl rfl rfl rfl rfl rfl rfl rfl ?_
        obtain ⟨h18, H⟩ := condG H
        refine L.append (xs := v17) (ys := ([(ofI (Go.bits .or .i64 (Go.bits .and .i64 v16 (127 : Int)) (128 : Int)))] : List UInt8)) (e := eB) 2 Try.underlying50 info5 rfl rfl hF rfl rfl rfl rfl rfl rfl rfl rfl (fun _ => rfl) (fun _ _ h1 h2 => by cases h1; cases h2; rfl) ⟨_, Try.underlying50⟩ (of_decide_eq_true h18) rfl rfl ?_
        refine L.assign hF rfl rfl rfl ?_
        refine L.nil ?_
        refine WpC.regionL ?_
        refine L.move hF rfl rfl rfl ?_
        refine L.shr hF rfl rfl rfl rfl (by decide) ?_
        refine L.assign hF rfl rfl rfl ?_
        refine L.nil ?_
        exact ⟨k2, _, by omega, ⟨(shrI .i64 v16 (7 : Int)), (v17 ++ ([(ofI (Go.bits .or .i64 (Go.bits .and .i64 v16 (127 : Int)) (128 : Int)))] : List UInt8)), by omega, H, rfl⟩, Le.mk [(0, 2)] hm rfl ⟨⟨_, rfl, rfl⟩, ⟨_, rfl, rfl⟩, trivial⟩ ⟨⟨_, rfl, rfl⟩, trivial⟩ trivial⟩
      · replace H := condF hc H
        refine WpC.exit ?_
        refine WpC.seq ?_
        refine WpC.regionL ?_
        refine L.move hF rfl rfl rfl ?_
        refine L.move hF rfl rfl rfl ?_
        refine L.toB Try.underlying3 Try.underlying5 hF rfl rfl rfl ?_
        refine L.buildSlice (e := eB) 1 ([(ofI v16)] : List UInt8) Try.underlying50 info5 rfl rfl rfl hF rfl rfl rfl rfl rfl rfl rfl rfl ?_
        obtain ⟨h19, H⟩ := condG H
        refine L.append (xs := v17) (ys := ([(ofI v16)] : List UInt8)) (e := eB) 2 Try.underlying50 info5 rfl rfl hF rfl rfl rfl rfl rfl rfl rfl rfl (fun _ => rfl) (fun _ _ h1 h2 => by cases h1; cases h2; rfl) ⟨_, Try.underlying50⟩ (of_decide_eq_true h19) rfl rfl ?_
        refine L.b2s (xs := (v17 ++ ([(ofI v16)] : List UInt8))) Try.underlying50 Try.underlying5 Try.underlying9 hF rfl rfl rfl rfl ?_
        refine L.assign hF rfl rfl rfl ?_
        refine L.nil ?_
        refine WpC.ret ?_
        cases H
        exact Leaves.ret rfl rfl rfl ⟨rfl, rfl⟩
/-! ### Fimpl_ReadVar -/
def Fimpl_ReadVar.l2 : Nat → (List UInt8) → Int → Int → Option (Int × Int)
  | 0, _, _, _ => none
  | k2 + 1, v82, v83, v84 => cond (decide (v84 < (v82.length : Int))) (cond (decide (v84 < (7 : Int))) ((at? v82 v84).bind fun b92 => cond (!(decide ((IntKind.i64.wrap ((7 : Int) * v84)) < 0))) ((at? v82 v84).bind fun b94 => cond (decide (b94 < (128 : UInt8))) ((Fimpl_Var k2 (Go.bits .or .i64 v83 (shlI .i64 ((b92 &&& (127 : UInt8)).toNat : Int) (IntKind.i64.wrap ((7 : Int) * v84))))).bind fun r97 => (cut? v82 (0 : Int) (IntKind.i64.wrap (v84 + (1 : Int)))).bind fun b98 => cond (r97 != b98) (some ((0 : Int), (0 : Int))) (some ((Go.bits .or .i64 v83 (shlI .i64 ((b92 &&& (127 : UInt8)).toNat : Int) (IntKind.i64.wrap ((7 : Int) * v84)))), (IntKind.i64.wrap (v84 + (1 : Int)))))) ((Fimpl_ReadVar.l2 k2) v82 (Go.bits .or .i64 v83 (shlI .i64 ((b92 &&& (127 : UInt8)).toNat : Int) (IntKind.i64.wrap ((7 : Int) * v84)))) (IntKind.i64.wrap (v84 + (1 : Int))))) none) (some ((0 : Int), (0 : Int)))) (some ((0 : Int), (0 : Int)))
def Fimpl_ReadVar (k : Nat) (a0 : List UInt8) : Option (Int × Int) := Fimpl_ReadVar.l2 k a0 (0 : Int) (0 : Int)
theorem ent217 : Enters Try.prog 217 := ⟨Try.f217, Try.func217, rfl, by decide⟩
set_option maxHeartbeats 8000000 in
set_option maxRecDepth 100000 in
theorem Fimpl_ReadVar_gives (k : Nat) (a0 : List UInt8) (r : Int × Int) (H : Fimpl_ReadVar k a0 = some r) : Gives Try.prog 217 [V.one (cS a0)] [] [V.one (cI r.1), V.one (cI r.2)] [] := by
  refine Gives.intro Try.func217 rfl rfl rfl rfl ?_
  intro F hF hm
  unfold Fimpl_ReadVar at H
  obtain ⟨K, hK⟩ : ∃ K, k ≤ K := ⟨k, Nat.le_refl k⟩
  refine WpC.seq ?_
  refine WpC.regionL ?_
  refine L.assign hF rfl rfl rfl ?_
  refine L.assign hF rfl rfl rfl ?_
  refine L.nil ?_
  refine WpC.seq ?_
  refine WpC.regionL ?_
  refine L.assign hF rfl rfl rfl ?_
  refine L.nil ?_
  refine WpC.seq ?_
  refine WpC.seq ?_
  refine WpC.regionL ?_
  refine L.assign hF rfl rfl rfl ?_
  refine L.nil ?_
  refine WpC.block ?_
  refine WpC.loopL (P := Try.prog) (fun n σ => ∃ v82 : List UInt8, ∃ v83 : Int, ∃ v84 : Int, n ≤ K ∧ Fimpl_ReadVar.l2 n v82 v83 v84 = some r ∧ σ = mkSt [(0, one (cS v82)), (4, one (cI v83)), (5, one (cI v84))] [] [] 0) k ⟨_, ⟨a0, (0 : Int), (0 : Int), by omega, H, rfl⟩, Le.mk [] hm rfl ⟨⟨_, rfl, rfl⟩, ⟨_, rfl, rfl⟩, ⟨_, rfl, rfl⟩, trivial⟩ trivial trivial⟩ ?_
  clear H
  rintro k2 _ ⟨v82, v83, v84, hk2, H, rfl⟩
  cases k2 with
  | zero => cases H
  | succ k2 =>
    rw [Fimpl_ReadVar.l2] at H
    refine WpC.seq ?_
    refine WpC.seq ?_
    refine WpC.regionL ?_
    refine L.move hF rfl rfl rfl ?_
    refine L.move hF rfl rfl rfl ?_
    refine L.lenS Try.underlying9 hF rfl rfl rfl ?_
    refine L.bin hF rfl rfl rfl rfl rfl rfl ?_
    refine L.move hF rfl rfl rfl ?_
    refine L.split (fun hc => ?_) (fun hc => ?_)
    · replace H := condT hc H
      refine L.move hF rfl rfl rfl ?_
      refine L.bin hF rfl rfl rfl rfl rfl rfl ?_
      refine L.pick hF rfl rfl rfl rfl ?_
      refine L.nil ?_
      refine WpC.cond rfl (fun hc => ?_) (fun hc => ?_)
      · replace H := condT hc H
        refine WpC.skip ?_
        refine WpC.seq ?_
        refine WpC.block ?_
        refine WpC.seq ?_
        refine WpC.regionL ?_
        refine L.move hF rfl rfl rfl ?_
        refine L.move hF rfl rfl rfl ?_
        refine L.move hF rfl rfl rfl ?_
        obtain ⟨b92, hb92, H⟩ := bindS H
        refine L.idxS Try.underlying9 hF rfl rfl rfl rfl hb92 ?_
        refine L.binB (a := b92) (b := (127 : UInt8)) hF rfl rfl rfl rfl rfl ?_
        refine L.ofB Try.underlying5 Try.underlying3 hF rfl rfl rfl ?_
        refine L.move hF rfl rfl rfl ?_
        refine L.bin hF rfl rfl rfl rfl rfl rfl ?_
        obtain ⟨h93, H⟩ := condG H
        refine L.shl hF rfl rfl rfl rfl (by simpa using h93) ?_
        refine L.bin hF rfl rfl rfl rfl rfl rfl ?_
        refine L.assign hF rfl rfl rfl ?_
        refine L.nil ?_
        refine WpC.seq ?_
        refine WpC.regionL ?_
        refine L.move hF rfl rfl rfl ?_
        refine L.move hF rfl rfl rfl ?_
        obtain ⟨b94, hb94, H⟩ := bindS H
        refine L.idxS Try.underlying9 hF rfl rfl rfl rfl hb94 ?_
        refine L.binB (a := b94) (b := (128 : UInt8)) hF rfl rfl rfl rfl rfl ?_
        refine L.nil ?_
        refine WpC.cond rfl (fun hc => ?_) (fun hc => ?_)
        · replace H := condT hc H
          refine WpC.seq ?_
          refine WpC.seq ?_
          obtain ⟨r97, hr97, H⟩ := bindS H
          obtain ⟨b98, hb98, H⟩ := bindS H
          refine A.begin mixed rfl rfl ?_
          intro W hI hO
          have n127 : W 0 #[true, true, true, true, true, true, true] (mkSt [(4, one (cI (Go.bits .or .i64 v83 (shlI .i64 ((b92 &&& (127 : UInt8)).toNat : Int) (IntKind.i64.wrap ((7 : Int) * v84)))))), (5, one (cI v84)), (36, one (cL (r97 != b98)))] [] [] 0) := by
            refine hI _ _ _ (A.done (by kernel_rfl) ?_)
            refine WpC.cond rfl (fun hc => ?_) (fun hc => ?_)
            · replace H := condT hc H
              refine WpC.seq ?_
              refine WpC.regionL ?_
              refine L.assign hF rfl rfl rfl ?_
              refine L.assign hF rfl rfl rfl ?_
              refine L.nil ?_
              refine WpC.ret ?_
              cases H
              exact Leaves.ret rfl rfl rfl ⟨rfl, rfl⟩
            · replace H := condF hc H
              refine WpC.skip ?_
              refine WpC.seq ?_
              refine WpC.regionL ?_
              refine L.move hF rfl rfl rfl ?_
              refine L.move hF rfl rfl rfl ?_
              refine L.bin hF rfl rfl rfl rfl rfl rfl ?_
              refine L.assign hF rfl rfl rfl ?_
              refine L.assign hF rfl rfl rfl ?_
              refine L.nil ?_
              refine WpC.ret ?_
              cases H
              exact Leaves.ret rfl rfl rfl ⟨rfl, rfl⟩
          have n63 : W 1 #[true, true, true, true, true, true, false] (mkSt [(4, one (cI (Go.bits .or .i64 v83 (shlI .i64 ((b92 &&& (127 : UInt8)).toNat : Int) (IntKind.i64.wrap ((7 : Int) * v84)))))), (5, one (cI v84)), (31, one (cS r97)), (35, one (cS b98))] [] [] 0) := by
            refine hI _ _ _ ?_
            refine A.take 6 rfl (by kernel_rfl) (by kernel_rfl) (by kernel_rfl) rfl (Ca.bin rfl rfl (calm_str _ _ _ _ _ _)) (fun Q0 k0 => L.binS hF rfl rfl rfl rfl rfl (L.nil k0)) ?_
            exact A.on (hO _ _ _ n127) (Le.mk [] hm rfl ⟨⟨_, rfl, rfl⟩, ⟨_, rfl, rfl⟩, ⟨_, rfl, rfl⟩, trivial⟩ trivial trivial)
          have n61 : W 2 #[true, false, true, true, true, true, false] (mkSt [(4, one (cI (Go.bits .or .i64 v83 (shlI .i64 ((b92 &&& (127 : UInt8)).toNat : Int) (IntKind.i64.wrap ((7 : Int) * v84)))))), (5, one (cI v84)), (30, one (cI (Go.bits .or .i64 v83 (shlI .i64 ((b92 &&& (127 : UInt8)).toNat : Int) (IntKind.i64.wrap ((7 : Int) * v84)))))), (35, one (cS b98))] [] [] 0) := by
            refine hI _ _ _ ?_
            refine A.all [1] (by kernel_rfl) rfl ⟨⟨_, rfl, ?_⟩, trivial⟩
            · refine L.call [false] [] [] 0 hF rfl rfl rfl ent124 rfl rfl rfl rfl rfl (Fimpl_Var_gives k2  (Go.bits .or .i64 v83 (shlI .i64 ((b92 &&& (127 : UInt8)).toNat : Int) (IntKind.i64.wrap ((7 : Int) * v84)))) r97 hr97) rfl ?_
              refine L.nil ?_
              exact A.on (hO _ _ _ n63) (Le.mk [] hm rfl ⟨⟨_, rfl, rfl⟩, ⟨_, rfl, rfl⟩, ⟨_, rfl, rfl⟩, ⟨_, rfl, rfl⟩, trivial⟩ trivial trivial)
          have n29 : W 3 #[true, false, true, true, true, false, false] (mkSt [(4, one (cI (Go.bits .or .i64 v83 (shlI .i64 ((b92 &&& (127 : UInt8)).toNat : Int) (IntKind.i64.wrap ((7 : Int) * v84)))))), (5, one (cI v84)), (30, one (cI (Go.bits .or .i64 v83 (shlI .i64 ((b92 &&& (127 : UInt8)).toNat : Int) (IntKind.i64.wrap ((7 : Int) * v84)))))), (32, one (cS v82)), (34, one (cI (IntKind.i64.wrap (v84 + (1 : Int)))))] [] [] 0) := by
            refine hI _ _ _ ?_
            refine A.take 5 rfl (by kernel_rfl) (by kernel_rfl) (by kernel_rfl) rfl (Ca.slice) (fun Q0 k0 => L.cutS Try.underlying9 hF rfl rfl rfl rfl rfl hb98 (L.nil k0)) ?_
            exact A.on (hO _ _ _ n61) (Le.mk [] hm rfl ⟨⟨_, rfl, rfl⟩, ⟨_, rfl, rfl⟩, ⟨_, rfl, rfl⟩, ⟨_, rfl, rfl⟩, trivial⟩ trivial trivial)
          have n13 : W 4 #[true, false, true, true, false, false, false] (mkSt [(4, one (cI (Go.bits .or .i64 v83 (shlI .i64 ((b92 &&& (127 : UInt8)).toNat : Int) (IntKind.i64.wrap ((7 : Int) * v84)))))), (5, one (cI v84)), (30, one (cI (Go.bits .or .i64 v83 (shlI .i64 ((b92 &&& (127 : UInt8)).toNat : Int) (IntKind.i64.wrap ((7 : Int) * v84)))))), (32, one (cS v82)), (33, one (cI v84))] [] [] 0) := by
            refine hI _ _ _ ?_
            refine A.take 4 rfl (by kernel_rfl) (by kernel_rfl) (by kernel_rfl) rfl (Ca.bin rfl rfl (calm_int _ _ _ _ _ _ _ _)) (fun Q0 k0 => L.bin hF rfl rfl rfl rfl rfl rfl (L.nil k0)) ?_
            exact A.on (hO _ _ _ n29) (Le.mk [] hm rfl ⟨⟨_, rfl, rfl⟩, ⟨_, rfl, rfl⟩, ⟨_, rfl, rfl⟩, ⟨_, rfl, rfl⟩, ⟨_, rfl, rfl⟩, trivial⟩ trivial trivial)
          have n5 : W 5 #[true, false, true, false, false, false, false] (mkSt [(4, one (cI (Go.bits .or .i64 v83 (shlI .i64 ((b92 &&& (127 : UInt8)).toNat : Int) (IntKind.i64.wrap ((7 : Int) * v84)))))), (5, one (cI v84)), (30, one (cI (Go.bits .or .i64 v83 (shlI .i64 ((b92 &&& (127 : UInt8)).toNat : Int) (IntKind.i64.wrap ((7 : Int) * v84)))))), (32, one (cS v82))] [] [] 0) := by
            refine hI _ _ _ ?_
            refine A.take 3 rfl (by kernel_rfl) (by kernel_rfl) (by kernel_rfl) rfl (Ca.move) (fun Q0 k0 => L.move hF rfl rfl rfl (L.nil k0)) ?_
            exact A.on (hO _ _ _ n13) (Le.mk [] hm rfl ⟨⟨_, rfl, rfl⟩, ⟨_, rfl, rfl⟩, ⟨_, rfl, rfl⟩, ⟨_, rfl, rfl⟩, ⟨_, rfl, rfl⟩, trivial⟩ trivial trivial)
          have n1 : W 6 #[true, false, false, false, false, false, false] (mkSt [(0, one (cS v82)), (4, one (cI (Go.bits .or .i64 v83 (shlI .i64 ((b92 &&& (127 : UInt8)).toNat : Int) (IntKind.i64.wrap ((7 : Int) * v84)))))), (5, one (cI v84)), (30, one (cI (Go.bits .or .i64 v83 (shlI .i64 ((b92 &&& (127 : UInt8)).toNat : Int) (IntKind.i64.wrap ((7 : Int) * v84))))))] [] [] 0) := by
            refine hI _ _ _ ?_
            refine A.take 2 rfl (by kernel_rfl) (by kernel_rfl) (by kernel_rfl) rfl (Ca.move) (fun Q0 k0 => L.move hF rfl rfl rfl (L.nil k0)) ?_
            exact A.on (hO _ _ _ n5) (Le.mk [] hm rfl ⟨⟨_, rfl, rfl⟩, ⟨_, rfl, rfl⟩, ⟨_, rfl, rfl⟩, ⟨_, rfl, rfl⟩, trivial⟩ trivial trivial)
          have n0 : W 7 #[false, false, false, false, false, false, false] (mkSt [(0, one (cS v82)), (4, one (cI (Go.bits .or .i64 v83 (shlI .i64 ((b92 &&& (127 : UInt8)).toNat : Int) (IntKind.i64.wrap ((7 : Int) * v84)))))), (5, one (cI v84))] [] [] 0) := by
            refine hI _ _ _ ?_
            refine A.take 0 rfl (by kernel_rfl) (by kernel_rfl) (by kernel_rfl) rfl (Ca.move) (fun Q0 k0 => L.move hF rfl rfl rfl (L.nil k0)) ?_
            exact A.on (hO _ _ _ n1) (Le.mk [] hm rfl ⟨⟨_, rfl, rfl⟩, ⟨_, rfl, rfl⟩, ⟨_, rfl, rfl⟩, ⟨_, rfl, rfl⟩, trivial⟩ trivial trivial)
          exact hI _ _ _ (A.on (hO _ _ _ n0) (Le.mk [] hm rfl ⟨⟨_, rfl, rfl⟩, ⟨_, rfl, rfl⟩, ⟨_, rfl, rfl⟩, trivial⟩ trivial trivial))
        · replace H := condF hc H
          refine WpC.skip ?_
          refine WpC.regionL ?_
          refine L.move hF rfl rfl rfl ?_
          refine L.bin hF rfl rfl rfl rfl rfl rfl ?_
          refine L.assign hF rfl rfl rfl ?_
          refine L.nil ?_
          exact ⟨k2, _, by omega, ⟨v82, (Go.bits .or .i64 v83 (shlI .i64 ((b92 &&& (127 : UInt8)).toNat : Int) (IntKind.i64.wrap ((7 : Int) * v84)))), (IntKind.i64.wrap (v84 + (1 : Int))), by omega, H, rfl⟩, Le.mk [] hm rfl ⟨⟨_, rfl, rfl⟩, ⟨_, rfl, rfl⟩, ⟨_, rfl, rfl⟩, trivial⟩ trivial trivial⟩
      · replace H := condF hc H
        refine WpC.exit ?_
        refine WpC.seq ?_
        refine WpC.regionL ?_
        refine L.assign hF rfl rfl rfl ?_
        refine L.assign hF rfl rfl rfl ?_
        refine L.nil ?_
        refine WpC.ret ?_
        cases H
        exact Leaves.ret rfl rfl rfl ⟨rfl, rfl⟩
    · replace H := condF hc H
      refine L.off hF rfl rfl ?_
      refine L.off hF rfl rfl ?_
      refine L.pick hF rfl rfl rfl rfl ?_
      refine L.nil ?_
      refine WpC.cond rfl (fun hc => by cases hc) (fun _ => ?_)
      refine WpC.exit ?_
      refine WpC.seq ?_
      refine WpC.regionL ?_
      refine L.assign hF rfl rfl rfl ?_
      refine L.assign hF rfl rfl rfl ?_
      refine L.nil ?_
      refine WpC.ret ?_
      cases H
      exact Leaves.ret rfl rfl rfl ⟨rfl, rfl⟩
/-! ### Fimpl_varAt -/
def Fimpl_varAt (k : Nat) (a0 : List UInt8) (a1 : Int) : Option (Int × Int) := (cut? a0 a1 (a0.length : Int)).bind fun b1 => (Fimpl_ReadVar k b1).bind fun r2 => cond (r2.2 == (0 : Int)) (some ((-1 : Int), a1)) (some (r2.1, (IntKind.i64.wrap (a1 + r2.2))))
theorem ent218 : Enters Try.prog 218 := ⟨Try.f218, Try.func218, rfl, by decide⟩
set_option maxHeartbeats 8000000 in
set_option maxRecDepth 100000 in
theorem Fimpl_varAt_gives (k : Nat) (a0 : List UInt8) (a1 : Int) (r : Int × Int) (H : Fimpl_varAt k a0 a1 = some r) : Gives Try.prog 218 [V.one (cS a0), V.one (cI a1)] [] [V.one (cI r.1), V.one (cI r.2)] [] := by
  refine Gives.intro Try.func218 rfl rfl rfl rfl ?_
  intro F hF hm
  unfold Fimpl_varAt at H
  obtain ⟨K, hK⟩ : ∃ K, k ≤ K := ⟨k, Nat.le_refl k⟩
  refine WpC.seq ?_
  refine WpC.regionL ?_
  refine L.assign hF rfl rfl rfl ?_
  refine L.assign hF rfl rfl rfl ?_
  refine L.nil ?_
  refine WpC.seq ?_
  refine WpC.regionL ?_
  refine L.move hF rfl rfl rfl ?_
  refine L.move hF rfl rfl rfl ?_
  obtain ⟨b1, hb1, H⟩ := bindS H
  refine L.cutS Try.underlying9 hF rfl rfl rfl rfl rfl hb1 ?_
  obtain ⟨r2, hr2, H⟩ := bindS H
  refine L.call [false] [] [] 2 hF rfl rfl rfl ent217 rfl rfl rfl rfl rfl (Fimpl_ReadVar_gives k  b1 r2 hr2) rfl ?_
  refine L.move hF rfl rfl rfl ?_
  refine L.extract hF rfl rfl rfl rfl ?_
  refine L.extract hF rfl rfl rfl rfl ?_
  refine L.assign hF rfl rfl rfl ?_
  refine L.assign hF rfl rfl rfl ?_
  refine L.nil ?_
  refine WpC.seq ?_
  refine WpC.seq ?_
  refine WpC.regionL ?_
  refine L.move hF rfl rfl rfl ?_
  refine L.bin hF rfl rfl rfl rfl rfl rfl ?_
  refine L.nil ?_
  refine WpC.cond rfl (fun hc => ?_) (fun hc => ?_)
  · replace H := condT hc H
    refine WpC.seq ?_
    refine WpC.regionL ?_
    refine L.move hF rfl rfl rfl ?_
    refine L.assign hF rfl rfl rfl ?_
    refine L.assign hF rfl rfl rfl ?_
    refine L.nil ?_
    refine WpC.ret ?_
    cases H
    exact Leaves.ret rfl rfl rfl ⟨rfl, rfl⟩
  · replace H := condF hc H
    refine WpC.skip ?_
    refine WpC.seq ?_
    refine WpC.regionL ?_
    refine L.move hF rfl rfl rfl ?_
    refine L.move hF rfl rfl rfl ?_
    refine L.move hF rfl rfl rfl ?_
    refine L.bin hF rfl rfl rfl rfl rfl rfl ?_
    refine L.assign hF rfl rfl rfl ?_
    refine L.assign hF rfl rfl rfl ?_
    refine L.nil ?_
    refine WpC.ret ?_
    cases H
    exact Leaves.ret rfl rfl rfl ⟨rfl, rfl⟩
/-! ### Fimpl_isKey -/
def Fimpl_isKey (k : Nat) (a0 : Int) : Option Bool := (Fimpl_within k a0 (1 : Int) (1000000 : Int)).bind fun r1 => some r1
theorem ent277 : Enters Try.prog 277 := ⟨Try.f277, Try.func277, rfl, by decide⟩
set_option maxHeartbeats 8000000 in
set_option maxRecDepth 100000 in
theorem Fimpl_isKey_gives (k : Nat) (a0 : Int) (r : Bool) (H : Fimpl_isKey k a0 = some r) : Gives Try.prog 277 [V.one (cI a0)] [] [V.one (cL r)] [] := by
  refine Gives.intro Try.func277 rfl rfl rfl rfl ?_
  intro F hF hm
  unfold Fimpl_isKey at H
  obtain ⟨K, hK⟩ : ∃ K, k ≤ K := ⟨k, Nat.le_refl k⟩
  refine WpC.seq ?_
  refine WpC.regionL ?_
  refine L.assign hF rfl rfl rfl ?_
  refine L.nil ?_
  refine WpC.seq ?_
  refine WpC.regionL ?_
  refine L.move hF rfl rfl rfl ?_
  obtain ⟨r1, hr1, H⟩ := bindS H
  refine L.call [false, false, false] [] [] 1 hF rfl rfl rfl ent113 rfl rfl rfl rfl rfl (Fimpl_within_gives k  a0 (1 : Int) (1000000 : Int) r1 hr1) rfl ?_
  refine L.assign hF rfl rfl rfl ?_
  refine L.nil ?_
  refine WpC.ret ?_
  cases H
  exact Leaves.ret rfl rfl rfl ⟨rfl, rfl⟩
/-! ### Fimpl_termAt -/
def Fimpl_termAt.l4 (cREC : (List UInt8) → Int → Int → Option Int) : Nat → (List UInt8) → Int → Int → Int → Int → Option Int
  | 0, _, _, _, _, _ => none
  | k4 + 1, v96, v97, v98, v99, v100 => cond (decide (v100 < v98)) (cond (decide (v99 ≥ (0 : Int))) ((cREC v96 v99 (IntKind.i64.wrap (v97 - (1 : Int)))).bind fun r102 => (Fimpl_termAt.l4 cREC k4) v96 v97 v98 r102 (IntKind.i64.wrap (v100 + (1 : Int)))) (some v99)) (some v99)
def Fimpl_termAt : Nat → (List UInt8) → Int → Int → Option Int
  | 0, _, _, _ => none
  | k + 1, a0, a1, a2 => cond (decide (a1 ≥ (a0.length : Int))) (some (-1 : Int)) (cond (decide (a2 < (1 : Int))) (some (-1 : Int)) ((Fimpl_varAt k a0 (IntKind.i64.wrap (a1 + (1 : Int)))).bind fun r1 => (at? a0 a1).bind fun b54 => cond (b54 == (97 : UInt8)) ((Fimpl_within k r1.1 (0 : Int) (40 : Int)).bind fun r58 => cond (!r58) (some (-1 : Int)) (cond (decide (r1.1 > (IntKind.i64.wrap ((a0.length : Int) - r1.2)))) (some (-1 : Int)) (some (IntKind.i64.wrap (r1.2 + r1.1))))) (cond (b54 == (107 : UInt8)) ((Fimpl_isKey k r1.1).bind fun r60 => cond (!r60) (some (-1 : Int)) (some r1.2)) (cond (b54 == (108 : UInt8)) ((Fimpl_within k r1.1 (0 : Int) (12 : Int)).bind fun r62 => cond (!r62) (some (-1 : Int)) (Fimpl_termAt.l4 (Fimpl_termAt k) k a0 a2 r1.1 r1.2 (0 : Int))) (cond (b54 == (115 : UInt8)) ((Fimpl_isKey k r1.1).bind fun r104 => cond (!r104) (some (-1 : Int)) (((Fimpl_termAt k) a0 r1.2 (IntKind.i64.wrap (a2 - (1 : Int)))).bind fun r105 => some r105)) (some (-1 : Int)))))))
theorem ent236 : Enters Try.prog 236 := ⟨Try.f236, Try.func236, rfl, by decide⟩
set_option maxHeartbeats 8000000 in
set_option maxRecDepth 100000 in
theorem Fimpl_termAt_gives : ∀ (k : Nat) (a0 : List UInt8) (a1 : Int) (a2 : Int) (r : Int) (H : Fimpl_termAt k a0 a1 a2 = some r), Gives Try.prog 236 [V.one (cS a0), V.one (cI a1), V.one (cI a2)] [] [V.one (cI r)] [] := by
  intro k
  induction k with
  | zero => intros; rename_i H; cases H
  | succ k ih =>
    intro a0 a1 a2 r H
    refine Gives.intro Try.func236 rfl rfl rfl rfl ?_
    intro F hF hm
    rw [Fimpl_termAt] at H
    obtain ⟨K, hK⟩ : ∃ K, k ≤ K := ⟨k, Nat.le_refl k⟩
    refine WpC.seq ?_
    refine WpC.regionL ?_
    refine L.assign hF rfl rfl rfl ?_
    refine L.nil ?_
    refine WpC.seq ?_
    refine WpC.seq ?_
    refine WpC.regionL ?_
    refine L.move hF rfl rfl rfl ?_
    refine L.move hF rfl rfl rfl ?_
    refine L.lenS Try.underlying9 hF rfl rfl rfl ?_
    refine L.bin hF rfl rfl rfl rfl rfl rfl ?_
    refine L.move hF rfl rfl rfl ?_
    refine L.split (fun hc => ?_) (fun hc => ?_)
    · replace H := condT hc H
      refine L.off hF rfl rfl ?_
      refine L.off hF rfl rfl ?_
      refine L.pick hF rfl rfl rfl rfl ?_
      refine L.nil ?_
      refine WpC.cond rfl (fun _ => ?_) (fun hc => by cases hc)
      refine WpC.seq ?_
      refine WpC.regionL ?_
      refine L.assign hF rfl rfl rfl ?_
      refine L.nil ?_
      refine WpC.ret ?_
      cases H
      exact Leaves.ret rfl rfl rfl ⟨rfl, rfl⟩
    · replace H := condF hc H
      refine L.move hF rfl rfl rfl ?_
      refine L.bin hF rfl rfl rfl rfl rfl rfl ?_
      refine L.pick hF rfl rfl rfl rfl ?_
      refine L.nil ?_
      refine WpC.cond rfl (fun hc => ?_) (fun hc => ?_)
      · replace H := condT hc H
        refine WpC.seq ?_
        refine WpC.regionL ?_
        refine L.assign hF rfl rfl rfl ?_
        refine L.nil ?_
        refine WpC.ret ?_
        cases H
        exact Leaves.ret rfl rfl rfl ⟨rfl, rfl⟩
      · replace H := condF hc H
        refine WpC.skip ?_
        refine WpC.seq ?_
        refine WpC.regionL ?_
        refine L.move hF rfl rfl rfl ?_
        refine L.move hF rfl rfl rfl ?_
        refine L.bin hF rfl rfl rfl rfl rfl rfl ?_
        obtain ⟨r1, hr1, H⟩ := bindS H
        refine L.call [false, false] [] [] 3 hF rfl rfl rfl ent218 rfl rfl rfl rfl rfl (Fimpl_varAt_gives k  a0 (IntKind.i64.wrap (a1 + (1 : Int))) r1 hr1) rfl ?_
        refine L.move hF rfl rfl rfl ?_
        refine L.extract hF rfl rfl rfl rfl ?_
        refine L.extract hF rfl rfl rfl rfl ?_
        refine L.assign hF rfl rfl rfl ?_
        refine L.assign hF rfl rfl rfl ?_
        refine L.nil ?_
        refine WpC.seq ?_
        refine WpC.seq ?_
        refine WpC.regionL ?_
        refine L.move hF rfl rfl rfl ?_
        refine L.move hF rfl rfl rfl ?_
        obtain ⟨b54, hb54, H⟩ := bindS H
        refine L.idxS Try.underlying9 hF rfl rfl rfl rfl hb54 ?_
        refine L.nil ?_
        refine WpC.block ?_
        refine WpC.seq ?_
        refine WpC.regionL ?_
        refine L.binB (a := b54) (b := (97 : UInt8)) hF rfl rfl rfl rfl rfl ?_
        refine L.assign hF rfl rfl rfl ?_
        refine L.nil ?_
        refine WpC.cond rfl (fun hc => ?_) (fun hc => ?_)
        · replace H := condT hc H
          refine WpC.seq ?_
          refine WpC.seq ?_
          refine WpC.regionL ?_
          refine L.move hF rfl rfl rfl ?_
          obtain ⟨r58, hr58, H⟩ := bindS H
          refine L.call [false, false, false] [] [] 5 hF rfl rfl rfl ent113 rfl rfl rfl rfl rfl (Fimpl_within_gives k  r1.1 (0 : Int) (40 : Int) r58 hr58) rfl ?_
          refine L.not hF rfl rfl rfl ?_
          refine L.move hF rfl rfl rfl ?_
          refine L.split (fun hc => ?_) (fun hc => ?_)
          · replace H := condT hc H
            refine L.off hF rfl rfl ?_
            refine L.off hF rfl rfl ?_
            refine L.off hF rfl rfl ?_
            refine L.off hF rfl rfl ?_
            refine L.off hF rfl rfl ?_
            refine L.off hF rfl rfl ?_
            refine L.pick hF rfl rfl rfl rfl ?_
            refine L.nil ?_
            refine WpC.cond rfl (fun _ => ?_) (fun hc => by cases hc)
            refine WpC.seq ?_
            refine WpC.regionL ?_
            refine L.assign hF rfl rfl rfl ?_
            refine L.nil ?_
            refine WpC.ret ?_
            cases H
            exact Leaves.ret rfl rfl rfl ⟨rfl, rfl⟩
          · replace H := condF hc H
            refine L.move hF rfl rfl rfl ?_
            refine L.move hF rfl rfl rfl ?_
            refine L.lenS Try.underlying9 hF rfl rfl rfl ?_
            refine L.move hF rfl rfl rfl ?_
            refine L.bin hF rfl rfl rfl rfl rfl rfl ?_
            refine L.bin hF rfl rfl rfl rfl rfl rfl ?_
            refine L.pick hF rfl rfl rfl rfl ?_
            refine L.nil ?_
            refine WpC.cond rfl (fun hc => ?_) (fun hc => ?_)
            · replace H := condT hc H
              refine WpC.seq ?_
              refine WpC.regionL ?_
              refine L.assign hF rfl rfl rfl ?_
              refine L.nil ?_
              refine WpC.ret ?_
              cases H
              exact Leaves.ret rfl rfl rfl ⟨rfl, rfl⟩
            · replace H := condF hc H
              refine WpC.skip ?_
              refine WpC.seq ?_
              refine WpC.regionL ?_
              refine L.move hF rfl rfl rfl ?_
              refine L.move hF rfl rfl rfl ?_
              refine L.bin hF rfl rfl rfl rfl rfl rfl ?_
              refine L.assign hF rfl rfl rfl ?_
              refine L.nil ?_
              refine WpC.ret ?_
              cases H
              exact Leaves.ret rfl rfl rfl ⟨rfl, rfl⟩
        · replace H := condF hc H
          refine WpC.seq ?_
          refine WpC.regionL ?_
          refine L.binB (a := b54) (b := (107 : UInt8)) hF rfl rfl rfl rfl rfl ?_
          refine L.assign hF rfl rfl rfl ?_
          refine L.nil ?_
          refine WpC.cond rfl (fun hc => ?_) (fun hc => ?_)
          · replace H := condT hc H
            refine WpC.seq ?_
            refine WpC.seq ?_
            refine WpC.regionL ?_
            refine L.move hF rfl rfl rfl ?_
            obtain ⟨r60, hr60, H⟩ := bindS H
            refine L.call [false] [] [] 5 hF rfl rfl rfl ent277 rfl rfl rfl rfl rfl (Fimpl_isKey_gives k  r1.1 r60 hr60) rfl ?_
            refine L.not hF rfl rfl rfl ?_
            refine L.nil ?_
            refine WpC.cond rfl (fun hc => ?_) (fun hc => ?_)
            · replace H := condT hc H
              refine WpC.seq ?_
              refine WpC.regionL ?_
              refine L.assign hF rfl rfl rfl ?_
              refine L.nil ?_
              refine WpC.ret ?_
              cases H
              exact Leaves.ret rfl rfl rfl ⟨rfl, rfl⟩
            · replace H := condF hc H
              refine WpC.skip ?_
              refine WpC.seq ?_
              refine WpC.regionL ?_
              refine L.move hF rfl rfl rfl ?_
              refine L.assign hF rfl rfl rfl ?_
              refine L.nil ?_
              refine WpC.ret ?_
              cases H
              exact Leaves.ret rfl rfl rfl ⟨rfl, rfl⟩
          · replace H := condF hc H
            refine WpC.seq ?_
            refine WpC.regionL ?_
            refine L.binB (a := b54) (b := (108 : UInt8)) hF rfl rfl rfl rfl rfl ?_
            refine L.assign hF rfl rfl rfl ?_
            refine L.nil ?_
            refine WpC.cond rfl (fun hc => ?_) (fun hc => ?_)
            · replace H := condT hc H
              refine WpC.seq ?_
              refine WpC.seq ?_
              refine WpC.regionL ?_
              refine L.move hF rfl rfl rfl ?_
              obtain ⟨r62, hr62, H⟩ := bindS H
              refine L.call [false, false, false] [] [] 5 hF rfl rfl rfl ent113 rfl rfl rfl rfl rfl (Fimpl_within_gives k  r1.1 (0 : Int) (12 : Int) r62 hr62) rfl ?_
              refine L.not hF rfl rfl rfl ?_
              refine L.nil ?_
              refine WpC.cond rfl (fun hc => ?_) (fun hc => ?_)
              · replace H := condT hc H
                refine WpC.seq ?_
                refine WpC.regionL ?_
                refine L.assign hF rfl rfl rfl ?_
                refine L.nil ?_
                refine WpC.ret ?_
                cases H
                exact Leaves.ret rfl rfl rfl ⟨rfl, rfl⟩
              · replace H := condF hc H
                refine WpC.skip ?_
                refine WpC.seq ?_
                refine WpC.seq ?_
                refine WpC.regionL ?_
                refine L.assign hF rfl rfl rfl ?_
                refine L.nil ?_
                refine WpC.block ?_
                refine WpC.loopL (P := Try.prog) (fun n σ => ∃ v96 : List UInt8, ∃ v97 : Int, ∃ v98 : Int, ∃ v99 : Int, ∃ v100 : Int, n ≤ K ∧ Fimpl_termAt.l4 (Fimpl_termAt k) n v96 v97 v98 v99 v100 = some r ∧ σ = mkSt [(0, one (cS v96)), (2, one (cI v97)), (7, one (cI v98)), (8, one (cI v99)), (9, one (cI v100))] [] [] 0) k ⟨_, ⟨a0, a2, r1.1, r1.2, (0 : Int), by omega, H, rfl⟩, Le.mk [] hm rfl ⟨⟨_, rfl, rfl⟩, ⟨_, rfl, rfl⟩, ⟨_, rfl, rfl⟩, ⟨_, rfl, rfl⟩, ⟨_, rfl, rfl⟩, trivial⟩ trivial trivial⟩ ?_
                clear H
                rintro k4 _ ⟨v96, v97, v98, v99, v100, hk4, H, rfl⟩
                cases k4 with
                | zero => cases H
                | succ k4 =>
                  rw [Fimpl_termAt.l4] at H
                  refine WpC.seq ?_
                  refine WpC.seq ?_
                  refine WpC.regionL ?_
                  refine L.move hF rfl rfl rfl ?_
                  refine L.move hF rfl rfl rfl ?_
                  refine L.bin hF rfl rfl rfl rfl rfl rfl ?_
                  refine L.move hF rfl rfl rfl ?_
                  refine L.split (fun hc => ?_) (fun hc => ?_)
                  · replace H := condT hc H
                    refine L.move hF rfl rfl rfl ?_
                    refine L.bin hF rfl rfl rfl rfl rfl rfl ?_
                    refine L.pick hF rfl rfl rfl rfl ?_
                    refine L.nil ?_
                    refine WpC.cond rfl (fun hc => ?_) (fun hc => ?_)
                    · replace H := condT hc H
                      refine WpC.skip ?_
                      refine WpC.seq ?_
                      refine WpC.block ?_
                      refine WpC.regionL ?_
                      refine L.move hF rfl rfl rfl ?_
                      refine L.move hF rfl rfl rfl ?_
                      refine L.move hF rfl rfl rfl ?_
                      refine L.bin hF rfl rfl rfl rfl rfl rfl ?_
                      obtain ⟨r102, hr102, H⟩ := bindS H
                      refine L.call [false, false, false] [] [] 0 hF rfl rfl rfl ent236 rfl rfl rfl rfl rfl (ih  v96 v99 (IntKind.i64.wrap (v97 - (1 : Int))) r102 hr102) rfl ?_
                      refine L.assign hF rfl rfl rfl ?_
                      refine L.nil ?_
                      refine WpC.regionL ?_
                      refine L.move hF rfl rfl rfl ?_
                      refine L.bin hF rfl rfl rfl rfl rfl rfl ?_
                      refine L.assign hF rfl rfl rfl ?_
                      refine L.nil ?_
                      exact ⟨k4, _, by omega, ⟨v96, v97, v98, r102, (IntKind.i64.wrap (v100 + (1 : Int))), by omega, H, rfl⟩, Le.mk [] hm rfl ⟨⟨_, rfl, rfl⟩, ⟨_, rfl, rfl⟩, ⟨_, rfl, rfl⟩, ⟨_, rfl, rfl⟩, ⟨_, rfl, rfl⟩, trivial⟩ trivial trivial⟩
                    · replace H := condF hc H
                      refine WpC.exit ?_
                      refine WpC.seq ?_
                      refine WpC.regionL ?_
                      refine L.move hF rfl rfl rfl ?_
                      refine L.assign hF rfl rfl rfl ?_
                      refine L.nil ?_
                      refine WpC.ret ?_
                      cases H
                      exact Leaves.ret rfl rfl rfl ⟨rfl, rfl⟩
                  · replace H := condF hc H
                    refine L.off hF rfl rfl ?_
                    refine L.off hF rfl rfl ?_
                    refine L.pick hF rfl rfl rfl rfl ?_
                    refine L.nil ?_
                    refine WpC.cond rfl (fun hc => by cases hc) (fun _ => ?_)
                    refine WpC.exit ?_
                    refine WpC.seq ?_
                    refine WpC.regionL ?_
                    refine L.move hF rfl rfl rfl ?_
                    refine L.assign hF rfl rfl rfl ?_
                    refine L.nil ?_
                    refine WpC.ret ?_
                    cases H
                    exact Leaves.ret rfl rfl rfl ⟨rfl, rfl⟩
            · replace H := condF hc H
              refine WpC.seq ?_
              refine WpC.regionL ?_
              refine L.binB (a := b54) (b := (115 : UInt8)) hF rfl rfl rfl rfl rfl ?_
              refine L.assign hF rfl rfl rfl ?_
              refine L.nil ?_
              refine WpC.cond rfl (fun hc => ?_) (fun hc => ?_)
              · replace H := condT hc H
                refine WpC.seq ?_
                refine WpC.seq ?_
                refine WpC.regionL ?_
                refine L.move hF rfl rfl rfl ?_
                obtain ⟨r104, hr104, H⟩ := bindS H
                refine L.call [false] [] [] 5 hF rfl rfl rfl ent277 rfl rfl rfl rfl rfl (Fimpl_isKey_gives k  r1.1 r104 hr104) rfl ?_
                refine L.not hF rfl rfl rfl ?_
                refine L.nil ?_
                refine WpC.cond rfl (fun hc => ?_) (fun hc => ?_)
                · replace H := condT hc H
                  refine WpC.seq ?_
                  refine WpC.regionL ?_
                  refine L.assign hF rfl rfl rfl ?_
                  refine L.nil ?_
                  refine WpC.ret ?_
                  cases H
                  exact Leaves.ret rfl rfl rfl ⟨rfl, rfl⟩
                · replace H := condF hc H
                  refine WpC.skip ?_
                  refine WpC.seq ?_
                  refine WpC.regionL ?_
                  refine L.move hF rfl rfl rfl ?_
                  refine L.move hF rfl rfl rfl ?_
                  refine L.move hF rfl rfl rfl ?_
                  refine L.bin hF rfl rfl rfl rfl rfl rfl ?_
                  obtain ⟨r105, hr105, H⟩ := bindS H
                  refine L.call [false, false, false] [] [] 6 hF rfl rfl rfl ent236 rfl rfl rfl rfl rfl (ih  a0 r1.2 (IntKind.i64.wrap (a2 - (1 : Int))) r105 hr105) rfl ?_
                  refine L.assign hF rfl rfl rfl ?_
                  refine L.nil ?_
                  refine WpC.ret ?_
                  cases H
                  exact Leaves.ret rfl rfl rfl ⟨rfl, rfl⟩
              · replace H := condF hc H
                refine WpC.skip ?_
                refine WpC.seq ?_
                refine WpC.regionL ?_
                refine L.assign hF rfl rfl rfl ?_
                refine L.nil ?_
                refine WpC.ret ?_
                cases H
                exact Leaves.ret rfl rfl rfl ⟨rfl, rfl⟩
/-! ### Fimpl_TermOk -/
def Fimpl_TermOk (k : Nat) (a0 : List UInt8) : Option Bool := (Fimpl_within k (a0.length : Int) (1 : Int) (900 : Int)).bind fun r3 => cond r3 ((Fimpl_termAt k a0 (0 : Int) (8 : Int)).bind fun r4 => some (r4 == (a0.length : Int))) (some false)
theorem ent274 : Enters Try.prog 274 := ⟨Try.f274, Try.func274, rfl, by decide⟩
set_option maxHeartbeats 8000000 in
set_option maxRecDepth 100000 in
theorem Fimpl_TermOk_gives (k : Nat) (a0 : List UInt8) (r : Bool) (H : Fimpl_TermOk k a0 = some r) : Gives Try.prog 274 [V.one (cS a0)] [] [V.one (cL r)] [] := by
  refine Gives.intro Try.func274 rfl rfl rfl rfl ?_
  intro F hF hm
  unfold Fimpl_TermOk at H
  obtain ⟨K, hK⟩ : ∃ K, k ≤ K := ⟨k, Nat.le_refl k⟩
  refine WpC.seq ?_
  refine WpC.regionL ?_
  refine L.assign hF rfl rfl rfl ?_
  refine L.nil ?_
  refine WpC.seq ?_
  refine WpC.regionL ?_
  refine L.move hF rfl rfl rfl ?_
  refine L.lenS Try.underlying9 hF rfl rfl rfl ?_
  obtain ⟨r3, hr3, H⟩ := bindS H
  refine L.call [false, false, false] [] [] 1 hF rfl rfl rfl ent113 rfl rfl rfl rfl rfl (Fimpl_within_gives k  (a0.length : Int) (1 : Int) (900 : Int) r3 hr3) rfl ?_
  refine L.move hF rfl rfl rfl ?_
  refine L.split (fun hc => ?_) (fun hc => ?_)
  · replace H := condT hc H
    refine L.move hF rfl rfl rfl ?_
    obtain ⟨r4, hr4, H⟩ := bindS H
    refine L.call [false, false, false] [] [] 2 hF rfl rfl rfl ent236 rfl rfl rfl rfl rfl (Fimpl_termAt_gives k  a0 (0 : Int) (8 : Int) r4 hr4) rfl ?_
    refine L.move hF rfl rfl rfl ?_
    refine L.lenS Try.underlying9 hF rfl rfl rfl ?_
    refine L.bin hF rfl rfl rfl rfl rfl rfl ?_
    refine L.pick hF rfl rfl rfl rfl ?_
    refine L.assign hF rfl rfl rfl ?_
    refine L.nil ?_
    refine WpC.ret ?_
    cases H
    exact Leaves.ret rfl rfl rfl ⟨rfl, rfl⟩
  · replace H := condF hc H
    refine L.off hF rfl rfl ?_
    refine L.off hF rfl rfl ?_
    refine L.off hF rfl rfl ?_
    refine L.off hF rfl rfl ?_
    refine L.off hF rfl rfl ?_
    refine L.pick hF rfl rfl rfl rfl ?_
    refine L.assign hF rfl rfl rfl ?_
    refine L.nil ?_
    refine WpC.ret ?_
    cases H
    exact Leaves.ret rfl rfl rfl ⟨rfl, rfl⟩
/-! ### Fimpl_isOf -/
def Fimpl_isOf (k : Nat) (a0 : List UInt8) (a1 : UInt8) : Option Bool := (Fimpl_TermOk k a0).bind fun r3 => cond r3 ((at? a0 (0 : Int)).bind fun b4 => some (b4 == a1)) (some false)
theorem ent235 : Enters Try.prog 235 := ⟨Try.f235, Try.func235, rfl, by decide⟩
set_option maxHeartbeats 8000000 in
set_option maxRecDepth 100000 in
theorem Fimpl_isOf_gives (k : Nat) (a0 : List UInt8) (a1 : UInt8) (r : Bool) (H : Fimpl_isOf k a0 a1 = some r) : Gives Try.prog 235 [V.one (cS a0), V.one (cU a1)] [] [V.one (cL r)] [] := by
  refine Gives.intro Try.func235 rfl rfl rfl rfl ?_
  intro F hF hm
  unfold Fimpl_isOf at H
  obtain ⟨K, hK⟩ : ∃ K, k ≤ K := ⟨k, Nat.le_refl k⟩
  refine WpC.seq ?_
  refine WpC.regionL ?_
  refine L.assign hF rfl rfl rfl ?_
  refine L.nil ?_
  refine WpC.seq ?_
  refine WpC.regionL ?_
  refine L.move hF rfl rfl rfl ?_
  obtain ⟨r3, hr3, H⟩ := bindS H
  refine L.call [false] [] [] 2 hF rfl rfl rfl ent274 rfl rfl rfl rfl rfl (Fimpl_TermOk_gives k  a0 r3 hr3) rfl ?_
  refine L.move hF rfl rfl rfl ?_
  refine L.split (fun hc => ?_) (fun hc => ?_)
  · replace H := condT hc H
    refine L.move hF rfl rfl rfl ?_
    obtain ⟨b4, hb4, H⟩ := bindS H
    refine L.idxS Try.underlying9 hF rfl rfl rfl rfl hb4 ?_
    refine L.move hF rfl rfl rfl ?_
    refine L.binB (a := b4) (b := a1) hF rfl rfl rfl rfl rfl ?_
    refine L.pick hF rfl rfl rfl rfl ?_
    refine L.assign hF rfl rfl rfl ?_
    refine L.nil ?_
    refine WpC.ret ?_
    cases H
    exact Leaves.ret rfl rfl rfl ⟨rfl, rfl⟩
  · replace H := condF hc H
    refine L.off hF rfl rfl ?_
    refine L.off hF rfl rfl ?_
    refine L.off hF rfl rfl ?_
    refine L.off hF rfl rfl ?_
    refine L.pick hF rfl rfl rfl rfl ?_
    refine L.assign hF rfl rfl rfl ?_
    refine L.nil ?_
    refine WpC.ret ?_
    cases H
    exact Leaves.ret rfl rfl rfl ⟨rfl, rfl⟩
/-! ### Fimpl_Parts -/
def Fimpl_Parts.l2 : Nat → (List UInt8) → Int → (List (List UInt8)) → Int → Int → Option (List (List UInt8) × Bool)
  | 0, _, _, _, _, _ => none
  | k2 + 1, v57, v58, v59, v60, v61 => cond (decide (v61 < v60)) ((Fimpl_termAt k2 v57 v58 (8 : Int)).bind fun r65 => (cut? v57 v58 r65).bind fun b66 => cond (decide ((2 * (v59.length + ([b66] : List (List UInt8)).length) + 192) * 16 ≤ 281474976710656)) ((Fimpl_Parts.l2 k2) v57 r65 (v59 ++ ([b66] : List (List UInt8))) v60 (IntKind.i64.wrap (v61 + (1 : Int)))) none) (some (v59, true))
def Fimpl_Parts (k : Nat) (a0 : List UInt8) : Option (List (List UInt8) × Bool) := (Fimpl_isOf k a0 (108 : UInt8)).bind fun r2 => cond (!r2) (some ([], false)) ((Fimpl_varAt k a0 (1 : Int)).bind fun r3 => Fimpl_Parts.l2 k a0 r3.2 ([] : List (List UInt8)) r3.1 (0 : Int))
theorem ent144 : Enters Try.prog 144 := ⟨Try.f144, Try.func144, rfl, by decide⟩
set_option maxHeartbeats 8000000 in
set_option maxRecDepth 100000 in
theorem Fimpl_Parts_gives (k : Nat) (a0 : List UInt8) (r : List (List UInt8) × Bool) (H : Fimpl_Parts k a0 = some r) : Gives Try.prog 144 [V.one (cS a0)] [] [V.one (Cell.ow 1 (List.map eS r.1)), V.one (cL r.2)] [] := by
  refine Gives.intro Try.func144 rfl rfl rfl rfl ?_
  intro F hF hm
  unfold Fimpl_Parts at H
  obtain ⟨K, hK⟩ : ∃ K, k ≤ K := ⟨k, Nat.le_refl k⟩
  refine WpC.seq ?_
  refine WpC.regionL ?_
  refine L.assign hF rfl rfl rfl ?_
  refine L.assign hF rfl rfl rfl ?_
  refine L.nil ?_
  refine WpC.seq ?_
  refine WpC.seq ?_
  refine WpC.regionL ?_
  refine L.move hF rfl rfl rfl ?_
  obtain ⟨r2, hr2, H⟩ := bindS H
  refine L.call [false, false] [] [] 1 hF rfl rfl rfl ent235 rfl rfl rfl rfl rfl (Fimpl_isOf_gives k  a0 (108 : UInt8) r2 hr2) rfl ?_
  refine L.not hF rfl rfl rfl ?_
  refine L.nil ?_
  refine WpC.cond rfl (fun hc => ?_) (fun hc => ?_)
  · replace H := condT hc H
    refine WpC.seq ?_
    refine WpC.regionL ?_
    refine L.assign hF rfl rfl rfl ?_
    refine L.assign hF rfl rfl rfl ?_
    refine L.nil ?_
    refine WpC.le (Le.own 2 0 2 1 rfl rfl rfl) ?_
    refine WpC.ret ?_
    cases H
    exact Leaves.ret rfl rfl rfl ⟨rfl, rfl⟩
  · replace H := condF hc H
    refine WpC.skip ?_
    refine WpC.seq ?_
    refine WpC.regionL ?_
    refine L.move hF rfl rfl rfl ?_
    obtain ⟨r3, hr3, H⟩ := bindS H
    refine L.call [false, false] [] [] 2 hF rfl rfl rfl ent218 rfl rfl rfl rfl rfl (Fimpl_varAt_gives k  a0 (1 : Int) r3 hr3) rfl ?_
    refine L.move hF rfl rfl rfl ?_
    refine L.extract hF rfl rfl rfl rfl ?_
    refine L.extract hF rfl rfl rfl rfl ?_
    refine L.assign hF rfl rfl rfl ?_
    refine L.assign hF rfl rfl rfl ?_
    refine L.nil ?_
    refine WpC.seq ?_
    refine WpC.regionL ?_
    refine L.buildSlice (e := eS) 4 ([] : List (List UInt8)) Try.underlying120 info9 rfl rfl rfl hF rfl rfl rfl rfl rfl rfl rfl rfl ?_
    refine L.assign hF rfl rfl rfl ?_
    refine L.nil ?_
    refine WpC.seq ?_
    refine WpC.seq ?_
    refine WpC.regionL ?_
    refine L.move hF rfl rfl rfl ?_
    refine L.move hF rfl rfl rfl ?_
    refine L.nil ?_
    refine WpC.block ?_
    refine WpC.loopL (P := Try.prog) (fun n σ => ∃ v57 : List UInt8, ∃ v58 : Int, ∃ v59 : List (List UInt8), ∃ v60 : Int, ∃ v61 : Int, n ≤ K ∧ Fimpl_Parts.l2 n v57 v58 v59 v60 v61 = some r ∧ σ = mkSt [(0, one (cS v57)), (5, one (cI v58)), (6, one (Cell.own 0)), (17, one (cI v60)), (18, one (cI v61))] [(0, ⟨1, List.map eS v59⟩)] [] 1) k ⟨_, ⟨a0, r3.2, ([] : List (List UInt8)), r3.1, (0 : Int), by omega, H, rfl⟩, Le.mk [(0, 4)] hm rfl ⟨⟨_, rfl, rfl⟩, ⟨_, rfl, rfl⟩, ⟨_, rfl, rfl⟩, ⟨_, rfl, rfl⟩, ⟨_, rfl, rfl⟩, trivial⟩ ⟨⟨_, rfl, rfl⟩, trivial⟩ trivial⟩ ?_
    clear H
    rintro k2 _ ⟨v57, v58, v59, v60, v61, hk2, H, rfl⟩
    cases k2 with
    | zero => cases H
    | succ k2 =>
      rw [Fimpl_Parts.l2] at H
      refine WpC.seq ?_
      refine WpC.regionL ?_
      refine L.bin hF rfl rfl rfl rfl rfl rfl ?_
      refine L.nil ?_
      refine WpC.seq ?_
      refine WpC.cond rfl (fun hc => ?_) (fun hc => ?_)
      · replace H := condT hc H
        refine WpC.skip ?_
        refine WpC.seq ?_
        refine WpC.block ?_
        refine WpC.seq ?_
        refine WpC.regionL ?_
        refine L.move hF rfl rfl rfl ?_
        refine L.move hF rfl rfl rfl ?_
        obtain ⟨r65, hr65, H⟩ := bindS H
        refine L.call [false, false, false] [] [] 1 hF rfl rfl rfl ent236 rfl rfl rfl rfl rfl (Fimpl_termAt_gives k2  v57 v58 (8 : Int) r65 hr65) rfl ?_
        refine L.assign hF rfl rfl rfl ?_
        refine L.nil ?_
        refine WpC.seq ?_
        refine WpC.regionL ?_
        refine L.move hF rfl rfl rfl ?_
        refine L.move hF rfl rfl rfl ?_
        refine L.move hF rfl rfl rfl ?_
        refine L.move hF rfl rfl rfl ?_
        obtain ⟨b66, hb66, H⟩ := bindS H
        refine L.cutS Try.underlying9 hF rfl rfl rfl rfl rfl hb66 ?_
        refine L.buildSlice (e := eS) 2 ([b66] : List (List UInt8)) Try.underlying120 info9 rfl rfl rfl hF rfl rfl rfl rfl rfl rfl rfl rfl ?_
        obtain ⟨h67, H⟩ := condG H
        refine L.append (xs := v59) (ys := ([b66] : List (List UInt8))) (e := eS) 3 Try.underlying120 info9 rfl rfl hF rfl rfl rfl rfl rfl rfl rfl rfl (fun _ => rfl) (fun _ _ h1 h2 => by cases h1; cases h2; rfl) ⟨_, Try.underlying120⟩ (of_decide_eq_true h67) rfl rfl ?_
        refine L.assign hF rfl rfl rfl ?_
        refine L.nil ?_
        refine WpC.regionL ?_
        refine L.move hF rfl rfl rfl ?_
        refine L.assign hF rfl rfl rfl ?_
        refine L.nil ?_
        refine WpC.regionL ?_
        refine L.bin hF rfl rfl rfl rfl rfl rfl ?_
        refine L.move hF rfl rfl rfl ?_
        refine L.nil ?_
        exact ⟨k2, _, by omega, ⟨v57, r65, (v59 ++ ([b66] : List (List UInt8))), v60, (IntKind.i64.wrap (v61 + (1 : Int))), by omega, H, rfl⟩, Le.mk [(0, 3)] hm rfl ⟨⟨_, rfl, rfl⟩, ⟨_, rfl, rfl⟩, ⟨_, rfl, rfl⟩, ⟨_, rfl, rfl⟩, ⟨_, rfl, rfl⟩, trivial⟩ ⟨⟨_, rfl, rfl⟩, trivial⟩ trivial⟩
      · replace H := condF hc H
        refine WpC.exit ?_
        refine WpC.seq ?_
        refine WpC.regionL ?_
        refine L.move hF rfl rfl rfl ?_
        refine L.assign hF rfl rfl rfl ?_
        refine L.assign hF rfl rfl rfl ?_
        refine L.nil ?_
        refine WpC.ret ?_
        cases H
        exact Leaves.ret rfl rfl rfl ⟨rfl, rfl⟩
/-! ### Fimpl_ReadAtom -/
def Fimpl_ReadAtom (k : Nat) (a0 : List UInt8) : Option (List UInt8 × Bool) := (Fimpl_isOf k a0 (97 : UInt8)).bind fun r2 => cond (!r2) (some (([] : List UInt8), false)) ((Fimpl_varAt k a0 (1 : Int)).bind fun r3 => (cut? a0 r3.2 (a0.length : Int)).bind fun b4 => some (b4, true))
theorem ent272 : Enters Try.prog 272 := ⟨Try.f272, Try.func272, rfl, by decide⟩
set_option maxHeartbeats 8000000 in
set_option maxRecDepth 100000 in
theorem Fimpl_ReadAtom_gives (k : Nat) (a0 : List UInt8) (r : List UInt8 × Bool) (H : Fimpl_ReadAtom k a0 = some r) : Gives Try.prog 272 [V.one (cS a0)] [] [V.one (cS r.1), V.one (cL r.2)] [] := by
  refine Gives.intro Try.func272 rfl rfl rfl rfl ?_
  intro F hF hm
  unfold Fimpl_ReadAtom at H
  obtain ⟨K, hK⟩ : ∃ K, k ≤ K := ⟨k, Nat.le_refl k⟩
  refine WpC.seq ?_
  refine WpC.regionL ?_
  refine L.assign hF rfl rfl rfl ?_
  refine L.assign hF rfl rfl rfl ?_
  refine L.nil ?_
  refine WpC.seq ?_
  refine WpC.seq ?_
  refine WpC.regionL ?_
  refine L.move hF rfl rfl rfl ?_
  obtain ⟨r2, hr2, H⟩ := bindS H
  refine L.call [false, false] [] [] 1 hF rfl rfl rfl ent235 rfl rfl rfl rfl rfl (Fimpl_isOf_gives k  a0 (97 : UInt8) r2 hr2) rfl ?_
  refine L.not hF rfl rfl rfl ?_
  refine L.nil ?_
  refine WpC.cond rfl (fun hc => ?_) (fun hc => ?_)
  · replace H := condT hc H
    refine WpC.seq ?_
    refine WpC.regionL ?_
    refine L.assign hF rfl rfl rfl ?_
    refine L.assign hF rfl rfl rfl ?_
    refine L.nil ?_
    refine WpC.ret ?_
    cases H
    exact Leaves.ret rfl rfl rfl ⟨rfl, rfl⟩
  · replace H := condF hc H
    refine WpC.skip ?_
    refine WpC.seq ?_
    refine WpC.regionL ?_
    refine L.move hF rfl rfl rfl ?_
    obtain ⟨r3, hr3, H⟩ := bindS H
    refine L.call [false, false] [] [] 2 hF rfl rfl rfl ent218 rfl rfl rfl rfl rfl (Fimpl_varAt_gives k  a0 (1 : Int) r3 hr3) rfl ?_
    refine L.move hF rfl rfl rfl ?_
    refine L.extract hF rfl rfl rfl rfl ?_
    refine L.extract hF rfl rfl rfl rfl ?_
    refine L.assign hF rfl rfl rfl ?_
    refine L.assign hF rfl rfl rfl ?_
    refine L.nil ?_
    refine WpC.seq ?_
    refine WpC.regionL ?_
    refine L.move hF rfl rfl rfl ?_
    refine L.move hF rfl rfl rfl ?_
    obtain ⟨b4, hb4, H⟩ := bindS H
    refine L.cutS Try.underlying9 hF rfl rfl rfl rfl rfl hb4 ?_
    refine L.assign hF rfl rfl rfl ?_
    refine L.assign hF rfl rfl rfl ?_
    refine L.nil ?_
    refine WpC.ret ?_
    cases H
    exact Leaves.ret rfl rfl rfl ⟨rfl, rfl⟩
end Go.Proofs.Ytcolcmjcjpikcaa.M
