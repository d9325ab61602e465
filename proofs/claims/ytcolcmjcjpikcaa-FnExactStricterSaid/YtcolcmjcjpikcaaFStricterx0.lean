import Derived.Test.YtcolcmjcjpikcaaSh
import Derived.Test.YtcolcmjcjpikcaaProg
namespace Go.Proofs.Ytcolcmjcjpikcaa.M
open Go Go.MG
set_option linter.unusedVariables false
set_option linter.unusedSimpArgs false
structure Timpl_Rule where
  Kind : Int
  Set : List Int
  N : Int
def eTimpl_Rule (x : Timpl_Rule) : List Cell := [cI x.Kind, Cell.sl true (List.map eI x.Set), cI x.N]
structure Tlaws_Rule where
  Kind : Int
  Set : List Int
  N : Int
def eTlaws_Rule (x : Tlaws_Rule) : List Cell := [cI x.Kind, Cell.sl true (List.map eI x.Set), cI x.N]
theorem mixed : Try.prog.follows .mixedOrders = true := by kernel_rfl
theorem shape3 : MG.shape Try.prog 3 = some (false, 1) := by kernel_rfl
theorem shape24 : MG.shape Try.prog 24 = some (false, 1) := by kernel_rfl
theorem shape162 : MG.shape Try.prog 162 = some (true, 3) := by kernel_rfl
theorem shape202 : MG.shape Try.prog 202 = some (true, 3) := by kernel_rfl
theorem info3 : Try.prog.info? 3 = some Try.t3 := by kernel_rfl
theorem info24 : Try.prog.info? 24 = some Try.t24 := by kernel_rfl
theorem info162 : Try.prog.info? 162 = some Try.t162 := by kernel_rfl
theorem info202 : Try.prog.info? 202 = some Try.t202 := by kernel_rfl
theorem built162 : builtA Try.prog 162 = fillA (fun x => ([(0, 1), (1, 1), (2, 1)] : List (Nat × Nat))[x]?) [cI (0 : Int), Cell.nil, cI (0 : Int)] := by kernel_rfl
abbrev bx (a b c d : Int) : List Cell := [cI a, cI b, cI c, cI d]
theorem S3 {π : Nat → Option Nat} {σ : St} {t0 t1 t2 : Nat} {s0 u0 s1 u1 s2 u2 : Slot} (h0 : renS π s0 = some u0) (g0 : σ.slots t0 = some u0) (h1 : renS π s1 = some u1) (g1 : σ.slots t1 = some u1) (h2 : renS π s2 = some u2) (g2 : σ.slots t2 = some u2) : SlotsOk π σ [(t0, s0), (t1, s1), (t2, s2)] := ⟨⟨_, h0, g0⟩, ⟨_, h1, g1⟩, ⟨_, h2, g2⟩, trivial⟩
theorem S4 {π : Nat → Option Nat} {σ : St} {t0 t1 t2 t3 : Nat} {s0 u0 s1 u1 s2 u2 s3 u3 : Slot} (h0 : renS π s0 = some u0) (g0 : σ.slots t0 = some u0) (h1 : renS π s1 = some u1) (g1 : σ.slots t1 = some u1) (h2 : renS π s2 = some u2) (g2 : σ.slots t2 = some u2) (h3 : renS π s3 = some u3) (g3 : σ.slots t3 = some u3) : SlotsOk π σ [(t0, s0), (t1, s1), (t2, s2), (t3, s3)] := ⟨⟨_, h0, g0⟩, ⟨_, h1, g1⟩, ⟨_, h2, g2⟩, ⟨_, h3, g3⟩, trivial⟩
theorem S5 {π : Nat → Option Nat} {σ : St} {t0 t1 t2 t3 t4 : Nat} {s0 u0 s1 u1 s2 u2 s3 u3 s4 u4 : Slot} (h0 : renS π s0 = some u0) (g0 : σ.slots t0 = some u0) (h1 : renS π s1 = some u1) (g1 : σ.slots t1 = some u1) (h2 : renS π s2 = some u2) (g2 : σ.slots t2 = some u2) (h3 : renS π s3 = some u3) (g3 : σ.slots t3 = some u3) (h4 : renS π s4 = some u4) (g4 : σ.slots t4 = some u4) : SlotsOk π σ [(t0, s0), (t1, s1), (t2, s2), (t3, s3), (t4, s4)] := ⟨⟨_, h0, g0⟩, ⟨_, h1, g1⟩, ⟨_, h2, g2⟩, ⟨_, h3, g3⟩, ⟨_, h4, g4⟩, trivial⟩
theorem S6 {π : Nat → Option Nat} {σ : St} {t0 t1 t2 t3 t4 t5 : Nat} {s0 u0 s1 u1 s2 u2 s3 u3 s4 u4 s5 u5 : Slot} (h0 : renS π s0 = some u0) (g0 : σ.slots t0 = some u0) (h1 : renS π s1 = some u1) (g1 : σ.slots t1 = some u1) (h2 : renS π s2 = some u2) (g2 : σ.slots t2 = some u2) (h3 : renS π s3 = some u3) (g3 : σ.slots t3 = some u3) (h4 : renS π s4 = some u4) (g4 : σ.slots t4 = some u4) (h5 : renS π s5 = some u5) (g5 : σ.slots t5 = some u5) : SlotsOk π σ [(t0, s0), (t1, s1), (t2, s2), (t3, s3), (t4, s4), (t5, s5)] := ⟨⟨_, h0, g0⟩, ⟨_, h1, g1⟩, ⟨_, h2, g2⟩, ⟨_, h3, g3⟩, ⟨_, h4, g4⟩, ⟨_, h5, g5⟩, trivial⟩
theorem S7 {π : Nat → Option Nat} {σ : St} {t0 t1 t2 t3 t4 t5 t6 : Nat} {s0 u0 s1 u1 s2 u2 s3 u3 s4 u4 s5 u5 s6 u6 : Slot} (h0 : renS π s0 = some u0) (g0 : σ.slots t0 = some u0) (h1 : renS π s1 = some u1) (g1 : σ.slots t1 = some u1) (h2 : renS π s2 = some u2) (g2 : σ.slots t2 = some u2) (h3 : renS π s3 = some u3) (g3 : σ.slots t3 = some u3) (h4 : renS π s4 = some u4) (g4 : σ.slots t4 = some u4) (h5 : renS π s5 = some u5) (g5 : σ.slots t5 = some u5) (h6 : renS π s6 = some u6) (g6 : σ.slots t6 = some u6) : SlotsOk π σ [(t0, s0), (t1, s1), (t2, s2), (t3, s3), (t4, s4), (t5, s5), (t6, s6)] := ⟨⟨_, h0, g0⟩, ⟨_, h1, g1⟩, ⟨_, h2, g2⟩, ⟨_, h3, g3⟩, ⟨_, h4, g4⟩, ⟨_, h5, g5⟩, ⟨_, h6, g6⟩, trivial⟩
theorem S8 {π : Nat → Option Nat} {σ : St} {t0 t1 t2 t3 t4 t5 t6 t7 : Nat} {s0 u0 s1 u1 s2 u2 s3 u3 s4 u4 s5 u5 s6 u6 s7 u7 : Slot} (h0 : renS π s0 = some u0) (g0 : σ.slots t0 = some u0) (h1 : renS π s1 = some u1) (g1 : σ.slots t1 = some u1) (h2 : renS π s2 = some u2) (g2 : σ.slots t2 = some u2) (h3 : renS π s3 = some u3) (g3 : σ.slots t3 = some u3) (h4 : renS π s4 = some u4) (g4 : σ.slots t4 = some u4) (h5 : renS π s5 = some u5) (g5 : σ.slots t5 = some u5) (h6 : renS π s6 = some u6) (g6 : σ.slots t6 = some u6) (h7 : renS π s7 = some u7) (g7 : σ.slots t7 = some u7) : SlotsOk π σ [(t0, s0), (t1, s1), (t2, s2), (t3, s3), (t4, s4), (t5, s5), (t6, s6), (t7, s7)] := ⟨⟨_, h0, g0⟩, ⟨_, h1, g1⟩, ⟨_, h2, g2⟩, ⟨_, h3, g3⟩, ⟨_, h4, g4⟩, ⟨_, h5, g5⟩, ⟨_, h6, g6⟩, ⟨_, h7, g7⟩, trivial⟩
theorem S9 {π : Nat → Option Nat} {σ : St} {t0 t1 t2 t3 t4 t5 t6 t7 t8 : Nat} {s0 u0 s1 u1 s2 u2 s3 u3 s4 u4 s5 u5 s6 u6 s7 u7 s8 u8 : Slot} (h0 : renS π s0 = some u0) (g0 : σ.slots t0 = some u0) (h1 : renS π s1 = some u1) (g1 : σ.slots t1 = some u1) (h2 : renS π s2 = some u2) (g2 : σ.slots t2 = some u2) (h3 : renS π s3 = some u3) (g3 : σ.slots t3 = some u3) (h4 : renS π s4 = some u4) (g4 : σ.slots t4 = some u4) (h5 : renS π s5 = some u5) (g5 : σ.slots t5 = some u5) (h6 : renS π s6 = some u6) (g6 : σ.slots t6 = some u6) (h7 : renS π s7 = some u7) (g7 : σ.slots t7 = some u7) (h8 : renS π s8 = some u8) (g8 : σ.slots t8 = some u8) : SlotsOk π σ [(t0, s0), (t1, s1), (t2, s2), (t3, s3), (t4, s4), (t5, s5), (t6, s6), (t7, s7), (t8, s8)] := ⟨⟨_, h0, g0⟩, ⟨_, h1, g1⟩, ⟨_, h2, g2⟩, ⟨_, h3, g3⟩, ⟨_, h4, g4⟩, ⟨_, h5, g5⟩, ⟨_, h6, g6⟩, ⟨_, h7, g7⟩, ⟨_, h8, g8⟩, trivial⟩
theorem S10 {π : Nat → Option Nat} {σ : St} {t0 t1 t2 t3 t4 t5 t6 t7 t8 t9 : Nat} {s0 u0 s1 u1 s2 u2 s3 u3 s4 u4 s5 u5 s6 u6 s7 u7 s8 u8 s9 u9 : Slot} (h0 : renS π s0 = some u0) (g0 : σ.slots t0 = some u0) (h1 : renS π s1 = some u1) (g1 : σ.slots t1 = some u1) (h2 : renS π s2 = some u2) (g2 : σ.slots t2 = some u2) (h3 : renS π s3 = some u3) (g3 : σ.slots t3 = some u3) (h4 : renS π s4 = some u4) (g4 : σ.slots t4 = some u4) (h5 : renS π s5 = some u5) (g5 : σ.slots t5 = some u5) (h6 : renS π s6 = some u6) (g6 : σ.slots t6 = some u6) (h7 : renS π s7 = some u7) (g7 : σ.slots t7 = some u7) (h8 : renS π s8 = some u8) (g8 : σ.slots t8 = some u8) (h9 : renS π s9 = some u9) (g9 : σ.slots t9 = some u9) : SlotsOk π σ [(t0, s0), (t1, s1), (t2, s2), (t3, s3), (t4, s4), (t5, s5), (t6, s6), (t7, s7), (t8, s8), (t9, s9)] := ⟨⟨_, h0, g0⟩, ⟨_, h1, g1⟩, ⟨_, h2, g2⟩, ⟨_, h3, g3⟩, ⟨_, h4, g4⟩, ⟨_, h5, g5⟩, ⟨_, h6, g6⟩, ⟨_, h7, g7⟩, ⟨_, h8, g8⟩, ⟨_, h9, g9⟩, trivial⟩
theorem S11 {π : Nat → Option Nat} {σ : St} {t0 t1 t2 t3 t4 t5 t6 t7 t8 t9 t10 : Nat} {s0 u0 s1 u1 s2 u2 s3 u3 s4 u4 s5 u5 s6 u6 s7 u7 s8 u8 s9 u9 s10 u10 : Slot} (h0 : renS π s0 = some u0) (g0 : σ.slots t0 = some u0) (h1 : renS π s1 = some u1) (g1 : σ.slots t1 = some u1) (h2 : renS π s2 = some u2) (g2 : σ.slots t2 = some u2) (h3 : renS π s3 = some u3) (g3 : σ.slots t3 = some u3) (h4 : renS π s4 = some u4) (g4 : σ.slots t4 = some u4) (h5 : renS π s5 = some u5) (g5 : σ.slots t5 = some u5) (h6 : renS π s6 = some u6) (g6 : σ.slots t6 = some u6) (h7 : renS π s7 = some u7) (g7 : σ.slots t7 = some u7) (h8 : renS π s8 = some u8) (g8 : σ.slots t8 = some u8) (h9 : renS π s9 = some u9) (g9 : σ.slots t9 = some u9) (h10 : renS π s10 = some u10) (g10 : σ.slots t10 = some u10) : SlotsOk π σ [(t0, s0), (t1, s1), (t2, s2), (t3, s3), (t4, s4), (t5, s5), (t6, s6), (t7, s7), (t8, s8), (t9, s9), (t10, s10)] := ⟨⟨_, h0, g0⟩, ⟨_, h1, g1⟩, ⟨_, h2, g2⟩, ⟨_, h3, g3⟩, ⟨_, h4, g4⟩, ⟨_, h5, g5⟩, ⟨_, h6, g6⟩, ⟨_, h7, g7⟩, ⟨_, h8, g8⟩, ⟨_, h9, g9⟩, ⟨_, h10, g10⟩, trivial⟩
theorem S12 {π : Nat → Option Nat} {σ : St} {t0 t1 t2 t3 t4 t5 t6 t7 t8 t9 t10 t11 : Nat} {s0 u0 s1 u1 s2 u2 s3 u3 s4 u4 s5 u5 s6 u6 s7 u7 s8 u8 s9 u9 s10 u10 s11 u11 : Slot} (h0 : renS π s0 = some u0) (g0 : σ.slots t0 = some u0) (h1 : renS π s1 = some u1) (g1 : σ.slots t1 = some u1) (h2 : renS π s2 = some u2) (g2 : σ.slots t2 = some u2) (h3 : renS π s3 = some u3) (g3 : σ.slots t3 = some u3) (h4 : renS π s4 = some u4) (g4 : σ.slots t4 = some u4) (h5 : renS π s5 = some u5) (g5 : σ.slots t5 = some u5) (h6 : renS π s6 = some u6) (g6 : σ.slots t6 = some u6) (h7 : renS π s7 = some u7) (g7 : σ.slots t7 = some u7) (h8 : renS π s8 = some u8) (g8 : σ.slots t8 = some u8) (h9 : renS π s9 = some u9) (g9 : σ.slots t9 = some u9) (h10 : renS π s10 = some u10) (g10 : σ.slots t10 = some u10) (h11 : renS π s11 = some u11) (g11 : σ.slots t11 = some u11) : SlotsOk π σ [(t0, s0), (t1, s1), (t2, s2), (t3, s3), (t4, s4), (t5, s5), (t6, s6), (t7, s7), (t8, s8), (t9, s9), (t10, s10), (t11, s11)] := ⟨⟨_, h0, g0⟩, ⟨_, h1, g1⟩, ⟨_, h2, g2⟩, ⟨_, h3, g3⟩, ⟨_, h4, g4⟩, ⟨_, h5, g5⟩, ⟨_, h6, g6⟩, ⟨_, h7, g7⟩, ⟨_, h8, g8⟩, ⟨_, h9, g9⟩, ⟨_, h10, g10⟩, ⟨_, h11, g11⟩, trivial⟩
theorem S13 {π : Nat → Option Nat} {σ : St} {t0 t1 t2 t3 t4 t5 t6 t7 t8 t9 t10 t11 t12 : Nat} {s0 u0 s1 u1 s2 u2 s3 u3 s4 u4 s5 u5 s6 u6 s7 u7 s8 u8 s9 u9 s10 u10 s11 u11 s12 u12 : Slot} (h0 : renS π s0 = some u0) (g0 : σ.slots t0 = some u0) (h1 : renS π s1 = some u1) (g1 : σ.slots t1 = some u1) (h2 : renS π s2 = some u2) (g2 : σ.slots t2 = some u2) (h3 : renS π s3 = some u3) (g3 : σ.slots t3 = some u3) (h4 : renS π s4 = some u4) (g4 : σ.slots t4 = some u4) (h5 : renS π s5 = some u5) (g5 : σ.slots t5 = some u5) (h6 : renS π s6 = some u6) (g6 : σ.slots t6 = some u6) (h7 : renS π s7 = some u7) (g7 : σ.slots t7 = some u7) (h8 : renS π s8 = some u8) (g8 : σ.slots t8 = some u8) (h9 : renS π s9 = some u9) (g9 : σ.slots t9 = some u9) (h10 : renS π s10 = some u10) (g10 : σ.slots t10 = some u10) (h11 : renS π s11 = some u11) (g11 : σ.slots t11 = some u11) (h12 : renS π s12 = some u12) (g12 : σ.slots t12 = some u12) : SlotsOk π σ [(t0, s0), (t1, s1), (t2, s2), (t3, s3), (t4, s4), (t5, s5), (t6, s6), (t7, s7), (t8, s8), (t9, s9), (t10, s10), (t11, s11), (t12, s12)] := ⟨⟨_, h0, g0⟩, ⟨_, h1, g1⟩, ⟨_, h2, g2⟩, ⟨_, h3, g3⟩, ⟨_, h4, g4⟩, ⟨_, h5, g5⟩, ⟨_, h6, g6⟩, ⟨_, h7, g7⟩, ⟨_, h8, g8⟩, ⟨_, h9, g9⟩, ⟨_, h10, g10⟩, ⟨_, h11, g11⟩, ⟨_, h12, g12⟩, trivial⟩
theorem S14 {π : Nat → Option Nat} {σ : St} {t0 t1 t2 t3 t4 t5 t6 t7 t8 t9 t10 t11 t12 t13 : Nat} {s0 u0 s1 u1 s2 u2 s3 u3 s4 u4 s5 u5 s6 u6 s7 u7 s8 u8 s9 u9 s10 u10 s11 u11 s12 u12 s13 u13 : Slot} (h0 : renS π s0 = some u0) (g0 : σ.slots t0 = some u0) (h1 : renS π s1 = some u1) (g1 : σ.slots t1 = some u1) (h2 : renS π s2 = some u2) (g2 : σ.slots t2 = some u2) (h3 : renS π s3 = some u3) (g3 : σ.slots t3 = some u3) (h4 : renS π s4 = some u4) (g4 : σ.slots t4 = some u4) (h5 : renS π s5 = some u5) (g5 : σ.slots t5 = some u5) (h6 : renS π s6 = some u6) (g6 : σ.slots t6 = some u6) (h7 : renS π s7 = some u7) (g7 : σ.slots t7 = some u7) (h8 : renS π s8 = some u8) (g8 : σ.slots t8 = some u8) (h9 : renS π s9 = some u9) (g9 : σ.slots t9 = some u9) (h10 : renS π s10 = some u10) (g10 : σ.slots t10 = some u10) (h11 : renS π s11 = some u11) (g11 : σ.slots t11 = some u11) (h12 : renS π s12 = some u12) (g12 : σ.slots t12 = some u12) (h13 : renS π s13 = some u13) (g13 : σ.slots t13 = some u13) : SlotsOk π σ [(t0, s0), (t1, s1), (t2, s2), (t3, s3), (t4, s4), (t5, s5), (t6, s6), (t7, s7), (t8, s8), (t9, s9), (t10, s10), (t11, s11), (t12, s12), (t13, s13)] := ⟨⟨_, h0, g0⟩, ⟨_, h1, g1⟩, ⟨_, h2, g2⟩, ⟨_, h3, g3⟩, ⟨_, h4, g4⟩, ⟨_, h5, g5⟩, ⟨_, h6, g6⟩, ⟨_, h7, g7⟩, ⟨_, h8, g8⟩, ⟨_, h9, g9⟩, ⟨_, h10, g10⟩, ⟨_, h11, g11⟩, ⟨_, h12, g12⟩, ⟨_, h13, g13⟩, trivial⟩
theorem B2 {π : Nat → Option Nat} {σ : St} {k0 q0 k1 q1 : Nat} {c0 d0 c1 d1 : List Cell} (h0 : π k0 = some q0) (g0 : renCs π c0 = some d0) (e0 : σ.H.boxes q0 = some d0) (h1 : π k1 = some q1) (g1 : renCs π c1 = some d1) (e1 : σ.H.boxes q1 = some d1) : BoxesOk π σ [(k0, c0), (k1, c1)] := ⟨⟨_, _, h0, g0, e0⟩, ⟨_, _, h1, g1, e1⟩, trivial⟩
theorem B3 {π : Nat → Option Nat} {σ : St} {k0 q0 k1 q1 k2 q2 : Nat} {c0 d0 c1 d1 c2 d2 : List Cell} (h0 : π k0 = some q0) (g0 : renCs π c0 = some d0) (e0 : σ.H.boxes q0 = some d0) (h1 : π k1 = some q1) (g1 : renCs π c1 = some d1) (e1 : σ.H.boxes q1 = some d1) (h2 : π k2 = some q2) (g2 : renCs π c2 = some d2) (e2 : σ.H.boxes q2 = some d2) : BoxesOk π σ [(k0, c0), (k1, c1), (k2, c2)] := ⟨⟨_, _, h0, g0, e0⟩, ⟨_, _, h1, g1, e1⟩, ⟨_, _, h2, g2, e2⟩, trivial⟩
theorem B4 {π : Nat → Option Nat} {σ : St} {k0 q0 k1 q1 k2 q2 k3 q3 : Nat} {c0 d0 c1 d1 c2 d2 c3 d3 : List Cell} (h0 : π k0 = some q0) (g0 : renCs π c0 = some d0) (e0 : σ.H.boxes q0 = some d0) (h1 : π k1 = some q1) (g1 : renCs π c1 = some d1) (e1 : σ.H.boxes q1 = some d1) (h2 : π k2 = some q2) (g2 : renCs π c2 = some d2) (e2 : σ.H.boxes q2 = some d2) (h3 : π k3 = some q3) (g3 : renCs π c3 = some d3) (e3 : σ.H.boxes q3 = some d3) : BoxesOk π σ [(k0, c0), (k1, c1), (k2, c2), (k3, c3)] := ⟨⟨_, _, h0, g0, e0⟩, ⟨_, _, h1, g1, e1⟩, ⟨_, _, h2, g2, e2⟩, ⟨_, _, h3, g3, e3⟩, trivial⟩
theorem B5 {π : Nat → Option Nat} {σ : St} {k0 q0 k1 q1 k2 q2 k3 q3 k4 q4 : Nat} {c0 d0 c1 d1 c2 d2 c3 d3 c4 d4 : List Cell} (h0 : π k0 = some q0) (g0 : renCs π c0 = some d0) (e0 : σ.H.boxes q0 = some d0) (h1 : π k1 = some q1) (g1 : renCs π c1 = some d1) (e1 : σ.H.boxes q1 = some d1) (h2 : π k2 = some q2) (g2 : renCs π c2 = some d2) (e2 : σ.H.boxes q2 = some d2) (h3 : π k3 = some q3) (g3 : renCs π c3 = some d3) (e3 : σ.H.boxes q3 = some d3) (h4 : π k4 = some q4) (g4 : renCs π c4 = some d4) (e4 : σ.H.boxes q4 = some d4) : BoxesOk π σ [(k0, c0), (k1, c1), (k2, c2), (k3, c3), (k4, c4)] := ⟨⟨_, _, h0, g0, e0⟩, ⟨_, _, h1, g1, e1⟩, ⟨_, _, h2, g2, e2⟩, ⟨_, _, h3, g3, e3⟩, ⟨_, _, h4, g4, e4⟩, trivial⟩
theorem B6 {π : Nat → Option Nat} {σ : St} {k0 q0 k1 q1 k2 q2 k3 q3 k4 q4 k5 q5 : Nat} {c0 d0 c1 d1 c2 d2 c3 d3 c4 d4 c5 d5 : List Cell} (h0 : π k0 = some q0) (g0 : renCs π c0 = some d0) (e0 : σ.H.boxes q0 = some d0) (h1 : π k1 = some q1) (g1 : renCs π c1 = some d1) (e1 : σ.H.boxes q1 = some d1) (h2 : π k2 = some q2) (g2 : renCs π c2 = some d2) (e2 : σ.H.boxes q2 = some d2) (h3 : π k3 = some q3) (g3 : renCs π c3 = some d3) (e3 : σ.H.boxes q3 = some d3) (h4 : π k4 = some q4) (g4 : renCs π c4 = some d4) (e4 : σ.H.boxes q4 = some d4) (h5 : π k5 = some q5) (g5 : renCs π c5 = some d5) (e5 : σ.H.boxes q5 = some d5) : BoxesOk π σ [(k0, c0), (k1, c1), (k2, c2), (k3, c3), (k4, c4), (k5, c5)] := ⟨⟨_, _, h0, g0, e0⟩, ⟨_, _, h1, g1, e1⟩, ⟨_, _, h2, g2, e2⟩, ⟨_, _, h3, g3, e3⟩, ⟨_, _, h4, g4, e4⟩, ⟨_, _, h5, g5, e5⟩, trivial⟩
/-! ### Flaws_szIntS -/
def Flaws_szIntS (k : Nat) (a0 : List Int) (a1 : Int) : Option Int := cond (decide ((IntKind.i64.wrap (a1 - (a0.length : Int))) < (0 : Int))) (some (-1 : Int)) (some (IntKind.i64.wrap (a1 - (a0.length : Int))))
theorem ent148 : MG.Enters Try.prog 148 := ⟨Try.f148, Try.func148, rfl, by decide⟩
set_option maxHeartbeats 8000000 in
set_option maxRecDepth 100000 in
theorem Flaws_szIntS_gives (k : Nat) (g0 : Bool) (a0 : List Int) (a1 : Int) (r : Int) (H : Flaws_szIntS k a0 a1 = some r) : Gives Try.prog 148 [V.one (Cell.sl g0 (List.map eI a0)), V.one (cI a1)] [] [V.one (cI r)] [] := by
  refine Gives.intro Try.func148 rfl rfl rfl rfl ?_
  intro F hF hm
  unfold Flaws_szIntS at H
  obtain ⟨K, hK⟩ : ∃ K, k ≤ K := ⟨k, Nat.le_refl k⟩
  refine WpC.seq ?_
  refine WpC.regionL ?_
  refine L.assign hF rfl rfl rfl ?_
  refine L.nil ?_
  refine WpC.seq ?_
  refine WpC.regionL ?_
  refine L.move hF rfl rfl rfl ?_
  refine L.move hF rfl rfl rfl ?_
  refine L.lenR (xs := a0) (e := eI) Try.underlying24 hF rfl rfl rfl rfl ?_
  refine L.bin hF rfl rfl rfl rfl rfl rfl ?_
  refine L.assign hF rfl rfl rfl ?_
  refine L.nil ?_
  refine WpC.seq ?_
  refine WpC.seq ?_
  refine WpC.regionL ?_
  refine L.move hF rfl rfl rfl ?_
  refine L.bin hF rfl rfl rfl rfl rfl rfl ?_
  refine L.nil ?_
  refine WpC.cond rfl (fun hc => ?_) (fun hc => ?_)
  · replace H := condT hc H
    refine WpC.seq ?_
    refine WpC.regionL ?_
    refine L.assign hF rfl rfl rfl ?_
    refine L.nil ?_
    refine WpC.ret ?_
    cases H
    exact Leaves.ret rfl rfl rfl ⟨rfl, rfl⟩
  · replace H := condF hc H
    refine WpC.skip ?_
    refine WpC.seq ?_
    refine WpC.regionL ?_
    refine L.move hF rfl rfl rfl ?_
    refine L.assign hF rfl rfl rfl ?_
    refine L.nil ?_
    refine WpC.ret ?_
    cases H
    exact Leaves.ret rfl rfl rfl ⟨rfl, rfl⟩
/-! ### Flaws_szRule -/
def Flaws_szRule (k : Nat) (a0 : Tlaws_Rule) (a1 : Int) : Option Int := (Flaws_szIntS k a0.Set a1).bind fun r1 => cond (decide (r1 < (0 : Int))) (some (-1 : Int)) (some r1)
theorem ent164 : MG.Enters Try.prog 164 := ⟨Try.f164, Try.func164, rfl, by decide⟩
set_option maxHeartbeats 8000000 in
set_option maxRecDepth 100000 in
theorem Flaws_szRule_gives (k : Nat) (g0 : Bool) (a0 : Tlaws_Rule) (a1 : Int) (r : Int) (H : Flaws_szRule k a0 a1 = some r) : Gives Try.prog 164 [V.agg [cI a0.Kind, Cell.sl g0 (List.map eI a0.Set), cI a0.N], V.one (cI a1)] [] [V.one (cI r)] [] := by
  refine Gives.intro Try.func164 rfl rfl rfl rfl ?_
  intro F hF hm
  unfold Flaws_szRule at H
  obtain ⟨K, hK⟩ : ∃ K, k ≤ K := ⟨k, Nat.le_refl k⟩
  refine WpC.seq ?_
  refine WpC.regionL ?_
  refine L.box 4 hF rfl rfl rfl rfl ?_
  refine L.assign hF rfl rfl rfl ?_
  refine L.nil ?_
  refine WpC.seq ?_
  refine WpC.regionL ?_
  refine L.fieldAddr Try.underlying202 rfl info24 rfl hF rfl rfl rfl rfl rfl ?_
  refine L.loadPtr shape24 hF rfl rfl rfl rfl rfl rfl ?_
  refine L.move hF rfl rfl rfl ?_
  obtain ⟨r1, hr1, H⟩ := bindS H
  refine L.call [false, false] [] [] 5 hF rfl rfl rfl ent148 rfl rfl rfl rfl rfl (Flaws_szIntS_gives k g0 a0.Set a1 r1 hr1) rfl ?_
  refine L.assign hF rfl rfl rfl ?_
  refine L.nil ?_
  refine WpC.seq ?_
  refine WpC.seq ?_
  refine WpC.regionL ?_
  refine L.move hF rfl rfl rfl ?_
  refine L.bin hF rfl rfl rfl rfl rfl rfl ?_
  refine L.nil ?_
  refine WpC.cond rfl (fun hc => ?_) (fun hc => ?_)
  · replace H := condT hc H
    refine WpC.seq ?_
    refine WpC.regionL ?_
    refine L.assign hF rfl rfl rfl ?_
    refine L.nil ?_
    refine WpC.ret ?_
    cases H
    exact Leaves.ret rfl rfl rfl ⟨rfl, rfl⟩
  · replace H := condF hc H
    refine WpC.skip ?_
    refine WpC.seq ?_
    refine WpC.regionL ?_
    refine L.move hF rfl rfl rfl ?_
    refine L.assign hF rfl rfl rfl ?_
    refine L.nil ?_
    refine WpC.ret ?_
    cases H
    exact Leaves.ret rfl rfl rfl ⟨rfl, rfl⟩
/-! ### Flaws_szRuleS -/
def Flaws_szRuleS.l2 : Nat → (List Tlaws_Rule) → Int → Int → Option Int
  | 0, _, _, _ => none
  | k2 + 1, v34, v35, v36 => cond (decide (v36 < (v34.length : Int))) ((at? v34 v36).bind fun b39 => (Flaws_szRule k2 b39 v35).bind fun r40 => cond (decide (r40 < (0 : Int))) (some (-1 : Int)) ((Flaws_szRuleS.l2 k2) v34 r40 (IntKind.i64.wrap (v36 + (1 : Int))))) (some v35)
def Flaws_szRuleS (k : Nat) (a0 : List Tlaws_Rule) (a1 : Int) : Option Int := cond (decide ((IntKind.i64.wrap (a1 - (a0.length : Int))) < (0 : Int))) (some (-1 : Int)) (Flaws_szRuleS.l2 k a0 (IntKind.i64.wrap (a1 - (a0.length : Int))) (0 : Int))
theorem ent79 : MG.Enters Try.prog 79 := ⟨Try.f79, Try.func79, rfl, by decide⟩
set_option maxHeartbeats 8000000 in
set_option maxRecDepth 100000 in
theorem Flaws_szRuleS_gives (k : Nat) (g0 : Bool) (a0 : List Tlaws_Rule) (a1 : Int) (r : Int) (H : Flaws_szRuleS k a0 a1 = some r) : Gives Try.prog 79 [V.one (Cell.sl g0 (List.map eTlaws_Rule a0)), V.one (cI a1)] [] [V.one (cI r)] [] := by
  refine Gives.intro Try.func79 rfl rfl rfl rfl ?_
  intro F hF hm
  unfold Flaws_szRuleS at H
  obtain ⟨K, hK⟩ : ∃ K, k ≤ K := ⟨k, Nat.le_refl k⟩
  refine WpC.seq ?_
  refine WpC.regionL ?_
  refine L.assign hF rfl rfl rfl ?_
  refine L.nil ?_
  refine WpC.seq ?_
  refine WpC.regionL ?_
  refine L.move hF rfl rfl rfl ?_
  refine L.move hF rfl rfl rfl ?_
  refine L.lenR (xs := a0) (e := eTlaws_Rule) Try.underlying98 hF rfl rfl rfl rfl ?_
  refine L.bin hF rfl rfl rfl rfl rfl rfl ?_
  refine L.assign hF rfl rfl rfl ?_
  refine L.nil ?_
  refine WpC.seq ?_
  refine WpC.seq ?_
  refine WpC.regionL ?_
  refine L.move hF rfl rfl rfl ?_
  refine L.bin hF rfl rfl rfl rfl rfl rfl ?_
  refine L.nil ?_
  refine WpC.cond rfl (fun hc => ?_) (fun hc => ?_)
  · replace H := condT hc H
    refine WpC.seq ?_
    refine WpC.regionL ?_
    refine L.assign hF rfl rfl rfl ?_
    refine L.nil ?_
    refine WpC.ret ?_
    cases H
    exact Leaves.ret rfl rfl rfl ⟨rfl, rfl⟩
  · replace H := condF hc H
    refine WpC.skip ?_
    refine WpC.seq ?_
    refine WpC.seq ?_
    refine WpC.regionL ?_
    refine L.assign hF rfl rfl rfl ?_
    refine L.nil ?_
    refine WpC.block ?_
    refine WpC.loopL (P := Try.prog) (fun n σ => ∃ v34 : List Tlaws_Rule, ∃ v35 : Int, ∃ v36 : Int, n ≤ K ∧ Flaws_szRuleS.l2 n v34 v35 v36 = some r ∧ σ = mkSt [(0, MG.one (Cell.sl g0 (List.map eTlaws_Rule v34))), (1, MG.one (cI v35)), (5, MG.one (cI v36))] [] [] 0) k ⟨_, ⟨a0, (IntKind.i64.wrap (a1 - (a0.length : Int))), (0 : Int), by omega, H, rfl⟩, Le.mk [] hm rfl ⟨⟨_, rfl, rfl⟩, ⟨_, rfl, rfl⟩, ⟨_, rfl, rfl⟩, trivial⟩ trivial trivial⟩ ?_
    clear H
    rintro k2 _ ⟨v34, v35, v36, hk2, H, rfl⟩
    cases k2 with
    | zero => cases H
    | succ k2 =>
      rw [Flaws_szRuleS.l2] at H
      refine WpC.seq ?_
      refine WpC.seq ?_
      refine WpC.regionL ?_
      refine L.move hF rfl rfl rfl ?_
      refine L.move hF rfl rfl rfl ?_
      refine L.lenR (xs := v34) (e := eTlaws_Rule) Try.underlying98 hF rfl rfl rfl rfl ?_
      refine L.bin hF rfl rfl rfl rfl rfl rfl ?_
      refine L.nil ?_
      refine WpC.cond rfl (fun hc => ?_) (fun hc => ?_)
      · replace H := condT hc H
        refine WpC.skip ?_
        refine WpC.seq ?_
        refine WpC.block ?_
        refine WpC.seq ?_
        refine WpC.regionL ?_
        refine L.move hF rfl rfl rfl ?_
        refine L.move hF rfl rfl rfl ?_
        obtain ⟨b39, hb39, H⟩ := bindS H
        refine L.idxR (xs := v34) (e := eTlaws_Rule) Try.underlying98 info202 hF rfl rfl rfl rfl rfl hb39 rfl rfl ?_
        refine L.loadPe shape202 hF rfl rfl rfl rfl rfl ?_
        refine L.move hF rfl rfl rfl ?_
        obtain ⟨r40, hr40, H⟩ := bindS H
        refine L.call [false, false] [] [] 0 hF rfl rfl rfl ent164 rfl rfl rfl rfl rfl (Flaws_szRule_gives k2 true b39 v35 r40 hr40) rfl ?_
        refine L.assign hF rfl rfl rfl ?_
        refine L.nil ?_
        refine WpC.seq ?_
        refine WpC.regionL ?_
        refine L.move hF rfl rfl rfl ?_
        refine L.bin hF rfl rfl rfl rfl rfl rfl ?_
        refine L.nil ?_
        refine WpC.cond rfl (fun hc => ?_) (fun hc => ?_)
        · replace H := condT hc H
          refine WpC.seq ?_
          refine WpC.regionL ?_
          refine L.assign hF rfl rfl rfl ?_
          refine L.nil ?_
          refine WpC.ret ?_
          cases H
          exact Leaves.ret rfl rfl rfl ⟨rfl, rfl⟩
        · replace H := condF hc H
          refine WpC.skip ?_
          refine WpC.regionL ?_
          refine L.move hF rfl rfl rfl ?_
          refine L.bin hF rfl rfl rfl rfl rfl rfl ?_
          refine L.assign hF rfl rfl rfl ?_
          refine L.nil ?_
          exact ⟨k2, _, by omega, ⟨v34, r40, (IntKind.i64.wrap (v36 + (1 : Int))), by omega, H, rfl⟩, Le.mk [] hm rfl ⟨⟨_, rfl, rfl⟩, ⟨_, rfl, rfl⟩, ⟨_, rfl, rfl⟩, trivial⟩ trivial trivial⟩
      · replace H := condF hc H
        refine WpC.exit ?_
        refine WpC.seq ?_
        refine WpC.regionL ?_
        refine L.move hF rfl rfl rfl ?_
        refine L.assign hF rfl rfl rfl ?_
        refine L.nil ?_
        refine WpC.ret ?_
        cases H
        exact Leaves.ret rfl rfl rfl ⟨rfl, rfl⟩
/-! ### Flaws_toIntS -/
def Flaws_toIntS.l2 : Nat → (List Int) → (List Int) → Int → Option (List Int)
  | 0, _, _, _ => none
  | k2 + 1, v35, v36, v37 => cond (decide (v37 < (v35.length : Int))) ((at? v35 v37).bind fun b40 => (at? v36 v37).bind fun b41 => (Flaws_toIntS.l2 k2) v35 (v36.set v37.toNat b40) (IntKind.i64.wrap (v37 + (1 : Int)))) (some v36)
def Flaws_toIntS (k : Nat) (a0 : List Int) : Option (List Int) := cond (decide (0 ≤ (a0.length : Int) ∧ (a0.length : Int) ≤ (a0.length : Int) ∧ 8 * (a0.length : Int) ≤ 281474976710656 ∧ (a0.length : Int) ≤ 9223372036854775807)) (Flaws_toIntS.l2 k a0 (List.replicate (a0.length : Int).toNat (0 : Int)) (0 : Int)) none
theorem ent54 : MG.Enters Try.prog 54 := ⟨Try.f54, Try.func54, rfl, by decide⟩
set_option maxHeartbeats 8000000 in
set_option maxRecDepth 100000 in
theorem Flaws_toIntS_gives (k : Nat) (g0 : Bool) (a0 : List Int) (r : List Int) (H : Flaws_toIntS k a0 = some r) : Gives Try.prog 54 [V.one (Cell.sl g0 (List.map eI a0))] [] [V.one (Cell.ow 1 (List.map eI r))] [] := by
  refine Gives.intro Try.func54 rfl rfl rfl rfl ?_
  intro F hF hm
  unfold Flaws_toIntS at H
  obtain ⟨K, hK⟩ : ∃ K, k ≤ K := ⟨k, Nat.le_refl k⟩
  refine WpC.seq ?_
  refine WpC.regionL ?_
  refine L.assign hF rfl rfl rfl ?_
  refine L.nil ?_
  refine WpC.seq ?_
  refine WpC.regionL ?_
  refine L.move hF rfl rfl rfl ?_
  refine L.lenR (xs := a0) (e := eI) Try.underlying24 hF rfl rfl rfl rfl ?_
  obtain ⟨h1, H⟩ := condG H
  refine L.makeSlice (e := eI) 1 (0 : Int) Try.underlying24 info3 rfl rfl rfl hF rfl rfl rfl rfl (of_decide_eq_true h1) rfl rfl ?_
  refine L.assign hF rfl rfl rfl ?_
  refine L.nil ?_
  refine WpC.seq ?_
  refine WpC.seq ?_
  refine WpC.regionL ?_
  refine L.assign hF rfl rfl rfl ?_
  refine L.nil ?_
  refine WpC.block ?_
  refine WpC.loopL (P := Try.prog) (fun n σ => ∃ v35 : List Int, ∃ v36 : List Int, ∃ v37 : Int, n ≤ K ∧ Flaws_toIntS.l2 n v35 v36 v37 = some r ∧ σ = mkSt [(0, MG.one (Cell.sl g0 (List.map eI v35))), (3, MG.one (Cell.own 0)), (4, MG.one (cI v37))] [(0, ⟨1, List.map eI v36⟩)] [] 1) k ⟨_, ⟨a0, (List.replicate (a0.length : Int).toNat (0 : Int)), (0 : Int), by omega, H, rfl⟩, Le.mk [(0, 1)] hm rfl ⟨⟨_, rfl, rfl⟩, ⟨_, rfl, rfl⟩, ⟨_, rfl, rfl⟩, trivial⟩ ⟨⟨_, rfl, rfl⟩, trivial⟩ trivial⟩ ?_
  clear H
  rintro k2 _ ⟨v35, v36, v37, hk2, H, rfl⟩
  cases k2 with
  | zero => cases H
  | succ k2 =>
    rw [Flaws_toIntS.l2] at H
    refine WpC.seq ?_
    refine WpC.seq ?_
    refine WpC.regionL ?_
    refine L.move hF rfl rfl rfl ?_
    refine L.move hF rfl rfl rfl ?_
    refine L.lenR (xs := v35) (e := eI) Try.underlying24 hF rfl rfl rfl rfl ?_
    refine L.bin hF rfl rfl rfl rfl rfl rfl ?_
    refine L.nil ?_
    refine WpC.cond rfl (fun hc => ?_) (fun hc => ?_)
    · replace H := condT hc H
      refine WpC.skip ?_
      refine WpC.seq ?_
      refine WpC.block ?_
      refine WpC.regionL ?_
      refine L.move hF rfl rfl rfl ?_
      refine L.move hF rfl rfl rfl ?_
      refine L.move hF rfl rfl rfl ?_
      refine L.move hF rfl rfl rfl ?_
      obtain ⟨b40, hb40, H⟩ := bindS H
      refine L.idxR (xs := v35) (e := eI) Try.underlying24 info3 hF rfl rfl rfl rfl rfl hb40 rfl rfl ?_
      refine L.loadPe shape3 hF rfl rfl rfl rfl rfl ?_
      obtain ⟨b41, hb41, H⟩ := bindS H
      refine L.idxR (xs := v36) (e := eI) Try.underlying24 info3 hF rfl rfl rfl rfl rfl hb41 rfl rfl ?_
      refine L.storeEp (xs := v36) (e := eI) (a' := b40) shape3 hF rfl rfl rfl rfl rfl rfl rfl (at?_get hb41).2 rfl rfl ?_
      refine L.nil ?_
      refine WpC.regionL ?_
      refine L.move hF rfl rfl rfl ?_
      refine L.bin hF rfl rfl rfl rfl rfl rfl ?_
      refine L.assign hF rfl rfl rfl ?_
      refine L.nil ?_
      exact ⟨k2, _, by omega, ⟨v35, (v36.set v37.toNat b40), (IntKind.i64.wrap (v37 + (1 : Int))), by omega, H, rfl⟩, Le.mk [(0, 0)] hm rfl ⟨⟨_, rfl, rfl⟩, ⟨_, rfl, rfl⟩, ⟨_, rfl, rfl⟩, trivial⟩ ⟨⟨_, rfl, rfl⟩, trivial⟩ trivial⟩
    · replace H := condF hc H
      refine WpC.exit ?_
      refine WpC.seq ?_
      refine WpC.regionL ?_
      refine L.move hF rfl rfl rfl ?_
      refine L.assign hF rfl rfl rfl ?_
      refine L.nil ?_
      refine WpC.ret ?_
      cases H
      exact Leaves.ret rfl rfl rfl ⟨rfl, rfl⟩
/-! ### Flaws_toRule -/
def Flaws_toRule (k : Nat) (a0 : Tlaws_Rule) : Option Timpl_Rule := (Flaws_toIntS k a0.Set).bind fun r1 => some (⟨a0.Kind, r1, a0.N⟩ : Timpl_Rule)
theorem ent166 : MG.Enters Try.prog 166 := ⟨Try.f166, Try.func166, rfl, by decide⟩
set_option maxHeartbeats 8000000 in
set_option maxRecDepth 100000 in
theorem Flaws_toRule_gives (k : Nat) (g0 : Bool) (a0 : Tlaws_Rule) (r : Timpl_Rule) (H : Flaws_toRule k a0 = some r) : Gives Try.prog 166 [V.agg [cI a0.Kind, Cell.sl g0 (List.map eI a0.Set), cI a0.N]] [] [V.agg [cI r.Kind, Cell.ow 1 (List.map eI r.Set), cI r.N]] [] := by
  refine Gives.intro Try.func166 rfl rfl rfl rfl ?_
  intro F hF hm
  unfold Flaws_toRule at H
  obtain ⟨K, hK⟩ : ∃ K, k ≤ K := ⟨k, Nat.le_refl k⟩
  refine WpC.seq ?_
  refine WpC.regionL ?_
  refine L.box 3 hF rfl rfl rfl rfl ?_
  refine L.alloc 4 info162 rfl hF rfl rfl rfl rfl ?_
  refine L.nil ?_
  refine WpC.seq ?_
  refine WpC.regionL ?_
  refine L.alloc 5 info162 rfl hF rfl rfl rfl rfl ?_
  refine L.nil ?_
  refine WpC.seq ?_
  refine WpC.regionL ?_
  refine L.fieldAddr Try.underlying202 rfl info3 rfl hF rfl rfl rfl rfl rfl ?_
  refine L.loadPtr shape3 hF rfl rfl rfl rfl rfl rfl ?_
  refine L.fieldAddr Try.underlying162 rfl info3 rfl hF rfl rfl rfl rfl rfl ?_
  refine L.storePtr shape3 hF rfl rfl rfl rfl rfl rfl rfl ?_
  refine L.nil ?_
  refine WpC.seq ?_
  refine WpC.regionL ?_
  refine L.fieldAddr Try.underlying202 rfl info24 rfl hF rfl rfl rfl rfl rfl ?_
  refine L.loadPtr shape24 hF rfl rfl rfl rfl rfl rfl ?_
  obtain ⟨r1, hr1, H⟩ := bindS H
  refine L.call [false] [] [] 6 hF rfl rfl rfl ent54 rfl rfl rfl rfl rfl (Flaws_toIntS_gives k g0 a0.Set r1 hr1) rfl ?_
  refine L.fieldAddr Try.underlying162 rfl info24 rfl hF rfl rfl rfl rfl rfl ?_
  refine L.storePtr shape24 hF rfl rfl rfl rfl rfl rfl rfl ?_
  refine L.nil ?_
  refine WpC.seq ?_
  refine WpC.regionL ?_
  refine L.fieldAddr Try.underlying202 rfl info3 rfl hF rfl rfl rfl rfl rfl ?_
  refine L.loadPtr shape3 hF rfl rfl rfl rfl rfl rfl ?_
  refine L.fieldAddr Try.underlying162 rfl info3 rfl hF rfl rfl rfl rfl rfl ?_
  refine L.storePtr shape3 hF rfl rfl rfl rfl rfl rfl rfl ?_
  refine L.nil ?_
  refine WpC.seq ?_
  refine WpC.regionL ?_
  refine L.loadPtr shape162 hF rfl rfl rfl rfl rfl rfl ?_
  refine L.storePtr shape162 hF rfl rfl rfl rfl rfl rfl rfl ?_
  refine L.nil ?_
  refine WpC.ret ?_
  cases H
  exact Leaves.ret rfl rfl rfl ⟨rfl, rfl⟩
/-! ### Flaws_toRuleS -/
def Flaws_toRuleS.l2 : Nat → (List Tlaws_Rule) → (List Timpl_Rule) → Int → Option (List Timpl_Rule)
  | 0, _, _, _ => none
  | k2 + 1, v45, v46, v47 => cond (decide (v47 < (v45.length : Int))) ((at? v45 v47).bind fun b51 => (Flaws_toRule k2 b51).bind fun r52 => (at? v46 v47).bind fun b53 => (Flaws_toRuleS.l2 k2) v45 (v46.set v47.toNat r52) (IntKind.i64.wrap (v47 + (1 : Int)))) (some v46)
def Flaws_toRuleS (k : Nat) (a0 : List Tlaws_Rule) : Option (List Timpl_Rule) := cond (decide (0 ≤ (a0.length : Int) ∧ (a0.length : Int) ≤ (a0.length : Int) ∧ 40 * (a0.length : Int) ≤ 281474976710656 ∧ (a0.length : Int) ≤ 9223372036854775807)) (Flaws_toRuleS.l2 k a0 (List.replicate (a0.length : Int).toNat (⟨(0 : Int), [], (0 : Int)⟩ : Timpl_Rule)) (0 : Int)) none
theorem ent81 : MG.Enters Try.prog 81 := ⟨Try.f81, Try.func81, rfl, by decide⟩
set_option maxHeartbeats 8000000 in
set_option maxRecDepth 100000 in
theorem Flaws_toRuleS_gives (k : Nat) (g0 : Bool) (a0 : List Tlaws_Rule) (r : List Timpl_Rule) (H : Flaws_toRuleS k a0 = some r) : Gives Try.prog 81 [V.one (Cell.sl g0 (List.map eTlaws_Rule a0))] [] [V.one (Cell.ow 3 (List.map eTimpl_Rule r))] [] := by
  refine Gives.intro Try.func81 rfl rfl rfl rfl ?_
  intro F hF hm
  unfold Flaws_toRuleS at H
  obtain ⟨K, hK⟩ : ∃ K, k ≤ K := ⟨k, Nat.le_refl k⟩
  refine WpC.seq ?_
  refine WpC.regionL ?_
  refine L.assign hF rfl rfl rfl ?_
  refine L.nil ?_
  refine WpC.seq ?_
  refine WpC.regionL ?_
  refine L.move hF rfl rfl rfl ?_
  refine L.lenR (xs := a0) (e := eTlaws_Rule) Try.underlying98 hF rfl rfl rfl rfl ?_
  obtain ⟨h1, H⟩ := condG H
  refine L.makeSliceN (e := eTimpl_Rule) 1 (⟨(0 : Int), [], (0 : Int)⟩ : Timpl_Rule) Try.underlying44 info162 rfl rfl rfl hF rfl rfl rfl rfl (of_decide_eq_true h1) rfl rfl ⟨rfl, rfl⟩ ?_
  refine L.assign hF rfl rfl rfl ?_
  refine L.nil ?_
  refine WpC.seq ?_
  refine WpC.seq ?_
  refine WpC.regionL ?_
  refine L.assign hF rfl rfl rfl ?_
  refine L.nil ?_
  refine WpC.block ?_
  refine WpC.loopL (P := Try.prog) (fun n σ => ∃ v45 : List Tlaws_Rule, ∃ v46 : List Timpl_Rule, ∃ v47 : Int, n ≤ K ∧ Flaws_toRuleS.l2 n v45 v46 v47 = some r ∧ σ = mkSt [(0, MG.one (Cell.sl g0 (List.map eTlaws_Rule v45))), (3, MG.one (Cell.own 0)), (4, MG.one (cI v47))] [(0, ⟨3, List.map eTimpl_Rule v46⟩)] [] 1) k ⟨_, ⟨a0, (List.replicate (a0.length : Int).toNat (⟨(0 : Int), [], (0 : Int)⟩ : Timpl_Rule)), (0 : Int), by omega, H, rfl⟩, Le.mk [(0, 1)] hm rfl ⟨⟨_, rfl, rfl⟩, ⟨_, rfl, rfl⟩, ⟨_, rfl, rfl⟩, trivial⟩ ⟨⟨_, rfl, rfl⟩, trivial⟩ trivial⟩ ?_
  clear H
  rintro k2 _ ⟨v45, v46, v47, hk2, H, rfl⟩
  cases k2 with
  | zero => cases H
  | succ k2 =>
    rw [Flaws_toRuleS.l2] at H
    refine WpC.seq ?_
    refine WpC.seq ?_
    refine WpC.regionL ?_
    refine L.move hF rfl rfl rfl ?_
    refine L.move hF rfl rfl rfl ?_
    refine L.lenR (xs := v45) (e := eTlaws_Rule) Try.underlying98 hF rfl rfl rfl rfl ?_
    refine L.bin hF rfl rfl rfl rfl rfl rfl ?_
    refine L.nil ?_
    refine WpC.cond rfl (fun hc => ?_) (fun hc => ?_)
    · replace H := condT hc H
      refine WpC.skip ?_
      refine WpC.seq ?_
      refine WpC.block ?_
      refine WpC.regionL ?_
      refine L.move hF rfl rfl rfl ?_
      refine L.move hF rfl rfl rfl ?_
      refine L.move hF rfl rfl rfl ?_
      refine L.move hF rfl rfl rfl ?_
      obtain ⟨b51, hb51, H⟩ := bindS H
      refine L.idxR (xs := v45) (e := eTlaws_Rule) Try.underlying98 info202 hF rfl rfl rfl rfl rfl hb51 rfl rfl ?_
      refine L.loadPe shape202 hF rfl rfl rfl rfl rfl ?_
      obtain ⟨r52, hr52, H⟩ := bindS H
      refine L.call [false] [] [] 1 hF rfl rfl rfl ent166 rfl rfl rfl rfl rfl (Flaws_toRule_gives k2 true b51 r52 hr52) rfl ?_
      obtain ⟨b53, hb53, H⟩ := bindS H
      refine L.idxR (xs := v46) (e := eTimpl_Rule) Try.underlying44 info162 hF rfl rfl rfl rfl rfl hb53 rfl rfl ?_
      refine L.storeEp (xs := v46) (e := eTimpl_Rule) (a' := r52) shape162 hF rfl rfl rfl rfl rfl rfl rfl (at?_get hb53).2 rfl rfl ?_
      refine L.nil ?_
      refine WpC.regionL ?_
      refine L.move hF rfl rfl rfl ?_
      refine L.bin hF rfl rfl rfl rfl rfl rfl ?_
      refine L.assign hF rfl rfl rfl ?_
      refine L.nil ?_
      exact ⟨k2, _, by omega, ⟨v45, (v46.set v47.toNat r52), (IntKind.i64.wrap (v47 + (1 : Int))), by omega, H, rfl⟩, Le.mk [(0, 0)] hm rfl ⟨⟨_, rfl, rfl⟩, ⟨_, rfl, rfl⟩, ⟨_, rfl, rfl⟩, trivial⟩ ⟨⟨_, rfl, rfl⟩, trivial⟩ trivial⟩
    · replace H := condF hc H
      refine WpC.exit ?_
      refine WpC.seq ?_
      refine WpC.regionL ?_
      refine L.move hF rfl rfl rfl ?_
      refine L.assign hF rfl rfl rfl ?_
      refine L.nil ?_
      refine WpC.ret ?_
      cases H
      exact Leaves.ret rfl rfl rfl ⟨rfl, rfl⟩
/-! ### Fspec_l1In -/
def Fspec_l1In (k : Nat) (a0 : Int) (a1 : Int) (a2 : Int) : Option Bool := cond (decide (a0 ≥ a1)) (some (decide (a0 ≤ a2))) (some false)
theorem ent152 : MG.Enters Try.prog 152 := ⟨Try.f152, Try.func152, rfl, by decide⟩
set_option maxHeartbeats 8000000 in
set_option maxRecDepth 100000 in
theorem Fspec_l1In_gives (k : Nat) (a0 : Int) (a1 : Int) (a2 : Int) (r : Bool) (H : Fspec_l1In k a0 a1 a2 = some r) : Gives Try.prog 152 [V.one (cI a0), V.one (cI a1), V.one (cI a2)] [] [V.one (cL r)] [] := by
  refine Gives.intro Try.func152 rfl rfl rfl rfl ?_
  intro F hF hm
  unfold Fspec_l1In at H
  obtain ⟨K, hK⟩ : ∃ K, k ≤ K := ⟨k, Nat.le_refl k⟩
  refine WpC.seq ?_
  refine WpC.regionL ?_
  refine L.assign hF rfl rfl rfl ?_
  refine L.nil ?_
  refine WpC.seq ?_
  refine WpC.regionL ?_
  refine L.move hF rfl rfl rfl ?_
  refine L.move hF rfl rfl rfl ?_
  refine L.bin hF rfl rfl rfl rfl rfl rfl ?_
  refine L.move hF rfl rfl rfl ?_
  refine L.split (fun hc => ?_) (fun hc => ?_)
  · replace H := condT hc H
    refine L.move hF rfl rfl rfl ?_
    refine L.move hF rfl rfl rfl ?_
    refine L.bin hF rfl rfl rfl rfl rfl rfl ?_
    refine L.pick hF rfl rfl rfl rfl ?_
    refine L.assign hF rfl rfl rfl ?_
    refine L.nil ?_
    refine WpC.ret ?_
    cases H
    exact Leaves.ret rfl rfl rfl ⟨rfl, rfl⟩
  · replace H := condF hc H
    refine L.off hF rfl rfl ?_
    refine L.off hF rfl rfl ?_
    refine L.off hF rfl rfl ?_
    refine L.pick hF rfl rfl rfl rfl ?_
    refine L.assign hF rfl rfl rfl ?_
    refine L.nil ?_
    refine WpC.ret ?_
    cases H
    exact Leaves.ret rfl rfl rfl ⟨rfl, rfl⟩
/-! ### Fspec_l17Set -/
def Fspec_l17Set.j8 (cl7 : (List Int) → Int → Option Bool) (k : Nat) (v122 : List Int) (v123 : Int) (v124 : Bool) (v125 : Bool) (v126 : Bool) : Option Bool := cl7 v122 (IntKind.i64.wrap (v123 + (1 : Int)))
def Fspec_l17Set.l7 : Nat → (List Int) → Int → Option Bool
  | 0, _, _ => none
  | k7 + 1, v112, v113 => cond (decide (v113 < (v112.length : Int))) ((at? v112 v113).bind fun b131 => (Fspec_l1In k7 b131 (0 : Int) (30 : Int)).bind fun r132 => cond (!r132) (some false) (cond (decide (v113 > (0 : Int))) ((at? v112 (IntKind.i64.wrap (v113 - (1 : Int)))).bind fun b135 => (at? v112 v113).bind fun b136 => cond (decide (b135 ≥ b136)) (some false) (Fspec_l17Set.j8 (Fspec_l17Set.l7 k7) k7 v112 v113 (decide (v113 > (0 : Int))) true (decide (b135 ≥ b136)))) (Fspec_l17Set.j8 (Fspec_l17Set.l7 k7) k7 v112 v113 (decide (v113 > (0 : Int))) false false))) (some true)
def Fspec_l17Set (k : Nat) (a0 : List Int) : Option Bool := Fspec_l17Set.l7 k a0 (0 : Int)
theorem ent222 : MG.Enters Try.prog 222 := ⟨Try.f222, Try.func222, rfl, by decide⟩
set_option maxHeartbeats 8000000 in
set_option maxRecDepth 100000 in
theorem Fspec_l17Set_gives (k : Nat) (g0 : Bool) (a0 : List Int) (r : Bool) (H : Fspec_l17Set k a0 = some r) : Gives Try.prog 222 [V.one (Cell.sl g0 (List.map eI a0))] [] [V.one (cL r)] [] := by
  refine Gives.intro Try.func222 rfl rfl rfl rfl ?_
  intro F hF hm
  unfold Fspec_l17Set at H
  obtain ⟨K, hK⟩ : ∃ K, k ≤ K := ⟨k, Nat.le_refl k⟩
  refine WpC.seq ?_
  refine WpC.regionL ?_
  refine L.assign hF rfl rfl rfl ?_
  refine L.nil ?_
  refine WpC.seq ?_
  refine WpC.seq ?_
  refine WpC.regionL ?_
  refine L.assign hF rfl rfl rfl ?_
  refine L.nil ?_
  refine WpC.block ?_
  refine WpC.loopL (P := Try.prog) (fun n σ => ∃ v112 : List Int, ∃ v113 : Int, n ≤ K ∧ Fspec_l17Set.l7 n v112 v113 = some r ∧ σ = mkSt [(0, MG.one (Cell.sl g0 (List.map eI v112))), (3, MG.one (cI v113))] [] [] 0) k ⟨_, ⟨a0, (0 : Int), by omega, H, rfl⟩, Le.mk [] hm rfl ⟨⟨_, rfl, rfl⟩, ⟨_, rfl, rfl⟩, trivial⟩ trivial trivial⟩ ?_
  clear H
  rintro k7 _ ⟨v112, v113, hk7, H, rfl⟩
  cases k7 with
  | zero => cases H
  | succ k7 =>
    rw [Fspec_l17Set.l7] at H
    refine WpC.seq ?_
    refine WpC.seq ?_
    refine WpC.regionL ?_
    refine L.move hF rfl rfl rfl ?_
    refine L.move hF rfl rfl rfl ?_
    refine L.lenR (xs := v112) (e := eI) Try.underlying24 hF rfl rfl rfl rfl ?_
    refine L.bin hF rfl rfl rfl rfl rfl rfl ?_
    refine L.nil ?_
    refine WpC.cond rfl (fun hc => ?_) (fun hc => ?_)
    · replace H := condT hc H
      refine WpC.skip ?_
      refine WpC.join (fun σ => ∃ kj8 : Nat, ∃ v122 : List Int, ∃ v123 : Int, ∃ v124 : Bool, ∃ v125 : Bool, ∃ v126 : Bool, kj8 ≤ K ∧ Fspec_l17Set.j8 (Fspec_l17Set.l7 k7) kj8 v122 v123 v124 v125 v126 = some r ∧ σ = mkSt [(0, MG.one (Cell.sl g0 (List.map eI v122))), (3, MG.one (cI v123)), (17, MG.one (cI v123)), (18, MG.one (cL v124)), (19, MG.one (cL v125)), (30, MG.one (cL v126))] [] [] 0) ?_ ?_
      · rintro _ ⟨kj8, v122, v123, v124, v125, v126, hkj8, H, rfl⟩
        unfold Fspec_l17Set.j8 at H
        refine WpC.regionL ?_
        refine L.move hF rfl rfl rfl ?_
        refine L.bin hF rfl rfl rfl rfl rfl rfl ?_
        refine L.assign hF rfl rfl rfl ?_
        refine L.nil ?_
        exact ⟨k7, _, by omega, ⟨v122, (IntKind.i64.wrap (v123 + (1 : Int))), by omega, H, rfl⟩, Le.mk [] hm rfl ⟨⟨_, rfl, rfl⟩, ⟨_, rfl, rfl⟩, trivial⟩ trivial trivial⟩
      · refine WpC.block ?_
        refine WpC.seq ?_
        obtain ⟨b131, hb131, H⟩ := bindS H
        obtain ⟨r132, hr132, H⟩ := bindS H
        rcases Bool.eq_false_or_eq_true ((!r132)) with hc133 | hc133
        · replace H := condT hc133 H
          refine A.begin mixed rfl rfl ?_
          intro W hI hO
          refine hI _ _ _ ?_
          refine A.take 0 rfl (by kernel_rfl) (by kernel_rfl) (by kernel_rfl) rfl (Ca.move) (fun Q0 k0 => L.move hF rfl rfl rfl (L.nil k0)) ?_
          refine A.take 1 rfl (by kernel_rfl) (by kernel_rfl) (by kernel_rfl) rfl (Ca.move) (fun Q0 k0 => L.move hF rfl rfl rfl (L.nil k0)) ?_
          refine A.take 2 rfl (by kernel_rfl) (by kernel_rfl) (by kernel_rfl) rfl (Ca.indexAddr) (fun Q0 k0 => L.idxR (xs := v112) (e := eI) Try.underlying24 info3 hF rfl rfl rfl rfl rfl hb131 rfl rfl (L.nil k0)) ?_
          refine A.all [3] (by kernel_rfl) rfl ⟨⟨_, rfl, ?_⟩, trivial⟩
          refine L.loadPe shape3 hF rfl rfl rfl rfl rfl ?_
          refine L.nil ?_
          refine A.all [4] (by kernel_rfl) rfl ⟨⟨_, rfl, ?_⟩, trivial⟩
          refine L.call [false, false, false] [] [] 0 hF rfl rfl rfl ent152 rfl rfl rfl rfl rfl (Fspec_l1In_gives k7  b131 (0 : Int) (30 : Int) r132 hr132) rfl ?_
          refine L.nil ?_
          refine A.take 5 rfl (by kernel_rfl) (by kernel_rfl) (by kernel_rfl) rfl (Ca.un rfl rfl) (fun Q0 k0 => L.not hF rfl rfl rfl (L.nil k0)) ?_
          refine A.take 6 rfl (by kernel_rfl) (by kernel_rfl) (by kernel_rfl) rfl (Ca.move) (fun Q0 k0 => L.move hF rfl rfl rfl (L.nil k0)) ?_
          refine A.le (τ := mkSt [(0, MG.one (Cell.sl g0 (List.map eI v112))), (3, MG.one (cI v113)), (16, MG.one (cL true))] [] [] 0) (Le.mk [] hm rfl ⟨⟨_, rfl, rfl⟩, ⟨_, rfl, rfl⟩, ⟨_, rfl, congrArg (fun b => some (MG.one (cL b))) hc133⟩, trivial⟩ trivial trivial) ?_
          refine A.off 7 rfl (by kernel_rfl) (by kernel_rfl) (by kernel_rfl) rfl hF rfl rfl ?_
          refine A.off 8 rfl (by kernel_rfl) (by kernel_rfl) (by kernel_rfl) rfl hF rfl rfl ?_
          refine A.off 9 rfl (by kernel_rfl) (by kernel_rfl) (by kernel_rfl) rfl hF rfl rfl ?_
          refine A.off 10 rfl (by kernel_rfl) (by kernel_rfl) (by kernel_rfl) rfl hF rfl rfl ?_
          refine A.off 11 rfl (by kernel_rfl) (by kernel_rfl) (by kernel_rfl) rfl hF rfl rfl ?_
          refine A.off 12 rfl (by kernel_rfl) (by kernel_rfl) (by kernel_rfl) rfl hF rfl rfl ?_
          refine A.off 13 rfl (by kernel_rfl) (by kernel_rfl) (by kernel_rfl) rfl hF rfl rfl ?_
          refine A.off 14 rfl (by kernel_rfl) (by kernel_rfl) (by kernel_rfl) rfl hF rfl rfl ?_
          refine A.off 15 rfl (by kernel_rfl) (by kernel_rfl) (by kernel_rfl) rfl hF rfl rfl ?_
          refine A.off 16 rfl (by kernel_rfl) (by kernel_rfl) (by kernel_rfl) rfl hF rfl rfl ?_
          refine A.le (τ := mkSt [(0, MG.one (Cell.sl g0 (List.map eI v112))), (3, MG.one (cI v113)), (16, MG.one (cL true)), (17, Slot.tup []), (18, Slot.tup []), (19, Slot.tup []), (20, Slot.tup []), (21, Slot.tup []), (22, Slot.tup []), (23, Slot.tup []), (24, Slot.tup []), (25, Slot.tup []), (26, Slot.tup [])] [] [] 0) (Le.mk [] hm rfl ⟨⟨_, rfl, rfl⟩, ⟨_, rfl, rfl⟩, ⟨_, rfl, rfl⟩, ⟨_, rfl, rfl⟩, ⟨_, rfl, rfl⟩, ⟨_, rfl, rfl⟩, ⟨_, rfl, rfl⟩, ⟨_, rfl, rfl⟩, ⟨_, rfl, rfl⟩, ⟨_, rfl, rfl⟩, ⟨_, rfl, rfl⟩, ⟨_, rfl, rfl⟩, ⟨_, rfl, rfl⟩, trivial⟩ trivial trivial) ?_
          refine A.off 17 rfl (by kernel_rfl) (by kernel_rfl) (by kernel_rfl) rfl hF rfl rfl ?_
          refine A.off 18 rfl (by kernel_rfl) (by kernel_rfl) (by kernel_rfl) rfl hF rfl rfl ?_
          refine A.off 19 rfl (by kernel_rfl) (by kernel_rfl) (by kernel_rfl) rfl hF rfl rfl ?_
          refine A.off 20 rfl (by kernel_rfl) (by kernel_rfl) (by kernel_rfl) rfl hF rfl rfl ?_
          refine A.take 21 rfl (by kernel_rfl) (by kernel_rfl) (by kernel_rfl) rfl (Ca.pick) (fun Q0 k0 => L.pick hF rfl rfl rfl rfl (L.nil k0)) ?_
          refine A.le (τ := mkSt [(0, MG.one (Cell.sl g0 (List.map eI v112))), (3, MG.one (cI v113)), (17, Slot.tup []), (18, Slot.tup []), (19, Slot.tup []), (20, Slot.tup []), (21, Slot.tup []), (22, Slot.tup []), (23, Slot.tup []), (24, Slot.tup []), (25, Slot.tup []), (26, Slot.tup []), (27, Slot.tup []), (28, Slot.tup []), (29, Slot.tup []), (30, Slot.tup []), (31, MG.one (cL true))] [] [] 0) (Le.mk [] hm rfl ⟨⟨_, rfl, rfl⟩, ⟨_, rfl, rfl⟩, ⟨_, rfl, rfl⟩, ⟨_, rfl, rfl⟩, ⟨_, rfl, rfl⟩, ⟨_, rfl, rfl⟩, ⟨_, rfl, rfl⟩, ⟨_, rfl, rfl⟩, ⟨_, rfl, rfl⟩, ⟨_, rfl, rfl⟩, ⟨_, rfl, rfl⟩, ⟨_, rfl, rfl⟩, ⟨_, rfl, rfl⟩, ⟨_, rfl, rfl⟩, ⟨_, rfl, rfl⟩, ⟨_, rfl, rfl⟩, ⟨_, rfl, rfl⟩, trivial⟩ trivial trivial) ?_
          refine A.done (by kernel_rfl) ?_
          refine WpC.cond rfl (fun _ => ?_) (fun hc => by cases hc)
          refine WpC.seq ?_
          refine WpC.regionL ?_
          refine L.assign hF rfl rfl rfl ?_
          refine L.nil ?_
          refine WpC.ret ?_
          cases H
          exact Leaves.ret rfl rfl rfl ⟨rfl, rfl⟩
        · replace H := condF hc133 H
          rcases Bool.eq_false_or_eq_true ((decide (v113 > (0 : Int)))) with hc134 | hc134
          · replace H := condT hc134 H
            obtain ⟨b135, hb135, H⟩ := bindS H
            obtain ⟨b136, hb136, H⟩ := bindS H
            refine A.begin mixed rfl rfl ?_
            intro W hI hO
            have n524287 : W 3 #[true, true, true, true, true, true, true, true, true, true, true, true, true, true, true, true, true, true, true, false, false, false] (mkSt [(0, MG.one (Cell.sl g0 (List.map eI v112))), (3, MG.one (cI v113)), (16, MG.one (cL false)), (17, MG.one (cI v113)), (18, MG.one (cL (decide (v113 > (0 : Int))))), (19, MG.one (cL true)), (20, MG.one (Cell.sl g0 (List.map eI v112))), (21, MG.one (cI v113)), (22, MG.one (cI (IntKind.i64.wrap (v113 - (1 : Int))))), (23, MG.one (Cell.pe g0 (eI b135) 0)), (24, MG.one (cI b135)), (25, MG.one (Cell.sl g0 (List.map eI v112))), (26, MG.one (cI v113)), (27, MG.one (Cell.pe g0 (eI b136) 0)), (28, MG.one (cI b136))] [] [] 0) := by
              refine hI _ _ _ ?_
              refine A.take 19 rfl (by kernel_rfl) (by kernel_rfl) (by kernel_rfl) rfl (Ca.bin rfl rfl (calm_int _ _ _ _ _ _ _ _)) (fun Q0 k0 => L.bin hF rfl rfl rfl rfl rfl rfl (L.nil k0)) ?_
              refine A.take 20 rfl (by kernel_rfl) (by kernel_rfl) (by kernel_rfl) rfl (Ca.pick) (fun Q0 k0 => L.pick hF rfl rfl rfl rfl (L.nil k0)) ?_
              refine A.take 21 rfl (by kernel_rfl) (by kernel_rfl) (by kernel_rfl) rfl (Ca.pick) (fun Q0 k0 => L.pick hF rfl rfl rfl rfl (L.nil k0)) ?_
              refine A.le (τ := mkSt [(0, MG.one (Cell.sl g0 (List.map eI v112))), (3, MG.one (cI v113)), (17, MG.one (cI v113)), (18, MG.one (cL (decide (v113 > (0 : Int))))), (19, MG.one (cL true)), (20, MG.one (Cell.sl g0 (List.map eI v112))), (21, MG.one (cI v113)), (22, MG.one (cI (IntKind.i64.wrap (v113 - (1 : Int))))), (23, MG.one (Cell.pe g0 (eI b135) 0)), (24, MG.one (cI b135)), (25, MG.one (Cell.sl g0 (List.map eI v112))), (26, MG.one (cI v113)), (27, MG.one (Cell.pe g0 (eI b136) 0)), (28, MG.one (cI b136)), (29, MG.one (cL (decide (b135 ≥ b136)))), (30, MG.one (cL (decide (b135 ≥ b136)))), (31, MG.one (cL (decide (b135 ≥ b136))))] [] [] 0) (Le.mk [] hm rfl ⟨⟨_, rfl, rfl⟩, ⟨_, rfl, rfl⟩, ⟨_, rfl, rfl⟩, ⟨_, rfl, rfl⟩, ⟨_, rfl, rfl⟩, ⟨_, rfl, rfl⟩, ⟨_, rfl, rfl⟩, ⟨_, rfl, rfl⟩, ⟨_, rfl, rfl⟩, ⟨_, rfl, rfl⟩, ⟨_, rfl, rfl⟩, ⟨_, rfl, rfl⟩, ⟨_, rfl, rfl⟩, ⟨_, rfl, rfl⟩, ⟨_, rfl, rfl⟩, ⟨_, rfl, rfl⟩, ⟨_, rfl, rfl⟩, trivial⟩ trivial trivial) ?_
              refine A.done (by kernel_rfl) ?_
              refine WpC.cond rfl (fun hc => ?_) (fun hc => ?_)
              · replace H := condT hc H
                refine WpC.seq ?_
                refine WpC.regionL ?_
                refine L.assign hF rfl rfl rfl ?_
                refine L.nil ?_
                refine WpC.ret ?_
                cases H
                exact Leaves.ret rfl rfl rfl ⟨rfl, rfl⟩
              · replace H := condF hc H
                refine WpC.skip ?_
                exact ⟨_, ⟨k7, v112, v113, (decide (v113 > (0 : Int))), true, (decide (b135 ≥ b136)), by omega, H, rfl⟩, Le.mk [] hm rfl ⟨⟨_, rfl, rfl⟩, ⟨_, rfl, rfl⟩, ⟨_, rfl, rfl⟩, ⟨_, rfl, rfl⟩, ⟨_, rfl, rfl⟩, ⟨_, rfl, rfl⟩, trivial⟩ trivial trivial⟩
            refine hI _ _ _ ?_
            refine A.take 0 rfl (by kernel_rfl) (by kernel_rfl) (by kernel_rfl) rfl (Ca.move) (fun Q0 k0 => L.move hF rfl rfl rfl (L.nil k0)) ?_
            refine A.take 1 rfl (by kernel_rfl) (by kernel_rfl) (by kernel_rfl) rfl (Ca.move) (fun Q0 k0 => L.move hF rfl rfl rfl (L.nil k0)) ?_
            refine A.take 2 rfl (by kernel_rfl) (by kernel_rfl) (by kernel_rfl) rfl (Ca.indexAddr) (fun Q0 k0 => L.idxR (xs := v112) (e := eI) Try.underlying24 info3 hF rfl rfl rfl rfl rfl hb131 rfl rfl (L.nil k0)) ?_
            refine A.all [3] (by kernel_rfl) rfl ⟨⟨_, rfl, ?_⟩, trivial⟩
            refine L.loadPe shape3 hF rfl rfl rfl rfl rfl ?_
            refine L.nil ?_
            refine A.all [4] (by kernel_rfl) rfl ⟨⟨_, rfl, ?_⟩, trivial⟩
            refine L.call [false, false, false] [] [] 0 hF rfl rfl rfl ent152 rfl rfl rfl rfl rfl (Fspec_l1In_gives k7  b131 (0 : Int) (30 : Int) r132 hr132) rfl ?_
            refine L.nil ?_
            refine A.take 5 rfl (by kernel_rfl) (by kernel_rfl) (by kernel_rfl) rfl (Ca.un rfl rfl) (fun Q0 k0 => L.not hF rfl rfl rfl (L.nil k0)) ?_
            refine A.take 6 rfl (by kernel_rfl) (by kernel_rfl) (by kernel_rfl) rfl (Ca.move) (fun Q0 k0 => L.move hF rfl rfl rfl (L.nil k0)) ?_
            refine A.le (τ := mkSt [(0, MG.one (Cell.sl g0 (List.map eI v112))), (3, MG.one (cI v113)), (16, MG.one (cL false))] [] [] 0) (Le.mk [] hm rfl ⟨⟨_, rfl, rfl⟩, ⟨_, rfl, rfl⟩, ⟨_, rfl, congrArg (fun b => some (MG.one (cL b))) hc133⟩, trivial⟩ trivial trivial) ?_
            refine A.take 7 rfl (by kernel_rfl) (by kernel_rfl) (by kernel_rfl) rfl (Ca.move) (fun Q0 k0 => L.move hF rfl rfl rfl (L.nil k0)) ?_
            refine A.take 8 rfl (by kernel_rfl) (by kernel_rfl) (by kernel_rfl) rfl (Ca.bin rfl rfl (calm_int _ _ _ _ _ _ _ _)) (fun Q0 k0 => L.bin hF rfl rfl rfl rfl rfl rfl (L.nil k0)) ?_
            refine A.take 9 rfl (by kernel_rfl) (by kernel_rfl) (by kernel_rfl) rfl (Ca.move) (fun Q0 k0 => L.move hF rfl rfl rfl (L.nil k0)) ?_
            refine A.le (τ := mkSt [(0, MG.one (Cell.sl g0 (List.map eI v112))), (3, MG.one (cI v113)), (16, MG.one (cL false)), (17, MG.one (cI v113)), (18, MG.one (cL (decide (v113 > (0 : Int))))), (19, MG.one (cL true))] [] [] 0) (Le.mk [] hm rfl ⟨⟨_, rfl, rfl⟩, ⟨_, rfl, rfl⟩, ⟨_, rfl, rfl⟩, ⟨_, rfl, rfl⟩, ⟨_, rfl, rfl⟩, ⟨_, rfl, congrArg (fun b => some (MG.one (cL b))) hc134⟩, trivial⟩ trivial trivial) ?_
            refine A.take 10 rfl (by kernel_rfl) (by kernel_rfl) (by kernel_rfl) rfl (Ca.move) (fun Q0 k0 => L.move hF rfl rfl rfl (L.nil k0)) ?_
            refine A.take 11 rfl (by kernel_rfl) (by kernel_rfl) (by kernel_rfl) rfl (Ca.move) (fun Q0 k0 => L.move hF rfl rfl rfl (L.nil k0)) ?_
            refine A.take 12 rfl (by kernel_rfl) (by kernel_rfl) (by kernel_rfl) rfl (Ca.bin rfl rfl (calm_int _ _ _ _ _ _ _ _)) (fun Q0 k0 => L.bin hF rfl rfl rfl rfl rfl rfl (L.nil k0)) ?_
            refine A.take 13 rfl (by kernel_rfl) (by kernel_rfl) (by kernel_rfl) rfl (Ca.indexAddr) (fun Q0 k0 => L.idxR (xs := v112) (e := eI) Try.underlying24 info3 hF rfl rfl rfl rfl rfl hb135 rfl rfl (L.nil k0)) ?_
            refine A.take 15 rfl (by kernel_rfl) (by kernel_rfl) (by kernel_rfl) rfl (Ca.move) (fun Q0 k0 => L.move hF rfl rfl rfl (L.nil k0)) ?_
            refine A.take 16 rfl (by kernel_rfl) (by kernel_rfl) (by kernel_rfl) rfl (Ca.move) (fun Q0 k0 => L.move hF rfl rfl rfl (L.nil k0)) ?_
            refine A.take 17 rfl (by kernel_rfl) (by kernel_rfl) (by kernel_rfl) rfl (Ca.indexAddr) (fun Q0 k0 => L.idxR (xs := v112) (e := eI) Try.underlying24 info3 hF rfl rfl rfl rfl rfl hb136 rfl rfl (L.nil k0)) ?_
            refine A.all [14, 18] (by kernel_rfl) rfl ⟨⟨_, rfl, ?_⟩, ⟨_, rfl, ?_⟩, trivial⟩
            · refine L.loadPe shape3 hF rfl rfl rfl rfl rfl ?_
              refine L.nil ?_
              refine A.all [18] (by kernel_rfl) rfl ⟨⟨_, rfl, ?_⟩, trivial⟩
              refine L.loadPe shape3 hF rfl rfl rfl rfl rfl ?_
              refine L.nil ?_
              exact A.on (hO _ _ _ n524287) (Le.mk [] hm rfl ⟨⟨_, rfl, rfl⟩, ⟨_, rfl, rfl⟩, ⟨_, rfl, rfl⟩, ⟨_, rfl, rfl⟩, ⟨_, rfl, rfl⟩, ⟨_, rfl, rfl⟩, ⟨_, rfl, rfl⟩, ⟨_, rfl, rfl⟩, ⟨_, rfl, rfl⟩, ⟨_, rfl, rfl⟩, ⟨_, rfl, rfl⟩, ⟨_, rfl, rfl⟩, ⟨_, rfl, rfl⟩, ⟨_, rfl, rfl⟩, ⟨_, rfl, rfl⟩, trivial⟩ trivial trivial)
            · refine L.loadPe shape3 hF rfl rfl rfl rfl rfl ?_
              refine L.nil ?_
              refine A.all [14] (by kernel_rfl) rfl ⟨⟨_, rfl, ?_⟩, trivial⟩
              refine L.loadPe shape3 hF rfl rfl rfl rfl rfl ?_
              refine L.nil ?_
              exact A.on (hO _ _ _ n524287) (Le.mk [] hm rfl ⟨⟨_, rfl, rfl⟩, ⟨_, rfl, rfl⟩, ⟨_, rfl, rfl⟩, ⟨_, rfl, rfl⟩, ⟨_, rfl, rfl⟩, ⟨_, rfl, rfl⟩, ⟨_, rfl, rfl⟩, ⟨_, rfl, rfl⟩, ⟨_, rfl, rfl⟩, ⟨_, rfl, rfl⟩, ⟨_, rfl, rfl⟩, ⟨_, rfl, rfl⟩, ⟨_, rfl, rfl⟩, ⟨_, rfl, rfl⟩, ⟨_, rfl, rfl⟩, trivial⟩ trivial trivial)
          · replace H := condF hc134 H
            refine A.begin mixed rfl rfl ?_
            intro W hI hO
            refine hI _ _ _ ?_
            refine A.take 0 rfl (by kernel_rfl) (by kernel_rfl) (by kernel_rfl) rfl (Ca.move) (fun Q0 k0 => L.move hF rfl rfl rfl (L.nil k0)) ?_
            refine A.take 1 rfl (by kernel_rfl) (by kernel_rfl) (by kernel_rfl) rfl (Ca.move) (fun Q0 k0 => L.move hF rfl rfl rfl (L.nil k0)) ?_
            refine A.take 2 rfl (by kernel_rfl) (by kernel_rfl) (by kernel_rfl) rfl (Ca.indexAddr) (fun Q0 k0 => L.idxR (xs := v112) (e := eI) Try.underlying24 info3 hF rfl rfl rfl rfl rfl hb131 rfl rfl (L.nil k0)) ?_
            refine A.all [3] (by kernel_rfl) rfl ⟨⟨_, rfl, ?_⟩, trivial⟩
            refine L.loadPe shape3 hF rfl rfl rfl rfl rfl ?_
            refine L.nil ?_
            refine A.all [4] (by kernel_rfl) rfl ⟨⟨_, rfl, ?_⟩, trivial⟩
            refine L.call [false, false, false] [] [] 0 hF rfl rfl rfl ent152 rfl rfl rfl rfl rfl (Fspec_l1In_gives k7  b131 (0 : Int) (30 : Int) r132 hr132) rfl ?_
            refine L.nil ?_
            refine A.take 5 rfl (by kernel_rfl) (by kernel_rfl) (by kernel_rfl) rfl (Ca.un rfl rfl) (fun Q0 k0 => L.not hF rfl rfl rfl (L.nil k0)) ?_
            refine A.take 6 rfl (by kernel_rfl) (by kernel_rfl) (by kernel_rfl) rfl (Ca.move) (fun Q0 k0 => L.move hF rfl rfl rfl (L.nil k0)) ?_
            refine A.le (τ := mkSt [(0, MG.one (Cell.sl g0 (List.map eI v112))), (3, MG.one (cI v113)), (16, MG.one (cL false))] [] [] 0) (Le.mk [] hm rfl ⟨⟨_, rfl, rfl⟩, ⟨_, rfl, rfl⟩, ⟨_, rfl, congrArg (fun b => some (MG.one (cL b))) hc133⟩, trivial⟩ trivial trivial) ?_
            refine A.take 7 rfl (by kernel_rfl) (by kernel_rfl) (by kernel_rfl) rfl (Ca.move) (fun Q0 k0 => L.move hF rfl rfl rfl (L.nil k0)) ?_
            refine A.take 8 rfl (by kernel_rfl) (by kernel_rfl) (by kernel_rfl) rfl (Ca.bin rfl rfl (calm_int _ _ _ _ _ _ _ _)) (fun Q0 k0 => L.bin hF rfl rfl rfl rfl rfl rfl (L.nil k0)) ?_
            refine A.take 9 rfl (by kernel_rfl) (by kernel_rfl) (by kernel_rfl) rfl (Ca.move) (fun Q0 k0 => L.move hF rfl rfl rfl (L.nil k0)) ?_
            refine A.le (τ := mkSt [(0, MG.one (Cell.sl g0 (List.map eI v112))), (3, MG.one (cI v113)), (16, MG.one (cL false)), (17, MG.one (cI v113)), (18, MG.one (cL (decide (v113 > (0 : Int))))), (19, MG.one (cL false))] [] [] 0) (Le.mk [] hm rfl ⟨⟨_, rfl, rfl⟩, ⟨_, rfl, rfl⟩, ⟨_, rfl, rfl⟩, ⟨_, rfl, rfl⟩, ⟨_, rfl, rfl⟩, ⟨_, rfl, congrArg (fun b => some (MG.one (cL b))) hc134⟩, trivial⟩ trivial trivial) ?_
            refine A.off 10 rfl (by kernel_rfl) (by kernel_rfl) (by kernel_rfl) rfl hF rfl rfl ?_
            refine A.off 11 rfl (by kernel_rfl) (by kernel_rfl) (by kernel_rfl) rfl hF rfl rfl ?_
            refine A.off 12 rfl (by kernel_rfl) (by kernel_rfl) (by kernel_rfl) rfl hF rfl rfl ?_
            refine A.off 13 rfl (by kernel_rfl) (by kernel_rfl) (by kernel_rfl) rfl hF rfl rfl ?_
            refine A.off 14 rfl (by kernel_rfl) (by kernel_rfl) (by kernel_rfl) rfl hF rfl rfl ?_
            refine A.off 15 rfl (by kernel_rfl) (by kernel_rfl) (by kernel_rfl) rfl hF rfl rfl ?_
            refine A.off 16 rfl (by kernel_rfl) (by kernel_rfl) (by kernel_rfl) rfl hF rfl rfl ?_
            refine A.off 17 rfl (by kernel_rfl) (by kernel_rfl) (by kernel_rfl) rfl hF rfl rfl ?_
            refine A.off 18 rfl (by kernel_rfl) (by kernel_rfl) (by kernel_rfl) rfl hF rfl rfl ?_
            refine A.off 19 rfl (by kernel_rfl) (by kernel_rfl) (by kernel_rfl) rfl hF rfl rfl ?_
            refine A.le (τ := mkSt [(0, MG.one (Cell.sl g0 (List.map eI v112))), (3, MG.one (cI v113)), (16, MG.one (cL false)), (17, MG.one (cI v113)), (18, MG.one (cL (decide (v113 > (0 : Int))))), (19, MG.one (cL false)), (20, Slot.tup []), (21, Slot.tup []), (22, Slot.tup []), (23, Slot.tup []), (24, Slot.tup []), (25, Slot.tup []), (26, Slot.tup []), (27, Slot.tup []), (28, Slot.tup []), (29, Slot.tup [])] [] [] 0) (Le.mk [] hm rfl ⟨⟨_, rfl, rfl⟩, ⟨_, rfl, rfl⟩, ⟨_, rfl, rfl⟩, ⟨_, rfl, rfl⟩, ⟨_, rfl, rfl⟩, ⟨_, rfl, rfl⟩, ⟨_, rfl, rfl⟩, ⟨_, rfl, rfl⟩, ⟨_, rfl, rfl⟩, ⟨_, rfl, rfl⟩, ⟨_, rfl, rfl⟩, ⟨_, rfl, rfl⟩, ⟨_, rfl, rfl⟩, ⟨_, rfl, rfl⟩, ⟨_, rfl, rfl⟩, ⟨_, rfl, rfl⟩, trivial⟩ trivial trivial) ?_
            refine A.take 20 rfl (by kernel_rfl) (by kernel_rfl) (by kernel_rfl) rfl (Ca.pick) (fun Q0 k0 => L.pick hF rfl rfl rfl rfl (L.nil k0)) ?_
            refine A.take 21 rfl (by kernel_rfl) (by kernel_rfl) (by kernel_rfl) rfl (Ca.pick) (fun Q0 k0 => L.pick hF rfl rfl rfl rfl (L.nil k0)) ?_
            refine A.le (τ := mkSt [(0, MG.one (Cell.sl g0 (List.map eI v112))), (3, MG.one (cI v113)), (17, MG.one (cI v113)), (18, MG.one (cL (decide (v113 > (0 : Int))))), (19, MG.one (cL false)), (20, Slot.tup []), (21, Slot.tup []), (22, Slot.tup []), (23, Slot.tup []), (24, Slot.tup []), (25, Slot.tup []), (26, Slot.tup []), (27, Slot.tup []), (28, Slot.tup []), (29, Slot.tup []), (30, MG.one (cL false)), (31, MG.one (cL false))] [] [] 0) (Le.mk [] hm rfl ⟨⟨_, rfl, rfl⟩, ⟨_, rfl, rfl⟩, ⟨_, rfl, rfl⟩, ⟨_, rfl, rfl⟩, ⟨_, rfl, rfl⟩, ⟨_, rfl, rfl⟩, ⟨_, rfl, rfl⟩, ⟨_, rfl, rfl⟩, ⟨_, rfl, rfl⟩, ⟨_, rfl, rfl⟩, ⟨_, rfl, rfl⟩, ⟨_, rfl, rfl⟩, ⟨_, rfl, rfl⟩, ⟨_, rfl, rfl⟩, ⟨_, rfl, rfl⟩, ⟨_, rfl, rfl⟩, ⟨_, rfl, rfl⟩, trivial⟩ trivial trivial) ?_
            refine A.done (by kernel_rfl) ?_
            refine WpC.cond rfl (fun hc => by cases hc) (fun _ => ?_)
            refine WpC.skip ?_
            exact ⟨_, ⟨k7, v112, v113, (decide (v113 > (0 : Int))), false, false, by omega, H, rfl⟩, Le.mk [] hm rfl ⟨⟨_, rfl, rfl⟩, ⟨_, rfl, rfl⟩, ⟨_, rfl, rfl⟩, ⟨_, rfl, rfl⟩, ⟨_, rfl, rfl⟩, ⟨_, rfl, rfl⟩, trivial⟩ trivial trivial⟩
    · replace H := condF hc H
      refine WpC.exit ?_
      refine WpC.seq ?_
      refine WpC.regionL ?_
      refine L.assign hF rfl rfl rfl ?_
      refine L.nil ?_
      refine WpC.ret ?_
      cases H
      exact Leaves.ret rfl rfl rfl ⟨rfl, rfl⟩
/-! ### Fspec_l17Ok -/
def Fspec_l17Ok (k : Nat) (a0 : Timpl_Rule) : Option Bool := (Fspec_l1In k a0.Kind (1 : Int) (3 : Int)).bind fun r4 => cond r4 (cond (a0.N == (0 : Int)) ((Fspec_l17Set k a0.Set).bind fun r6 => some r6) (some false)) ((Fspec_l1In k a0.Kind (4 : Int) (5 : Int)).bind fun r9 => cond r9 (cond ((a0.Set.length : Int) == (0 : Int)) ((Fspec_l1In k a0.N (0 : Int) (100000 : Int)).bind fun r10 => some r10) (some false)) (some false))
theorem ent127 : MG.Enters Try.prog 127 := ⟨Try.f127, Try.func127, rfl, by decide⟩
set_option maxHeartbeats 8000000 in
set_option maxRecDepth 100000 in
theorem Fspec_l17Ok_gives (k : Nat) (g0 : Bool) (a0 : Timpl_Rule) (r : Bool) (H : Fspec_l17Ok k a0 = some r) : Gives Try.prog 127 [V.agg [cI a0.Kind, Cell.sl g0 (List.map eI a0.Set), cI a0.N]] [] [V.one (cL r)] [] := by
  refine Gives.intro Try.func127 rfl rfl rfl rfl ?_
  intro F hF hm
  unfold Fspec_l17Ok at H
  obtain ⟨K, hK⟩ : ∃ K, k ≤ K := ⟨k, Nat.le_refl k⟩
  refine WpC.seq ?_
  refine WpC.regionL ?_
  refine L.box 3 hF rfl rfl rfl rfl ?_
  refine L.assign hF rfl rfl rfl ?_
  refine L.nil ?_
  refine WpC.seq ?_
  refine WpC.seq ?_
  refine WpC.regionL ?_
  refine L.fieldAddr Try.underlying162 rfl info3 rfl hF rfl rfl rfl rfl rfl ?_
  refine L.loadPtr shape3 hF rfl rfl rfl rfl rfl rfl ?_
  obtain ⟨r4, hr4, H⟩ := bindS H
  refine L.call [false, false, false] [] [] 4 hF rfl rfl rfl ent152 rfl rfl rfl rfl rfl (Fspec_l1In_gives k  a0.Kind (1 : Int) (3 : Int) r4 hr4) rfl ?_
  refine L.nil ?_
  refine WpC.cond rfl (fun hc => ?_) (fun hc => ?_)
  · replace H := condT hc H
    refine WpC.seq ?_
    refine WpC.regionL ?_
    refine L.fieldAddr Try.underlying162 rfl info3 rfl hF rfl rfl rfl rfl rfl ?_
    refine L.loadPtr shape3 hF rfl rfl rfl rfl rfl rfl ?_
    refine L.bin hF rfl rfl rfl rfl rfl rfl ?_
    refine L.move hF rfl rfl rfl ?_
    refine L.split (fun hc => ?_) (fun hc => ?_)
    · replace H := condT hc H
      refine L.fieldAddr Try.underlying162 rfl info24 rfl hF rfl rfl rfl rfl rfl ?_
      refine L.loadPtr shape24 hF rfl rfl rfl rfl rfl rfl ?_
      obtain ⟨r6, hr6, H⟩ := bindS H
      refine L.call [false] [] [] 5 hF rfl rfl rfl ent222 rfl rfl rfl rfl rfl (Fspec_l17Set_gives k g0 a0.Set r6 hr6) rfl ?_
      refine L.pick hF rfl rfl rfl rfl ?_
      refine L.assign hF rfl rfl rfl ?_
      refine L.nil ?_
      refine WpC.ret ?_
      cases H
      exact Leaves.ret rfl rfl rfl ⟨rfl, rfl⟩
    · replace H := condF hc H
      refine L.off hF rfl rfl ?_
      refine L.off hF rfl rfl ?_
      refine L.off hF rfl rfl ?_
      refine L.pick hF rfl rfl rfl rfl ?_
      refine L.assign hF rfl rfl rfl ?_
      refine L.nil ?_
      refine WpC.ret ?_
      cases H
      exact Leaves.ret rfl rfl rfl ⟨rfl, rfl⟩
  · replace H := condF hc H
    refine WpC.skip ?_
    refine WpC.seq ?_
    refine WpC.regionL ?_
    refine L.fieldAddr Try.underlying162 rfl info3 rfl hF rfl rfl rfl rfl rfl ?_
    refine L.loadPtr shape3 hF rfl rfl rfl rfl rfl rfl ?_
    obtain ⟨r9, hr9, H⟩ := bindS H
    refine L.call [false, false, false] [] [] 5 hF rfl rfl rfl ent152 rfl rfl rfl rfl rfl (Fspec_l1In_gives k  a0.Kind (4 : Int) (5 : Int) r9 hr9) rfl ?_
    refine L.move hF rfl rfl rfl ?_
    refine L.split (fun hc => ?_) (fun hc => ?_)
    · replace H := condT hc H
      refine L.fieldAddr Try.underlying162 rfl info24 rfl hF rfl rfl rfl rfl rfl ?_
      refine L.loadPtr shape24 hF rfl rfl rfl rfl rfl rfl ?_
      refine L.lenR (xs := a0.Set) (e := eI) Try.underlying24 hF rfl rfl rfl rfl ?_
      refine L.bin hF rfl rfl rfl rfl rfl rfl ?_
      refine L.pick hF rfl rfl rfl rfl ?_
      refine L.move hF rfl rfl rfl ?_
      refine L.split (fun hc => ?_) (fun hc => ?_)
      · replace H := condT hc H
        refine L.fieldAddr Try.underlying162 rfl info3 rfl hF rfl rfl rfl rfl rfl ?_
        refine L.loadPtr shape3 hF rfl rfl rfl rfl rfl rfl ?_
        obtain ⟨r10, hr10, H⟩ := bindS H
        refine L.call [false, false, false] [] [] 6 hF rfl rfl rfl ent152 rfl rfl rfl rfl rfl (Fspec_l1In_gives k  a0.N (0 : Int) (100000 : Int) r10 hr10) rfl ?_
        refine L.pick hF rfl rfl rfl rfl ?_
        refine L.assign hF rfl rfl rfl ?_
        refine L.nil ?_
        refine WpC.ret ?_
        cases H
        exact Leaves.ret rfl rfl rfl ⟨rfl, rfl⟩
      · replace H := condF hc H
        refine L.off hF rfl rfl ?_
        refine L.off hF rfl rfl ?_
        refine L.off hF rfl rfl ?_
        refine L.pick hF rfl rfl rfl rfl ?_
        refine L.assign hF rfl rfl rfl ?_
        refine L.nil ?_
        refine WpC.ret ?_
        cases H
        exact Leaves.ret rfl rfl rfl ⟨rfl, rfl⟩
    · replace H := condF hc H
      refine L.off hF rfl rfl ?_
      refine L.off hF rfl rfl ?_
      refine L.off hF rfl rfl ?_
      refine L.off hF rfl rfl ?_
      refine L.pick hF rfl rfl rfl rfl ?_
      refine L.move hF rfl rfl rfl ?_
      refine L.off hF rfl rfl ?_
      refine L.off hF rfl rfl ?_
      refine L.off hF rfl rfl ?_
      refine L.pick hF rfl rfl rfl rfl ?_
      refine L.assign hF rfl rfl rfl ?_
      refine L.nil ?_
      refine WpC.ret ?_
      cases H
      exact Leaves.ret rfl rfl rfl ⟨rfl, rfl⟩
/-! ### Fspec_RulesOk -/
def Fspec_RulesOk.l2 : Nat → (List Timpl_Rule) → Int → Option Bool
  | 0, _, _ => none
  | k2 + 1, v29, v30 => cond (decide (v30 < (v29.length : Int))) ((at? v29 v30).bind fun b33 => (Fspec_l17Ok k2 b33).bind fun r34 => cond (!r34) (some false) ((Fspec_RulesOk.l2 k2) v29 (IntKind.i64.wrap (v30 + (1 : Int))))) (some true)
def Fspec_RulesOk (k : Nat) (a0 : List Timpl_Rule) : Option Bool := cond (decide ((a0.length : Int) > (20 : Int))) (some false) (Fspec_RulesOk.l2 k a0 (0 : Int))
theorem ent51 : MG.Enters Try.prog 51 := ⟨Try.f51, Try.func51, rfl, by decide⟩
set_option maxHeartbeats 8000000 in
set_option maxRecDepth 100000 in
theorem Fspec_RulesOk_gives (k : Nat) (g0 : Bool) (a0 : List Timpl_Rule) (r : Bool) (H : Fspec_RulesOk k a0 = some r) : Gives Try.prog 51 [V.one (Cell.sl g0 (List.map eTimpl_Rule a0))] [] [V.one (cL r)] [] := by
  refine Gives.intro Try.func51 rfl rfl rfl rfl ?_
  intro F hF hm
  unfold Fspec_RulesOk at H
  obtain ⟨K, hK⟩ : ∃ K, k ≤ K := ⟨k, Nat.le_refl k⟩
  refine WpC.seq ?_
  refine WpC.regionL ?_
  refine L.assign hF rfl rfl rfl ?_
  refine L.nil ?_
  refine WpC.seq ?_
  refine WpC.seq ?_
  refine WpC.regionL ?_
  refine L.move hF rfl rfl rfl ?_
  refine L.lenR (xs := a0) (e := eTimpl_Rule) Try.underlying44 hF rfl rfl rfl rfl ?_
  refine L.bin hF rfl rfl rfl rfl rfl rfl ?_
  refine L.nil ?_
  refine WpC.cond rfl (fun hc => ?_) (fun hc => ?_)
  · replace H := condT hc H
    refine WpC.seq ?_
    refine WpC.regionL ?_
    refine L.assign hF rfl rfl rfl ?_
    refine L.nil ?_
    refine WpC.ret ?_
    cases H
    exact Leaves.ret rfl rfl rfl ⟨rfl, rfl⟩
  · replace H := condF hc H
    refine WpC.skip ?_
    refine WpC.seq ?_
    refine WpC.seq ?_
    refine WpC.regionL ?_
    refine L.assign hF rfl rfl rfl ?_
    refine L.nil ?_
    refine WpC.block ?_
    refine WpC.loopL (P := Try.prog) (fun n σ => ∃ v29 : List Timpl_Rule, ∃ v30 : Int, n ≤ K ∧ Fspec_RulesOk.l2 n v29 v30 = some r ∧ σ = mkSt [(0, MG.one (Cell.sl g0 (List.map eTimpl_Rule v29))), (3, MG.one (cI v30))] [] [] 0) k ⟨_, ⟨a0, (0 : Int), by omega, H, rfl⟩, Le.mk [] hm rfl ⟨⟨_, rfl, rfl⟩, ⟨_, rfl, rfl⟩, trivial⟩ trivial trivial⟩ ?_
    clear H
    rintro k2 _ ⟨v29, v30, hk2, H, rfl⟩
    cases k2 with
    | zero => cases H
    | succ k2 =>
      rw [Fspec_RulesOk.l2] at H
      refine WpC.seq ?_
      refine WpC.seq ?_
      refine WpC.regionL ?_
      refine L.move hF rfl rfl rfl ?_
      refine L.move hF rfl rfl rfl ?_
      refine L.lenR (xs := v29) (e := eTimpl_Rule) Try.underlying44 hF rfl rfl rfl rfl ?_
      refine L.bin hF rfl rfl rfl rfl rfl rfl ?_
      refine L.nil ?_
      refine WpC.cond rfl (fun hc => ?_) (fun hc => ?_)
      · replace H := condT hc H
        refine WpC.skip ?_
        refine WpC.seq ?_
        refine WpC.block ?_
        refine WpC.seq ?_
        refine WpC.regionL ?_
        refine L.move hF rfl rfl rfl ?_
        refine L.move hF rfl rfl rfl ?_
        obtain ⟨b33, hb33, H⟩ := bindS H
        refine L.idxR (xs := v29) (e := eTimpl_Rule) Try.underlying44 info162 hF rfl rfl rfl rfl rfl hb33 rfl rfl ?_
        refine L.loadPe shape162 hF rfl rfl rfl rfl rfl ?_
        obtain ⟨r34, hr34, H⟩ := bindS H
        refine L.call [false] [] [] 0 hF rfl rfl rfl ent127 rfl rfl rfl rfl rfl (Fspec_l17Ok_gives k2 true b33 r34 hr34) rfl ?_
        refine L.not hF rfl rfl rfl ?_
        refine L.nil ?_
        refine WpC.cond rfl (fun hc => ?_) (fun hc => ?_)
        · replace H := condT hc H
          refine WpC.seq ?_
          refine WpC.regionL ?_
          refine L.assign hF rfl rfl rfl ?_
          refine L.nil ?_
          refine WpC.ret ?_
          cases H
          exact Leaves.ret rfl rfl rfl ⟨rfl, rfl⟩
        · replace H := condF hc H
          refine WpC.skip ?_
          refine WpC.regionL ?_
          refine L.move hF rfl rfl rfl ?_
          refine L.bin hF rfl rfl rfl rfl rfl rfl ?_
          refine L.assign hF rfl rfl rfl ?_
          refine L.nil ?_
          exact ⟨k2, _, by omega, ⟨v29, (IntKind.i64.wrap (v30 + (1 : Int))), by omega, H, rfl⟩, Le.mk [] hm rfl ⟨⟨_, rfl, rfl⟩, ⟨_, rfl, rfl⟩, trivial⟩ trivial trivial⟩
      · replace H := condF hc H
        refine WpC.exit ?_
        refine WpC.seq ?_
        refine WpC.regionL ?_
        refine L.assign hF rfl rfl rfl ?_
        refine L.nil ?_
        refine WpC.ret ?_
        cases H
        exact Leaves.ret rfl rfl rfl ⟨rfl, rfl⟩
/-! ### Fspec_l16Least -/
def Fspec_l16Least (k : Nat) (a0 : Int) (a1 : Int) : Option Int := cond (decide (a0 < a1)) (some a0) (some a1)
theorem ent284 : MG.Enters Try.prog 284 := ⟨Try.f284, Try.func284, rfl, by decide⟩
set_option maxHeartbeats 8000000 in
set_option maxRecDepth 100000 in
theorem Fspec_l16Least_gives (k : Nat) (a0 : Int) (a1 : Int) (r : Int) (H : Fspec_l16Least k a0 a1 = some r) : Gives Try.prog 284 [V.one (cI a0), V.one (cI a1)] [] [V.one (cI r)] [] := by
  refine Gives.intro Try.func284 rfl rfl rfl rfl ?_
  intro F hF hm
  unfold Fspec_l16Least at H
  obtain ⟨K, hK⟩ : ∃ K, k ≤ K := ⟨k, Nat.le_refl k⟩
  refine WpC.seq ?_
  refine WpC.regionL ?_
  refine L.assign hF rfl rfl rfl ?_
  refine L.nil ?_
  refine WpC.seq ?_
  refine WpC.seq ?_
  refine WpC.regionL ?_
  refine L.move hF rfl rfl rfl ?_
  refine L.move hF rfl rfl rfl ?_
  refine L.bin hF rfl rfl rfl rfl rfl rfl ?_
  refine L.nil ?_
  refine WpC.cond rfl (fun hc => ?_) (fun hc => ?_)
  · replace H := condT hc H
    refine WpC.seq ?_
    refine WpC.regionL ?_
    refine L.move hF rfl rfl rfl ?_
    refine L.assign hF rfl rfl rfl ?_
    refine L.nil ?_
    refine WpC.ret ?_
    cases H
    exact Leaves.ret rfl rfl rfl ⟨rfl, rfl⟩
  · replace H := condF hc H
    refine WpC.skip ?_
    refine WpC.seq ?_
    refine WpC.regionL ?_
    refine L.move hF rfl rfl rfl ?_
    refine L.assign hF rfl rfl rfl ?_
    refine L.nil ?_
    refine WpC.ret ?_
    cases H
    exact Leaves.ret rfl rfl rfl ⟨rfl, rfl⟩
/-! ### Fspec_l3Has -/
def Fspec_l3Has.l2 : Nat → (List Int) → Int → Int → Option Bool
  | 0, _, _, _ => none
  | k2 + 1, v24, v25, v26 => cond (decide (v26 < (v24.length : Int))) ((at? v24 v26).bind fun b28 => cond (b28 == v25) (some true) ((Fspec_l3Has.l2 k2) v24 v25 (IntKind.i64.wrap (v26 + (1 : Int))))) (some false)
def Fspec_l3Has (k : Nat) (a0 : List Int) (a1 : Int) : Option Bool := Fspec_l3Has.l2 k a0 a1 (0 : Int)
theorem ent257 : MG.Enters Try.prog 257 := ⟨Try.f257, Try.func257, rfl, by decide⟩
set_option maxHeartbeats 8000000 in
set_option maxRecDepth 100000 in
theorem Fspec_l3Has_gives (k : Nat) (g0 : Bool) (a0 : List Int) (a1 : Int) (r : Bool) (H : Fspec_l3Has k a0 a1 = some r) : Gives Try.prog 257 [V.one (Cell.sl g0 (List.map eI a0)), V.one (cI a1)] [] [V.one (cL r)] [] := by
  refine Gives.intro Try.func257 rfl rfl rfl rfl ?_
  intro F hF hm
  unfold Fspec_l3Has at H
  obtain ⟨K, hK⟩ : ∃ K, k ≤ K := ⟨k, Nat.le_refl k⟩
  refine WpC.seq ?_
  refine WpC.regionL ?_
  refine L.assign hF rfl rfl rfl ?_
  refine L.nil ?_
  refine WpC.seq ?_
  refine WpC.seq ?_
  refine WpC.regionL ?_
  refine L.assign hF rfl rfl rfl ?_
  refine L.nil ?_
  refine WpC.block ?_
  refine WpC.loopL (P := Try.prog) (fun n σ => ∃ v24 : List Int, ∃ v25 : Int, ∃ v26 : Int, n ≤ K ∧ Fspec_l3Has.l2 n v24 v25 v26 = some r ∧ σ = mkSt [(0, MG.one (Cell.sl g0 (List.map eI v24))), (1, MG.one (cI v25)), (5, MG.one (cI v26))] [] [] 0) k ⟨_, ⟨a0, a1, (0 : Int), by omega, H, rfl⟩, Le.mk [] hm rfl ⟨⟨_, rfl, rfl⟩, ⟨_, rfl, rfl⟩, ⟨_, rfl, rfl⟩, trivial⟩ trivial trivial⟩ ?_
  clear H
  rintro k2 _ ⟨v24, v25, v26, hk2, H, rfl⟩
  cases k2 with
  | zero => cases H
  | succ k2 =>
    rw [Fspec_l3Has.l2] at H
    refine WpC.seq ?_
    refine WpC.seq ?_
    refine WpC.regionL ?_
    refine L.move hF rfl rfl rfl ?_
    refine L.move hF rfl rfl rfl ?_
    refine L.lenR (xs := v24) (e := eI) Try.underlying24 hF rfl rfl rfl rfl ?_
    refine L.bin hF rfl rfl rfl rfl rfl rfl ?_
    refine L.nil ?_
    refine WpC.cond rfl (fun hc => ?_) (fun hc => ?_)
    · replace H := condT hc H
      refine WpC.skip ?_
      refine WpC.seq ?_
      refine WpC.block ?_
      refine WpC.seq ?_
      refine WpC.regionL ?_
      refine L.move hF rfl rfl rfl ?_
      refine L.move hF rfl rfl rfl ?_
      obtain ⟨b28, hb28, H⟩ := bindS H
      refine L.idxR (xs := v24) (e := eI) Try.underlying24 info3 hF rfl rfl rfl rfl rfl hb28 rfl rfl ?_
      refine L.loadPe shape3 hF rfl rfl rfl rfl rfl ?_
      refine L.move hF rfl rfl rfl ?_
      refine L.bin hF rfl rfl rfl rfl rfl rfl ?_
      refine L.nil ?_
      refine WpC.cond rfl (fun hc => ?_) (fun hc => ?_)
      · replace H := condT hc H
        refine WpC.seq ?_
        refine WpC.regionL ?_
        refine L.assign hF rfl rfl rfl ?_
        refine L.nil ?_
        refine WpC.ret ?_
        cases H
        exact Leaves.ret rfl rfl rfl ⟨rfl, rfl⟩
      · replace H := condF hc H
        refine WpC.skip ?_
        refine WpC.regionL ?_
        refine L.move hF rfl rfl rfl ?_
        refine L.bin hF rfl rfl rfl rfl rfl rfl ?_
        refine L.assign hF rfl rfl rfl ?_
        refine L.nil ?_
        exact ⟨k2, _, by omega, ⟨v24, v25, (IntKind.i64.wrap (v26 + (1 : Int))), by omega, H, rfl⟩, Le.mk [] hm rfl ⟨⟨_, rfl, rfl⟩, ⟨_, rfl, rfl⟩, ⟨_, rfl, rfl⟩, trivial⟩ trivial trivial⟩
    · replace H := condF hc H
      refine WpC.exit ?_
      refine WpC.seq ?_
      refine WpC.regionL ?_
      refine L.assign hF rfl rfl rfl ?_
      refine L.nil ?_
      refine WpC.ret ?_
      cases H
      exact Leaves.ret rfl rfl rfl ⟨rfl, rfl⟩
/-! ### Fspec_l17Meet -/
def Fspec_l17Meet.j19 (cl17 : Int → Int → (List Int) → Int → Int → (List Int) → Int → (List Int) → Option Timpl_Rule) (k : Nat) (v209 : Int) (v210 : Int) (v211 : List Int) (v212 : Int) (v213 : Int) (v214 : List Int) (v215 : Int) (v216 : List Int) : Option Timpl_Rule := cl17 (IntKind.i64.wrap (v209 + (1 : Int))) v210 v211 v212 v213 v214 v215 v216
def Fspec_l17Meet.j20 (cl17 : Int → Int → (List Int) → Int → Int → (List Int) → Int → (List Int) → Option Timpl_Rule) (k : Nat) (v219 : Int) (v220 : Bool) (v221 : Int) (v222 : List Int) (v223 : Int) (v224 : Int) (v225 : List Int) (v226 : Int) (v227 : List Int) : Option Timpl_Rule := cond v220 (cond (decide ((2 * (v227.length + ([v219] : List Int).length) + 192) * 8 ≤ 281474976710656)) (Fspec_l17Meet.j19 cl17 k v219 v221 v222 v223 v224 v225 v226 (v227 ++ ([v219] : List Int))) none) (Fspec_l17Meet.j19 cl17 k v219 v221 v222 v223 v224 v225 v226 v227)
def Fspec_l17Meet.l17 : Nat → Int → Int → (List Int) → Int → Int → (List Int) → Int → (List Int) → Option Timpl_Rule
  | 0, _, _, _, _, _, _, _, _ => none
  | k17 + 1, v189, v190, v191, v192, v193, v194, v195, v196 => cond (decide (v189 ≤ (30 : Int))) ((Fspec_l3Has k17 v191 v189).bind fun r217 => (Fspec_l3Has k17 v194 v189).bind fun r218 => cond r217 (cond r218 (Fspec_l17Meet.j20 (Fspec_l17Meet.l17 k17) k17 v189 true v190 v191 v192 v193 v194 v195 v196) (cond (v190 == (3 : Int)) (cond r217 (Fspec_l17Meet.j20 (Fspec_l17Meet.l17 k17) k17 v189 true v190 v191 v192 v193 v194 v195 v196) (Fspec_l17Meet.j20 (Fspec_l17Meet.l17 k17) k17 v189 r218 v190 v191 v192 v193 v194 v195 v196)) (Fspec_l17Meet.j20 (Fspec_l17Meet.l17 k17) k17 v189 false v190 v191 v192 v193 v194 v195 v196))) (cond (v190 == (3 : Int)) (cond r217 (Fspec_l17Meet.j20 (Fspec_l17Meet.l17 k17) k17 v189 true v190 v191 v192 v193 v194 v195 v196) (Fspec_l17Meet.j20 (Fspec_l17Meet.l17 k17) k17 v189 r218 v190 v191 v192 v193 v194 v195 v196)) (Fspec_l17Meet.j20 (Fspec_l17Meet.l17 k17) k17 v189 false v190 v191 v192 v193 v194 v195 v196))) (some (⟨v190, v196, (0 : Int)⟩ : Timpl_Rule))
def Fspec_l17Meet (k : Nat) (a0 : Timpl_Rule) (a1 : Timpl_Rule) : Option Timpl_Rule := cond (decide (a0.Kind ≥ (4 : Int))) ((Fspec_l16Least k a0.N a1.N).bind fun r2 => some (⟨a0.Kind, [], r2⟩ : Timpl_Rule)) (Fspec_l17Meet.l17 k (0 : Int) a0.Kind a0.Set a0.N a1.Kind a1.Set a1.N [])
theorem ent254 : MG.Enters Try.prog 254 := ⟨Try.f254, Try.func254, rfl, by decide⟩
set_option maxHeartbeats 8000000 in
set_option maxRecDepth 100000 in
theorem Fspec_l17Meet_gives (k : Nat) (g0 : Bool) (g1 : Bool) (a0 : Timpl_Rule) (a1 : Timpl_Rule) (r : Timpl_Rule) (H : Fspec_l17Meet k a0 a1 = some r) : Gives Try.prog 254 [V.agg [cI a0.Kind, Cell.sl g0 (List.map eI a0.Set), cI a0.N], V.agg [cI a1.Kind, Cell.sl g1 (List.map eI a1.Set), cI a1.N]] [] [V.agg [cI r.Kind, Cell.ow 1 (List.map eI r.Set), cI r.N]] [] := by
  refine Gives.intro Try.func254 rfl rfl rfl rfl ?_
  intro F hF hm
  unfold Fspec_l17Meet at H
  obtain ⟨K, hK⟩ : ∃ K, k ≤ K := ⟨k, Nat.le_refl k⟩
  refine WpC.seq ?_
  refine WpC.regionL ?_
  refine L.box 6 hF rfl rfl rfl rfl ?_
  refine L.box 7 hF rfl rfl rfl rfl ?_
  refine L.alloc 8 info162 rfl hF rfl rfl rfl rfl ?_
  refine L.nil ?_
  refine WpC.seq ?_
  refine WpC.regionL ?_
  refine L.fieldAddr Try.underlying162 rfl info3 rfl hF rfl rfl rfl rfl rfl ?_
  refine L.loadPtr shape3 hF rfl rfl rfl rfl rfl rfl ?_
  refine L.buildF built162 hF rfl rfl rfl rfl ?_
  refine L.alloc 9 info162 rfl hF rfl rfl rfl rfl ?_
  refine L.storePtr shape162 hF rfl rfl rfl rfl rfl rfl rfl ?_
  refine L.nil ?_
  refine WpC.seq ?_
  refine WpC.seq ?_
  refine WpC.regionL ?_
  refine L.fieldAddr Try.underlying162 rfl info3 rfl hF rfl rfl rfl rfl rfl ?_
  refine L.loadPtr shape3 hF rfl rfl rfl rfl rfl rfl ?_
  refine L.bin hF rfl rfl rfl rfl rfl rfl ?_
  refine L.nil ?_
  refine WpC.cond rfl (fun hc => ?_) (fun hc => ?_)
  · replace H := condT hc H
    refine WpC.seq ?_
    refine WpC.regionL ?_
    refine L.fieldAddr Try.underlying162 rfl info3 rfl hF rfl rfl rfl rfl rfl ?_
    refine L.loadPtr shape3 hF rfl rfl rfl rfl rfl rfl ?_
    refine L.fieldAddr Try.underlying162 rfl info3 rfl hF rfl rfl rfl rfl rfl ?_
    refine L.loadPtr shape3 hF rfl rfl rfl rfl rfl rfl ?_
    obtain ⟨r2, hr2, H⟩ := bindS H
    refine L.call [false, false] [] [] 10 hF rfl rfl rfl ent284 rfl rfl rfl rfl rfl (Fspec_l16Least_gives k  a0.N a1.N r2 hr2) rfl ?_
    refine L.fieldAddr Try.underlying162 rfl info3 rfl hF rfl rfl rfl rfl rfl ?_
    refine L.storePtr shape3 hF rfl rfl rfl rfl rfl rfl rfl ?_
    refine L.nil ?_
    refine WpC.seq ?_
    refine WpC.regionL ?_
    refine L.loadPtr shape162 hF rfl rfl rfl rfl rfl rfl ?_
    refine L.storePtr shape162 hF rfl rfl rfl rfl rfl rfl rfl ?_
    refine L.nil ?_
    refine WpC.le (Le.ownB 8 1 11 1 rfl rfl rfl) ?_
    refine WpC.ret ?_
    cases H
    exact Leaves.ret rfl rfl rfl ⟨rfl, rfl⟩
  · replace H := condF hc H
    refine WpC.skip ?_
    refine WpC.seq ?_
    refine WpC.seq ?_
    refine WpC.regionL ?_
    refine L.assign hF rfl rfl rfl ?_
    refine L.nil ?_
    refine WpC.block ?_
    refine WpC.loopL (P := Try.prog) (fun n σ => ∃ v189 : Int, ∃ v190 : Int, ∃ v191 : List Int, ∃ v192 : Int, ∃ v193 : Int, ∃ v194 : List Int, ∃ v195 : Int, ∃ v196 : List Int, n ≤ K ∧ Fspec_l17Meet.l17 n v189 v190 v191 v192 v193 v194 v195 v196 = some r ∧ σ = mkSt [(2, MG.one (Cell.ptr 0 0)), (3, MG.one (Cell.ptr 1 0)), (4, MG.one (Cell.ptr 2 0)), (5, MG.one (Cell.ptr 3 0)), (6, MG.one (cI v189))] [(4, ⟨1, List.map eI v196⟩)] [(0, [cI v190, Cell.sl g0 (List.map eI v191), cI v192]), (1, [cI v193, Cell.sl g1 (List.map eI v194), cI v195]), (2, [cI (0 : Int), Cell.nil, cI (0 : Int)]), (3, [cI v190, Cell.own 4, cI (0 : Int)])] 5) k ⟨_, ⟨(0 : Int), a0.Kind, a0.Set, a0.N, a1.Kind, a1.Set, a1.N, [], by omega, H, rfl⟩, (Le.ownB 9 1 10 1 rfl rfl rfl).trans (Le.mk [(0, 6), (1, 7), (2, 8), (3, 9), (4, 10)] hm rfl ⟨⟨_, rfl, rfl⟩, ⟨_, rfl, rfl⟩, ⟨_, rfl, rfl⟩, ⟨_, rfl, rfl⟩, ⟨_, rfl, rfl⟩, trivial⟩ ⟨⟨_, rfl, rfl⟩, trivial⟩ ⟨⟨_, _, rfl, rfl, rfl⟩, ⟨_, _, rfl, rfl, rfl⟩, ⟨_, _, rfl, rfl, rfl⟩, ⟨_, _, rfl, rfl, rfl⟩, trivial⟩)⟩ ?_
    clear H
    rintro k17 _ ⟨v189, v190, v191, v192, v193, v194, v195, v196, hk17, H, rfl⟩
    cases k17 with
    | zero => cases H
    | succ k17 =>
      rw [Fspec_l17Meet.l17] at H
      refine WpC.seq ?_
      refine WpC.seq ?_
      refine WpC.regionL ?_
      refine L.move hF rfl rfl rfl ?_
      refine L.bin hF rfl rfl rfl rfl rfl rfl ?_
      refine L.nil ?_
      refine WpC.cond rfl (fun hc => ?_) (fun hc => ?_)
      · replace H := condT hc H
        refine WpC.skip ?_
        refine WpC.join (fun σ => ∃ kj19 : Nat, ∃ v209 : Int, ∃ v210 : Int, ∃ v211 : List Int, ∃ v212 : Int, ∃ v213 : Int, ∃ v214 : List Int, ∃ v215 : Int, ∃ v216 : List Int, kj19 ≤ K ∧ Fspec_l17Meet.j19 (Fspec_l17Meet.l17 k17) kj19 v209 v210 v211 v212 v213 v214 v215 v216 = some r ∧ σ = mkSt [(2, MG.one (Cell.ptr 0 0)), (3, MG.one (Cell.ptr 1 0)), (4, MG.one (Cell.ptr 2 0)), (5, MG.one (Cell.ptr 3 0)), (6, MG.one (cI v209))] [(4, ⟨1, List.map eI v216⟩)] [(0, [cI v210, Cell.sl g0 (List.map eI v211), cI v212]), (1, [cI v213, Cell.sl g1 (List.map eI v214), cI v215]), (2, [cI (0 : Int), Cell.nil, cI (0 : Int)]), (3, [cI v210, Cell.own 4, cI (0 : Int)])] 5) ?_ ?_
        · rintro _ ⟨kj19, v209, v210, v211, v212, v213, v214, v215, v216, hkj19, H, rfl⟩
          unfold Fspec_l17Meet.j19 at H
          refine WpC.regionL ?_
          refine L.move hF rfl rfl rfl ?_
          refine L.bin hF rfl rfl rfl rfl rfl rfl ?_
          refine L.assign hF rfl rfl rfl ?_
          refine L.nil ?_
          exact ⟨k17, _, by omega, ⟨(IntKind.i64.wrap (v209 + (1 : Int))), v210, v211, v212, v213, v214, v215, v216, by omega, H, rfl⟩, Le.mk [(0, 0), (1, 1), (2, 2), (3, 3), (4, 4)] hm rfl ⟨⟨_, rfl, rfl⟩, ⟨_, rfl, rfl⟩, ⟨_, rfl, rfl⟩, ⟨_, rfl, rfl⟩, ⟨_, rfl, rfl⟩, trivial⟩ ⟨⟨_, rfl, rfl⟩, trivial⟩ ⟨⟨_, _, rfl, rfl, rfl⟩, ⟨_, _, rfl, rfl, rfl⟩, ⟨_, _, rfl, rfl, rfl⟩, ⟨_, _, rfl, rfl, rfl⟩, trivial⟩⟩
        · refine WpC.block ?_
          refine WpC.seq ?_
          refine WpC.regionL ?_
          refine L.fieldAddr Try.underlying162 rfl info24 rfl hF rfl rfl rfl rfl rfl ?_
          refine L.loadPtr shape24 hF rfl rfl rfl rfl rfl rfl ?_
          refine L.move hF rfl rfl rfl ?_
          obtain ⟨r217, hr217, H⟩ := bindS H
          refine L.call [false, false] [] [] 5 hF rfl rfl rfl ent257 rfl rfl rfl rfl rfl (Fspec_l3Has_gives k17 g0 v191 v189 r217 hr217) rfl ?_
          refine L.assign hF rfl rfl rfl ?_
          refine L.nil ?_
          refine WpC.seq ?_
          refine WpC.regionL ?_
          refine L.fieldAddr Try.underlying162 rfl info24 rfl hF rfl rfl rfl rfl rfl ?_
          refine L.loadPtr shape24 hF rfl rfl rfl rfl rfl rfl ?_
          refine L.move hF rfl rfl rfl ?_
          obtain ⟨r218, hr218, H⟩ := bindS H
          refine L.call [false, false] [] [] 6 hF rfl rfl rfl ent257 rfl rfl rfl rfl rfl (Fspec_l3Has_gives k17 g1 v194 v189 r218 hr218) rfl ?_
          refine L.assign hF rfl rfl rfl ?_
          refine L.nil ?_
          refine WpC.join (fun σ => ∃ kj20 : Nat, ∃ v219 : Int, ∃ v220 : Bool, ∃ v221 : Int, ∃ v222 : List Int, ∃ v223 : Int, ∃ v224 : Int, ∃ v225 : List Int, ∃ v226 : Int, ∃ v227 : List Int, kj20 ≤ K ∧ Fspec_l17Meet.j20 (Fspec_l17Meet.l17 k17) kj20 v219 v220 v221 v222 v223 v224 v225 v226 v227 = some r ∧ σ = mkSt [(2, MG.one (Cell.ptr 0 0)), (3, MG.one (Cell.ptr 1 0)), (4, MG.one (Cell.ptr 2 0)), (5, MG.one (Cell.ptr 3 0)), (6, MG.one (cI v219)), (48, MG.one (cL v220))] [(4, ⟨1, List.map eI v227⟩)] [(0, [cI v221, Cell.sl g0 (List.map eI v222), cI v223]), (1, [cI v224, Cell.sl g1 (List.map eI v225), cI v226]), (2, [cI (0 : Int), Cell.nil, cI (0 : Int)]), (3, [cI v221, Cell.own 4, cI (0 : Int)])] 5) ?_ ?_
          · rintro _ ⟨kj20, v219, v220, v221, v222, v223, v224, v225, v226, v227, hkj20, H, rfl⟩
            unfold Fspec_l17Meet.j20 at H
            refine WpC.cond rfl (fun hc => ?_) (fun hc => ?_)
            · replace H := condT hc H
              refine WpC.regionL ?_
              refine L.fieldAddr Try.underlying162 rfl info24 rfl hF rfl rfl rfl rfl rfl ?_
              refine L.loadPtr shape24 hF rfl rfl rfl rfl rfl rfl ?_
              refine L.move hF rfl rfl rfl ?_
              refine L.buildSlice (e := eI) 5 ([v219] : List Int) Try.underlying24 info3 rfl rfl rfl hF rfl rfl rfl rfl rfl rfl rfl rfl ?_
              obtain ⟨h228, H⟩ := condG H
              refine L.append (xs := v227) (ys := ([v219] : List Int)) (e := eI) 6 Try.underlying24 info3 rfl rfl hF rfl rfl rfl rfl rfl rfl rfl rfl (fun _ => rfl) (fun _ _ h1 h2 => by cases h1; cases h2; rfl) ⟨_, Try.underlying24⟩ (of_decide_eq_true h228) rfl rfl ?_
              refine L.fieldAddr Try.underlying162 rfl info24 rfl hF rfl rfl rfl rfl rfl ?_
              refine L.storePtr shape24 hF rfl rfl rfl rfl rfl rfl rfl ?_
              refine L.nil ?_
              exact ⟨_, ⟨kj20, v219, v221, v222, v223, v224, v225, v226, (v227 ++ ([v219] : List Int)), by omega, H, rfl⟩, Le.mk [(0, 0), (1, 1), (2, 2), (3, 3), (4, 6)] hm rfl ⟨⟨_, rfl, rfl⟩, ⟨_, rfl, rfl⟩, ⟨_, rfl, rfl⟩, ⟨_, rfl, rfl⟩, ⟨_, rfl, rfl⟩, trivial⟩ ⟨⟨_, rfl, rfl⟩, trivial⟩ ⟨⟨_, _, rfl, rfl, rfl⟩, ⟨_, _, rfl, rfl, rfl⟩, ⟨_, _, rfl, rfl, rfl⟩, ⟨_, _, rfl, rfl, rfl⟩, trivial⟩⟩
            · replace H := condF hc H
              refine WpC.skip ?_
              exact ⟨_, ⟨kj20, v219, v221, v222, v223, v224, v225, v226, v227, by omega, H, rfl⟩, Le.mk [(0, 0), (1, 1), (2, 2), (3, 3), (4, 4)] hm rfl ⟨⟨_, rfl, rfl⟩, ⟨_, rfl, rfl⟩, ⟨_, rfl, rfl⟩, ⟨_, rfl, rfl⟩, ⟨_, rfl, rfl⟩, trivial⟩ ⟨⟨_, rfl, rfl⟩, trivial⟩ ⟨⟨_, _, rfl, rfl, rfl⟩, ⟨_, _, rfl, rfl, rfl⟩, ⟨_, _, rfl, rfl, rfl⟩, ⟨_, _, rfl, rfl, rfl⟩, trivial⟩⟩
          · refine WpC.regionL ?_
            refine L.move hF rfl rfl rfl ?_
            refine L.move hF rfl rfl rfl ?_
            refine L.split (fun hc => ?_) (fun hc => ?_)
            · replace H := condT hc H
              refine L.move hF rfl rfl rfl ?_
              refine L.pick hF rfl rfl rfl rfl ?_
              refine L.move hF rfl rfl rfl ?_
              refine L.split (fun hc => ?_) (fun hc => ?_)
              · replace H := condT hc H
                refine L.off hF rfl rfl ?_
                refine L.off hF rfl rfl ?_
                refine L.off hF rfl rfl ?_
                refine L.off hF rfl rfl ?_
                refine L.off hF rfl rfl ?_
                refine L.off hF rfl rfl ?_
                refine L.off hF rfl rfl ?_
                refine L.off hF rfl rfl ?_
                refine L.off hF rfl rfl ?_
                refine L.pick hF rfl rfl rfl rfl ?_
                refine L.nil ?_
                exact ⟨_, ⟨k17, v189, true, v190, v191, v192, v193, v194, v195, v196, by omega, H, rfl⟩, Le.mk [(0, 0), (1, 1), (2, 2), (3, 3), (4, 4)] hm rfl ⟨⟨_, rfl, rfl⟩, ⟨_, rfl, rfl⟩, ⟨_, rfl, rfl⟩, ⟨_, rfl, rfl⟩, ⟨_, rfl, rfl⟩, ⟨_, rfl, rfl⟩, trivial⟩ ⟨⟨_, rfl, rfl⟩, trivial⟩ ⟨⟨_, _, rfl, rfl, rfl⟩, ⟨_, _, rfl, rfl, rfl⟩, ⟨_, _, rfl, rfl, rfl⟩, ⟨_, _, rfl, rfl, rfl⟩, trivial⟩⟩
              · replace H := condF hc H
                refine L.fieldAddr Try.underlying162 rfl info3 rfl hF rfl rfl rfl rfl rfl ?_
                refine L.loadPtr shape3 hF rfl rfl rfl rfl rfl rfl ?_
                refine L.bin hF rfl rfl rfl rfl rfl rfl ?_
                refine L.move hF rfl rfl rfl ?_
                refine L.split (fun hc => ?_) (fun hc => ?_)
                · replace H := condT hc H
                  refine L.move hF rfl rfl rfl ?_
                  refine L.move hF rfl rfl rfl ?_
                  refine L.split (fun hc => ?_) (fun hc => ?_)
                  · replace H := condT hc H
                    refine L.off hF rfl rfl ?_
                    refine L.pick hF rfl rfl rfl rfl ?_
                    refine L.pick hF rfl rfl rfl rfl ?_
                    refine L.pick hF rfl rfl rfl rfl ?_
                    refine L.nil ?_
                    exact ⟨_, ⟨k17, v189, true, v190, v191, v192, v193, v194, v195, v196, by omega, H, rfl⟩, Le.mk [(0, 0), (1, 1), (2, 2), (3, 3), (4, 4)] hm rfl ⟨⟨_, rfl, rfl⟩, ⟨_, rfl, rfl⟩, ⟨_, rfl, rfl⟩, ⟨_, rfl, rfl⟩, ⟨_, rfl, rfl⟩, ⟨_, rfl, rfl⟩, trivial⟩ ⟨⟨_, rfl, rfl⟩, trivial⟩ ⟨⟨_, _, rfl, rfl, rfl⟩, ⟨_, _, rfl, rfl, rfl⟩, ⟨_, _, rfl, rfl, rfl⟩, ⟨_, _, rfl, rfl, rfl⟩, trivial⟩⟩
                  · replace H := condF hc H
                    refine L.move hF rfl rfl rfl ?_
                    refine L.pick hF rfl rfl rfl rfl ?_
                    refine L.pick hF rfl rfl rfl rfl ?_
                    refine L.pick hF rfl rfl rfl rfl ?_
                    refine L.nil ?_
                    exact ⟨_, ⟨k17, v189, r218, v190, v191, v192, v193, v194, v195, v196, by omega, H, rfl⟩, Le.mk [(0, 0), (1, 1), (2, 2), (3, 3), (4, 4)] hm rfl ⟨⟨_, rfl, rfl⟩, ⟨_, rfl, rfl⟩, ⟨_, rfl, rfl⟩, ⟨_, rfl, rfl⟩, ⟨_, rfl, rfl⟩, ⟨_, rfl, rfl⟩, trivial⟩ ⟨⟨_, rfl, rfl⟩, trivial⟩ ⟨⟨_, _, rfl, rfl, rfl⟩, ⟨_, _, rfl, rfl, rfl⟩, ⟨_, _, rfl, rfl, rfl⟩, ⟨_, _, rfl, rfl, rfl⟩, trivial⟩⟩
                · replace H := condF hc H
                  refine L.off hF rfl rfl ?_
                  refine L.off hF rfl rfl ?_
                  refine L.off hF rfl rfl ?_
                  refine L.off hF rfl rfl ?_
                  refine L.pick hF rfl rfl rfl rfl ?_
                  refine L.pick hF rfl rfl rfl rfl ?_
                  refine L.nil ?_
                  exact ⟨_, ⟨k17, v189, false, v190, v191, v192, v193, v194, v195, v196, by omega, H, rfl⟩, Le.mk [(0, 0), (1, 1), (2, 2), (3, 3), (4, 4)] hm rfl ⟨⟨_, rfl, rfl⟩, ⟨_, rfl, rfl⟩, ⟨_, rfl, rfl⟩, ⟨_, rfl, rfl⟩, ⟨_, rfl, rfl⟩, ⟨_, rfl, rfl⟩, trivial⟩ ⟨⟨_, rfl, rfl⟩, trivial⟩ ⟨⟨_, _, rfl, rfl, rfl⟩, ⟨_, _, rfl, rfl, rfl⟩, ⟨_, _, rfl, rfl, rfl⟩, ⟨_, _, rfl, rfl, rfl⟩, trivial⟩⟩
            · replace H := condF hc H
              refine L.off hF rfl rfl ?_
              refine L.pick hF rfl rfl rfl rfl ?_
              refine L.move hF rfl rfl rfl ?_
              refine L.fieldAddr Try.underlying162 rfl info3 rfl hF rfl rfl rfl rfl rfl ?_
              refine L.loadPtr shape3 hF rfl rfl rfl rfl rfl rfl ?_
              refine L.bin hF rfl rfl rfl rfl rfl rfl ?_
              refine L.move hF rfl rfl rfl ?_
              refine L.split (fun hc => ?_) (fun hc => ?_)
              · replace H := condT hc H
                refine L.move hF rfl rfl rfl ?_
                refine L.move hF rfl rfl rfl ?_
                refine L.split (fun hc => ?_) (fun hc => ?_)
                · replace H := condT hc H
                  refine L.off hF rfl rfl ?_
                  refine L.pick hF rfl rfl rfl rfl ?_
                  refine L.pick hF rfl rfl rfl rfl ?_
                  refine L.pick hF rfl rfl rfl rfl ?_
                  refine L.nil ?_
                  exact ⟨_, ⟨k17, v189, true, v190, v191, v192, v193, v194, v195, v196, by omega, H, rfl⟩, Le.mk [(0, 0), (1, 1), (2, 2), (3, 3), (4, 4)] hm rfl ⟨⟨_, rfl, rfl⟩, ⟨_, rfl, rfl⟩, ⟨_, rfl, rfl⟩, ⟨_, rfl, rfl⟩, ⟨_, rfl, rfl⟩, ⟨_, rfl, rfl⟩, trivial⟩ ⟨⟨_, rfl, rfl⟩, trivial⟩ ⟨⟨_, _, rfl, rfl, rfl⟩, ⟨_, _, rfl, rfl, rfl⟩, ⟨_, _, rfl, rfl, rfl⟩, ⟨_, _, rfl, rfl, rfl⟩, trivial⟩⟩
                · replace H := condF hc H
                  refine L.move hF rfl rfl rfl ?_
                  refine L.pick hF rfl rfl rfl rfl ?_
                  refine L.pick hF rfl rfl rfl rfl ?_
                  refine L.pick hF rfl rfl rfl rfl ?_
                  refine L.nil ?_
                  exact ⟨_, ⟨k17, v189, r218, v190, v191, v192, v193, v194, v195, v196, by omega, H, rfl⟩, Le.mk [(0, 0), (1, 1), (2, 2), (3, 3), (4, 4)] hm rfl ⟨⟨_, rfl, rfl⟩, ⟨_, rfl, rfl⟩, ⟨_, rfl, rfl⟩, ⟨_, rfl, rfl⟩, ⟨_, rfl, rfl⟩, ⟨_, rfl, rfl⟩, trivial⟩ ⟨⟨_, rfl, rfl⟩, trivial⟩ ⟨⟨_, _, rfl, rfl, rfl⟩, ⟨_, _, rfl, rfl, rfl⟩, ⟨_, _, rfl, rfl, rfl⟩, ⟨_, _, rfl, rfl, rfl⟩, trivial⟩⟩
              · replace H := condF hc H
                refine L.off hF rfl rfl ?_
                refine L.off hF rfl rfl ?_
                refine L.off hF rfl rfl ?_
                refine L.off hF rfl rfl ?_
                refine L.pick hF rfl rfl rfl rfl ?_
                refine L.pick hF rfl rfl rfl rfl ?_
                refine L.nil ?_
                exact ⟨_, ⟨k17, v189, false, v190, v191, v192, v193, v194, v195, v196, by omega, H, rfl⟩, Le.mk [(0, 0), (1, 1), (2, 2), (3, 3), (4, 4)] hm rfl ⟨⟨_, rfl, rfl⟩, ⟨_, rfl, rfl⟩, ⟨_, rfl, rfl⟩, ⟨_, rfl, rfl⟩, ⟨_, rfl, rfl⟩, ⟨_, rfl, rfl⟩, trivial⟩ ⟨⟨_, rfl, rfl⟩, trivial⟩ ⟨⟨_, _, rfl, rfl, rfl⟩, ⟨_, _, rfl, rfl, rfl⟩, ⟨_, _, rfl, rfl, rfl⟩, ⟨_, _, rfl, rfl, rfl⟩, trivial⟩⟩
      · replace H := condF hc H
        refine WpC.exit ?_
        refine WpC.seq ?_
        refine WpC.regionL ?_
        refine L.loadPtr shape162 hF rfl rfl rfl rfl rfl rfl ?_
        refine L.storePtr shape162 hF rfl rfl rfl rfl rfl rfl rfl ?_
        refine L.nil ?_
        refine WpC.ret ?_
        cases H
        exact Leaves.ret rfl rfl rfl ⟨rfl, rfl⟩
/-! ### Fspec_l17Kind -/
def Fspec_l17Kind.j8 (cl7 : (List Timpl_Rule) → Int → Bool → Int → Int → (List Int) → Int → Option (Timpl_Rule × Bool)) (k : Nat) (v135 : List Timpl_Rule) (v136 : Int) (v137 : Bool) (v138 : Int) (v139 : Int) (v140 : List Int) (v141 : Int) : Option (Timpl_Rule × Bool) := cl7 v135 v136 v137 (IntKind.i64.wrap (v138 + (1 : Int))) v139 v140 v141
def Fspec_l17Kind.l7 : Nat → (List Timpl_Rule) → Int → Bool → Int → Int → (List Int) → Int → Option (Timpl_Rule × Bool)
  | 0, _, _, _, _, _, _, _ => none
  | k7 + 1, v121, v122, v123, v124, v125, v126, v127 => cond (decide (v124 < (v121.length : Int))) ((at? v121 v124).bind fun b143 => cond (b143.Kind != v122) (Fspec_l17Kind.j8 (Fspec_l17Kind.l7 k7) k7 v121 v122 v123 v124 v125 v126 v127) (cond v123 ((at? v121 v124).bind fun b144 => (Fspec_l17Meet k7 (⟨v125, v126, v127⟩ : Timpl_Rule) b144).bind fun r145 => Fspec_l17Kind.j8 (Fspec_l17Kind.l7 k7) k7 v121 v122 v123 v124 r145.Kind r145.Set r145.N) ((at? v121 v124).bind fun b146 => cond (decide ((2 * (([] : List Int).length + b146.Set.length) + 192) * 8 ≤ 281474976710656)) ((at? v121 v124).bind fun b148 => Fspec_l17Kind.j8 (Fspec_l17Kind.l7 k7) k7 v121 v122 true v124 v122 (([] : List Int) ++ b146.Set) b148.N) none))) (some ((⟨v125, v126, v127⟩ : Timpl_Rule), v123))
def Fspec_l17Kind (k : Nat) (a0 : List Timpl_Rule) (a1 : Int) : Option (Timpl_Rule × Bool) := Fspec_l17Kind.l7 k a0 a1 false (0 : Int) (0 : Int) [] (0 : Int)
theorem ent165 : MG.Enters Try.prog 165 := ⟨Try.f165, Try.func165, rfl, by decide⟩
set_option maxHeartbeats 8000000 in
set_option maxRecDepth 100000 in
theorem Fspec_l17Kind_gives (k : Nat) (g0 : Bool) (a0 : List Timpl_Rule) (a1 : Int) (r : Timpl_Rule × Bool) (H : Fspec_l17Kind k a0 a1 = some r) : Gives Try.prog 165 [V.one (Cell.sl g0 (List.map eTimpl_Rule a0)), V.one (cI a1)] [] [V.agg [cI r.1.Kind, Cell.ow 1 (List.map eI r.1.Set), cI r.1.N], V.one (cL r.2)] [] := by
  refine Gives.intro Try.func165 rfl rfl rfl rfl ?_
  intro F hF hm
  unfold Fspec_l17Kind at H
  obtain ⟨K, hK⟩ : ∃ K, k ≤ K := ⟨k, Nat.le_refl k⟩
  refine WpC.seq ?_
  refine WpC.regionL ?_
  refine L.alloc 2 info162 rfl hF rfl rfl rfl rfl ?_
  refine L.assign hF rfl rfl rfl ?_
  refine L.nil ?_
  refine WpC.seq ?_
  refine WpC.regionL ?_
  refine L.buildF built162 hF rfl rfl rfl rfl ?_
  refine L.alloc 3 info162 rfl hF rfl rfl rfl rfl ?_
  refine L.storePtr shape162 hF rfl rfl rfl rfl rfl rfl rfl ?_
  refine L.nil ?_
  refine WpC.seq ?_
  refine WpC.regionL ?_
  refine L.assign hF rfl rfl rfl ?_
  refine L.nil ?_
  refine WpC.seq ?_
  refine WpC.seq ?_
  refine WpC.regionL ?_
  refine L.assign hF rfl rfl rfl ?_
  refine L.nil ?_
  refine WpC.block ?_
  refine WpC.loopL (P := Try.prog) (fun n σ => ∃ v121 : List Timpl_Rule, ∃ v122 : Int, ∃ v123 : Bool, ∃ v124 : Int, ∃ v125 : Int, ∃ v126 : List Int, ∃ v127 : Int, n ≤ K ∧ Fspec_l17Kind.l7 n v121 v122 v123 v124 v125 v126 v127 = some r ∧ σ = mkSt [(0, MG.one (Cell.sl g0 (List.map eTimpl_Rule v121))), (1, MG.one (cI v122)), (4, MG.one (Cell.ptr 0 0)), (6, MG.one (Cell.ptr 1 0)), (7, MG.one (cL v123)), (8, MG.one (cI v124))] [(2, ⟨1, List.map eI v126⟩)] [(0, [cI (0 : Int), Cell.nil, cI (0 : Int)]), (1, [cI v125, Cell.own 2, cI v127])] 3) k ⟨_, ⟨a0, a1, false, (0 : Int), (0 : Int), [], (0 : Int), by omega, H, rfl⟩, (Le.ownB 3 1 4 1 rfl rfl rfl).trans (Le.mk [(0, 2), (1, 3), (2, 4)] hm rfl ⟨⟨_, rfl, rfl⟩, ⟨_, rfl, rfl⟩, ⟨_, rfl, rfl⟩, ⟨_, rfl, rfl⟩, ⟨_, rfl, rfl⟩, ⟨_, rfl, rfl⟩, trivial⟩ ⟨⟨_, rfl, rfl⟩, trivial⟩ ⟨⟨_, _, rfl, rfl, rfl⟩, ⟨_, _, rfl, rfl, rfl⟩, trivial⟩)⟩ ?_
  clear H
  rintro k7 _ ⟨v121, v122, v123, v124, v125, v126, v127, hk7, H, rfl⟩
  cases k7 with
  | zero => cases H
  | succ k7 =>
    rw [Fspec_l17Kind.l7] at H
    refine WpC.seq ?_
    refine WpC.seq ?_
    refine WpC.regionL ?_
    refine L.move hF rfl rfl rfl ?_
    refine L.move hF rfl rfl rfl ?_
    refine L.lenR (xs := v121) (e := eTimpl_Rule) Try.underlying44 hF rfl rfl rfl rfl ?_
    refine L.bin hF rfl rfl rfl rfl rfl rfl ?_
    refine L.nil ?_
    refine WpC.cond rfl (fun hc => ?_) (fun hc => ?_)
    · replace H := condT hc H
      refine WpC.skip ?_
      refine WpC.join (fun σ => ∃ kj8 : Nat, ∃ v135 : List Timpl_Rule, ∃ v136 : Int, ∃ v137 : Bool, ∃ v138 : Int, ∃ v139 : Int, ∃ v140 : List Int, ∃ v141 : Int, kj8 ≤ K ∧ Fspec_l17Kind.j8 (Fspec_l17Kind.l7 k7) kj8 v135 v136 v137 v138 v139 v140 v141 = some r ∧ σ = mkSt [(0, MG.one (Cell.sl g0 (List.map eTimpl_Rule v135))), (1, MG.one (cI v136)), (4, MG.one (Cell.ptr 0 0)), (6, MG.one (Cell.ptr 1 0)), (7, MG.one (cL v137)), (8, MG.one (cI v138))] [(2, ⟨1, List.map eI v140⟩)] [(0, [cI (0 : Int), Cell.nil, cI (0 : Int)]), (1, [cI v139, Cell.own 2, cI v141])] 3) ?_ ?_
      · rintro _ ⟨kj8, v135, v136, v137, v138, v139, v140, v141, hkj8, H, rfl⟩
        unfold Fspec_l17Kind.j8 at H
        refine WpC.regionL ?_
        refine L.move hF rfl rfl rfl ?_
        refine L.bin hF rfl rfl rfl rfl rfl rfl ?_
        refine L.assign hF rfl rfl rfl ?_
        refine L.nil ?_
        exact ⟨k7, _, by omega, ⟨v135, v136, v137, (IntKind.i64.wrap (v138 + (1 : Int))), v139, v140, v141, by omega, H, rfl⟩, Le.mk [(0, 0), (1, 1), (2, 2)] hm rfl ⟨⟨_, rfl, rfl⟩, ⟨_, rfl, rfl⟩, ⟨_, rfl, rfl⟩, ⟨_, rfl, rfl⟩, ⟨_, rfl, rfl⟩, ⟨_, rfl, rfl⟩, trivial⟩ ⟨⟨_, rfl, rfl⟩, trivial⟩ ⟨⟨_, _, rfl, rfl, rfl⟩, ⟨_, _, rfl, rfl, rfl⟩, trivial⟩⟩
      · refine WpC.block ?_
        refine WpC.seq ?_
        refine WpC.seq ?_
        refine WpC.regionL ?_
        refine L.move hF rfl rfl rfl ?_
        refine L.move hF rfl rfl rfl ?_
        obtain ⟨b143, hb143, H⟩ := bindS H
        refine L.idxR (xs := v121) (e := eTimpl_Rule) Try.underlying44 info162 hF rfl rfl rfl rfl rfl hb143 rfl rfl ?_
        refine L.fieldAddr Try.underlying162 rfl info3 rfl hF rfl rfl rfl rfl rfl ?_
        refine L.loadPe shape3 hF rfl rfl rfl rfl rfl ?_
        refine L.move hF rfl rfl rfl ?_
        refine L.bin hF rfl rfl rfl rfl rfl rfl ?_
        refine L.nil ?_
        refine WpC.cond rfl (fun hc => ?_) (fun hc => ?_)
        · replace H := condT hc H
          refine WpC.exit ?_
          exact ⟨_, ⟨k7, v121, v122, v123, v124, v125, v126, v127, by omega, H, rfl⟩, Le.mk [(0, 0), (1, 1), (2, 2)] hm rfl ⟨⟨_, rfl, rfl⟩, ⟨_, rfl, rfl⟩, ⟨_, rfl, rfl⟩, ⟨_, rfl, rfl⟩, ⟨_, rfl, rfl⟩, ⟨_, rfl, rfl⟩, trivial⟩ ⟨⟨_, rfl, rfl⟩, trivial⟩ ⟨⟨_, _, rfl, rfl, rfl⟩, ⟨_, _, rfl, rfl, rfl⟩, trivial⟩⟩
        · replace H := condF hc H
          refine WpC.skip ?_
          refine WpC.seq ?_
          refine WpC.regionL ?_
          refine L.move hF rfl rfl rfl ?_
          refine L.nil ?_
          refine WpC.cond rfl (fun hc => ?_) (fun hc => ?_)
          · replace H := condT hc H
            obtain ⟨b144, hb144, H⟩ := bindS H
            obtain ⟨r145, hr145, H⟩ := bindS H
            refine A.begin mixed rfl rfl ?_
            intro W hI hO
            have n31 : W 2 #[true, true, true, true, true, false, false] (mkSt [(0, MG.one (Cell.sl g0 (List.map eTimpl_Rule v121))), (1, MG.one (cI v122)), (4, MG.one (Cell.ptr 0 0)), (6, MG.one (Cell.ptr 1 0)), (7, MG.one (cL v123)), (8, MG.one (cI v124)), (24, agg [cI v125, Cell.own 2, cI v127]), (28, agg [cI b144.Kind, Cell.sl true (List.map eI b144.Set), cI b144.N])] [(2, ⟨1, List.map eI v126⟩)] [(0, [cI (0 : Int), Cell.nil, cI (0 : Int)]), (1, [cI v125, Cell.own 2, cI v127])] 3) := by
              refine hI _ _ _ ?_
              refine A.all [5] (by kernel_rfl) rfl ⟨⟨_, rfl, ?_⟩, trivial⟩
              refine L.call [false, false] [2] [] 3 hF rfl rfl rfl ent254 rfl rfl rfl rfl rfl (Fspec_l17Meet_gives k7 false true (⟨v125, v126, v127⟩ : Timpl_Rule) b144 r145 hr145) rfl ?_
              refine L.nil ?_
              refine A.all [6] (by kernel_rfl) rfl ⟨⟨_, rfl, ?_⟩, trivial⟩
              refine L.storePtr shape162 hF rfl rfl rfl rfl rfl rfl rfl ?_
              refine L.nil ?_
              refine A.le (τ := mkSt [(0, MG.one (Cell.sl g0 (List.map eTimpl_Rule v121))), (1, MG.one (cI v122)), (4, MG.one (Cell.ptr 0 0)), (6, MG.one (Cell.ptr 1 0)), (7, MG.one (cL v123)), (8, MG.one (cI v124))] [(2, ⟨1, List.map eI r145.Set⟩)] [(0, [cI (0 : Int), Cell.nil, cI (0 : Int)]), (1, [cI r145.Kind, Cell.own 2, cI r145.N])] 3) (Le.mk [(0, 0), (1, 1), (2, 4)] hm rfl ⟨⟨_, rfl, rfl⟩, ⟨_, rfl, rfl⟩, ⟨_, rfl, rfl⟩, ⟨_, rfl, rfl⟩, ⟨_, rfl, rfl⟩, ⟨_, rfl, rfl⟩, trivial⟩ ⟨⟨_, rfl, rfl⟩, trivial⟩ ⟨⟨_, _, rfl, rfl, rfl⟩, ⟨_, _, rfl, rfl, rfl⟩, trivial⟩) ?_
              refine A.done (by kernel_rfl) ?_
              exact ⟨_, ⟨k7, v121, v122, v123, v124, r145.Kind, r145.Set, r145.N, by omega, H, rfl⟩, Le.mk [(0, 0), (1, 1), (2, 2)] hm rfl ⟨⟨_, rfl, rfl⟩, ⟨_, rfl, rfl⟩, ⟨_, rfl, rfl⟩, ⟨_, rfl, rfl⟩, ⟨_, rfl, rfl⟩, ⟨_, rfl, rfl⟩, trivial⟩ ⟨⟨_, rfl, rfl⟩, trivial⟩ ⟨⟨_, _, rfl, rfl, rfl⟩, ⟨_, _, rfl, rfl, rfl⟩, trivial⟩⟩
            refine hI _ _ _ ?_
            refine A.take 1 rfl (by kernel_rfl) (by kernel_rfl) (by kernel_rfl) rfl (Ca.move) (fun Q0 k0 => L.move hF rfl rfl rfl (L.nil k0)) ?_
            refine A.take 2 rfl (by kernel_rfl) (by kernel_rfl) (by kernel_rfl) rfl (Ca.move) (fun Q0 k0 => L.move hF rfl rfl rfl (L.nil k0)) ?_
            refine A.take 3 rfl (by kernel_rfl) (by kernel_rfl) (by kernel_rfl) rfl (Ca.indexAddr) (fun Q0 k0 => L.idxR (xs := v121) (e := eTimpl_Rule) Try.underlying44 info162 hF rfl rfl rfl rfl rfl hb144 rfl rfl (L.nil k0)) ?_
            refine A.all [0, 4] (by kernel_rfl) rfl ⟨⟨_, rfl, ?_⟩, ⟨_, rfl, ?_⟩, trivial⟩
            · refine L.loadPtr shape162 hF rfl rfl rfl rfl rfl rfl ?_
              refine L.nil ?_
              refine A.all [4] (by kernel_rfl) rfl ⟨⟨_, rfl, ?_⟩, trivial⟩
              refine L.loadPe shape162 hF rfl rfl rfl rfl rfl ?_
              refine L.nil ?_
              exact A.on (hO _ _ _ n31) (Le.mk [(0, 0), (1, 1), (2, 2)] hm rfl ⟨⟨_, rfl, rfl⟩, ⟨_, rfl, rfl⟩, ⟨_, rfl, rfl⟩, ⟨_, rfl, rfl⟩, ⟨_, rfl, rfl⟩, ⟨_, rfl, rfl⟩, ⟨_, rfl, rfl⟩, ⟨_, rfl, rfl⟩, trivial⟩ ⟨⟨_, rfl, rfl⟩, trivial⟩ ⟨⟨_, _, rfl, rfl, rfl⟩, ⟨_, _, rfl, rfl, rfl⟩, trivial⟩)
            · refine L.loadPe shape162 hF rfl rfl rfl rfl rfl ?_
              refine L.nil ?_
              refine A.all [0] (by kernel_rfl) rfl ⟨⟨_, rfl, ?_⟩, trivial⟩
              refine L.loadPtr shape162 hF rfl rfl rfl rfl rfl rfl ?_
              refine L.nil ?_
              exact A.on (hO _ _ _ n31) (Le.mk [(0, 0), (1, 1), (2, 2)] hm rfl ⟨⟨_, rfl, rfl⟩, ⟨_, rfl, rfl⟩, ⟨_, rfl, rfl⟩, ⟨_, rfl, rfl⟩, ⟨_, rfl, rfl⟩, ⟨_, rfl, rfl⟩, ⟨_, rfl, rfl⟩, ⟨_, rfl, rfl⟩, trivial⟩ ⟨⟨_, rfl, rfl⟩, trivial⟩ ⟨⟨_, _, rfl, rfl, rfl⟩, ⟨_, _, rfl, rfl, rfl⟩, trivial⟩)
          · replace H := condF hc H
            refine WpC.seq ?_
            obtain ⟨b146, hb146, H⟩ := bindS H
            obtain ⟨h147, H⟩ := condG H
            obtain ⟨b148, hb148, H⟩ := bindS H
            refine A.begin mixed rfl rfl ?_
            intro W hI hO
            have n8191 : W 2 #[true, true, true, true, true, true, true, true, true, true, true, true, true, false, false] (mkSt [(0, MG.one (Cell.sl g0 (List.map eTimpl_Rule v121))), (1, MG.one (cI v122)), (4, MG.one (Cell.ptr 0 0)), (6, MG.one (Cell.ptr 1 0)), (8, MG.one (cI v124)), (30, MG.one (cI v122)), (37, MG.one (Cell.own 2)), (42, MG.one (cI b148.N))] [(2, ⟨1, List.map eI (([] : List Int) ++ b146.Set)⟩), (3, ⟨1, List.map eI v126⟩)] [(0, [cI (0 : Int), Cell.nil, cI (0 : Int)]), (1, [cI v125, Cell.own 3, cI v127])] 4) := by
              refine hI _ _ _ ?_
              refine A.take 13 rfl (by kernel_rfl) (by kernel_rfl) (by kernel_rfl) rfl (Ca.build rfl (by rw [built162]; rfl)) (fun Q0 k0 => L.buildF built162 hF rfl rfl rfl rfl (L.nil k0)) ?_
              refine A.all [14] (by kernel_rfl) rfl ⟨⟨_, rfl, ?_⟩, trivial⟩
              refine L.storePtr shape162 hF rfl rfl rfl rfl rfl rfl rfl ?_
              refine L.nil ?_
              refine A.le (τ := mkSt [(0, MG.one (Cell.sl g0 (List.map eTimpl_Rule v121))), (1, MG.one (cI v122)), (4, MG.one (Cell.ptr 0 0)), (6, MG.one (Cell.ptr 1 0)), (8, MG.one (cI v124))] [(2, ⟨1, List.map eI (([] : List Int) ++ b146.Set)⟩)] [(0, [cI (0 : Int), Cell.nil, cI (0 : Int)]), (1, [cI v122, Cell.own 2, cI b148.N])] 3) (Le.mk [(0, 0), (1, 1), (2, 2)] hm rfl ⟨⟨_, rfl, rfl⟩, ⟨_, rfl, rfl⟩, ⟨_, rfl, rfl⟩, ⟨_, rfl, rfl⟩, ⟨_, rfl, rfl⟩, trivial⟩ ⟨⟨_, rfl, rfl⟩, trivial⟩ ⟨⟨_, _, rfl, rfl, rfl⟩, ⟨_, _, rfl, rfl, rfl⟩, trivial⟩) ?_
              refine A.done (by kernel_rfl) ?_
              refine WpC.regionL ?_
              refine L.assign hF rfl rfl rfl ?_
              refine L.nil ?_
              exact ⟨_, ⟨k7, v121, v122, true, v124, v122, (([] : List Int) ++ b146.Set), b148.N, by omega, H, rfl⟩, Le.mk [(0, 0), (1, 1), (2, 2)] hm rfl ⟨⟨_, rfl, rfl⟩, ⟨_, rfl, rfl⟩, ⟨_, rfl, rfl⟩, ⟨_, rfl, rfl⟩, ⟨_, rfl, rfl⟩, ⟨_, rfl, rfl⟩, trivial⟩ ⟨⟨_, rfl, rfl⟩, trivial⟩ ⟨⟨_, _, rfl, rfl, rfl⟩, ⟨_, _, rfl, rfl, rfl⟩, trivial⟩⟩
            have n8063 : W 3 #[true, true, true, true, true, true, true, false, true, true, true, true, true, false, false] (mkSt [(0, MG.one (Cell.sl g0 (List.map eTimpl_Rule v121))), (1, MG.one (cI v122)), (4, MG.one (Cell.ptr 0 0)), (6, MG.one (Cell.ptr 1 0)), (8, MG.one (cI v124)), (30, MG.one (cI v122)), (31, MG.one (Cell.own 2)), (36, MG.one (Cell.sl true (List.map eI b146.Set))), (42, MG.one (cI b148.N))] [(2, ⟨1, List.map eI ([] : List Int)⟩), (3, ⟨1, List.map eI v126⟩)] [(0, [cI (0 : Int), Cell.nil, cI (0 : Int)]), (1, [cI v125, Cell.own 3, cI v127])] 4) := by
              refine hI _ _ _ ?_
              refine A.all [7] (by kernel_rfl) rfl ⟨⟨_, rfl, ?_⟩, trivial⟩
              refine L.append (xs := ([] : List Int)) (ys := b146.Set) (e := eI) 4 Try.underlying24 info3 rfl rfl hF rfl rfl rfl rfl rfl rfl rfl rfl (fun _ => rfl) (fun _ _ h1 h2 => by cases h1; cases h2; rfl) ⟨_, Try.underlying24⟩ (of_decide_eq_true h147) rfl rfl ?_
              refine L.nil ?_
              exact A.on (hO _ _ _ n8191) (Le.mk [(0, 0), (1, 1), (2, 4), (3, 3)] hm rfl ⟨⟨_, rfl, rfl⟩, ⟨_, rfl, rfl⟩, ⟨_, rfl, rfl⟩, ⟨_, rfl, rfl⟩, ⟨_, rfl, rfl⟩, ⟨_, rfl, rfl⟩, ⟨_, rfl, rfl⟩, ⟨_, rfl, rfl⟩, trivial⟩ ⟨⟨_, rfl, rfl⟩, ⟨_, rfl, rfl⟩, trivial⟩ ⟨⟨_, _, rfl, rfl, rfl⟩, ⟨_, _, rfl, rfl, rfl⟩, trivial⟩)
            have n7999 : W 4 #[true, true, true, true, true, true, false, false, true, true, true, true, true, false, false] (mkSt [(0, MG.one (Cell.sl g0 (List.map eTimpl_Rule v121))), (1, MG.one (cI v122)), (4, MG.one (Cell.ptr 0 0)), (6, MG.one (Cell.ptr 1 0)), (8, MG.one (cI v124)), (30, MG.one (cI v122)), (31, MG.one (Cell.own 2)), (35, MG.one (Cell.pe g0 (eTimpl_Rule b146) 1)), (42, MG.one (cI b148.N))] [(2, ⟨1, List.map eI ([] : List Int)⟩), (3, ⟨1, List.map eI v126⟩)] [(0, [cI (0 : Int), Cell.nil, cI (0 : Int)]), (1, [cI v125, Cell.own 3, cI v127])] 4) := by
              refine hI _ _ _ ?_
              refine A.all [6] (by kernel_rfl) rfl ⟨⟨_, rfl, ?_⟩, trivial⟩
              refine L.loadPe shape24 hF rfl rfl rfl rfl rfl ?_
              refine L.nil ?_
              exact A.on (hO _ _ _ n8063) (Le.mk [(0, 0), (1, 1), (2, 2), (3, 3)] hm rfl ⟨⟨_, rfl, rfl⟩, ⟨_, rfl, rfl⟩, ⟨_, rfl, rfl⟩, ⟨_, rfl, rfl⟩, ⟨_, rfl, rfl⟩, ⟨_, rfl, rfl⟩, ⟨_, rfl, rfl⟩, ⟨_, rfl, rfl⟩, ⟨_, rfl, rfl⟩, trivial⟩ ⟨⟨_, rfl, rfl⟩, ⟨_, rfl, rfl⟩, trivial⟩ ⟨⟨_, _, rfl, rfl, rfl⟩, ⟨_, _, rfl, rfl, rfl⟩, trivial⟩)
            have n3967 : W 4 #[true, true, true, true, true, true, true, false, true, true, true, true, false, false, false] (mkSt [(0, MG.one (Cell.sl g0 (List.map eTimpl_Rule v121))), (1, MG.one (cI v122)), (4, MG.one (Cell.ptr 0 0)), (6, MG.one (Cell.ptr 1 0)), (8, MG.one (cI v124)), (30, MG.one (cI v122)), (31, MG.one (Cell.own 2)), (36, MG.one (Cell.sl true (List.map eI b146.Set))), (41, MG.one (Cell.pe g0 (eTimpl_Rule b148) 2))] [(2, ⟨1, List.map eI ([] : List Int)⟩), (3, ⟨1, List.map eI v126⟩)] [(0, [cI (0 : Int), Cell.nil, cI (0 : Int)]), (1, [cI v125, Cell.own 3, cI v127])] 4) := by
              refine hI _ _ _ ?_
              refine A.all [7, 12] (by kernel_rfl) rfl ⟨⟨_, rfl, ?_⟩, ⟨_, rfl, ?_⟩, trivial⟩
              · refine L.append (xs := ([] : List Int)) (ys := b146.Set) (e := eI) 4 Try.underlying24 info3 rfl rfl hF rfl rfl rfl rfl rfl rfl rfl rfl (fun _ => rfl) (fun _ _ h1 h2 => by cases h1; cases h2; rfl) ⟨_, Try.underlying24⟩ (of_decide_eq_true h147) rfl rfl ?_
                refine L.nil ?_
                refine A.all [12] (by kernel_rfl) rfl ⟨⟨_, rfl, ?_⟩, trivial⟩
                refine L.loadPe shape3 hF rfl rfl rfl rfl rfl ?_
                refine L.nil ?_
                exact A.on (hO _ _ _ n8191) (Le.mk [(0, 0), (1, 1), (2, 4), (3, 3)] hm rfl ⟨⟨_, rfl, rfl⟩, ⟨_, rfl, rfl⟩, ⟨_, rfl, rfl⟩, ⟨_, rfl, rfl⟩, ⟨_, rfl, rfl⟩, ⟨_, rfl, rfl⟩, ⟨_, rfl, rfl⟩, ⟨_, rfl, rfl⟩, trivial⟩ ⟨⟨_, rfl, rfl⟩, ⟨_, rfl, rfl⟩, trivial⟩ ⟨⟨_, _, rfl, rfl, rfl⟩, ⟨_, _, rfl, rfl, rfl⟩, trivial⟩)
              · refine L.loadPe shape3 hF rfl rfl rfl rfl rfl ?_
                refine L.nil ?_
                exact A.on (hO _ _ _ n8063) (Le.mk [(0, 0), (1, 1), (2, 2), (3, 3)] hm rfl ⟨⟨_, rfl, rfl⟩, ⟨_, rfl, rfl⟩, ⟨_, rfl, rfl⟩, ⟨_, rfl, rfl⟩, ⟨_, rfl, rfl⟩, ⟨_, rfl, rfl⟩, ⟨_, rfl, rfl⟩, ⟨_, rfl, rfl⟩, ⟨_, rfl, rfl⟩, trivial⟩ ⟨⟨_, rfl, rfl⟩, ⟨_, rfl, rfl⟩, trivial⟩ ⟨⟨_, _, rfl, rfl, rfl⟩, ⟨_, _, rfl, rfl, rfl⟩, trivial⟩)
            have n8061 : W 4 #[true, false, true, true, true, true, true, false, true, true, true, true, true, false, false] (mkSt [(0, MG.one (Cell.sl g0 (List.map eTimpl_Rule v121))), (1, MG.one (cI v122)), (4, MG.one (Cell.ptr 0 0)), (6, MG.one (Cell.ptr 1 0)), (8, MG.one (cI v124)), (30, MG.one (cI v122)), (36, MG.one (Cell.sl true (List.map eI b146.Set))), (42, MG.one (cI b148.N))] [(2, ⟨1, List.map eI v126⟩)] [(0, [cI (0 : Int), Cell.nil, cI (0 : Int)]), (1, [cI v125, Cell.own 2, cI v127])] 3) := by
              refine hI _ _ _ ?_
              refine A.all [1] (by kernel_rfl) rfl ⟨⟨_, rfl, ?_⟩, trivial⟩
              refine L.buildSlice (e := eI) 3 ([] : List Int) Try.underlying24 info3 rfl rfl rfl hF rfl rfl rfl rfl rfl rfl rfl rfl ?_
              refine L.nil ?_
              exact A.on (hO _ _ _ n8063) (Le.mk [(0, 0), (1, 1), (2, 3), (3, 2)] hm rfl ⟨⟨_, rfl, rfl⟩, ⟨_, rfl, rfl⟩, ⟨_, rfl, rfl⟩, ⟨_, rfl, rfl⟩, ⟨_, rfl, rfl⟩, ⟨_, rfl, rfl⟩, ⟨_, rfl, rfl⟩, ⟨_, rfl, rfl⟩, ⟨_, rfl, rfl⟩, trivial⟩ ⟨⟨_, rfl, rfl⟩, ⟨_, rfl, rfl⟩, trivial⟩ ⟨⟨_, _, rfl, rfl, rfl⟩, ⟨_, _, rfl, rfl, rfl⟩, trivial⟩)
            refine hI _ _ _ ?_
            refine A.take 0 rfl (by kernel_rfl) (by kernel_rfl) (by kernel_rfl) rfl (Ca.move) (fun Q0 k0 => L.move hF rfl rfl rfl (L.nil k0)) ?_
            refine A.take 2 rfl (by kernel_rfl) (by kernel_rfl) (by kernel_rfl) rfl (Ca.move) (fun Q0 k0 => L.move hF rfl rfl rfl (L.nil k0)) ?_
            refine A.take 3 rfl (by kernel_rfl) (by kernel_rfl) (by kernel_rfl) rfl (Ca.move) (fun Q0 k0 => L.move hF rfl rfl rfl (L.nil k0)) ?_
            refine A.take 4 rfl (by kernel_rfl) (by kernel_rfl) (by kernel_rfl) rfl (Ca.indexAddr) (fun Q0 k0 => L.idxR (xs := v121) (e := eTimpl_Rule) Try.underlying44 info162 hF rfl rfl rfl rfl rfl hb146 rfl rfl (L.nil k0)) ?_
            refine A.take 5 rfl (by kernel_rfl) (by kernel_rfl) (by kernel_rfl) rfl (Ca.fieldAddr Try.underlying162 rfl info24 rfl) (fun Q0 k0 => L.fieldAddr Try.underlying162 rfl info24 rfl hF rfl rfl rfl rfl rfl (L.nil k0)) ?_
            refine A.take 8 rfl (by kernel_rfl) (by kernel_rfl) (by kernel_rfl) rfl (Ca.move) (fun Q0 k0 => L.move hF rfl rfl rfl (L.nil k0)) ?_
            refine A.take 9 rfl (by kernel_rfl) (by kernel_rfl) (by kernel_rfl) rfl (Ca.move) (fun Q0 k0 => L.move hF rfl rfl rfl (L.nil k0)) ?_
            refine A.take 10 rfl (by kernel_rfl) (by kernel_rfl) (by kernel_rfl) rfl (Ca.indexAddr) (fun Q0 k0 => L.idxR (xs := v121) (e := eTimpl_Rule) Try.underlying44 info162 hF rfl rfl rfl rfl rfl hb148 rfl rfl (L.nil k0)) ?_
            refine A.take 11 rfl (by kernel_rfl) (by kernel_rfl) (by kernel_rfl) rfl (Ca.fieldAddr Try.underlying162 rfl info3 rfl) (fun Q0 k0 => L.fieldAddr Try.underlying162 rfl info3 rfl hF rfl rfl rfl rfl rfl (L.nil k0)) ?_
            refine A.all [1, 6, 12] (by kernel_rfl) rfl ⟨⟨_, rfl, ?_⟩, ⟨_, rfl, ?_⟩, ⟨_, rfl, ?_⟩, trivial⟩
            · refine L.buildSlice (e := eI) 3 ([] : List Int) Try.underlying24 info3 rfl rfl rfl hF rfl rfl rfl rfl rfl rfl rfl rfl ?_
              refine L.nil ?_
              refine A.le (τ := mkSt [(0, MG.one (Cell.sl g0 (List.map eTimpl_Rule v121))), (1, MG.one (cI v122)), (4, MG.one (Cell.ptr 0 0)), (6, MG.one (Cell.ptr 1 0)), (8, MG.one (cI v124)), (30, MG.one (cI v122)), (31, MG.one (Cell.own 2)), (35, MG.one (Cell.pe g0 (eTimpl_Rule b146) 1)), (41, MG.one (Cell.pe g0 (eTimpl_Rule b148) 2))] [(2, ⟨1, List.map eI ([] : List Int)⟩), (3, ⟨1, List.map eI v126⟩)] [(0, [cI (0 : Int), Cell.nil, cI (0 : Int)]), (1, [cI v125, Cell.own 3, cI v127])] 4) (Le.mk [(0, 0), (1, 1), (2, 3), (3, 2)] hm rfl ⟨⟨_, rfl, rfl⟩, ⟨_, rfl, rfl⟩, ⟨_, rfl, rfl⟩, ⟨_, rfl, rfl⟩, ⟨_, rfl, rfl⟩, ⟨_, rfl, rfl⟩, ⟨_, rfl, rfl⟩, ⟨_, rfl, rfl⟩, ⟨_, rfl, rfl⟩, trivial⟩ ⟨⟨_, rfl, rfl⟩, ⟨_, rfl, rfl⟩, trivial⟩ ⟨⟨_, _, rfl, rfl, rfl⟩, ⟨_, _, rfl, rfl, rfl⟩, trivial⟩) ?_
              refine A.all [6, 12] (by kernel_rfl) rfl ⟨⟨_, rfl, ?_⟩, ⟨_, rfl, ?_⟩, trivial⟩
              · refine L.loadPe shape24 hF rfl rfl rfl rfl rfl ?_
                refine L.nil ?_
                exact A.on (hO _ _ _ n3967) (Le.mk [(0, 0), (1, 1), (2, 2), (3, 3)] hm rfl ⟨⟨_, rfl, rfl⟩, ⟨_, rfl, rfl⟩, ⟨_, rfl, rfl⟩, ⟨_, rfl, rfl⟩, ⟨_, rfl, rfl⟩, ⟨_, rfl, rfl⟩, ⟨_, rfl, rfl⟩, ⟨_, rfl, rfl⟩, ⟨_, rfl, rfl⟩, trivial⟩ ⟨⟨_, rfl, rfl⟩, ⟨_, rfl, rfl⟩, trivial⟩ ⟨⟨_, _, rfl, rfl, rfl⟩, ⟨_, _, rfl, rfl, rfl⟩, trivial⟩)
              · refine L.loadPe shape3 hF rfl rfl rfl rfl rfl ?_
                refine L.nil ?_
                exact A.on (hO _ _ _ n7999) (Le.mk [(0, 0), (1, 1), (2, 2), (3, 3)] hm rfl ⟨⟨_, rfl, rfl⟩, ⟨_, rfl, rfl⟩, ⟨_, rfl, rfl⟩, ⟨_, rfl, rfl⟩, ⟨_, rfl, rfl⟩, ⟨_, rfl, rfl⟩, ⟨_, rfl, rfl⟩, ⟨_, rfl, rfl⟩, ⟨_, rfl, rfl⟩, trivial⟩ ⟨⟨_, rfl, rfl⟩, ⟨_, rfl, rfl⟩, trivial⟩ ⟨⟨_, _, rfl, rfl, rfl⟩, ⟨_, _, rfl, rfl, rfl⟩, trivial⟩)
            · refine L.loadPe shape24 hF rfl rfl rfl rfl rfl ?_
              refine L.nil ?_
              refine A.le (τ := mkSt [(0, MG.one (Cell.sl g0 (List.map eTimpl_Rule v121))), (1, MG.one (cI v122)), (4, MG.one (Cell.ptr 0 0)), (6, MG.one (Cell.ptr 1 0)), (8, MG.one (cI v124)), (30, MG.one (cI v122)), (36, MG.one (Cell.sl true (List.map eI b146.Set))), (41, MG.one (Cell.pe g0 (eTimpl_Rule b148) 2))] [(2, ⟨1, List.map eI v126⟩)] [(0, [cI (0 : Int), Cell.nil, cI (0 : Int)]), (1, [cI v125, Cell.own 2, cI v127])] 3) (Le.mk [(0, 0), (1, 1), (2, 2)] hm rfl ⟨⟨_, rfl, rfl⟩, ⟨_, rfl, rfl⟩, ⟨_, rfl, rfl⟩, ⟨_, rfl, rfl⟩, ⟨_, rfl, rfl⟩, ⟨_, rfl, rfl⟩, ⟨_, rfl, rfl⟩, ⟨_, rfl, rfl⟩, trivial⟩ ⟨⟨_, rfl, rfl⟩, trivial⟩ ⟨⟨_, _, rfl, rfl, rfl⟩, ⟨_, _, rfl, rfl, rfl⟩, trivial⟩) ?_
              refine A.all [1, 12] (by kernel_rfl) rfl ⟨⟨_, rfl, ?_⟩, ⟨_, rfl, ?_⟩, trivial⟩
              · refine L.buildSlice (e := eI) 3 ([] : List Int) Try.underlying24 info3 rfl rfl rfl hF rfl rfl rfl rfl rfl rfl rfl rfl ?_
                refine L.nil ?_
                exact A.on (hO _ _ _ n3967) (Le.mk [(0, 0), (1, 1), (2, 3), (3, 2)] hm rfl ⟨⟨_, rfl, rfl⟩, ⟨_, rfl, rfl⟩, ⟨_, rfl, rfl⟩, ⟨_, rfl, rfl⟩, ⟨_, rfl, rfl⟩, ⟨_, rfl, rfl⟩, ⟨_, rfl, rfl⟩, ⟨_, rfl, rfl⟩, ⟨_, rfl, rfl⟩, trivial⟩ ⟨⟨_, rfl, rfl⟩, ⟨_, rfl, rfl⟩, trivial⟩ ⟨⟨_, _, rfl, rfl, rfl⟩, ⟨_, _, rfl, rfl, rfl⟩, trivial⟩)
              · refine L.loadPe shape3 hF rfl rfl rfl rfl rfl ?_
                refine L.nil ?_
                exact A.on (hO _ _ _ n8061) (Le.mk [(0, 0), (1, 1), (2, 2)] hm rfl ⟨⟨_, rfl, rfl⟩, ⟨_, rfl, rfl⟩, ⟨_, rfl, rfl⟩, ⟨_, rfl, rfl⟩, ⟨_, rfl, rfl⟩, ⟨_, rfl, rfl⟩, ⟨_, rfl, rfl⟩, ⟨_, rfl, rfl⟩, trivial⟩ ⟨⟨_, rfl, rfl⟩, trivial⟩ ⟨⟨_, _, rfl, rfl, rfl⟩, ⟨_, _, rfl, rfl, rfl⟩, trivial⟩)
            · refine L.loadPe shape3 hF rfl rfl rfl rfl rfl ?_
              refine L.nil ?_
              refine A.le (τ := mkSt [(0, MG.one (Cell.sl g0 (List.map eTimpl_Rule v121))), (1, MG.one (cI v122)), (4, MG.one (Cell.ptr 0 0)), (6, MG.one (Cell.ptr 1 0)), (8, MG.one (cI v124)), (30, MG.one (cI v122)), (35, MG.one (Cell.pe g0 (eTimpl_Rule b146) 1)), (42, MG.one (cI b148.N))] [(2, ⟨1, List.map eI v126⟩)] [(0, [cI (0 : Int), Cell.nil, cI (0 : Int)]), (1, [cI v125, Cell.own 2, cI v127])] 3) (Le.mk [(0, 0), (1, 1), (2, 2)] hm rfl ⟨⟨_, rfl, rfl⟩, ⟨_, rfl, rfl⟩, ⟨_, rfl, rfl⟩, ⟨_, rfl, rfl⟩, ⟨_, rfl, rfl⟩, ⟨_, rfl, rfl⟩, ⟨_, rfl, rfl⟩, ⟨_, rfl, rfl⟩, trivial⟩ ⟨⟨_, rfl, rfl⟩, trivial⟩ ⟨⟨_, _, rfl, rfl, rfl⟩, ⟨_, _, rfl, rfl, rfl⟩, trivial⟩) ?_
              refine A.all [1, 6] (by kernel_rfl) rfl ⟨⟨_, rfl, ?_⟩, ⟨_, rfl, ?_⟩, trivial⟩
              · refine L.buildSlice (e := eI) 3 ([] : List Int) Try.underlying24 info3 rfl rfl rfl hF rfl rfl rfl rfl rfl rfl rfl rfl ?_
                refine L.nil ?_
                exact A.on (hO _ _ _ n7999) (Le.mk [(0, 0), (1, 1), (2, 3), (3, 2)] hm rfl ⟨⟨_, rfl, rfl⟩, ⟨_, rfl, rfl⟩, ⟨_, rfl, rfl⟩, ⟨_, rfl, rfl⟩, ⟨_, rfl, rfl⟩, ⟨_, rfl, rfl⟩, ⟨_, rfl, rfl⟩, ⟨_, rfl, rfl⟩, ⟨_, rfl, rfl⟩, trivial⟩ ⟨⟨_, rfl, rfl⟩, ⟨_, rfl, rfl⟩, trivial⟩ ⟨⟨_, _, rfl, rfl, rfl⟩, ⟨_, _, rfl, rfl, rfl⟩, trivial⟩)
              · refine L.loadPe shape24 hF rfl rfl rfl rfl rfl ?_
                refine L.nil ?_
                exact A.on (hO _ _ _ n8061) (Le.mk [(0, 0), (1, 1), (2, 2)] hm rfl ⟨⟨_, rfl, rfl⟩, ⟨_, rfl, rfl⟩, ⟨_, rfl, rfl⟩, ⟨_, rfl, rfl⟩, ⟨_, rfl, rfl⟩, ⟨_, rfl, rfl⟩, ⟨_, rfl, rfl⟩, ⟨_, rfl, rfl⟩, trivial⟩ ⟨⟨_, rfl, rfl⟩, trivial⟩ ⟨⟨_, _, rfl, rfl, rfl⟩, ⟨_, _, rfl, rfl, rfl⟩, trivial⟩)
    · replace H := condF hc H
      refine WpC.exit ?_
      refine WpC.seq ?_
      refine WpC.regionL ?_
      refine L.loadPtr shape162 hF rfl rfl rfl rfl rfl rfl ?_
      refine L.move hF rfl rfl rfl ?_
      refine L.storePtr shape162 hF rfl rfl rfl rfl rfl rfl rfl ?_
      refine L.assign hF rfl rfl rfl ?_
      refine L.nil ?_
      refine WpC.ret ?_
      cases H
      exact Leaves.ret rfl rfl rfl ⟨rfl, rfl⟩
/-! ### Fspec_l17Nothing -/
def Fspec_l17Nothing.j8 (cl7 : (List Timpl_Rule) → Int → Option Bool) (k : Nat) (v30 : List Timpl_Rule) (v31 : Int) : Option Bool := cl7 v30 (IntKind.i64.wrap (v31 + (1 : Int)))
def Fspec_l17Nothing.l7 : Nat → (List Timpl_Rule) → Int → Option Bool
  | 0, _, _ => none
  | k7 + 1, v27, v28 => cond (decide (v28 ≤ (5 : Int))) ((Fspec_l17Kind k7 v27 v28).bind fun r32 => cond r32.2 (cond (decide (v28 ≤ (2 : Int))) (cond ((r32.1.Set.length : Int) == (0 : Int)) (some true) (cond (v28 == (5 : Int)) (cond (r32.1.N == (0 : Int)) (some true) (Fspec_l17Nothing.j8 (Fspec_l17Nothing.l7 k7) k7 v27 v28)) (Fspec_l17Nothing.j8 (Fspec_l17Nothing.l7 k7) k7 v27 v28))) (cond (v28 == (5 : Int)) (cond (r32.1.N == (0 : Int)) (some true) (Fspec_l17Nothing.j8 (Fspec_l17Nothing.l7 k7) k7 v27 v28)) (Fspec_l17Nothing.j8 (Fspec_l17Nothing.l7 k7) k7 v27 v28))) (Fspec_l17Nothing.j8 (Fspec_l17Nothing.l7 k7) k7 v27 v28)) (some false)
def Fspec_l17Nothing (k : Nat) (a0 : List Timpl_Rule) : Option Bool := Fspec_l17Nothing.l7 k a0 (1 : Int)
theorem ent168 : MG.Enters Try.prog 168 := ⟨Try.f168, Try.func168, rfl, by decide⟩
set_option maxHeartbeats 8000000 in
set_option maxRecDepth 100000 in
theorem Fspec_l17Nothing_gives (k : Nat) (g0 : Bool) (a0 : List Timpl_Rule) (r : Bool) (H : Fspec_l17Nothing k a0 = some r) : Gives Try.prog 168 [V.one (Cell.sl g0 (List.map eTimpl_Rule a0))] [] [V.one (cL r)] [] := by
  refine Gives.intro Try.func168 rfl rfl rfl rfl ?_
  intro F hF hm
  unfold Fspec_l17Nothing at H
  obtain ⟨K, hK⟩ : ∃ K, k ≤ K := ⟨k, Nat.le_refl k⟩
  refine WpC.seq ?_
  refine WpC.regionL ?_
  refine L.assign hF rfl rfl rfl ?_
  refine L.nil ?_
  refine WpC.seq ?_
  refine WpC.seq ?_
  refine WpC.regionL ?_
  refine L.assign hF rfl rfl rfl ?_
  refine L.nil ?_
  refine WpC.block ?_
  refine WpC.loopL (P := Try.prog) (fun n σ => ∃ v27 : List Timpl_Rule, ∃ v28 : Int, n ≤ K ∧ Fspec_l17Nothing.l7 n v27 v28 = some r ∧ σ = mkSt [(0, MG.one (Cell.sl g0 (List.map eTimpl_Rule v27))), (3, MG.one (cI v28))] [] [] 0) k ⟨_, ⟨a0, (1 : Int), by omega, H, rfl⟩, Le.mk [] hm rfl ⟨⟨_, rfl, rfl⟩, ⟨_, rfl, rfl⟩, trivial⟩ trivial trivial⟩ ?_
  clear H
  rintro k7 _ ⟨v27, v28, hk7, H, rfl⟩
  cases k7 with
  | zero => cases H
  | succ k7 =>
    rw [Fspec_l17Nothing.l7] at H
    refine WpC.seq ?_
    refine WpC.seq ?_
    refine WpC.regionL ?_
    refine L.move hF rfl rfl rfl ?_
    refine L.bin hF rfl rfl rfl rfl rfl rfl ?_
    refine L.nil ?_
    refine WpC.cond rfl (fun hc => ?_) (fun hc => ?_)
    · replace H := condT hc H
      refine WpC.skip ?_
      refine WpC.join (fun σ => ∃ kj8 : Nat, ∃ v30 : List Timpl_Rule, ∃ v31 : Int, kj8 ≤ K ∧ Fspec_l17Nothing.j8 (Fspec_l17Nothing.l7 k7) kj8 v30 v31 = some r ∧ σ = mkSt [(0, MG.one (Cell.sl g0 (List.map eTimpl_Rule v30))), (3, MG.one (cI v31))] [] [] 0) ?_ ?_
      · rintro _ ⟨kj8, v30, v31, hkj8, H, rfl⟩
        unfold Fspec_l17Nothing.j8 at H
        refine WpC.regionL ?_
        refine L.move hF rfl rfl rfl ?_
        refine L.bin hF rfl rfl rfl rfl rfl rfl ?_
        refine L.assign hF rfl rfl rfl ?_
        refine L.nil ?_
        exact ⟨k7, _, by omega, ⟨v30, (IntKind.i64.wrap (v31 + (1 : Int))), by omega, H, rfl⟩, Le.mk [] hm rfl ⟨⟨_, rfl, rfl⟩, ⟨_, rfl, rfl⟩, trivial⟩ trivial trivial⟩
      · refine WpC.block ?_
        refine WpC.seq ?_
        refine WpC.regionL ?_
        refine L.move hF rfl rfl rfl ?_
        refine L.move hF rfl rfl rfl ?_
        obtain ⟨r32, hr32, H⟩ := bindS H
        refine L.call [false, false] [] [] 0 hF rfl rfl rfl ent165 rfl rfl rfl rfl rfl (Fspec_l17Kind_gives k7 g0 v27 v28 r32 hr32) rfl ?_
        refine L.move hF rfl rfl rfl ?_
        refine L.extract hF rfl rfl rfl rfl ?_
        refine L.extract hF rfl rfl rfl rfl ?_
        refine L.alloc 4 info162 rfl hF rfl rfl rfl rfl ?_
        refine L.storePtr shape162 hF rfl rfl rfl rfl rfl rfl rfl ?_
        refine L.assign hF rfl rfl rfl ?_
        refine L.nil ?_
        refine WpC.seq ?_
        refine WpC.regionL ?_
        refine L.move hF rfl rfl rfl ?_
        refine L.move hF rfl rfl rfl ?_
        refine L.split (fun hc => ?_) (fun hc => ?_)
        · replace H := condT hc H
          refine L.move hF rfl rfl rfl ?_
          refine L.bin hF rfl rfl rfl rfl rfl rfl ?_
          refine L.move hF rfl rfl rfl ?_
          refine L.split (fun hc => ?_) (fun hc => ?_)
          · replace H := condT hc H
            refine L.fieldAddr Try.underlying162 rfl info24 rfl hF rfl rfl rfl rfl rfl ?_
            refine L.loadPtr shape24 hF rfl rfl rfl rfl rfl rfl ?_
            refine L.lenR (xs := r32.1.Set) (e := eI) Try.underlying24 hF rfl rfl rfl rfl ?_
            refine L.bin hF rfl rfl rfl rfl rfl rfl ?_
            refine L.pick hF rfl rfl rfl rfl ?_
            refine L.move hF rfl rfl rfl ?_
            refine L.split (fun hc => ?_) (fun hc => ?_)
            · replace H := condT hc H
              refine L.off hF rfl rfl ?_
              refine L.off hF rfl rfl ?_
              refine L.off hF rfl rfl ?_
              refine L.off hF rfl rfl ?_
              refine L.off hF rfl rfl ?_
              refine L.off hF rfl rfl ?_
              refine L.off hF rfl rfl ?_
              refine L.pick hF rfl rfl rfl rfl ?_
              refine L.pick hF rfl rfl rfl rfl ?_
              refine L.nil ?_
              refine WpC.cond rfl (fun _ => ?_) (fun hc => by cases hc)
              refine WpC.seq ?_
              refine WpC.regionL ?_
              refine L.assign hF rfl rfl rfl ?_
              refine L.nil ?_
              refine WpC.ret ?_
              cases H
              exact Leaves.ret rfl rfl rfl ⟨rfl, rfl⟩
            · replace H := condF hc H
              refine L.move hF rfl rfl rfl ?_
              refine L.bin hF rfl rfl rfl rfl rfl rfl ?_
              refine L.move hF rfl rfl rfl ?_
              refine L.split (fun hc => ?_) (fun hc => ?_)
              · replace H := condT hc H
                refine L.fieldAddr Try.underlying162 rfl info3 rfl hF rfl rfl rfl rfl rfl ?_
                refine L.loadPtr shape3 hF rfl rfl rfl rfl rfl rfl ?_
                refine L.bin hF rfl rfl rfl rfl rfl rfl ?_
                refine L.pick hF rfl rfl rfl rfl ?_
                refine L.pick hF rfl rfl rfl rfl ?_
                refine L.pick hF rfl rfl rfl rfl ?_
                refine L.nil ?_
                refine WpC.cond rfl (fun hc => ?_) (fun hc => ?_)
                · replace H := condT hc H
                  refine WpC.seq ?_
                  refine WpC.regionL ?_
                  refine L.assign hF rfl rfl rfl ?_
                  refine L.nil ?_
                  refine WpC.ret ?_
                  cases H
                  exact Leaves.ret rfl rfl rfl ⟨rfl, rfl⟩
                · replace H := condF hc H
                  refine WpC.skip ?_
                  exact ⟨_, ⟨k7, v27, v28, by omega, H, rfl⟩, Le.mk [] hm rfl ⟨⟨_, rfl, rfl⟩, ⟨_, rfl, rfl⟩, trivial⟩ trivial trivial⟩
              · replace H := condF hc H
                refine L.off hF rfl rfl ?_
                refine L.off hF rfl rfl ?_
                refine L.off hF rfl rfl ?_
                refine L.pick hF rfl rfl rfl rfl ?_
                refine L.pick hF rfl rfl rfl rfl ?_
                refine L.pick hF rfl rfl rfl rfl ?_
                refine L.nil ?_
                refine WpC.cond rfl (fun hc => by cases hc) (fun _ => ?_)
                refine WpC.skip ?_
                exact ⟨_, ⟨k7, v27, v28, by omega, H, rfl⟩, Le.mk [] hm rfl ⟨⟨_, rfl, rfl⟩, ⟨_, rfl, rfl⟩, trivial⟩ trivial trivial⟩
          · replace H := condF hc H
            refine L.off hF rfl rfl ?_
            refine L.off hF rfl rfl ?_
            refine L.off hF rfl rfl ?_
            refine L.off hF rfl rfl ?_
            refine L.pick hF rfl rfl rfl rfl ?_
            refine L.move hF rfl rfl rfl ?_
            refine L.move hF rfl rfl rfl ?_
            refine L.bin hF rfl rfl rfl rfl rfl rfl ?_
            refine L.move hF rfl rfl rfl ?_
            refine L.split (fun hc => ?_) (fun hc => ?_)
            · replace H := condT hc H
              refine L.fieldAddr Try.underlying162 rfl info3 rfl hF rfl rfl rfl rfl rfl ?_
              refine L.loadPtr shape3 hF rfl rfl rfl rfl rfl rfl ?_
              refine L.bin hF rfl rfl rfl rfl rfl rfl ?_
              refine L.pick hF rfl rfl rfl rfl ?_
              refine L.pick hF rfl rfl rfl rfl ?_
              refine L.pick hF rfl rfl rfl rfl ?_
              refine L.nil ?_
              refine WpC.cond rfl (fun hc => ?_) (fun hc => ?_)
              · replace H := condT hc H
                refine WpC.seq ?_
                refine WpC.regionL ?_
                refine L.assign hF rfl rfl rfl ?_
                refine L.nil ?_
                refine WpC.ret ?_
                cases H
                exact Leaves.ret rfl rfl rfl ⟨rfl, rfl⟩
              · replace H := condF hc H
                refine WpC.skip ?_
                exact ⟨_, ⟨k7, v27, v28, by omega, H, rfl⟩, Le.mk [] hm rfl ⟨⟨_, rfl, rfl⟩, ⟨_, rfl, rfl⟩, trivial⟩ trivial trivial⟩
            · replace H := condF hc H
              refine L.off hF rfl rfl ?_
              refine L.off hF rfl rfl ?_
              refine L.off hF rfl rfl ?_
              refine L.pick hF rfl rfl rfl rfl ?_
              refine L.pick hF rfl rfl rfl rfl ?_
              refine L.pick hF rfl rfl rfl rfl ?_
              refine L.nil ?_
              refine WpC.cond rfl (fun hc => by cases hc) (fun _ => ?_)
              refine WpC.skip ?_
              exact ⟨_, ⟨k7, v27, v28, by omega, H, rfl⟩, Le.mk [] hm rfl ⟨⟨_, rfl, rfl⟩, ⟨_, rfl, rfl⟩, trivial⟩ trivial trivial⟩
        · replace H := condF hc H
          refine L.off hF rfl rfl ?_
          refine L.off hF rfl rfl ?_
          refine L.off hF rfl rfl ?_
          refine L.off hF rfl rfl ?_
          refine L.off hF rfl rfl ?_
          refine L.off hF rfl rfl ?_
          refine L.off hF rfl rfl ?_
          refine L.off hF rfl rfl ?_
          refine L.off hF rfl rfl ?_
          refine L.off hF rfl rfl ?_
          refine L.off hF rfl rfl ?_
          refine L.off hF rfl rfl ?_
          refine L.off hF rfl rfl ?_
          refine L.off hF rfl rfl ?_
          refine L.off hF rfl rfl ?_
          refine L.off hF rfl rfl ?_
          refine L.off hF rfl rfl ?_
          refine L.pick hF rfl rfl rfl rfl ?_
          refine L.nil ?_
          refine WpC.cond rfl (fun hc => by cases hc) (fun _ => ?_)
          refine WpC.skip ?_
          exact ⟨_, ⟨k7, v27, v28, by omega, H, rfl⟩, Le.mk [] hm rfl ⟨⟨_, rfl, rfl⟩, ⟨_, rfl, rfl⟩, trivial⟩ trivial trivial⟩
    · replace H := condF hc H
      refine WpC.exit ?_
      refine WpC.seq ?_
      refine WpC.regionL ?_
      refine L.assign hF rfl rfl rfl ?_
      refine L.nil ?_
      refine WpC.ret ?_
      cases H
      exact Leaves.ret rfl rfl rfl ⟨rfl, rfl⟩
/-! ### Fspec_l17All -/
def Fspec_l17All.l2 : Nat → (List Int) → (List Int) → Int → Option Bool
  | 0, _, _, _ => none
  | k2 + 1, v34, v35, v36 => cond (decide (v36 < (v34.length : Int))) ((at? v34 v36).bind fun b39 => (Fspec_l3Has k2 v35 b39).bind fun r40 => cond (!r40) (some false) ((Fspec_l17All.l2 k2) v34 v35 (IntKind.i64.wrap (v36 + (1 : Int))))) (some true)
def Fspec_l17All (k : Nat) (a0 : List Int) (a1 : List Int) : Option Bool := Fspec_l17All.l2 k a0 a1 (0 : Int)
theorem ent169 : MG.Enters Try.prog 169 := ⟨Try.f169, Try.func169, rfl, by decide⟩
set_option maxHeartbeats 8000000 in
set_option maxRecDepth 100000 in
theorem Fspec_l17All_gives (k : Nat) (g0 : Bool) (g1 : Bool) (a0 : List Int) (a1 : List Int) (r : Bool) (H : Fspec_l17All k a0 a1 = some r) : Gives Try.prog 169 [V.one (Cell.sl g0 (List.map eI a0)), V.one (Cell.sl g1 (List.map eI a1))] [] [V.one (cL r)] [] := by
  refine Gives.intro Try.func169 rfl rfl rfl rfl ?_
  intro F hF hm
  unfold Fspec_l17All at H
  obtain ⟨K, hK⟩ : ∃ K, k ≤ K := ⟨k, Nat.le_refl k⟩
  refine WpC.seq ?_
  refine WpC.regionL ?_
  refine L.assign hF rfl rfl rfl ?_
  refine L.nil ?_
  refine WpC.seq ?_
  refine WpC.seq ?_
  refine WpC.regionL ?_
  refine L.assign hF rfl rfl rfl ?_
  refine L.nil ?_
  refine WpC.block ?_
  refine WpC.loopL (P := Try.prog) (fun n σ => ∃ v34 : List Int, ∃ v35 : List Int, ∃ v36 : Int, n ≤ K ∧ Fspec_l17All.l2 n v34 v35 v36 = some r ∧ σ = mkSt [(0, MG.one (Cell.sl g0 (List.map eI v34))), (1, MG.one (Cell.sl g1 (List.map eI v35))), (5, MG.one (cI v36))] [] [] 0) k ⟨_, ⟨a0, a1, (0 : Int), by omega, H, rfl⟩, Le.mk [] hm rfl ⟨⟨_, rfl, rfl⟩, ⟨_, rfl, rfl⟩, ⟨_, rfl, rfl⟩, trivial⟩ trivial trivial⟩ ?_
  clear H
  rintro k2 _ ⟨v34, v35, v36, hk2, H, rfl⟩
  cases k2 with
  | zero => cases H
  | succ k2 =>
    rw [Fspec_l17All.l2] at H
    refine WpC.seq ?_
    refine WpC.seq ?_
    refine WpC.regionL ?_
    refine L.move hF rfl rfl rfl ?_
    refine L.move hF rfl rfl rfl ?_
    refine L.lenR (xs := v34) (e := eI) Try.underlying24 hF rfl rfl rfl rfl ?_
    refine L.bin hF rfl rfl rfl rfl rfl rfl ?_
    refine L.nil ?_
    refine WpC.cond rfl (fun hc => ?_) (fun hc => ?_)
    · replace H := condT hc H
      refine WpC.skip ?_
      refine WpC.seq ?_
      refine WpC.block ?_
      refine WpC.seq ?_
      refine WpC.regionL ?_
      refine L.move hF rfl rfl rfl ?_
      refine L.move hF rfl rfl rfl ?_
      refine L.move hF rfl rfl rfl ?_
      obtain ⟨b39, hb39, H⟩ := bindS H
      refine L.idxR (xs := v34) (e := eI) Try.underlying24 info3 hF rfl rfl rfl rfl rfl hb39 rfl rfl ?_
      refine L.loadPe shape3 hF rfl rfl rfl rfl rfl ?_
      obtain ⟨r40, hr40, H⟩ := bindS H
      refine L.call [false, false] [] [] 0 hF rfl rfl rfl ent257 rfl rfl rfl rfl rfl (Fspec_l3Has_gives k2 g1 v35 b39 r40 hr40) rfl ?_
      refine L.not hF rfl rfl rfl ?_
      refine L.nil ?_
      refine WpC.cond rfl (fun hc => ?_) (fun hc => ?_)
      · replace H := condT hc H
        refine WpC.seq ?_
        refine WpC.regionL ?_
        refine L.assign hF rfl rfl rfl ?_
        refine L.nil ?_
        refine WpC.ret ?_
        cases H
        exact Leaves.ret rfl rfl rfl ⟨rfl, rfl⟩
      · replace H := condF hc H
        refine WpC.skip ?_
        refine WpC.regionL ?_
        refine L.move hF rfl rfl rfl ?_
        refine L.bin hF rfl rfl rfl rfl rfl rfl ?_
        refine L.assign hF rfl rfl rfl ?_
        refine L.nil ?_
        exact ⟨k2, _, by omega, ⟨v34, v35, (IntKind.i64.wrap (v36 + (1 : Int))), by omega, H, rfl⟩, Le.mk [] hm rfl ⟨⟨_, rfl, rfl⟩, ⟨_, rfl, rfl⟩, ⟨_, rfl, rfl⟩, trivial⟩ trivial trivial⟩
    · replace H := condF hc H
      refine WpC.exit ?_
      refine WpC.seq ?_
      refine WpC.regionL ?_
      refine L.assign hF rfl rfl rfl ?_
      refine L.nil ?_
      refine WpC.ret ?_
      cases H
      exact Leaves.ret rfl rfl rfl ⟨rfl, rfl⟩
/-! ### Fspec_Stricter -/
def Fspec_Stricter.j19 (cl17 : (List Timpl_Rule) → (List Timpl_Rule) → Int → Option Bool) (k : Nat) (v212 : List Timpl_Rule) (v213 : List Timpl_Rule) (v214 : Int) : Option Bool := cl17 v212 v213 (IntKind.i64.wrap (v214 + (1 : Int)))
def Fspec_Stricter.j20 (cl17 : (List Timpl_Rule) → (List Timpl_Rule) → Int → Option Bool) (k : Nat) (v217 : List Timpl_Rule) (v218 : List Timpl_Rule) (v219 : Int) (v220 : Bool) (v221 : Bool) (v222 : Int) (v223 : List Int) (v224 : Int) (v225 : Int) (v226 : List Int) (v227 : Int) : Option Bool := cond v221 (cond (!v220) (some false) ((Fspec_l17All k v223 v226).bind fun r229 => cond (!r229) (some false) (Fspec_Stricter.j19 cl17 k v217 v218 v219))) (cond (v219 == (3 : Int)) ((Fspec_l17All k v226 v223).bind fun r230 => cond (!r230) (some false) (Fspec_Stricter.j19 cl17 k v217 v218 v219)) (cond (!v220) (some false) (cond (decide (v224 > v227)) (some false) (Fspec_Stricter.j19 cl17 k v217 v218 v219))))
def Fspec_Stricter.l17 : Nat → (List Timpl_Rule) → (List Timpl_Rule) → Int → Option Bool
  | 0, _, _, _ => none
  | k17 + 1, v193, v194, v195 => cond (decide (v195 ≤ (5 : Int))) ((Fspec_l17Kind k17 v193 v195).bind fun r215 => (Fspec_l17Kind k17 v194 v195).bind fun r216 => cond (!r216.2) (Fspec_Stricter.j19 (Fspec_Stricter.l17 k17) k17 v193 v194 v195) (cond (v195 == (1 : Int)) (Fspec_Stricter.j20 (Fspec_Stricter.l17 k17) k17 v193 v194 v195 r215.2 (v195 == (1 : Int)) r215.1.Kind r215.1.Set r215.1.N r216.1.Kind r216.1.Set r216.1.N) (Fspec_Stricter.j20 (Fspec_Stricter.l17 k17) k17 v193 v194 v195 r215.2 (v195 == (2 : Int)) r215.1.Kind r215.1.Set r215.1.N r216.1.Kind r216.1.Set r216.1.N))) (some true)
def Fspec_Stricter (k : Nat) (a0 : List Timpl_Rule) (a1 : List Timpl_Rule) : Option Bool := (Fspec_RulesOk k a0).bind fun r7 => cond (!r7) (some false) ((Fspec_RulesOk k a1).bind fun r8 => cond (!r8) (some false) ((Fspec_l17Nothing k a0).bind fun r10 => cond r10 (some true) (Fspec_Stricter.l17 k a0 a1 (1 : Int))))
theorem ent85 : MG.Enters Try.prog 85 := ⟨Try.f85, Try.func85, rfl, by decide⟩
set_option maxHeartbeats 8000000 in
set_option maxRecDepth 100000 in
theorem Fspec_Stricter_gives (k : Nat) (g0 : Bool) (g1 : Bool) (a0 : List Timpl_Rule) (a1 : List Timpl_Rule) (r : Bool) (H : Fspec_Stricter k a0 a1 = some r) : Gives Try.prog 85 [V.one (Cell.sl g0 (List.map eTimpl_Rule a0)), V.one (Cell.sl g1 (List.map eTimpl_Rule a1))] [] [V.one (cL r)] [] := by
  refine Gives.intro Try.func85 rfl rfl rfl rfl ?_
  intro F hF hm
  unfold Fspec_Stricter at H
  obtain ⟨K, hK⟩ : ∃ K, k ≤ K := ⟨k, Nat.le_refl k⟩
  refine WpC.seq ?_
  refine WpC.regionL ?_
  refine L.assign hF rfl rfl rfl ?_
  refine L.nil ?_
  refine WpC.seq ?_
  refine WpC.seq ?_
  refine WpC.regionL ?_
  refine L.move hF rfl rfl rfl ?_
  obtain ⟨r7, hr7, H⟩ := bindS H
  refine L.call [false] [] [] 2 hF rfl rfl rfl ent51 rfl rfl rfl rfl rfl (Fspec_RulesOk_gives k g0 a0 r7 hr7) rfl ?_
  refine L.not hF rfl rfl rfl ?_
  refine L.move hF rfl rfl rfl ?_
  refine L.split (fun hc => ?_) (fun hc => ?_)
  · replace H := condT hc H
    refine L.off hF rfl rfl ?_
    refine L.off hF rfl rfl ?_
    refine L.off hF rfl rfl ?_
    refine L.pick hF rfl rfl rfl rfl ?_
    refine L.nil ?_
    refine WpC.cond rfl (fun _ => ?_) (fun hc => by cases hc)
    refine WpC.seq ?_
    refine WpC.regionL ?_
    refine L.assign hF rfl rfl rfl ?_
    refine L.nil ?_
    refine WpC.ret ?_
    cases H
    exact Leaves.ret rfl rfl rfl ⟨rfl, rfl⟩
  · replace H := condF hc H
    refine L.move hF rfl rfl rfl ?_
    obtain ⟨r8, hr8, H⟩ := bindS H
    refine L.call [false] [] [] 3 hF rfl rfl rfl ent51 rfl rfl rfl rfl rfl (Fspec_RulesOk_gives k g1 a1 r8 hr8) rfl ?_
    refine L.not hF rfl rfl rfl ?_
    refine L.pick hF rfl rfl rfl rfl ?_
    refine L.nil ?_
    refine WpC.cond rfl (fun hc => ?_) (fun hc => ?_)
    · replace H := condT hc H
      refine WpC.seq ?_
      refine WpC.regionL ?_
      refine L.assign hF rfl rfl rfl ?_
      refine L.nil ?_
      refine WpC.ret ?_
      cases H
      exact Leaves.ret rfl rfl rfl ⟨rfl, rfl⟩
    · replace H := condF hc H
      refine WpC.skip ?_
      refine WpC.seq ?_
      refine WpC.seq ?_
      refine WpC.regionL ?_
      refine L.move hF rfl rfl rfl ?_
      obtain ⟨r10, hr10, H⟩ := bindS H
      refine L.call [false] [] [] 4 hF rfl rfl rfl ent168 rfl rfl rfl rfl rfl (Fspec_l17Nothing_gives k g0 a0 r10 hr10) rfl ?_
      refine L.nil ?_
      refine WpC.cond rfl (fun hc => ?_) (fun hc => ?_)
      · replace H := condT hc H
        refine WpC.seq ?_
        refine WpC.regionL ?_
        refine L.assign hF rfl rfl rfl ?_
        refine L.nil ?_
        refine WpC.ret ?_
        cases H
        exact Leaves.ret rfl rfl rfl ⟨rfl, rfl⟩
      · replace H := condF hc H
        refine WpC.skip ?_
        refine WpC.seq ?_
        refine WpC.seq ?_
        refine WpC.regionL ?_
        refine L.assign hF rfl rfl rfl ?_
        refine L.nil ?_
        refine WpC.block ?_
        refine WpC.loopL (P := Try.prog) (fun n σ => ∃ v193 : List Timpl_Rule, ∃ v194 : List Timpl_Rule, ∃ v195 : Int, n ≤ K ∧ Fspec_Stricter.l17 n v193 v194 v195 = some r ∧ σ = mkSt [(0, MG.one (Cell.sl g0 (List.map eTimpl_Rule v193))), (1, MG.one (Cell.sl g1 (List.map eTimpl_Rule v194))), (5, MG.one (cI v195))] [] [] 0) k ⟨_, ⟨a0, a1, (1 : Int), by omega, H, rfl⟩, Le.mk [] hm rfl ⟨⟨_, rfl, rfl⟩, ⟨_, rfl, rfl⟩, ⟨_, rfl, rfl⟩, trivial⟩ trivial trivial⟩ ?_
        clear H
        rintro k17 _ ⟨v193, v194, v195, hk17, H, rfl⟩
        cases k17 with
        | zero => cases H
        | succ k17 =>
          rw [Fspec_Stricter.l17] at H
          refine WpC.seq ?_
          refine WpC.seq ?_
          refine WpC.regionL ?_
          refine L.move hF rfl rfl rfl ?_
          refine L.bin hF rfl rfl rfl rfl rfl rfl ?_
          refine L.nil ?_
          refine WpC.cond rfl (fun hc => ?_) (fun hc => ?_)
          · replace H := condT hc H
            refine WpC.skip ?_
            refine WpC.join (fun σ => ∃ kj19 : Nat, ∃ v212 : List Timpl_Rule, ∃ v213 : List Timpl_Rule, ∃ v214 : Int, kj19 ≤ K ∧ Fspec_Stricter.j19 (Fspec_Stricter.l17 k17) kj19 v212 v213 v214 = some r ∧ σ = mkSt [(0, MG.one (Cell.sl g0 (List.map eTimpl_Rule v212))), (1, MG.one (Cell.sl g1 (List.map eTimpl_Rule v213))), (5, MG.one (cI v214))] [] [] 0) ?_ ?_
            · rintro _ ⟨kj19, v212, v213, v214, hkj19, H, rfl⟩
              unfold Fspec_Stricter.j19 at H
              refine WpC.regionL ?_
              refine L.move hF rfl rfl rfl ?_
              refine L.bin hF rfl rfl rfl rfl rfl rfl ?_
              refine L.assign hF rfl rfl rfl ?_
              refine L.nil ?_
              exact ⟨k17, _, by omega, ⟨v212, v213, (IntKind.i64.wrap (v214 + (1 : Int))), by omega, H, rfl⟩, Le.mk [] hm rfl ⟨⟨_, rfl, rfl⟩, ⟨_, rfl, rfl⟩, ⟨_, rfl, rfl⟩, trivial⟩ trivial trivial⟩
            · refine WpC.block ?_
              refine WpC.seq ?_
              refine WpC.regionL ?_
              refine L.move hF rfl rfl rfl ?_
              refine L.move hF rfl rfl rfl ?_
              obtain ⟨r215, hr215, H⟩ := bindS H
              refine L.call [false, false] [] [] 0 hF rfl rfl rfl ent165 rfl rfl rfl rfl rfl (Fspec_l17Kind_gives k17 g0 v193 v195 r215 hr215) rfl ?_
              refine L.move hF rfl rfl rfl ?_
              refine L.extract hF rfl rfl rfl rfl ?_
              refine L.extract hF rfl rfl rfl rfl ?_
              refine L.alloc 4 info162 rfl hF rfl rfl rfl rfl ?_
              refine L.storePtr shape162 hF rfl rfl rfl rfl rfl rfl rfl ?_
              refine L.assign hF rfl rfl rfl ?_
              refine L.nil ?_
              refine WpC.seq ?_
              refine WpC.regionL ?_
              refine L.move hF rfl rfl rfl ?_
              refine L.move hF rfl rfl rfl ?_
              obtain ⟨r216, hr216, H⟩ := bindS H
              refine L.call [false, false] [] [] 5 hF rfl rfl rfl ent165 rfl rfl rfl rfl rfl (Fspec_l17Kind_gives k17 g1 v194 v195 r216 hr216) rfl ?_
              refine L.move hF rfl rfl rfl ?_
              refine L.extract hF rfl rfl rfl rfl ?_
              refine L.extract hF rfl rfl rfl rfl ?_
              refine L.alloc 9 info162 rfl hF rfl rfl rfl rfl ?_
              refine L.storePtr shape162 hF rfl rfl rfl rfl rfl rfl rfl ?_
              refine L.assign hF rfl rfl rfl ?_
              refine L.nil ?_
              refine WpC.seq ?_
              refine WpC.seq ?_
              refine WpC.regionL ?_
              refine L.move hF rfl rfl rfl ?_
              refine L.not hF rfl rfl rfl ?_
              refine L.nil ?_
              refine WpC.cond rfl (fun hc => ?_) (fun hc => ?_)
              · replace H := condT hc H
                refine WpC.exit ?_
                exact ⟨_, ⟨k17, v193, v194, v195, by omega, H, rfl⟩, Le.mk [] hm rfl ⟨⟨_, rfl, rfl⟩, ⟨_, rfl, rfl⟩, ⟨_, rfl, rfl⟩, trivial⟩ trivial trivial⟩
              · replace H := condF hc H
                refine WpC.skip ?_
                refine WpC.seq ?_
                refine WpC.regionL ?_
                refine L.move hF rfl rfl rfl ?_
                refine L.nil ?_
                refine WpC.block ?_
                refine WpC.join (fun σ => ∃ kj20 : Nat, ∃ v217 : List Timpl_Rule, ∃ v218 : List Timpl_Rule, ∃ v219 : Int, ∃ v220 : Bool, ∃ v221 : Bool, ∃ v222 : Int, ∃ v223 : List Int, ∃ v224 : Int, ∃ v225 : Int, ∃ v226 : List Int, ∃ v227 : Int, kj20 ≤ K ∧ Fspec_Stricter.j20 (Fspec_Stricter.l17 k17) kj20 v217 v218 v219 v220 v221 v222 v223 v224 v225 v226 v227 = some r ∧ σ = mkSt [(0, MG.one (Cell.sl g0 (List.map eTimpl_Rule v217))), (1, MG.one (Cell.sl g1 (List.map eTimpl_Rule v218))), (5, MG.one (cI v219)), (6, MG.one (Cell.ptr 0 0)), (7, MG.one (cL v220)), (8, MG.one (Cell.ptr 1 0)), (38, MG.one (cI v219)), (48, MG.one (cL v221))] [(2, ⟨1, List.map eI v223⟩), (3, ⟨1, List.map eI v226⟩)] [(0, [cI v222, Cell.own 2, cI v224]), (1, [cI v225, Cell.own 3, cI v227])] 4) ?_ ?_
                · rintro _ ⟨kj20, v217, v218, v219, v220, v221, v222, v223, v224, v225, v226, v227, hkj20, H, rfl⟩
                  unfold Fspec_Stricter.j20 at H
                  refine WpC.cond rfl (fun hc => ?_) (fun hc => ?_)
                  · replace H := condT hc H
                    refine WpC.seq ?_
                    refine WpC.regionL ?_
                    refine L.move hF rfl rfl rfl ?_
                    refine L.not hF rfl rfl rfl ?_
                    refine L.move hF rfl rfl rfl ?_
                    refine L.split (fun hc => ?_) (fun hc => ?_)
                    · replace H := condT hc H
                      refine L.off hF rfl rfl ?_
                      refine L.off hF rfl rfl ?_
                      refine L.off hF rfl rfl ?_
                      refine L.off hF rfl rfl ?_
                      refine L.off hF rfl rfl ?_
                      refine L.off hF rfl rfl ?_
                      refine L.pick hF rfl rfl rfl rfl ?_
                      refine L.nil ?_
                      refine WpC.cond rfl (fun _ => ?_) (fun hc => by cases hc)
                      refine WpC.seq ?_
                      refine WpC.regionL ?_
                      refine L.assign hF rfl rfl rfl ?_
                      refine L.nil ?_
                      refine WpC.ret ?_
                      cases H
                      exact Leaves.ret rfl rfl rfl ⟨rfl, rfl⟩
                    · replace H := condF hc H
                      refine L.fieldAddr Try.underlying162 rfl info24 rfl hF rfl rfl rfl rfl rfl ?_
                      refine L.loadPtr shape24 hF rfl rfl rfl rfl rfl rfl ?_
                      refine L.fieldAddr Try.underlying162 rfl info24 rfl hF rfl rfl rfl rfl rfl ?_
                      refine L.loadPtr shape24 hF rfl rfl rfl rfl rfl rfl ?_
                      obtain ⟨r229, hr229, H⟩ := bindS H
                      refine L.call [false, false] [2, 3] [] 4 hF rfl rfl rfl ent169 rfl rfl rfl rfl rfl (Fspec_l17All_gives kj20 false false v223 v226 r229 hr229) rfl ?_
                      refine L.not hF rfl rfl rfl ?_
                      refine L.pick hF rfl rfl rfl rfl ?_
                      refine L.nil ?_
                      refine WpC.cond rfl (fun hc => ?_) (fun hc => ?_)
                      · replace H := condT hc H
                        refine WpC.seq ?_
                        refine WpC.regionL ?_
                        refine L.assign hF rfl rfl rfl ?_
                        refine L.nil ?_
                        refine WpC.ret ?_
                        cases H
                        exact Leaves.ret rfl rfl rfl ⟨rfl, rfl⟩
                      · replace H := condF hc H
                        refine WpC.skip ?_
                        exact ⟨_, ⟨kj20, v217, v218, v219, by omega, H, rfl⟩, Le.mk [] hm rfl ⟨⟨_, rfl, rfl⟩, ⟨_, rfl, rfl⟩, ⟨_, rfl, rfl⟩, trivial⟩ trivial trivial⟩
                  · replace H := condF hc H
                    refine WpC.seq ?_
                    refine WpC.regionL ?_
                    refine L.bin hF rfl rfl rfl rfl rfl rfl ?_
                    refine L.assign hF rfl rfl rfl ?_
                    refine L.nil ?_
                    refine WpC.cond rfl (fun hc => ?_) (fun hc => ?_)
                    · replace H := condT hc H
                      refine WpC.seq ?_
                      refine WpC.regionL ?_
                      refine L.fieldAddr Try.underlying162 rfl info24 rfl hF rfl rfl rfl rfl rfl ?_
                      refine L.loadPtr shape24 hF rfl rfl rfl rfl rfl rfl ?_
                      refine L.fieldAddr Try.underlying162 rfl info24 rfl hF rfl rfl rfl rfl rfl ?_
                      refine L.loadPtr shape24 hF rfl rfl rfl rfl rfl rfl ?_
                      obtain ⟨r230, hr230, H⟩ := bindS H
                      refine L.call [false, false] [3, 2] [] 4 hF rfl rfl rfl ent169 rfl rfl rfl rfl rfl (Fspec_l17All_gives kj20 false false v226 v223 r230 hr230) rfl ?_
                      refine L.not hF rfl rfl rfl ?_
                      refine L.nil ?_
                      refine WpC.cond rfl (fun hc => ?_) (fun hc => ?_)
                      · replace H := condT hc H
                        refine WpC.seq ?_
                        refine WpC.regionL ?_
                        refine L.assign hF rfl rfl rfl ?_
                        refine L.nil ?_
                        refine WpC.ret ?_
                        cases H
                        exact Leaves.ret rfl rfl rfl ⟨rfl, rfl⟩
                      · replace H := condF hc H
                        refine WpC.skip ?_
                        exact ⟨_, ⟨kj20, v217, v218, v219, by omega, H, rfl⟩, Le.mk [] hm rfl ⟨⟨_, rfl, rfl⟩, ⟨_, rfl, rfl⟩, ⟨_, rfl, rfl⟩, trivial⟩ trivial trivial⟩
                    · replace H := condF hc H
                      refine WpC.seq ?_
                      refine WpC.regionL ?_
                      refine L.move hF rfl rfl rfl ?_
                      refine L.not hF rfl rfl rfl ?_
                      refine L.move hF rfl rfl rfl ?_
                      refine L.split (fun hc => ?_) (fun hc => ?_)
                      · replace H := condT hc H
                        refine L.off hF rfl rfl ?_
                        refine L.off hF rfl rfl ?_
                        refine L.off hF rfl rfl ?_
                        refine L.off hF rfl rfl ?_
                        refine L.off hF rfl rfl ?_
                        refine L.pick hF rfl rfl rfl rfl ?_
                        refine L.nil ?_
                        refine WpC.cond rfl (fun _ => ?_) (fun hc => by cases hc)
                        refine WpC.seq ?_
                        refine WpC.regionL ?_
                        refine L.assign hF rfl rfl rfl ?_
                        refine L.nil ?_
                        refine WpC.ret ?_
                        cases H
                        exact Leaves.ret rfl rfl rfl ⟨rfl, rfl⟩
                      · replace H := condF hc H
                        refine L.fieldAddr Try.underlying162 rfl info3 rfl hF rfl rfl rfl rfl rfl ?_
                        refine L.loadPtr shape3 hF rfl rfl rfl rfl rfl rfl ?_
                        refine L.fieldAddr Try.underlying162 rfl info3 rfl hF rfl rfl rfl rfl rfl ?_
                        refine L.loadPtr shape3 hF rfl rfl rfl rfl rfl rfl ?_
                        refine L.bin hF rfl rfl rfl rfl rfl rfl ?_
                        refine L.pick hF rfl rfl rfl rfl ?_
                        refine L.nil ?_
                        refine WpC.cond rfl (fun hc => ?_) (fun hc => ?_)
                        · replace H := condT hc H
                          refine WpC.seq ?_
                          refine WpC.regionL ?_
                          refine L.assign hF rfl rfl rfl ?_
                          refine L.nil ?_
                          refine WpC.ret ?_
                          cases H
                          exact Leaves.ret rfl rfl rfl ⟨rfl, rfl⟩
                        · replace H := condF hc H
                          refine WpC.skip ?_
                          exact ⟨_, ⟨kj20, v217, v218, v219, by omega, H, rfl⟩, Le.mk [] hm rfl ⟨⟨_, rfl, rfl⟩, ⟨_, rfl, rfl⟩, ⟨_, rfl, rfl⟩, trivial⟩ trivial trivial⟩
                · refine WpC.seq ?_
                  refine WpC.regionL ?_
                  refine L.bin hF rfl rfl rfl rfl rfl rfl ?_
                  refine L.assign hF rfl rfl rfl ?_
                  refine L.nil ?_
                  refine WpC.cond rfl (fun hc => ?_) (fun hc => ?_)
                  · replace H := condT hc H
                    refine WpC.skip ?_
                    exact ⟨_, ⟨k17, v193, v194, v195, r215.2, (v195 == (1 : Int)), r215.1.Kind, r215.1.Set, r215.1.N, r216.1.Kind, r216.1.Set, r216.1.N, by omega, H, rfl⟩, Le.mk [(0, 4), (1, 9), (2, 1), (3, 6)] hm rfl ⟨⟨_, rfl, rfl⟩, ⟨_, rfl, rfl⟩, ⟨_, rfl, rfl⟩, ⟨_, rfl, rfl⟩, ⟨_, rfl, rfl⟩, ⟨_, rfl, rfl⟩, ⟨_, rfl, rfl⟩, ⟨_, rfl, rfl⟩, trivial⟩ ⟨⟨_, rfl, rfl⟩, ⟨_, rfl, rfl⟩, trivial⟩ ⟨⟨_, _, rfl, rfl, rfl⟩, ⟨_, _, rfl, rfl, rfl⟩, trivial⟩⟩
                  · replace H := condF hc H
                    refine WpC.regionL ?_
                    refine L.bin hF rfl rfl rfl rfl rfl rfl ?_
                    refine L.assign hF rfl rfl rfl ?_
                    refine L.nil ?_
                    exact ⟨_, ⟨k17, v193, v194, v195, r215.2, (v195 == (2 : Int)), r215.1.Kind, r215.1.Set, r215.1.N, r216.1.Kind, r216.1.Set, r216.1.N, by omega, H, rfl⟩, Le.mk [(0, 4), (1, 9), (2, 1), (3, 6)] hm rfl ⟨⟨_, rfl, rfl⟩, ⟨_, rfl, rfl⟩, ⟨_, rfl, rfl⟩, ⟨_, rfl, rfl⟩, ⟨_, rfl, rfl⟩, ⟨_, rfl, rfl⟩, ⟨_, rfl, rfl⟩, ⟨_, rfl, rfl⟩, trivial⟩ ⟨⟨_, rfl, rfl⟩, ⟨_, rfl, rfl⟩, trivial⟩ ⟨⟨_, _, rfl, rfl, rfl⟩, ⟨_, _, rfl, rfl, rfl⟩, trivial⟩⟩
          · replace H := condF hc H
            refine WpC.exit ?_
            refine WpC.seq ?_
            refine WpC.regionL ?_
            refine L.assign hF rfl rfl rfl ?_
            refine L.nil ?_
            refine WpC.ret ?_
            cases H
            exact Leaves.ret rfl rfl rfl ⟨rfl, rfl⟩
/-! ### Fimpl_rises -/
def Fimpl_rises.l2 : Nat → (List Int) → Int → Option Bool
  | 0, _, _ => none
  | k2 + 1, v29, v30 => cond (decide (v30 < (v29.length : Int))) ((at? v29 (IntKind.i64.wrap (v30 - (1 : Int)))).bind fun b33 => (at? v29 v30).bind fun b34 => cond (decide (b33 ≥ b34)) (some false) ((Fimpl_rises.l2 k2) v29 (IntKind.i64.wrap (v30 + (1 : Int))))) (some true)
def Fimpl_rises (k : Nat) (a0 : List Int) : Option Bool := Fimpl_rises.l2 k a0 (1 : Int)
theorem ent289 : MG.Enters Try.prog 289 := ⟨Try.f289, Try.func289, rfl, by decide⟩
set_option maxHeartbeats 8000000 in
set_option maxRecDepth 100000 in
theorem Fimpl_rises_gives (k : Nat) (g0 : Bool) (a0 : List Int) (r : Bool) (H : Fimpl_rises k a0 = some r) : Gives Try.prog 289 [V.one (Cell.sl g0 (List.map eI a0))] [] [V.one (cL r)] [] := by
  refine Gives.intro Try.func289 rfl rfl rfl rfl ?_
  intro F hF hm
  unfold Fimpl_rises at H
  obtain ⟨K, hK⟩ : ∃ K, k ≤ K := ⟨k, Nat.le_refl k⟩
  refine WpC.seq ?_
  refine WpC.regionL ?_
  refine L.assign hF rfl rfl rfl ?_
  refine L.nil ?_
  refine WpC.seq ?_
  refine WpC.seq ?_
  refine WpC.regionL ?_
  refine L.assign hF rfl rfl rfl ?_
  refine L.nil ?_
  refine WpC.block ?_
  refine WpC.loopL (P := Try.prog) (fun n σ => ∃ v29 : List Int, ∃ v30 : Int, n ≤ K ∧ Fimpl_rises.l2 n v29 v30 = some r ∧ σ = mkSt [(0, MG.one (Cell.sl g0 (List.map eI v29))), (3, MG.one (cI v30))] [] [] 0) k ⟨_, ⟨a0, (1 : Int), by omega, H, rfl⟩, Le.mk [] hm rfl ⟨⟨_, rfl, rfl⟩, ⟨_, rfl, rfl⟩, trivial⟩ trivial trivial⟩ ?_
  clear H
  rintro k2 _ ⟨v29, v30, hk2, H, rfl⟩
  cases k2 with
  | zero => cases H
  | succ k2 =>
    rw [Fimpl_rises.l2] at H
    refine WpC.seq ?_
    refine WpC.seq ?_
    refine WpC.regionL ?_
    refine L.move hF rfl rfl rfl ?_
    refine L.move hF rfl rfl rfl ?_
    refine L.lenR (xs := v29) (e := eI) Try.underlying24 hF rfl rfl rfl rfl ?_
    refine L.bin hF rfl rfl rfl rfl rfl rfl ?_
    refine L.nil ?_
    refine WpC.cond rfl (fun hc => ?_) (fun hc => ?_)
    · replace H := condT hc H
      refine WpC.skip ?_
      refine WpC.seq ?_
      refine WpC.block ?_
      refine WpC.seq ?_
      refine S.begin mixed (by kernel_rfl) ?_
      refine S.st 0 rfl rfl ((Ca.move).quiet) (fun Q0 k0 => L.move hF rfl rfl rfl (L.nil k0)) ?_
      refine S.st 1 rfl rfl ((Ca.move).quiet) (fun Q0 k0 => L.move hF rfl rfl rfl (L.nil k0)) ?_
      refine S.st 2 rfl rfl ((Ca.bin rfl rfl (calm_int _ _ _ _ _ _ _ _)).quiet) (fun Q0 k0 => L.bin hF rfl rfl rfl rfl rfl rfl (L.nil k0)) ?_
      obtain ⟨b33, hb33, H⟩ := bindS H
      refine S.st 3 rfl rfl ((Ca.indexAddr).quiet) (fun Q0 k0 => L.idxR (xs := v29) (e := eI) Try.underlying24 info3 hF rfl rfl rfl rfl rfl hb33 rfl rfl (L.nil k0)) ?_
      refine S.st 4 rfl rfl (Qu.load) (fun Q0 k0 => L.loadPe shape3 hF rfl rfl rfl rfl rfl (L.nil k0)) ?_
      refine S.st 5 rfl rfl ((Ca.move).quiet) (fun Q0 k0 => L.move hF rfl rfl rfl (L.nil k0)) ?_
      refine S.st 6 rfl rfl ((Ca.move).quiet) (fun Q0 k0 => L.move hF rfl rfl rfl (L.nil k0)) ?_
      obtain ⟨b34, hb34, H⟩ := bindS H
      refine S.st 7 rfl rfl ((Ca.indexAddr).quiet) (fun Q0 k0 => L.idxR (xs := v29) (e := eI) Try.underlying24 info3 hF rfl rfl rfl rfl rfl hb34 rfl rfl (L.nil k0)) ?_
      refine S.st 8 rfl rfl (Qu.load) (fun Q0 k0 => L.loadPe shape3 hF rfl rfl rfl rfl rfl (L.nil k0)) ?_
      refine S.st 9 rfl rfl ((Ca.bin rfl rfl (calm_int _ _ _ _ _ _ _ _)).quiet) (fun Q0 k0 => L.bin hF rfl rfl rfl rfl rfl rfl (L.nil k0)) ?_
      refine S.nil ?_
      refine WpC.cond rfl (fun hc => ?_) (fun hc => ?_)
      · replace H := condT hc H
        refine WpC.seq ?_
        refine WpC.regionL ?_
        refine L.assign hF rfl rfl rfl ?_
        refine L.nil ?_
        refine WpC.ret ?_
        cases H
        exact Leaves.ret rfl rfl rfl ⟨rfl, rfl⟩
      · replace H := condF hc H
        refine WpC.skip ?_
        refine WpC.regionL ?_
        refine L.move hF rfl rfl rfl ?_
        refine L.bin hF rfl rfl rfl rfl rfl rfl ?_
        refine L.assign hF rfl rfl rfl ?_
        refine L.nil ?_
        exact ⟨k2, _, by omega, ⟨v29, (IntKind.i64.wrap (v30 + (1 : Int))), by omega, H, rfl⟩, Le.mk [] hm rfl ⟨⟨_, rfl, rfl⟩, ⟨_, rfl, rfl⟩, trivial⟩ trivial trivial⟩
    · replace H := condF hc H
      refine WpC.exit ?_
      refine WpC.seq ?_
      refine WpC.regionL ?_
      refine L.assign hF rfl rfl rfl ?_
      refine L.nil ?_
      refine WpC.ret ?_
      cases H
      exact Leaves.ret rfl rfl rfl ⟨rfl, rfl⟩
/-! ### Fimpl_within -/
def Fimpl_within (k : Nat) (a0 : Int) (a1 : Int) (a2 : Int) : Option Bool := cond (decide (a0 ≥ a1)) (some (decide (a0 ≤ a2))) (some false)
theorem ent113 : MG.Enters Try.prog 113 := ⟨Try.f113, Try.func113, rfl, by decide⟩
set_option maxHeartbeats 8000000 in
set_option maxRecDepth 100000 in
theorem Fimpl_within_gives (k : Nat) (a0 : Int) (a1 : Int) (a2 : Int) (r : Bool) (H : Fimpl_within k a0 a1 a2 = some r) : Gives Try.prog 113 [V.one (cI a0), V.one (cI a1), V.one (cI a2)] [] [V.one (cL r)] [] := by
  refine Gives.intro Try.func113 rfl rfl rfl rfl ?_
  intro F hF hm
  unfold Fimpl_within at H
  obtain ⟨K, hK⟩ : ∃ K, k ≤ K := ⟨k, Nat.le_refl k⟩
  refine WpC.seq ?_
  refine WpC.regionL ?_
  refine L.assign hF rfl rfl rfl ?_
  refine L.nil ?_
  refine WpC.seq ?_
  refine WpC.regionL ?_
  refine L.move hF rfl rfl rfl ?_
  refine L.move hF rfl rfl rfl ?_
  refine L.bin hF rfl rfl rfl rfl rfl rfl ?_
  refine L.move hF rfl rfl rfl ?_
  refine L.split (fun hc => ?_) (fun hc => ?_)
  · replace H := condT hc H
    refine L.move hF rfl rfl rfl ?_
    refine L.move hF rfl rfl rfl ?_
    refine L.bin hF rfl rfl rfl rfl rfl rfl ?_
    refine L.pick hF rfl rfl rfl rfl ?_
    refine L.assign hF rfl rfl rfl ?_
    refine L.nil ?_
    refine WpC.ret ?_
    cases H
    exact Leaves.ret rfl rfl rfl ⟨rfl, rfl⟩
  · replace H := condF hc H
    refine L.off hF rfl rfl ?_
    refine L.off hF rfl rfl ?_
    refine L.off hF rfl rfl ?_
    refine L.pick hF rfl rfl rfl rfl ?_
    refine L.assign hF rfl rfl rfl ?_
    refine L.nil ?_
    refine WpC.ret ?_
    cases H
    exact Leaves.ret rfl rfl rfl ⟨rfl, rfl⟩
/-! ### Fimpl_areSet_1 -/
def Fimpl_areSet_1 (k : Nat) (a0 : Int) : Option Bool := (Fimpl_within k a0 (0 : Int) (30 : Int)).bind fun r1 => some r1
theorem ent290 : MG.Enters Try.prog 290 := ⟨Try.f290, Try.func290, rfl, by decide⟩
set_option maxHeartbeats 8000000 in
set_option maxRecDepth 100000 in
theorem Fimpl_areSet_1_gives (k : Nat) (a0 : Int) (r : Bool) (H : Fimpl_areSet_1 k a0 = some r) : Gives Try.prog 290 [V.one (cI a0)] [] [V.one (cL r)] [] := by
  refine Gives.intro Try.func290 rfl rfl rfl rfl ?_
  intro F hF hm
  unfold Fimpl_areSet_1 at H
  obtain ⟨K, hK⟩ : ∃ K, k ≤ K := ⟨k, Nat.le_refl k⟩
  refine WpC.seq ?_
  refine WpC.regionL ?_
  refine L.assign hF rfl rfl rfl ?_
  refine L.nil ?_
  refine WpC.seq ?_
  refine WpC.regionL ?_
  refine L.move hF rfl rfl rfl ?_
  obtain ⟨r1, hr1, H⟩ := bindS H
  refine L.call [false, false, false] [] [] 1 hF rfl rfl rfl ent113 rfl rfl rfl rfl rfl (Fimpl_within_gives k  a0 (0 : Int) (30 : Int) r1 hr1) rfl ?_
  refine L.assign hF rfl rfl rfl ?_
  refine L.nil ?_
  refine WpC.ret ?_
  cases H
  exact Leaves.ret rfl rfl rfl ⟨rfl, rfl⟩
/-! ### Fimpl_areAll__impl_areSet_1 -/
def Fimpl_areAll__impl_areSet_1.l2 : Nat → (List Int) → Int → Int → Int → Option Bool
  | 0, _, _, _, _ => none
  | k2 + 1, v39, v40, v41, v42 => cond (decide (v42 < v41)) ((at? v39 v42).bind fun b45 => (Fimpl_areSet_1 k2 b45).bind fun r46 => cond (!r46) (some false) ((Fimpl_areAll__impl_areSet_1.l2 k2) v39 v40 v41 (IntKind.i64.wrap (v42 + (1 : Int))))) (some (decide ((v39.length : Int) ≤ v40)))
def Fimpl_areAll__impl_areSet_1 (k : Nat) (a0 : List Int) (a1 : Int) : Option Bool := Fimpl_areAll__impl_areSet_1.l2 k a0 a1 (a0.length : Int) (0 : Int)
theorem ent249 : MG.Enters Try.prog 249 := ⟨Try.f249, Try.func249, rfl, by decide⟩
set_option maxHeartbeats 8000000 in
set_option maxRecDepth 100000 in
theorem Fimpl_areAll__impl_areSet_1_gives (k : Nat) (g0 : Bool) (a0 : List Int) (a1 : Int) (r : Bool) (H : Fimpl_areAll__impl_areSet_1 k a0 a1 = some r) : Gives Try.prog 249 [V.one (Cell.sl g0 (List.map eI a0)), V.one (cI a1), V.one (Cell.clo 290 [])] [] [V.one (cL r)] [] := by
  refine Gives.intro Try.func249 rfl rfl rfl rfl ?_
  intro F hF hm
  unfold Fimpl_areAll__impl_areSet_1 at H
  obtain ⟨K, hK⟩ : ∃ K, k ≤ K := ⟨k, Nat.le_refl k⟩
  refine WpC.seq ?_
  refine WpC.regionL ?_
  refine L.assign hF rfl rfl rfl ?_
  refine L.nil ?_
  refine WpC.seq ?_
  refine WpC.seq ?_
  refine WpC.regionL ?_
  refine L.move hF rfl rfl rfl ?_
  refine L.lenR (xs := a0) (e := eI) Try.underlying24 hF rfl rfl rfl rfl ?_
  refine L.move hF rfl rfl rfl ?_
  refine L.nil ?_
  refine WpC.block ?_
  refine WpC.loopL (P := Try.prog) (fun n σ => ∃ v39 : List Int, ∃ v40 : Int, ∃ v41 : Int, ∃ v42 : Int, n ≤ K ∧ Fimpl_areAll__impl_areSet_1.l2 n v39 v40 v41 v42 = some r ∧ σ = mkSt [(0, MG.one (Cell.sl g0 (List.map eI v39))), (1, MG.one (cI v40)), (2, MG.one (Cell.clo 290 [])), (9, MG.one (Cell.sl g0 (List.map eI v39))), (10, MG.one (cI v41)), (11, MG.one (cI v42))] [] [] 0) k ⟨_, ⟨a0, a1, (a0.length : Int), (0 : Int), by omega, H, rfl⟩, Le.mk [] hm rfl ⟨⟨_, rfl, rfl⟩, ⟨_, rfl, rfl⟩, ⟨_, rfl, rfl⟩, ⟨_, rfl, rfl⟩, ⟨_, rfl, rfl⟩, ⟨_, rfl, rfl⟩, trivial⟩ trivial trivial⟩ ?_
  clear H
  rintro k2 _ ⟨v39, v40, v41, v42, hk2, H, rfl⟩
  cases k2 with
  | zero => cases H
  | succ k2 =>
    rw [Fimpl_areAll__impl_areSet_1.l2] at H
    refine WpC.seq ?_
    refine WpC.regionL ?_
    refine L.bin hF rfl rfl rfl rfl rfl rfl ?_
    refine L.nil ?_
    refine WpC.seq ?_
    refine WpC.cond rfl (fun hc => ?_) (fun hc => ?_)
    · replace H := condT hc H
      refine WpC.skip ?_
      refine WpC.seq ?_
      refine WpC.block ?_
      refine WpC.seq ?_
      refine WpC.regionL ?_
      obtain ⟨b45, hb45, H⟩ := bindS H
      refine L.idxR (xs := v39) (e := eI) Try.underlying24 info3 hF rfl rfl rfl rfl rfl hb45 rfl rfl ?_
      refine L.loadPe shape3 hF rfl rfl rfl rfl rfl ?_
      refine L.assign hF rfl rfl rfl ?_
      refine L.nil ?_
      refine WpC.seq ?_
      refine WpC.regionL ?_
      refine L.move hF rfl rfl rfl ?_
      refine L.move hF rfl rfl rfl ?_
      obtain ⟨r46, hr46, H⟩ := bindS H
      refine L.call [false] [] [] 0 hF rfl rfl rfl ent290 rfl rfl rfl rfl rfl (Fimpl_areSet_1_gives k2  b45 r46 hr46) rfl ?_
      refine L.not hF rfl rfl rfl ?_
      refine L.nil ?_
      refine WpC.cond rfl (fun hc => ?_) (fun hc => ?_)
      · replace H := condT hc H
        refine WpC.seq ?_
        refine WpC.regionL ?_
        refine L.assign hF rfl rfl rfl ?_
        refine L.nil ?_
        refine WpC.ret ?_
        cases H
        exact Leaves.ret rfl rfl rfl ⟨rfl, rfl⟩
      · replace H := condF hc H
        refine WpC.skip ?_
        refine WpC.regionL ?_
        refine L.bin hF rfl rfl rfl rfl rfl rfl ?_
        refine L.move hF rfl rfl rfl ?_
        refine L.nil ?_
        exact ⟨k2, _, by omega, ⟨v39, v40, v41, (IntKind.i64.wrap (v42 + (1 : Int))), by omega, H, rfl⟩, Le.mk [] hm rfl ⟨⟨_, rfl, rfl⟩, ⟨_, rfl, rfl⟩, ⟨_, rfl, rfl⟩, ⟨_, rfl, rfl⟩, ⟨_, rfl, rfl⟩, ⟨_, rfl, rfl⟩, trivial⟩ trivial trivial⟩
    · replace H := condF hc H
      refine WpC.exit ?_
      refine WpC.seq ?_
      refine WpC.regionL ?_
      refine L.move hF rfl rfl rfl ?_
      refine L.lenR (xs := v39) (e := eI) Try.underlying24 hF rfl rfl rfl rfl ?_
      refine L.move hF rfl rfl rfl ?_
      refine L.bin hF rfl rfl rfl rfl rfl rfl ?_
      refine L.assign hF rfl rfl rfl ?_
      refine L.nil ?_
      refine WpC.ret ?_
      cases H
      exact Leaves.ret rfl rfl rfl ⟨rfl, rfl⟩
/-! ### Fimpl_areSet -/
def Fimpl_areSet (k : Nat) (a0 : List Int) : Option Bool := (Fimpl_rises k a0).bind fun r3 => cond r3 ((Fimpl_areAll__impl_areSet_1 k a0 (31 : Int)).bind fun r4 => some r4) (some false)
theorem ent268 : MG.Enters Try.prog 268 := ⟨Try.f268, Try.func268, rfl, by decide⟩
set_option maxHeartbeats 8000000 in
set_option maxRecDepth 100000 in
theorem Fimpl_areSet_gives (k : Nat) (g0 : Bool) (a0 : List Int) (r : Bool) (H : Fimpl_areSet k a0 = some r) : Gives Try.prog 268 [V.one (Cell.sl g0 (List.map eI a0))] [] [V.one (cL r)] [] := by
  refine Gives.intro Try.func268 rfl rfl rfl rfl ?_
  intro F hF hm
  unfold Fimpl_areSet at H
  obtain ⟨K, hK⟩ : ∃ K, k ≤ K := ⟨k, Nat.le_refl k⟩
  refine WpC.seq ?_
  refine WpC.regionL ?_
  refine L.assign hF rfl rfl rfl ?_
  refine L.nil ?_
  refine WpC.seq ?_
  refine WpC.regionL ?_
  refine L.move hF rfl rfl rfl ?_
  obtain ⟨r3, hr3, H⟩ := bindS H
  refine L.call [false] [] [] 1 hF rfl rfl rfl ent289 rfl rfl rfl rfl rfl (Fimpl_rises_gives k g0 a0 r3 hr3) rfl ?_
  refine L.move hF rfl rfl rfl ?_
  refine L.split (fun hc => ?_) (fun hc => ?_)
  · replace H := condT hc H
    refine L.move hF rfl rfl rfl ?_
    obtain ⟨r4, hr4, H⟩ := bindS H
    refine L.call [false, false, false] [] [] 2 hF rfl rfl rfl ent249 rfl rfl rfl rfl rfl (Fimpl_areAll__impl_areSet_1_gives k g0 a0 (31 : Int) r4 hr4) rfl ?_
    refine L.pick hF rfl rfl rfl rfl ?_
    refine L.assign hF rfl rfl rfl ?_
    refine L.nil ?_
    refine WpC.ret ?_
    cases H
    exact Leaves.ret rfl rfl rfl ⟨rfl, rfl⟩
  · replace H := condF hc H
    refine L.off hF rfl rfl ?_
    refine L.off hF rfl rfl ?_
    refine L.pick hF rfl rfl rfl rfl ?_
    refine L.assign hF rfl rfl rfl ?_
    refine L.nil ?_
    refine WpC.ret ?_
    cases H
    exact Leaves.ret rfl rfl rfl ⟨rfl, rfl⟩
/-! ### Fimpl_isTime -/
def Fimpl_isTime (k : Nat) (a0 : Int) : Option Bool := (Fimpl_within k a0 (0 : Int) (100000 : Int)).bind fun r1 => some r1
theorem ent250 : MG.Enters Try.prog 250 := ⟨Try.f250, Try.func250, rfl, by decide⟩
set_option maxHeartbeats 8000000 in
set_option maxRecDepth 100000 in
theorem Fimpl_isTime_gives (k : Nat) (a0 : Int) (r : Bool) (H : Fimpl_isTime k a0 = some r) : Gives Try.prog 250 [V.one (cI a0)] [] [V.one (cL r)] [] := by
  refine Gives.intro Try.func250 rfl rfl rfl rfl ?_
  intro F hF hm
  unfold Fimpl_isTime at H
  obtain ⟨K, hK⟩ : ∃ K, k ≤ K := ⟨k, Nat.le_refl k⟩
  refine WpC.seq ?_
  refine WpC.regionL ?_
  refine L.assign hF rfl rfl rfl ?_
  refine L.nil ?_
  refine WpC.seq ?_
  refine WpC.regionL ?_
  refine L.move hF rfl rfl rfl ?_
  obtain ⟨r1, hr1, H⟩ := bindS H
  refine L.call [false, false, false] [] [] 1 hF rfl rfl rfl ent113 rfl rfl rfl rfl rfl (Fimpl_within_gives k  a0 (0 : Int) (100000 : Int) r1 hr1) rfl ?_
  refine L.assign hF rfl rfl rfl ?_
  refine L.nil ?_
  refine WpC.ret ?_
  cases H
  exact Leaves.ret rfl rfl rfl ⟨rfl, rfl⟩
/-! ### Fimpl_ruleOk -/
def Fimpl_ruleOk.j4 (k : Nat) (v19 : Bool) (v20 : Int) (v21 : List Int) (v22 : Int) : Option Bool := cond v19 ((Fimpl_isTime k v22).bind fun r24 => cond r24 (some ((v21.length : Int) == (0 : Int))) (some false)) (some false)
def Fimpl_ruleOk.j3 (k : Nat) (v13 : Int) (v14 : Bool) (v15 : List Int) (v16 : Int) : Option Bool := cond v14 ((Fimpl_areSet k v15).bind fun r18 => cond r18 (some (v16 == (0 : Int))) (some false)) (cond (v13 == (4 : Int)) (Fimpl_ruleOk.j4 k (v13 == (4 : Int)) v13 v15 v16) (Fimpl_ruleOk.j4 k (v13 == (5 : Int)) v13 v15 v16))
def Fimpl_ruleOk (k : Nat) (a0 : Timpl_Rule) : Option Bool := cond (a0.Kind == (1 : Int)) (Fimpl_ruleOk.j3 k a0.Kind (a0.Kind == (1 : Int)) a0.Set a0.N) (cond (a0.Kind == (2 : Int)) (Fimpl_ruleOk.j3 k a0.Kind (a0.Kind == (2 : Int)) a0.Set a0.N) (Fimpl_ruleOk.j3 k a0.Kind (a0.Kind == (3 : Int)) a0.Set a0.N))
theorem ent220 : MG.Enters Try.prog 220 := ⟨Try.f220, Try.func220, rfl, by decide⟩
set_option maxHeartbeats 8000000 in
set_option maxRecDepth 100000 in
theorem Fimpl_ruleOk_gives (k : Nat) (g0 : Bool) (a0 : Timpl_Rule) (r : Bool) (H : Fimpl_ruleOk k a0 = some r) : Gives Try.prog 220 [V.agg [cI a0.Kind, Cell.sl g0 (List.map eI a0.Set), cI a0.N]] [] [V.one (cL r)] [] := by
  refine Gives.intro Try.func220 rfl rfl rfl rfl ?_
  intro F hF hm
  unfold Fimpl_ruleOk at H
  obtain ⟨K, hK⟩ : ∃ K, k ≤ K := ⟨k, Nat.le_refl k⟩
  refine WpC.seq ?_
  refine WpC.regionL ?_
  refine L.box 3 hF rfl rfl rfl rfl ?_
  refine L.assign hF rfl rfl rfl ?_
  refine L.nil ?_
  refine WpC.seq ?_
  refine WpC.seq ?_
  refine WpC.regionL ?_
  refine L.fieldAddr Try.underlying162 rfl info3 rfl hF rfl rfl rfl rfl rfl ?_
  refine L.loadPtr shape3 hF rfl rfl rfl rfl rfl rfl ?_
  refine L.nil ?_
  refine WpC.block ?_
  refine WpC.join (fun σ => ∃ kj3 : Nat, ∃ v13 : Int, ∃ v14 : Bool, ∃ v15 : List Int, ∃ v16 : Int, kj3 ≤ K ∧ Fimpl_ruleOk.j3 kj3 v13 v14 v15 v16 = some r ∧ σ = mkSt [(1, MG.one (Cell.ptr 0 0)), (4, MG.one (cI v13)), (5, MG.one (cL v14))] [] [(0, [cI v13, Cell.sl g0 (List.map eI v15), cI v16])] 1) ?_ ?_
  · rintro _ ⟨kj3, v13, v14, v15, v16, hkj3, H, rfl⟩
    unfold Fimpl_ruleOk.j3 at H
    refine WpC.cond rfl (fun hc => ?_) (fun hc => ?_)
    · replace H := condT hc H
      refine WpC.seq ?_
      refine WpC.regionL ?_
      refine L.fieldAddr Try.underlying162 rfl info24 rfl hF rfl rfl rfl rfl rfl ?_
      refine L.loadPtr shape24 hF rfl rfl rfl rfl rfl rfl ?_
      obtain ⟨r18, hr18, H⟩ := bindS H
      refine L.call [false] [] [] 1 hF rfl rfl rfl ent268 rfl rfl rfl rfl rfl (Fimpl_areSet_gives kj3 g0 v15 r18 hr18) rfl ?_
      refine L.move hF rfl rfl rfl ?_
      refine L.split (fun hc => ?_) (fun hc => ?_)
      · replace H := condT hc H
        refine L.fieldAddr Try.underlying162 rfl info3 rfl hF rfl rfl rfl rfl rfl ?_
        refine L.loadPtr shape3 hF rfl rfl rfl rfl rfl rfl ?_
        refine L.bin hF rfl rfl rfl rfl rfl rfl ?_
        refine L.pick hF rfl rfl rfl rfl ?_
        refine L.assign hF rfl rfl rfl ?_
        refine L.nil ?_
        refine WpC.ret ?_
        cases H
        exact Leaves.ret rfl rfl rfl ⟨rfl, rfl⟩
      · replace H := condF hc H
        refine L.off hF rfl rfl ?_
        refine L.off hF rfl rfl ?_
        refine L.off hF rfl rfl ?_
        refine L.pick hF rfl rfl rfl rfl ?_
        refine L.assign hF rfl rfl rfl ?_
        refine L.nil ?_
        refine WpC.ret ?_
        cases H
        exact Leaves.ret rfl rfl rfl ⟨rfl, rfl⟩
    · replace H := condF hc H
      refine WpC.join (fun σ => ∃ kj4 : Nat, ∃ v19 : Bool, ∃ v20 : Int, ∃ v21 : List Int, ∃ v22 : Int, kj4 ≤ K ∧ Fimpl_ruleOk.j4 kj4 v19 v20 v21 v22 = some r ∧ σ = mkSt [(1, MG.one (Cell.ptr 0 0)), (17, MG.one (cL v19))] [] [(0, [cI v20, Cell.sl g0 (List.map eI v21), cI v22])] 1) ?_ ?_
      · rintro _ ⟨kj4, v19, v20, v21, v22, hkj4, H, rfl⟩
        unfold Fimpl_ruleOk.j4 at H
        refine WpC.cond rfl (fun hc => ?_) (fun hc => ?_)
        · replace H := condT hc H
          refine WpC.seq ?_
          refine WpC.regionL ?_
          refine L.fieldAddr Try.underlying162 rfl info3 rfl hF rfl rfl rfl rfl rfl ?_
          refine L.loadPtr shape3 hF rfl rfl rfl rfl rfl rfl ?_
          obtain ⟨r24, hr24, H⟩ := bindS H
          refine L.call [false] [] [] 1 hF rfl rfl rfl ent250 rfl rfl rfl rfl rfl (Fimpl_isTime_gives kj4  v22 r24 hr24) rfl ?_
          refine L.move hF rfl rfl rfl ?_
          refine L.split (fun hc => ?_) (fun hc => ?_)
          · replace H := condT hc H
            refine L.fieldAddr Try.underlying162 rfl info24 rfl hF rfl rfl rfl rfl rfl ?_
            refine L.loadPtr shape24 hF rfl rfl rfl rfl rfl rfl ?_
            refine L.lenR (xs := v21) (e := eI) Try.underlying24 hF rfl rfl rfl rfl ?_
            refine L.bin hF rfl rfl rfl rfl rfl rfl ?_
            refine L.pick hF rfl rfl rfl rfl ?_
            refine L.assign hF rfl rfl rfl ?_
            refine L.nil ?_
            refine WpC.ret ?_
            cases H
            exact Leaves.ret rfl rfl rfl ⟨rfl, rfl⟩
          · replace H := condF hc H
            refine L.off hF rfl rfl ?_
            refine L.off hF rfl rfl ?_
            refine L.off hF rfl rfl ?_
            refine L.off hF rfl rfl ?_
            refine L.pick hF rfl rfl rfl rfl ?_
            refine L.assign hF rfl rfl rfl ?_
            refine L.nil ?_
            refine WpC.ret ?_
            cases H
            exact Leaves.ret rfl rfl rfl ⟨rfl, rfl⟩
        · replace H := condF hc H
          refine WpC.skip ?_
          refine WpC.seq ?_
          refine WpC.regionL ?_
          refine L.assign hF rfl rfl rfl ?_
          refine L.nil ?_
          refine WpC.ret ?_
          cases H
          exact Leaves.ret rfl rfl rfl ⟨rfl, rfl⟩
      · refine WpC.seq ?_
        refine WpC.regionL ?_
        refine L.bin hF rfl rfl rfl rfl rfl rfl ?_
        refine L.assign hF rfl rfl rfl ?_
        refine L.nil ?_
        refine WpC.cond rfl (fun hc => ?_) (fun hc => ?_)
        · replace H := condT hc H
          refine WpC.skip ?_
          exact ⟨_, ⟨kj3, (v13 == (4 : Int)), v13, v15, v16, by omega, H, rfl⟩, Le.mk [(0, 0)] hm rfl ⟨⟨_, rfl, rfl⟩, ⟨_, rfl, rfl⟩, trivial⟩ trivial ⟨⟨_, _, rfl, rfl, rfl⟩, trivial⟩⟩
        · replace H := condF hc H
          refine WpC.regionL ?_
          refine L.bin hF rfl rfl rfl rfl rfl rfl ?_
          refine L.assign hF rfl rfl rfl ?_
          refine L.nil ?_
          exact ⟨_, ⟨kj3, (v13 == (5 : Int)), v13, v15, v16, by omega, H, rfl⟩, Le.mk [(0, 0)] hm rfl ⟨⟨_, rfl, rfl⟩, ⟨_, rfl, rfl⟩, trivial⟩ trivial ⟨⟨_, _, rfl, rfl, rfl⟩, trivial⟩⟩
  · refine WpC.seq ?_
    refine WpC.regionL ?_
    refine L.bin hF rfl rfl rfl rfl rfl rfl ?_
    refine L.assign hF rfl rfl rfl ?_
    refine L.nil ?_
    refine WpC.cond rfl (fun hc => ?_) (fun hc => ?_)
    · replace H := condT hc H
      refine WpC.skip ?_
      exact ⟨_, ⟨k, a0.Kind, (a0.Kind == (1 : Int)), a0.Set, a0.N, by omega, H, rfl⟩, Le.mk [(0, 3)] hm rfl ⟨⟨_, rfl, rfl⟩, ⟨_, rfl, rfl⟩, ⟨_, rfl, rfl⟩, trivial⟩ trivial ⟨⟨_, _, rfl, rfl, rfl⟩, trivial⟩⟩
    · replace H := condF hc H
      refine WpC.seq ?_
      refine WpC.regionL ?_
      refine L.bin hF rfl rfl rfl rfl rfl rfl ?_
      refine L.assign hF rfl rfl rfl ?_
      refine L.nil ?_
      refine WpC.cond rfl (fun hc => ?_) (fun hc => ?_)
      · replace H := condT hc H
        refine WpC.skip ?_
        exact ⟨_, ⟨k, a0.Kind, (a0.Kind == (2 : Int)), a0.Set, a0.N, by omega, H, rfl⟩, Le.mk [(0, 3)] hm rfl ⟨⟨_, rfl, rfl⟩, ⟨_, rfl, rfl⟩, ⟨_, rfl, rfl⟩, trivial⟩ trivial ⟨⟨_, _, rfl, rfl, rfl⟩, trivial⟩⟩
      · replace H := condF hc H
        refine WpC.regionL ?_
        refine L.bin hF rfl rfl rfl rfl rfl rfl ?_
        refine L.assign hF rfl rfl rfl ?_
        refine L.nil ?_
        exact ⟨_, ⟨k, a0.Kind, (a0.Kind == (3 : Int)), a0.Set, a0.N, by omega, H, rfl⟩, Le.mk [(0, 3)] hm rfl ⟨⟨_, rfl, rfl⟩, ⟨_, rfl, rfl⟩, ⟨_, rfl, rfl⟩, trivial⟩ trivial ⟨⟨_, _, rfl, rfl, rfl⟩, trivial⟩⟩
/-! ### Fimpl_RulesOk_1 -/
def Fimpl_RulesOk_1 (k : Nat) (a0 : Timpl_Rule) : Option Bool := (Fimpl_ruleOk k a0).bind fun r1 => some (!r1)
theorem ent219 : MG.Enters Try.prog 219 := ⟨Try.f219, Try.func219, rfl, by decide⟩
set_option maxHeartbeats 8000000 in
set_option maxRecDepth 100000 in
theorem Fimpl_RulesOk_1_gives (k : Nat) (g0 : Bool) (a0 : Timpl_Rule) (r : Bool) (H : Fimpl_RulesOk_1 k a0 = some r) : Gives Try.prog 219 [V.agg [cI a0.Kind, Cell.sl g0 (List.map eI a0.Set), cI a0.N]] [] [V.one (cL r)] [] := by
  refine Gives.intro Try.func219 rfl rfl rfl rfl ?_
  intro F hF hm
  unfold Fimpl_RulesOk_1 at H
  obtain ⟨K, hK⟩ : ∃ K, k ≤ K := ⟨k, Nat.le_refl k⟩
  refine WpC.seq ?_
  refine WpC.regionL ?_
  refine L.box 3 hF rfl rfl rfl rfl ?_
  refine L.assign hF rfl rfl rfl ?_
  refine L.nil ?_
  refine WpC.seq ?_
  refine WpC.regionL ?_
  refine L.loadPtr shape162 hF rfl rfl rfl rfl rfl rfl ?_
  obtain ⟨r1, hr1, H⟩ := bindS H
  refine L.call [false] [] [] 4 hF rfl rfl rfl ent220 rfl rfl rfl rfl rfl (Fimpl_ruleOk_gives k g0 a0 r1 hr1) rfl ?_
  refine L.not hF rfl rfl rfl ?_
  refine L.assign hF rfl rfl rfl ?_
  refine L.nil ?_
  refine WpC.ret ?_
  cases H
  exact Leaves.ret rfl rfl rfl ⟨rfl, rfl⟩
/-! ### Fslices_IndexFunc_Rule__impl_RulesOk_1 -/
def Fslices_IndexFunc_Rule__impl_RulesOk_1.l2 : Nat → (List Timpl_Rule) → Int → Int → Option Int
  | 0, _, _, _ => none
  | k2 + 1, v34, v35, v36 => cond (decide (v36 < v35)) ((at? v34 v36).bind fun b39 => (Fimpl_RulesOk_1 k2 b39).bind fun r40 => cond r40 (some v36) ((Fslices_IndexFunc_Rule__impl_RulesOk_1.l2 k2) v34 v35 (IntKind.i64.wrap (v36 + (1 : Int))))) (some (-1 : Int))
def Fslices_IndexFunc_Rule__impl_RulesOk_1 (k : Nat) (a0 : List Timpl_Rule) : Option Int := Fslices_IndexFunc_Rule__impl_RulesOk_1.l2 k a0 (a0.length : Int) (0 : Int)
theorem ent172 : MG.Enters Try.prog 172 := ⟨Try.f172, Try.func172, rfl, by decide⟩
set_option maxHeartbeats 8000000 in
set_option maxRecDepth 100000 in
theorem Fslices_IndexFunc_Rule__impl_RulesOk_1_gives (k : Nat) (g0 : Bool) (a0 : List Timpl_Rule) (r : Int) (H : Fslices_IndexFunc_Rule__impl_RulesOk_1 k a0 = some r) : Gives Try.prog 172 [V.one (Cell.sl g0 (List.map eTimpl_Rule a0)), V.one (Cell.clo 219 [])] [] [V.one (cI r)] [] := by
  refine Gives.intro Try.func172 rfl rfl rfl rfl ?_
  intro F hF hm
  unfold Fslices_IndexFunc_Rule__impl_RulesOk_1 at H
  obtain ⟨K, hK⟩ : ∃ K, k ≤ K := ⟨k, Nat.le_refl k⟩
  refine WpC.seq ?_
  refine WpC.regionL ?_
  refine L.assign hF rfl rfl rfl ?_
  refine L.nil ?_
  refine WpC.seq ?_
  refine WpC.seq ?_
  refine WpC.regionL ?_
  refine L.move hF rfl rfl rfl ?_
  refine L.lenR (xs := a0) (e := eTimpl_Rule) Try.underlying44 hF rfl rfl rfl rfl ?_
  refine L.move hF rfl rfl rfl ?_
  refine L.nil ?_
  refine WpC.block ?_
  refine WpC.loopL (P := Try.prog) (fun n σ => ∃ v34 : List Timpl_Rule, ∃ v35 : Int, ∃ v36 : Int, n ≤ K ∧ Fslices_IndexFunc_Rule__impl_RulesOk_1.l2 n v34 v35 v36 = some r ∧ σ = mkSt [(0, MG.one (Cell.sl g0 (List.map eTimpl_Rule v34))), (1, MG.one (Cell.clo 219 [])), (7, MG.one (cI v35)), (8, MG.one (cI v36))] [] [] 0) k ⟨_, ⟨a0, (a0.length : Int), (0 : Int), by omega, H, rfl⟩, Le.mk [] hm rfl ⟨⟨_, rfl, rfl⟩, ⟨_, rfl, rfl⟩, ⟨_, rfl, rfl⟩, ⟨_, rfl, rfl⟩, trivial⟩ trivial trivial⟩ ?_
  clear H
  rintro k2 _ ⟨v34, v35, v36, hk2, H, rfl⟩
  cases k2 with
  | zero => cases H
  | succ k2 =>
    rw [Fslices_IndexFunc_Rule__impl_RulesOk_1.l2] at H
    refine WpC.seq ?_
    refine WpC.regionL ?_
    refine L.bin hF rfl rfl rfl rfl rfl rfl ?_
    refine L.nil ?_
    refine WpC.seq ?_
    refine WpC.cond rfl (fun hc => ?_) (fun hc => ?_)
    · replace H := condT hc H
      refine WpC.skip ?_
      refine WpC.seq ?_
      refine WpC.block ?_
      refine WpC.seq ?_
      refine WpC.regionL ?_
      refine L.move hF rfl rfl rfl ?_
      refine L.assign hF rfl rfl rfl ?_
      refine L.nil ?_
      refine WpC.seq ?_
      refine WpC.regionL ?_
      refine L.move hF rfl rfl rfl ?_
      refine L.move hF rfl rfl rfl ?_
      refine L.move hF rfl rfl rfl ?_
      obtain ⟨b39, hb39, H⟩ := bindS H
      refine L.idxR (xs := v34) (e := eTimpl_Rule) Try.underlying44 info162 hF rfl rfl rfl rfl rfl hb39 rfl rfl ?_
      refine L.loadPe shape162 hF rfl rfl rfl rfl rfl ?_
      obtain ⟨r40, hr40, H⟩ := bindS H
      refine L.call [false] [] [] 0 hF rfl rfl rfl ent219 rfl rfl rfl rfl rfl (Fimpl_RulesOk_1_gives k2 true b39 r40 hr40) rfl ?_
      refine L.nil ?_
      refine WpC.cond rfl (fun hc => ?_) (fun hc => ?_)
      · replace H := condT hc H
        refine WpC.seq ?_
        refine WpC.regionL ?_
        refine L.move hF rfl rfl rfl ?_
        refine L.assign hF rfl rfl rfl ?_
        refine L.nil ?_
        refine WpC.ret ?_
        cases H
        exact Leaves.ret rfl rfl rfl ⟨rfl, rfl⟩
      · replace H := condF hc H
        refine WpC.skip ?_
        refine WpC.regionL ?_
        refine L.bin hF rfl rfl rfl rfl rfl rfl ?_
        refine L.move hF rfl rfl rfl ?_
        refine L.nil ?_
        exact ⟨k2, _, by omega, ⟨v34, v35, (IntKind.i64.wrap (v36 + (1 : Int))), by omega, H, rfl⟩, Le.mk [] hm rfl ⟨⟨_, rfl, rfl⟩, ⟨_, rfl, rfl⟩, ⟨_, rfl, rfl⟩, ⟨_, rfl, rfl⟩, trivial⟩ trivial trivial⟩
    · replace H := condF hc H
      refine WpC.exit ?_
      refine WpC.seq ?_
      refine WpC.regionL ?_
      refine L.assign hF rfl rfl rfl ?_
      refine L.nil ?_
      refine WpC.ret ?_
      cases H
      exact Leaves.ret rfl rfl rfl ⟨rfl, rfl⟩
/-! ### Fslices_ContainsFunc_Rule__impl_RulesOk_1 -/
def Fslices_ContainsFunc_Rule__impl_RulesOk_1 (k : Nat) (a0 : List Timpl_Rule) : Option Bool := (Fslices_IndexFunc_Rule__impl_RulesOk_1 k a0).bind fun r1 => some (decide (r1 ≥ (0 : Int)))
theorem ent170 : MG.Enters Try.prog 170 := ⟨Try.f170, Try.func170, rfl, by decide⟩
set_option maxHeartbeats 8000000 in
set_option maxRecDepth 100000 in
theorem Fslices_ContainsFunc_Rule__impl_RulesOk_1_gives (k : Nat) (g0 : Bool) (a0 : List Timpl_Rule) (r : Bool) (H : Fslices_ContainsFunc_Rule__impl_RulesOk_1 k a0 = some r) : Gives Try.prog 170 [V.one (Cell.sl g0 (List.map eTimpl_Rule a0)), V.one (Cell.clo 219 [])] [] [V.one (cL r)] [] := by
  refine Gives.intro Try.func170 rfl rfl rfl rfl ?_
  intro F hF hm
  unfold Fslices_ContainsFunc_Rule__impl_RulesOk_1 at H
  obtain ⟨K, hK⟩ : ∃ K, k ≤ K := ⟨k, Nat.le_refl k⟩
  refine WpC.seq ?_
  refine WpC.regionL ?_
  refine L.assign hF rfl rfl rfl ?_
  refine L.nil ?_
  refine WpC.seq ?_
  refine WpC.regionL ?_
  refine L.move hF rfl rfl rfl ?_
  refine L.move hF rfl rfl rfl ?_
  obtain ⟨r1, hr1, H⟩ := bindS H
  refine L.call [false, false] [] [] 2 hF rfl rfl rfl ent172 rfl rfl rfl rfl rfl (Fslices_IndexFunc_Rule__impl_RulesOk_1_gives k g0 a0 r1 hr1) rfl ?_
  refine L.bin hF rfl rfl rfl rfl rfl rfl ?_
  refine L.assign hF rfl rfl rfl ?_
  refine L.nil ?_
  refine WpC.ret ?_
  cases H
  exact Leaves.ret rfl rfl rfl ⟨rfl, rfl⟩
/-! ### Fimpl_RulesOk -/
def Fimpl_RulesOk (k : Nat) (a0 : List Timpl_Rule) : Option Bool := cond (decide ((a0.length : Int) ≤ (20 : Int))) ((Fslices_ContainsFunc_Rule__impl_RulesOk_1 k a0).bind fun r2 => some (!r2)) (some false)
theorem ent123 : MG.Enters Try.prog 123 := ⟨Try.f123, Try.func123, rfl, by decide⟩
set_option maxHeartbeats 8000000 in
set_option maxRecDepth 100000 in
theorem Fimpl_RulesOk_gives (k : Nat) (g0 : Bool) (a0 : List Timpl_Rule) (r : Bool) (H : Fimpl_RulesOk k a0 = some r) : Gives Try.prog 123 [V.one (Cell.sl g0 (List.map eTimpl_Rule a0))] [] [V.one (cL r)] [] := by
  refine Gives.intro Try.func123 rfl rfl rfl rfl ?_
  intro F hF hm
  unfold Fimpl_RulesOk at H
  obtain ⟨K, hK⟩ : ∃ K, k ≤ K := ⟨k, Nat.le_refl k⟩
  refine WpC.seq ?_
  refine WpC.regionL ?_
  refine L.assign hF rfl rfl rfl ?_
  refine L.nil ?_
  refine WpC.seq ?_
  refine WpC.regionL ?_
  refine L.move hF rfl rfl rfl ?_
  refine L.lenR (xs := a0) (e := eTimpl_Rule) Try.underlying44 hF rfl rfl rfl rfl ?_
  refine L.bin hF rfl rfl rfl rfl rfl rfl ?_
  refine L.move hF rfl rfl rfl ?_
  refine L.split (fun hc => ?_) (fun hc => ?_)
  · replace H := condT hc H
    refine L.move hF rfl rfl rfl ?_
    obtain ⟨r2, hr2, H⟩ := bindS H
    refine L.call [false, false] [] [] 1 hF rfl rfl rfl ent170 rfl rfl rfl rfl rfl (Fslices_ContainsFunc_Rule__impl_RulesOk_1_gives k g0 a0 r2 hr2) rfl ?_
    refine L.not hF rfl rfl rfl ?_
    refine L.pick hF rfl rfl rfl rfl ?_
    refine L.assign hF rfl rfl rfl ?_
    refine L.nil ?_
    refine WpC.ret ?_
    cases H
    exact Leaves.ret rfl rfl rfl ⟨rfl, rfl⟩
  · replace H := condF hc H
    refine L.off hF rfl rfl ?_
    refine L.off hF rfl rfl ?_
    refine L.off hF rfl rfl ?_
    refine L.pick hF rfl rfl rfl rfl ?_
    refine L.assign hF rfl rfl rfl ?_
    refine L.nil ?_
    refine WpC.ret ?_
    cases H
    exact Leaves.ret rfl rfl rfl ⟨rfl, rfl⟩
/-! ### Fimpl_copyInts -/
def Fimpl_copyInts (k : Nat) (a0 : List Int) : Option (List Int) := cond (decide ((2 * (([] : List Int).length + a0.length) + 192) * 8 ≤ 281474976710656)) (some (([] : List Int) ++ a0)) none
theorem ent256 : MG.Enters Try.prog 256 := ⟨Try.f256, Try.func256, rfl, by decide⟩
set_option maxHeartbeats 8000000 in
set_option maxRecDepth 100000 in
theorem Fimpl_copyInts_gives (k : Nat) (g0 : Bool) (a0 : List Int) (r : List Int) (H : Fimpl_copyInts k a0 = some r) : Gives Try.prog 256 [V.one (Cell.sl g0 (List.map eI a0))] [] [V.one (Cell.ow 1 (List.map eI r))] [] := by
  refine Gives.intro Try.func256 rfl rfl rfl rfl ?_
  intro F hF hm
  unfold Fimpl_copyInts at H
  obtain ⟨K, hK⟩ : ∃ K, k ≤ K := ⟨k, Nat.le_refl k⟩
  refine WpC.seq ?_
  refine WpC.regionL ?_
  refine L.assign hF rfl rfl rfl ?_
  refine L.nil ?_
  refine WpC.seq ?_
  refine WpC.regionL ?_
  refine L.move hF rfl rfl rfl ?_
  obtain ⟨h1, H⟩ := condG H
  refine L.append (xs := ([] : List Int)) (ys := a0) (e := eI) 1 Try.underlying24 info3 rfl rfl hF rfl rfl rfl rfl rfl rfl rfl rfl (fun _ => rfl) (fun _ _ h1 _ => by cases h1) ⟨_, Try.underlying24⟩ (of_decide_eq_true h1) rfl rfl ?_
  refine L.assign hF rfl rfl rfl ?_
  refine L.nil ?_
  refine WpC.ret ?_
  cases H
  exact Leaves.ret rfl rfl rfl ⟨rfl, rfl⟩
/-! ### Fslices_Sort_int (shelf) -/
theorem ent261 : MG.Enters Try.prog 261 := ⟨Try.f261, Try.func261, rfl, by decide⟩
/-! ### Fslices_Compact_int (shelf) -/
theorem ent262 : MG.Enters Try.prog 262 := ⟨Try.f262, Try.func262, rfl, by decide⟩
/-! ### Fimpl_risen -/
def Fimpl_risen (k : Nat) (a0 : List Int) : Option (List Int) := (Fslices_Sort_int k a0).bind fun r1 => (Fslices_Compact_int k r1).bind fun r2 => some r2
theorem ent187 : MG.Enters Try.prog 187 := ⟨Try.f187, Try.func187, rfl, by decide⟩
set_option maxHeartbeats 8000000 in
set_option maxRecDepth 100000 in
theorem Fimpl_risen_gives (k : Nat) (a0 : List Int) (r : List Int) (H : Fimpl_risen k a0 = some r) : Gives Try.prog 187 [V.one (Cell.ow 1 (List.map eI a0))] [] [V.one (Cell.ow 1 (List.map eI r))] [] := by
  refine Gives.intro Try.func187 rfl rfl rfl rfl ?_
  intro F hF hm
  unfold Fimpl_risen at H
  obtain ⟨K, hK⟩ : ∃ K, k ≤ K := ⟨k, Nat.le_refl k⟩
  refine WpC.seq ?_
  refine WpC.regionL ?_
  refine L.assign hF rfl rfl rfl ?_
  refine L.nil ?_
  refine WpC.seq ?_
  refine WpC.regionL ?_
  refine L.move hF rfl rfl rfl ?_
  obtain ⟨r1, hr1, H⟩ := bindS H
  refine L.callB [true] [] [] 1 [0] hF rfl rfl rfl ent261 rfl rfl rfl rfl rfl (Fslices_Sort_int_gives k  a0 r1 hr1) rfl rfl rfl ?_
  refine L.nil ?_
  refine WpC.seq ?_
  refine WpC.regionL ?_
  refine L.move hF rfl rfl rfl ?_
  obtain ⟨r2, hr2, H⟩ := bindS H
  refine L.call [true] [] [] 1 hF rfl rfl rfl ent262 rfl rfl rfl rfl rfl (Fslices_Compact_int_gives k  r1 r2 hr2) rfl ?_
  refine L.assign hF rfl rfl rfl ?_
  refine L.nil ?_
  refine WpC.ret ?_
  cases H
  exact Leaves.ret rfl rfl rfl ⟨rfl, rfl⟩
/-! ### Fslices_Index_int -/
def Fslices_Index_int.l2 : Nat → (List Int) → Int → Int → Int → Option Int
  | 0, _, _, _, _ => none
  | k2 + 1, v29, v30, v31, v32 => cond (decide (v32 < v31)) ((at? v29 v32).bind fun b34 => cond (v30 == b34) (some v32) ((Fslices_Index_int.l2 k2) v29 v30 v31 (IntKind.i64.wrap (v32 + (1 : Int))))) (some (-1 : Int))
def Fslices_Index_int (k : Nat) (a0 : List Int) (a1 : Int) : Option Int := Fslices_Index_int.l2 k a0 a1 (a0.length : Int) (0 : Int)
theorem ent285 : MG.Enters Try.prog 285 := ⟨Try.f285, Try.func285, rfl, by decide⟩
set_option maxHeartbeats 8000000 in
set_option maxRecDepth 100000 in
theorem Fslices_Index_int_gives (k : Nat) (g0 : Bool) (a0 : List Int) (a1 : Int) (r : Int) (H : Fslices_Index_int k a0 a1 = some r) : Gives Try.prog 285 [V.one (Cell.sl g0 (List.map eI a0)), V.one (cI a1)] [] [V.one (cI r)] [] := by
  refine Gives.intro Try.func285 rfl rfl rfl rfl ?_
  intro F hF hm
  unfold Fslices_Index_int at H
  obtain ⟨K, hK⟩ : ∃ K, k ≤ K := ⟨k, Nat.le_refl k⟩
  refine WpC.seq ?_
  refine WpC.regionL ?_
  refine L.assign hF rfl rfl rfl ?_
  refine L.nil ?_
  refine WpC.seq ?_
  refine WpC.seq ?_
  refine WpC.regionL ?_
  refine L.move hF rfl rfl rfl ?_
  refine L.lenR (xs := a0) (e := eI) Try.underlying24 hF rfl rfl rfl rfl ?_
  refine L.move hF rfl rfl rfl ?_
  refine L.nil ?_
  refine WpC.block ?_
  refine WpC.loopL (P := Try.prog) (fun n σ => ∃ v29 : List Int, ∃ v30 : Int, ∃ v31 : Int, ∃ v32 : Int, n ≤ K ∧ Fslices_Index_int.l2 n v29 v30 v31 v32 = some r ∧ σ = mkSt [(0, MG.one (Cell.sl g0 (List.map eI v29))), (1, MG.one (cI v30)), (7, MG.one (cI v31)), (8, MG.one (cI v32))] [] [] 0) k ⟨_, ⟨a0, a1, (a0.length : Int), (0 : Int), by omega, H, rfl⟩, Le.mk [] hm rfl ⟨⟨_, rfl, rfl⟩, ⟨_, rfl, rfl⟩, ⟨_, rfl, rfl⟩, ⟨_, rfl, rfl⟩, trivial⟩ trivial trivial⟩ ?_
  clear H
  rintro k2 _ ⟨v29, v30, v31, v32, hk2, H, rfl⟩
  cases k2 with
  | zero => cases H
  | succ k2 =>
    rw [Fslices_Index_int.l2] at H
    refine WpC.seq ?_
    refine WpC.regionL ?_
    refine L.bin hF rfl rfl rfl rfl rfl rfl ?_
    refine L.nil ?_
    refine WpC.seq ?_
    refine WpC.cond rfl (fun hc => ?_) (fun hc => ?_)
    · replace H := condT hc H
      refine WpC.skip ?_
      refine WpC.seq ?_
      refine WpC.block ?_
      refine WpC.seq ?_
      refine WpC.regionL ?_
      refine L.move hF rfl rfl rfl ?_
      refine L.assign hF rfl rfl rfl ?_
      refine L.nil ?_
      refine WpC.seq ?_
      refine WpC.regionL ?_
      refine L.move hF rfl rfl rfl ?_
      refine L.move hF rfl rfl rfl ?_
      refine L.move hF rfl rfl rfl ?_
      obtain ⟨b34, hb34, H⟩ := bindS H
      refine L.idxR (xs := v29) (e := eI) Try.underlying24 info3 hF rfl rfl rfl rfl rfl hb34 rfl rfl ?_
      refine L.loadPe shape3 hF rfl rfl rfl rfl rfl ?_
      refine L.bin hF rfl rfl rfl rfl rfl rfl ?_
      refine L.nil ?_
      refine WpC.cond rfl (fun hc => ?_) (fun hc => ?_)
      · replace H := condT hc H
        refine WpC.seq ?_
        refine WpC.regionL ?_
        refine L.move hF rfl rfl rfl ?_
        refine L.assign hF rfl rfl rfl ?_
        refine L.nil ?_
        refine WpC.ret ?_
        cases H
        exact Leaves.ret rfl rfl rfl ⟨rfl, rfl⟩
      · replace H := condF hc H
        refine WpC.skip ?_
        refine WpC.regionL ?_
        refine L.bin hF rfl rfl rfl rfl rfl rfl ?_
        refine L.move hF rfl rfl rfl ?_
        refine L.nil ?_
        exact ⟨k2, _, by omega, ⟨v29, v30, v31, (IntKind.i64.wrap (v32 + (1 : Int))), by omega, H, rfl⟩, Le.mk [] hm rfl ⟨⟨_, rfl, rfl⟩, ⟨_, rfl, rfl⟩, ⟨_, rfl, rfl⟩, ⟨_, rfl, rfl⟩, trivial⟩ trivial trivial⟩
    · replace H := condF hc H
      refine WpC.exit ?_
      refine WpC.seq ?_
      refine WpC.regionL ?_
      refine L.assign hF rfl rfl rfl ?_
      refine L.nil ?_
      refine WpC.ret ?_
      cases H
      exact Leaves.ret rfl rfl rfl ⟨rfl, rfl⟩
/-! ### Fslices_Contains_int -/
def Fslices_Contains_int (k : Nat) (a0 : List Int) (a1 : Int) : Option Bool := (Fslices_Index_int k a0 a1).bind fun r1 => some (decide (r1 ≥ (0 : Int)))
theorem ent260 : MG.Enters Try.prog 260 := ⟨Try.f260, Try.func260, rfl, by decide⟩
set_option maxHeartbeats 8000000 in
set_option maxRecDepth 100000 in
theorem Fslices_Contains_int_gives (k : Nat) (g0 : Bool) (a0 : List Int) (a1 : Int) (r : Bool) (H : Fslices_Contains_int k a0 a1 = some r) : Gives Try.prog 260 [V.one (Cell.sl g0 (List.map eI a0)), V.one (cI a1)] [] [V.one (cL r)] [] := by
  refine Gives.intro Try.func260 rfl rfl rfl rfl ?_
  intro F hF hm
  unfold Fslices_Contains_int at H
  obtain ⟨K, hK⟩ : ∃ K, k ≤ K := ⟨k, Nat.le_refl k⟩
  refine WpC.seq ?_
  refine WpC.regionL ?_
  refine L.assign hF rfl rfl rfl ?_
  refine L.nil ?_
  refine WpC.seq ?_
  refine WpC.regionL ?_
  refine L.move hF rfl rfl rfl ?_
  refine L.move hF rfl rfl rfl ?_
  obtain ⟨r1, hr1, H⟩ := bindS H
  refine L.call [false, false] [] [] 2 hF rfl rfl rfl ent285 rfl rfl rfl rfl rfl (Fslices_Index_int_gives k g0 a0 a1 r1 hr1) rfl ?_
  refine L.bin hF rfl rfl rfl rfl rfl rfl ?_
  refine L.assign hF rfl rfl rfl ?_
  refine L.nil ?_
  refine WpC.ret ?_
  cases H
  exact Leaves.ret rfl rfl rfl ⟨rfl, rfl⟩
/-! ### Fimpl_both -/
def Fimpl_both.j5 (k : Nat) (v73 : List Int) (v74 : Int) (v75 : List Int) (v76 : Int) : Option Timpl_Rule := some (⟨v74, v73, v76⟩ : Timpl_Rule)
def Fimpl_both.j9 (cl8 : (List Int) → (List Int) → Int → Int → Int → Int → Int → (List Int) → Int → Option Timpl_Rule) (k : Nat) (v137 : List Int) (v138 : List Int) (v139 : Int) (v140 : Int) (v141 : Int) (v142 : Int) (v143 : Int) (v144 : List Int) (v145 : Int) : Option Timpl_Rule := cl8 v137 v138 v139 (IntKind.i64.wrap (v140 + (1 : Int))) v141 v142 v143 v144 v145
def Fimpl_both.l8 : Nat → (List Int) → (List Int) → Int → Int → Int → Int → Int → (List Int) → Int → Option Timpl_Rule
  | 0, _, _, _, _, _, _, _, _, _ => none
  | k8 + 1, v125, v126, v127, v128, v129, v130, v131, v132, v133 => cond (decide (v128 < v127)) ((at? v126 v128).bind fun b146 => (Fslices_Contains_int k8 v132 b146).bind fun r147 => cond r147 (cond (decide ((2 * (v125.length + ([b146] : List Int).length) + 192) * 8 ≤ 281474976710656)) (Fimpl_both.j9 (Fimpl_both.l8 k8) k8 (v125 ++ ([b146] : List Int)) v126 v127 v128 v129 v130 v131 v132 v133) none) (Fimpl_both.j9 (Fimpl_both.l8 k8) k8 v125 v126 v127 v128 v129 v130 v131 v132 v133)) (Fimpl_both.j5 k8 v125 v129 v126 v130)
def Fimpl_both (k : Nat) (a0 : Timpl_Rule) (a1 : Timpl_Rule) : Option Timpl_Rule := cond (a0.Kind == (3 : Int)) ((Fimpl_copyInts k a0.Set).bind fun r77 => cond (decide ((2 * (r77.length + a1.Set.length) + 192) * 8 ≤ 281474976710656)) ((Fimpl_risen k (r77 ++ a1.Set)).bind fun r79 => Fimpl_both.j5 k r79 a0.Kind a0.Set (if a1.N < a0.N then a1.N else a0.N)) none) (Fimpl_both.l8 k ([] : List Int) a0.Set (a0.Set.length : Int) (0 : Int) a0.Kind (if a1.N < a0.N then a1.N else a0.N) a1.Kind a1.Set a1.N)
theorem ent255 : MG.Enters Try.prog 255 := ⟨Try.f255, Try.func255, rfl, by decide⟩
set_option maxHeartbeats 8000000 in
set_option maxRecDepth 100000 in
theorem Fimpl_both_gives (k : Nat) (g0 : Bool) (g1 : Bool) (a0 : Timpl_Rule) (a1 : Timpl_Rule) (r : Timpl_Rule) (H : Fimpl_both k a0 a1 = some r) : Gives Try.prog 255 [V.agg [cI a0.Kind, Cell.sl g0 (List.map eI a0.Set), cI a0.N], V.agg [cI a1.Kind, Cell.sl g1 (List.map eI a1.Set), cI a1.N]] [] [V.agg [cI r.Kind, Cell.ow 1 (List.map eI r.Set), cI r.N]] [] := by
  refine Gives.intro Try.func255 rfl rfl rfl rfl ?_
  intro F hF hm
  unfold Fimpl_both at H
  obtain ⟨K, hK⟩ : ∃ K, k ≤ K := ⟨k, Nat.le_refl k⟩
  refine WpC.seq ?_
  refine WpC.regionL ?_
  refine L.box 6 hF rfl rfl rfl rfl ?_
  refine L.box 7 hF rfl rfl rfl rfl ?_
  refine L.alloc 8 info162 rfl hF rfl rfl rfl rfl ?_
  refine L.nil ?_
  refine WpC.seq ?_
  refine WpC.regionL ?_
  refine L.fieldAddr Try.underlying162 rfl info3 rfl hF rfl rfl rfl rfl rfl ?_
  refine L.loadPtr shape3 hF rfl rfl rfl rfl rfl rfl ?_
  refine L.fieldAddr Try.underlying162 rfl info3 rfl hF rfl rfl rfl rfl rfl ?_
  refine L.loadPtr shape3 hF rfl rfl rfl rfl rfl rfl ?_
  refine L.minI hF rfl rfl rfl rfl ?_
  refine L.fieldAddr Try.underlying162 rfl info3 rfl hF rfl rfl rfl rfl rfl ?_
  refine L.storePtr shape3 hF rfl rfl rfl rfl rfl rfl rfl ?_
  refine L.nil ?_
  refine WpC.seq ?_
  refine WpC.regionL ?_
  refine L.buildSlice (e := eI) 9 ([] : List Int) Try.underlying24 info3 rfl rfl rfl hF rfl rfl rfl rfl rfl rfl rfl rfl ?_
  refine L.assign hF rfl rfl rfl ?_
  refine L.nil ?_
  refine WpC.join (fun σ => ∃ kj5 : Nat, ∃ v73 : List Int, ∃ v74 : Int, ∃ v75 : List Int, ∃ v76 : Int, kj5 ≤ K ∧ Fimpl_both.j5 kj5 v73 v74 v75 v76 = some r ∧ σ = mkSt [(2, MG.one (Cell.ptr 0 0)), (4, MG.one (Cell.ptr 1 0)), (5, MG.one (Cell.own 2))] [(2, ⟨1, List.map eI v73⟩)] [(0, [cI v74, Cell.sl g0 (List.map eI v75), cI v76]), (1, [cI (0 : Int), Cell.nil, cI (0 : Int)])] 3) ?_ ?_
  · rintro _ ⟨kj5, v73, v74, v75, v76, hkj5, H, rfl⟩
    unfold Fimpl_both.j5 at H
    refine WpC.seq ?_
    refine WpC.regionL ?_
    refine L.move hF rfl rfl rfl ?_
    refine L.fieldAddr Try.underlying162 rfl info24 rfl hF rfl rfl rfl rfl rfl ?_
    refine L.storePtr shape24 hF rfl rfl rfl rfl rfl rfl rfl ?_
    refine L.nil ?_
    refine WpC.seq ?_
    refine WpC.regionL ?_
    refine L.loadPtr shape162 hF rfl rfl rfl rfl rfl rfl ?_
    refine L.storePtr shape162 hF rfl rfl rfl rfl rfl rfl rfl ?_
    refine L.nil ?_
    refine WpC.ret ?_
    cases H
    exact Leaves.ret rfl rfl rfl ⟨rfl, rfl⟩
  · refine WpC.seq ?_
    refine WpC.regionL ?_
    refine L.fieldAddr Try.underlying162 rfl info3 rfl hF rfl rfl rfl rfl rfl ?_
    refine L.loadPtr shape3 hF rfl rfl rfl rfl rfl rfl ?_
    refine L.bin hF rfl rfl rfl rfl rfl rfl ?_
    refine L.nil ?_
    refine WpC.cond rfl (fun hc => ?_) (fun hc => ?_)
    · replace H := condT hc H
      obtain ⟨r77, hr77, H⟩ := bindS H
      obtain ⟨h78, H⟩ := condG H
      obtain ⟨r79, hr79, H⟩ := bindS H
      refine A.begin mixed rfl rfl ?_
      intro W hI hO
      have n31 : W 3 #[true, true, true, true, true, false, false, false] (mkSt [(2, MG.one (Cell.ptr 0 0)), (4, MG.one (Cell.ptr 1 0)), (5, MG.one (Cell.own 2)), (20, MG.one (Cell.own 3)), (22, MG.one (Cell.sl g1 (List.map eI a1.Set)))] [(2, ⟨1, List.map eI ([] : List Int)⟩), (3, ⟨1, List.map eI r77⟩)] [(0, [cI a0.Kind, Cell.sl g0 (List.map eI a0.Set), cI (if a1.N < a0.N then a1.N else a0.N)]), (1, [cI (0 : Int), Cell.nil, cI (0 : Int)])] 4) := by
        refine hI _ _ _ ?_
        refine A.all [5] (by kernel_rfl) rfl ⟨⟨_, rfl, ?_⟩, trivial⟩
        refine L.append (xs := r77) (ys := a1.Set) (e := eI) 4 Try.underlying24 info3 rfl rfl hF rfl rfl rfl rfl rfl rfl rfl rfl (fun _ => rfl) (fun _ _ h1 h2 => by cases h1; cases h2; rfl) ⟨_, Try.underlying24⟩ (of_decide_eq_true h78) rfl rfl ?_
        refine L.nil ?_
        refine A.all [6] (by kernel_rfl) rfl ⟨⟨_, rfl, ?_⟩, trivial⟩
        refine L.call [true] [] [] 5 hF rfl rfl rfl ent187 rfl rfl rfl rfl rfl (Fimpl_risen_gives k  (r77 ++ a1.Set) r79 hr79) rfl ?_
        refine L.nil ?_
        refine A.take 7 rfl (by kernel_rfl) (by kernel_rfl) (by kernel_rfl) rfl (Ca.assign) (fun Q0 k0 => L.assign hF rfl rfl rfl (L.nil k0)) ?_
        refine A.le (τ := mkSt [(2, MG.one (Cell.ptr 0 0)), (4, MG.one (Cell.ptr 1 0)), (5, MG.one (Cell.own 2))] [(2, ⟨1, List.map eI r79⟩)] [(0, [cI a0.Kind, Cell.sl g0 (List.map eI a0.Set), cI (if a1.N < a0.N then a1.N else a0.N)]), (1, [cI (0 : Int), Cell.nil, cI (0 : Int)])] 3) (Le.mk [(0, 0), (1, 1), (2, 5)] hm rfl ⟨⟨_, rfl, rfl⟩, ⟨_, rfl, rfl⟩, ⟨_, rfl, rfl⟩, trivial⟩ ⟨⟨_, rfl, rfl⟩, trivial⟩ ⟨⟨_, _, rfl, rfl, rfl⟩, ⟨_, _, rfl, rfl, rfl⟩, trivial⟩) ?_
        refine A.done (by kernel_rfl) ?_
        exact ⟨_, ⟨k, r79, a0.Kind, a0.Set, (if a1.N < a0.N then a1.N else a0.N), by omega, H, rfl⟩, Le.mk [(0, 0), (1, 1), (2, 2)] hm rfl ⟨⟨_, rfl, rfl⟩, ⟨_, rfl, rfl⟩, ⟨_, rfl, rfl⟩, trivial⟩ ⟨⟨_, rfl, rfl⟩, trivial⟩ ⟨⟨_, _, rfl, rfl, rfl⟩, ⟨_, _, rfl, rfl, rfl⟩, trivial⟩⟩
      have n27 : W 4 #[true, true, false, true, true, false, false, false] (mkSt [(2, MG.one (Cell.ptr 0 0)), (4, MG.one (Cell.ptr 1 0)), (5, MG.one (Cell.own 2)), (19, MG.one (Cell.sl g0 (List.map eI a0.Set))), (22, MG.one (Cell.sl g1 (List.map eI a1.Set)))] [(2, ⟨1, List.map eI ([] : List Int)⟩)] [(0, [cI a0.Kind, Cell.sl g0 (List.map eI a0.Set), cI (if a1.N < a0.N then a1.N else a0.N)]), (1, [cI (0 : Int), Cell.nil, cI (0 : Int)])] 3) := by
        refine hI _ _ _ ?_
        refine A.all [2] (by kernel_rfl) rfl ⟨⟨_, rfl, ?_⟩, trivial⟩
        refine L.call [false] [] [] 3 hF rfl rfl rfl ent256 rfl rfl rfl rfl rfl (Fimpl_copyInts_gives k g0 a0.Set r77 hr77) rfl ?_
        refine L.nil ?_
        exact A.on (hO _ _ _ n31) (Le.mk [(0, 0), (1, 1), (2, 2), (3, 3)] hm rfl ⟨⟨_, rfl, rfl⟩, ⟨_, rfl, rfl⟩, ⟨_, rfl, rfl⟩, ⟨_, rfl, rfl⟩, ⟨_, rfl, rfl⟩, trivial⟩ ⟨⟨_, rfl, rfl⟩, ⟨_, rfl, rfl⟩, trivial⟩ ⟨⟨_, _, rfl, rfl, rfl⟩, ⟨_, _, rfl, rfl, rfl⟩, trivial⟩)
      refine hI _ _ _ ?_
      refine A.take 0 rfl (by kernel_rfl) (by kernel_rfl) (by kernel_rfl) rfl (Ca.fieldAddr Try.underlying162 rfl info24 rfl) (fun Q0 k0 => L.fieldAddr Try.underlying162 rfl info24 rfl hF rfl rfl rfl rfl rfl (L.nil k0)) ?_
      refine A.take 3 rfl (by kernel_rfl) (by kernel_rfl) (by kernel_rfl) rfl (Ca.fieldAddr Try.underlying162 rfl info24 rfl) (fun Q0 k0 => L.fieldAddr Try.underlying162 rfl info24 rfl hF rfl rfl rfl rfl rfl (L.nil k0)) ?_
      refine A.all [1, 4] (by kernel_rfl) rfl ⟨⟨_, rfl, ?_⟩, ⟨_, rfl, ?_⟩, trivial⟩
      · refine L.loadPtr shape24 hF rfl rfl rfl rfl rfl rfl ?_
        refine L.nil ?_
        refine A.all [2, 4] (by kernel_rfl) rfl ⟨⟨_, rfl, ?_⟩, ⟨_, rfl, ?_⟩, trivial⟩
        · refine L.call [false] [] [] 10 hF rfl rfl rfl ent256 rfl rfl rfl rfl rfl (Fimpl_copyInts_gives k g0 a0.Set r77 hr77) rfl ?_
          refine L.nil ?_
          refine A.all [4] (by kernel_rfl) rfl ⟨⟨_, rfl, ?_⟩, trivial⟩
          refine L.loadPtr shape24 hF rfl rfl rfl rfl rfl rfl ?_
          refine L.nil ?_
          exact A.on (hO _ _ _ n31) (Le.mk [(0, 6), (1, 8), (2, 9), (3, 10)] hm rfl ⟨⟨_, rfl, rfl⟩, ⟨_, rfl, rfl⟩, ⟨_, rfl, rfl⟩, ⟨_, rfl, rfl⟩, ⟨_, rfl, rfl⟩, trivial⟩ ⟨⟨_, rfl, rfl⟩, ⟨_, rfl, rfl⟩, trivial⟩ ⟨⟨_, _, rfl, rfl, rfl⟩, ⟨_, _, rfl, rfl, rfl⟩, trivial⟩)
        · refine L.loadPtr shape24 hF rfl rfl rfl rfl rfl rfl ?_
          refine L.nil ?_
          exact A.on (hO _ _ _ n27) (Le.mk [(0, 6), (1, 8), (2, 9)] hm rfl ⟨⟨_, rfl, rfl⟩, ⟨_, rfl, rfl⟩, ⟨_, rfl, rfl⟩, ⟨_, rfl, rfl⟩, ⟨_, rfl, rfl⟩, trivial⟩ ⟨⟨_, rfl, rfl⟩, trivial⟩ ⟨⟨_, _, rfl, rfl, rfl⟩, ⟨_, _, rfl, rfl, rfl⟩, trivial⟩)
      · refine L.loadPtr shape24 hF rfl rfl rfl rfl rfl rfl ?_
        refine L.nil ?_
        refine A.all [1] (by kernel_rfl) rfl ⟨⟨_, rfl, ?_⟩, trivial⟩
        refine L.loadPtr shape24 hF rfl rfl rfl rfl rfl rfl ?_
        refine L.nil ?_
        exact A.on (hO _ _ _ n27) (Le.mk [(0, 6), (1, 8), (2, 9)] hm rfl ⟨⟨_, rfl, rfl⟩, ⟨_, rfl, rfl⟩, ⟨_, rfl, rfl⟩, ⟨_, rfl, rfl⟩, ⟨_, rfl, rfl⟩, trivial⟩ ⟨⟨_, rfl, rfl⟩, trivial⟩ ⟨⟨_, _, rfl, rfl, rfl⟩, ⟨_, _, rfl, rfl, rfl⟩, trivial⟩)
    · replace H := condF hc H
      refine WpC.seq ?_
      refine WpC.regionL ?_
      refine L.fieldAddr Try.underlying162 rfl info24 rfl hF rfl rfl rfl rfl rfl ?_
      refine L.loadPtr shape24 hF rfl rfl rfl rfl rfl rfl ?_
      refine L.lenR (xs := a0.Set) (e := eI) Try.underlying24 hF rfl rfl rfl rfl ?_
      refine L.move hF rfl rfl rfl ?_
      refine L.nil ?_
      refine WpC.block ?_
      refine WpC.loopL (P := Try.prog) (fun n σ => ∃ v125 : List Int, ∃ v126 : List Int, ∃ v127 : Int, ∃ v128 : Int, ∃ v129 : Int, ∃ v130 : Int, ∃ v131 : Int, ∃ v132 : List Int, ∃ v133 : Int, n ≤ K ∧ Fimpl_both.l8 n v125 v126 v127 v128 v129 v130 v131 v132 v133 = some r ∧ σ = mkSt [(2, MG.one (Cell.ptr 0 0)), (3, MG.one (Cell.ptr 1 0)), (4, MG.one (Cell.ptr 2 0)), (5, MG.one (Cell.own 3)), (26, MG.one (Cell.sl g0 (List.map eI v126))), (27, MG.one (cI v127)), (28, MG.one (cI v128))] [(3, ⟨1, List.map eI v125⟩)] [(0, [cI v129, Cell.sl g0 (List.map eI v126), cI v130]), (1, [cI v131, Cell.sl g1 (List.map eI v132), cI v133]), (2, [cI (0 : Int), Cell.nil, cI (0 : Int)])] 4) k ⟨_, ⟨([] : List Int), a0.Set, (a0.Set.length : Int), (0 : Int), a0.Kind, (if a1.N < a0.N then a1.N else a0.N), a1.Kind, a1.Set, a1.N, by omega, H, rfl⟩, Le.mk [(0, 6), (1, 7), (2, 8), (3, 9)] hm rfl ⟨⟨_, rfl, rfl⟩, ⟨_, rfl, rfl⟩, ⟨_, rfl, rfl⟩, ⟨_, rfl, rfl⟩, ⟨_, rfl, rfl⟩, ⟨_, rfl, rfl⟩, ⟨_, rfl, rfl⟩, trivial⟩ ⟨⟨_, rfl, rfl⟩, trivial⟩ ⟨⟨_, _, rfl, rfl, rfl⟩, ⟨_, _, rfl, rfl, rfl⟩, ⟨_, _, rfl, rfl, rfl⟩, trivial⟩⟩ ?_
      clear H
      rintro k8 _ ⟨v125, v126, v127, v128, v129, v130, v131, v132, v133, hk8, H, rfl⟩
      cases k8 with
      | zero => cases H
      | succ k8 =>
        rw [Fimpl_both.l8] at H
        refine WpC.seq ?_
        refine WpC.regionL ?_
        refine L.bin hF rfl rfl rfl rfl rfl rfl ?_
        refine L.nil ?_
        refine WpC.seq ?_
        refine WpC.cond rfl (fun hc => ?_) (fun hc => ?_)
        · replace H := condT hc H
          refine WpC.skip ?_
          refine WpC.join (fun σ => ∃ kj9 : Nat, ∃ v137 : List Int, ∃ v138 : List Int, ∃ v139 : Int, ∃ v140 : Int, ∃ v141 : Int, ∃ v142 : Int, ∃ v143 : Int, ∃ v144 : List Int, ∃ v145 : Int, kj9 ≤ K ∧ Fimpl_both.j9 (Fimpl_both.l8 k8) kj9 v137 v138 v139 v140 v141 v142 v143 v144 v145 = some r ∧ σ = mkSt [(2, MG.one (Cell.ptr 0 0)), (3, MG.one (Cell.ptr 1 0)), (4, MG.one (Cell.ptr 2 0)), (5, MG.one (Cell.own 3)), (26, MG.one (Cell.sl g0 (List.map eI v138))), (27, MG.one (cI v139)), (28, MG.one (cI v140))] [(3, ⟨1, List.map eI v137⟩)] [(0, [cI v141, Cell.sl g0 (List.map eI v138), cI v142]), (1, [cI v143, Cell.sl g1 (List.map eI v144), cI v145]), (2, [cI (0 : Int), Cell.nil, cI (0 : Int)])] 4) ?_ ?_
          · rintro _ ⟨kj9, v137, v138, v139, v140, v141, v142, v143, v144, v145, hkj9, H, rfl⟩
            unfold Fimpl_both.j9 at H
            refine WpC.regionL ?_
            refine L.bin hF rfl rfl rfl rfl rfl rfl ?_
            refine L.move hF rfl rfl rfl ?_
            refine L.nil ?_
            exact ⟨k8, _, by omega, ⟨v137, v138, v139, (IntKind.i64.wrap (v140 + (1 : Int))), v141, v142, v143, v144, v145, by omega, H, rfl⟩, Le.mk [(0, 0), (1, 1), (2, 2), (3, 3)] hm rfl ⟨⟨_, rfl, rfl⟩, ⟨_, rfl, rfl⟩, ⟨_, rfl, rfl⟩, ⟨_, rfl, rfl⟩, ⟨_, rfl, rfl⟩, ⟨_, rfl, rfl⟩, ⟨_, rfl, rfl⟩, trivial⟩ ⟨⟨_, rfl, rfl⟩, trivial⟩ ⟨⟨_, _, rfl, rfl, rfl⟩, ⟨_, _, rfl, rfl, rfl⟩, ⟨_, _, rfl, rfl, rfl⟩, trivial⟩⟩
          · refine WpC.block ?_
            refine WpC.seq ?_
            refine WpC.regionL ?_
            obtain ⟨b146, hb146, H⟩ := bindS H
            refine L.idxR (xs := v126) (e := eI) Try.underlying24 info3 hF rfl rfl rfl rfl rfl hb146 rfl rfl ?_
            refine L.loadPe shape3 hF rfl rfl rfl rfl rfl ?_
            refine L.assign hF rfl rfl rfl ?_
            refine L.nil ?_
            refine WpC.seq ?_
            refine WpC.regionL ?_
            refine L.fieldAddr Try.underlying162 rfl info24 rfl hF rfl rfl rfl rfl rfl ?_
            refine L.loadPtr shape24 hF rfl rfl rfl rfl rfl rfl ?_
            refine L.move hF rfl rfl rfl ?_
            obtain ⟨r147, hr147, H⟩ := bindS H
            refine L.call [false, false] [] [] 4 hF rfl rfl rfl ent260 rfl rfl rfl rfl rfl (Fslices_Contains_int_gives k8 g1 v132 b146 r147 hr147) rfl ?_
            refine L.nil ?_
            refine WpC.cond rfl (fun hc => ?_) (fun hc => ?_)
            · replace H := condT hc H
              refine WpC.regionL ?_
              refine L.move hF rfl rfl rfl ?_
              refine L.move hF rfl rfl rfl ?_
              refine L.buildSlice (e := eI) 5 ([b146] : List Int) Try.underlying24 info3 rfl rfl rfl hF rfl rfl rfl rfl rfl rfl rfl rfl ?_
              obtain ⟨h148, H⟩ := condG H
              refine L.append (xs := v125) (ys := ([b146] : List Int)) (e := eI) 6 Try.underlying24 info3 rfl rfl hF rfl rfl rfl rfl rfl rfl rfl rfl (fun _ => rfl) (fun _ _ h1 h2 => by cases h1; cases h2; rfl) ⟨_, Try.underlying24⟩ (of_decide_eq_true h148) rfl rfl ?_
              refine L.assign hF rfl rfl rfl ?_
              refine L.nil ?_
              exact ⟨_, ⟨k8, (v125 ++ ([b146] : List Int)), v126, v127, v128, v129, v130, v131, v132, v133, by omega, H, rfl⟩, Le.mk [(0, 0), (1, 1), (2, 2), (3, 6)] hm rfl ⟨⟨_, rfl, rfl⟩, ⟨_, rfl, rfl⟩, ⟨_, rfl, rfl⟩, ⟨_, rfl, rfl⟩, ⟨_, rfl, rfl⟩, ⟨_, rfl, rfl⟩, ⟨_, rfl, rfl⟩, trivial⟩ ⟨⟨_, rfl, rfl⟩, trivial⟩ ⟨⟨_, _, rfl, rfl, rfl⟩, ⟨_, _, rfl, rfl, rfl⟩, ⟨_, _, rfl, rfl, rfl⟩, trivial⟩⟩
            · replace H := condF hc H
              refine WpC.skip ?_
              exact ⟨_, ⟨k8, v125, v126, v127, v128, v129, v130, v131, v132, v133, by omega, H, rfl⟩, Le.mk [(0, 0), (1, 1), (2, 2), (3, 3)] hm rfl ⟨⟨_, rfl, rfl⟩, ⟨_, rfl, rfl⟩, ⟨_, rfl, rfl⟩, ⟨_, rfl, rfl⟩, ⟨_, rfl, rfl⟩, ⟨_, rfl, rfl⟩, ⟨_, rfl, rfl⟩, trivial⟩ ⟨⟨_, rfl, rfl⟩, trivial⟩ ⟨⟨_, _, rfl, rfl, rfl⟩, ⟨_, _, rfl, rfl, rfl⟩, ⟨_, _, rfl, rfl, rfl⟩, trivial⟩⟩
        · replace H := condF hc H
          refine WpC.exit ?_
          exact ⟨_, ⟨k8, v125, v129, v126, v130, by omega, H, rfl⟩, Le.mk [(0, 0), (1, 2), (2, 3)] hm rfl ⟨⟨_, rfl, rfl⟩, ⟨_, rfl, rfl⟩, ⟨_, rfl, rfl⟩, trivial⟩ ⟨⟨_, rfl, rfl⟩, trivial⟩ ⟨⟨_, _, rfl, rfl, rfl⟩, ⟨_, _, rfl, rfl, rfl⟩, trivial⟩⟩
/-! ### Fimpl_normal -/
def Fimpl_normal.j50 (cl49 : (List Timpl_Rule) → (List Timpl_Rule) → Int → Bool → Int → Int → Option (List Timpl_Rule)) (k : Nat) (v737 : List Timpl_Rule) (v738 : List Timpl_Rule) (v739 : Int) (v740 : Bool) (v741 : Int) (v742 : Int) : Option (List Timpl_Rule) := cl49 v737 v738 v739 v740 v741 (IntKind.i64.wrap (v742 + (1 : Int)))
def Fimpl_normal.l49 (cl42 : (List Timpl_Rule) → (List Timpl_Rule) → Int → Option (List Timpl_Rule)) : Nat → (List Timpl_Rule) → (List Timpl_Rule) → Int → Bool → Int → Int → Option (List Timpl_Rule)
  | 0, _, _, _, _, _, _ => none
  | k49 + 1, v725, v726, v727, v728, v729, v730 => cond (decide (v730 < v729)) ((at? v725 v730).bind fun b743 => cond (b743.Kind != v727) (Fimpl_normal.j50 (Fimpl_normal.l49 cl42 k49) k49 v725 v726 v727 v728 v729 v730) (cond v728 ((at? v726 (IntKind.i64.wrap ((v726.length : Int) - (1 : Int)))).bind fun b744 => (Fimpl_both k49 b744 b743).bind fun r745 => (at? v726 (IntKind.i64.wrap ((v726.length : Int) - (1 : Int)))).bind fun b746 => Fimpl_normal.j50 (Fimpl_normal.l49 cl42 k49) k49 v725 (v726.set ((IntKind.i64.wrap ((v726.length : Int) - (1 : Int))).toNat) r745) v727 v728 v729 v730) ((Fimpl_copyInts k49 b743.Set).bind fun r747 => cond (decide ((2 * (v726.length + ([(⟨v727, r747, b743.N⟩ : Timpl_Rule)] : List Timpl_Rule).length) + 192) * 40 ≤ 281474976710656)) (Fimpl_normal.j50 (Fimpl_normal.l49 cl42 k49) k49 v725 (v726 ++ ([(⟨v727, r747, b743.N⟩ : Timpl_Rule)] : List Timpl_Rule)) v727 true v729 v730) none))) (cl42 v725 v726 (IntKind.i64.wrap (v727 + (1 : Int))))
def Fimpl_normal.l42 : Nat → (List Timpl_Rule) → (List Timpl_Rule) → Int → Option (List Timpl_Rule)
  | 0, _, _, _ => none
  | k42 + 1, v620, v621, v622 => cond (decide (v622 ≤ (5 : Int))) (Fimpl_normal.l49 (Fimpl_normal.l42 k42) k42 v620 v621 v622 false (v620.length : Int) (0 : Int)) (some v621)
def Fimpl_normal (k : Nat) (a0 : List Timpl_Rule) : Option (List Timpl_Rule) := Fimpl_normal.l42 k a0 ([] : List Timpl_Rule) (1 : Int)
theorem ent167 : MG.Enters Try.prog 167 := ⟨Try.f167, Try.func167, rfl, by decide⟩
set_option maxHeartbeats 8000000 in
set_option maxRecDepth 100000 in
theorem Fimpl_normal_gives (k : Nat) (g0 : Bool) (a0 : List Timpl_Rule) (r : List Timpl_Rule) (H : Fimpl_normal k a0 = some r) : Gives Try.prog 167 [V.one (Cell.sl g0 (List.map eTimpl_Rule a0))] [] [V.one (Cell.ow 3 (List.map eTimpl_Rule r))] [] := by
  refine Gives.intro Try.func167 rfl rfl rfl rfl ?_
  intro F hF hm
  unfold Fimpl_normal at H
  obtain ⟨K, hK⟩ : ∃ K, k ≤ K := ⟨k, Nat.le_refl k⟩
  refine WpC.seq ?_
  refine WpC.regionL ?_
  refine L.assign hF rfl rfl rfl ?_
  refine L.nil ?_
  refine WpC.seq ?_
  refine WpC.regionL ?_
  refine L.buildSlice (e := eTimpl_Rule) 1 ([] : List Timpl_Rule) Try.underlying44 info162 rfl rfl rfl hF rfl rfl rfl rfl rfl rfl rfl rfl ?_
  refine L.assign hF rfl rfl rfl ?_
  refine L.nil ?_
  refine WpC.seq ?_
  refine WpC.seq ?_
  refine WpC.regionL ?_
  refine L.assign hF rfl rfl rfl ?_
  refine L.nil ?_
  refine WpC.block ?_
  refine WpC.loopL (P := Try.prog) (fun n σ => ∃ v620 : List Timpl_Rule, ∃ v621 : List Timpl_Rule, ∃ v622 : Int, n ≤ K ∧ Fimpl_normal.l42 n v620 v621 v622 = some r ∧ σ = mkSt [(0, MG.one (Cell.sl g0 (List.map eTimpl_Rule v620))), (3, MG.one (Cell.own 0)), (4, MG.one (cI v622))] [(0, ⟨3, List.map eTimpl_Rule v621⟩)] [] 1) k ⟨_, ⟨a0, ([] : List Timpl_Rule), (1 : Int), by omega, H, rfl⟩, Le.mk [(0, 1)] hm rfl ⟨⟨_, rfl, rfl⟩, ⟨_, rfl, rfl⟩, ⟨_, rfl, rfl⟩, trivial⟩ ⟨⟨_, rfl, rfl⟩, trivial⟩ trivial⟩ ?_
  clear H
  rintro k42 _ ⟨v620, v621, v622, hk42, H, rfl⟩
  cases k42 with
  | zero => cases H
  | succ k42 =>
    rw [Fimpl_normal.l42] at H
    refine WpC.seq ?_
    refine WpC.seq ?_
    refine WpC.regionL ?_
    refine L.move hF rfl rfl rfl ?_
    refine L.bin hF rfl rfl rfl rfl rfl rfl ?_
    refine L.nil ?_
    refine WpC.cond rfl (fun hc => ?_) (fun hc => ?_)
    · replace H := condT hc H
      refine WpC.skip ?_
      refine WpC.seq ?_
      refine WpC.block ?_
      refine WpC.seq ?_
      refine WpC.regionL ?_
      refine L.assign hF rfl rfl rfl ?_
      refine L.nil ?_
      refine WpC.seq ?_
      refine WpC.regionL ?_
      refine L.move hF rfl rfl rfl ?_
      refine L.lenR (xs := v620) (e := eTimpl_Rule) Try.underlying44 hF rfl rfl rfl rfl ?_
      refine L.move hF rfl rfl rfl ?_
      refine L.nil ?_
      refine WpC.block ?_
      refine WpC.loopL (P := Try.prog) (fun n σ => ∃ v725 : List Timpl_Rule, ∃ v726 : List Timpl_Rule, ∃ v727 : Int, ∃ v728 : Bool, ∃ v729 : Int, ∃ v730 : Int, n ≤ K ∧ Fimpl_normal.l49 (Fimpl_normal.l42 k42) n v725 v726 v727 v728 v729 v730 = some r ∧ σ = mkSt [(0, MG.one (Cell.sl g0 (List.map eTimpl_Rule v725))), (3, MG.one (Cell.own 0)), (4, MG.one (cI v727)), (5, MG.one (cL v728)), (13, MG.one (Cell.sl g0 (List.map eTimpl_Rule v725))), (14, MG.one (cI v729)), (15, MG.one (cI v730))] [(0, ⟨3, List.map eTimpl_Rule v726⟩)] [] 1) k42 ⟨_, ⟨v620, v621, v622, false, (v620.length : Int), (0 : Int), by omega, H, rfl⟩, Le.mk [(0, 0)] hm rfl ⟨⟨_, rfl, rfl⟩, ⟨_, rfl, rfl⟩, ⟨_, rfl, rfl⟩, ⟨_, rfl, rfl⟩, ⟨_, rfl, rfl⟩, ⟨_, rfl, rfl⟩, ⟨_, rfl, rfl⟩, trivial⟩ ⟨⟨_, rfl, rfl⟩, trivial⟩ trivial⟩ ?_
      clear H
      rintro k49 _ ⟨v725, v726, v727, v728, v729, v730, hk49, H, rfl⟩
      cases k49 with
      | zero => cases H
      | succ k49 =>
        rw [Fimpl_normal.l49] at H
        refine WpC.seq ?_
        refine WpC.regionL ?_
        refine L.bin hF rfl rfl rfl rfl rfl rfl ?_
        refine L.nil ?_
        refine WpC.seq ?_
        refine WpC.cond rfl (fun hc => ?_) (fun hc => ?_)
        · replace H := condT hc H
          refine WpC.skip ?_
          refine WpC.join (fun σ => ∃ kj50 : Nat, ∃ v737 : List Timpl_Rule, ∃ v738 : List Timpl_Rule, ∃ v739 : Int, ∃ v740 : Bool, ∃ v741 : Int, ∃ v742 : Int, kj50 ≤ K ∧ Fimpl_normal.j50 (Fimpl_normal.l49 (Fimpl_normal.l42 k42) k49) kj50 v737 v738 v739 v740 v741 v742 = some r ∧ σ = mkSt [(0, MG.one (Cell.sl g0 (List.map eTimpl_Rule v737))), (3, MG.one (Cell.own 0)), (4, MG.one (cI v739)), (5, MG.one (cL v740)), (13, MG.one (Cell.sl g0 (List.map eTimpl_Rule v737))), (14, MG.one (cI v741)), (15, MG.one (cI v742))] [(0, ⟨3, List.map eTimpl_Rule v738⟩)] [] 1) ?_ ?_
          · rintro _ ⟨kj50, v737, v738, v739, v740, v741, v742, hkj50, H, rfl⟩
            unfold Fimpl_normal.j50 at H
            refine WpC.regionL ?_
            refine L.bin hF rfl rfl rfl rfl rfl rfl ?_
            refine L.move hF rfl rfl rfl ?_
            refine L.nil ?_
            exact ⟨k49, _, by omega, ⟨v737, v738, v739, v740, v741, (IntKind.i64.wrap (v742 + (1 : Int))), by omega, H, rfl⟩, Le.mk [(0, 0)] hm rfl ⟨⟨_, rfl, rfl⟩, ⟨_, rfl, rfl⟩, ⟨_, rfl, rfl⟩, ⟨_, rfl, rfl⟩, ⟨_, rfl, rfl⟩, ⟨_, rfl, rfl⟩, ⟨_, rfl, rfl⟩, trivial⟩ ⟨⟨_, rfl, rfl⟩, trivial⟩ trivial⟩
          · refine WpC.block ?_
            refine WpC.seq ?_
            refine WpC.regionL ?_
            obtain ⟨b743, hb743, H⟩ := bindS H
            refine L.idxR (xs := v725) (e := eTimpl_Rule) Try.underlying44 info162 hF rfl rfl rfl rfl rfl hb743 rfl rfl ?_
            refine L.loadPe shape162 hF rfl rfl rfl rfl rfl ?_
            refine L.alloc 1 info162 rfl hF rfl rfl rfl rfl ?_
            refine L.storePtr shape162 hF rfl rfl rfl rfl rfl rfl rfl ?_
            refine L.nil ?_
            refine WpC.block ?_
            refine WpC.seq ?_
            refine WpC.regionL ?_
            refine L.fieldAddr Try.underlying162 rfl info3 rfl hF rfl rfl rfl rfl rfl ?_
            refine L.loadPtr shape3 hF rfl rfl rfl rfl rfl rfl ?_
            refine L.move hF rfl rfl rfl ?_
            refine L.bin hF rfl rfl rfl rfl rfl rfl ?_
            refine L.assign hF rfl rfl rfl ?_
            refine L.nil ?_
            refine WpC.cond rfl (fun hc => ?_) (fun hc => ?_)
            · replace H := condT hc H
              refine WpC.skip ?_
              exact ⟨_, ⟨k49, v725, v726, v727, v728, v729, v730, by omega, H, rfl⟩, Le.mk [(0, 0)] hm rfl ⟨⟨_, rfl, rfl⟩, ⟨_, rfl, rfl⟩, ⟨_, rfl, rfl⟩, ⟨_, rfl, rfl⟩, ⟨_, rfl, rfl⟩, ⟨_, rfl, rfl⟩, ⟨_, rfl, rfl⟩, trivial⟩ ⟨⟨_, rfl, rfl⟩, trivial⟩ trivial⟩
            · replace H := condF hc H
              refine WpC.seq ?_
              refine WpC.regionL ?_
              refine L.move hF rfl rfl rfl ?_
              refine L.assign hF rfl rfl rfl ?_
              refine L.nil ?_
              refine WpC.cond rfl (fun hc => ?_) (fun hc => ?_)
              · replace H := condT hc H
                obtain ⟨b744, hb744, H⟩ := bindS H
                obtain ⟨r745, hr745, H⟩ := bindS H
                obtain ⟨b746, hb746, H⟩ := bindS H
                refine A.begin mixed rfl rfl ?_
                intro W hI hO
                have n2047 : W 3 #[true, true, true, true, true, true, true, true, true, true, true, false, false, false] (mkSt [(0, MG.one (Cell.sl g0 (List.map eTimpl_Rule v725))), (3, MG.one (Cell.own 0)), (4, MG.one (cI v727)), (5, MG.one (cL v728)), (13, MG.one (Cell.sl g0 (List.map eTimpl_Rule v725))), (14, MG.one (cI v729)), (15, MG.one (cI v730)), (36, MG.one (Cell.own 0)), (39, MG.one (cI (IntKind.i64.wrap ((v726.length : Int) - (1 : Int))))), (45, agg [cI b744.Kind, Cell.sl true (List.map eI b744.Set), cI b744.N]), (46, agg [cI b743.Kind, Cell.sl true (List.map eI b743.Set), cI b743.N])] [(0, ⟨3, List.map eTimpl_Rule v726⟩)] [] 1) := by
                  refine hI _ _ _ ?_
                  refine A.all [11] (by kernel_rfl) rfl ⟨⟨_, rfl, ?_⟩, trivial⟩
                  refine L.call [false, false] [] [] 1 hF rfl rfl rfl ent255 rfl rfl rfl rfl rfl (Fimpl_both_gives k49 true true b744 b743 r745 hr745) rfl ?_
                  refine L.nil ?_
                  refine A.take 12 rfl (by kernel_rfl) (by kernel_rfl) (by kernel_rfl) rfl (Ca.indexAddr) (fun Q0 k0 => L.idxR (xs := v726) (e := eTimpl_Rule) Try.underlying44 info162 hF rfl rfl rfl rfl rfl hb746 rfl rfl (L.nil k0)) ?_
                  refine A.all [13] (by kernel_rfl) rfl ⟨⟨_, rfl, ?_⟩, trivial⟩
                  refine L.storeEp (xs := v726) (e := eTimpl_Rule) (a' := r745) shape162 hF rfl rfl rfl rfl rfl rfl rfl (at?_get hb746).2 rfl rfl ?_
                  refine L.nil ?_
                  refine A.le (τ := mkSt [(0, MG.one (Cell.sl g0 (List.map eTimpl_Rule v725))), (3, MG.one (Cell.own 0)), (4, MG.one (cI v727)), (5, MG.one (cL v728)), (13, MG.one (Cell.sl g0 (List.map eTimpl_Rule v725))), (14, MG.one (cI v729)), (15, MG.one (cI v730))] [(0, ⟨3, List.map eTimpl_Rule (v726.set ((IntKind.i64.wrap ((v726.length : Int) - (1 : Int))).toNat) r745)⟩)] [] 1) (Le.mk [(0, 0)] hm rfl ⟨⟨_, rfl, rfl⟩, ⟨_, rfl, rfl⟩, ⟨_, rfl, rfl⟩, ⟨_, rfl, rfl⟩, ⟨_, rfl, rfl⟩, ⟨_, rfl, rfl⟩, ⟨_, rfl, rfl⟩, trivial⟩ ⟨⟨_, rfl, rfl⟩, trivial⟩ trivial) ?_
                  refine A.done (by kernel_rfl) ?_
                  exact ⟨_, ⟨k49, v725, (v726.set ((IntKind.i64.wrap ((v726.length : Int) - (1 : Int))).toNat) r745), v727, v728, v729, v730, by omega, H, rfl⟩, Le.mk [(0, 0)] hm rfl ⟨⟨_, rfl, rfl⟩, ⟨_, rfl, rfl⟩, ⟨_, rfl, rfl⟩, ⟨_, rfl, rfl⟩, ⟨_, rfl, rfl⟩, ⟨_, rfl, rfl⟩, ⟨_, rfl, rfl⟩, trivial⟩ ⟨⟨_, rfl, rfl⟩, trivial⟩ trivial⟩
                refine hI _ _ _ ?_
                refine A.take 0 rfl (by kernel_rfl) (by kernel_rfl) (by kernel_rfl) rfl (Ca.move) (fun Q0 k0 => L.move hF rfl rfl rfl (L.nil k0)) ?_
                refine A.take 1 rfl (by kernel_rfl) (by kernel_rfl) (by kernel_rfl) rfl (Ca.move) (fun Q0 k0 => L.move hF rfl rfl rfl (L.nil k0)) ?_
                refine A.take 2 rfl (by kernel_rfl) (by kernel_rfl) (by kernel_rfl) rfl (Ca.lenR (xs := v726) (e := eTimpl_Rule) Try.underlying44 rfl rfl) (fun Q0 k0 => L.lenR (xs := v726) (e := eTimpl_Rule) Try.underlying44 hF rfl rfl rfl rfl (L.nil k0)) ?_
                refine A.take 3 rfl (by kernel_rfl) (by kernel_rfl) (by kernel_rfl) rfl (Ca.bin rfl rfl (calm_int _ _ _ _ _ _ _ _)) (fun Q0 k0 => L.bin hF rfl rfl rfl rfl rfl rfl (L.nil k0)) ?_
                refine A.take 4 rfl (by kernel_rfl) (by kernel_rfl) (by kernel_rfl) rfl (Ca.move) (fun Q0 k0 => L.move hF rfl rfl rfl (L.nil k0)) ?_
                refine A.take 5 rfl (by kernel_rfl) (by kernel_rfl) (by kernel_rfl) rfl (Ca.move) (fun Q0 k0 => L.move hF rfl rfl rfl (L.nil k0)) ?_
                refine A.take 6 rfl (by kernel_rfl) (by kernel_rfl) (by kernel_rfl) rfl (Ca.lenR (xs := v726) (e := eTimpl_Rule) Try.underlying44 rfl rfl) (fun Q0 k0 => L.lenR (xs := v726) (e := eTimpl_Rule) Try.underlying44 hF rfl rfl rfl rfl (L.nil k0)) ?_
                refine A.take 7 rfl (by kernel_rfl) (by kernel_rfl) (by kernel_rfl) rfl (Ca.bin rfl rfl (calm_int _ _ _ _ _ _ _ _)) (fun Q0 k0 => L.bin hF rfl rfl rfl rfl rfl rfl (L.nil k0)) ?_
                refine A.take 8 rfl (by kernel_rfl) (by kernel_rfl) (by kernel_rfl) rfl (Ca.indexAddr) (fun Q0 k0 => L.idxR (xs := v726) (e := eTimpl_Rule) Try.underlying44 info162 hF rfl rfl rfl rfl rfl hb744 rfl rfl (L.nil k0)) ?_
                refine A.all [9, 10] (by kernel_rfl) rfl ⟨⟨_, rfl, ?_⟩, ⟨_, rfl, ?_⟩, trivial⟩
                · refine L.loadEp (xs := v726) (e := eTimpl_Rule) shape162 hF rfl rfl rfl rfl (at?_get hb744).2 rfl rfl ?_
                  refine L.nil ?_
                  refine A.le (τ := mkSt [(0, MG.one (Cell.sl g0 (List.map eTimpl_Rule v725))), (3, MG.one (Cell.own 0)), (4, MG.one (cI v727)), (5, MG.one (cL v728)), (7, MG.one (Cell.ptr 1 0)), (13, MG.one (Cell.sl g0 (List.map eTimpl_Rule v725))), (14, MG.one (cI v729)), (15, MG.one (cI v730)), (36, MG.one (Cell.own 0)), (39, MG.one (cI (IntKind.i64.wrap ((v726.length : Int) - (1 : Int))))), (45, agg [cI b744.Kind, Cell.sl true (List.map eI b744.Set), cI b744.N])] [(0, ⟨3, List.map eTimpl_Rule v726⟩)] [(1, [cI b743.Kind, Cell.sl true (List.map eI b743.Set), cI b743.N])] 2) (Le.mk [(0, 0), (1, 1)] hm rfl ⟨⟨_, rfl, rfl⟩, ⟨_, rfl, rfl⟩, ⟨_, rfl, rfl⟩, ⟨_, rfl, rfl⟩, ⟨_, rfl, rfl⟩, ⟨_, rfl, rfl⟩, ⟨_, rfl, rfl⟩, ⟨_, rfl, rfl⟩, ⟨_, rfl, rfl⟩, ⟨_, rfl, rfl⟩, ⟨_, rfl, rfl⟩, trivial⟩ ⟨⟨_, rfl, rfl⟩, trivial⟩ ⟨⟨_, _, rfl, rfl, rfl⟩, trivial⟩) ?_
                  refine A.all [10] (by kernel_rfl) rfl ⟨⟨_, rfl, ?_⟩, trivial⟩
                  refine L.loadPtr shape162 hF rfl rfl rfl rfl rfl rfl ?_
                  refine L.nil ?_
                  exact A.on (hO _ _ _ n2047) (Le.mk [(0, 0)] hm rfl ⟨⟨_, rfl, rfl⟩, ⟨_, rfl, rfl⟩, ⟨_, rfl, rfl⟩, ⟨_, rfl, rfl⟩, ⟨_, rfl, rfl⟩, ⟨_, rfl, rfl⟩, ⟨_, rfl, rfl⟩, ⟨_, rfl, rfl⟩, ⟨_, rfl, rfl⟩, ⟨_, rfl, rfl⟩, ⟨_, rfl, rfl⟩, trivial⟩ ⟨⟨_, rfl, rfl⟩, trivial⟩ trivial)
                · refine L.loadPtr shape162 hF rfl rfl rfl rfl rfl rfl ?_
                  refine L.nil ?_
                  refine A.le (τ := mkSt [(0, MG.one (Cell.sl g0 (List.map eTimpl_Rule v725))), (3, MG.one (Cell.own 0)), (4, MG.one (cI v727)), (5, MG.one (cL v728)), (13, MG.one (Cell.sl g0 (List.map eTimpl_Rule v725))), (14, MG.one (cI v729)), (15, MG.one (cI v730)), (36, MG.one (Cell.own 0)), (39, MG.one (cI (IntKind.i64.wrap ((v726.length : Int) - (1 : Int))))), (44, MG.one (Cell.ep 0 ((IntKind.i64.wrap ((v726.length : Int) - (1 : Int))).toNat) 0)), (46, agg [cI b743.Kind, Cell.sl true (List.map eI b743.Set), cI b743.N])] [(0, ⟨3, List.map eTimpl_Rule v726⟩)] [] 1) (Le.mk [(0, 0)] hm rfl ⟨⟨_, rfl, rfl⟩, ⟨_, rfl, rfl⟩, ⟨_, rfl, rfl⟩, ⟨_, rfl, rfl⟩, ⟨_, rfl, rfl⟩, ⟨_, rfl, rfl⟩, ⟨_, rfl, rfl⟩, ⟨_, rfl, rfl⟩, ⟨_, rfl, rfl⟩, ⟨_, rfl, rfl⟩, ⟨_, rfl, rfl⟩, trivial⟩ ⟨⟨_, rfl, rfl⟩, trivial⟩ trivial) ?_
                  refine A.all [9] (by kernel_rfl) rfl ⟨⟨_, rfl, ?_⟩, trivial⟩
                  refine L.loadEp (xs := v726) (e := eTimpl_Rule) shape162 hF rfl rfl rfl rfl (at?_get hb744).2 rfl rfl ?_
                  refine L.nil ?_
                  exact A.on (hO _ _ _ n2047) (Le.mk [(0, 0)] hm rfl ⟨⟨_, rfl, rfl⟩, ⟨_, rfl, rfl⟩, ⟨_, rfl, rfl⟩, ⟨_, rfl, rfl⟩, ⟨_, rfl, rfl⟩, ⟨_, rfl, rfl⟩, ⟨_, rfl, rfl⟩, ⟨_, rfl, rfl⟩, ⟨_, rfl, rfl⟩, ⟨_, rfl, rfl⟩, ⟨_, rfl, rfl⟩, trivial⟩ ⟨⟨_, rfl, rfl⟩, trivial⟩ trivial)
              · replace H := condF hc H
                refine WpC.seq ?_
                refine WpC.regionL ?_
                refine L.assign hF rfl rfl rfl ?_
                refine L.nil ?_
                obtain ⟨r747, hr747, H⟩ := bindS H
                obtain ⟨h748, H⟩ := condG H
                refine A.begin mixed rfl rfl ?_
                intro W hI hO
                have n127 : W 4 #[true, true, true, true, true, true, true, false, false, false, false] (mkSt [(0, MG.one (Cell.sl g0 (List.map eTimpl_Rule v725))), (3, MG.one (Cell.own 0)), (4, MG.one (cI v727)), (5, MG.one (cL true)), (13, MG.one (Cell.sl g0 (List.map eTimpl_Rule v725))), (14, MG.one (cI v729)), (15, MG.one (cI v730)), (19, MG.one (Cell.own 0)), (20, MG.one (cI v727)), (23, MG.one (Cell.own 1)), (25, MG.one (cI b743.N))] [(0, ⟨3, List.map eTimpl_Rule v726⟩), (1, ⟨1, List.map eI r747⟩)] [] 2) := by
                  refine hI _ _ _ ?_
                  refine A.take 7 rfl (by kernel_rfl) (by kernel_rfl) (by kernel_rfl) rfl (Ca.build rfl (by rw [built162]; rfl)) (fun Q0 k0 => L.buildF built162 hF rfl rfl rfl rfl (L.nil k0)) ?_
                  refine A.all [8] (by kernel_rfl) rfl ⟨⟨_, rfl, ?_⟩, trivial⟩
                  refine L.buildSlice (e := eTimpl_Rule) 2 ([(⟨v727, r747, b743.N⟩ : Timpl_Rule)] : List Timpl_Rule) Try.underlying44 info162 rfl rfl rfl hF rfl rfl rfl rfl rfl rfl rfl rfl ?_
                  refine L.nil ?_
                  refine A.all [9] (by kernel_rfl) rfl ⟨⟨_, rfl, ?_⟩, trivial⟩
                  refine L.append (xs := v726) (ys := ([(⟨v727, r747, b743.N⟩ : Timpl_Rule)] : List Timpl_Rule)) (e := eTimpl_Rule) 3 Try.underlying44 info162 rfl rfl hF rfl rfl rfl rfl rfl rfl rfl rfl (fun _ => rfl) (fun _ _ h1 h2 => by cases h1; cases h2; rfl) ⟨_, Try.underlying44⟩ (of_decide_eq_true h748) rfl rfl ?_
                  refine L.nil ?_
                  refine A.take 10 rfl (by kernel_rfl) (by kernel_rfl) (by kernel_rfl) rfl (Ca.assign) (fun Q0 k0 => L.assign hF rfl rfl rfl (L.nil k0)) ?_
                  refine A.le (τ := mkSt [(0, MG.one (Cell.sl g0 (List.map eTimpl_Rule v725))), (3, MG.one (Cell.own 0)), (4, MG.one (cI v727)), (5, MG.one (cL true)), (13, MG.one (Cell.sl g0 (List.map eTimpl_Rule v725))), (14, MG.one (cI v729)), (15, MG.one (cI v730))] [(0, ⟨3, List.map eTimpl_Rule (v726 ++ ([(⟨v727, r747, b743.N⟩ : Timpl_Rule)] : List Timpl_Rule))⟩)] [] 1) (Le.mk [(0, 3)] hm rfl ⟨⟨_, rfl, rfl⟩, ⟨_, rfl, rfl⟩, ⟨_, rfl, rfl⟩, ⟨_, rfl, rfl⟩, ⟨_, rfl, rfl⟩, ⟨_, rfl, rfl⟩, ⟨_, rfl, rfl⟩, trivial⟩ ⟨⟨_, rfl, rfl⟩, trivial⟩ trivial) ?_
                  refine A.done (by kernel_rfl) ?_
                  exact ⟨_, ⟨k49, v725, (v726 ++ ([(⟨v727, r747, b743.N⟩ : Timpl_Rule)] : List Timpl_Rule)), v727, true, v729, v730, by omega, H, rfl⟩, Le.mk [(0, 0)] hm rfl ⟨⟨_, rfl, rfl⟩, ⟨_, rfl, rfl⟩, ⟨_, rfl, rfl⟩, ⟨_, rfl, rfl⟩, ⟨_, rfl, rfl⟩, ⟨_, rfl, rfl⟩, ⟨_, rfl, rfl⟩, trivial⟩ ⟨⟨_, rfl, rfl⟩, trivial⟩ trivial⟩
                have n111 : W 5 #[true, true, true, true, false, true, true, false, false, false, false] (mkSt [(0, MG.one (Cell.sl g0 (List.map eTimpl_Rule v725))), (3, MG.one (Cell.own 0)), (4, MG.one (cI v727)), (5, MG.one (cL true)), (13, MG.one (Cell.sl g0 (List.map eTimpl_Rule v725))), (14, MG.one (cI v729)), (15, MG.one (cI v730)), (19, MG.one (Cell.own 0)), (20, MG.one (cI v727)), (22, MG.one (Cell.sl true (List.map eI b743.Set))), (25, MG.one (cI b743.N))] [(0, ⟨3, List.map eTimpl_Rule v726⟩)] [] 1) := by
                  refine hI _ _ _ ?_
                  refine A.all [4] (by kernel_rfl) rfl ⟨⟨_, rfl, ?_⟩, trivial⟩
                  refine L.call [false] [] [] 1 hF rfl rfl rfl ent256 rfl rfl rfl rfl rfl (Fimpl_copyInts_gives k49 true b743.Set r747 hr747) rfl ?_
                  refine L.nil ?_
                  exact A.on (hO _ _ _ n127) (Le.mk [(0, 0), (1, 1)] hm rfl ⟨⟨_, rfl, rfl⟩, ⟨_, rfl, rfl⟩, ⟨_, rfl, rfl⟩, ⟨_, rfl, rfl⟩, ⟨_, rfl, rfl⟩, ⟨_, rfl, rfl⟩, ⟨_, rfl, rfl⟩, ⟨_, rfl, rfl⟩, ⟨_, rfl, rfl⟩, ⟨_, rfl, rfl⟩, ⟨_, rfl, rfl⟩, trivial⟩ ⟨⟨_, rfl, rfl⟩, ⟨_, rfl, rfl⟩, trivial⟩ trivial)
                refine hI _ _ _ ?_
                refine A.take 0 rfl (by kernel_rfl) (by kernel_rfl) (by kernel_rfl) rfl (Ca.move) (fun Q0 k0 => L.move hF rfl rfl rfl (L.nil k0)) ?_
                refine A.take 1 rfl (by kernel_rfl) (by kernel_rfl) (by kernel_rfl) rfl (Ca.move) (fun Q0 k0 => L.move hF rfl rfl rfl (L.nil k0)) ?_
                refine A.take 2 rfl (by kernel_rfl) (by kernel_rfl) (by kernel_rfl) rfl (Ca.fieldAddr Try.underlying162 rfl info24 rfl) (fun Q0 k0 => L.fieldAddr Try.underlying162 rfl info24 rfl hF rfl rfl rfl rfl rfl (L.nil k0)) ?_
                refine A.take 5 rfl (by kernel_rfl) (by kernel_rfl) (by kernel_rfl) rfl (Ca.fieldAddr Try.underlying162 rfl info3 rfl) (fun Q0 k0 => L.fieldAddr Try.underlying162 rfl info3 rfl hF rfl rfl rfl rfl rfl (L.nil k0)) ?_
                refine A.all [3, 6] (by kernel_rfl) rfl ⟨⟨_, rfl, ?_⟩, ⟨_, rfl, ?_⟩, trivial⟩
                · refine L.loadPtr shape24 hF rfl rfl rfl rfl rfl rfl ?_
                  refine L.nil ?_
                  refine A.all [4, 6] (by kernel_rfl) rfl ⟨⟨_, rfl, ?_⟩, ⟨_, rfl, ?_⟩, trivial⟩
                  · refine L.call [false] [] [] 2 hF rfl rfl rfl ent256 rfl rfl rfl rfl rfl (Fimpl_copyInts_gives k49 true b743.Set r747 hr747) rfl ?_
                    refine L.nil ?_
                    refine A.all [6] (by kernel_rfl) rfl ⟨⟨_, rfl, ?_⟩, trivial⟩
                    refine L.loadPtr shape3 hF rfl rfl rfl rfl rfl rfl ?_
                    refine L.nil ?_
                    exact A.on (hO _ _ _ n127) (Le.mk [(0, 0), (1, 2)] hm rfl ⟨⟨_, rfl, rfl⟩, ⟨_, rfl, rfl⟩, ⟨_, rfl, rfl⟩, ⟨_, rfl, rfl⟩, ⟨_, rfl, rfl⟩, ⟨_, rfl, rfl⟩, ⟨_, rfl, rfl⟩, ⟨_, rfl, rfl⟩, ⟨_, rfl, rfl⟩, ⟨_, rfl, rfl⟩, ⟨_, rfl, rfl⟩, trivial⟩ ⟨⟨_, rfl, rfl⟩, ⟨_, rfl, rfl⟩, trivial⟩ trivial)
                  · refine L.loadPtr shape3 hF rfl rfl rfl rfl rfl rfl ?_
                    refine L.nil ?_
                    exact A.on (hO _ _ _ n111) (Le.mk [(0, 0)] hm rfl ⟨⟨_, rfl, rfl⟩, ⟨_, rfl, rfl⟩, ⟨_, rfl, rfl⟩, ⟨_, rfl, rfl⟩, ⟨_, rfl, rfl⟩, ⟨_, rfl, rfl⟩, ⟨_, rfl, rfl⟩, ⟨_, rfl, rfl⟩, ⟨_, rfl, rfl⟩, ⟨_, rfl, rfl⟩, ⟨_, rfl, rfl⟩, trivial⟩ ⟨⟨_, rfl, rfl⟩, trivial⟩ trivial)
                · refine L.loadPtr shape3 hF rfl rfl rfl rfl rfl rfl ?_
                  refine L.nil ?_
                  refine A.all [3] (by kernel_rfl) rfl ⟨⟨_, rfl, ?_⟩, trivial⟩
                  refine L.loadPtr shape24 hF rfl rfl rfl rfl rfl rfl ?_
                  refine L.nil ?_
                  exact A.on (hO _ _ _ n111) (Le.mk [(0, 0)] hm rfl ⟨⟨_, rfl, rfl⟩, ⟨_, rfl, rfl⟩, ⟨_, rfl, rfl⟩, ⟨_, rfl, rfl⟩, ⟨_, rfl, rfl⟩, ⟨_, rfl, rfl⟩, ⟨_, rfl, rfl⟩, ⟨_, rfl, rfl⟩, ⟨_, rfl, rfl⟩, ⟨_, rfl, rfl⟩, ⟨_, rfl, rfl⟩, trivial⟩ ⟨⟨_, rfl, rfl⟩, trivial⟩ trivial)
        · replace H := condF hc H
          refine WpC.exit ?_
          refine WpC.regionL ?_
          refine L.move hF rfl rfl rfl ?_
          refine L.bin hF rfl rfl rfl rfl rfl rfl ?_
          refine L.assign hF rfl rfl rfl ?_
          refine L.nil ?_
          exact ⟨k42, _, by omega, ⟨v725, v726, (IntKind.i64.wrap (v727 + (1 : Int))), by omega, H, rfl⟩, Le.mk [(0, 0)] hm rfl ⟨⟨_, rfl, rfl⟩, ⟨_, rfl, rfl⟩, ⟨_, rfl, rfl⟩, trivial⟩ ⟨⟨_, rfl, rfl⟩, trivial⟩ trivial⟩
    · replace H := condF hc H
      refine WpC.exit ?_
      refine WpC.seq ?_
      refine WpC.regionL ?_
      refine L.move hF rfl rfl rfl ?_
      refine L.assign hF rfl rfl rfl ?_
      refine L.nil ?_
      refine WpC.ret ?_
      cases H
      exact Leaves.ret rfl rfl rfl ⟨rfl, rfl⟩
end Go.Proofs.Ytcolcmjcjpikcaa.M
