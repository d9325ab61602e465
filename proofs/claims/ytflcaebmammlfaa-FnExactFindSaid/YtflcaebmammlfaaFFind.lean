import Derived.Test.YtflcaebmammlfaaMgZc
import Derived.Test.YtflcaebmammlfaaProg
namespace Go.Proofs.Ytflcaebmammlfaa.M
open Go Go.MG
set_option linter.unusedVariables false
set_option linter.unusedSimpArgs false
structure Tlaws_Rest where
  Servers : Int
  Ops : Int
  End : Int
def eTlaws_Rest (x : Tlaws_Rest) : List Cell := [cI x.Servers, cI x.Ops, cI x.End]
structure Tlaws_Event where
  Kind : Int
  Realm : Int
  By : Int
  Client : Int
  Service : Int
  Key : Int
  Parent : Int
  Evid : Int
  Rest : Tlaws_Rest
def eTlaws_Event (x : Tlaws_Event) : List Cell := [cI x.Kind, cI x.Realm, cI x.By, cI x.Client, cI x.Service, cI x.Key, cI x.Parent, cI x.Evid, cI x.Rest.Servers, cI x.Rest.Ops, cI x.Rest.End]
structure Timpl_Rest where
  Servers : Int
  Ops : Int
  End : Int
def eTimpl_Rest (x : Timpl_Rest) : List Cell := [cI x.Servers, cI x.Ops, cI x.End]
structure Timpl_Event where
  Kind : Int
  Realm : Int
  By : Int
  Client : Int
  Service : Int
  Key : Int
  Parent : Int
  Evid : Int
  Rest : Timpl_Rest
def eTimpl_Event (x : Timpl_Event) : List Cell := [cI x.Kind, cI x.Realm, cI x.By, cI x.Client, cI x.Service, cI x.Key, cI x.Parent, cI x.Evid, cI x.Rest.Servers, cI x.Rest.Ops, cI x.Rest.End]
theorem mixed : Try.prog.follows .mixedOrders = true := by kernel_rfl
theorem shape3 : MG.shape Try.prog 3 = some (false, 1) := by kernel_rfl
theorem shape118 : MG.shape Try.prog 118 = some (true, 3) := by kernel_rfl
theorem shape120 : MG.shape Try.prog 120 = some (true, 11) := by kernel_rfl
theorem shape122 : MG.shape Try.prog 122 = some (true, 3) := by kernel_rfl
theorem shape124 : MG.shape Try.prog 124 = some (true, 11) := by kernel_rfl
theorem info3 : Try.prog.info? 3 = some Try.t3 := by kernel_rfl
theorem info118 : Try.prog.info? 118 = some Try.t118 := by kernel_rfl
theorem info120 : Try.prog.info? 120 = some Try.t120 := by kernel_rfl
theorem info122 : Try.prog.info? 122 = some Try.t122 := by kernel_rfl
theorem info124 : Try.prog.info? 124 = some Try.t124 := by kernel_rfl
abbrev bx (a b c d : Int) : List Cell := [cI a, cI b, cI c, cI d]
theorem S3 {π : Nat → Option Nat} {σ : St} {t0 t1 t2 : Nat} {s0 u0 s1 u1 s2 u2 : Slot} (h0 : renS π s0 = some u0) (g0 : σ.slots t0 = some u0) (h1 : renS π s1 = some u1) (g1 : σ.slots t1 = some u1) (h2 : renS π s2 = some u2) (g2 : σ.slots t2 = some u2) : SlotsOk π σ [(t0, s0), (t1, s1), (t2, s2)] := ⟨⟨_, h0, g0⟩, ⟨_, h1, g1⟩, ⟨_, h2, g2⟩, trivial⟩
theorem S4 {π : Nat → Option Nat} {σ : St} {t0 t1 t2 t3 : Nat} {s0 u0 s1 u1 s2 u2 s3 u3 : Slot} (h0 : renS π s0 = some u0) (g0 : σ.slots t0 = some u0) (h1 : renS π s1 = some u1) (g1 : σ.slots t1 = some u1) (h2 : renS π s2 = some u2) (g2 : σ.slots t2 = some u2) (h3 : renS π s3 = some u3) (g3 : σ.slots t3 = some u3) : SlotsOk π σ [(t0, s0), (t1, s1), (t2, s2), (t3, s3)] := ⟨⟨_, h0, g0⟩, ⟨_, h1, g1⟩, ⟨_, h2, g2⟩, ⟨_, h3, g3⟩, trivial⟩
theorem S5 {π : Nat → Option Nat} {σ : St} {t0 t1 t2 t3 t4 : Nat} {s0 u0 s1 u1 s2 u2 s3 u3 s4 u4 : Slot} (h0 : renS π s0 = some u0) (g0 : σ.slots t0 = some u0) (h1 : renS π s1 = some u1) (g1 : σ.slots t1 = some u1) (h2 : renS π s2 = some u2) (g2 : σ.slots t2 = some u2) (h3 : renS π s3 = some u3) (g3 : σ.slots t3 = some u3) (h4 : renS π s4 = some u4) (g4 : σ.slots t4 = some u4) : SlotsOk π σ [(t0, s0), (t1, s1), (t2, s2), (t3, s3), (t4, s4)] := ⟨⟨_, h0, g0⟩, ⟨_, h1, g1⟩, ⟨_, h2, g2⟩, ⟨_, h3, g3⟩, ⟨_, h4, g4⟩, trivial⟩
theorem S6 {π : Nat → Option Nat} {σ : St} {t0 t1 t2 t3 t4 t5 : Nat} {s0 u0 s1 u1 s2 u2 s3 u3 s4 u4 s5 u5 : Slot} (h0 : renS π s0 = some u0) (g0 : σ.slots t0 = some u0) (h1 : renS π s1 = some u1) (g1 : σ.slots t1 = some u1) (h2 : renS π s2 = some u2) (g2 : σ.slots t2 = some u2) (h3 : renS π s3 = some u3) (g3 : σ.slots t3 = some u3) (h4 : renS π s4 = some u4) (g4 : σ.slots t4 = some u4) (h5 : renS π s5 = some u5) (g5 : σ.slots t5 = some u5) : SlotsOk π σ [(t0, s0), (t1, s1), (t2, s2), (t3, s3), (t4, s4), (t5, s5)] := ⟨⟨_, h0, g0⟩, ⟨_, h1, g1⟩, ⟨_, h2, g2⟩, ⟨_, h3, g3⟩, ⟨_, h4, g4⟩, ⟨_, h5, g5⟩, trivial⟩
theorem S7 {π : Nat → Option Nat} {σ : St} {t0 t1 t2 t3 t4 t5 t6 : Nat} {s0 u0 s1 u1 s2 u2 s3 u3 s4 u4 s5 u5 s6 u6 : Slot} (h0 : renS π s0 = some u0) (g0 : σ.slots t0 = some u0) (h1 : renS π s1 = some u1) (g1 : σ.slots t1 = some u1) (h2 : renS π s2 = some u2) (g2 : σ.slots t2 = some u2) (h3 : renS π s3 = some u3) (g3 : σ.slots t3 = some u3) (h4 : renS π s4 = some u4) (g4 : σ.slots t4 = some u4) (h5 : renS π s5 = some u5) (g5 : σ.slots t5 = some u5) (h6 : renS π s6 = some u6) (g6 : σ.slots t6 = some u6) : SlotsOk π σ [(t0, s0), (t1, s1), (t2, s2), (t3, s3), (t4, s4), (t5, s5), (t6, s6)] := ⟨⟨_, h0, g0⟩, ⟨_, h1, g1⟩, ⟨_, h2, g2⟩, ⟨_, h3, g3⟩, ⟨_, h4, g4⟩, ⟨_, h5, g5⟩, ⟨_, h6, g6⟩, trivial⟩
theorem S8 {π : Nat → Option Nat} {σ : St} {t0 t1 t2 t3 t4 t5 t6 t7 : Nat} {s0 u0 s1 u1 s2 u2 s3 u3 s4 u4 s5 u5 s6 u6 s7 u7 : Slot} (h0 : renS π s0 = some u0) (g0 : σ.slots t0 = some u0) (h1 : renS π s1 = some u1) (g1 : σ.slots t1 = some u1) (h2 : renS π s2 = some u2) (g2 : σ.slots t2 = some u2) (h3 : renS π s3 = some u3) (g3 : σ.slots t3 = some u3) (h4 : renS π s4 = some u4) (g4 : σ.slots t4 = some u4) (h5 : renS π s5 = some u5) (g5 : σ.slots t5 = some u5) (h6 : renS π s6 = some u6) (g6 : σ.slots t6 = some u6) (h7 : renS π s7 = some u7) (g7 : σ.slots t7 = some u7) : SlotsOk π σ [(t0, s0), (t1, s1), (t2, s2), (t3, s3), (t4, s4), (t5, s5), (t6, s6), (t7, s7)] := ⟨⟨_, h0, g0⟩, ⟨_, h1, g1⟩, ⟨_, h2, g2⟩, ⟨_, h3, g3⟩, ⟨_, h4, g4⟩, ⟨_, h5, g5⟩, ⟨_, h6, g6⟩, ⟨_, h7, g7⟩, trivial⟩
theorem S9 {π : Nat → Option Nat} {σ : St} {t0 t1 t2 t3 t4 t5 t6 t7 t8 : Nat} {s0 u0 s1 u1 s2 u2 s3 u3 s4 u4 s5 u5 s6 u6 s7 u7 s8 u8 : Slot} (h0 : renS π s0 = some u0) (g0 : σ.slots t0 = some u0) (h1 : renS π s1 = some u1) (g1 : σ.slots t1 = some u1) (h2 : renS π s2 = some u2) (g2 : σ.slots t2 = some u2) (h3 : renS π s3 = some u3) (g3 : σ.slots t3 = some u3) (h4 : renS π s4 = some u4) (g4 : σ.slots t4 = some u4) (h5 : renS π s5 = some u5) (g5 : σ.slots t5 = some u5) (h6 : renS π s6 = some u6) (g6 : σ.slots t6 = some u6) (h7 : renS π s7 = some u7) (g7 : σ.slots t7 = some u7) (h8 : renS π s8 = some u8) (g8 : σ.slots t8 = some u8) : SlotsOk π σ [(t0, s0), (t1, s1), (t2, s2), (t3, s3), (t4, s4), (t5, s5), (t6, s6), (t7, s7), (t8, s8)] := ⟨⟨_, h0, g0⟩, ⟨_, h1, g1⟩, ⟨_, h2, g2⟩, ⟨_, h3, g3⟩, ⟨_, h4, g4⟩, ⟨_, h5, g5⟩, ⟨_, h6, g6⟩, ⟨_, h7, g7⟩, ⟨_, h8, g8⟩, trivial⟩
theorem S10 {π : Nat → Option Nat} {σ : St} {t0 t1 t2 t3 t4 t5 t6 t7 t8 t9 : Nat} {s0 u0 s1 u1 s2 u2 s3 u3 s4 u4 s5 u5 s6 u6 s7 u7 s8 u8 s9 u9 : Slot} (h0 : renS π s0 = some u0) (g0 : σ.slots t0 = some u0) (h1 : renS π s1 = some u1) (g1 : σ.slots t1 = some u1) (h2 : renS π s2 = some u2) (g2 : σ.slots t2 = some u2) (h3 : renS π s3 = some u3) (g3 : σ.slots t3 = some u3) (h4 : renS π s4 = some u4) (g4 : σ.slots t4 = some u4) (h5 : renS π s5 = some u5) (g5 : σ.slots t5 = some u5) (h6 : renS π s6 = some u6) (g6 : σ.slots t6 = some u6) (h7 : renS π s7 = some u7) (g7 : σ.slots t7 = some u7) (h8 : renS π s8 = some u8) (g8 : σ.slots t8 = some u8) (h9 : renS π s9 = some u9) (g9 : σ.slots t9 = some u9) : SlotsOk π σ [(t0, s0), (t1, s1), (t2, s2), (t3, s3), (t4, s4), (t5, s5), (t6, s6), (t7, s7), (t8, s8), (t9, s9)] := ⟨⟨_, h0, g0⟩, ⟨_, h1, g1⟩, ⟨_, h2, g2⟩, ⟨_, h3, g3⟩, ⟨_, h4, g4⟩, ⟨_, h5, g5⟩, ⟨_, h6, g6⟩, ⟨_, h7, g7⟩, ⟨_, h8, g8⟩, ⟨_, h9, g9⟩, trivial⟩
theorem S11 {π : Nat → Option Nat} {σ : St} {t0 t1 t2 t3 t4 t5 t6 t7 t8 t9 t10 : Nat} {s0 u0 s1 u1 s2 u2 s3 u3 s4 u4 s5 u5 s6 u6 s7 u7 s8 u8 s9 u9 s10 u10 : Slot} (h0 : renS π s0 = some u0) (g0 : σ.slots t0 = some u0) (h1 : renS π s1 = some u1) (g1 : σ.slots t1 = some u1) (h2 : renS π s2 = some u2) (g2 : σ.slots t2 = some u2) (h3 : renS π s3 = some u3) (g3 : σ.slots t3 = some u3) (h4 : renS π s4 = some u4) (g4 : σ.slots t4 = some u4) (h5 : renS π s5 = some u5) (g5 : σ.slots t5 = some u5) (h6 : renS π s6 = some u6) (g6 : σ.slots t6 = some u6) (h7 : renS π s7 = some u7) (g7 : σ.slots t7 = some u7) (h8 : renS π s8 = some u8) (g8 : σ.slots t8 = some u8) (h9 : renS π s9 = some u9) (g9 : σ.slots t9 = some u9) (h10 : renS π s10 = some u10) (g10 : σ.slots t10 = some u10) : SlotsOk π σ [(t0, s0), (t1, s1), (t2, s2), (t3, s3), (t4, s4), (t5, s5), (t6, s6), (t7, s7), (t8, s8), (t9, s9), (t10, s10)] := ⟨⟨_, h0, g0⟩, ⟨_, h1, g1⟩, ⟨_, h2, g2⟩, ⟨_, h3, g3⟩, ⟨_, h4, g4⟩, ⟨_, h5, g5⟩, ⟨_, h6, g6⟩, ⟨_, h7, g7⟩, ⟨_, h8, g8⟩, ⟨_, h9, g9⟩, ⟨_, h10, g10⟩, trivial⟩
theorem S12 {π : Nat → Option Nat} {σ : St} {t0 t1 t2 t3 t4 t5 t6 t7 t8 t9 t10 t11 : Nat} {s0 u0 s1 u1 s2 u2 s3 u3 s4 u4 s5 u5 s6 u6 s7 u7 s8 u8 s9 u9 s10 u10 s11 u11 : Slot} (h0 : renS π s0 = some u0) (g0 : σ.slots t0 = some u0) (h1 : renS π s1 = some u1) (g1 : σ.slots t1 = some u1) (h2 : renS π s2 = some u2) (g2 : σ.slots t2 = some u2) (h3 : renS π s3 = some u3) (g3 : σ.slots t3 = some u3) (h4 : renS π s4 = some u4) (g4 : σ.slots t4 = some u4) (h5 : renS π s5 = some u5) (g5 : σ.slots t5 = some u5) (h6 : renS π s6 = some u6) (g6 : σ.slots t6 = some u6) (h7 : renS π s7 = some u7) (g7 : σ.slots t7 = some u7) (h8 : renS π s8 = some u8) (g8 : σ.slots t8 = some u8) (h9 : renS π s9 = some u9) (g9 : σ.slots t9 = some u9) (h10 : renS π s10 = some u10) (g10 : σ.slots t10 = some u10) (h11 : renS π s11 = some u11) (g11 : σ.slots t11 = some u11) : SlotsOk π σ [(t0, s0), (t1, s1), (t2, s2), (t3, s3), (t4, s4), (t5, s5), (t6, s6), (t7, s7), (t8, s8), (t9, s9), (t10, s10), (t11, s11)] := ⟨⟨_, h0, g0⟩, ⟨_, h1, g1⟩, ⟨_, h2, g2⟩, ⟨_, h3, g3⟩, ⟨_, h4, g4⟩, ⟨_, h5, g5⟩, ⟨_, h6, g6⟩, ⟨_, h7, g7⟩, ⟨_, h8, g8⟩, ⟨_, h9, g9⟩, ⟨_, h10, g10⟩, ⟨_, h11, g11⟩, trivial⟩
theorem S13 {π : Nat → Option Nat} {σ : St} {t0 t1 t2 t3 t4 t5 t6 t7 t8 t9 t10 t11 t12 : Nat} {s0 u0 s1 u1 s2 u2 s3 u3 s4 u4 s5 u5 s6 u6 s7 u7 s8 u8 s9 u9 s10 u10 s11 u11 s12 u12 : Slot} (h0 : renS π s0 = some u0) (g0 : σ.slots t0 = some u0) (h1 : renS π s1 = some u1) (g1 : σ.slots t1 = some u1) (h2 : renS π s2 = some u2) (g2 : σ.slots t2 = some u2) (h3 : renS π s3 = some u3) (g3 : σ.slots t3 = some u3) (h4 : renS π s4 = some u4) (g4 : σ.slots t4 = some u4) (h5 : renS π s5 = some u5) (g5 : σ.slots t5 = some u5) (h6 : renS π s6 = some u6) (g6 : σ.slots t6 = some u6) (h7 : renS π s7 = some u7) (g7 : σ.slots t7 = some u7) (h8 : renS π s8 = some u8) (g8 : σ.slots t8 = some u8) (h9 : renS π s9 = some u9) (g9 : σ.slots t9 = some u9) (h10 : renS π s10 = some u10) (g10 : σ.slots t10 = some u10) (h11 : renS π s11 = some u11) (g11 : σ.slots t11 = some u11) (h12 : renS π s12 = some u12) (g12 : σ.slots t12 = some u12) : SlotsOk π σ [(t0, s0), (t1, s1), (t2, s2), (t3, s3), (t4, s4), (t5, s5), (t6, s6), (t7, s7), (t8, s8), (t9, s9), (t10, s10), (t11, s11), (t12, s12)] := ⟨⟨_, h0, g0⟩, ⟨_, h1, g1⟩, ⟨_, h2, g2⟩, ⟨_, h3, g3⟩, ⟨_, h4, g4⟩, ⟨_, h5, g5⟩, ⟨_, h6, g6⟩, ⟨_, h7, g7⟩, ⟨_, h8, g8⟩, ⟨_, h9, g9⟩, ⟨_, h10, g10⟩, ⟨_, h11, g11⟩, ⟨_, h12, g12⟩, trivial⟩
theorem S14 {π : Nat → Option Nat} {σ : St} {t0 t1 t2 t3 t4 t5 t6 t7 t8 t9 t10 t11 t12 t13 : Nat} {s0 u0 s1 u1 s2 u2 s3 u3 s4 u4 s5 u5 s6 u6 s7 u7 s8 u8 s9 u9 s10 u10 s11 u11 s12 u12 s13 u13 : Slot} (h0 : renS π s0 = some u0) (g0 : σ.slots t0 = some u0) (h1 : renS π s1 = some u1) (g1 : σ.slots t1 = some u1) (h2 : renS π s2 = some u2) (g2 : σ.slots t2 = some u2) (h3 : renS π s3 = some u3) (g3 : σ.slots t3 = some u3) (h4 : renS π s4 = some u4) (g4 : σ.slots t4 = some u4) (h5 : renS π s5 = some u5) (g5 : σ.slots t5 = some u5) (h6 : renS π s6 = some u6) (g6 : σ.slots t6 = some u6) (h7 : renS π s7 = some u7) (g7 : σ.slots t7 = some u7) (h8 : renS π s8 = some u8) (g8 : σ.slots t8 = some u8) (h9 : renS π s9 = some u9) (g9 : σ.slots t9 = some u9) (h10 : renS π s10 = some u10) (g10 : σ.slots t10 = some u10) (h11 : renS π s11 = some u11) (g11 : σ.slots t11 = some u11) (h12 : renS π s12 = some u12) (g12 : σ.slots t12 = some u12) (h13 : renS π s13 = some u13) (g13 : σ.slots t13 = some u13) : SlotsOk π σ [(t0, s0), (t1, s1), (t2, s2), (t3, s3), (t4, s4), (t5, s5), (t6, s6), (t7, s7), (t8, s8), (t9, s9), (t10, s10), (t11, s11), (t12, s12), (t13, s13)] := ⟨⟨_, h0, g0⟩, ⟨_, h1, g1⟩, ⟨_, h2, g2⟩, ⟨_, h3, g3⟩, ⟨_, h4, g4⟩, ⟨_, h5, g5⟩, ⟨_, h6, g6⟩, ⟨_, h7, g7⟩, ⟨_, h8, g8⟩, ⟨_, h9, g9⟩, ⟨_, h10, g10⟩, ⟨_, h11, g11⟩, ⟨_, h12, g12⟩, ⟨_, h13, g13⟩, trivial⟩
theorem B2 {π : Nat → Option Nat} {σ : St} {k0 q0 k1 q1 : Nat} {c0 d0 c1 d1 : List Cell} (h0 : π k0 = some q0) (g0 : renCs π c0 = some d0) (e0 : σ.H.boxes q0 = some d0) (h1 : π k1 = some q1) (g1 : renCs π c1 = some d1) (e1 : σ.H.boxes q1 = some d1) : BoxesOk π σ [(k0, c0), (k1, c1)] := ⟨⟨_, _, h0, g0, e0⟩, ⟨_, _, h1, g1, e1⟩, trivial⟩
theorem B3 {π : Nat → Option Nat} {σ : St} {k0 q0 k1 q1 k2 q2 : Nat} {c0 d0 c1 d1 c2 d2 : List Cell} (h0 : π k0 = some q0) (g0 : renCs π c0 = some d0) (e0 : σ.H.boxes q0 = some d0) (h1 : π k1 = some q1) (g1 : renCs π c1 = some d1) (e1 : σ.H.boxes q1 = some d1) (h2 : π k2 = some q2) (g2 : renCs π c2 = some d2) (e2 : σ.H.boxes q2 = some d2) : BoxesOk π σ [(k0, c0), (k1, c1), (k2, c2)] := ⟨⟨_, _, h0, g0, e0⟩, ⟨_, _, h1, g1, e1⟩, ⟨_, _, h2, g2, e2⟩, trivial⟩
theorem B4 {π : Nat → Option Nat} {σ : St} {k0 q0 k1 q1 k2 q2 k3 q3 : Nat} {c0 d0 c1 d1 c2 d2 c3 d3 : List Cell} (h0 : π k0 = some q0) (g0 : renCs π c0 = some d0) (e0 : σ.H.boxes q0 = some d0) (h1 : π k1 = some q1) (g1 : renCs π c1 = some d1) (e1 : σ.H.boxes q1 = some d1) (h2 : π k2 = some q2) (g2 : renCs π c2 = some d2) (e2 : σ.H.boxes q2 = some d2) (h3 : π k3 = some q3) (g3 : renCs π c3 = some d3) (e3 : σ.H.boxes q3 = some d3) : BoxesOk π σ [(k0, c0), (k1, c1), (k2, c2), (k3, c3)] := ⟨⟨_, _, h0, g0, e0⟩, ⟨_, _, h1, g1, e1⟩, ⟨_, _, h2, g2, e2⟩, ⟨_, _, h3, g3, e3⟩, trivial⟩
theorem B5 {π : Nat → Option Nat} {σ : St} {k0 q0 k1 q1 k2 q2 k3 q3 k4 q4 : Nat} {c0 d0 c1 d1 c2 d2 c3 d3 c4 d4 : List Cell} (h0 : π k0 = some q0) (g0 : renCs π c0 = some d0) (e0 : σ.H.boxes q0 = some d0) (h1 : π k1 = some q1) (g1 : renCs π c1 = some d1) (e1 : σ.H.boxes q1 = some d1) (h2 : π k2 = some q2) (g2 : renCs π c2 = some d2) (e2 : σ.H.boxes q2 = some d2) (h3 : π k3 = some q3) (g3 : renCs π c3 = some d3) (e3 : σ.H.boxes q3 = some d3) (h4 : π k4 = some q4) (g4 : renCs π c4 = some d4) (e4 : σ.H.boxes q4 = some d4) : BoxesOk π σ [(k0, c0), (k1, c1), (k2, c2), (k3, c3), (k4, c4)] := ⟨⟨_, _, h0, g0, e0⟩, ⟨_, _, h1, g1, e1⟩, ⟨_, _, h2, g2, e2⟩, ⟨_, _, h3, g3, e3⟩, ⟨_, _, h4, g4, e4⟩, trivial⟩
theorem B6 {π : Nat → Option Nat} {σ : St} {k0 q0 k1 q1 k2 q2 k3 q3 k4 q4 k5 q5 : Nat} {c0 d0 c1 d1 c2 d2 c3 d3 c4 d4 c5 d5 : List Cell} (h0 : π k0 = some q0) (g0 : renCs π c0 = some d0) (e0 : σ.H.boxes q0 = some d0) (h1 : π k1 = some q1) (g1 : renCs π c1 = some d1) (e1 : σ.H.boxes q1 = some d1) (h2 : π k2 = some q2) (g2 : renCs π c2 = some d2) (e2 : σ.H.boxes q2 = some d2) (h3 : π k3 = some q3) (g3 : renCs π c3 = some d3) (e3 : σ.H.boxes q3 = some d3) (h4 : π k4 = some q4) (g4 : renCs π c4 = some d4) (e4 : σ.H.boxes q4 = some d4) (h5 : π k5 = some q5) (g5 : renCs π c5 = some d5) (e5 : σ.H.boxes q5 = some d5) : BoxesOk π σ [(k0, c0), (k1, c1), (k2, c2), (k3, c3), (k4, c4), (k5, c5)] := ⟨⟨_, _, h0, g0, e0⟩, ⟨_, _, h1, g1, e1⟩, ⟨_, _, h2, g2, e2⟩, ⟨_, _, h3, g3, e3⟩, ⟨_, _, h4, g4, e4⟩, ⟨_, _, h5, g5, e5⟩, trivial⟩
/-! ### Flaws_szEventS -/
def Flaws_szEventS (k : Nat) (a0 : List Tlaws_Event) (a1 : Int) : Option Int := cond (decide ((IntKind.i64.wrap (a1 - (a0.length : Int))) < (0 : Int))) (some (-1 : Int)) (some (IntKind.i64.wrap (a1 - (a0.length : Int))))
theorem ent52 : Enters Try.prog 52 := ⟨Try.f52, Try.func52, rfl, by decide⟩
set_option maxHeartbeats 8000000 in
set_option maxRecDepth 100000 in
theorem Flaws_szEventS_gives (k : Nat) (g0 : Bool) (a0 : List Tlaws_Event) (a1 : Int) (r : Int) (H : Flaws_szEventS k a0 a1 = some r) : Gives Try.prog 52 [V.one (Cell.sl g0 (List.map eTlaws_Event a0)), V.one (cI a1)] [] [V.one (cI r)] [] := by
  refine Gives.intro Try.func52 rfl rfl rfl rfl ?_
  intro F hF hm
  unfold Flaws_szEventS at H
  obtain ⟨K, hK⟩ : ∃ K, k ≤ K := ⟨k, Nat.le_refl k⟩
  refine WpC.seq ?_
  refine WpC.regionL ?_
  refine L.assign hF rfl rfl rfl ?_
  refine L.nil ?_
  refine WpC.seq ?_
  refine WpC.regionL ?_
  refine L.move hF rfl rfl rfl ?_
  refine L.move hF rfl rfl rfl ?_
  refine L.lenR (xs := a0) (e := eTlaws_Event) Try.underlying60 hF rfl rfl rfl rfl ?_
  refine L.bin hF rfl rfl rfl rfl rfl rfl ?_
  refine L.assign hF rfl rfl rfl ?_
  refine L.nil ?_
  refine WpC.seq ?_
  refine WpC.seq ?_
  refine WpC.regionL ?_
  refine L.move hF rfl rfl rfl ?_
  refine L.bin hF rfl rfl rfl rfl rfl rfl ?_
  refine L.nil ?_
  refine WpC.cond rfl (fun hc => ?_) (fun hc => ?_)
  · replace H := condT hc H
    refine WpC.seq ?_
    refine WpC.regionL ?_
    refine L.assign hF rfl rfl rfl ?_
    refine L.nil ?_
    refine WpC.ret ?_
    cases H
    exact Leaves.ret rfl rfl rfl ⟨rfl, rfl⟩
  · replace H := condF hc H
    refine WpC.skip ?_
    refine WpC.seq ?_
    refine WpC.regionL ?_
    refine L.move hF rfl rfl rfl ?_
    refine L.assign hF rfl rfl rfl ?_
    refine L.nil ?_
    refine WpC.ret ?_
    cases H
    exact Leaves.ret rfl rfl rfl ⟨rfl, rfl⟩
/-! ### Flaws_toRest -/
def Flaws_toRest (k : Nat) (a0 : Tlaws_Rest) : Option Timpl_Rest := some (⟨a0.Servers, a0.Ops, a0.End⟩ : Timpl_Rest)
theorem ent151 : Enters Try.prog 151 := ⟨Try.f151, Try.func151, rfl, by decide⟩
set_option maxHeartbeats 8000000 in
set_option maxRecDepth 100000 in
theorem Flaws_toRest_gives (k : Nat) (a0 : Tlaws_Rest) (r : Timpl_Rest) (H : Flaws_toRest k a0 = some r) : Gives Try.prog 151 [V.agg [cI a0.Servers, cI a0.Ops, cI a0.End]] [] [V.agg [cI r.Servers, cI r.Ops, cI r.End]] [] := by
  refine Gives.intro Try.func151 rfl rfl rfl rfl ?_
  intro F hF hm
  unfold Flaws_toRest at H
  obtain ⟨K, hK⟩ : ∃ K, k ≤ K := ⟨k, Nat.le_refl k⟩
  refine WpC.seq ?_
  refine WpC.regionL ?_
  refine L.box 3 hF rfl rfl rfl rfl ?_
  refine L.alloc 4 info118 rfl hF rfl rfl rfl rfl ?_
  refine L.nil ?_
  refine WpC.seq ?_
  refine WpC.regionL ?_
  refine L.alloc 5 info118 rfl hF rfl rfl rfl rfl ?_
  refine L.nil ?_
  refine WpC.seq ?_
  refine WpC.regionL ?_
  refine L.fieldAddr Try.underlying122 rfl info3 rfl hF rfl rfl rfl rfl rfl ?_
  refine L.loadPtr shape3 hF rfl rfl rfl rfl rfl rfl ?_
  refine L.fieldAddr Try.underlying118 rfl info3 rfl hF rfl rfl rfl rfl rfl ?_
  refine L.storePtr shape3 hF rfl rfl rfl rfl rfl rfl rfl ?_
  refine L.nil ?_
  refine WpC.seq ?_
  refine WpC.regionL ?_
  refine L.fieldAddr Try.underlying122 rfl info3 rfl hF rfl rfl rfl rfl rfl ?_
  refine L.loadPtr shape3 hF rfl rfl rfl rfl rfl rfl ?_
  refine L.fieldAddr Try.underlying118 rfl info3 rfl hF rfl rfl rfl rfl rfl ?_
  refine L.storePtr shape3 hF rfl rfl rfl rfl rfl rfl rfl ?_
  refine L.nil ?_
  refine WpC.seq ?_
  refine WpC.regionL ?_
  refine L.fieldAddr Try.underlying122 rfl info3 rfl hF rfl rfl rfl rfl rfl ?_
  refine L.loadPtr shape3 hF rfl rfl rfl rfl rfl rfl ?_
  refine L.fieldAddr Try.underlying118 rfl info3 rfl hF rfl rfl rfl rfl rfl ?_
  refine L.storePtr shape3 hF rfl rfl rfl rfl rfl rfl rfl ?_
  refine L.nil ?_
  refine WpC.seq ?_
  refine WpC.regionL ?_
  refine L.loadPtr shape118 hF rfl rfl rfl rfl rfl rfl ?_
  refine L.storePtr shape118 hF rfl rfl rfl rfl rfl rfl rfl ?_
  refine L.nil ?_
  refine WpC.ret ?_
  cases H
  exact Leaves.ret rfl rfl rfl ⟨rfl, rfl⟩
/-! ### Flaws_toEvent -/
def Flaws_toEvent (k : Nat) (a0 : Tlaws_Event) : Option Timpl_Event := (Flaws_toRest k (⟨a0.Rest.Servers, a0.Rest.Ops, a0.Rest.End⟩ : Tlaws_Rest)).bind fun r1 => some (⟨a0.Kind, a0.Realm, a0.By, a0.Client, a0.Service, a0.Key, a0.Parent, a0.Evid, r1⟩ : Timpl_Event)
theorem ent113 : Enters Try.prog 113 := ⟨Try.f113, Try.func113, rfl, by decide⟩
set_option maxHeartbeats 8000000 in
set_option maxRecDepth 100000 in
theorem Flaws_toEvent_gives (k : Nat) (a0 : Tlaws_Event) (r : Timpl_Event) (H : Flaws_toEvent k a0 = some r) : Gives Try.prog 113 [V.agg [cI a0.Kind, cI a0.Realm, cI a0.By, cI a0.Client, cI a0.Service, cI a0.Key, cI a0.Parent, cI a0.Evid, cI a0.Rest.Servers, cI a0.Rest.Ops, cI a0.Rest.End]] [] [V.agg [cI r.Kind, cI r.Realm, cI r.By, cI r.Client, cI r.Service, cI r.Key, cI r.Parent, cI r.Evid, cI r.Rest.Servers, cI r.Rest.Ops, cI r.Rest.End]] [] := by
  refine Gives.intro Try.func113 rfl rfl rfl rfl ?_
  intro F hF hm
  unfold Flaws_toEvent at H
  obtain ⟨K, hK⟩ : ∃ K, k ≤ K := ⟨k, Nat.le_refl k⟩
  refine WpC.seq ?_
  refine WpC.regionL ?_
  refine L.box 11 hF rfl rfl rfl rfl ?_
  refine L.alloc 12 info120 rfl hF rfl rfl rfl rfl ?_
  refine L.le (τ := mkSt [(1, one (Cell.ptr 0 0)), (2, one (Cell.ptr 1 0))] [] [(0, [cI a0.Kind, cI a0.Realm, cI a0.By, cI a0.Client, cI a0.Service, cI a0.Key, cI a0.Parent, cI a0.Evid, cI a0.Rest.Servers, cI a0.Rest.Ops, cI a0.Rest.End]), (1, [cI (0 : Int), cI (0 : Int), cI (0 : Int), cI (0 : Int), cI (0 : Int), cI (0 : Int), cI (0 : Int), cI (0 : Int), cI (0 : Int), cI (0 : Int), cI (0 : Int)])] 2) (Le.mk [(0, 11), (1, 12)] hm rfl ⟨⟨_, rfl, rfl⟩, ⟨_, rfl, rfl⟩, trivial⟩ trivial ⟨⟨_, _, rfl, rfl, rfl⟩, ⟨_, _, rfl, rfl, rfl⟩, trivial⟩) ?_
  refine L.nil ?_
  refine WpC.seq ?_
  refine WpC.regionL ?_
  refine L.alloc 2 info120 rfl hF rfl rfl rfl rfl ?_
  refine L.le (τ := mkSt [(1, one (Cell.ptr 0 0)), (2, one (Cell.ptr 1 0)), (3, one (Cell.ptr 2 0))] [] [(0, [cI a0.Kind, cI a0.Realm, cI a0.By, cI a0.Client, cI a0.Service, cI a0.Key, cI a0.Parent, cI a0.Evid, cI a0.Rest.Servers, cI a0.Rest.Ops, cI a0.Rest.End]), (1, [cI (0 : Int), cI (0 : Int), cI (0 : Int), cI (0 : Int), cI (0 : Int), cI (0 : Int), cI (0 : Int), cI (0 : Int), cI (0 : Int), cI (0 : Int), cI (0 : Int)]), (2, [cI (0 : Int), cI (0 : Int), cI (0 : Int), cI (0 : Int), cI (0 : Int), cI (0 : Int), cI (0 : Int), cI (0 : Int), cI (0 : Int), cI (0 : Int), cI (0 : Int)])] 3) (Le.mk [(0, 0), (1, 1), (2, 2)] hm rfl ⟨⟨_, rfl, rfl⟩, ⟨_, rfl, rfl⟩, ⟨_, rfl, rfl⟩, trivial⟩ trivial ⟨⟨_, _, rfl, rfl, rfl⟩, ⟨_, _, rfl, rfl, rfl⟩, ⟨_, _, rfl, rfl, rfl⟩, trivial⟩) ?_
  refine L.nil ?_
  refine WpC.seq ?_
  refine WpC.regionL ?_
  refine L.fieldAddr Try.underlying124 rfl info3 rfl hF rfl rfl rfl rfl rfl ?_
  refine L.loadPtr shape3 hF rfl rfl rfl rfl rfl rfl ?_
  refine L.fieldAddr Try.underlying120 rfl info3 rfl hF rfl rfl rfl rfl rfl ?_
  refine L.storePtr shape3 hF rfl rfl rfl rfl rfl rfl rfl ?_
  refine L.le (τ := mkSt [(1, one (Cell.ptr 0 0)), (2, one (Cell.ptr 1 0)), (3, one (Cell.ptr 2 0))] [] [(0, [cI a0.Kind, cI a0.Realm, cI a0.By, cI a0.Client, cI a0.Service, cI a0.Key, cI a0.Parent, cI a0.Evid, cI a0.Rest.Servers, cI a0.Rest.Ops, cI a0.Rest.End]), (1, [cI (0 : Int), cI (0 : Int), cI (0 : Int), cI (0 : Int), cI (0 : Int), cI (0 : Int), cI (0 : Int), cI (0 : Int), cI (0 : Int), cI (0 : Int), cI (0 : Int)]), (2, [cI a0.Kind, cI (0 : Int), cI (0 : Int), cI (0 : Int), cI (0 : Int), cI (0 : Int), cI (0 : Int), cI (0 : Int), cI (0 : Int), cI (0 : Int), cI (0 : Int)])] 3) (Le.mk [(0, 0), (1, 1), (2, 2)] hm rfl ⟨⟨_, rfl, rfl⟩, ⟨_, rfl, rfl⟩, ⟨_, rfl, rfl⟩, trivial⟩ trivial ⟨⟨_, _, rfl, rfl, rfl⟩, ⟨_, _, rfl, rfl, rfl⟩, ⟨_, _, rfl, rfl, rfl⟩, trivial⟩) ?_
  refine L.nil ?_
  refine WpC.seq ?_
  refine WpC.regionL ?_
  refine L.fieldAddr Try.underlying124 rfl info3 rfl hF rfl rfl rfl rfl rfl ?_
  refine L.loadPtr shape3 hF rfl rfl rfl rfl rfl rfl ?_
  refine L.fieldAddr Try.underlying120 rfl info3 rfl hF rfl rfl rfl rfl rfl ?_
  refine L.storePtr shape3 hF rfl rfl rfl rfl rfl rfl rfl ?_
  refine L.le (τ := mkSt [(1, one (Cell.ptr 0 0)), (2, one (Cell.ptr 1 0)), (3, one (Cell.ptr 2 0))] [] [(0, [cI a0.Kind, cI a0.Realm, cI a0.By, cI a0.Client, cI a0.Service, cI a0.Key, cI a0.Parent, cI a0.Evid, cI a0.Rest.Servers, cI a0.Rest.Ops, cI a0.Rest.End]), (1, [cI (0 : Int), cI (0 : Int), cI (0 : Int), cI (0 : Int), cI (0 : Int), cI (0 : Int), cI (0 : Int), cI (0 : Int), cI (0 : Int), cI (0 : Int), cI (0 : Int)]), (2, [cI a0.Kind, cI a0.Realm, cI (0 : Int), cI (0 : Int), cI (0 : Int), cI (0 : Int), cI (0 : Int), cI (0 : Int), cI (0 : Int), cI (0 : Int), cI (0 : Int)])] 3) (Le.mk [(0, 0), (1, 1), (2, 2)] hm rfl ⟨⟨_, rfl, rfl⟩, ⟨_, rfl, rfl⟩, ⟨_, rfl, rfl⟩, trivial⟩ trivial ⟨⟨_, _, rfl, rfl, rfl⟩, ⟨_, _, rfl, rfl, rfl⟩, ⟨_, _, rfl, rfl, rfl⟩, trivial⟩) ?_
  refine L.nil ?_
  refine WpC.seq ?_
  refine WpC.regionL ?_
  refine L.fieldAddr Try.underlying124 rfl info3 rfl hF rfl rfl rfl rfl rfl ?_
  refine L.loadPtr shape3 hF rfl rfl rfl rfl rfl rfl ?_
  refine L.fieldAddr Try.underlying120 rfl info3 rfl hF rfl rfl rfl rfl rfl ?_
  refine L.storePtr shape3 hF rfl rfl rfl rfl rfl rfl rfl ?_
  refine L.le (τ := mkSt [(1, one (Cell.ptr 0 0)), (2, one (Cell.ptr 1 0)), (3, one (Cell.ptr 2 0))] [] [(0, [cI a0.Kind, cI a0.Realm, cI a0.By, cI a0.Client, cI a0.Service, cI a0.Key, cI a0.Parent, cI a0.Evid, cI a0.Rest.Servers, cI a0.Rest.Ops, cI a0.Rest.End]), (1, [cI (0 : Int), cI (0 : Int), cI (0 : Int), cI (0 : Int), cI (0 : Int), cI (0 : Int), cI (0 : Int), cI (0 : Int), cI (0 : Int), cI (0 : Int), cI (0 : Int)]), (2, [cI a0.Kind, cI a0.Realm, cI a0.By, cI (0 : Int), cI (0 : Int), cI (0 : Int), cI (0 : Int), cI (0 : Int), cI (0 : Int), cI (0 : Int), cI (0 : Int)])] 3) (Le.mk [(0, 0), (1, 1), (2, 2)] hm rfl ⟨⟨_, rfl, rfl⟩, ⟨_, rfl, rfl⟩, ⟨_, rfl, rfl⟩, trivial⟩ trivial ⟨⟨_, _, rfl, rfl, rfl⟩, ⟨_, _, rfl, rfl, rfl⟩, ⟨_, _, rfl, rfl, rfl⟩, trivial⟩) ?_
  refine L.nil ?_
  refine WpC.seq ?_
  refine WpC.regionL ?_
  refine L.fieldAddr Try.underlying124 rfl info3 rfl hF rfl rfl rfl rfl rfl ?_
  refine L.loadPtr shape3 hF rfl rfl rfl rfl rfl rfl ?_
  refine L.fieldAddr Try.underlying120 rfl info3 rfl hF rfl rfl rfl rfl rfl ?_
  refine L.storePtr shape3 hF rfl rfl rfl rfl rfl rfl rfl ?_
  refine L.le (τ := mkSt [(1, one (Cell.ptr 0 0)), (2, one (Cell.ptr 1 0)), (3, one (Cell.ptr 2 0))] [] [(0, [cI a0.Kind, cI a0.Realm, cI a0.By, cI a0.Client, cI a0.Service, cI a0.Key, cI a0.Parent, cI a0.Evid, cI a0.Rest.Servers, cI a0.Rest.Ops, cI a0.Rest.End]), (1, [cI (0 : Int), cI (0 : Int), cI (0 : Int), cI (0 : Int), cI (0 : Int), cI (0 : Int), cI (0 : Int), cI (0 : Int), cI (0 : Int), cI (0 : Int), cI (0 : Int)]), (2, [cI a0.Kind, cI a0.Realm, cI a0.By, cI a0.Client, cI (0 : Int), cI (0 : Int), cI (0 : Int), cI (0 : Int), cI (0 : Int), cI (0 : Int), cI (0 : Int)])] 3) (Le.mk [(0, 0), (1, 1), (2, 2)] hm rfl ⟨⟨_, rfl, rfl⟩, ⟨_, rfl, rfl⟩, ⟨_, rfl, rfl⟩, trivial⟩ trivial ⟨⟨_, _, rfl, rfl, rfl⟩, ⟨_, _, rfl, rfl, rfl⟩, ⟨_, _, rfl, rfl, rfl⟩, trivial⟩) ?_
  refine L.nil ?_
  refine WpC.seq ?_
  refine WpC.regionL ?_
  refine L.fieldAddr Try.underlying124 rfl info3 rfl hF rfl rfl rfl rfl rfl ?_
  refine L.loadPtr shape3 hF rfl rfl rfl rfl rfl rfl ?_
  refine L.fieldAddr Try.underlying120 rfl info3 rfl hF rfl rfl rfl rfl rfl ?_
  refine L.storePtr shape3 hF rfl rfl rfl rfl rfl rfl rfl ?_
  refine L.le (τ := mkSt [(1, one (Cell.ptr 0 0)), (2, one (Cell.ptr 1 0)), (3, one (Cell.ptr 2 0))] [] [(0, [cI a0.Kind, cI a0.Realm, cI a0.By, cI a0.Client, cI a0.Service, cI a0.Key, cI a0.Parent, cI a0.Evid, cI a0.Rest.Servers, cI a0.Rest.Ops, cI a0.Rest.End]), (1, [cI (0 : Int), cI (0 : Int), cI (0 : Int), cI (0 : Int), cI (0 : Int), cI (0 : Int), cI (0 : Int), cI (0 : Int), cI (0 : Int), cI (0 : Int), cI (0 : Int)]), (2, [cI a0.Kind, cI a0.Realm, cI a0.By, cI a0.Client, cI a0.Service, cI (0 : Int), cI (0 : Int), cI (0 : Int), cI (0 : Int), cI (0 : Int), cI (0 : Int)])] 3) (Le.mk [(0, 0), (1, 1), (2, 2)] hm rfl ⟨⟨_, rfl, rfl⟩, ⟨_, rfl, rfl⟩, ⟨_, rfl, rfl⟩, trivial⟩ trivial ⟨⟨_, _, rfl, rfl, rfl⟩, ⟨_, _, rfl, rfl, rfl⟩, ⟨_, _, rfl, rfl, rfl⟩, trivial⟩) ?_
  refine L.nil ?_
  refine WpC.seq ?_
  refine WpC.regionL ?_
  refine L.fieldAddr Try.underlying124 rfl info3 rfl hF rfl rfl rfl rfl rfl ?_
  refine L.loadPtr shape3 hF rfl rfl rfl rfl rfl rfl ?_
  refine L.fieldAddr Try.underlying120 rfl info3 rfl hF rfl rfl rfl rfl rfl ?_
  refine L.storePtr shape3 hF rfl rfl rfl rfl rfl rfl rfl ?_
  refine L.le (τ := mkSt [(1, one (Cell.ptr 0 0)), (2, one (Cell.ptr 1 0)), (3, one (Cell.ptr 2 0))] [] [(0, [cI a0.Kind, cI a0.Realm, cI a0.By, cI a0.Client, cI a0.Service, cI a0.Key, cI a0.Parent, cI a0.Evid, cI a0.Rest.Servers, cI a0.Rest.Ops, cI a0.Rest.End]), (1, [cI (0 : Int), cI (0 : Int), cI (0 : Int), cI (0 : Int), cI (0 : Int), cI (0 : Int), cI (0 : Int), cI (0 : Int), cI (0 : Int), cI (0 : Int), cI (0 : Int)]), (2, [cI a0.Kind, cI a0.Realm, cI a0.By, cI a0.Client, cI a0.Service, cI a0.Key, cI (0 : Int), cI (0 : Int), cI (0 : Int), cI (0 : Int), cI (0 : Int)])] 3) (Le.mk [(0, 0), (1, 1), (2, 2)] hm rfl ⟨⟨_, rfl, rfl⟩, ⟨_, rfl, rfl⟩, ⟨_, rfl, rfl⟩, trivial⟩ trivial ⟨⟨_, _, rfl, rfl, rfl⟩, ⟨_, _, rfl, rfl, rfl⟩, ⟨_, _, rfl, rfl, rfl⟩, trivial⟩) ?_
  refine L.nil ?_
  refine WpC.seq ?_
  refine WpC.regionL ?_
  refine L.fieldAddr Try.underlying124 rfl info3 rfl hF rfl rfl rfl rfl rfl ?_
  refine L.loadPtr shape3 hF rfl rfl rfl rfl rfl rfl ?_
  refine L.fieldAddr Try.underlying120 rfl info3 rfl hF rfl rfl rfl rfl rfl ?_
  refine L.storePtr shape3 hF rfl rfl rfl rfl rfl rfl rfl ?_
  refine L.le (τ := mkSt [(1, one (Cell.ptr 0 0)), (2, one (Cell.ptr 1 0)), (3, one (Cell.ptr 2 0))] [] [(0, [cI a0.Kind, cI a0.Realm, cI a0.By, cI a0.Client, cI a0.Service, cI a0.Key, cI a0.Parent, cI a0.Evid, cI a0.Rest.Servers, cI a0.Rest.Ops, cI a0.Rest.End]), (1, [cI (0 : Int), cI (0 : Int), cI (0 : Int), cI (0 : Int), cI (0 : Int), cI (0 : Int), cI (0 : Int), cI (0 : Int), cI (0 : Int), cI (0 : Int), cI (0 : Int)]), (2, [cI a0.Kind, cI a0.Realm, cI a0.By, cI a0.Client, cI a0.Service, cI a0.Key, cI a0.Parent, cI (0 : Int), cI (0 : Int), cI (0 : Int), cI (0 : Int)])] 3) (Le.mk [(0, 0), (1, 1), (2, 2)] hm rfl ⟨⟨_, rfl, rfl⟩, ⟨_, rfl, rfl⟩, ⟨_, rfl, rfl⟩, trivial⟩ trivial ⟨⟨_, _, rfl, rfl, rfl⟩, ⟨_, _, rfl, rfl, rfl⟩, ⟨_, _, rfl, rfl, rfl⟩, trivial⟩) ?_
  refine L.nil ?_
  refine WpC.seq ?_
  refine WpC.regionL ?_
  refine L.fieldAddr Try.underlying124 rfl info3 rfl hF rfl rfl rfl rfl rfl ?_
  refine L.loadPtr shape3 hF rfl rfl rfl rfl rfl rfl ?_
  refine L.fieldAddr Try.underlying120 rfl info3 rfl hF rfl rfl rfl rfl rfl ?_
  refine L.storePtr shape3 hF rfl rfl rfl rfl rfl rfl rfl ?_
  refine L.le (τ := mkSt [(1, one (Cell.ptr 0 0)), (2, one (Cell.ptr 1 0)), (3, one (Cell.ptr 2 0))] [] [(0, [cI a0.Kind, cI a0.Realm, cI a0.By, cI a0.Client, cI a0.Service, cI a0.Key, cI a0.Parent, cI a0.Evid, cI a0.Rest.Servers, cI a0.Rest.Ops, cI a0.Rest.End]), (1, [cI (0 : Int), cI (0 : Int), cI (0 : Int), cI (0 : Int), cI (0 : Int), cI (0 : Int), cI (0 : Int), cI (0 : Int), cI (0 : Int), cI (0 : Int), cI (0 : Int)]), (2, [cI a0.Kind, cI a0.Realm, cI a0.By, cI a0.Client, cI a0.Service, cI a0.Key, cI a0.Parent, cI a0.Evid, cI (0 : Int), cI (0 : Int), cI (0 : Int)])] 3) (Le.mk [(0, 0), (1, 1), (2, 2)] hm rfl ⟨⟨_, rfl, rfl⟩, ⟨_, rfl, rfl⟩, ⟨_, rfl, rfl⟩, trivial⟩ trivial ⟨⟨_, _, rfl, rfl, rfl⟩, ⟨_, _, rfl, rfl, rfl⟩, ⟨_, _, rfl, rfl, rfl⟩, trivial⟩) ?_
  refine L.nil ?_
  refine WpC.seq ?_
  refine WpC.regionL ?_
  refine L.fieldAddr Try.underlying124 rfl info122 rfl hF rfl rfl rfl rfl rfl ?_
  refine L.loadPtr shape122 hF rfl rfl rfl rfl rfl rfl ?_
  obtain ⟨r1, hr1, H⟩ := bindS H
  refine L.call [false] [] [] 3 hF rfl rfl rfl ent151 rfl rfl rfl rfl rfl (Flaws_toRest_gives k  (⟨a0.Rest.Servers, a0.Rest.Ops, a0.Rest.End⟩ : Tlaws_Rest) r1 hr1) rfl ?_
  refine L.fieldAddr Try.underlying120 rfl info118 rfl hF rfl rfl rfl rfl rfl ?_
  refine L.storePtr shape118 hF rfl rfl rfl rfl rfl rfl rfl ?_
  refine L.le (τ := mkSt [(2, one (Cell.ptr 0 0)), (3, one (Cell.ptr 1 0))] [] [(0, [cI (0 : Int), cI (0 : Int), cI (0 : Int), cI (0 : Int), cI (0 : Int), cI (0 : Int), cI (0 : Int), cI (0 : Int), cI (0 : Int), cI (0 : Int), cI (0 : Int)]), (1, [cI a0.Kind, cI a0.Realm, cI a0.By, cI a0.Client, cI a0.Service, cI a0.Key, cI a0.Parent, cI a0.Evid, cI r1.Servers, cI r1.Ops, cI r1.End])] 2) (Le.mk [(0, 1), (1, 2)] hm rfl ⟨⟨_, rfl, rfl⟩, ⟨_, rfl, rfl⟩, trivial⟩ trivial ⟨⟨_, _, rfl, rfl, rfl⟩, ⟨_, _, rfl, rfl, rfl⟩, trivial⟩) ?_
  refine L.nil ?_
  refine WpC.seq ?_
  refine WpC.regionL ?_
  refine L.loadPtr shape120 hF rfl rfl rfl rfl rfl rfl ?_
  refine L.storePtr shape120 hF rfl rfl rfl rfl rfl rfl rfl ?_
  refine L.le (τ := mkSt [(2, one (Cell.ptr 0 0))] [] [(0, [cI a0.Kind, cI a0.Realm, cI a0.By, cI a0.Client, cI a0.Service, cI a0.Key, cI a0.Parent, cI a0.Evid, cI r1.Servers, cI r1.Ops, cI r1.End])] 1) (Le.mk [(0, 0)] hm rfl ⟨⟨_, rfl, rfl⟩, trivial⟩ trivial ⟨⟨_, _, rfl, rfl, rfl⟩, trivial⟩) ?_
  refine L.nil ?_
  refine WpC.ret ?_
  cases H
  exact Leaves.ret rfl rfl rfl ⟨rfl, rfl⟩
/-! ### Flaws_toEventS -/
def Flaws_toEventS.l2 : Nat → (List Tlaws_Event) → (List Timpl_Event) → Int → Option (List Timpl_Event)
  | 0, _, _, _ => none
  | k2 + 1, v45, v46, v47 => cond (decide (v47 < (v45.length : Int))) ((at? v45 v47).bind fun b51 => (Flaws_toEvent k2 b51).bind fun r52 => (at? v46 v47).bind fun b53 => (Flaws_toEventS.l2 k2) v45 (v46.set v47.toNat r52) (IntKind.i64.wrap (v47 + (1 : Int)))) (some v46)
def Flaws_toEventS (k : Nat) (a0 : List Tlaws_Event) : Option (List Timpl_Event) := cond (decide (0 ≤ (a0.length : Int) ∧ (a0.length : Int) ≤ (a0.length : Int) ∧ 88 * (a0.length : Int) ≤ 281474976710656 ∧ (a0.length : Int) ≤ 9223372036854775807)) (Flaws_toEventS.l2 k a0 (List.replicate (a0.length : Int).toNat (⟨(0 : Int), (0 : Int), (0 : Int), (0 : Int), (0 : Int), (0 : Int), (0 : Int), (0 : Int), (⟨(0 : Int), (0 : Int), (0 : Int)⟩ : Timpl_Rest)⟩ : Timpl_Event)) (0 : Int)) none
theorem ent54 : Enters Try.prog 54 := ⟨Try.f54, Try.func54, rfl, by decide⟩
set_option maxHeartbeats 8000000 in
set_option maxRecDepth 100000 in
theorem Flaws_toEventS_gives (k : Nat) (g0 : Bool) (a0 : List Tlaws_Event) (r : List Timpl_Event) (H : Flaws_toEventS k a0 = some r) : Gives Try.prog 54 [V.one (Cell.sl g0 (List.map eTlaws_Event a0))] [] [V.one (Cell.ow 11 (List.map eTimpl_Event r))] [] := by
  refine Gives.intro Try.func54 rfl rfl rfl rfl ?_
  intro F hF hm
  unfold Flaws_toEventS at H
  obtain ⟨K, hK⟩ : ∃ K, k ≤ K := ⟨k, Nat.le_refl k⟩
  refine WpC.seq ?_
  refine WpC.regionL ?_
  refine L.assign hF rfl rfl rfl ?_
  refine L.nil ?_
  refine WpC.seq ?_
  refine WpC.regionL ?_
  refine L.move hF rfl rfl rfl ?_
  refine L.lenR (xs := a0) (e := eTlaws_Event) Try.underlying60 hF rfl rfl rfl rfl ?_
  obtain ⟨h1, H⟩ := condG H
  refine L.makeSlice (e := eTimpl_Event) 1 (⟨(0 : Int), (0 : Int), (0 : Int), (0 : Int), (0 : Int), (0 : Int), (0 : Int), (0 : Int), (⟨(0 : Int), (0 : Int), (0 : Int)⟩ : Timpl_Rest)⟩ : Timpl_Event) Try.underlying63 info120 rfl rfl rfl hF rfl rfl rfl rfl (of_decide_eq_true h1) rfl rfl ?_
  refine L.assign hF rfl rfl rfl ?_
  refine L.nil ?_
  refine WpC.seq ?_
  refine WpC.seq ?_
  refine WpC.regionL ?_
  refine L.assign hF rfl rfl rfl ?_
  refine L.nil ?_
  refine WpC.block ?_
  refine WpC.loopL (P := Try.prog) (fun n σ => ∃ v45 : List Tlaws_Event, ∃ v46 : List Timpl_Event, ∃ v47 : Int, n ≤ K ∧ Flaws_toEventS.l2 n v45 v46 v47 = some r ∧ σ = mkSt [(0, one (Cell.sl g0 (List.map eTlaws_Event v45))), (3, one (Cell.own 0)), (4, one (cI v47))] [(0, ⟨11, List.map eTimpl_Event v46⟩)] [] 1) k ⟨_, ⟨a0, (List.replicate (a0.length : Int).toNat (⟨(0 : Int), (0 : Int), (0 : Int), (0 : Int), (0 : Int), (0 : Int), (0 : Int), (0 : Int), (⟨(0 : Int), (0 : Int), (0 : Int)⟩ : Timpl_Rest)⟩ : Timpl_Event)), (0 : Int), by omega, H, rfl⟩, Le.mk [(0, 1)] hm rfl ⟨⟨_, rfl, rfl⟩, ⟨_, rfl, rfl⟩, ⟨_, rfl, rfl⟩, trivial⟩ ⟨⟨_, rfl, rfl⟩, trivial⟩ trivial⟩ ?_
  clear H
  rintro k2 _ ⟨v45, v46, v47, hk2, H, rfl⟩
  cases k2 with
  | zero => cases H
  | succ k2 =>
    rw [Flaws_toEventS.l2] at H
    refine WpC.seq ?_
    refine WpC.seq ?_
    refine WpC.regionL ?_
    refine L.move hF rfl rfl rfl ?_
    refine L.move hF rfl rfl rfl ?_
    refine L.lenR (xs := v45) (e := eTlaws_Event) Try.underlying60 hF rfl rfl rfl rfl ?_
    refine L.bin hF rfl rfl rfl rfl rfl rfl ?_
    refine L.nil ?_
    refine WpC.cond rfl (fun hc => ?_) (fun hc => ?_)
    · replace H := condT hc H
      refine WpC.skip ?_
      refine WpC.seq ?_
      refine WpC.block ?_
      refine WpC.regionL ?_
      refine L.move hF rfl rfl rfl ?_
      refine L.move hF rfl rfl rfl ?_
      refine L.move hF rfl rfl rfl ?_
      refine L.move hF rfl rfl rfl ?_
      obtain ⟨b51, hb51, H⟩ := bindS H
      refine L.idxR (xs := v45) (e := eTlaws_Event) Try.underlying60 info124 hF rfl rfl rfl rfl rfl hb51 rfl rfl ?_
      refine L.loadPe shape124 hF rfl rfl rfl rfl rfl ?_
      obtain ⟨r52, hr52, H⟩ := bindS H
      refine L.call [false] [] [] 1 hF rfl rfl rfl ent113 rfl rfl rfl rfl rfl (Flaws_toEvent_gives k2  b51 r52 hr52) rfl ?_
      obtain ⟨b53, hb53, H⟩ := bindS H
      refine L.idxR (xs := v46) (e := eTimpl_Event) Try.underlying63 info120 hF rfl rfl rfl rfl rfl hb53 rfl rfl ?_
      refine L.storeEp (xs := v46) (e := eTimpl_Event) (a' := r52) shape120 hF rfl rfl rfl rfl rfl rfl rfl (at?_get hb53).2 rfl rfl ?_
      refine L.nil ?_
      refine WpC.regionL ?_
      refine L.move hF rfl rfl rfl ?_
      refine L.bin hF rfl rfl rfl rfl rfl rfl ?_
      refine L.assign hF rfl rfl rfl ?_
      refine L.nil ?_
      exact ⟨k2, _, by omega, ⟨v45, (v46.set v47.toNat r52), (IntKind.i64.wrap (v47 + (1 : Int))), by omega, H, rfl⟩, Le.mk [(0, 0)] hm rfl ⟨⟨_, rfl, rfl⟩, ⟨_, rfl, rfl⟩, ⟨_, rfl, rfl⟩, trivial⟩ ⟨⟨_, rfl, rfl⟩, trivial⟩ trivial⟩
    · replace H := condF hc H
      refine WpC.exit ?_
      refine WpC.seq ?_
      refine WpC.regionL ?_
      refine L.move hF rfl rfl rfl ?_
      refine L.assign hF rfl rfl rfl ?_
      refine L.nil ?_
      refine WpC.ret ?_
      cases H
      exact Leaves.ret rfl rfl rfl ⟨rfl, rfl⟩
/-! ### Fspec_Find -/
def Fspec_Find.l2 : Nat → (List Timpl_Event) → Int → Int → Option Int
  | 0, _, _, _ => none
  | k2 + 1, v24, v25, v26 => cond (decide (v26 < (v24.length : Int))) ((at? v24 v26).bind fun b28 => cond (b28.Key == v25) (some v26) ((Fspec_Find.l2 k2) v24 v25 (IntKind.i64.wrap (v26 + (1 : Int))))) (some (-1 : Int))
def Fspec_Find (k : Nat) (a0 : List Timpl_Event) (a1 : Int) : Option Int := Fspec_Find.l2 k a0 a1 (0 : Int)
theorem ent53 : Enters Try.prog 53 := ⟨Try.f53, Try.func53, rfl, by decide⟩
set_option maxHeartbeats 8000000 in
set_option maxRecDepth 100000 in
theorem Fspec_Find_gives (k : Nat) (g0 : Bool) (a0 : List Timpl_Event) (a1 : Int) (r : Int) (H : Fspec_Find k a0 a1 = some r) : Gives Try.prog 53 [V.one (Cell.sl g0 (List.map eTimpl_Event a0)), V.one (cI a1)] [] [V.one (cI r)] [] := by
  refine Gives.intro Try.func53 rfl rfl rfl rfl ?_
  intro F hF hm
  unfold Fspec_Find at H
  obtain ⟨K, hK⟩ : ∃ K, k ≤ K := ⟨k, Nat.le_refl k⟩
  refine WpC.seq ?_
  refine WpC.regionL ?_
  refine L.assign hF rfl rfl rfl ?_
  refine L.nil ?_
  refine WpC.seq ?_
  refine WpC.seq ?_
  refine WpC.regionL ?_
  refine L.assign hF rfl rfl rfl ?_
  refine L.nil ?_
  refine WpC.block ?_
  refine WpC.loopL (P := Try.prog) (fun n σ => ∃ v24 : List Timpl_Event, ∃ v25 : Int, ∃ v26 : Int, n ≤ K ∧ Fspec_Find.l2 n v24 v25 v26 = some r ∧ σ = mkSt [(0, one (Cell.sl g0 (List.map eTimpl_Event v24))), (1, one (cI v25)), (5, one (cI v26))] [] [] 0) k ⟨_, ⟨a0, a1, (0 : Int), by omega, H, rfl⟩, Le.mk [] hm rfl ⟨⟨_, rfl, rfl⟩, ⟨_, rfl, rfl⟩, ⟨_, rfl, rfl⟩, trivial⟩ trivial trivial⟩ ?_
  clear H
  rintro k2 _ ⟨v24, v25, v26, hk2, H, rfl⟩
  cases k2 with
  | zero => cases H
  | succ k2 =>
    rw [Fspec_Find.l2] at H
    refine WpC.seq ?_
    refine WpC.seq ?_
    refine WpC.regionL ?_
    refine L.move hF rfl rfl rfl ?_
    refine L.move hF rfl rfl rfl ?_
    refine L.lenR (xs := v24) (e := eTimpl_Event) Try.underlying63 hF rfl rfl rfl rfl ?_
    refine L.bin hF rfl rfl rfl rfl rfl rfl ?_
    refine L.nil ?_
    refine WpC.cond rfl (fun hc => ?_) (fun hc => ?_)
    · replace H := condT hc H
      refine WpC.skip ?_
      refine WpC.seq ?_
      refine WpC.block ?_
      refine WpC.seq ?_
      refine WpC.regionL ?_
      refine L.move hF rfl rfl rfl ?_
      refine L.move hF rfl rfl rfl ?_
      obtain ⟨b28, hb28, H⟩ := bindS H
      refine L.idxR (xs := v24) (e := eTimpl_Event) Try.underlying63 info120 hF rfl rfl rfl rfl rfl hb28 rfl rfl ?_
      refine L.fieldAddr Try.underlying120 rfl info3 rfl hF rfl rfl rfl rfl rfl ?_
      refine L.loadPe shape3 hF rfl rfl rfl rfl rfl ?_
      refine L.move hF rfl rfl rfl ?_
      refine L.bin hF rfl rfl rfl rfl rfl rfl ?_
      refine L.nil ?_
      refine WpC.cond rfl (fun hc => ?_) (fun hc => ?_)
      · replace H := condT hc H
        refine WpC.seq ?_
        refine WpC.regionL ?_
        refine L.move hF rfl rfl rfl ?_
        refine L.assign hF rfl rfl rfl ?_
        refine L.nil ?_
        refine WpC.ret ?_
        cases H
        exact Leaves.ret rfl rfl rfl ⟨rfl, rfl⟩
      · replace H := condF hc H
        refine WpC.skip ?_
        refine WpC.regionL ?_
        refine L.move hF rfl rfl rfl ?_
        refine L.bin hF rfl rfl rfl rfl rfl rfl ?_
        refine L.assign hF rfl rfl rfl ?_
        refine L.nil ?_
        exact ⟨k2, _, by omega, ⟨v24, v25, (IntKind.i64.wrap (v26 + (1 : Int))), by omega, H, rfl⟩, Le.mk [] hm rfl ⟨⟨_, rfl, rfl⟩, ⟨_, rfl, rfl⟩, ⟨_, rfl, rfl⟩, trivial⟩ trivial trivial⟩
    · replace H := condF hc H
      refine WpC.exit ?_
      refine WpC.seq ?_
      refine WpC.regionL ?_
      refine L.assign hF rfl rfl rfl ?_
      refine L.nil ?_
      refine WpC.ret ?_
      cases H
      exact Leaves.ret rfl rfl rfl ⟨rfl, rfl⟩
/-! ### Fimpl_Find_1 -/
def Fimpl_Find_1 (k : Nat) (a0 : Timpl_Event) (o0 : Int) : Option Bool := some (a0.Key == o0)
theorem ent115 : Enters Try.prog 115 := ⟨Try.f115, Try.func115, rfl, by decide⟩
set_option maxHeartbeats 8000000 in
set_option maxRecDepth 100000 in
theorem Fimpl_Find_1_gives (k : Nat) (a0 : Timpl_Event) (o0 : Int) (r : Bool) (H : Fimpl_Find_1 k a0 o0 = some r) : Gives Try.prog 115 [V.agg [cI a0.Kind, cI a0.Realm, cI a0.By, cI a0.Client, cI a0.Service, cI a0.Key, cI a0.Parent, cI a0.Evid, cI a0.Rest.Servers, cI a0.Rest.Ops, cI a0.Rest.End], V.one (Cell.ptr 0 0)] [[cI o0]] [V.one (cL r)] [[cI o0]] := by
  refine Gives.intro Try.func115 rfl rfl rfl rfl ?_
  intro F hF hm
  unfold Fimpl_Find_1 at H
  obtain ⟨K, hK⟩ : ∃ K, k ≤ K := ⟨k, Nat.le_refl k⟩
  refine WpC.seq ?_
  refine WpC.regionL ?_
  refine L.box 14 hF rfl rfl rfl rfl ?_
  refine L.assign hF rfl rfl rfl ?_
  refine L.nil ?_
  refine WpC.seq ?_
  refine WpC.regionL ?_
  refine L.fieldAddr Try.underlying120 rfl info3 rfl hF rfl rfl rfl rfl rfl ?_
  refine L.loadPtr shape3 hF rfl rfl rfl rfl rfl rfl ?_
  refine L.loadPtr shape3 hF rfl rfl rfl rfl rfl rfl ?_
  refine L.bin hF rfl rfl rfl rfl rfl rfl ?_
  refine L.assign hF rfl rfl rfl ?_
  refine L.nil ?_
  refine WpC.ret ?_
  cases H
  exact Leaves.ret rfl rfl rfl ⟨rfl, rfl⟩
/-! ### Fslices_IndexFunc_Event__impl_Find_1 -/
def Fslices_IndexFunc_Event__impl_Find_1.l2 : Nat → (List Timpl_Event) → Int → Int → Int → Option (Int × Int)
  | 0, _, _, _, _ => none
  | k2 + 1, v39, v40, v41, v42 => cond (decide (v41 < v40)) ((at? v39 v41).bind fun b45 => (Fimpl_Find_1 k2 b45 v42).bind fun r46 => cond r46 (some (v41, v42)) ((Fslices_IndexFunc_Event__impl_Find_1.l2 k2) v39 v40 (IntKind.i64.wrap (v41 + (1 : Int))) v42)) (some ((-1 : Int), v42))
def Fslices_IndexFunc_Event__impl_Find_1 (k : Nat) (a0 : List Timpl_Event) (o0 : Int) : Option (Int × Int) := Fslices_IndexFunc_Event__impl_Find_1.l2 k a0 (a0.length : Int) (0 : Int) o0
theorem ent114 : Enters Try.prog 114 := ⟨Try.f114, Try.func114, rfl, by decide⟩
set_option maxHeartbeats 8000000 in
set_option maxRecDepth 100000 in
theorem Fslices_IndexFunc_Event__impl_Find_1_gives (k : Nat) (g0 : Bool) (a0 : List Timpl_Event) (o0 : Int) (r : Int × Int) (H : Fslices_IndexFunc_Event__impl_Find_1 k a0 o0 = some r) : Gives Try.prog 114 [V.one (Cell.sl g0 (List.map eTimpl_Event a0)), V.one (Cell.clo 115 [Cell.ptr 0 0])] [[cI o0]] [V.one (cI r.1)] [[cI r.2]] := by
  refine Gives.intro Try.func114 rfl rfl rfl rfl ?_
  intro F hF hm
  unfold Fslices_IndexFunc_Event__impl_Find_1 at H
  obtain ⟨K, hK⟩ : ∃ K, k ≤ K := ⟨k, Nat.le_refl k⟩
  refine WpC.seq ?_
  refine WpC.regionL ?_
  refine L.assign hF rfl rfl rfl ?_
  refine L.nil ?_
  refine WpC.seq ?_
  refine WpC.seq ?_
  refine WpC.regionL ?_
  refine L.move hF rfl rfl rfl ?_
  refine L.lenR (xs := a0) (e := eTimpl_Event) Try.underlying63 hF rfl rfl rfl rfl ?_
  refine L.move hF rfl rfl rfl ?_
  refine L.nil ?_
  refine WpC.block ?_
  refine WpC.loopL (P := Try.prog) (fun n σ => ∃ v39 : List Timpl_Event, ∃ v40 : Int, ∃ v41 : Int, ∃ v42 : Int, n ≤ K ∧ Fslices_IndexFunc_Event__impl_Find_1.l2 n v39 v40 v41 v42 = some r ∧ σ = mkSt [(0, one (Cell.sl g0 (List.map eTimpl_Event v39))), (1, one (Cell.clo 115 [Cell.ptr 0 0])), (7, one (cI v40)), (8, one (cI v41))] [] [(0, [cI v42])] 1) k ⟨_, ⟨a0, (a0.length : Int), (0 : Int), o0, by omega, H, rfl⟩, Le.mk [(0, 0)] hm rfl ⟨⟨_, rfl, rfl⟩, ⟨_, rfl, rfl⟩, ⟨_, rfl, rfl⟩, ⟨_, rfl, rfl⟩, trivial⟩ trivial ⟨⟨_, _, rfl, rfl, rfl⟩, trivial⟩⟩ ?_
  clear H
  rintro k2 _ ⟨v39, v40, v41, v42, hk2, H, rfl⟩
  cases k2 with
  | zero => cases H
  | succ k2 =>
    rw [Fslices_IndexFunc_Event__impl_Find_1.l2] at H
    refine WpC.seq ?_
    refine WpC.regionL ?_
    refine L.bin hF rfl rfl rfl rfl rfl rfl ?_
    refine L.nil ?_
    refine WpC.seq ?_
    refine WpC.cond rfl (fun hc => ?_) (fun hc => ?_)
    · replace H := condT hc H
      refine WpC.skip ?_
      refine WpC.seq ?_
      refine WpC.block ?_
      refine WpC.seq ?_
      refine WpC.regionL ?_
      refine L.move hF rfl rfl rfl ?_
      refine L.assign hF rfl rfl rfl ?_
      refine L.nil ?_
      refine WpC.seq ?_
      refine WpC.regionL ?_
      refine L.move hF rfl rfl rfl ?_
      refine L.move hF rfl rfl rfl ?_
      refine L.move hF rfl rfl rfl ?_
      obtain ⟨b45, hb45, H⟩ := bindS H
      refine L.idxR (xs := v39) (e := eTimpl_Event) Try.underlying63 info120 hF rfl rfl rfl rfl rfl hb45 rfl rfl ?_
      refine L.loadPe shape120 hF rfl rfl rfl rfl rfl ?_
      obtain ⟨r46, hr46, H⟩ := bindS H
      refine L.call [false] [] [0] 1 hF rfl rfl rfl ent115 rfl rfl rfl rfl rfl (Fimpl_Find_1_gives k2  b45 v42 r46 hr46) rfl ?_
      refine L.nil ?_
      refine WpC.cond rfl (fun hc => ?_) (fun hc => ?_)
      · replace H := condT hc H
        refine WpC.seq ?_
        refine WpC.regionL ?_
        refine L.move hF rfl rfl rfl ?_
        refine L.assign hF rfl rfl rfl ?_
        refine L.nil ?_
        refine WpC.ret ?_
        cases H
        exact Leaves.ret rfl rfl rfl ⟨rfl, rfl⟩
      · replace H := condF hc H
        refine WpC.skip ?_
        refine WpC.regionL ?_
        refine L.bin hF rfl rfl rfl rfl rfl rfl ?_
        refine L.move hF rfl rfl rfl ?_
        refine L.nil ?_
        exact ⟨k2, _, by omega, ⟨v39, v40, (IntKind.i64.wrap (v41 + (1 : Int))), v42, by omega, H, rfl⟩, Le.mk [(0, 0)] hm rfl ⟨⟨_, rfl, rfl⟩, ⟨_, rfl, rfl⟩, ⟨_, rfl, rfl⟩, ⟨_, rfl, rfl⟩, trivial⟩ trivial ⟨⟨_, _, rfl, rfl, rfl⟩, trivial⟩⟩
    · replace H := condF hc H
      refine WpC.exit ?_
      refine WpC.seq ?_
      refine WpC.regionL ?_
      refine L.assign hF rfl rfl rfl ?_
      refine L.nil ?_
      refine WpC.ret ?_
      cases H
      exact Leaves.ret rfl rfl rfl ⟨rfl, rfl⟩
/-! ### Fimpl_Find -/
def Fimpl_Find (k : Nat) (a0 : List Timpl_Event) (a1 : Int) : Option Int := (Fslices_IndexFunc_Event__impl_Find_1 k a0 a1).bind fun r1 => some r1.1
theorem ent55 : Enters Try.prog 55 := ⟨Try.f55, Try.func55, rfl, by decide⟩
set_option maxHeartbeats 8000000 in
set_option maxRecDepth 100000 in
theorem Fimpl_Find_gives (k : Nat) (g0 : Bool) (a0 : List Timpl_Event) (a1 : Int) (r : Int) (H : Fimpl_Find k a0 a1 = some r) : Gives Try.prog 55 [V.one (Cell.sl g0 (List.map eTimpl_Event a0)), V.one (cI a1)] [] [V.one (cI r)] [] := by
  refine Gives.intro Try.func55 rfl rfl rfl rfl ?_
  intro F hF hm
  unfold Fimpl_Find at H
  obtain ⟨K, hK⟩ : ∃ K, k ≤ K := ⟨k, Nat.le_refl k⟩
  refine WpC.seq ?_
  refine WpC.regionL ?_
  refine L.box 2 hF rfl rfl rfl rfl ?_
  refine L.assign hF rfl rfl rfl ?_
  refine L.nil ?_
  refine WpC.seq ?_
  refine WpC.regionL ?_
  refine L.move hF rfl rfl rfl ?_
  refine L.makeFunc hF rfl rfl rfl ?_
  obtain ⟨r1, hr1, H⟩ := bindS H
  refine L.call [false, false] [] [2] 3 hF rfl rfl rfl ent114 rfl rfl rfl rfl rfl (Fslices_IndexFunc_Event__impl_Find_1_gives k g0 a0 a1 r1 hr1) rfl ?_
  refine L.assign hF rfl rfl rfl ?_
  refine L.nil ?_
  refine WpC.ret ?_
  cases H
  exact Leaves.ret rfl rfl rfl ⟨rfl, rfl⟩
/-! ### Flaws_eqRest -/
def Flaws_eqRest (k : Nat) (a0 : Timpl_Rest) (a1 : Timpl_Rest) : Option Bool := cond (a0.Servers != a1.Servers) (some false) (cond (a0.Ops != a1.Ops) (some false) (cond (a0.End != a1.End) (some false) (some true)))
theorem ent152 : Enters Try.prog 152 := ⟨Try.f152, Try.func152, rfl, by decide⟩
set_option maxHeartbeats 8000000 in
set_option maxRecDepth 100000 in
theorem Flaws_eqRest_gives (k : Nat) (a0 : Timpl_Rest) (a1 : Timpl_Rest) (r : Bool) (H : Flaws_eqRest k a0 a1 = some r) : Gives Try.prog 152 [V.agg [cI a0.Servers, cI a0.Ops, cI a0.End], V.agg [cI a1.Servers, cI a1.Ops, cI a1.End]] [] [V.one (cL r)] [] := by
  refine Gives.intro Try.func152 rfl rfl rfl rfl ?_
  intro F hF hm
  unfold Flaws_eqRest at H
  obtain ⟨K, hK⟩ : ∃ K, k ≤ K := ⟨k, Nat.le_refl k⟩
  refine WpC.seq ?_
  refine WpC.regionL ?_
  refine L.box 6 hF rfl rfl rfl rfl ?_
  refine L.box 7 hF rfl rfl rfl rfl ?_
  refine L.assign hF rfl rfl rfl ?_
  refine L.nil ?_
  refine WpC.seq ?_
  refine WpC.seq ?_
  refine WpC.regionL ?_
  refine L.fieldAddr Try.underlying118 rfl info3 rfl hF rfl rfl rfl rfl rfl ?_
  refine L.loadPtr shape3 hF rfl rfl rfl rfl rfl rfl ?_
  refine L.fieldAddr Try.underlying118 rfl info3 rfl hF rfl rfl rfl rfl rfl ?_
  refine L.loadPtr shape3 hF rfl rfl rfl rfl rfl rfl ?_
  refine L.bin hF rfl rfl rfl rfl rfl rfl ?_
  refine L.nil ?_
  refine WpC.cond rfl (fun hc => ?_) (fun hc => ?_)
  · replace H := condT hc H
    refine WpC.seq ?_
    refine WpC.regionL ?_
    refine L.assign hF rfl rfl rfl ?_
    refine L.nil ?_
    refine WpC.ret ?_
    cases H
    exact Leaves.ret rfl rfl rfl ⟨rfl, rfl⟩
  · replace H := condF hc H
    refine WpC.skip ?_
    refine WpC.seq ?_
    refine WpC.seq ?_
    refine WpC.regionL ?_
    refine L.fieldAddr Try.underlying118 rfl info3 rfl hF rfl rfl rfl rfl rfl ?_
    refine L.loadPtr shape3 hF rfl rfl rfl rfl rfl rfl ?_
    refine L.fieldAddr Try.underlying118 rfl info3 rfl hF rfl rfl rfl rfl rfl ?_
    refine L.loadPtr shape3 hF rfl rfl rfl rfl rfl rfl ?_
    refine L.bin hF rfl rfl rfl rfl rfl rfl ?_
    refine L.nil ?_
    refine WpC.cond rfl (fun hc => ?_) (fun hc => ?_)
    · replace H := condT hc H
      refine WpC.seq ?_
      refine WpC.regionL ?_
      refine L.assign hF rfl rfl rfl ?_
      refine L.nil ?_
      refine WpC.ret ?_
      cases H
      exact Leaves.ret rfl rfl rfl ⟨rfl, rfl⟩
    · replace H := condF hc H
      refine WpC.skip ?_
      refine WpC.seq ?_
      refine WpC.seq ?_
      refine WpC.regionL ?_
      refine L.fieldAddr Try.underlying118 rfl info3 rfl hF rfl rfl rfl rfl rfl ?_
      refine L.loadPtr shape3 hF rfl rfl rfl rfl rfl rfl ?_
      refine L.fieldAddr Try.underlying118 rfl info3 rfl hF rfl rfl rfl rfl rfl ?_
      refine L.loadPtr shape3 hF rfl rfl rfl rfl rfl rfl ?_
      refine L.bin hF rfl rfl rfl rfl rfl rfl ?_
      refine L.nil ?_
      refine WpC.cond rfl (fun hc => ?_) (fun hc => ?_)
      · replace H := condT hc H
        refine WpC.seq ?_
        refine WpC.regionL ?_
        refine L.assign hF rfl rfl rfl ?_
        refine L.nil ?_
        refine WpC.ret ?_
        cases H
        exact Leaves.ret rfl rfl rfl ⟨rfl, rfl⟩
      · replace H := condF hc H
        refine WpC.skip ?_
        refine WpC.seq ?_
        refine WpC.regionL ?_
        refine L.assign hF rfl rfl rfl ?_
        refine L.nil ?_
        refine WpC.ret ?_
        cases H
        exact Leaves.ret rfl rfl rfl ⟨rfl, rfl⟩
/-! ### Flaws_eqEvent -/
def Flaws_eqEvent (k : Nat) (a0 : Timpl_Event) (a1 : Timpl_Event) : Option Bool := cond (a0.Kind != a1.Kind) (some false) (cond (a0.Realm != a1.Realm) (some false) (cond (a0.By != a1.By) (some false) (cond (a0.Client != a1.Client) (some false) (cond (a0.Service != a1.Service) (some false) (cond (a0.Key != a1.Key) (some false) (cond (a0.Parent != a1.Parent) (some false) (cond (a0.Evid != a1.Evid) (some false) ((Flaws_eqRest k (⟨a0.Rest.Servers, a0.Rest.Ops, a0.Rest.End⟩ : Timpl_Rest) (⟨a1.Rest.Servers, a1.Rest.Ops, a1.Rest.End⟩ : Timpl_Rest)).bind fun r2 => cond (!r2) (some false) (some true)))))))))
theorem ent116 : Enters Try.prog 116 := ⟨Try.f116, Try.func116, rfl, by decide⟩
set_option maxHeartbeats 8000000 in
set_option maxRecDepth 100000 in
theorem Flaws_eqEvent_gives (k : Nat) (a0 : Timpl_Event) (a1 : Timpl_Event) (r : Bool) (H : Flaws_eqEvent k a0 a1 = some r) : Gives Try.prog 116 [V.agg [cI a0.Kind, cI a0.Realm, cI a0.By, cI a0.Client, cI a0.Service, cI a0.Key, cI a0.Parent, cI a0.Evid, cI a0.Rest.Servers, cI a0.Rest.Ops, cI a0.Rest.End], V.agg [cI a1.Kind, cI a1.Realm, cI a1.By, cI a1.Client, cI a1.Service, cI a1.Key, cI a1.Parent, cI a1.Evid, cI a1.Rest.Servers, cI a1.Rest.Ops, cI a1.Rest.End]] [] [V.one (cL r)] [] := by
  refine Gives.intro Try.func116 rfl rfl rfl rfl ?_
  intro F hF hm
  unfold Flaws_eqEvent at H
  obtain ⟨K, hK⟩ : ∃ K, k ≤ K := ⟨k, Nat.le_refl k⟩
  refine WpC.seq ?_
  refine WpC.regionL ?_
  refine L.box 22 hF rfl rfl rfl rfl ?_
  refine L.box 23 hF rfl rfl rfl rfl ?_
  refine L.assign hF rfl rfl rfl ?_
  refine L.nil ?_
  refine WpC.seq ?_
  refine WpC.seq ?_
  refine WpC.regionL ?_
  refine L.fieldAddr Try.underlying120 rfl info3 rfl hF rfl rfl rfl rfl rfl ?_
  refine L.loadPtr shape3 hF rfl rfl rfl rfl rfl rfl ?_
  refine L.fieldAddr Try.underlying120 rfl info3 rfl hF rfl rfl rfl rfl rfl ?_
  refine L.loadPtr shape3 hF rfl rfl rfl rfl rfl rfl ?_
  refine L.bin hF rfl rfl rfl rfl rfl rfl ?_
  refine L.nil ?_
  refine WpC.cond rfl (fun hc => ?_) (fun hc => ?_)
  · replace H := condT hc H
    refine WpC.seq ?_
    refine WpC.regionL ?_
    refine L.assign hF rfl rfl rfl ?_
    refine L.nil ?_
    refine WpC.ret ?_
    cases H
    exact Leaves.ret rfl rfl rfl ⟨rfl, rfl⟩
  · replace H := condF hc H
    refine WpC.skip ?_
    refine WpC.seq ?_
    refine WpC.seq ?_
    refine WpC.regionL ?_
    refine L.fieldAddr Try.underlying120 rfl info3 rfl hF rfl rfl rfl rfl rfl ?_
    refine L.loadPtr shape3 hF rfl rfl rfl rfl rfl rfl ?_
    refine L.fieldAddr Try.underlying120 rfl info3 rfl hF rfl rfl rfl rfl rfl ?_
    refine L.loadPtr shape3 hF rfl rfl rfl rfl rfl rfl ?_
    refine L.bin hF rfl rfl rfl rfl rfl rfl ?_
    refine L.nil ?_
    refine WpC.cond rfl (fun hc => ?_) (fun hc => ?_)
    · replace H := condT hc H
      refine WpC.seq ?_
      refine WpC.regionL ?_
      refine L.assign hF rfl rfl rfl ?_
      refine L.nil ?_
      refine WpC.ret ?_
      cases H
      exact Leaves.ret rfl rfl rfl ⟨rfl, rfl⟩
    · replace H := condF hc H
      refine WpC.skip ?_
      refine WpC.seq ?_
      refine WpC.seq ?_
      refine WpC.regionL ?_
      refine L.fieldAddr Try.underlying120 rfl info3 rfl hF rfl rfl rfl rfl rfl ?_
      refine L.loadPtr shape3 hF rfl rfl rfl rfl rfl rfl ?_
      refine L.fieldAddr Try.underlying120 rfl info3 rfl hF rfl rfl rfl rfl rfl ?_
      refine L.loadPtr shape3 hF rfl rfl rfl rfl rfl rfl ?_
      refine L.bin hF rfl rfl rfl rfl rfl rfl ?_
      refine L.nil ?_
      refine WpC.cond rfl (fun hc => ?_) (fun hc => ?_)
      · replace H := condT hc H
        refine WpC.seq ?_
        refine WpC.regionL ?_
        refine L.assign hF rfl rfl rfl ?_
        refine L.nil ?_
        refine WpC.ret ?_
        cases H
        exact Leaves.ret rfl rfl rfl ⟨rfl, rfl⟩
      · replace H := condF hc H
        refine WpC.skip ?_
        refine WpC.seq ?_
        refine WpC.seq ?_
        refine WpC.regionL ?_
        refine L.fieldAddr Try.underlying120 rfl info3 rfl hF rfl rfl rfl rfl rfl ?_
        refine L.loadPtr shape3 hF rfl rfl rfl rfl rfl rfl ?_
        refine L.fieldAddr Try.underlying120 rfl info3 rfl hF rfl rfl rfl rfl rfl ?_
        refine L.loadPtr shape3 hF rfl rfl rfl rfl rfl rfl ?_
        refine L.bin hF rfl rfl rfl rfl rfl rfl ?_
        refine L.nil ?_
        refine WpC.cond rfl (fun hc => ?_) (fun hc => ?_)
        · replace H := condT hc H
          refine WpC.seq ?_
          refine WpC.regionL ?_
          refine L.assign hF rfl rfl rfl ?_
          refine L.nil ?_
          refine WpC.ret ?_
          cases H
          exact Leaves.ret rfl rfl rfl ⟨rfl, rfl⟩
        · replace H := condF hc H
          refine WpC.skip ?_
          refine WpC.seq ?_
          refine WpC.seq ?_
          refine WpC.regionL ?_
          refine L.fieldAddr Try.underlying120 rfl info3 rfl hF rfl rfl rfl rfl rfl ?_
          refine L.loadPtr shape3 hF rfl rfl rfl rfl rfl rfl ?_
          refine L.fieldAddr Try.underlying120 rfl info3 rfl hF rfl rfl rfl rfl rfl ?_
          refine L.loadPtr shape3 hF rfl rfl rfl rfl rfl rfl ?_
          refine L.bin hF rfl rfl rfl rfl rfl rfl ?_
          refine L.nil ?_
          refine WpC.cond rfl (fun hc => ?_) (fun hc => ?_)
          · replace H := condT hc H
            refine WpC.seq ?_
            refine WpC.regionL ?_
            refine L.assign hF rfl rfl rfl ?_
            refine L.nil ?_
            refine WpC.ret ?_
            cases H
            exact Leaves.ret rfl rfl rfl ⟨rfl, rfl⟩
          · replace H := condF hc H
            refine WpC.skip ?_
            refine WpC.seq ?_
            refine WpC.seq ?_
            refine WpC.regionL ?_
            refine L.fieldAddr Try.underlying120 rfl info3 rfl hF rfl rfl rfl rfl rfl ?_
            refine L.loadPtr shape3 hF rfl rfl rfl rfl rfl rfl ?_
            refine L.fieldAddr Try.underlying120 rfl info3 rfl hF rfl rfl rfl rfl rfl ?_
            refine L.loadPtr shape3 hF rfl rfl rfl rfl rfl rfl ?_
            refine L.bin hF rfl rfl rfl rfl rfl rfl ?_
            refine L.nil ?_
            refine WpC.cond rfl (fun hc => ?_) (fun hc => ?_)
            · replace H := condT hc H
              refine WpC.seq ?_
              refine WpC.regionL ?_
              refine L.assign hF rfl rfl rfl ?_
              refine L.nil ?_
              refine WpC.ret ?_
              cases H
              exact Leaves.ret rfl rfl rfl ⟨rfl, rfl⟩
            · replace H := condF hc H
              refine WpC.skip ?_
              refine WpC.seq ?_
              refine WpC.seq ?_
              refine WpC.regionL ?_
              refine L.fieldAddr Try.underlying120 rfl info3 rfl hF rfl rfl rfl rfl rfl ?_
              refine L.loadPtr shape3 hF rfl rfl rfl rfl rfl rfl ?_
              refine L.fieldAddr Try.underlying120 rfl info3 rfl hF rfl rfl rfl rfl rfl ?_
              refine L.loadPtr shape3 hF rfl rfl rfl rfl rfl rfl ?_
              refine L.bin hF rfl rfl rfl rfl rfl rfl ?_
              refine L.nil ?_
              refine WpC.cond rfl (fun hc => ?_) (fun hc => ?_)
              · replace H := condT hc H
                refine WpC.seq ?_
                refine WpC.regionL ?_
                refine L.assign hF rfl rfl rfl ?_
                refine L.nil ?_
                refine WpC.ret ?_
                cases H
                exact Leaves.ret rfl rfl rfl ⟨rfl, rfl⟩
              · replace H := condF hc H
                refine WpC.skip ?_
                refine WpC.seq ?_
                refine WpC.seq ?_
                refine WpC.regionL ?_
                refine L.fieldAddr Try.underlying120 rfl info3 rfl hF rfl rfl rfl rfl rfl ?_
                refine L.loadPtr shape3 hF rfl rfl rfl rfl rfl rfl ?_
                refine L.fieldAddr Try.underlying120 rfl info3 rfl hF rfl rfl rfl rfl rfl ?_
                refine L.loadPtr shape3 hF rfl rfl rfl rfl rfl rfl ?_
                refine L.bin hF rfl rfl rfl rfl rfl rfl ?_
                refine L.nil ?_
                refine WpC.cond rfl (fun hc => ?_) (fun hc => ?_)
                · replace H := condT hc H
                  refine WpC.seq ?_
                  refine WpC.regionL ?_
                  refine L.assign hF rfl rfl rfl ?_
                  refine L.nil ?_
                  refine WpC.ret ?_
                  cases H
                  exact Leaves.ret rfl rfl rfl ⟨rfl, rfl⟩
                · replace H := condF hc H
                  refine WpC.skip ?_
                  refine WpC.seq ?_
                  refine WpC.seq ?_
                  refine WpC.regionL ?_
                  refine L.fieldAddr Try.underlying120 rfl info118 rfl hF rfl rfl rfl rfl rfl ?_
                  refine L.loadPtr shape118 hF rfl rfl rfl rfl rfl rfl ?_
                  refine L.fieldAddr Try.underlying120 rfl info118 rfl hF rfl rfl rfl rfl rfl ?_
                  refine L.loadPtr shape118 hF rfl rfl rfl rfl rfl rfl ?_
                  obtain ⟨r2, hr2, H⟩ := bindS H
                  refine L.call [false, false] [] [] 24 hF rfl rfl rfl ent152 rfl rfl rfl rfl rfl (Flaws_eqRest_gives k  (⟨a0.Rest.Servers, a0.Rest.Ops, a0.Rest.End⟩ : Timpl_Rest) (⟨a1.Rest.Servers, a1.Rest.Ops, a1.Rest.End⟩ : Timpl_Rest) r2 hr2) rfl ?_
                  refine L.not hF rfl rfl rfl ?_
                  refine L.nil ?_
                  refine WpC.cond rfl (fun hc => ?_) (fun hc => ?_)
                  · replace H := condT hc H
                    refine WpC.seq ?_
                    refine WpC.regionL ?_
                    refine L.assign hF rfl rfl rfl ?_
                    refine L.nil ?_
                    refine WpC.ret ?_
                    cases H
                    exact Leaves.ret rfl rfl rfl ⟨rfl, rfl⟩
                  · replace H := condF hc H
                    refine WpC.skip ?_
                    refine WpC.seq ?_
                    refine WpC.regionL ?_
                    refine L.assign hF rfl rfl rfl ?_
                    refine L.nil ?_
                    refine WpC.ret ?_
                    cases H
                    exact Leaves.ret rfl rfl rfl ⟨rfl, rfl⟩
/-! ### Flaws_eqEventS -/
def Flaws_eqEventS.l2 : Nat → (List Timpl_Event) → (List Timpl_Event) → Int → Option Bool
  | 0, _, _, _ => none
  | k2 + 1, v44, v45, v46 => cond (decide (v46 < (v44.length : Int))) ((at? v44 v46).bind fun b50 => (at? v45 v46).bind fun b51 => (Flaws_eqEvent k2 b50 b51).bind fun r52 => cond (!r52) (some false) ((Flaws_eqEventS.l2 k2) v44 v45 (IntKind.i64.wrap (v46 + (1 : Int))))) (some true)
def Flaws_eqEventS (k : Nat) (a0 : List Timpl_Event) (a1 : List Timpl_Event) : Option Bool := cond ((a0.length : Int) != (a1.length : Int)) (some false) (Flaws_eqEventS.l2 k a0 a1 (0 : Int))
theorem ent56 : Enters Try.prog 56 := ⟨Try.f56, Try.func56, rfl, by decide⟩
set_option maxHeartbeats 8000000 in
set_option maxRecDepth 100000 in
theorem Flaws_eqEventS_gives (k : Nat) (g0 : Bool) (g1 : Bool) (a0 : List Timpl_Event) (a1 : List Timpl_Event) (r : Bool) (H : Flaws_eqEventS k a0 a1 = some r) : Gives Try.prog 56 [V.one (Cell.sl g0 (List.map eTimpl_Event a0)), V.one (Cell.sl g1 (List.map eTimpl_Event a1))] [] [V.one (cL r)] [] := by
  refine Gives.intro Try.func56 rfl rfl rfl rfl ?_
  intro F hF hm
  unfold Flaws_eqEventS at H
  obtain ⟨K, hK⟩ : ∃ K, k ≤ K := ⟨k, Nat.le_refl k⟩
  refine WpC.seq ?_
  refine WpC.regionL ?_
  refine L.assign hF rfl rfl rfl ?_
  refine L.nil ?_
  refine WpC.seq ?_
  refine WpC.seq ?_
  refine WpC.regionL ?_
  refine L.move hF rfl rfl rfl ?_
  refine L.lenR (xs := a0) (e := eTimpl_Event) Try.underlying63 hF rfl rfl rfl rfl ?_
  refine L.move hF rfl rfl rfl ?_
  refine L.lenR (xs := a1) (e := eTimpl_Event) Try.underlying63 hF rfl rfl rfl rfl ?_
  refine L.bin hF rfl rfl rfl rfl rfl rfl ?_
  refine L.nil ?_
  refine WpC.cond rfl (fun hc => ?_) (fun hc => ?_)
  · replace H := condT hc H
    refine WpC.seq ?_
    refine WpC.regionL ?_
    refine L.assign hF rfl rfl rfl ?_
    refine L.nil ?_
    refine WpC.ret ?_
    cases H
    exact Leaves.ret rfl rfl rfl ⟨rfl, rfl⟩
  · replace H := condF hc H
    refine WpC.skip ?_
    refine WpC.seq ?_
    refine WpC.seq ?_
    refine WpC.regionL ?_
    refine L.assign hF rfl rfl rfl ?_
    refine L.nil ?_
    refine WpC.block ?_
    refine WpC.loopL (P := Try.prog) (fun n σ => ∃ v44 : List Timpl_Event, ∃ v45 : List Timpl_Event, ∃ v46 : Int, n ≤ K ∧ Flaws_eqEventS.l2 n v44 v45 v46 = some r ∧ σ = mkSt [(0, one (Cell.sl g0 (List.map eTimpl_Event v44))), (1, one (Cell.sl g1 (List.map eTimpl_Event v45))), (5, one (cI v46))] [] [] 0) k ⟨_, ⟨a0, a1, (0 : Int), by omega, H, rfl⟩, Le.mk [] hm rfl ⟨⟨_, rfl, rfl⟩, ⟨_, rfl, rfl⟩, ⟨_, rfl, rfl⟩, trivial⟩ trivial trivial⟩ ?_
    clear H
    rintro k2 _ ⟨v44, v45, v46, hk2, H, rfl⟩
    cases k2 with
    | zero => cases H
    | succ k2 =>
      rw [Flaws_eqEventS.l2] at H
      refine WpC.seq ?_
      refine WpC.seq ?_
      refine WpC.regionL ?_
      refine L.move hF rfl rfl rfl ?_
      refine L.move hF rfl rfl rfl ?_
      refine L.lenR (xs := v44) (e := eTimpl_Event) Try.underlying63 hF rfl rfl rfl rfl ?_
      refine L.bin hF rfl rfl rfl rfl rfl rfl ?_
      refine L.nil ?_
      refine WpC.cond rfl (fun hc => ?_) (fun hc => ?_)
      · replace H := condT hc H
        refine WpC.skip ?_
        refine WpC.seq ?_
        refine WpC.block ?_
        refine WpC.seq ?_
        obtain ⟨b50, hb50, H⟩ := bindS H
        obtain ⟨b51, hb51, H⟩ := bindS H
        obtain ⟨r52, hr52, H⟩ := bindS H
        refine A.begin mixed rfl rfl ?_
        intro W hI hO
        have n1023 : W 0 #[true, true, true, true, true, true, true, true, true, true] (mkSt [(0, one (Cell.sl g0 (List.map eTimpl_Event v44))), (1, one (Cell.sl g1 (List.map eTimpl_Event v45))), (5, one (cI v46)), (26, one (cL (!r52)))] [] [] 0) := by
          refine hI _ _ _ (A.done (by kernel_rfl) ?_)
          refine WpC.cond rfl (fun hc => ?_) (fun hc => ?_)
          · replace H := condT hc H
            refine WpC.seq ?_
            refine WpC.regionL ?_
            refine L.assign hF rfl rfl rfl ?_
            refine L.nil ?_
            refine WpC.ret ?_
            cases H
            exact Leaves.ret rfl rfl rfl ⟨rfl, rfl⟩
          · replace H := condF hc H
            refine WpC.skip ?_
            refine WpC.regionL ?_
            refine L.move hF rfl rfl rfl ?_
            refine L.bin hF rfl rfl rfl rfl rfl rfl ?_
            refine L.assign hF rfl rfl rfl ?_
            refine L.nil ?_
            exact ⟨k2, _, by omega, ⟨v44, v45, (IntKind.i64.wrap (v46 + (1 : Int))), by omega, H, rfl⟩, Le.mk [] hm rfl ⟨⟨_, rfl, rfl⟩, ⟨_, rfl, rfl⟩, ⟨_, rfl, rfl⟩, trivial⟩ trivial trivial⟩
        have n511 : W 1 #[true, true, true, true, true, true, true, true, true, false] (mkSt [(0, one (Cell.sl g0 (List.map eTimpl_Event v44))), (1, one (Cell.sl g1 (List.map eTimpl_Event v45))), (5, one (cI v46)), (25, one (cL r52))] [] [] 0) := by
          refine hI _ _ _ ?_
          refine A.take 9 rfl (by kernel_rfl) (by kernel_rfl) (by kernel_rfl) rfl (Ca.un rfl rfl) (fun Q0 k0 => L.not hF rfl rfl rfl (L.nil k0)) ?_
          exact A.on (hO _ _ _ n1023) (Le.mk [] hm rfl ⟨⟨_, rfl, rfl⟩, ⟨_, rfl, rfl⟩, ⟨_, rfl, rfl⟩, ⟨_, rfl, rfl⟩, trivial⟩ trivial trivial)
        have n255 : W 2 #[true, true, true, true, true, true, true, true, false, false] (mkSt [(0, one (Cell.sl g0 (List.map eTimpl_Event v44))), (1, one (Cell.sl g1 (List.map eTimpl_Event v45))), (5, one (cI v46)), (20, agg [cI b50.Kind, cI b50.Realm, cI b50.By, cI b50.Client, cI b50.Service, cI b50.Key, cI b50.Parent, cI b50.Evid, cI b50.Rest.Servers, cI b50.Rest.Ops, cI b50.Rest.End]), (24, agg [cI b51.Kind, cI b51.Realm, cI b51.By, cI b51.Client, cI b51.Service, cI b51.Key, cI b51.Parent, cI b51.Evid, cI b51.Rest.Servers, cI b51.Rest.Ops, cI b51.Rest.End])] [] [] 0) := by
          refine hI _ _ _ ?_
          refine A.all [8] (by kernel_rfl) rfl ⟨⟨_, rfl, ?_⟩, trivial⟩
          · refine L.call [false, false] [] [] 0 hF rfl rfl rfl ent116 rfl rfl rfl rfl rfl (Flaws_eqEvent_gives k2  b50 b51 r52 hr52) rfl ?_
            refine L.nil ?_
            exact A.on (hO _ _ _ n511) (Le.mk [] hm rfl ⟨⟨_, rfl, rfl⟩, ⟨_, rfl, rfl⟩, ⟨_, rfl, rfl⟩, ⟨_, rfl, rfl⟩, trivial⟩ trivial trivial)
        have n247 : W 3 #[true, true, true, false, true, true, true, true, false, false] (mkSt [(0, one (Cell.sl g0 (List.map eTimpl_Event v44))), (1, one (Cell.sl g1 (List.map eTimpl_Event v45))), (5, one (cI v46)), (19, one (Cell.pe g0 (eTimpl_Event b50) 0)), (24, agg [cI b51.Kind, cI b51.Realm, cI b51.By, cI b51.Client, cI b51.Service, cI b51.Key, cI b51.Parent, cI b51.Evid, cI b51.Rest.Servers, cI b51.Rest.Ops, cI b51.Rest.End])] [] [] 0) := by
          refine hI _ _ _ ?_
          refine A.all [3] (by kernel_rfl) rfl ⟨⟨_, rfl, ?_⟩, trivial⟩
          · refine L.loadPe shape120 hF rfl rfl rfl rfl rfl ?_
            refine L.nil ?_
            exact A.on (hO _ _ _ n255) (Le.mk [] hm rfl ⟨⟨_, rfl, rfl⟩, ⟨_, rfl, rfl⟩, ⟨_, rfl, rfl⟩, ⟨_, rfl, rfl⟩, ⟨_, rfl, rfl⟩, trivial⟩ trivial trivial)
        have n127 : W 3 #[true, true, true, true, true, true, true, false, false, false] (mkSt [(0, one (Cell.sl g0 (List.map eTimpl_Event v44))), (1, one (Cell.sl g1 (List.map eTimpl_Event v45))), (5, one (cI v46)), (20, agg [cI b50.Kind, cI b50.Realm, cI b50.By, cI b50.Client, cI b50.Service, cI b50.Key, cI b50.Parent, cI b50.Evid, cI b50.Rest.Servers, cI b50.Rest.Ops, cI b50.Rest.End]), (23, one (Cell.pe g1 (eTimpl_Event b51) 0))] [] [] 0) := by
          refine hI _ _ _ ?_
          refine A.all [7] (by kernel_rfl) rfl ⟨⟨_, rfl, ?_⟩, trivial⟩
          · refine L.loadPe shape120 hF rfl rfl rfl rfl rfl ?_
            refine L.nil ?_
            exact A.on (hO _ _ _ n255) (Le.mk [] hm rfl ⟨⟨_, rfl, rfl⟩, ⟨_, rfl, rfl⟩, ⟨_, rfl, rfl⟩, ⟨_, rfl, rfl⟩, ⟨_, rfl, rfl⟩, trivial⟩ trivial trivial)
        have n119 : W 4 #[true, true, true, false, true, true, true, false, false, false] (mkSt [(0, one (Cell.sl g0 (List.map eTimpl_Event v44))), (1, one (Cell.sl g1 (List.map eTimpl_Event v45))), (5, one (cI v46)), (19, one (Cell.pe g0 (eTimpl_Event b50) 0)), (23, one (Cell.pe g1 (eTimpl_Event b51) 0))] [] [] 0) := by
          refine hI _ _ _ ?_
          refine A.all [3, 7] (by kernel_rfl) rfl ⟨⟨_, rfl, ?_⟩, ⟨_, rfl, ?_⟩, trivial⟩
          · refine L.loadPe shape120 hF rfl rfl rfl rfl rfl ?_
            refine L.nil ?_
            exact A.on (hO _ _ _ n127) (Le.mk [] hm rfl ⟨⟨_, rfl, rfl⟩, ⟨_, rfl, rfl⟩, ⟨_, rfl, rfl⟩, ⟨_, rfl, rfl⟩, ⟨_, rfl, rfl⟩, trivial⟩ trivial trivial)
          · refine L.loadPe shape120 hF rfl rfl rfl rfl rfl ?_
            refine L.nil ?_
            exact A.on (hO _ _ _ n247) (Le.mk [] hm rfl ⟨⟨_, rfl, rfl⟩, ⟨_, rfl, rfl⟩, ⟨_, rfl, rfl⟩, ⟨_, rfl, rfl⟩, ⟨_, rfl, rfl⟩, trivial⟩ trivial trivial)
        have n55 : W 5 #[true, true, true, false, true, true, false, false, false, false] (mkSt [(0, one (Cell.sl g0 (List.map eTimpl_Event v44))), (1, one (Cell.sl g1 (List.map eTimpl_Event v45))), (5, one (cI v46)), (19, one (Cell.pe g0 (eTimpl_Event b50) 0)), (21, one (Cell.sl g1 (List.map eTimpl_Event v45))), (22, one (cI v46))] [] [] 0) := by
          refine hI _ _ _ ?_
          refine A.take 6 rfl (by kernel_rfl) (by kernel_rfl) (by kernel_rfl) rfl (Ca.indexAddr) (fun Q0 k0 => L.idxR (xs := v45) (e := eTimpl_Event) Try.underlying63 info120 hF rfl rfl rfl rfl rfl hb51 rfl rfl (L.nil k0)) ?_
          exact A.on (hO _ _ _ n119) (Le.mk [] hm rfl ⟨⟨_, rfl, rfl⟩, ⟨_, rfl, rfl⟩, ⟨_, rfl, rfl⟩, ⟨_, rfl, rfl⟩, ⟨_, rfl, rfl⟩, trivial⟩ trivial trivial)
        have n23 : W 6 #[true, true, true, false, true, false, false, false, false, false] (mkSt [(0, one (Cell.sl g0 (List.map eTimpl_Event v44))), (1, one (Cell.sl g1 (List.map eTimpl_Event v45))), (5, one (cI v46)), (19, one (Cell.pe g0 (eTimpl_Event b50) 0)), (21, one (Cell.sl g1 (List.map eTimpl_Event v45)))] [] [] 0) := by
          refine hI _ _ _ ?_
          refine A.take 5 rfl (by kernel_rfl) (by kernel_rfl) (by kernel_rfl) rfl (Ca.move) (fun Q0 k0 => L.move hF rfl rfl rfl (L.nil k0)) ?_
          exact A.on (hO _ _ _ n55) (Le.mk [] hm rfl ⟨⟨_, rfl, rfl⟩, ⟨_, rfl, rfl⟩, ⟨_, rfl, rfl⟩, ⟨_, rfl, rfl⟩, ⟨_, rfl, rfl⟩, ⟨_, rfl, rfl⟩, trivial⟩ trivial trivial)
        have n7 : W 7 #[true, true, true, false, false, false, false, false, false, false] (mkSt [(0, one (Cell.sl g0 (List.map eTimpl_Event v44))), (1, one (Cell.sl g1 (List.map eTimpl_Event v45))), (5, one (cI v46)), (19, one (Cell.pe g0 (eTimpl_Event b50) 0))] [] [] 0) := by
          refine hI _ _ _ ?_
          refine A.take 4 rfl (by kernel_rfl) (by kernel_rfl) (by kernel_rfl) rfl (Ca.move) (fun Q0 k0 => L.move hF rfl rfl rfl (L.nil k0)) ?_
          exact A.on (hO _ _ _ n23) (Le.mk [] hm rfl ⟨⟨_, rfl, rfl⟩, ⟨_, rfl, rfl⟩, ⟨_, rfl, rfl⟩, ⟨_, rfl, rfl⟩, ⟨_, rfl, rfl⟩, trivial⟩ trivial trivial)
        have n3 : W 8 #[true, true, false, false, false, false, false, false, false, false] (mkSt [(0, one (Cell.sl g0 (List.map eTimpl_Event v44))), (1, one (Cell.sl g1 (List.map eTimpl_Event v45))), (5, one (cI v46)), (17, one (Cell.sl g0 (List.map eTimpl_Event v44))), (18, one (cI v46))] [] [] 0) := by
          refine hI _ _ _ ?_
          refine A.take 2 rfl (by kernel_rfl) (by kernel_rfl) (by kernel_rfl) rfl (Ca.indexAddr) (fun Q0 k0 => L.idxR (xs := v44) (e := eTimpl_Event) Try.underlying63 info120 hF rfl rfl rfl rfl rfl hb50 rfl rfl (L.nil k0)) ?_
          exact A.on (hO _ _ _ n7) (Le.mk [] hm rfl ⟨⟨_, rfl, rfl⟩, ⟨_, rfl, rfl⟩, ⟨_, rfl, rfl⟩, ⟨_, rfl, rfl⟩, trivial⟩ trivial trivial)
        have n1 : W 9 #[true, false, false, false, false, false, false, false, false, false] (mkSt [(0, one (Cell.sl g0 (List.map eTimpl_Event v44))), (1, one (Cell.sl g1 (List.map eTimpl_Event v45))), (5, one (cI v46)), (17, one (Cell.sl g0 (List.map eTimpl_Event v44)))] [] [] 0) := by
          refine hI _ _ _ ?_
          refine A.take 1 rfl (by kernel_rfl) (by kernel_rfl) (by kernel_rfl) rfl (Ca.move) (fun Q0 k0 => L.move hF rfl rfl rfl (L.nil k0)) ?_
          exact A.on (hO _ _ _ n3) (Le.mk [] hm rfl ⟨⟨_, rfl, rfl⟩, ⟨_, rfl, rfl⟩, ⟨_, rfl, rfl⟩, ⟨_, rfl, rfl⟩, ⟨_, rfl, rfl⟩, trivial⟩ trivial trivial)
        have n0 : W 10 #[false, false, false, false, false, false, false, false, false, false] (mkSt [(0, one (Cell.sl g0 (List.map eTimpl_Event v44))), (1, one (Cell.sl g1 (List.map eTimpl_Event v45))), (5, one (cI v46))] [] [] 0) := by
          refine hI _ _ _ ?_
          refine A.take 0 rfl (by kernel_rfl) (by kernel_rfl) (by kernel_rfl) rfl (Ca.move) (fun Q0 k0 => L.move hF rfl rfl rfl (L.nil k0)) ?_
          exact A.on (hO _ _ _ n1) (Le.mk [] hm rfl ⟨⟨_, rfl, rfl⟩, ⟨_, rfl, rfl⟩, ⟨_, rfl, rfl⟩, ⟨_, rfl, rfl⟩, trivial⟩ trivial trivial)
        exact hI _ _ _ (A.on (hO _ _ _ n0) (Le.mk [] hm rfl ⟨⟨_, rfl, rfl⟩, ⟨_, rfl, rfl⟩, ⟨_, rfl, rfl⟩, trivial⟩ trivial trivial))
      · replace H := condF hc H
        refine WpC.exit ?_
        refine WpC.seq ?_
        refine WpC.regionL ?_
        refine L.assign hF rfl rfl rfl ?_
        refine L.nil ?_
        refine WpC.ret ?_
        cases H
        exact Leaves.ret rfl rfl rfl ⟨rfl, rfl⟩
/-! ### Flaws_FnExactFind -/
def Flaws_FnExactFind (k : Nat) (a0 : List Tlaws_Event) (a1 : Int) : Option Bool := (Flaws_szEventS k a0 (1048576 : Int)).bind fun r1 => cond (decide (r1 < (0 : Int))) (some true) ((Flaws_toEventS k a0).bind fun r2 => (Fspec_Find k r2 a1).bind fun r3 => (Flaws_toEventS k a0).bind fun r4 => (Fimpl_Find k r4 a1).bind fun r5 => cond (r5 != r3) (some false) ((Flaws_toEventS k a0).bind fun r8 => (Flaws_eqEventS k r4 r8).bind fun r9 => cond (!r9) (some false) (some true)))
theorem ent11 : Enters Try.prog 11 := ⟨Try.f11, Try.func11, rfl, by decide⟩
set_option maxHeartbeats 8000000 in
set_option maxRecDepth 100000 in
theorem Flaws_FnExactFind_gives (k : Nat) (g0 : Bool) (a0 : List Tlaws_Event) (a1 : Int) (r : Bool) (H : Flaws_FnExactFind k a0 a1 = some r) : Gives Try.prog 11 [V.one (Cell.sl g0 (List.map eTlaws_Event a0)), V.one (cI a1)] [] [V.one (cL r)] [] := by
  refine Gives.intro Try.func11 rfl rfl rfl rfl ?_
  intro F hF hm
  unfold Flaws_FnExactFind at H
  obtain ⟨K, hK⟩ : ∃ K, k ≤ K := ⟨k, Nat.le_refl k⟩
  refine WpC.seq ?_
  refine WpC.regionL ?_
  refine L.assign hF rfl rfl rfl ?_
  refine L.nil ?_
  refine WpC.seq ?_
  refine WpC.regionL ?_
  refine L.assign hF rfl rfl rfl ?_
  refine L.nil ?_
  refine WpC.seq ?_
  refine WpC.regionL ?_
  refine L.move hF rfl rfl rfl ?_
  refine L.move hF rfl rfl rfl ?_
  obtain ⟨r1, hr1, H⟩ := bindS H
  refine L.call [false, false] [] [] 2 hF rfl rfl rfl ent52 rfl rfl rfl rfl rfl (Flaws_szEventS_gives k g0 a0 (1048576 : Int) r1 hr1) rfl ?_
  refine L.assign hF rfl rfl rfl ?_
  refine L.nil ?_
  refine WpC.seq ?_
  refine WpC.seq ?_
  refine WpC.regionL ?_
  refine L.move hF rfl rfl rfl ?_
  refine L.bin hF rfl rfl rfl rfl rfl rfl ?_
  refine L.nil ?_
  refine WpC.cond rfl (fun hc => ?_) (fun hc => ?_)
  · replace H := condT hc H
    refine WpC.seq ?_
    refine WpC.regionL ?_
    refine L.assign hF rfl rfl rfl ?_
    refine L.nil ?_
    refine WpC.ret ?_
    cases H
    exact Leaves.ret rfl rfl rfl ⟨rfl, rfl⟩
  · replace H := condF hc H
    refine WpC.skip ?_
    refine WpC.seq ?_
    refine WpC.regionL ?_
    refine L.move hF rfl rfl rfl ?_
    obtain ⟨r2, hr2, H⟩ := bindS H
    refine L.call [false] [] [] 3 hF rfl rfl rfl ent54 rfl rfl rfl rfl rfl (Flaws_toEventS_gives k g0 a0 r2 hr2) rfl ?_
    refine L.move hF rfl rfl rfl ?_
    obtain ⟨r3, hr3, H⟩ := bindS H
    refine L.call [false, false] [3] [] 4 hF rfl rfl rfl ent53 rfl rfl rfl rfl rfl (Fspec_Find_gives k false r2 a1 r3 hr3) rfl ?_
    refine L.assign hF rfl rfl rfl ?_
    refine L.nil ?_
    refine WpC.seq ?_
    refine WpC.regionL ?_
    refine L.move hF rfl rfl rfl ?_
    obtain ⟨r4, hr4, H⟩ := bindS H
    refine L.call [false] [] [] 5 hF rfl rfl rfl ent54 rfl rfl rfl rfl rfl (Flaws_toEventS_gives k g0 a0 r4 hr4) rfl ?_
    refine L.assign hF rfl rfl rfl ?_
    refine L.nil ?_
    refine WpC.seq ?_
    refine WpC.regionL ?_
    refine L.move hF rfl rfl rfl ?_
    refine L.move hF rfl rfl rfl ?_
    obtain ⟨r5, hr5, H⟩ := bindS H
    refine L.call [false, false] [5] [] 6 hF rfl rfl rfl ent55 rfl rfl rfl rfl rfl (Fimpl_Find_gives k false r4 a1 r5 hr5) rfl ?_
    refine L.assign hF rfl rfl rfl ?_
    refine L.nil ?_
    refine WpC.seq ?_
    refine WpC.seq ?_
    refine WpC.regionL ?_
    refine L.move hF rfl rfl rfl ?_
    refine L.move hF rfl rfl rfl ?_
    refine L.bin hF rfl rfl rfl rfl rfl rfl ?_
    refine L.nil ?_
    refine WpC.cond rfl (fun hc => ?_) (fun hc => ?_)
    · replace H := condT hc H
      refine WpC.seq ?_
      refine WpC.regionL ?_
      refine L.assign hF rfl rfl rfl ?_
      refine L.nil ?_
      refine WpC.ret ?_
      cases H
      exact Leaves.ret rfl rfl rfl ⟨rfl, rfl⟩
    · replace H := condF hc H
      refine WpC.skip ?_
      refine WpC.seq ?_
      refine WpC.seq ?_
      refine WpC.regionL ?_
      refine L.move hF rfl rfl rfl ?_
      refine L.move hF rfl rfl rfl ?_
      obtain ⟨r8, hr8, H⟩ := bindS H
      refine L.call [false] [] [] 7 hF rfl rfl rfl ent54 rfl rfl rfl rfl rfl (Flaws_toEventS_gives k g0 a0 r8 hr8) rfl ?_
      obtain ⟨r9, hr9, H⟩ := bindS H
      refine L.call [false, false] [5, 7] [] 8 hF rfl rfl rfl ent56 rfl rfl rfl rfl rfl (Flaws_eqEventS_gives k false false r4 r8 r9 hr9) rfl ?_
      refine L.not hF rfl rfl rfl ?_
      refine L.nil ?_
      refine WpC.cond rfl (fun hc => ?_) (fun hc => ?_)
      · replace H := condT hc H
        refine WpC.seq ?_
        refine WpC.regionL ?_
        refine L.assign hF rfl rfl rfl ?_
        refine L.nil ?_
        refine WpC.ret ?_
        cases H
        exact Leaves.ret rfl rfl rfl ⟨rfl, rfl⟩
      · replace H := condF hc H
        refine WpC.skip ?_
        refine WpC.seq ?_
        refine WpC.regionL ?_
        refine L.assign hF rfl rfl rfl ?_
        refine L.nil ?_
        refine WpC.ret ?_
        cases H
        exact Leaves.ret rfl rfl rfl ⟨rfl, rfl⟩
def wfTlaws_Rest (x : Tlaws_Rest) : Prop := Go.MG.wfI x.Servers ∧ Go.MG.wfI x.Ops ∧ Go.MG.wfI x.End
theorem open122 : Go.MG.Opens Try.prog 122 eTlaws_Rest wfTlaws_Rest := by
  intro H enc W fuel cs x h
  obtain ⟨n, hp⟩ := Go.MG.struct_parts Try.underlying122 (by kernel_rfl : Try.prog.cellsOf 122 = 3) (by kernel_rfl) h
  obtain ⟨c0, k0, y0, rfl, h0, hp⟩ := hp
  obtain ⟨c1, k1, y1, rfl, h1, hp⟩ := hp
  obtain ⟨c2, k2, y2, rfl, h2, hp⟩ := hp
  obtain rfl := hp
  obtain ⟨a0, r0, w0⟩ := (Go.MG.Opens.int Try.underlying3) _ _ _ _ _ _ h0
  obtain ⟨a1, r1, w1⟩ := (Go.MG.Opens.int Try.underlying3) _ _ _ _ _ _ h1
  obtain ⟨a2, r2, w2⟩ := (Go.MG.Opens.int Try.underlying3) _ _ _ _ _ _ h2
  exact ⟨⟨a0, a1, a2⟩, (r0.append (r1.append (r2.append (rfl : Go.MG.RCs _ [] [])))), w0, w1, w2⟩
def wfTlaws_Event (x : Tlaws_Event) : Prop := Go.MG.wfI x.Kind ∧ Go.MG.wfI x.Realm ∧ Go.MG.wfI x.By ∧ Go.MG.wfI x.Client ∧ Go.MG.wfI x.Service ∧ Go.MG.wfI x.Key ∧ Go.MG.wfI x.Parent ∧ Go.MG.wfI x.Evid ∧ wfTlaws_Rest x.Rest
theorem open124 : Go.MG.Opens Try.prog 124 eTlaws_Event wfTlaws_Event := by
  intro H enc W fuel cs x h
  obtain ⟨n, hp⟩ := Go.MG.struct_parts Try.underlying124 (by kernel_rfl : Try.prog.cellsOf 124 = 11) (by kernel_rfl) h
  obtain ⟨c0, k0, y0, rfl, h0, hp⟩ := hp
  obtain ⟨c1, k1, y1, rfl, h1, hp⟩ := hp
  obtain ⟨c2, k2, y2, rfl, h2, hp⟩ := hp
  obtain ⟨c3, k3, y3, rfl, h3, hp⟩ := hp
  obtain ⟨c4, k4, y4, rfl, h4, hp⟩ := hp
  obtain ⟨c5, k5, y5, rfl, h5, hp⟩ := hp
  obtain ⟨c6, k6, y6, rfl, h6, hp⟩ := hp
  obtain ⟨c7, k7, y7, rfl, h7, hp⟩ := hp
  obtain ⟨c8, k8, y8, rfl, h8, hp⟩ := hp
  obtain rfl := hp
  obtain ⟨a0, r0, w0⟩ := (Go.MG.Opens.int Try.underlying3) _ _ _ _ _ _ h0
  obtain ⟨a1, r1, w1⟩ := (Go.MG.Opens.int Try.underlying3) _ _ _ _ _ _ h1
  obtain ⟨a2, r2, w2⟩ := (Go.MG.Opens.int Try.underlying3) _ _ _ _ _ _ h2
  obtain ⟨a3, r3, w3⟩ := (Go.MG.Opens.int Try.underlying3) _ _ _ _ _ _ h3
  obtain ⟨a4, r4, w4⟩ := (Go.MG.Opens.int Try.underlying3) _ _ _ _ _ _ h4
  obtain ⟨a5, r5, w5⟩ := (Go.MG.Opens.int Try.underlying3) _ _ _ _ _ _ h5
  obtain ⟨a6, r6, w6⟩ := (Go.MG.Opens.int Try.underlying3) _ _ _ _ _ _ h6
  obtain ⟨a7, r7, w7⟩ := (Go.MG.Opens.int Try.underlying3) _ _ _ _ _ _ h7
  obtain ⟨a8, r8, w8⟩ := open122 _ _ _ _ _ _ h8
  exact ⟨⟨a0, a1, a2, a3, a4, a5, a6, a7, a8⟩, (r0.append (r1.append (r2.append (r3.append (r4.append (r5.append (r6.append (r7.append (r8.append (rfl : Go.MG.RCs _ [] [])))))))))), w0, w1, w2, w3, w4, w5, w6, w7, w8⟩
theorem open60 : Go.MG.Opens Try.prog 60 (Go.MG.eR eTlaws_Event) (Go.MG.wfR wfTlaws_Event) := Go.MG.Opens.slice Try.underlying60 open124 (fun _ => (by kernel_rfl : Try.prog.cellsOf 124 = 11).symm) (fun _ => rfl) (fun _ => rfl) (by kernel_rfl)
end Go.Proofs.Ytflcaebmammlfaa.M
