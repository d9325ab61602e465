import Derived.Test.YtcolcmjcjpikcaaMgZc
import Derived.Test.YtcolcmjcjpikcaaProg
namespace Go.Proofs.Ytcolcmjcjpikcaa.M
open Go Go.MG
set_option linter.unusedVariables false
set_option linter.unusedSimpArgs false
structure Tlaws_Rest where
  Servers : Int
  Ops : Int
  End : Int
def eTlaws_Rest (x : Tlaws_Rest) : List Cell := [cI x.Servers, cI x.Ops, cI x.End]
structure Tlaws_Event where
  Kind : Int
  Realm : Int
  By : Int
  Client : Int
  Service : Int
  Key : Int
  Parent : Int
  Evid : Int
  Rest : Tlaws_Rest
def eTlaws_Event (x : Tlaws_Event) : List Cell := [cI x.Kind, cI x.Realm, cI x.By, cI x.Client, cI x.Service, cI x.Key, cI x.Parent, cI x.Evid, cI x.Rest.Servers, cI x.Rest.Ops, cI x.Rest.End]
structure Timpl_Rest where
  Servers : Int
  Ops : Int
  End : Int
def eTimpl_Rest (x : Timpl_Rest) : List Cell := [cI x.Servers, cI x.Ops, cI x.End]
structure Timpl_Event where
  Kind : Int
  Realm : Int
  By : Int
  Client : Int
  Service : Int
  Key : Int
  Parent : Int
  Evid : Int
  Rest : Timpl_Rest
def eTimpl_Event (x : Timpl_Event) : List Cell := [cI x.Kind, cI x.Realm, cI x.By, cI x.Client, cI x.Service, cI x.Key, cI x.Parent, cI x.Evid, cI x.Rest.Servers, cI x.Rest.Ops, cI x.Rest.End]
theorem mixed : Try.prog.follows .mixedOrders = true := by kernel_rfl
theorem shape3 : MG.shape Try.prog 3 = some (false, 1) := by kernel_rfl
theorem shape74 : MG.shape Try.prog 74 = some (true, 3) := by kernel_rfl
theorem shape84 : MG.shape Try.prog 84 = some (true, 3) := by kernel_rfl
theorem shape135 : MG.shape Try.prog 135 = some (true, 11) := by kernel_rfl
theorem shape138 : MG.shape Try.prog 138 = some (true, 11) := by kernel_rfl
theorem info3 : Try.prog.info? 3 = some Try.t3 := by kernel_rfl
theorem info74 : Try.prog.info? 74 = some Try.t74 := by kernel_rfl
theorem info84 : Try.prog.info? 84 = some Try.t84 := by kernel_rfl
theorem info135 : Try.prog.info? 135 = some Try.t135 := by kernel_rfl
theorem info138 : Try.prog.info? 138 = some Try.t138 := by kernel_rfl
abbrev bx (a b c d : Int) : List Cell := [cI a, cI b, cI c, cI d]
theorem S3 {π : Nat → Option Nat} {σ : St} {t0 t1 t2 : Nat} {s0 u0 s1 u1 s2 u2 : Slot} (h0 : renS π s0 = some u0) (g0 : σ.slots t0 = some u0) (h1 : renS π s1 = some u1) (g1 : σ.slots t1 = some u1) (h2 : renS π s2 = some u2) (g2 : σ.slots t2 = some u2) : SlotsOk π σ [(t0, s0), (t1, s1), (t2, s2)] := ⟨⟨_, h0, g0⟩, ⟨_, h1, g1⟩, ⟨_, h2, g2⟩, trivial⟩
theorem S4 {π : Nat → Option Nat} {σ : St} {t0 t1 t2 t3 : Nat} {s0 u0 s1 u1 s2 u2 s3 u3 : Slot} (h0 : renS π s0 = some u0) (g0 : σ.slots t0 = some u0) (h1 : renS π s1 = some u1) (g1 : σ.slots t1 = some u1) (h2 : renS π s2 = some u2) (g2 : σ.slots t2 = some u2) (h3 : renS π s3 = some u3) (g3 : σ.slots t3 = some u3) : SlotsOk π σ [(t0, s0), (t1, s1), (t2, s2), (t3, s3)] := ⟨⟨_, h0, g0⟩, ⟨_, h1, g1⟩, ⟨_, h2, g2⟩, ⟨_, h3, g3⟩, trivial⟩
theorem S5 {π : Nat → Option Nat} {σ : St} {t0 t1 t2 t3 t4 : Nat} {s0 u0 s1 u1 s2 u2 s3 u3 s4 u4 : Slot} (h0 : renS π s0 = some u0) (g0 : σ.slots t0 = some u0) (h1 : renS π s1 = some u1) (g1 : σ.slots t1 = some u1) (h2 : renS π s2 = some u2) (g2 : σ.slots t2 = some u2) (h3 : renS π s3 = some u3) (g3 : σ.slots t3 = some u3) (h4 : renS π s4 = some u4) (g4 : σ.slots t4 = some u4) : SlotsOk π σ [(t0, s0), (t1, s1), (t2, s2), (t3, s3), (t4, s4)] := ⟨⟨_, h0, g0⟩, ⟨_, h1, g1⟩, ⟨_, h2, g2⟩, ⟨_, h3, g3⟩, ⟨_, h4, g4⟩, trivial⟩
theorem S6 {π : Nat → Option Nat} {σ : St} {t0 t1 t2 t3 t4 t5 : Nat} {s0 u0 s1 u1 s2 u2 s3 u3 s4 u4 s5 u5 : Slot} (h0 : renS π s0 = some u0) (g0 : σ.slots t0 = some u0) (h1 : renS π s1 = some u1) (g1 : σ.slots t1 = some u1) (h2 : renS π s2 = some u2) (g2 : σ.slots t2 = some u2) (h3 : renS π s3 = some u3) (g3 : σ.slots t3 = some u3) (h4 : renS π s4 = some u4) (g4 : σ.slots t4 = some u4) (h5 : renS π s5 = some u5) (g5 : σ.slots t5 = some u5) : SlotsOk π σ [(t0, s0), (t1, s1), (t2, s2), (t3, s3), (t4, s4), (t5, s5)] := ⟨⟨_, h0, g0⟩, ⟨_, h1, g1⟩, ⟨_, h2, g2⟩, ⟨_, h3, g3⟩, ⟨_, h4, g4⟩, ⟨_, h5, g5⟩, trivial⟩
theorem S7 {π : Nat → Option Nat} {σ : St} {t0 t1 t2 t3 t4 t5 t6 : Nat} {s0 u0 s1 u1 s2 u2 s3 u3 s4 u4 s5 u5 s6 u6 : Slot} (h0 : renS π s0 = some u0) (g0 : σ.slots t0 = some u0) (h1 : renS π s1 = some u1) (g1 : σ.slots t1 = some u1) (h2 : renS π s2 = some u2) (g2 : σ.slots t2 = some u2) (h3 : renS π s3 = some u3) (g3 : σ.slots t3 = some u3) (h4 : renS π s4 = some u4) (g4 : σ.slots t4 = some u4) (h5 : renS π s5 = some u5) (g5 : σ.slots t5 = some u5) (h6 : renS π s6 = some u6) (g6 : σ.slots t6 = some u6) : SlotsOk π σ [(t0, s0), (t1, s1), (t2, s2), (t3, s3), (t4, s4), (t5, s5), (t6, s6)] := ⟨⟨_, h0, g0⟩, ⟨_, h1, g1⟩, ⟨_, h2, g2⟩, ⟨_, h3, g3⟩, ⟨_, h4, g4⟩, ⟨_, h5, g5⟩, ⟨_, h6, g6⟩, trivial⟩
theorem S8 {π : Nat → Option Nat} {σ : St} {t0 t1 t2 t3 t4 t5 t6 t7 : Nat} {s0 u0 s1 u1 s2 u2 s3 u3 s4 u4 s5 u5 s6 u6 s7 u7 : Slot} (h0 : renS π s0 = some u0) (g0 : σ.slots t0 = some u0) (h1 : renS π s1 = some u1) (g1 : σ.slots t1 = some u1) (h2 : renS π s2 = some u2) (g2 : σ.slots t2 = some u2) (h3 : renS π s3 = some u3) (g3 : σ.slots t3 = some u3) (h4 : renS π s4 = some u4) (g4 : σ.slots t4 = some u4) (h5 : renS π s5 = some u5) (g5 : σ.slots t5 = some u5) (h6 : renS π s6 = some u6) (g6 : σ.slots t6 = some u6) (h7 : renS π s7 = some u7) (g7 : σ.slots t7 = some u7) : SlotsOk π σ [(t0, s0), (t1, s1), (t2, s2), (t3, s3), (t4, s4), (t5, s5), (t6, s6), (t7, s7)] := ⟨⟨_, h0, g0⟩, ⟨_, h1, g1⟩, ⟨_, h2, g2⟩, ⟨_, h3, g3⟩, ⟨_, h4, g4⟩, ⟨_, h5, g5⟩, ⟨_, h6, g6⟩, ⟨_, h7, g7⟩, trivial⟩
theorem S9 {π : Nat → Option Nat} {σ : St} {t0 t1 t2 t3 t4 t5 t6 t7 t8 : Nat} {s0 u0 s1 u1 s2 u2 s3 u3 s4 u4 s5 u5 s6 u6 s7 u7 s8 u8 : Slot} (h0 : renS π s0 = some u0) (g0 : σ.slots t0 = some u0) (h1 : renS π s1 = some u1) (g1 : σ.slots t1 = some u1) (h2 : renS π s2 = some u2) (g2 : σ.slots t2 = some u2) (h3 : renS π s3 = some u3) (g3 : σ.slots t3 = some u3) (h4 : renS π s4 = some u4) (g4 : σ.slots t4 = some u4) (h5 : renS π s5 = some u5) (g5 : σ.slots t5 = some u5) (h6 : renS π s6 = some u6) (g6 : σ.slots t6 = some u6) (h7 : renS π s7 = some u7) (g7 : σ.slots t7 = some u7) (h8 : renS π s8 = some u8) (g8 : σ.slots t8 = some u8) : SlotsOk π σ [(t0, s0), (t1, s1), (t2, s2), (t3, s3), (t4, s4), (t5, s5), (t6, s6), (t7, s7), (t8, s8)] := ⟨⟨_, h0, g0⟩, ⟨_, h1, g1⟩, ⟨_, h2, g2⟩, ⟨_, h3, g3⟩, ⟨_, h4, g4⟩, ⟨_, h5, g5⟩, ⟨_, h6, g6⟩, ⟨_, h7, g7⟩, ⟨_, h8, g8⟩, trivial⟩
theorem S10 {π : Nat → Option Nat} {σ : St} {t0 t1 t2 t3 t4 t5 t6 t7 t8 t9 : Nat} {s0 u0 s1 u1 s2 u2 s3 u3 s4 u4 s5 u5 s6 u6 s7 u7 s8 u8 s9 u9 : Slot} (h0 : renS π s0 = some u0) (g0 : σ.slots t0 = some u0) (h1 : renS π s1 = some u1) (g1 : σ.slots t1 = some u1) (h2 : renS π s2 = some u2) (g2 : σ.slots t2 = some u2) (h3 : renS π s3 = some u3) (g3 : σ.slots t3 = some u3) (h4 : renS π s4 = some u4) (g4 : σ.slots t4 = some u4) (h5 : renS π s5 = some u5) (g5 : σ.slots t5 = some u5) (h6 : renS π s6 = some u6) (g6 : σ.slots t6 = some u6) (h7 : renS π s7 = some u7) (g7 : σ.slots t7 = some u7) (h8 : renS π s8 = some u8) (g8 : σ.slots t8 = some u8) (h9 : renS π s9 = some u9) (g9 : σ.slots t9 = some u9) : SlotsOk π σ [(t0, s0), (t1, s1), (t2, s2), (t3, s3), (t4, s4), (t5, s5), (t6, s6), (t7, s7), (t8, s8), (t9, s9)] := ⟨⟨_, h0, g0⟩, ⟨_, h1, g1⟩, ⟨_, h2, g2⟩, ⟨_, h3, g3⟩, ⟨_, h4, g4⟩, ⟨_, h5, g5⟩, ⟨_, h6, g6⟩, ⟨_, h7, g7⟩, ⟨_, h8, g8⟩, ⟨_, h9, g9⟩, trivial⟩
theorem S11 {π : Nat → Option Nat} {σ : St} {t0 t1 t2 t3 t4 t5 t6 t7 t8 t9 t10 : Nat} {s0 u0 s1 u1 s2 u2 s3 u3 s4 u4 s5 u5 s6 u6 s7 u7 s8 u8 s9 u9 s10 u10 : Slot} (h0 : renS π s0 = some u0) (g0 : σ.slots t0 = some u0) (h1 : renS π s1 = some u1) (g1 : σ.slots t1 = some u1) (h2 : renS π s2 = some u2) (g2 : σ.slots t2 = some u2) (h3 : renS π s3 = some u3) (g3 : σ.slots t3 = some u3) (h4 : renS π s4 = some u4) (g4 : σ.slots t4 = some u4) (h5 : renS π s5 = some u5) (g5 : σ.slots t5 = some u5) (h6 : renS π s6 = some u6) (g6 : σ.slots t6 = some u6) (h7 : renS π s7 = some u7) (g7 : σ.slots t7 = some u7) (h8 : renS π s8 = some u8) (g8 : σ.slots t8 = some u8) (h9 : renS π s9 = some u9) (g9 : σ.slots t9 = some u9) (h10 : renS π s10 = some u10) (g10 : σ.slots t10 = some u10) : SlotsOk π σ [(t0, s0), (t1, s1), (t2, s2), (t3, s3), (t4, s4), (t5, s5), (t6, s6), (t7, s7), (t8, s8), (t9, s9), (t10, s10)] := ⟨⟨_, h0, g0⟩, ⟨_, h1, g1⟩, ⟨_, h2, g2⟩, ⟨_, h3, g3⟩, ⟨_, h4, g4⟩, ⟨_, h5, g5⟩, ⟨_, h6, g6⟩, ⟨_, h7, g7⟩, ⟨_, h8, g8⟩, ⟨_, h9, g9⟩, ⟨_, h10, g10⟩, trivial⟩
theorem S12 {π : Nat → Option Nat} {σ : St} {t0 t1 t2 t3 t4 t5 t6 t7 t8 t9 t10 t11 : Nat} {s0 u0 s1 u1 s2 u2 s3 u3 s4 u4 s5 u5 s6 u6 s7 u7 s8 u8 s9 u9 s10 u10 s11 u11 : Slot} (h0 : renS π s0 = some u0) (g0 : σ.slots t0 = some u0) (h1 : renS π s1 = some u1) (g1 : σ.slots t1 = some u1) (h2 : renS π s2 = some u2) (g2 : σ.slots t2 = some u2) (h3 : renS π s3 = some u3) (g3 : σ.slots t3 = some u3) (h4 : renS π s4 = some u4) (g4 : σ.slots t4 = some u4) (h5 : renS π s5 = some u5) (g5 : σ.slots t5 = some u5) (h6 : renS π s6 = some u6) (g6 : σ.slots t6 = some u6) (h7 : renS π s7 = some u7) (g7 : σ.slots t7 = some u7) (h8 : renS π s8 = some u8) (g8 : σ.slots t8 = some u8) (h9 : renS π s9 = some u9) (g9 : σ.slots t9 = some u9) (h10 : renS π s10 = some u10) (g10 : σ.slots t10 = some u10) (h11 : renS π s11 = some u11) (g11 : σ.slots t11 = some u11) : SlotsOk π σ [(t0, s0), (t1, s1), (t2, s2), (t3, s3), (t4, s4), (t5, s5), (t6, s6), (t7, s7), (t8, s8), (t9, s9), (t10, s10), (t11, s11)] := ⟨⟨_, h0, g0⟩, ⟨_, h1, g1⟩, ⟨_, h2, g2⟩, ⟨_, h3, g3⟩, ⟨_, h4, g4⟩, ⟨_, h5, g5⟩, ⟨_, h6, g6⟩, ⟨_, h7, g7⟩, ⟨_, h8, g8⟩, ⟨_, h9, g9⟩, ⟨_, h10, g10⟩, ⟨_, h11, g11⟩, trivial⟩
theorem S13 {π : Nat → Option Nat} {σ : St} {t0 t1 t2 t3 t4 t5 t6 t7 t8 t9 t10 t11 t12 : Nat} {s0 u0 s1 u1 s2 u2 s3 u3 s4 u4 s5 u5 s6 u6 s7 u7 s8 u8 s9 u9 s10 u10 s11 u11 s12 u12 : Slot} (h0 : renS π s0 = some u0) (g0 : σ.slots t0 = some u0) (h1 : renS π s1 = some u1) (g1 : σ.slots t1 = some u1) (h2 : renS π s2 = some u2) (g2 : σ.slots t2 = some u2) (h3 : renS π s3 = some u3) (g3 : σ.slots t3 = some u3) (h4 : renS π s4 = some u4) (g4 : σ.slots t4 = some u4) (h5 : renS π s5 = some u5) (g5 : σ.slots t5 = some u5) (h6 : renS π s6 = some u6) (g6 : σ.slots t6 = some u6) (h7 : renS π s7 = some u7) (g7 : σ.slots t7 = some u7) (h8 : renS π s8 = some u8) (g8 : σ.slots t8 = some u8) (h9 : renS π s9 = some u9) (g9 : σ.slots t9 = some u9) (h10 : renS π s10 = some u10) (g10 : σ.slots t10 = some u10) (h11 : renS π s11 = some u11) (g11 : σ.slots t11 = some u11) (h12 : renS π s12 = some u12) (g12 : σ.slots t12 = some u12) : SlotsOk π σ [(t0, s0), (t1, s1), (t2, s2), (t3, s3), (t4, s4), (t5, s5), (t6, s6), (t7, s7), (t8, s8), (t9, s9), (t10, s10), (t11, s11), (t12, s12)] := ⟨⟨_, h0, g0⟩, ⟨_, h1, g1⟩, ⟨_, h2, g2⟩, ⟨_, h3, g3⟩, ⟨_, h4, g4⟩, ⟨_, h5, g5⟩, ⟨_, h6, g6⟩, ⟨_, h7, g7⟩, ⟨_, h8, g8⟩, ⟨_, h9, g9⟩, ⟨_, h10, g10⟩, ⟨_, h11, g11⟩, ⟨_, h12, g12⟩, trivial⟩
theorem S14 {π : Nat → Option Nat} {σ : St} {t0 t1 t2 t3 t4 t5 t6 t7 t8 t9 t10 t11 t12 t13 : Nat} {s0 u0 s1 u1 s2 u2 s3 u3 s4 u4 s5 u5 s6 u6 s7 u7 s8 u8 s9 u9 s10 u10 s11 u11 s12 u12 s13 u13 : Slot} (h0 : renS π s0 = some u0) (g0 : σ.slots t0 = some u0) (h1 : renS π s1 = some u1) (g1 : σ.slots t1 = some u1) (h2 : renS π s2 = some u2) (g2 : σ.slots t2 = some u2) (h3 : renS π s3 = some u3) (g3 : σ.slots t3 = some u3) (h4 : renS π s4 = some u4) (g4 : σ.slots t4 = some u4) (h5 : renS π s5 = some u5) (g5 : σ.slots t5 = some u5) (h6 : renS π s6 = some u6) (g6 : σ.slots t6 = some u6) (h7 : renS π s7 = some u7) (g7 : σ.slots t7 = some u7) (h8 : renS π s8 = some u8) (g8 : σ.slots t8 = some u8) (h9 : renS π s9 = some u9) (g9 : σ.slots t9 = some u9) (h10 : renS π s10 = some u10) (g10 : σ.slots t10 = some u10) (h11 : renS π s11 = some u11) (g11 : σ.slots t11 = some u11) (h12 : renS π s12 = some u12) (g12 : σ.slots t12 = some u12) (h13 : renS π s13 = some u13) (g13 : σ.slots t13 = some u13) : SlotsOk π σ [(t0, s0), (t1, s1), (t2, s2), (t3, s3), (t4, s4), (t5, s5), (t6, s6), (t7, s7), (t8, s8), (t9, s9), (t10, s10), (t11, s11), (t12, s12), (t13, s13)] := ⟨⟨_, h0, g0⟩, ⟨_, h1, g1⟩, ⟨_, h2, g2⟩, ⟨_, h3, g3⟩, ⟨_, h4, g4⟩, ⟨_, h5, g5⟩, ⟨_, h6, g6⟩, ⟨_, h7, g7⟩, ⟨_, h8, g8⟩, ⟨_, h9, g9⟩, ⟨_, h10, g10⟩, ⟨_, h11, g11⟩, ⟨_, h12, g12⟩, ⟨_, h13, g13⟩, trivial⟩
theorem B2 {π : Nat → Option Nat} {σ : St} {k0 q0 k1 q1 : Nat} {c0 d0 c1 d1 : List Cell} (h0 : π k0 = some q0) (g0 : renCs π c0 = some d0) (e0 : σ.H.boxes q0 = some d0) (h1 : π k1 = some q1) (g1 : renCs π c1 = some d1) (e1 : σ.H.boxes q1 = some d1) : BoxesOk π σ [(k0, c0), (k1, c1)] := ⟨⟨_, _, h0, g0, e0⟩, ⟨_, _, h1, g1, e1⟩, trivial⟩
theorem B3 {π : Nat → Option Nat} {σ : St} {k0 q0 k1 q1 k2 q2 : Nat} {c0 d0 c1 d1 c2 d2 : List Cell} (h0 : π k0 = some q0) (g0 : renCs π c0 = some d0) (e0 : σ.H.boxes q0 = some d0) (h1 : π k1 = some q1) (g1 : renCs π c1 = some d1) (e1 : σ.H.boxes q1 = some d1) (h2 : π k2 = some q2) (g2 : renCs π c2 = some d2) (e2 : σ.H.boxes q2 = some d2) : BoxesOk π σ [(k0, c0), (k1, c1), (k2, c2)] := ⟨⟨_, _, h0, g0, e0⟩, ⟨_, _, h1, g1, e1⟩, ⟨_, _, h2, g2, e2⟩, trivial⟩
theorem B4 {π : Nat → Option Nat} {σ : St} {k0 q0 k1 q1 k2 q2 k3 q3 : Nat} {c0 d0 c1 d1 c2 d2 c3 d3 : List Cell} (h0 : π k0 = some q0) (g0 : renCs π c0 = some d0) (e0 : σ.H.boxes q0 = some d0) (h1 : π k1 = some q1) (g1 : renCs π c1 = some d1) (e1 : σ.H.boxes q1 = some d1) (h2 : π k2 = some q2) (g2 : renCs π c2 = some d2) (e2 : σ.H.boxes q2 = some d2) (h3 : π k3 = some q3) (g3 : renCs π c3 = some d3) (e3 : σ.H.boxes q3 = some d3) : BoxesOk π σ [(k0, c0), (k1, c1), (k2, c2), (k3, c3)] := ⟨⟨_, _, h0, g0, e0⟩, ⟨_, _, h1, g1, e1⟩, ⟨_, _, h2, g2, e2⟩, ⟨_, _, h3, g3, e3⟩, trivial⟩
theorem B5 {π : Nat → Option Nat} {σ : St} {k0 q0 k1 q1 k2 q2 k3 q3 k4 q4 : Nat} {c0 d0 c1 d1 c2 d2 c3 d3 c4 d4 : List Cell} (h0 : π k0 = some q0) (g0 : renCs π c0 = some d0) (e0 : σ.H.boxes q0 = some d0) (h1 : π k1 = some q1) (g1 : renCs π c1 = some d1) (e1 : σ.H.boxes q1 = some d1) (h2 : π k2 = some q2) (g2 : renCs π c2 = some d2) (e2 : σ.H.boxes q2 = some d2) (h3 : π k3 = some q3) (g3 : renCs π c3 = some d3) (e3 : σ.H.boxes q3 = some d3) (h4 : π k4 = some q4) (g4 : renCs π c4 = some d4) (e4 : σ.H.boxes q4 = some d4) : BoxesOk π σ [(k0, c0), (k1, c1), (k2, c2), (k3, c3), (k4, c4)] := ⟨⟨_, _, h0, g0, e0⟩, ⟨_, _, h1, g1, e1⟩, ⟨_, _, h2, g2, e2⟩, ⟨_, _, h3, g3, e3⟩, ⟨_, _, h4, g4, e4⟩, trivial⟩
theorem B6 {π : Nat → Option Nat} {σ : St} {k0 q0 k1 q1 k2 q2 k3 q3 k4 q4 k5 q5 : Nat} {c0 d0 c1 d1 c2 d2 c3 d3 c4 d4 c5 d5 : List Cell} (h0 : π k0 = some q0) (g0 : renCs π c0 = some d0) (e0 : σ.H.boxes q0 = some d0) (h1 : π k1 = some q1) (g1 : renCs π c1 = some d1) (e1 : σ.H.boxes q1 = some d1) (h2 : π k2 = some q2) (g2 : renCs π c2 = some d2) (e2 : σ.H.boxes q2 = some d2) (h3 : π k3 = some q3) (g3 : renCs π c3 = some d3) (e3 : σ.H.boxes q3 = some d3) (h4 : π k4 = some q4) (g4 : renCs π c4 = some d4) (e4 : σ.H.boxes q4 = some d4) (h5 : π k5 = some q5) (g5 : renCs π c5 = some d5) (e5 : σ.H.boxes q5 = some d5) : BoxesOk π σ [(k0, c0), (k1, c1), (k2, c2), (k3, c3), (k4, c4), (k5, c5)] := ⟨⟨_, _, h0, g0, e0⟩, ⟨_, _, h1, g1, e1⟩, ⟨_, _, h2, g2, e2⟩, ⟨_, _, h3, g3, e3⟩, ⟨_, _, h4, g4, e4⟩, ⟨_, _, h5, g5, e5⟩, trivial⟩
/-! ### Flaws_szEventS -/
def Flaws_szEventS (k : Nat) (a0 : List Tlaws_Event) (a1 : Int) : Option Int := cond (decide ((IntKind.i64.wrap (a1 - (a0.length : Int))) < (0 : Int))) (some (-1 : Int)) (some (IntKind.i64.wrap (a1 - (a0.length : Int))))
theorem ent22 : Enters Try.prog 22 := ⟨Try.f22, Try.func22, rfl, by decide⟩
set_option maxHeartbeats 8000000 in
set_option maxRecDepth 100000 in
theorem Flaws_szEventS_gives (k : Nat) (g0 : Bool) (a0 : List Tlaws_Event) (a1 : Int) (r : Int) (H : Flaws_szEventS k a0 a1 = some r) : Gives Try.prog 22 [V.one (Cell.sl g0 (List.map eTlaws_Event a0)), V.one (cI a1)] [] [V.one (cI r)] [] := by
  refine Gives.intro Try.func22 rfl rfl rfl rfl ?_
  intro F hF hm
  unfold Flaws_szEventS at H
  obtain ⟨K, hK⟩ : ∃ K, k ≤ K := ⟨k, Nat.le_refl k⟩
  refine WpC.seq ?_
  refine WpC.regionL ?_
  refine L.assign hF rfl rfl rfl ?_
  refine L.nil ?_
  refine WpC.seq ?_
  refine WpC.regionL ?_
  refine L.move hF rfl rfl rfl ?_
  refine L.move hF rfl rfl rfl ?_
  refine L.lenR (xs := a0) (e := eTlaws_Event) Try.underlying22 hF rfl rfl rfl rfl ?_
  refine L.bin hF rfl rfl rfl rfl rfl rfl ?_
  refine L.assign hF rfl rfl rfl ?_
  refine L.nil ?_
  refine WpC.seq ?_
  refine WpC.seq ?_
  refine WpC.regionL ?_
  refine L.move hF rfl rfl rfl ?_
  refine L.bin hF rfl rfl rfl rfl rfl rfl ?_
  refine L.nil ?_
  refine WpC.cond rfl (fun hc => ?_) (fun hc => ?_)
  · replace H := condT hc H
    refine WpC.seq ?_
    refine WpC.regionL ?_
    refine L.assign hF rfl rfl rfl ?_
    refine L.nil ?_
    refine WpC.ret ?_
    cases H
    exact Leaves.ret rfl rfl rfl ⟨rfl, rfl⟩
  · replace H := condF hc H
    refine WpC.skip ?_
    refine WpC.seq ?_
    refine WpC.regionL ?_
    refine L.move hF rfl rfl rfl ?_
    refine L.assign hF rfl rfl rfl ?_
    refine L.nil ?_
    refine WpC.ret ?_
    cases H
    exact Leaves.ret rfl rfl rfl ⟨rfl, rfl⟩
/-! ### Flaws_toRest -/
def Flaws_toRest (k : Nat) (a0 : Tlaws_Rest) : Option Timpl_Rest := some (⟨a0.Servers, a0.Ops, a0.End⟩ : Timpl_Rest)
theorem ent72 : Enters Try.prog 72 := ⟨Try.f72, Try.func72, rfl, by decide⟩
set_option maxHeartbeats 8000000 in
set_option maxRecDepth 100000 in
theorem Flaws_toRest_gives (k : Nat) (a0 : Tlaws_Rest) (r : Timpl_Rest) (H : Flaws_toRest k a0 = some r) : Gives Try.prog 72 [V.agg [cI a0.Servers, cI a0.Ops, cI a0.End]] [] [V.agg [cI r.Servers, cI r.Ops, cI r.End]] [] := by
  refine Gives.intro Try.func72 rfl rfl rfl rfl ?_
  intro F hF hm
  unfold Flaws_toRest at H
  obtain ⟨K, hK⟩ : ∃ K, k ≤ K := ⟨k, Nat.le_refl k⟩
  refine WpC.seq ?_
  refine WpC.regionL ?_
  refine L.box 3 hF rfl rfl rfl rfl ?_
  refine L.alloc 4 info74 rfl hF rfl rfl rfl rfl ?_
  refine L.nil ?_
  refine WpC.seq ?_
  refine WpC.regionL ?_
  refine L.alloc 5 info74 rfl hF rfl rfl rfl rfl ?_
  refine L.nil ?_
  refine WpC.seq ?_
  refine WpC.regionL ?_
  refine L.fieldAddr Try.underlying84 rfl info3 rfl hF rfl rfl rfl rfl rfl ?_
  refine L.loadPtr shape3 hF rfl rfl rfl rfl rfl rfl ?_
  refine L.fieldAddr Try.underlying74 rfl info3 rfl hF rfl rfl rfl rfl rfl ?_
  refine L.storePtr shape3 hF rfl rfl rfl rfl rfl rfl rfl ?_
  refine L.nil ?_
  refine WpC.seq ?_
  refine WpC.regionL ?_
  refine L.fieldAddr Try.underlying84 rfl info3 rfl hF rfl rfl rfl rfl rfl ?_
  refine L.loadPtr shape3 hF rfl rfl rfl rfl rfl rfl ?_
  refine L.fieldAddr Try.underlying74 rfl info3 rfl hF rfl rfl rfl rfl rfl ?_
  refine L.storePtr shape3 hF rfl rfl rfl rfl rfl rfl rfl ?_
  refine L.nil ?_
  refine WpC.seq ?_
  refine WpC.regionL ?_
  refine L.fieldAddr Try.underlying84 rfl info3 rfl hF rfl rfl rfl rfl rfl ?_
  refine L.loadPtr shape3 hF rfl rfl rfl rfl rfl rfl ?_
  refine L.fieldAddr Try.underlying74 rfl info3 rfl hF rfl rfl rfl rfl rfl ?_
  refine L.storePtr shape3 hF rfl rfl rfl rfl rfl rfl rfl ?_
  refine L.nil ?_
  refine WpC.seq ?_
  refine WpC.regionL ?_
  refine L.loadPtr shape74 hF rfl rfl rfl rfl rfl rfl ?_
  refine L.storePtr shape74 hF rfl rfl rfl rfl rfl rfl rfl ?_
  refine L.nil ?_
  refine WpC.ret ?_
  cases H
  exact Leaves.ret rfl rfl rfl ⟨rfl, rfl⟩
/-! ### Flaws_toEvent -/
def Flaws_toEvent (k : Nat) (a0 : Tlaws_Event) : Option Timpl_Event := (Flaws_toRest k (⟨a0.Rest.Servers, a0.Rest.Ops, a0.Rest.End⟩ : Tlaws_Rest)).bind fun r1 => some (⟨a0.Kind, a0.Realm, a0.By, a0.Client, a0.Service, a0.Key, a0.Parent, a0.Evid, r1⟩ : Timpl_Event)
theorem ent101 : Enters Try.prog 101 := ⟨Try.f101, Try.func101, rfl, by decide⟩
set_option maxHeartbeats 8000000 in
set_option maxRecDepth 100000 in
theorem Flaws_toEvent_gives (k : Nat) (a0 : Tlaws_Event) (r : Timpl_Event) (H : Flaws_toEvent k a0 = some r) : Gives Try.prog 101 [V.agg [cI a0.Kind, cI a0.Realm, cI a0.By, cI a0.Client, cI a0.Service, cI a0.Key, cI a0.Parent, cI a0.Evid, cI a0.Rest.Servers, cI a0.Rest.Ops, cI a0.Rest.End]] [] [V.agg [cI r.Kind, cI r.Realm, cI r.By, cI r.Client, cI r.Service, cI r.Key, cI r.Parent, cI r.Evid, cI r.Rest.Servers, cI r.Rest.Ops, cI r.Rest.End]] [] := by
  refine Gives.intro Try.func101 rfl rfl rfl rfl ?_
  intro F hF hm
  unfold Flaws_toEvent at H
  obtain ⟨K, hK⟩ : ∃ K, k ≤ K := ⟨k, Nat.le_refl k⟩
  refine WpC.seq ?_
  refine WpC.regionL ?_
  refine L.box 11 hF rfl rfl rfl rfl ?_
  refine L.alloc 12 info135 rfl hF rfl rfl rfl rfl ?_
  refine L.le (τ := mkSt [(1, one (Cell.ptr 0 0)), (2, one (Cell.ptr 1 0))] [] [(0, [cI a0.Kind, cI a0.Realm, cI a0.By, cI a0.Client, cI a0.Service, cI a0.Key, cI a0.Parent, cI a0.Evid, cI a0.Rest.Servers, cI a0.Rest.Ops, cI a0.Rest.End]), (1, [cI (0 : Int), cI (0 : Int), cI (0 : Int), cI (0 : Int), cI (0 : Int), cI (0 : Int), cI (0 : Int), cI (0 : Int), cI (0 : Int), cI (0 : Int), cI (0 : Int)])] 2) (Le.mk [(0, 11), (1, 12)] hm rfl ⟨⟨_, rfl, rfl⟩, ⟨_, rfl, rfl⟩, trivial⟩ trivial ⟨⟨_, _, rfl, rfl, rfl⟩, ⟨_, _, rfl, rfl, rfl⟩, trivial⟩) ?_
  refine L.nil ?_
  refine WpC.seq ?_
  refine WpC.regionL ?_
  refine L.alloc 2 info135 rfl hF rfl rfl rfl rfl ?_
  refine L.le (τ := mkSt [(1, one (Cell.ptr 0 0)), (2, one (Cell.ptr 1 0)), (3, one (Cell.ptr 2 0))] [] [(0, [cI a0.Kind, cI a0.Realm, cI a0.By, cI a0.Client, cI a0.Service, cI a0.Key, cI a0.Parent, cI a0.Evid, cI a0.Rest.Servers, cI a0.Rest.Ops, cI a0.Rest.End]), (1, [cI (0 : Int), cI (0 : Int), cI (0 : Int), cI (0 : Int), cI (0 : Int), cI (0 : Int), cI (0 : Int), cI (0 : Int), cI (0 : Int), cI (0 : Int), cI (0 : Int)]), (2, [cI (0 : Int), cI (0 : Int), cI (0 : Int), cI (0 : Int), cI (0 : Int), cI (0 : Int), cI (0 : Int), cI (0 : Int), cI (0 : Int), cI (0 : Int), cI (0 : Int)])] 3) (Le.mk [(0, 0), (1, 1), (2, 2)] hm rfl ⟨⟨_, rfl, rfl⟩, ⟨_, rfl, rfl⟩, ⟨_, rfl, rfl⟩, trivial⟩ trivial ⟨⟨_, _, rfl, rfl, rfl⟩, ⟨_, _, rfl, rfl, rfl⟩, ⟨_, _, rfl, rfl, rfl⟩, trivial⟩) ?_
  refine L.nil ?_
  refine WpC.seq ?_
  refine WpC.regionL ?_
  refine L.fieldAddr Try.underlying138 rfl info3 rfl hF rfl rfl rfl rfl rfl ?_
  refine L.loadPtr shape3 hF rfl rfl rfl rfl rfl rfl ?_
  refine L.fieldAddr Try.underlying135 rfl info3 rfl hF rfl rfl rfl rfl rfl ?_
  refine L.storePtr shape3 hF rfl rfl rfl rfl rfl rfl rfl ?_
  refine L.le (τ := mkSt [(1, one (Cell.ptr 0 0)), (2, one (Cell.ptr 1 0)), (3, one (Cell.ptr 2 0))] [] [(0, [cI a0.Kind, cI a0.Realm, cI a0.By, cI a0.Client, cI a0.Service, cI a0.Key, cI a0.Parent, cI a0.Evid, cI a0.Rest.Servers, cI a0.Rest.Ops, cI a0.Rest.End]), (1, [cI (0 : Int), cI (0 : Int), cI (0 : Int), cI (0 : Int), cI (0 : Int), cI (0 : Int), cI (0 : Int), cI (0 : Int), cI (0 : Int), cI (0 : Int), cI (0 : Int)]), (2, [cI a0.Kind, cI (0 : Int), cI (0 : Int), cI (0 : Int), cI (0 : Int), cI (0 : Int), cI (0 : Int), cI (0 : Int), cI (0 : Int), cI (0 : Int), cI (0 : Int)])] 3) (Le.mk [(0, 0), (1, 1), (2, 2)] hm rfl ⟨⟨_, rfl, rfl⟩, ⟨_, rfl, rfl⟩, ⟨_, rfl, rfl⟩, trivial⟩ trivial ⟨⟨_, _, rfl, rfl, rfl⟩, ⟨_, _, rfl, rfl, rfl⟩, ⟨_, _, rfl, rfl, rfl⟩, trivial⟩) ?_
  refine L.nil ?_
  refine WpC.seq ?_
  refine WpC.regionL ?_
  refine L.fieldAddr Try.underlying138 rfl info3 rfl hF rfl rfl rfl rfl rfl ?_
  refine L.loadPtr shape3 hF rfl rfl rfl rfl rfl rfl ?_
  refine L.fieldAddr Try.underlying135 rfl info3 rfl hF rfl rfl rfl rfl rfl ?_
  refine L.storePtr shape3 hF rfl rfl rfl rfl rfl rfl rfl ?_
  refine L.le (τ := mkSt [(1, one (Cell.ptr 0 0)), (2, one (Cell.ptr 1 0)), (3, one (Cell.ptr 2 0))] [] [(0, [cI a0.Kind, cI a0.Realm, cI a0.By, cI a0.Client, cI a0.Service, cI a0.Key, cI a0.Parent, cI a0.Evid, cI a0.Rest.Servers, cI a0.Rest.Ops, cI a0.Rest.End]), (1, [cI (0 : Int), cI (0 : Int), cI (0 : Int), cI (0 : Int), cI (0 : Int), cI (0 : Int), cI (0 : Int), cI (0 : Int), cI (0 : Int), cI (0 : Int), cI (0 : Int)]), (2, [cI a0.Kind, cI a0.Realm, cI (0 : Int), cI (0 : Int), cI (0 : Int), cI (0 : Int), cI (0 : Int), cI (0 : Int), cI (0 : Int), cI (0 : Int), cI (0 : Int)])] 3) (Le.mk [(0, 0), (1, 1), (2, 2)] hm rfl ⟨⟨_, rfl, rfl⟩, ⟨_, rfl, rfl⟩, ⟨_, rfl, rfl⟩, trivial⟩ trivial ⟨⟨_, _, rfl, rfl, rfl⟩, ⟨_, _, rfl, rfl, rfl⟩, ⟨_, _, rfl, rfl, rfl⟩, trivial⟩) ?_
  refine L.nil ?_
  refine WpC.seq ?_
  refine WpC.regionL ?_
  refine L.fieldAddr Try.underlying138 rfl info3 rfl hF rfl rfl rfl rfl rfl ?_
  refine L.loadPtr shape3 hF rfl rfl rfl rfl rfl rfl ?_
  refine L.fieldAddr Try.underlying135 rfl info3 rfl hF rfl rfl rfl rfl rfl ?_
  refine L.storePtr shape3 hF rfl rfl rfl rfl rfl rfl rfl ?_
  refine L.le (τ := mkSt [(1, one (Cell.ptr 0 0)), (2, one (Cell.ptr 1 0)), (3, one (Cell.ptr 2 0))] [] [(0, [cI a0.Kind, cI a0.Realm, cI a0.By, cI a0.Client, cI a0.Service, cI a0.Key, cI a0.Parent, cI a0.Evid, cI a0.Rest.Servers, cI a0.Rest.Ops, cI a0.Rest.End]), (1, [cI (0 : Int), cI (0 : Int), cI (0 : Int), cI (0 : Int), cI (0 : Int), cI (0 : Int), cI (0 : Int), cI (0 : Int), cI (0 : Int), cI (0 : Int), cI (0 : Int)]), (2, [cI a0.Kind, cI a0.Realm, cI a0.By, cI (0 : Int), cI (0 : Int), cI (0 : Int), cI (0 : Int), cI (0 : Int), cI (0 : Int), cI (0 : Int), cI (0 : Int)])] 3) (Le.mk [(0, 0), (1, 1), (2, 2)] hm rfl ⟨⟨_, rfl, rfl⟩, ⟨_, rfl, rfl⟩, ⟨_, rfl, rfl⟩, trivial⟩ trivial ⟨⟨_, _, rfl, rfl, rfl⟩, ⟨_, _, rfl, rfl, rfl⟩, ⟨_, _, rfl, rfl, rfl⟩, trivial⟩) ?_
  refine L.nil ?_
  refine WpC.seq ?_
  refine WpC.regionL ?_
  refine L.fieldAddr Try.underlying138 rfl info3 rfl hF rfl rfl rfl rfl rfl ?_
  refine L.loadPtr shape3 hF rfl rfl rfl rfl rfl rfl ?_
  refine L.fieldAddr Try.underlying135 rfl info3 rfl hF rfl rfl rfl rfl rfl ?_
  refine L.storePtr shape3 hF rfl rfl rfl rfl rfl rfl rfl ?_
  refine L.le (τ := mkSt [(1, one (Cell.ptr 0 0)), (2, one (Cell.ptr 1 0)), (3, one (Cell.ptr 2 0))] [] [(0, [cI a0.Kind, cI a0.Realm, cI a0.By, cI a0.Client, cI a0.Service, cI a0.Key, cI a0.Parent, cI a0.Evid, cI a0.Rest.Servers, cI a0.Rest.Ops, cI a0.Rest.End]), (1, [cI (0 : Int), cI (0 : Int), cI (0 : Int), cI (0 : Int), cI (0 : Int), cI (0 : Int), cI (0 : Int), cI (0 : Int), cI (0 : Int), cI (0 : Int), cI (0 : Int)]), (2, [cI a0.Kind, cI a0.Realm, cI a0.By, cI a0.Client, cI (0 : Int), cI (0 : Int), cI (0 : Int), cI (0 : Int), cI (0 : Int), cI (0 : Int), cI (0 : Int)])] 3) (Le.mk [(0, 0), (1, 1), (2, 2)] hm rfl ⟨⟨_, rfl, rfl⟩, ⟨_, rfl, rfl⟩, ⟨_, rfl, rfl⟩, trivial⟩ trivial ⟨⟨_, _, rfl, rfl, rfl⟩, ⟨_, _, rfl, rfl, rfl⟩, ⟨_, _, rfl, rfl, rfl⟩, trivial⟩) ?_
  refine L.nil ?_
  refine WpC.seq ?_
  refine WpC.regionL ?_
  refine L.fieldAddr Try.underlying138 rfl info3 rfl hF rfl rfl rfl rfl rfl ?_
  refine L.loadPtr shape3 hF rfl rfl rfl rfl rfl rfl ?_
  refine L.fieldAddr Try.underlying135 rfl info3 rfl hF rfl rfl rfl rfl rfl ?_
  refine L.storePtr shape3 hF rfl rfl rfl rfl rfl rfl rfl ?_
  refine L.le (τ := mkSt [(1, one (Cell.ptr 0 0)), (2, one (Cell.ptr 1 0)), (3, one (Cell.ptr 2 0))] [] [(0, [cI a0.Kind, cI a0.Realm, cI a0.By, cI a0.Client, cI a0.Service, cI a0.Key, cI a0.Parent, cI a0.Evid, cI a0.Rest.Servers, cI a0.Rest.Ops, cI a0.Rest.End]), (1, [cI (0 : Int), cI (0 : Int), cI (0 : Int), cI (0 : Int), cI (0 : Int), cI (0 : Int), cI (0 : Int), cI (0 : Int), cI (0 : Int), cI (0 : Int), cI (0 : Int)]), (2, [cI a0.Kind, cI a0.Realm, cI a0.By, cI a0.Client, cI a0.Service, cI (0 : Int), cI (0 : Int), cI (0 : Int), cI (0 : Int), cI (0 : Int), cI (0 : Int)])] 3) (Le.mk [(0, 0), (1, 1), (2, 2)] hm rfl ⟨⟨_, rfl, rfl⟩, ⟨_, rfl, rfl⟩, ⟨_, rfl, rfl⟩, trivial⟩ trivial ⟨⟨_, _, rfl, rfl, rfl⟩, ⟨_, _, rfl, rfl, rfl⟩, ⟨_, _, rfl, rfl, rfl⟩, trivial⟩) ?_
  refine L.nil ?_
  refine WpC.seq ?_
  refine WpC.regionL ?_
  refine L.fieldAddr Try.underlying138 rfl info3 rfl hF rfl rfl rfl rfl rfl ?_
  refine L.loadPtr shape3 hF rfl rfl rfl rfl rfl rfl ?_
  refine L.fieldAddr Try.underlying135 rfl info3 rfl hF rfl rfl rfl rfl rfl ?_
  refine L.storePtr shape3 hF rfl rfl rfl rfl rfl rfl rfl ?_
  refine L.le (τ := mkSt [(1, one (Cell.ptr 0 0)), (2, one (Cell.ptr 1 0)), (3, one (Cell.ptr 2 0))] [] [(0, [cI a0.Kind, cI a0.Realm, cI a0.By, cI a0.Client, cI a0.Service, cI a0.Key, cI a0.Parent, cI a0.Evid, cI a0.Rest.Servers, cI a0.Rest.Ops, cI a0.Rest.End]), (1, [cI (0 : Int), cI (0 : Int), cI (0 : Int), cI (0 : Int), cI (0 : Int), cI (0 : Int), cI (0 : Int), cI (0 : Int), cI (0 : Int), cI (0 : Int), cI (0 : Int)]), (2, [cI a0.Kind, cI a0.Realm, cI a0.By, cI a0.Client, cI a0.Service, cI a0.Key, cI (0 : Int), cI (0 : Int), cI (0 : Int), cI (0 : Int), cI (0 : Int)])] 3) (Le.mk [(0, 0), (1, 1), (2, 2)] hm rfl ⟨⟨_, rfl, rfl⟩, ⟨_, rfl, rfl⟩, ⟨_, rfl, rfl⟩, trivial⟩ trivial ⟨⟨_, _, rfl, rfl, rfl⟩, ⟨_, _, rfl, rfl, rfl⟩, ⟨_, _, rfl, rfl, rfl⟩, trivial⟩) ?_
  refine L.nil ?_
  refine WpC.seq ?_
  refine WpC.regionL ?_
  refine L.fieldAddr Try.underlying138 rfl info3 rfl hF rfl rfl rfl rfl rfl ?_
  refine L.loadPtr shape3 hF rfl rfl rfl rfl rfl rfl ?_
  refine L.fieldAddr Try.underlying135 rfl info3 rfl hF rfl rfl rfl rfl rfl ?_
  refine L.storePtr shape3 hF rfl rfl rfl rfl rfl rfl rfl ?_
  refine L.le (τ := mkSt [(1, one (Cell.ptr 0 0)), (2, one (Cell.ptr 1 0)), (3, one (Cell.ptr 2 0))] [] [(0, [cI a0.Kind, cI a0.Realm, cI a0.By, cI a0.Client, cI a0.Service, cI a0.Key, cI a0.Parent, cI a0.Evid, cI a0.Rest.Servers, cI a0.Rest.Ops, cI a0.Rest.End]), (1, [cI (0 : Int), cI (0 : Int), cI (0 : Int), cI (0 : Int), cI (0 : Int), cI (0 : Int), cI (0 : Int), cI (0 : Int), cI (0 : Int), cI (0 : Int), cI (0 : Int)]), (2, [cI a0.Kind, cI a0.Realm, cI a0.By, cI a0.Client, cI a0.Service, cI a0.Key, cI a0.Parent, cI (0 : Int), cI (0 : Int), cI (0 : Int), cI (0 : Int)])] 3) (Le.mk [(0, 0), (1, 1), (2, 2)] hm rfl ⟨⟨_, rfl, rfl⟩, ⟨_, rfl, rfl⟩, ⟨_, rfl, rfl⟩, trivial⟩ trivial ⟨⟨_, _, rfl, rfl, rfl⟩, ⟨_, _, rfl, rfl, rfl⟩, ⟨_, _, rfl, rfl, rfl⟩, trivial⟩) ?_
  refine L.nil ?_
  refine WpC.seq ?_
  refine WpC.regionL ?_
  refine L.fieldAddr Try.underlying138 rfl info3 rfl hF rfl rfl rfl rfl rfl ?_
  refine L.loadPtr shape3 hF rfl rfl rfl rfl rfl rfl ?_
  refine L.fieldAddr Try.underlying135 rfl info3 rfl hF rfl rfl rfl rfl rfl ?_
  refine L.storePtr shape3 hF rfl rfl rfl rfl rfl rfl rfl ?_
  refine L.le (τ := mkSt [(1, one (Cell.ptr 0 0)), (2, one (Cell.ptr 1 0)), (3, one (Cell.ptr 2 0))] [] [(0, [cI a0.Kind, cI a0.Realm, cI a0.By, cI a0.Client, cI a0.Service, cI a0.Key, cI a0.Parent, cI a0.Evid, cI a0.Rest.Servers, cI a0.Rest.Ops, cI a0.Rest.End]), (1, [cI (0 : Int), cI (0 : Int), cI (0 : Int), cI (0 : Int), cI (0 : Int), cI (0 : Int), cI (0 : Int), cI (0 : Int), cI (0 : Int), cI (0 : Int), cI (0 : Int)]), (2, [cI a0.Kind, cI a0.Realm, cI a0.By, cI a0.Client, cI a0.Service, cI a0.Key, cI a0.Parent, cI a0.Evid, cI (0 : Int), cI (0 : Int), cI (0 : Int)])] 3) (Le.mk [(0, 0), (1, 1), (2, 2)] hm rfl ⟨⟨_, rfl, rfl⟩, ⟨_, rfl, rfl⟩, ⟨_, rfl, rfl⟩, trivial⟩ trivial ⟨⟨_, _, rfl, rfl, rfl⟩, ⟨_, _, rfl, rfl, rfl⟩, ⟨_, _, rfl, rfl, rfl⟩, trivial⟩) ?_
  refine L.nil ?_
  refine WpC.seq ?_
  refine WpC.regionL ?_
  refine L.fieldAddr Try.underlying138 rfl info84 rfl hF rfl rfl rfl rfl rfl ?_
  refine L.loadPtr shape84 hF rfl rfl rfl rfl rfl rfl ?_
  obtain ⟨r1, hr1, H⟩ := bindS H
  refine L.call [false] [] [] 3 hF rfl rfl rfl ent72 rfl rfl rfl rfl rfl (Flaws_toRest_gives k  (⟨a0.Rest.Servers, a0.Rest.Ops, a0.Rest.End⟩ : Tlaws_Rest) r1 hr1) rfl ?_
  refine L.fieldAddr Try.underlying135 rfl info74 rfl hF rfl rfl rfl rfl rfl ?_
  refine L.storePtr shape74 hF rfl rfl rfl rfl rfl rfl rfl ?_
  refine L.le (τ := mkSt [(2, one (Cell.ptr 0 0)), (3, one (Cell.ptr 1 0))] [] [(0, [cI (0 : Int), cI (0 : Int), cI (0 : Int), cI (0 : Int), cI (0 : Int), cI (0 : Int), cI (0 : Int), cI (0 : Int), cI (0 : Int), cI (0 : Int), cI (0 : Int)]), (1, [cI a0.Kind, cI a0.Realm, cI a0.By, cI a0.Client, cI a0.Service, cI a0.Key, cI a0.Parent, cI a0.Evid, cI r1.Servers, cI r1.Ops, cI r1.End])] 2) (Le.mk [(0, 1), (1, 2)] hm rfl ⟨⟨_, rfl, rfl⟩, ⟨_, rfl, rfl⟩, trivial⟩ trivial ⟨⟨_, _, rfl, rfl, rfl⟩, ⟨_, _, rfl, rfl, rfl⟩, trivial⟩) ?_
  refine L.nil ?_
  refine WpC.seq ?_
  refine WpC.regionL ?_
  refine L.loadPtr shape135 hF rfl rfl rfl rfl rfl rfl ?_
  refine L.storePtr shape135 hF rfl rfl rfl rfl rfl rfl rfl ?_
  refine L.le (τ := mkSt [(2, one (Cell.ptr 0 0))] [] [(0, [cI a0.Kind, cI a0.Realm, cI a0.By, cI a0.Client, cI a0.Service, cI a0.Key, cI a0.Parent, cI a0.Evid, cI r1.Servers, cI r1.Ops, cI r1.End])] 1) (Le.mk [(0, 0)] hm rfl ⟨⟨_, rfl, rfl⟩, trivial⟩ trivial ⟨⟨_, _, rfl, rfl, rfl⟩, trivial⟩) ?_
  refine L.nil ?_
  refine WpC.ret ?_
  cases H
  exact Leaves.ret rfl rfl rfl ⟨rfl, rfl⟩
/-! ### Flaws_toEventS -/
def Flaws_toEventS.l2 : Nat → (List Tlaws_Event) → (List Timpl_Event) → Int → Option (List Timpl_Event)
  | 0, _, _, _ => none
  | k2 + 1, v45, v46, v47 => cond (decide (v47 < (v45.length : Int))) ((at? v45 v47).bind fun b51 => (Flaws_toEvent k2 b51).bind fun r52 => (at? v46 v47).bind fun b53 => (Flaws_toEventS.l2 k2) v45 (v46.set v47.toNat r52) (IntKind.i64.wrap (v47 + (1 : Int)))) (some v46)
def Flaws_toEventS (k : Nat) (a0 : List Tlaws_Event) : Option (List Timpl_Event) := cond (decide (0 ≤ (a0.length : Int) ∧ (a0.length : Int) ≤ (a0.length : Int) ∧ 88 * (a0.length : Int) ≤ 281474976710656 ∧ (a0.length : Int) ≤ 9223372036854775807)) (Flaws_toEventS.l2 k a0 (List.replicate (a0.length : Int).toNat (⟨(0 : Int), (0 : Int), (0 : Int), (0 : Int), (0 : Int), (0 : Int), (0 : Int), (0 : Int), (⟨(0 : Int), (0 : Int), (0 : Int)⟩ : Timpl_Rest)⟩ : Timpl_Event)) (0 : Int)) none
theorem ent24 : Enters Try.prog 24 := ⟨Try.f24, Try.func24, rfl, by decide⟩
set_option maxHeartbeats 8000000 in
set_option maxRecDepth 100000 in
theorem Flaws_toEventS_gives (k : Nat) (g0 : Bool) (a0 : List Tlaws_Event) (r : List Timpl_Event) (H : Flaws_toEventS k a0 = some r) : Gives Try.prog 24 [V.one (Cell.sl g0 (List.map eTlaws_Event a0))] [] [V.one (Cell.ow 11 (List.map eTimpl_Event r))] [] := by
  refine Gives.intro Try.func24 rfl rfl rfl rfl ?_
  intro F hF hm
  unfold Flaws_toEventS at H
  obtain ⟨K, hK⟩ : ∃ K, k ≤ K := ⟨k, Nat.le_refl k⟩
  refine WpC.seq ?_
  refine WpC.regionL ?_
  refine L.assign hF rfl rfl rfl ?_
  refine L.nil ?_
  refine WpC.seq ?_
  refine WpC.regionL ?_
  refine L.move hF rfl rfl rfl ?_
  refine L.lenR (xs := a0) (e := eTlaws_Event) Try.underlying22 hF rfl rfl rfl rfl ?_
  obtain ⟨h1, H⟩ := condG H
  refine L.makeSlice (e := eTimpl_Event) 1 (⟨(0 : Int), (0 : Int), (0 : Int), (0 : Int), (0 : Int), (0 : Int), (0 : Int), (0 : Int), (⟨(0 : Int), (0 : Int), (0 : Int)⟩ : Timpl_Rest)⟩ : Timpl_Event) Try.underlying26 info135 rfl rfl rfl hF rfl rfl rfl rfl (of_decide_eq_true h1) rfl rfl ?_
  refine L.assign hF rfl rfl rfl ?_
  refine L.nil ?_
  refine WpC.seq ?_
  refine WpC.seq ?_
  refine WpC.regionL ?_
  refine L.assign hF rfl rfl rfl ?_
  refine L.nil ?_
  refine WpC.block ?_
  refine WpC.loopL (P := Try.prog) (fun n σ => ∃ v45 : List Tlaws_Event, ∃ v46 : List Timpl_Event, ∃ v47 : Int, n ≤ K ∧ Flaws_toEventS.l2 n v45 v46 v47 = some r ∧ σ = mkSt [(0, one (Cell.sl g0 (List.map eTlaws_Event v45))), (3, one (Cell.own 0)), (4, one (cI v47))] [(0, ⟨11, List.map eTimpl_Event v46⟩)] [] 1) k ⟨_, ⟨a0, (List.replicate (a0.length : Int).toNat (⟨(0 : Int), (0 : Int), (0 : Int), (0 : Int), (0 : Int), (0 : Int), (0 : Int), (0 : Int), (⟨(0 : Int), (0 : Int), (0 : Int)⟩ : Timpl_Rest)⟩ : Timpl_Event)), (0 : Int), by omega, H, rfl⟩, Le.mk [(0, 1)] hm rfl ⟨⟨_, rfl, rfl⟩, ⟨_, rfl, rfl⟩, ⟨_, rfl, rfl⟩, trivial⟩ ⟨⟨_, rfl, rfl⟩, trivial⟩ trivial⟩ ?_
  clear H
  rintro k2 _ ⟨v45, v46, v47, hk2, H, rfl⟩
  cases k2 with
  | zero => cases H
  | succ k2 =>
    rw [Flaws_toEventS.l2] at H
    refine WpC.seq ?_
    refine WpC.seq ?_
    refine WpC.regionL ?_
    refine L.move hF rfl rfl rfl ?_
    refine L.move hF rfl rfl rfl ?_
    refine L.lenR (xs := v45) (e := eTlaws_Event) Try.underlying22 hF rfl rfl rfl rfl ?_
    refine L.bin hF rfl rfl rfl rfl rfl rfl ?_
    refine L.nil ?_
    refine WpC.cond rfl (fun hc => ?_) (fun hc => ?_)
    · replace H := condT hc H
      refine WpC.skip ?_
      refine WpC.seq ?_
      refine WpC.block ?_
      refine WpC.regionL ?_
      refine L.move hF rfl rfl rfl ?_
      refine L.move hF rfl rfl rfl ?_
      refine L.move hF rfl rfl rfl ?_
      refine L.move hF rfl rfl rfl ?_
      obtain ⟨b51, hb51, H⟩ := bindS H
      refine L.idxR (xs := v45) (e := eTlaws_Event) Try.underlying22 info138 hF rfl rfl rfl rfl rfl hb51 rfl rfl ?_
      refine L.loadPe shape138 hF rfl rfl rfl rfl rfl ?_
      obtain ⟨r52, hr52, H⟩ := bindS H
      refine L.call [false] [] [] 1 hF rfl rfl rfl ent101 rfl rfl rfl rfl rfl (Flaws_toEvent_gives k2  b51 r52 hr52) rfl ?_
      obtain ⟨b53, hb53, H⟩ := bindS H
      refine L.idxR (xs := v46) (e := eTimpl_Event) Try.underlying26 info135 hF rfl rfl rfl rfl rfl hb53 rfl rfl ?_
      refine L.storeEp (xs := v46) (e := eTimpl_Event) (a' := r52) shape135 hF rfl rfl rfl rfl rfl rfl rfl (at?_get hb53).2 rfl rfl ?_
      refine L.nil ?_
      refine WpC.regionL ?_
      refine L.move hF rfl rfl rfl ?_
      refine L.bin hF rfl rfl rfl rfl rfl rfl ?_
      refine L.assign hF rfl rfl rfl ?_
      refine L.nil ?_
      exact ⟨k2, _, by omega, ⟨v45, (v46.set v47.toNat r52), (IntKind.i64.wrap (v47 + (1 : Int))), by omega, H, rfl⟩, Le.mk [(0, 0)] hm rfl ⟨⟨_, rfl, rfl⟩, ⟨_, rfl, rfl⟩, ⟨_, rfl, rfl⟩, trivial⟩ ⟨⟨_, rfl, rfl⟩, trivial⟩ trivial⟩
    · replace H := condF hc H
      refine WpC.exit ?_
      refine WpC.seq ?_
      refine WpC.regionL ?_
      refine L.move hF rfl rfl rfl ?_
      refine L.assign hF rfl rfl rfl ?_
      refine L.nil ?_
      refine WpC.ret ?_
      cases H
      exact Leaves.ret rfl rfl rfl ⟨rfl, rfl⟩
/-! ### Fspec_Find -/
def Fspec_Find.l2 : Nat → (List Timpl_Event) → Int → Int → Option Int
  | 0, _, _, _ => none
  | k2 + 1, v24, v25, v26 => cond (decide (v26 < (v24.length : Int))) ((at? v24 v26).bind fun b28 => cond (b28.Key == v25) (some v26) ((Fspec_Find.l2 k2) v24 v25 (IntKind.i64.wrap (v26 + (1 : Int))))) (some (-1 : Int))
def Fspec_Find (k : Nat) (a0 : List Timpl_Event) (a1 : Int) : Option Int := Fspec_Find.l2 k a0 a1 (0 : Int)
theorem ent100 : Enters Try.prog 100 := ⟨Try.f100, Try.func100, rfl, by decide⟩
set_option maxHeartbeats 8000000 in
set_option maxRecDepth 100000 in
theorem Fspec_Find_gives (k : Nat) (g0 : Bool) (a0 : List Timpl_Event) (a1 : Int) (r : Int) (H : Fspec_Find k a0 a1 = some r) : Gives Try.prog 100 [V.one (Cell.sl g0 (List.map eTimpl_Event a0)), V.one (cI a1)] [] [V.one (cI r)] [] := by
  refine Gives.intro Try.func100 rfl rfl rfl rfl ?_
  intro F hF hm
  unfold Fspec_Find at H
  obtain ⟨K, hK⟩ : ∃ K, k ≤ K := ⟨k, Nat.le_refl k⟩
  refine WpC.seq ?_
  refine WpC.regionL ?_
  refine L.assign hF rfl rfl rfl ?_
  refine L.nil ?_
  refine WpC.seq ?_
  refine WpC.seq ?_
  refine WpC.regionL ?_
  refine L.assign hF rfl rfl rfl ?_
  refine L.nil ?_
  refine WpC.block ?_
  refine WpC.loopL (P := Try.prog) (fun n σ => ∃ v24 : List Timpl_Event, ∃ v25 : Int, ∃ v26 : Int, n ≤ K ∧ Fspec_Find.l2 n v24 v25 v26 = some r ∧ σ = mkSt [(0, one (Cell.sl g0 (List.map eTimpl_Event v24))), (1, one (cI v25)), (5, one (cI v26))] [] [] 0) k ⟨_, ⟨a0, a1, (0 : Int), by omega, H, rfl⟩, Le.mk [] hm rfl ⟨⟨_, rfl, rfl⟩, ⟨_, rfl, rfl⟩, ⟨_, rfl, rfl⟩, trivial⟩ trivial trivial⟩ ?_
  clear H
  rintro k2 _ ⟨v24, v25, v26, hk2, H, rfl⟩
  cases k2 with
  | zero => cases H
  | succ k2 =>
    rw [Fspec_Find.l2] at H
    refine WpC.seq ?_
    refine WpC.seq ?_
    refine WpC.regionL ?_
    refine L.move hF rfl rfl rfl ?_
    refine L.move hF rfl rfl rfl ?_
    refine L.lenR (xs := v24) (e := eTimpl_Event) Try.underlying26 hF rfl rfl rfl rfl ?_
    refine L.bin hF rfl rfl rfl rfl rfl rfl ?_
    refine L.nil ?_
    refine WpC.cond rfl (fun hc => ?_) (fun hc => ?_)
    · replace H := condT hc H
      refine WpC.skip ?_
      refine WpC.seq ?_
      refine WpC.block ?_
      refine WpC.seq ?_
      refine WpC.regionL ?_
      refine L.move hF rfl rfl rfl ?_
      refine L.move hF rfl rfl rfl ?_
      obtain ⟨b28, hb28, H⟩ := bindS H
      refine L.idxR (xs := v24) (e := eTimpl_Event) Try.underlying26 info135 hF rfl rfl rfl rfl rfl hb28 rfl rfl ?_
      refine L.fieldAddr Try.underlying135 rfl info3 rfl hF rfl rfl rfl rfl rfl ?_
      refine L.loadPe shape3 hF rfl rfl rfl rfl rfl ?_
      refine L.move hF rfl rfl rfl ?_
      refine L.bin hF rfl rfl rfl rfl rfl rfl ?_
      refine L.nil ?_
      refine WpC.cond rfl (fun hc => ?_) (fun hc => ?_)
      · replace H := condT hc H
        refine WpC.seq ?_
        refine WpC.regionL ?_
        refine L.move hF rfl rfl rfl ?_
        refine L.assign hF rfl rfl rfl ?_
        refine L.nil ?_
        refine WpC.ret ?_
        cases H
        exact Leaves.ret rfl rfl rfl ⟨rfl, rfl⟩
      · replace H := condF hc H
        refine WpC.skip ?_
        refine WpC.regionL ?_
        refine L.move hF rfl rfl rfl ?_
        refine L.bin hF rfl rfl rfl rfl rfl rfl ?_
        refine L.assign hF rfl rfl rfl ?_
        refine L.nil ?_
        exact ⟨k2, _, by omega, ⟨v24, v25, (IntKind.i64.wrap (v26 + (1 : Int))), by omega, H, rfl⟩, Le.mk [] hm rfl ⟨⟨_, rfl, rfl⟩, ⟨_, rfl, rfl⟩, ⟨_, rfl, rfl⟩, trivial⟩ trivial trivial⟩
    · replace H := condF hc H
      refine WpC.exit ?_
      refine WpC.seq ?_
      refine WpC.regionL ?_
      refine L.assign hF rfl rfl rfl ?_
      refine L.nil ?_
      refine WpC.ret ?_
      cases H
      exact Leaves.ret rfl rfl rfl ⟨rfl, rfl⟩
/-! ### Fspec_Chain -/
def Fspec_Chain.j19 (cl17 : (List Timpl_Event) → Int → (List Int) → Int → Option (List Int)) (k : Nat) (v156 : List Timpl_Event) (v157 : Int) (v158 : List Int) (v159 : Int) : Option (List Int) := cl17 v156 v157 v158 (IntKind.i64.wrap (v159 + (1 : Int)))
def Fspec_Chain.j20 (cl17 : (List Timpl_Event) → Int → (List Int) → Int → Option (List Int)) (k : Nat) (v163 : List Timpl_Event) (v164 : List Int) (v165 : Int) (v166 : Int) (v167 : Int) (v168 : Bool) : Option (List Int) := cond v168 ((at? v163 v166).bind fun b169 => Fspec_Chain.j19 cl17 k v163 b169.Parent v164 v165) (cond (v167 == (4 : Int)) ((at? v163 v166).bind fun b170 => Fspec_Chain.j19 cl17 k v163 b170.Evid v164 v165) (some ([] : List Int)))
def Fspec_Chain.l17 : Nat → (List Timpl_Event) → Int → (List Int) → Int → Option (List Int)
  | 0, _, _, _, _ => none
  | k17 + 1, v141, v142, v143, v144 => cond (decide (v144 ≤ (v141.length : Int))) ((Fspec_Find k17 v141 v142).bind fun r160 => cond (decide (r160 < (0 : Int))) (some ([] : List Int)) (cond (decide ((2 * (([r160] : List Int).length + v143.length) + 192) * 8 ≤ 281474976710656)) ((at? v141 r160).bind fun b162 => cond (b162.Kind == (1 : Int)) (some (([r160] : List Int) ++ v143)) (cond (b162.Kind == (2 : Int)) (Fspec_Chain.j20 (Fspec_Chain.l17 k17) k17 v141 (([r160] : List Int) ++ v143) v144 r160 b162.Kind (b162.Kind == (2 : Int))) (Fspec_Chain.j20 (Fspec_Chain.l17 k17) k17 v141 (([r160] : List Int) ++ v143) v144 r160 b162.Kind (b162.Kind == (3 : Int))))) none)) (some ([] : List Int))
def Fspec_Chain (k : Nat) (a0 : List Timpl_Event) (a1 : Int) : Option (List Int) := Fspec_Chain.l17 k a0 a1 ([] : List Int) (0 : Int)
theorem ent23 : Enters Try.prog 23 := ⟨Try.f23, Try.func23, rfl, by decide⟩
set_option maxHeartbeats 8000000 in
set_option maxRecDepth 100000 in
theorem Fspec_Chain_gives (k : Nat) (g0 : Bool) (a0 : List Timpl_Event) (a1 : Int) (r : List Int) (H : Fspec_Chain k a0 a1 = some r) : Gives Try.prog 23 [V.one (Cell.sl g0 (List.map eTimpl_Event a0)), V.one (cI a1)] [] [V.one (Cell.ow 1 (List.map eI r))] [] := by
  refine Gives.intro Try.func23 rfl rfl rfl rfl ?_
  intro F hF hm
  unfold Fspec_Chain at H
  obtain ⟨K, hK⟩ : ∃ K, k ≤ K := ⟨k, Nat.le_refl k⟩
  refine WpC.seq ?_
  refine WpC.regionL ?_
  refine L.assign hF rfl rfl rfl ?_
  refine L.nil ?_
  refine WpC.seq ?_
  refine WpC.regionL ?_
  refine L.buildSlice (e := eI) 2 ([] : List Int) Try.underlying24 info3 rfl rfl rfl hF rfl rfl rfl rfl rfl rfl rfl rfl ?_
  refine L.assign hF rfl rfl rfl ?_
  refine L.nil ?_
  refine WpC.seq ?_
  refine WpC.seq ?_
  refine WpC.regionL ?_
  refine L.assign hF rfl rfl rfl ?_
  refine L.nil ?_
  refine WpC.block ?_
  refine WpC.loopL (P := Try.prog) (fun n σ => ∃ v141 : List Timpl_Event, ∃ v142 : Int, ∃ v143 : List Int, ∃ v144 : Int, n ≤ K ∧ Fspec_Chain.l17 n v141 v142 v143 v144 = some r ∧ σ = mkSt [(0, one (Cell.sl g0 (List.map eTimpl_Event v141))), (1, one (cI v142)), (5, one (Cell.own 0)), (6, one (cI v144))] [(0, ⟨1, List.map eI v143⟩)] [] 1) k ⟨_, ⟨a0, a1, ([] : List Int), (0 : Int), by omega, H, rfl⟩, Le.mk [(0, 2)] hm rfl ⟨⟨_, rfl, rfl⟩, ⟨_, rfl, rfl⟩, ⟨_, rfl, rfl⟩, ⟨_, rfl, rfl⟩, trivial⟩ ⟨⟨_, rfl, rfl⟩, trivial⟩ trivial⟩ ?_
  clear H
  rintro k17 _ ⟨v141, v142, v143, v144, hk17, H, rfl⟩
  cases k17 with
  | zero => cases H
  | succ k17 =>
    rw [Fspec_Chain.l17] at H
    refine WpC.seq ?_
    refine WpC.seq ?_
    refine WpC.regionL ?_
    refine L.move hF rfl rfl rfl ?_
    refine L.move hF rfl rfl rfl ?_
    refine L.lenR (xs := v141) (e := eTimpl_Event) Try.underlying26 hF rfl rfl rfl rfl ?_
    refine L.bin hF rfl rfl rfl rfl rfl rfl ?_
    refine L.nil ?_
    refine WpC.cond rfl (fun hc => ?_) (fun hc => ?_)
    · replace H := condT hc H
      refine WpC.skip ?_
      refine WpC.join (fun σ => ∃ kj19 : Nat, ∃ v156 : List Timpl_Event, ∃ v157 : Int, ∃ v158 : List Int, ∃ v159 : Int, kj19 ≤ K ∧ Fspec_Chain.j19 (Fspec_Chain.l17 k17) kj19 v156 v157 v158 v159 = some r ∧ σ = mkSt [(0, one (Cell.sl g0 (List.map eTimpl_Event v156))), (1, one (cI v157)), (5, one (Cell.own 0)), (6, one (cI v159))] [(0, ⟨1, List.map eI v158⟩)] [] 1) ?_ ?_
      · rintro _ ⟨kj19, v156, v157, v158, v159, hkj19, H, rfl⟩
        unfold Fspec_Chain.j19 at H
        refine WpC.regionL ?_
        refine L.move hF rfl rfl rfl ?_
        refine L.bin hF rfl rfl rfl rfl rfl rfl ?_
        refine L.assign hF rfl rfl rfl ?_
        refine L.nil ?_
        exact ⟨k17, _, by omega, ⟨v156, v157, v158, (IntKind.i64.wrap (v159 + (1 : Int))), by omega, H, rfl⟩, Le.mk [(0, 0)] hm rfl ⟨⟨_, rfl, rfl⟩, ⟨_, rfl, rfl⟩, ⟨_, rfl, rfl⟩, ⟨_, rfl, rfl⟩, trivial⟩ ⟨⟨_, rfl, rfl⟩, trivial⟩ trivial⟩
      · refine WpC.block ?_
        refine WpC.seq ?_
        refine WpC.regionL ?_
        refine L.move hF rfl rfl rfl ?_
        refine L.move hF rfl rfl rfl ?_
        obtain ⟨r160, hr160, H⟩ := bindS H
        refine L.call [false, false] [] [] 1 hF rfl rfl rfl ent100 rfl rfl rfl rfl rfl (Fspec_Find_gives k17 g0 v141 v142 r160 hr160) rfl ?_
        refine L.assign hF rfl rfl rfl ?_
        refine L.nil ?_
        refine WpC.seq ?_
        refine WpC.seq ?_
        refine WpC.regionL ?_
        refine L.move hF rfl rfl rfl ?_
        refine L.bin hF rfl rfl rfl rfl rfl rfl ?_
        refine L.nil ?_
        refine WpC.cond rfl (fun hc => ?_) (fun hc => ?_)
        · replace H := condT hc H
          refine WpC.seq ?_
          refine WpC.regionL ?_
          refine L.buildSlice (e := eI) 2 ([] : List Int) Try.underlying24 info3 rfl rfl rfl hF rfl rfl rfl rfl rfl rfl rfl rfl ?_
          refine L.assign hF rfl rfl rfl ?_
          refine L.nil ?_
          refine WpC.ret ?_
          cases H
          exact Leaves.ret rfl rfl rfl ⟨rfl, rfl⟩
        · replace H := condF hc H
          refine WpC.skip ?_
          refine WpC.seq ?_
          refine WpC.regionL ?_
          refine L.move hF rfl rfl rfl ?_
          refine L.buildSlice (e := eI) 2 ([r160] : List Int) Try.underlying24 info3 rfl rfl rfl hF rfl rfl rfl rfl rfl rfl rfl rfl ?_
          refine L.move hF rfl rfl rfl ?_
          obtain ⟨h161, H⟩ := condG H
          refine L.append (xs := ([r160] : List Int)) (ys := v143) (e := eI) 3 Try.underlying24 info3 rfl rfl hF rfl rfl rfl rfl rfl rfl rfl rfl (fun _ => rfl) (fun _ _ h1 h2 => by cases h1; cases h2; rfl) ⟨_, Try.underlying24⟩ (of_decide_eq_true h161) rfl rfl ?_
          refine L.assign hF rfl rfl rfl ?_
          refine L.nil ?_
          refine WpC.seq ?_
          refine WpC.regionL ?_
          refine L.move hF rfl rfl rfl ?_
          refine L.move hF rfl rfl rfl ?_
          obtain ⟨b162, hb162, H⟩ := bindS H
          refine L.idxR (xs := v141) (e := eTimpl_Event) Try.underlying26 info135 hF rfl rfl rfl rfl rfl hb162 rfl rfl ?_
          refine L.fieldAddr Try.underlying135 rfl info3 rfl hF rfl rfl rfl rfl rfl ?_
          refine L.loadPe shape3 hF rfl rfl rfl rfl rfl ?_
          refine L.nil ?_
          refine WpC.block ?_
          refine WpC.seq ?_
          refine WpC.regionL ?_
          refine L.bin hF rfl rfl rfl rfl rfl rfl ?_
          refine L.assign hF rfl rfl rfl ?_
          refine L.nil ?_
          refine WpC.cond rfl (fun hc => ?_) (fun hc => ?_)
          · replace H := condT hc H
            refine WpC.seq ?_
            refine WpC.regionL ?_
            refine L.move hF rfl rfl rfl ?_
            refine L.assign hF rfl rfl rfl ?_
            refine L.nil ?_
            refine WpC.ret ?_
            cases H
            exact Leaves.ret rfl rfl rfl ⟨rfl, rfl⟩
          · replace H := condF hc H
            refine WpC.join (fun σ => ∃ kj20 : Nat, ∃ v163 : List Timpl_Event, ∃ v164 : List Int, ∃ v165 : Int, ∃ v166 : Int, ∃ v167 : Int, ∃ v168 : Bool, kj20 ≤ K ∧ Fspec_Chain.j20 (Fspec_Chain.l17 k17) kj20 v163 v164 v165 v166 v167 v168 = some r ∧ σ = mkSt [(0, one (Cell.sl g0 (List.map eTimpl_Event v163))), (5, one (Cell.own 0)), (6, one (cI v165)), (7, one (cI v166)), (29, one (cI v167)), (34, one (cL v168))] [(0, ⟨1, List.map eI v164⟩)] [] 1) ?_ ?_
            · rintro _ ⟨kj20, v163, v164, v165, v166, v167, v168, hkj20, H, rfl⟩
              unfold Fspec_Chain.j20 at H
              refine WpC.cond rfl (fun hc => ?_) (fun hc => ?_)
              · replace H := condT hc H
                refine WpC.regionL ?_
                refine L.move hF rfl rfl rfl ?_
                refine L.move hF rfl rfl rfl ?_
                obtain ⟨b169, hb169, H⟩ := bindS H
                refine L.idxR (xs := v163) (e := eTimpl_Event) Try.underlying26 info135 hF rfl rfl rfl rfl rfl hb169 rfl rfl ?_
                refine L.fieldAddr Try.underlying135 rfl info3 rfl hF rfl rfl rfl rfl rfl ?_
                refine L.loadPe shape3 hF rfl rfl rfl rfl rfl ?_
                refine L.assign hF rfl rfl rfl ?_
                refine L.nil ?_
                exact ⟨_, ⟨kj20, v163, b169.Parent, v164, v165, by omega, H, rfl⟩, Le.mk [(0, 0)] hm rfl ⟨⟨_, rfl, rfl⟩, ⟨_, rfl, rfl⟩, ⟨_, rfl, rfl⟩, ⟨_, rfl, rfl⟩, trivial⟩ ⟨⟨_, rfl, rfl⟩, trivial⟩ trivial⟩
              · replace H := condF hc H
                refine WpC.seq ?_
                refine WpC.regionL ?_
                refine L.bin hF rfl rfl rfl rfl rfl rfl ?_
                refine L.assign hF rfl rfl rfl ?_
                refine L.nil ?_
                refine WpC.cond rfl (fun hc => ?_) (fun hc => ?_)
                · replace H := condT hc H
                  refine WpC.regionL ?_
                  refine L.move hF rfl rfl rfl ?_
                  refine L.move hF rfl rfl rfl ?_
                  obtain ⟨b170, hb170, H⟩ := bindS H
                  refine L.idxR (xs := v163) (e := eTimpl_Event) Try.underlying26 info135 hF rfl rfl rfl rfl rfl hb170 rfl rfl ?_
                  refine L.fieldAddr Try.underlying135 rfl info3 rfl hF rfl rfl rfl rfl rfl ?_
                  refine L.loadPe shape3 hF rfl rfl rfl rfl rfl ?_
                  refine L.assign hF rfl rfl rfl ?_
                  refine L.nil ?_
                  exact ⟨_, ⟨kj20, v163, b170.Evid, v164, v165, by omega, H, rfl⟩, Le.mk [(0, 0)] hm rfl ⟨⟨_, rfl, rfl⟩, ⟨_, rfl, rfl⟩, ⟨_, rfl, rfl⟩, ⟨_, rfl, rfl⟩, trivial⟩ ⟨⟨_, rfl, rfl⟩, trivial⟩ trivial⟩
                · replace H := condF hc H
                  refine WpC.seq ?_
                  refine WpC.regionL ?_
                  refine L.buildSlice (e := eI) 1 ([] : List Int) Try.underlying24 info3 rfl rfl rfl hF rfl rfl rfl rfl rfl rfl rfl rfl ?_
                  refine L.assign hF rfl rfl rfl ?_
                  refine L.nil ?_
                  refine WpC.ret ?_
                  cases H
                  exact Leaves.ret rfl rfl rfl ⟨rfl, rfl⟩
            · refine WpC.seq ?_
              refine WpC.regionL ?_
              refine L.bin hF rfl rfl rfl rfl rfl rfl ?_
              refine L.assign hF rfl rfl rfl ?_
              refine L.nil ?_
              refine WpC.cond rfl (fun hc => ?_) (fun hc => ?_)
              · replace H := condT hc H
                refine WpC.skip ?_
                exact ⟨_, ⟨k17, v141, (([r160] : List Int) ++ v143), v144, r160, b162.Kind, (b162.Kind == (2 : Int)), by omega, H, rfl⟩, Le.mk [(0, 3)] hm rfl ⟨⟨_, rfl, rfl⟩, ⟨_, rfl, rfl⟩, ⟨_, rfl, rfl⟩, ⟨_, rfl, rfl⟩, ⟨_, rfl, rfl⟩, ⟨_, rfl, rfl⟩, trivial⟩ ⟨⟨_, rfl, rfl⟩, trivial⟩ trivial⟩
              · replace H := condF hc H
                refine WpC.regionL ?_
                refine L.bin hF rfl rfl rfl rfl rfl rfl ?_
                refine L.assign hF rfl rfl rfl ?_
                refine L.nil ?_
                exact ⟨_, ⟨k17, v141, (([r160] : List Int) ++ v143), v144, r160, b162.Kind, (b162.Kind == (3 : Int)), by omega, H, rfl⟩, Le.mk [(0, 3)] hm rfl ⟨⟨_, rfl, rfl⟩, ⟨_, rfl, rfl⟩, ⟨_, rfl, rfl⟩, ⟨_, rfl, rfl⟩, ⟨_, rfl, rfl⟩, ⟨_, rfl, rfl⟩, trivial⟩ ⟨⟨_, rfl, rfl⟩, trivial⟩ trivial⟩
    · replace H := condF hc H
      refine WpC.exit ?_
      refine WpC.seq ?_
      refine WpC.regionL ?_
      refine L.buildSlice (e := eI) 1 ([] : List Int) Try.underlying24 info3 rfl rfl rfl hF rfl rfl rfl rfl rfl rfl rfl rfl ?_
      refine L.assign hF rfl rfl rfl ?_
      refine L.nil ?_
      refine WpC.ret ?_
      cases H
      exact Leaves.ret rfl rfl rfl ⟨rfl, rfl⟩
/-! ### Fimpl_Find_1 -/
def Fimpl_Find_1 (k : Nat) (a0 : Timpl_Event) (o0 : Int) : Option Bool := some (a0.Key == o0)
theorem ent215 : Enters Try.prog 215 := ⟨Try.f215, Try.func215, rfl, by decide⟩
set_option maxHeartbeats 8000000 in
set_option maxRecDepth 100000 in
theorem Fimpl_Find_1_gives (k : Nat) (a0 : Timpl_Event) (o0 : Int) (r : Bool) (H : Fimpl_Find_1 k a0 o0 = some r) : Gives Try.prog 215 [V.agg [cI a0.Kind, cI a0.Realm, cI a0.By, cI a0.Client, cI a0.Service, cI a0.Key, cI a0.Parent, cI a0.Evid, cI a0.Rest.Servers, cI a0.Rest.Ops, cI a0.Rest.End], V.one (Cell.ptr 0 0)] [[cI o0]] [V.one (cL r)] [[cI o0]] := by
  refine Gives.intro Try.func215 rfl rfl rfl rfl ?_
  intro F hF hm
  unfold Fimpl_Find_1 at H
  obtain ⟨K, hK⟩ : ∃ K, k ≤ K := ⟨k, Nat.le_refl k⟩
  refine WpC.seq ?_
  refine WpC.regionL ?_
  refine L.box 14 hF rfl rfl rfl rfl ?_
  refine L.assign hF rfl rfl rfl ?_
  refine L.nil ?_
  refine WpC.seq ?_
  refine WpC.regionL ?_
  refine L.fieldAddr Try.underlying135 rfl info3 rfl hF rfl rfl rfl rfl rfl ?_
  refine L.loadPtr shape3 hF rfl rfl rfl rfl rfl rfl ?_
  refine L.loadPtr shape3 hF rfl rfl rfl rfl rfl rfl ?_
  refine L.bin hF rfl rfl rfl rfl rfl rfl ?_
  refine L.assign hF rfl rfl rfl ?_
  refine L.nil ?_
  refine WpC.ret ?_
  cases H
  exact Leaves.ret rfl rfl rfl ⟨rfl, rfl⟩
/-! ### Fslices_IndexFunc_Event__impl_Find_1 -/
def Fslices_IndexFunc_Event__impl_Find_1.l2 : Nat → (List Timpl_Event) → Int → Int → Int → Option (Int × Int)
  | 0, _, _, _, _ => none
  | k2 + 1, v39, v40, v41, v42 => cond (decide (v41 < v40)) ((at? v39 v41).bind fun b45 => (Fimpl_Find_1 k2 b45 v42).bind fun r46 => cond r46 (some (v41, v42)) ((Fslices_IndexFunc_Event__impl_Find_1.l2 k2) v39 v40 (IntKind.i64.wrap (v41 + (1 : Int))) v42)) (some ((-1 : Int), v42))
def Fslices_IndexFunc_Event__impl_Find_1 (k : Nat) (a0 : List Timpl_Event) (o0 : Int) : Option (Int × Int) := Fslices_IndexFunc_Event__impl_Find_1.l2 k a0 (a0.length : Int) (0 : Int) o0
theorem ent214 : Enters Try.prog 214 := ⟨Try.f214, Try.func214, rfl, by decide⟩
set_option maxHeartbeats 8000000 in
set_option maxRecDepth 100000 in
theorem Fslices_IndexFunc_Event__impl_Find_1_gives (k : Nat) (g0 : Bool) (a0 : List Timpl_Event) (o0 : Int) (r : Int × Int) (H : Fslices_IndexFunc_Event__impl_Find_1 k a0 o0 = some r) : Gives Try.prog 214 [V.one (Cell.sl g0 (List.map eTimpl_Event a0)), V.one (Cell.clo 215 [Cell.ptr 0 0])] [[cI o0]] [V.one (cI r.1)] [[cI r.2]] := by
  refine Gives.intro Try.func214 rfl rfl rfl rfl ?_
  intro F hF hm
  unfold Fslices_IndexFunc_Event__impl_Find_1 at H
  obtain ⟨K, hK⟩ : ∃ K, k ≤ K := ⟨k, Nat.le_refl k⟩
  refine WpC.seq ?_
  refine WpC.regionL ?_
  refine L.assign hF rfl rfl rfl ?_
  refine L.nil ?_
  refine WpC.seq ?_
  refine WpC.seq ?_
  refine WpC.regionL ?_
  refine L.move hF rfl rfl rfl ?_
  refine L.lenR (xs := a0) (e := eTimpl_Event) Try.underlying26 hF rfl rfl rfl rfl ?_
  refine L.move hF rfl rfl rfl ?_
  refine L.nil ?_
  refine WpC.block ?_
  refine WpC.loopL (P := Try.prog) (fun n σ => ∃ v39 : List Timpl_Event, ∃ v40 : Int, ∃ v41 : Int, ∃ v42 : Int, n ≤ K ∧ Fslices_IndexFunc_Event__impl_Find_1.l2 n v39 v40 v41 v42 = some r ∧ σ = mkSt [(0, one (Cell.sl g0 (List.map eTimpl_Event v39))), (1, one (Cell.clo 215 [Cell.ptr 0 0])), (7, one (cI v40)), (8, one (cI v41))] [] [(0, [cI v42])] 1) k ⟨_, ⟨a0, (a0.length : Int), (0 : Int), o0, by omega, H, rfl⟩, Le.mk [(0, 0)] hm rfl ⟨⟨_, rfl, rfl⟩, ⟨_, rfl, rfl⟩, ⟨_, rfl, rfl⟩, ⟨_, rfl, rfl⟩, trivial⟩ trivial ⟨⟨_, _, rfl, rfl, rfl⟩, trivial⟩⟩ ?_
  clear H
  rintro k2 _ ⟨v39, v40, v41, v42, hk2, H, rfl⟩
  cases k2 with
  | zero => cases H
  | succ k2 =>
    rw [Fslices_IndexFunc_Event__impl_Find_1.l2] at H
    refine WpC.seq ?_
    refine WpC.regionL ?_
    refine L.bin hF rfl rfl rfl rfl rfl rfl ?_
    refine L.nil ?_
    refine WpC.seq ?_
    refine WpC.cond rfl (fun hc => ?_) (fun hc => ?_)
    · replace H := condT hc H
      refine WpC.skip ?_
      refine WpC.seq ?_
      refine WpC.block ?_
      refine WpC.seq ?_
      refine WpC.regionL ?_
      refine L.move hF rfl rfl rfl ?_
      refine L.assign hF rfl rfl rfl ?_
      refine L.nil ?_
      refine WpC.seq ?_
      refine WpC.regionL ?_
      refine L.move hF rfl rfl rfl ?_
      refine L.move hF rfl rfl rfl ?_
      refine L.move hF rfl rfl rfl ?_
      obtain ⟨b45, hb45, H⟩ := bindS H
      refine L.idxR (xs := v39) (e := eTimpl_Event) Try.underlying26 info135 hF rfl rfl rfl rfl rfl hb45 rfl rfl ?_
      refine L.loadPe shape135 hF rfl rfl rfl rfl rfl ?_
      obtain ⟨r46, hr46, H⟩ := bindS H
      refine L.call [false] [] [0] 1 hF rfl rfl rfl ent215 rfl rfl rfl rfl rfl (Fimpl_Find_1_gives k2  b45 v42 r46 hr46) rfl ?_
      refine L.nil ?_
      refine WpC.cond rfl (fun hc => ?_) (fun hc => ?_)
      · replace H := condT hc H
        refine WpC.seq ?_
        refine WpC.regionL ?_
        refine L.move hF rfl rfl rfl ?_
        refine L.assign hF rfl rfl rfl ?_
        refine L.nil ?_
        refine WpC.ret ?_
        cases H
        exact Leaves.ret rfl rfl rfl ⟨rfl, rfl⟩
      · replace H := condF hc H
        refine WpC.skip ?_
        refine WpC.regionL ?_
        refine L.bin hF rfl rfl rfl rfl rfl rfl ?_
        refine L.move hF rfl rfl rfl ?_
        refine L.nil ?_
        exact ⟨k2, _, by omega, ⟨v39, v40, (IntKind.i64.wrap (v41 + (1 : Int))), v42, by omega, H, rfl⟩, Le.mk [(0, 0)] hm rfl ⟨⟨_, rfl, rfl⟩, ⟨_, rfl, rfl⟩, ⟨_, rfl, rfl⟩, ⟨_, rfl, rfl⟩, trivial⟩ trivial ⟨⟨_, _, rfl, rfl, rfl⟩, trivial⟩⟩
    · replace H := condF hc H
      refine WpC.exit ?_
      refine WpC.seq ?_
      refine WpC.regionL ?_
      refine L.assign hF rfl rfl rfl ?_
      refine L.nil ?_
      refine WpC.ret ?_
      cases H
      exact Leaves.ret rfl rfl rfl ⟨rfl, rfl⟩
/-! ### Fimpl_Find -/
def Fimpl_Find (k : Nat) (a0 : List Timpl_Event) (a1 : Int) : Option Int := (Fslices_IndexFunc_Event__impl_Find_1 k a0 a1).bind fun r1 => some r1.1
theorem ent102 : Enters Try.prog 102 := ⟨Try.f102, Try.func102, rfl, by decide⟩
set_option maxHeartbeats 8000000 in
set_option maxRecDepth 100000 in
theorem Fimpl_Find_gives (k : Nat) (g0 : Bool) (a0 : List Timpl_Event) (a1 : Int) (r : Int) (H : Fimpl_Find k a0 a1 = some r) : Gives Try.prog 102 [V.one (Cell.sl g0 (List.map eTimpl_Event a0)), V.one (cI a1)] [] [V.one (cI r)] [] := by
  refine Gives.intro Try.func102 rfl rfl rfl rfl ?_
  intro F hF hm
  unfold Fimpl_Find at H
  obtain ⟨K, hK⟩ : ∃ K, k ≤ K := ⟨k, Nat.le_refl k⟩
  refine WpC.seq ?_
  refine WpC.regionL ?_
  refine L.box 2 hF rfl rfl rfl rfl ?_
  refine L.assign hF rfl rfl rfl ?_
  refine L.nil ?_
  refine WpC.seq ?_
  refine WpC.regionL ?_
  refine L.move hF rfl rfl rfl ?_
  refine L.makeFunc hF rfl rfl rfl ?_
  obtain ⟨r1, hr1, H⟩ := bindS H
  refine L.call [false, false] [] [2] 3 hF rfl rfl rfl ent214 rfl rfl rfl rfl rfl (Fslices_IndexFunc_Event__impl_Find_1_gives k g0 a0 a1 r1 hr1) rfl ?_
  refine L.assign hF rfl rfl rfl ?_
  refine L.nil ?_
  refine WpC.ret ?_
  cases H
  exact Leaves.ret rfl rfl rfl ⟨rfl, rfl⟩
/-! ### Fimpl_Chain -/
def Fimpl_Chain.j19 (cl17 : (List Timpl_Event) → Int → (List Int) → Int → Int → Option (List Int)) (k : Nat) (v178 : List Timpl_Event) (v179 : Int) (v180 : List Int) (v181 : Int) (v182 : Int) : Option (List Int) := cl17 v178 v179 v180 v181 (IntKind.i64.wrap (v182 + (1 : Int)))
def Fimpl_Chain.j20 (cl17 : (List Timpl_Event) → Int → (List Int) → Int → Int → Option (List Int)) (k : Nat) (v186 : List Timpl_Event) (v187 : List Int) (v188 : Int) (v189 : Int) (v190 : Int) (v191 : Int) (v192 : Bool) : Option (List Int) := cond v192 ((at? v186 v188).bind fun b193 => Fimpl_Chain.j19 cl17 k v186 b193.Parent v187 v189 v190) (cond (v191 == (4 : Int)) ((at? v186 v188).bind fun b194 => Fimpl_Chain.j19 cl17 k v186 b194.Evid v187 v189 v190) (some ([] : List Int)))
def Fimpl_Chain.l17 : Nat → (List Timpl_Event) → Int → (List Int) → Int → Int → Option (List Int)
  | 0, _, _, _, _, _ => none
  | k17 + 1, v161, v162, v163, v164, v165 => cond (decide (v165 < v164)) ((Fimpl_Find k17 v161 v162).bind fun r183 => cond (decide (r183 < (0 : Int))) (some ([] : List Int)) (cond (decide ((2 * (([r183] : List Int).length + v163.length) + 192) * 8 ≤ 281474976710656)) ((at? v161 r183).bind fun b185 => cond (b185.Kind == (1 : Int)) (some (([r183] : List Int) ++ v163)) (cond (b185.Kind == (2 : Int)) (Fimpl_Chain.j20 (Fimpl_Chain.l17 k17) k17 v161 (([r183] : List Int) ++ v163) r183 v164 v165 b185.Kind (b185.Kind == (2 : Int))) (Fimpl_Chain.j20 (Fimpl_Chain.l17 k17) k17 v161 (([r183] : List Int) ++ v163) r183 v164 v165 b185.Kind (b185.Kind == (3 : Int))))) none)) (some ([] : List Int))
def Fimpl_Chain (k : Nat) (a0 : List Timpl_Event) (a1 : Int) : Option (List Int) := Fimpl_Chain.l17 k a0 a1 ([] : List Int) (a0.length : Int) (0 : Int)
theorem ent25 : Enters Try.prog 25 := ⟨Try.f25, Try.func25, rfl, by decide⟩
set_option maxHeartbeats 8000000 in
set_option maxRecDepth 100000 in
theorem Fimpl_Chain_gives (k : Nat) (g0 : Bool) (a0 : List Timpl_Event) (a1 : Int) (r : List Int) (H : Fimpl_Chain k a0 a1 = some r) : Gives Try.prog 25 [V.one (Cell.sl g0 (List.map eTimpl_Event a0)), V.one (cI a1)] [] [V.one (Cell.ow 1 (List.map eI r))] [] := by
  refine Gives.intro Try.func25 rfl rfl rfl rfl ?_
  intro F hF hm
  unfold Fimpl_Chain at H
  obtain ⟨K, hK⟩ : ∃ K, k ≤ K := ⟨k, Nat.le_refl k⟩
  refine WpC.seq ?_
  refine WpC.regionL ?_
  refine L.assign hF rfl rfl rfl ?_
  refine L.nil ?_
  refine WpC.seq ?_
  refine WpC.regionL ?_
  refine L.buildSlice (e := eI) 2 ([] : List Int) Try.underlying24 info3 rfl rfl rfl hF rfl rfl rfl rfl rfl rfl rfl rfl ?_
  refine L.assign hF rfl rfl rfl ?_
  refine L.nil ?_
  refine WpC.seq ?_
  refine WpC.seq ?_
  refine WpC.regionL ?_
  refine L.move hF rfl rfl rfl ?_
  refine L.lenR (xs := a0) (e := eTimpl_Event) Try.underlying26 hF rfl rfl rfl rfl ?_
  refine L.move hF rfl rfl rfl ?_
  refine L.nil ?_
  refine WpC.block ?_
  refine WpC.loopL (P := Try.prog) (fun n σ => ∃ v161 : List Timpl_Event, ∃ v162 : Int, ∃ v163 : List Int, ∃ v164 : Int, ∃ v165 : Int, n ≤ K ∧ Fimpl_Chain.l17 n v161 v162 v163 v164 v165 = some r ∧ σ = mkSt [(0, one (Cell.sl g0 (List.map eTimpl_Event v161))), (1, one (cI v162)), (5, one (Cell.own 0)), (9, one (cI v164)), (10, one (cI v165))] [(0, ⟨1, List.map eI v163⟩)] [] 1) k ⟨_, ⟨a0, a1, ([] : List Int), (a0.length : Int), (0 : Int), by omega, H, rfl⟩, Le.mk [(0, 2)] hm rfl ⟨⟨_, rfl, rfl⟩, ⟨_, rfl, rfl⟩, ⟨_, rfl, rfl⟩, ⟨_, rfl, rfl⟩, ⟨_, rfl, rfl⟩, trivial⟩ ⟨⟨_, rfl, rfl⟩, trivial⟩ trivial⟩ ?_
  clear H
  rintro k17 _ ⟨v161, v162, v163, v164, v165, hk17, H, rfl⟩
  cases k17 with
  | zero => cases H
  | succ k17 =>
    rw [Fimpl_Chain.l17] at H
    refine WpC.seq ?_
    refine WpC.regionL ?_
    refine L.bin hF rfl rfl rfl rfl rfl rfl ?_
    refine L.nil ?_
    refine WpC.seq ?_
    refine WpC.cond rfl (fun hc => ?_) (fun hc => ?_)
    · replace H := condT hc H
      refine WpC.skip ?_
      refine WpC.join (fun σ => ∃ kj19 : Nat, ∃ v178 : List Timpl_Event, ∃ v179 : Int, ∃ v180 : List Int, ∃ v181 : Int, ∃ v182 : Int, kj19 ≤ K ∧ Fimpl_Chain.j19 (Fimpl_Chain.l17 k17) kj19 v178 v179 v180 v181 v182 = some r ∧ σ = mkSt [(0, one (Cell.sl g0 (List.map eTimpl_Event v178))), (1, one (cI v179)), (5, one (Cell.own 0)), (9, one (cI v181)), (10, one (cI v182))] [(0, ⟨1, List.map eI v180⟩)] [] 1) ?_ ?_
      · rintro _ ⟨kj19, v178, v179, v180, v181, v182, hkj19, H, rfl⟩
        unfold Fimpl_Chain.j19 at H
        refine WpC.regionL ?_
        refine L.bin hF rfl rfl rfl rfl rfl rfl ?_
        refine L.move hF rfl rfl rfl ?_
        refine L.nil ?_
        exact ⟨k17, _, by omega, ⟨v178, v179, v180, v181, (IntKind.i64.wrap (v182 + (1 : Int))), by omega, H, rfl⟩, Le.mk [(0, 0)] hm rfl ⟨⟨_, rfl, rfl⟩, ⟨_, rfl, rfl⟩, ⟨_, rfl, rfl⟩, ⟨_, rfl, rfl⟩, ⟨_, rfl, rfl⟩, trivial⟩ ⟨⟨_, rfl, rfl⟩, trivial⟩ trivial⟩
      · refine WpC.block ?_
        refine WpC.seq ?_
        refine WpC.regionL ?_
        refine L.move hF rfl rfl rfl ?_
        refine L.move hF rfl rfl rfl ?_
        obtain ⟨r183, hr183, H⟩ := bindS H
        refine L.call [false, false] [] [] 1 hF rfl rfl rfl ent102 rfl rfl rfl rfl rfl (Fimpl_Find_gives k17 g0 v161 v162 r183 hr183) rfl ?_
        refine L.assign hF rfl rfl rfl ?_
        refine L.nil ?_
        refine WpC.seq ?_
        refine WpC.seq ?_
        refine WpC.regionL ?_
        refine L.move hF rfl rfl rfl ?_
        refine L.bin hF rfl rfl rfl rfl rfl rfl ?_
        refine L.nil ?_
        refine WpC.cond rfl (fun hc => ?_) (fun hc => ?_)
        · replace H := condT hc H
          refine WpC.exit ?_
          refine WpC.seq ?_
          refine WpC.regionL ?_
          refine L.buildSlice (e := eI) 2 ([] : List Int) Try.underlying24 info3 rfl rfl rfl hF rfl rfl rfl rfl rfl rfl rfl rfl ?_
          refine L.assign hF rfl rfl rfl ?_
          refine L.nil ?_
          refine WpC.ret ?_
          cases H
          exact Leaves.ret rfl rfl rfl ⟨rfl, rfl⟩
        · replace H := condF hc H
          refine WpC.skip ?_
          refine WpC.seq ?_
          refine WpC.regionL ?_
          refine L.move hF rfl rfl rfl ?_
          refine L.buildSlice (e := eI) 2 ([r183] : List Int) Try.underlying24 info3 rfl rfl rfl hF rfl rfl rfl rfl rfl rfl rfl rfl ?_
          refine L.move hF rfl rfl rfl ?_
          obtain ⟨h184, H⟩ := condG H
          refine L.append (xs := ([r183] : List Int)) (ys := v163) (e := eI) 3 Try.underlying24 info3 rfl rfl hF rfl rfl rfl rfl rfl rfl rfl rfl (fun _ => rfl) (fun _ _ h1 h2 => by cases h1; cases h2; rfl) ⟨_, Try.underlying24⟩ (of_decide_eq_true h184) rfl rfl ?_
          refine L.assign hF rfl rfl rfl ?_
          refine L.nil ?_
          refine WpC.seq ?_
          refine WpC.regionL ?_
          refine L.move hF rfl rfl rfl ?_
          refine L.move hF rfl rfl rfl ?_
          obtain ⟨b185, hb185, H⟩ := bindS H
          refine L.idxR (xs := v161) (e := eTimpl_Event) Try.underlying26 info135 hF rfl rfl rfl rfl rfl hb185 rfl rfl ?_
          refine L.fieldAddr Try.underlying135 rfl info3 rfl hF rfl rfl rfl rfl rfl ?_
          refine L.loadPe shape3 hF rfl rfl rfl rfl rfl ?_
          refine L.nil ?_
          refine WpC.block ?_
          refine WpC.seq ?_
          refine WpC.regionL ?_
          refine L.bin hF rfl rfl rfl rfl rfl rfl ?_
          refine L.assign hF rfl rfl rfl ?_
          refine L.nil ?_
          refine WpC.cond rfl (fun hc => ?_) (fun hc => ?_)
          · replace H := condT hc H
            refine WpC.seq ?_
            refine WpC.regionL ?_
            refine L.move hF rfl rfl rfl ?_
            refine L.assign hF rfl rfl rfl ?_
            refine L.nil ?_
            refine WpC.ret ?_
            cases H
            exact Leaves.ret rfl rfl rfl ⟨rfl, rfl⟩
          · replace H := condF hc H
            refine WpC.join (fun σ => ∃ kj20 : Nat, ∃ v186 : List Timpl_Event, ∃ v187 : List Int, ∃ v188 : Int, ∃ v189 : Int, ∃ v190 : Int, ∃ v191 : Int, ∃ v192 : Bool, kj20 ≤ K ∧ Fimpl_Chain.j20 (Fimpl_Chain.l17 k17) kj20 v186 v187 v188 v189 v190 v191 v192 = some r ∧ σ = mkSt [(0, one (Cell.sl g0 (List.map eTimpl_Event v186))), (5, one (Cell.own 0)), (6, one (cI v188)), (9, one (cI v189)), (10, one (cI v190)), (25, one (cI v191)), (30, one (cL v192))] [(0, ⟨1, List.map eI v187⟩)] [] 1) ?_ ?_
            · rintro _ ⟨kj20, v186, v187, v188, v189, v190, v191, v192, hkj20, H, rfl⟩
              unfold Fimpl_Chain.j20 at H
              refine WpC.cond rfl (fun hc => ?_) (fun hc => ?_)
              · replace H := condT hc H
                refine WpC.regionL ?_
                refine L.move hF rfl rfl rfl ?_
                refine L.move hF rfl rfl rfl ?_
                obtain ⟨b193, hb193, H⟩ := bindS H
                refine L.idxR (xs := v186) (e := eTimpl_Event) Try.underlying26 info135 hF rfl rfl rfl rfl rfl hb193 rfl rfl ?_
                refine L.fieldAddr Try.underlying135 rfl info3 rfl hF rfl rfl rfl rfl rfl ?_
                refine L.loadPe shape3 hF rfl rfl rfl rfl rfl ?_
                refine L.assign hF rfl rfl rfl ?_
                refine L.nil ?_
                exact ⟨_, ⟨kj20, v186, b193.Parent, v187, v189, v190, by omega, H, rfl⟩, Le.mk [(0, 0)] hm rfl ⟨⟨_, rfl, rfl⟩, ⟨_, rfl, rfl⟩, ⟨_, rfl, rfl⟩, ⟨_, rfl, rfl⟩, ⟨_, rfl, rfl⟩, trivial⟩ ⟨⟨_, rfl, rfl⟩, trivial⟩ trivial⟩
              · replace H := condF hc H
                refine WpC.seq ?_
                refine WpC.regionL ?_
                refine L.bin hF rfl rfl rfl rfl rfl rfl ?_
                refine L.assign hF rfl rfl rfl ?_
                refine L.nil ?_
                refine WpC.cond rfl (fun hc => ?_) (fun hc => ?_)
                · replace H := condT hc H
                  refine WpC.regionL ?_
                  refine L.move hF rfl rfl rfl ?_
                  refine L.move hF rfl rfl rfl ?_
                  obtain ⟨b194, hb194, H⟩ := bindS H
                  refine L.idxR (xs := v186) (e := eTimpl_Event) Try.underlying26 info135 hF rfl rfl rfl rfl rfl hb194 rfl rfl ?_
                  refine L.fieldAddr Try.underlying135 rfl info3 rfl hF rfl rfl rfl rfl rfl ?_
                  refine L.loadPe shape3 hF rfl rfl rfl rfl rfl ?_
                  refine L.assign hF rfl rfl rfl ?_
                  refine L.nil ?_
                  exact ⟨_, ⟨kj20, v186, b194.Evid, v187, v189, v190, by omega, H, rfl⟩, Le.mk [(0, 0)] hm rfl ⟨⟨_, rfl, rfl⟩, ⟨_, rfl, rfl⟩, ⟨_, rfl, rfl⟩, ⟨_, rfl, rfl⟩, ⟨_, rfl, rfl⟩, trivial⟩ ⟨⟨_, rfl, rfl⟩, trivial⟩ trivial⟩
                · replace H := condF hc H
                  refine WpC.seq ?_
                  refine WpC.regionL ?_
                  refine L.buildSlice (e := eI) 1 ([] : List Int) Try.underlying24 info3 rfl rfl rfl hF rfl rfl rfl rfl rfl rfl rfl rfl ?_
                  refine L.assign hF rfl rfl rfl ?_
                  refine L.nil ?_
                  refine WpC.ret ?_
                  cases H
                  exact Leaves.ret rfl rfl rfl ⟨rfl, rfl⟩
            · refine WpC.seq ?_
              refine WpC.regionL ?_
              refine L.bin hF rfl rfl rfl rfl rfl rfl ?_
              refine L.assign hF rfl rfl rfl ?_
              refine L.nil ?_
              refine WpC.cond rfl (fun hc => ?_) (fun hc => ?_)
              · replace H := condT hc H
                refine WpC.skip ?_
                exact ⟨_, ⟨k17, v161, (([r183] : List Int) ++ v163), r183, v164, v165, b185.Kind, (b185.Kind == (2 : Int)), by omega, H, rfl⟩, Le.mk [(0, 3)] hm rfl ⟨⟨_, rfl, rfl⟩, ⟨_, rfl, rfl⟩, ⟨_, rfl, rfl⟩, ⟨_, rfl, rfl⟩, ⟨_, rfl, rfl⟩, ⟨_, rfl, rfl⟩, ⟨_, rfl, rfl⟩, trivial⟩ ⟨⟨_, rfl, rfl⟩, trivial⟩ trivial⟩
              · replace H := condF hc H
                refine WpC.regionL ?_
                refine L.bin hF rfl rfl rfl rfl rfl rfl ?_
                refine L.assign hF rfl rfl rfl ?_
                refine L.nil ?_
                exact ⟨_, ⟨k17, v161, (([r183] : List Int) ++ v163), r183, v164, v165, b185.Kind, (b185.Kind == (3 : Int)), by omega, H, rfl⟩, Le.mk [(0, 3)] hm rfl ⟨⟨_, rfl, rfl⟩, ⟨_, rfl, rfl⟩, ⟨_, rfl, rfl⟩, ⟨_, rfl, rfl⟩, ⟨_, rfl, rfl⟩, ⟨_, rfl, rfl⟩, ⟨_, rfl, rfl⟩, trivial⟩ ⟨⟨_, rfl, rfl⟩, trivial⟩ trivial⟩
    · replace H := condF hc H
      refine WpC.exit ?_
      refine WpC.seq ?_
      refine WpC.regionL ?_
      refine L.buildSlice (e := eI) 1 ([] : List Int) Try.underlying24 info3 rfl rfl rfl hF rfl rfl rfl rfl rfl rfl rfl rfl ?_
      refine L.assign hF rfl rfl rfl ?_
      refine L.nil ?_
      refine WpC.ret ?_
      cases H
      exact Leaves.ret rfl rfl rfl ⟨rfl, rfl⟩
/-! ### Flaws_eqIntS -/
def Flaws_eqIntS.l2 : Nat → (List Int) → (List Int) → Int → Option Bool
  | 0, _, _, _ => none
  | k2 + 1, v34, v35, v36 => cond (decide (v36 < (v34.length : Int))) ((at? v34 v36).bind fun b39 => (at? v35 v36).bind fun b40 => cond (b39 != b40) (some false) ((Flaws_eqIntS.l2 k2) v34 v35 (IntKind.i64.wrap (v36 + (1 : Int))))) (some true)
def Flaws_eqIntS (k : Nat) (a0 : List Int) (a1 : List Int) : Option Bool := cond ((a0.length : Int) != (a1.length : Int)) (some false) (Flaws_eqIntS.l2 k a0 a1 (0 : Int))
theorem ent26 : Enters Try.prog 26 := ⟨Try.f26, Try.func26, rfl, by decide⟩
set_option maxHeartbeats 8000000 in
set_option maxRecDepth 100000 in
theorem Flaws_eqIntS_gives (k : Nat) (g0 : Bool) (g1 : Bool) (a0 : List Int) (a1 : List Int) (r : Bool) (H : Flaws_eqIntS k a0 a1 = some r) : Gives Try.prog 26 [V.one (Cell.sl g0 (List.map eI a0)), V.one (Cell.sl g1 (List.map eI a1))] [] [V.one (cL r)] [] := by
  refine Gives.intro Try.func26 rfl rfl rfl rfl ?_
  intro F hF hm
  unfold Flaws_eqIntS at H
  obtain ⟨K, hK⟩ : ∃ K, k ≤ K := ⟨k, Nat.le_refl k⟩
  refine WpC.seq ?_
  refine WpC.regionL ?_
  refine L.assign hF rfl rfl rfl ?_
  refine L.nil ?_
  refine WpC.seq ?_
  refine WpC.seq ?_
  refine WpC.regionL ?_
  refine L.move hF rfl rfl rfl ?_
  refine L.lenR (xs := a0) (e := eI) Try.underlying24 hF rfl rfl rfl rfl ?_
  refine L.move hF rfl rfl rfl ?_
  refine L.lenR (xs := a1) (e := eI) Try.underlying24 hF rfl rfl rfl rfl ?_
  refine L.bin hF rfl rfl rfl rfl rfl rfl ?_
  refine L.nil ?_
  refine WpC.cond rfl (fun hc => ?_) (fun hc => ?_)
  · replace H := condT hc H
    refine WpC.seq ?_
    refine WpC.regionL ?_
    refine L.assign hF rfl rfl rfl ?_
    refine L.nil ?_
    refine WpC.ret ?_
    cases H
    exact Leaves.ret rfl rfl rfl ⟨rfl, rfl⟩
  · replace H := condF hc H
    refine WpC.skip ?_
    refine WpC.seq ?_
    refine WpC.seq ?_
    refine WpC.regionL ?_
    refine L.assign hF rfl rfl rfl ?_
    refine L.nil ?_
    refine WpC.block ?_
    refine WpC.loopL (P := Try.prog) (fun n σ => ∃ v34 : List Int, ∃ v35 : List Int, ∃ v36 : Int, n ≤ K ∧ Flaws_eqIntS.l2 n v34 v35 v36 = some r ∧ σ = mkSt [(0, one (Cell.sl g0 (List.map eI v34))), (1, one (Cell.sl g1 (List.map eI v35))), (5, one (cI v36))] [] [] 0) k ⟨_, ⟨a0, a1, (0 : Int), by omega, H, rfl⟩, Le.mk [] hm rfl ⟨⟨_, rfl, rfl⟩, ⟨_, rfl, rfl⟩, ⟨_, rfl, rfl⟩, trivial⟩ trivial trivial⟩ ?_
    clear H
    rintro k2 _ ⟨v34, v35, v36, hk2, H, rfl⟩
    cases k2 with
    | zero => cases H
    | succ k2 =>
      rw [Flaws_eqIntS.l2] at H
      refine WpC.seq ?_
      refine WpC.seq ?_
      refine WpC.regionL ?_
      refine L.move hF rfl rfl rfl ?_
      refine L.move hF rfl rfl rfl ?_
      refine L.lenR (xs := v34) (e := eI) Try.underlying24 hF rfl rfl rfl rfl ?_
      refine L.bin hF rfl rfl rfl rfl rfl rfl ?_
      refine L.nil ?_
      refine WpC.cond rfl (fun hc => ?_) (fun hc => ?_)
      · replace H := condT hc H
        refine WpC.skip ?_
        refine WpC.seq ?_
        refine WpC.block ?_
        refine WpC.seq ?_
        refine S.begin mixed (by kernel_rfl) ?_
        refine S.st 0 rfl rfl ((Ca.move).quiet) (fun Q0 k0 => L.move hF rfl rfl rfl (L.nil k0)) ?_
        refine S.st 1 rfl rfl ((Ca.move).quiet) (fun Q0 k0 => L.move hF rfl rfl rfl (L.nil k0)) ?_
        obtain ⟨b39, hb39, H⟩ := bindS H
        refine S.st 2 rfl rfl ((Ca.indexAddr).quiet) (fun Q0 k0 => L.idxR (xs := v34) (e := eI) Try.underlying24 info3 hF rfl rfl rfl rfl rfl hb39 rfl rfl (L.nil k0)) ?_
        refine S.st 3 rfl rfl (Qu.load) (fun Q0 k0 => L.loadPe shape3 hF rfl rfl rfl rfl rfl (L.nil k0)) ?_
        refine S.st 4 rfl rfl ((Ca.move).quiet) (fun Q0 k0 => L.move hF rfl rfl rfl (L.nil k0)) ?_
        refine S.st 5 rfl rfl ((Ca.move).quiet) (fun Q0 k0 => L.move hF rfl rfl rfl (L.nil k0)) ?_
        obtain ⟨b40, hb40, H⟩ := bindS H
        refine S.st 6 rfl rfl ((Ca.indexAddr).quiet) (fun Q0 k0 => L.idxR (xs := v35) (e := eI) Try.underlying24 info3 hF rfl rfl rfl rfl rfl hb40 rfl rfl (L.nil k0)) ?_
        refine S.st 7 rfl rfl (Qu.load) (fun Q0 k0 => L.loadPe shape3 hF rfl rfl rfl rfl rfl (L.nil k0)) ?_
        refine S.st 8 rfl rfl ((Ca.bin rfl rfl (calm_int _ _ _ _ _ _ _ _)).quiet) (fun Q0 k0 => L.bin hF rfl rfl rfl rfl rfl rfl (L.nil k0)) ?_
        refine S.nil ?_
        refine WpC.cond rfl (fun hc => ?_) (fun hc => ?_)
        · replace H := condT hc H
          refine WpC.seq ?_
          refine WpC.regionL ?_
          refine L.assign hF rfl rfl rfl ?_
          refine L.nil ?_
          refine WpC.ret ?_
          cases H
          exact Leaves.ret rfl rfl rfl ⟨rfl, rfl⟩
        · replace H := condF hc H
          refine WpC.skip ?_
          refine WpC.regionL ?_
          refine L.move hF rfl rfl rfl ?_
          refine L.bin hF rfl rfl rfl rfl rfl rfl ?_
          refine L.assign hF rfl rfl rfl ?_
          refine L.nil ?_
          exact ⟨k2, _, by omega, ⟨v34, v35, (IntKind.i64.wrap (v36 + (1 : Int))), by omega, H, rfl⟩, Le.mk [] hm rfl ⟨⟨_, rfl, rfl⟩, ⟨_, rfl, rfl⟩, ⟨_, rfl, rfl⟩, trivial⟩ trivial trivial⟩
      · replace H := condF hc H
        refine WpC.exit ?_
        refine WpC.seq ?_
        refine WpC.regionL ?_
        refine L.assign hF rfl rfl rfl ?_
        refine L.nil ?_
        refine WpC.ret ?_
        cases H
        exact Leaves.ret rfl rfl rfl ⟨rfl, rfl⟩
/-! ### Flaws_eqRest -/
def Flaws_eqRest (k : Nat) (a0 : Timpl_Rest) (a1 : Timpl_Rest) : Option Bool := cond (a0.Servers != a1.Servers) (some false) (cond (a0.Ops != a1.Ops) (some false) (cond (a0.End != a1.End) (some false) (some true)))
theorem ent147 : Enters Try.prog 147 := ⟨Try.f147, Try.func147, rfl, by decide⟩
set_option maxHeartbeats 8000000 in
set_option maxRecDepth 100000 in
theorem Flaws_eqRest_gives (k : Nat) (a0 : Timpl_Rest) (a1 : Timpl_Rest) (r : Bool) (H : Flaws_eqRest k a0 a1 = some r) : Gives Try.prog 147 [V.agg [cI a0.Servers, cI a0.Ops, cI a0.End], V.agg [cI a1.Servers, cI a1.Ops, cI a1.End]] [] [V.one (cL r)] [] := by
  refine Gives.intro Try.func147 rfl rfl rfl rfl ?_
  intro F hF hm
  unfold Flaws_eqRest at H
  obtain ⟨K, hK⟩ : ∃ K, k ≤ K := ⟨k, Nat.le_refl k⟩
  refine WpC.seq ?_
  refine WpC.regionL ?_
  refine L.box 6 hF rfl rfl rfl rfl ?_
  refine L.box 7 hF rfl rfl rfl rfl ?_
  refine L.assign hF rfl rfl rfl ?_
  refine L.nil ?_
  refine WpC.seq ?_
  refine WpC.seq ?_
  refine WpC.regionL ?_
  refine L.fieldAddr Try.underlying74 rfl info3 rfl hF rfl rfl rfl rfl rfl ?_
  refine L.loadPtr shape3 hF rfl rfl rfl rfl rfl rfl ?_
  refine L.fieldAddr Try.underlying74 rfl info3 rfl hF rfl rfl rfl rfl rfl ?_
  refine L.loadPtr shape3 hF rfl rfl rfl rfl rfl rfl ?_
  refine L.bin hF rfl rfl rfl rfl rfl rfl ?_
  refine L.nil ?_
  refine WpC.cond rfl (fun hc => ?_) (fun hc => ?_)
  · replace H := condT hc H
    refine WpC.seq ?_
    refine WpC.regionL ?_
    refine L.assign hF rfl rfl rfl ?_
    refine L.nil ?_
    refine WpC.ret ?_
    cases H
    exact Leaves.ret rfl rfl rfl ⟨rfl, rfl⟩
  · replace H := condF hc H
    refine WpC.skip ?_
    refine WpC.seq ?_
    refine WpC.seq ?_
    refine WpC.regionL ?_
    refine L.fieldAddr Try.underlying74 rfl info3 rfl hF rfl rfl rfl rfl rfl ?_
    refine L.loadPtr shape3 hF rfl rfl rfl rfl rfl rfl ?_
    refine L.fieldAddr Try.underlying74 rfl info3 rfl hF rfl rfl rfl rfl rfl ?_
    refine L.loadPtr shape3 hF rfl rfl rfl rfl rfl rfl ?_
    refine L.bin hF rfl rfl rfl rfl rfl rfl ?_
    refine L.nil ?_
    refine WpC.cond rfl (fun hc => ?_) (fun hc => ?_)
    · replace H := condT hc H
      refine WpC.seq ?_
      refine WpC.regionL ?_
      refine L.assign hF rfl rfl rfl ?_
      refine L.nil ?_
      refine WpC.ret ?_
      cases H
      exact Leaves.ret rfl rfl rfl ⟨rfl, rfl⟩
    · replace H := condF hc H
      refine WpC.skip ?_
      refine WpC.seq ?_
      refine WpC.seq ?_
      refine WpC.regionL ?_
      refine L.fieldAddr Try.underlying74 rfl info3 rfl hF rfl rfl rfl rfl rfl ?_
      refine L.loadPtr shape3 hF rfl rfl rfl rfl rfl rfl ?_
      refine L.fieldAddr Try.underlying74 rfl info3 rfl hF rfl rfl rfl rfl rfl ?_
      refine L.loadPtr shape3 hF rfl rfl rfl rfl rfl rfl ?_
      refine L.bin hF rfl rfl rfl rfl rfl rfl ?_
      refine L.nil ?_
      refine WpC.cond rfl (fun hc => ?_) (fun hc => ?_)
      · replace H := condT hc H
        refine WpC.seq ?_
        refine WpC.regionL ?_
        refine L.assign hF rfl rfl rfl ?_
        refine L.nil ?_
        refine WpC.ret ?_
        cases H
        exact Leaves.ret rfl rfl rfl ⟨rfl, rfl⟩
      · replace H := condF hc H
        refine WpC.skip ?_
        refine WpC.seq ?_
        refine WpC.regionL ?_
        refine L.assign hF rfl rfl rfl ?_
        refine L.nil ?_
        refine WpC.ret ?_
        cases H
        exact Leaves.ret rfl rfl rfl ⟨rfl, rfl⟩
/-! ### Flaws_eqEvent -/
def Flaws_eqEvent (k : Nat) (a0 : Timpl_Event) (a1 : Timpl_Event) : Option Bool := cond (a0.Kind != a1.Kind) (some false) (cond (a0.Realm != a1.Realm) (some false) (cond (a0.By != a1.By) (some false) (cond (a0.Client != a1.Client) (some false) (cond (a0.Service != a1.Service) (some false) (cond (a0.Key != a1.Key) (some false) (cond (a0.Parent != a1.Parent) (some false) (cond (a0.Evid != a1.Evid) (some false) ((Flaws_eqRest k (⟨a0.Rest.Servers, a0.Rest.Ops, a0.Rest.End⟩ : Timpl_Rest) (⟨a1.Rest.Servers, a1.Rest.Ops, a1.Rest.End⟩ : Timpl_Rest)).bind fun r2 => cond (!r2) (some false) (some true)))))))))
theorem ent103 : Enters Try.prog 103 := ⟨Try.f103, Try.func103, rfl, by decide⟩
set_option maxHeartbeats 8000000 in
set_option maxRecDepth 100000 in
theorem Flaws_eqEvent_gives (k : Nat) (a0 : Timpl_Event) (a1 : Timpl_Event) (r : Bool) (H : Flaws_eqEvent k a0 a1 = some r) : Gives Try.prog 103 [V.agg [cI a0.Kind, cI a0.Realm, cI a0.By, cI a0.Client, cI a0.Service, cI a0.Key, cI a0.Parent, cI a0.Evid, cI a0.Rest.Servers, cI a0.Rest.Ops, cI a0.Rest.End], V.agg [cI a1.Kind, cI a1.Realm, cI a1.By, cI a1.Client, cI a1.Service, cI a1.Key, cI a1.Parent, cI a1.Evid, cI a1.Rest.Servers, cI a1.Rest.Ops, cI a1.Rest.End]] [] [V.one (cL r)] [] := by
  refine Gives.intro Try.func103 rfl rfl rfl rfl ?_
  intro F hF hm
  unfold Flaws_eqEvent at H
  obtain ⟨K, hK⟩ : ∃ K, k ≤ K := ⟨k, Nat.le_refl k⟩
  refine WpC.seq ?_
  refine WpC.regionL ?_
  refine L.box 22 hF rfl rfl rfl rfl ?_
  refine L.box 23 hF rfl rfl rfl rfl ?_
  refine L.assign hF rfl rfl rfl ?_
  refine L.nil ?_
  refine WpC.seq ?_
  refine WpC.seq ?_
  refine WpC.regionL ?_
  refine L.fieldAddr Try.underlying135 rfl info3 rfl hF rfl rfl rfl rfl rfl ?_
  refine L.loadPtr shape3 hF rfl rfl rfl rfl rfl rfl ?_
  refine L.fieldAddr Try.underlying135 rfl info3 rfl hF rfl rfl rfl rfl rfl ?_
  refine L.loadPtr shape3 hF rfl rfl rfl rfl rfl rfl ?_
  refine L.bin hF rfl rfl rfl rfl rfl rfl ?_
  refine L.nil ?_
  refine WpC.cond rfl (fun hc => ?_) (fun hc => ?_)
  · replace H := condT hc H
    refine WpC.seq ?_
    refine WpC.regionL ?_
    refine L.assign hF rfl rfl rfl ?_
    refine L.nil ?_
    refine WpC.ret ?_
    cases H
    exact Leaves.ret rfl rfl rfl ⟨rfl, rfl⟩
  · replace H := condF hc H
    refine WpC.skip ?_
    refine WpC.seq ?_
    refine WpC.seq ?_
    refine WpC.regionL ?_
    refine L.fieldAddr Try.underlying135 rfl info3 rfl hF rfl rfl rfl rfl rfl ?_
    refine L.loadPtr shape3 hF rfl rfl rfl rfl rfl rfl ?_
    refine L.fieldAddr Try.underlying135 rfl info3 rfl hF rfl rfl rfl rfl rfl ?_
    refine L.loadPtr shape3 hF rfl rfl rfl rfl rfl rfl ?_
    refine L.bin hF rfl rfl rfl rfl rfl rfl ?_
    refine L.nil ?_
    refine WpC.cond rfl (fun hc => ?_) (fun hc => ?_)
    · replace H := condT hc H
      refine WpC.seq ?_
      refine WpC.regionL ?_
      refine L.assign hF rfl rfl rfl ?_
      refine L.nil ?_
      refine WpC.ret ?_
      cases H
      exact Leaves.ret rfl rfl rfl ⟨rfl, rfl⟩
    · replace H := condF hc H
      refine WpC.skip ?_
      refine WpC.seq ?_
      refine WpC.seq ?_
      refine WpC.regionL ?_
      refine L.fieldAddr Try.underlying135 rfl info3 rfl hF rfl rfl rfl rfl rfl ?_
      refine L.loadPtr shape3 hF rfl rfl rfl rfl rfl rfl ?_
      refine L.fieldAddr Try.underlying135 rfl info3 rfl hF rfl rfl rfl rfl rfl ?_
      refine L.loadPtr shape3 hF rfl rfl rfl rfl rfl rfl ?_
      refine L.bin hF rfl rfl rfl rfl rfl rfl ?_
      refine L.nil ?_
      refine WpC.cond rfl (fun hc => ?_) (fun hc => ?_)
      · replace H := condT hc H
        refine WpC.seq ?_
        refine WpC.regionL ?_
        refine L.assign hF rfl rfl rfl ?_
        refine L.nil ?_
        refine WpC.ret ?_
        cases H
        exact Leaves.ret rfl rfl rfl ⟨rfl, rfl⟩
      · replace H := condF hc H
        refine WpC.skip ?_
        refine WpC.seq ?_
        refine WpC.seq ?_
        refine WpC.regionL ?_
        refine L.fieldAddr Try.underlying135 rfl info3 rfl hF rfl rfl rfl rfl rfl ?_
        refine L.loadPtr shape3 hF rfl rfl rfl rfl rfl rfl ?_
        refine L.fieldAddr Try.underlying135 rfl info3 rfl hF rfl rfl rfl rfl rfl ?_
        refine L.loadPtr shape3 hF rfl rfl rfl rfl rfl rfl ?_
        refine L.bin hF rfl rfl rfl rfl rfl rfl ?_
        refine L.nil ?_
        refine WpC.cond rfl (fun hc => ?_) (fun hc => ?_)
        · replace H := condT hc H
          refine WpC.seq ?_
          refine WpC.regionL ?_
          refine L.assign hF rfl rfl rfl ?_
          refine L.nil ?_
          refine WpC.ret ?_
          cases H
          exact Leaves.ret rfl rfl rfl ⟨rfl, rfl⟩
        · replace H := condF hc H
          refine WpC.skip ?_
          refine WpC.seq ?_
          refine WpC.seq ?_
          refine WpC.regionL ?_
          refine L.fieldAddr Try.underlying135 rfl info3 rfl hF rfl rfl rfl rfl rfl ?_
          refine L.loadPtr shape3 hF rfl rfl rfl rfl rfl rfl ?_
          refine L.fieldAddr Try.underlying135 rfl info3 rfl hF rfl rfl rfl rfl rfl ?_
          refine L.loadPtr shape3 hF rfl rfl rfl rfl rfl rfl ?_
          refine L.bin hF rfl rfl rfl rfl rfl rfl ?_
          refine L.nil ?_
          refine WpC.cond rfl (fun hc => ?_) (fun hc => ?_)
          · replace H := condT hc H
            refine WpC.seq ?_
            refine WpC.regionL ?_
            refine L.assign hF rfl rfl rfl ?_
            refine L.nil ?_
            refine WpC.ret ?_
            cases H
            exact Leaves.ret rfl rfl rfl ⟨rfl, rfl⟩
          · replace H := condF hc H
            refine WpC.skip ?_
            refine WpC.seq ?_
            refine WpC.seq ?_
            refine WpC.regionL ?_
            refine L.fieldAddr Try.underlying135 rfl info3 rfl hF rfl rfl rfl rfl rfl ?_
            refine L.loadPtr shape3 hF rfl rfl rfl rfl rfl rfl ?_
            refine L.fieldAddr Try.underlying135 rfl info3 rfl hF rfl rfl rfl rfl rfl ?_
            refine L.loadPtr shape3 hF rfl rfl rfl rfl rfl rfl ?_
            refine L.bin hF rfl rfl rfl rfl rfl rfl ?_
            refine L.nil ?_
            refine WpC.cond rfl (fun hc => ?_) (fun hc => ?_)
            · replace H := condT hc H
              refine WpC.seq ?_
              refine WpC.regionL ?_
              refine L.assign hF rfl rfl rfl ?_
              refine L.nil ?_
              refine WpC.ret ?_
              cases H
              exact Leaves.ret rfl rfl rfl ⟨rfl, rfl⟩
            · replace H := condF hc H
              refine WpC.skip ?_
              refine WpC.seq ?_
              refine WpC.seq ?_
              refine WpC.regionL ?_
              refine L.fieldAddr Try.underlying135 rfl info3 rfl hF rfl rfl rfl rfl rfl ?_
              refine L.loadPtr shape3 hF rfl rfl rfl rfl rfl rfl ?_
              refine L.fieldAddr Try.underlying135 rfl info3 rfl hF rfl rfl rfl rfl rfl ?_
              refine L.loadPtr shape3 hF rfl rfl rfl rfl rfl rfl ?_
              refine L.bin hF rfl rfl rfl rfl rfl rfl ?_
              refine L.nil ?_
              refine WpC.cond rfl (fun hc => ?_) (fun hc => ?_)
              · replace H := condT hc H
                refine WpC.seq ?_
                refine WpC.regionL ?_
                refine L.assign hF rfl rfl rfl ?_
                refine L.nil ?_
                refine WpC.ret ?_
                cases H
                exact Leaves.ret rfl rfl rfl ⟨rfl, rfl⟩
              · replace H := condF hc H
                refine WpC.skip ?_
                refine WpC.seq ?_
                refine WpC.seq ?_
                refine WpC.regionL ?_
                refine L.fieldAddr Try.underlying135 rfl info3 rfl hF rfl rfl rfl rfl rfl ?_
                refine L.loadPtr shape3 hF rfl rfl rfl rfl rfl rfl ?_
                refine L.fieldAddr Try.underlying135 rfl info3 rfl hF rfl rfl rfl rfl rfl ?_
                refine L.loadPtr shape3 hF rfl rfl rfl rfl rfl rfl ?_
                refine L.bin hF rfl rfl rfl rfl rfl rfl ?_
                refine L.nil ?_
                refine WpC.cond rfl (fun hc => ?_) (fun hc => ?_)
                · replace H := condT hc H
                  refine WpC.seq ?_
                  refine WpC.regionL ?_
                  refine L.assign hF rfl rfl rfl ?_
                  refine L.nil ?_
                  refine WpC.ret ?_
                  cases H
                  exact Leaves.ret rfl rfl rfl ⟨rfl, rfl⟩
                · replace H := condF hc H
                  refine WpC.skip ?_
                  refine WpC.seq ?_
                  refine WpC.seq ?_
                  refine WpC.regionL ?_
                  refine L.fieldAddr Try.underlying135 rfl info74 rfl hF rfl rfl rfl rfl rfl ?_
                  refine L.loadPtr shape74 hF rfl rfl rfl rfl rfl rfl ?_
                  refine L.fieldAddr Try.underlying135 rfl info74 rfl hF rfl rfl rfl rfl rfl ?_
                  refine L.loadPtr shape74 hF rfl rfl rfl rfl rfl rfl ?_
                  obtain ⟨r2, hr2, H⟩ := bindS H
                  refine L.call [false, false] [] [] 24 hF rfl rfl rfl ent147 rfl rfl rfl rfl rfl (Flaws_eqRest_gives k  (⟨a0.Rest.Servers, a0.Rest.Ops, a0.Rest.End⟩ : Timpl_Rest) (⟨a1.Rest.Servers, a1.Rest.Ops, a1.Rest.End⟩ : Timpl_Rest) r2 hr2) rfl ?_
                  refine L.not hF rfl rfl rfl ?_
                  refine L.nil ?_
                  refine WpC.cond rfl (fun hc => ?_) (fun hc => ?_)
                  · replace H := condT hc H
                    refine WpC.seq ?_
                    refine WpC.regionL ?_
                    refine L.assign hF rfl rfl rfl ?_
                    refine L.nil ?_
                    refine WpC.ret ?_
                    cases H
                    exact Leaves.ret rfl rfl rfl ⟨rfl, rfl⟩
                  · replace H := condF hc H
                    refine WpC.skip ?_
                    refine WpC.seq ?_
                    refine WpC.regionL ?_
                    refine L.assign hF rfl rfl rfl ?_
                    refine L.nil ?_
                    refine WpC.ret ?_
                    cases H
                    exact Leaves.ret rfl rfl rfl ⟨rfl, rfl⟩
/-! ### Flaws_eqEventS -/
def Flaws_eqEventS.l2 : Nat → (List Timpl_Event) → (List Timpl_Event) → Int → Option Bool
  | 0, _, _, _ => none
  | k2 + 1, v44, v45, v46 => cond (decide (v46 < (v44.length : Int))) ((at? v44 v46).bind fun b50 => (at? v45 v46).bind fun b51 => (Flaws_eqEvent k2 b50 b51).bind fun r52 => cond (!r52) (some false) ((Flaws_eqEventS.l2 k2) v44 v45 (IntKind.i64.wrap (v46 + (1 : Int))))) (some true)
def Flaws_eqEventS (k : Nat) (a0 : List Timpl_Event) (a1 : List Timpl_Event) : Option Bool := cond ((a0.length : Int) != (a1.length : Int)) (some false) (Flaws_eqEventS.l2 k a0 a1 (0 : Int))
theorem ent27 : Enters Try.prog 27 := ⟨Try.f27, Try.func27, rfl, by decide⟩
set_option maxHeartbeats 8000000 in
set_option maxRecDepth 100000 in
theorem Flaws_eqEventS_gives (k : Nat) (g0 : Bool) (g1 : Bool) (a0 : List Timpl_Event) (a1 : List Timpl_Event) (r : Bool) (H : Flaws_eqEventS k a0 a1 = some r) : Gives Try.prog 27 [V.one (Cell.sl g0 (List.map eTimpl_Event a0)), V.one (Cell.sl g1 (List.map eTimpl_Event a1))] [] [V.one (cL r)] [] := by
  refine Gives.intro Try.func27 rfl rfl rfl rfl ?_
  intro F hF hm
  unfold Flaws_eqEventS at H
  obtain ⟨K, hK⟩ : ∃ K, k ≤ K := ⟨k, Nat.le_refl k⟩
  refine WpC.seq ?_
  refine WpC.regionL ?_
  refine L.assign hF rfl rfl rfl ?_
  refine L.nil ?_
  refine WpC.seq ?_
  refine WpC.seq ?_
  refine WpC.regionL ?_
  refine L.move hF rfl rfl rfl ?_
  refine L.lenR (xs := a0) (e := eTimpl_Event) Try.underlying26 hF rfl rfl rfl rfl ?_
  refine L.move hF rfl rfl rfl ?_
  refine L.lenR (xs := a1) (e := eTimpl_Event) Try.underlying26 hF rfl rfl rfl rfl ?_
  refine L.bin hF rfl rfl rfl rfl rfl rfl ?_
  refine L.nil ?_
  refine WpC.cond rfl (fun hc => ?_) (fun hc => ?_)
  · replace H := condT hc H
    refine WpC.seq ?_
    refine WpC.regionL ?_
    refine L.assign hF rfl rfl rfl ?_
    refine L.nil ?_
    refine WpC.ret ?_
    cases H
    exact Leaves.ret rfl rfl rfl ⟨rfl, rfl⟩
  · replace H := condF hc H
    refine WpC.skip ?_
    refine WpC.seq ?_
    refine WpC.seq ?_
    refine WpC.regionL ?_
    refine L.assign hF rfl rfl rfl ?_
    refine L.nil ?_
    refine WpC.block ?_
    refine WpC.loopL (P := Try.prog) (fun n σ => ∃ v44 : List Timpl_Event, ∃ v45 : List Timpl_Event, ∃ v46 : Int, n ≤ K ∧ Flaws_eqEventS.l2 n v44 v45 v46 = some r ∧ σ = mkSt [(0, one (Cell.sl g0 (List.map eTimpl_Event v44))), (1, one (Cell.sl g1 (List.map eTimpl_Event v45))), (5, one (cI v46))] [] [] 0) k ⟨_, ⟨a0, a1, (0 : Int), by omega, H, rfl⟩, Le.mk [] hm rfl ⟨⟨_, rfl, rfl⟩, ⟨_, rfl, rfl⟩, ⟨_, rfl, rfl⟩, trivial⟩ trivial trivial⟩ ?_
    clear H
    rintro k2 _ ⟨v44, v45, v46, hk2, H, rfl⟩
    cases k2 with
    | zero => cases H
    | succ k2 =>
      rw [Flaws_eqEventS.l2] at H
      refine WpC.seq ?_
      refine WpC.seq ?_
      refine WpC.regionL ?_
      refine L.move hF rfl rfl rfl ?_
      refine L.move hF rfl rfl rfl ?_
      refine L.lenR (xs := v44) (e := eTimpl_Event) Try.underlying26 hF rfl rfl rfl rfl ?_
      refine L.bin hF rfl rfl rfl rfl rfl rfl ?_
      refine L.nil ?_
      refine WpC.cond rfl (fun hc => ?_) (fun hc => ?_)
      · replace H := condT hc H
        refine WpC.skip ?_
        refine WpC.seq ?_
        refine WpC.block ?_
        refine WpC.seq ?_
        obtain ⟨b50, hb50, H⟩ := bindS H
        obtain ⟨b51, hb51, H⟩ := bindS H
        obtain ⟨r52, hr52, H⟩ := bindS H
        refine A.begin mixed rfl rfl ?_
        intro W hI hO
        have n1023 : W 0 #[true, true, true, true, true, true, true, true, true, true] (mkSt [(0, one (Cell.sl g0 (List.map eTimpl_Event v44))), (1, one (Cell.sl g1 (List.map eTimpl_Event v45))), (5, one (cI v46)), (26, one (cL (!r52)))] [] [] 0) := by
          refine hI _ _ _ (A.done (by kernel_rfl) ?_)
          refine WpC.cond rfl (fun hc => ?_) (fun hc => ?_)
          · replace H := condT hc H
            refine WpC.seq ?_
            refine WpC.regionL ?_
            refine L.assign hF rfl rfl rfl ?_
            refine L.nil ?_
            refine WpC.ret ?_
            cases H
            exact Leaves.ret rfl rfl rfl ⟨rfl, rfl⟩
          · replace H := condF hc H
            refine WpC.skip ?_
            refine WpC.regionL ?_
            refine L.move hF rfl rfl rfl ?_
            refine L.bin hF rfl rfl rfl rfl rfl rfl ?_
            refine L.assign hF rfl rfl rfl ?_
            refine L.nil ?_
            exact ⟨k2, _, by omega, ⟨v44, v45, (IntKind.i64.wrap (v46 + (1 : Int))), by omega, H, rfl⟩, Le.mk [] hm rfl ⟨⟨_, rfl, rfl⟩, ⟨_, rfl, rfl⟩, ⟨_, rfl, rfl⟩, trivial⟩ trivial trivial⟩
        have n511 : W 1 #[true, true, true, true, true, true, true, true, true, false] (mkSt [(0, one (Cell.sl g0 (List.map eTimpl_Event v44))), (1, one (Cell.sl g1 (List.map eTimpl_Event v45))), (5, one (cI v46)), (25, one (cL r52))] [] [] 0) := by
          refine hI _ _ _ ?_
          refine A.take 9 rfl (by kernel_rfl) (by kernel_rfl) (by kernel_rfl) rfl (Ca.un rfl rfl) (fun Q0 k0 => L.not hF rfl rfl rfl (L.nil k0)) ?_
          exact A.on (hO _ _ _ n1023) (Le.mk [] hm rfl ⟨⟨_, rfl, rfl⟩, ⟨_, rfl, rfl⟩, ⟨_, rfl, rfl⟩, ⟨_, rfl, rfl⟩, trivial⟩ trivial trivial)
        have n255 : W 2 #[true, true, true, true, true, true, true, true, false, false] (mkSt [(0, one (Cell.sl g0 (List.map eTimpl_Event v44))), (1, one (Cell.sl g1 (List.map eTimpl_Event v45))), (5, one (cI v46)), (20, agg [cI b50.Kind, cI b50.Realm, cI b50.By, cI b50.Client, cI b50.Service, cI b50.Key, cI b50.Parent, cI b50.Evid, cI b50.Rest.Servers, cI b50.Rest.Ops, cI b50.Rest.End]), (24, agg [cI b51.Kind, cI b51.Realm, cI b51.By, cI b51.Client, cI b51.Service, cI b51.Key, cI b51.Parent, cI b51.Evid, cI b51.Rest.Servers, cI b51.Rest.Ops, cI b51.Rest.End])] [] [] 0) := by
          refine hI _ _ _ ?_
          refine A.all [8] (by kernel_rfl) rfl ⟨⟨_, rfl, ?_⟩, trivial⟩
          · refine L.call [false, false] [] [] 0 hF rfl rfl rfl ent103 rfl rfl rfl rfl rfl (Flaws_eqEvent_gives k2  b50 b51 r52 hr52) rfl ?_
            refine L.nil ?_
            exact A.on (hO _ _ _ n511) (Le.mk [] hm rfl ⟨⟨_, rfl, rfl⟩, ⟨_, rfl, rfl⟩, ⟨_, rfl, rfl⟩, ⟨_, rfl, rfl⟩, trivial⟩ trivial trivial)
        have n247 : W 3 #[true, true, true, false, true, true, true, true, false, false] (mkSt [(0, one (Cell.sl g0 (List.map eTimpl_Event v44))), (1, one (Cell.sl g1 (List.map eTimpl_Event v45))), (5, one (cI v46)), (19, one (Cell.pe g0 (eTimpl_Event b50) 0)), (24, agg [cI b51.Kind, cI b51.Realm, cI b51.By, cI b51.Client, cI b51.Service, cI b51.Key, cI b51.Parent, cI b51.Evid, cI b51.Rest.Servers, cI b51.Rest.Ops, cI b51.Rest.End])] [] [] 0) := by
          refine hI _ _ _ ?_
          refine A.all [3] (by kernel_rfl) rfl ⟨⟨_, rfl, ?_⟩, trivial⟩
          · refine L.loadPe shape135 hF rfl rfl rfl rfl rfl ?_
            refine L.nil ?_
            exact A.on (hO _ _ _ n255) (Le.mk [] hm rfl ⟨⟨_, rfl, rfl⟩, ⟨_, rfl, rfl⟩, ⟨_, rfl, rfl⟩, ⟨_, rfl, rfl⟩, ⟨_, rfl, rfl⟩, trivial⟩ trivial trivial)
        have n127 : W 3 #[true, true, true, true, true, true, true, false, false, false] (mkSt [(0, one (Cell.sl g0 (List.map eTimpl_Event v44))), (1, one (Cell.sl g1 (List.map eTimpl_Event v45))), (5, one (cI v46)), (20, agg [cI b50.Kind, cI b50.Realm, cI b50.By, cI b50.Client, cI b50.Service, cI b50.Key, cI b50.Parent, cI b50.Evid, cI b50.Rest.Servers, cI b50.Rest.Ops, cI b50.Rest.End]), (23, one (Cell.pe g1 (eTimpl_Event b51) 0))] [] [] 0) := by
          refine hI _ _ _ ?_
          refine A.all [7] (by kernel_rfl) rfl ⟨⟨_, rfl, ?_⟩, trivial⟩
          · refine L.loadPe shape135 hF rfl rfl rfl rfl rfl ?_
            refine L.nil ?_
            exact A.on (hO _ _ _ n255) (Le.mk [] hm rfl ⟨⟨_, rfl, rfl⟩, ⟨_, rfl, rfl⟩, ⟨_, rfl, rfl⟩, ⟨_, rfl, rfl⟩, ⟨_, rfl, rfl⟩, trivial⟩ trivial trivial)
        have n119 : W 4 #[true, true, true, false, true, true, true, false, false, false] (mkSt [(0, one (Cell.sl g0 (List.map eTimpl_Event v44))), (1, one (Cell.sl g1 (List.map eTimpl_Event v45))), (5, one (cI v46)), (19, one (Cell.pe g0 (eTimpl_Event b50) 0)), (23, one (Cell.pe g1 (eTimpl_Event b51) 0))] [] [] 0) := by
          refine hI _ _ _ ?_
          refine A.all [3, 7] (by kernel_rfl) rfl ⟨⟨_, rfl, ?_⟩, ⟨_, rfl, ?_⟩, trivial⟩
          · refine L.loadPe shape135 hF rfl rfl rfl rfl rfl ?_
            refine L.nil ?_
            exact A.on (hO _ _ _ n127) (Le.mk [] hm rfl ⟨⟨_, rfl, rfl⟩, ⟨_, rfl, rfl⟩, ⟨_, rfl, rfl⟩, ⟨_, rfl, rfl⟩, ⟨_, rfl, rfl⟩, trivial⟩ trivial trivial)
          · refine L.loadPe shape135 hF rfl rfl rfl rfl rfl ?_
            refine L.nil ?_
            exact A.on (hO _ _ _ n247) (Le.mk [] hm rfl ⟨⟨_, rfl, rfl⟩, ⟨_, rfl, rfl⟩, ⟨_, rfl, rfl⟩, ⟨_, rfl, rfl⟩, ⟨_, rfl, rfl⟩, trivial⟩ trivial trivial)
        have n55 : W 5 #[true, true, true, false, true, true, false, false, false, false] (mkSt [(0, one (Cell.sl g0 (List.map eTimpl_Event v44))), (1, one (Cell.sl g1 (List.map eTimpl_Event v45))), (5, one (cI v46)), (19, one (Cell.pe g0 (eTimpl_Event b50) 0)), (21, one (Cell.sl g1 (List.map eTimpl_Event v45))), (22, one (cI v46))] [] [] 0) := by
          refine hI _ _ _ ?_
          refine A.take 6 rfl (by kernel_rfl) (by kernel_rfl) (by kernel_rfl) rfl (Ca.indexAddr) (fun Q0 k0 => L.idxR (xs := v45) (e := eTimpl_Event) Try.underlying26 info135 hF rfl rfl rfl rfl rfl hb51 rfl rfl (L.nil k0)) ?_
          exact A.on (hO _ _ _ n119) (Le.mk [] hm rfl ⟨⟨_, rfl, rfl⟩, ⟨_, rfl, rfl⟩, ⟨_, rfl, rfl⟩, ⟨_, rfl, rfl⟩, ⟨_, rfl, rfl⟩, trivial⟩ trivial trivial)
        have n23 : W 6 #[true, true, true, false, true, false, false, false, false, false] (mkSt [(0, one (Cell.sl g0 (List.map eTimpl_Event v44))), (1, one (Cell.sl g1 (List.map eTimpl_Event v45))), (5, one (cI v46)), (19, one (Cell.pe g0 (eTimpl_Event b50) 0)), (21, one (Cell.sl g1 (List.map eTimpl_Event v45)))] [] [] 0) := by
          refine hI _ _ _ ?_
          refine A.take 5 rfl (by kernel_rfl) (by kernel_rfl) (by kernel_rfl) rfl (Ca.move) (fun Q0 k0 => L.move hF rfl rfl rfl (L.nil k0)) ?_
          exact A.on (hO _ _ _ n55) (Le.mk [] hm rfl ⟨⟨_, rfl, rfl⟩, ⟨_, rfl, rfl⟩, ⟨_, rfl, rfl⟩, ⟨_, rfl, rfl⟩, ⟨_, rfl, rfl⟩, ⟨_, rfl, rfl⟩, trivial⟩ trivial trivial)
        have n7 : W 7 #[true, true, true, false, false, false, false, false, false, false] (mkSt [(0, one (Cell.sl g0 (List.map eTimpl_Event v44))), (1, one (Cell.sl g1 (List.map eTimpl_Event v45))), (5, one (cI v46)), (19, one (Cell.pe g0 (eTimpl_Event b50) 0))] [] [] 0) := by
          refine hI _ _ _ ?_
          refine A.take 4 rfl (by kernel_rfl) (by kernel_rfl) (by kernel_rfl) rfl (Ca.move) (fun Q0 k0 => L.move hF rfl rfl rfl (L.nil k0)) ?_
          exact A.on (hO _ _ _ n23) (Le.mk [] hm rfl ⟨⟨_, rfl, rfl⟩, ⟨_, rfl, rfl⟩, ⟨_, rfl, rfl⟩, ⟨_, rfl, rfl⟩, ⟨_, rfl, rfl⟩, trivial⟩ trivial trivial)
        have n3 : W 8 #[true, true, false, false, false, false, false, false, false, false] (mkSt [(0, one (Cell.sl g0 (List.map eTimpl_Event v44))), (1, one (Cell.sl g1 (List.map eTimpl_Event v45))), (5, one (cI v46)), (17, one (Cell.sl g0 (List.map eTimpl_Event v44))), (18, one (cI v46))] [] [] 0) := by
          refine hI _ _ _ ?_
          refine A.take 2 rfl (by kernel_rfl) (by kernel_rfl) (by kernel_rfl) rfl (Ca.indexAddr) (fun Q0 k0 => L.idxR (xs := v44) (e := eTimpl_Event) Try.underlying26 info135 hF rfl rfl rfl rfl rfl hb50 rfl rfl (L.nil k0)) ?_
          exact A.on (hO _ _ _ n7) (Le.mk [] hm rfl ⟨⟨_, rfl, rfl⟩, ⟨_, rfl, rfl⟩, ⟨_, rfl, rfl⟩, ⟨_, rfl, rfl⟩, trivial⟩ trivial trivial)
        have n1 : W 9 #[true, false, false, false, false, false, false, false, false, false] (mkSt [(0, one (Cell.sl g0 (List.map eTimpl_Event v44))), (1, one (Cell.sl g1 (List.map eTimpl_Event v45))), (5, one (cI v46)), (17, one (Cell.sl g0 (List.map eTimpl_Event v44)))] [] [] 0) := by
          refine hI _ _ _ ?_
          refine A.take 1 rfl (by kernel_rfl) (by kernel_rfl) (by kernel_rfl) rfl (Ca.move) (fun Q0 k0 => L.move hF rfl rfl rfl (L.nil k0)) ?_
          exact A.on (hO _ _ _ n3) (Le.mk [] hm rfl ⟨⟨_, rfl, rfl⟩, ⟨_, rfl, rfl⟩, ⟨_, rfl, rfl⟩, ⟨_, rfl, rfl⟩, ⟨_, rfl, rfl⟩, trivial⟩ trivial trivial)
        have n0 : W 10 #[false, false, false, false, false, false, false, false, false, false] (mkSt [(0, one (Cell.sl g0 (List.map eTimpl_Event v44))), (1, one (Cell.sl g1 (List.map eTimpl_Event v45))), (5, one (cI v46))] [] [] 0) := by
          refine hI _ _ _ ?_
          refine A.take 0 rfl (by kernel_rfl) (by kernel_rfl) (by kernel_rfl) rfl (Ca.move) (fun Q0 k0 => L.move hF rfl rfl rfl (L.nil k0)) ?_
          exact A.on (hO _ _ _ n1) (Le.mk [] hm rfl ⟨⟨_, rfl, rfl⟩, ⟨_, rfl, rfl⟩, ⟨_, rfl, rfl⟩, ⟨_, rfl, rfl⟩, trivial⟩ trivial trivial)
        exact hI _ _ _ (A.on (hO _ _ _ n0) (Le.mk [] hm rfl ⟨⟨_, rfl, rfl⟩, ⟨_, rfl, rfl⟩, ⟨_, rfl, rfl⟩, trivial⟩ trivial trivial))
      · replace H := condF hc H
        refine WpC.exit ?_
        refine WpC.seq ?_
        refine WpC.regionL ?_
        refine L.assign hF rfl rfl rfl ?_
        refine L.nil ?_
        refine WpC.ret ?_
        cases H
        exact Leaves.ret rfl rfl rfl ⟨rfl, rfl⟩
/-! ### Flaws_markEventS -/
def Flaws_markEventS.l2 : Nat → (List Timpl_Event) → Int → Int → Option (Int × List Timpl_Event)
  | 0, _, _, _ => none
  | k2 + 1, v124, v125, v126 => cond (decide (v126 < (v124.length : Int))) ((at? v124 v126).bind fun b138 => (at? (v124.set v126.toNat (⟨v125, b138.Realm, b138.By, b138.Client, b138.Service, b138.Key, b138.Parent, b138.Evid, (⟨b138.Rest.Servers, b138.Rest.Ops, b138.Rest.End⟩ : Timpl_Rest)⟩ : Timpl_Event)) v126).bind fun b139 => (at? ((v124.set v126.toNat (⟨v125, b138.Realm, b138.By, b138.Client, b138.Service, b138.Key, b138.Parent, b138.Evid, (⟨b138.Rest.Servers, b138.Rest.Ops, b138.Rest.End⟩ : Timpl_Rest)⟩ : Timpl_Event)).set v126.toNat (⟨b139.Kind, (IntKind.i64.wrap (v125 + (1 : Int))), b139.By, b139.Client, b139.Service, b139.Key, b139.Parent, b139.Evid, (⟨b139.Rest.Servers, b139.Rest.Ops, b139.Rest.End⟩ : Timpl_Rest)⟩ : Timpl_Event)) v126).bind fun b140 => (at? (((v124.set v126.toNat (⟨v125, b138.Realm, b138.By, b138.Client, b138.Service, b138.Key, b138.Parent, b138.Evid, (⟨b138.Rest.Servers, b138.Rest.Ops, b138.Rest.End⟩ : Timpl_Rest)⟩ : Timpl_Event)).set v126.toNat (⟨b139.Kind, (IntKind.i64.wrap (v125 + (1 : Int))), b139.By, b139.Client, b139.Service, b139.Key, b139.Parent, b139.Evid, (⟨b139.Rest.Servers, b139.Rest.Ops, b139.Rest.End⟩ : Timpl_Rest)⟩ : Timpl_Event)).set v126.toNat (⟨b140.Kind, b140.Realm, (IntKind.i64.wrap ((IntKind.i64.wrap (v125 + (1 : Int))) + (1 : Int))), b140.Client, b140.Service, b140.Key, b140.Parent, b140.Evid, (⟨b140.Rest.Servers, b140.Rest.Ops, b140.Rest.End⟩ : Timpl_Rest)⟩ : Timpl_Event)) v126).bind fun b141 => (at? ((((v124.set v126.toNat (⟨v125, b138.Realm, b138.By, b138.Client, b138.Service, b138.Key, b138.Parent, b138.Evid, (⟨b138.Rest.Servers, b138.Rest.Ops, b138.Rest.End⟩ : Timpl_Rest)⟩ : Timpl_Event)).set v126.toNat (⟨b139.Kind, (IntKind.i64.wrap (v125 + (1 : Int))), b139.By, b139.Client, b139.Service, b139.Key, b139.Parent, b139.Evid, (⟨b139.Rest.Servers, b139.Rest.Ops, b139.Rest.End⟩ : Timpl_Rest)⟩ : Timpl_Event)).set v126.toNat (⟨b140.Kind, b140.Realm, (IntKind.i64.wrap ((IntKind.i64.wrap (v125 + (1 : Int))) + (1 : Int))), b140.Client, b140.Service, b140.Key, b140.Parent, b140.Evid, (⟨b140.Rest.Servers, b140.Rest.Ops, b140.Rest.End⟩ : Timpl_Rest)⟩ : Timpl_Event)).set v126.toNat (⟨b141.Kind, b141.Realm, b141.By, (IntKind.i64.wrap ((IntKind.i64.wrap ((IntKind.i64.wrap (v125 + (1 : Int))) + (1 : Int))) + (1 : Int))), b141.Service, b141.Key, b141.Parent, b141.Evid, (⟨b141.Rest.Servers, b141.Rest.Ops, b141.Rest.End⟩ : Timpl_Rest)⟩ : Timpl_Event)) v126).bind fun b142 => (at? (((((v124.set v126.toNat (⟨v125, b138.Realm, b138.By, b138.Client, b138.Service, b138.Key, b138.Parent, b138.Evid, (⟨b138.Rest.Servers, b138.Rest.Ops, b138.Rest.End⟩ : Timpl_Rest)⟩ : Timpl_Event)).set v126.toNat (⟨b139.Kind, (IntKind.i64.wrap (v125 + (1 : Int))), b139.By, b139.Client, b139.Service, b139.Key, b139.Parent, b139.Evid, (⟨b139.Rest.Servers, b139.Rest.Ops, b139.Rest.End⟩ : Timpl_Rest)⟩ : Timpl_Event)).set v126.toNat (⟨b140.Kind, b140.Realm, (IntKind.i64.wrap ((IntKind.i64.wrap (v125 + (1 : Int))) + (1 : Int))), b140.Client, b140.Service, b140.Key, b140.Parent, b140.Evid, (⟨b140.Rest.Servers, b140.Rest.Ops, b140.Rest.End⟩ : Timpl_Rest)⟩ : Timpl_Event)).set v126.toNat (⟨b141.Kind, b141.Realm, b141.By, (IntKind.i64.wrap ((IntKind.i64.wrap ((IntKind.i64.wrap (v125 + (1 : Int))) + (1 : Int))) + (1 : Int))), b141.Service, b141.Key, b141.Parent, b141.Evid, (⟨b141.Rest.Servers, b141.Rest.Ops, b141.Rest.End⟩ : Timpl_Rest)⟩ : Timpl_Event)).set v126.toNat (⟨b142.Kind, b142.Realm, b142.By, b142.Client, (IntKind.i64.wrap ((IntKind.i64.wrap ((IntKind.i64.wrap ((IntKind.i64.wrap (v125 + (1 : Int))) + (1 : Int))) + (1 : Int))) + (1 : Int))), b142.Key, b142.Parent, b142.Evid, (⟨b142.Rest.Servers, b142.Rest.Ops, b142.Rest.End⟩ : Timpl_Rest)⟩ : Timpl_Event)) v126).bind fun b143 => (at? ((((((v124.set v126.toNat (⟨v125, b138.Realm, b138.By, b138.Client, b138.Service, b138.Key, b138.Parent, b138.Evid, (⟨b138.Rest.Servers, b138.Rest.Ops, b138.Rest.End⟩ : Timpl_Rest)⟩ : Timpl_Event)).set v126.toNat (⟨b139.Kind, (IntKind.i64.wrap (v125 + (1 : Int))), b139.By, b139.Client, b139.Service, b139.Key, b139.Parent, b139.Evid, (⟨b139.Rest.Servers, b139.Rest.Ops, b139.Rest.End⟩ : Timpl_Rest)⟩ : Timpl_Event)).set v126.toNat (⟨b140.Kind, b140.Realm, (IntKind.i64.wrap ((IntKind.i64.wrap (v125 + (1 : Int))) + (1 : Int))), b140.Client, b140.Service, b140.Key, b140.Parent, b140.Evid, (⟨b140.Rest.Servers, b140.Rest.Ops, b140.Rest.End⟩ : Timpl_Rest)⟩ : Timpl_Event)).set v126.toNat (⟨b141.Kind, b141.Realm, b141.By, (IntKind.i64.wrap ((IntKind.i64.wrap ((IntKind.i64.wrap (v125 + (1 : Int))) + (1 : Int))) + (1 : Int))), b141.Service, b141.Key, b141.Parent, b141.Evid, (⟨b141.Rest.Servers, b141.Rest.Ops, b141.Rest.End⟩ : Timpl_Rest)⟩ : Timpl_Event)).set v126.toNat (⟨b142.Kind, b142.Realm, b142.By, b142.Client, (IntKind.i64.wrap ((IntKind.i64.wrap ((IntKind.i64.wrap ((IntKind.i64.wrap (v125 + (1 : Int))) + (1 : Int))) + (1 : Int))) + (1 : Int))), b142.Key, b142.Parent, b142.Evid, (⟨b142.Rest.Servers, b142.Rest.Ops, b142.Rest.End⟩ : Timpl_Rest)⟩ : Timpl_Event)).set v126.toNat (⟨b143.Kind, b143.Realm, b143.By, b143.Client, b143.Service, (IntKind.i64.wrap ((IntKind.i64.wrap ((IntKind.i64.wrap ((IntKind.i64.wrap ((IntKind.i64.wrap (v125 + (1 : Int))) + (1 : Int))) + (1 : Int))) + (1 : Int))) + (1 : Int))), b143.Parent, b143.Evid, (⟨b143.Rest.Servers, b143.Rest.Ops, b143.Rest.End⟩ : Timpl_Rest)⟩ : Timpl_Event)) v126).bind fun b144 => (at? (((((((v124.set v126.toNat (⟨v125, b138.Realm, b138.By, b138.Client, b138.Service, b138.Key, b138.Parent, b138.Evid, (⟨b138.Rest.Servers, b138.Rest.Ops, b138.Rest.End⟩ : Timpl_Rest)⟩ : Timpl_Event)).set v126.toNat (⟨b139.Kind, (IntKind.i64.wrap (v125 + (1 : Int))), b139.By, b139.Client, b139.Service, b139.Key, b139.Parent, b139.Evid, (⟨b139.Rest.Servers, b139.Rest.Ops, b139.Rest.End⟩ : Timpl_Rest)⟩ : Timpl_Event)).set v126.toNat (⟨b140.Kind, b140.Realm, (IntKind.i64.wrap ((IntKind.i64.wrap (v125 + (1 : Int))) + (1 : Int))), b140.Client, b140.Service, b140.Key, b140.Parent, b140.Evid, (⟨b140.Rest.Servers, b140.Rest.Ops, b140.Rest.End⟩ : Timpl_Rest)⟩ : Timpl_Event)).set v126.toNat (⟨b141.Kind, b141.Realm, b141.By, (IntKind.i64.wrap ((IntKind.i64.wrap ((IntKind.i64.wrap (v125 + (1 : Int))) + (1 : Int))) + (1 : Int))), b141.Service, b141.Key, b141.Parent, b141.Evid, (⟨b141.Rest.Servers, b141.Rest.Ops, b141.Rest.End⟩ : Timpl_Rest)⟩ : Timpl_Event)).set v126.toNat (⟨b142.Kind, b142.Realm, b142.By, b142.Client, (IntKind.i64.wrap ((IntKind.i64.wrap ((IntKind.i64.wrap ((IntKind.i64.wrap (v125 + (1 : Int))) + (1 : Int))) + (1 : Int))) + (1 : Int))), b142.Key, b142.Parent, b142.Evid, (⟨b142.Rest.Servers, b142.Rest.Ops, b142.Rest.End⟩ : Timpl_Rest)⟩ : Timpl_Event)).set v126.toNat (⟨b143.Kind, b143.Realm, b143.By, b143.Client, b143.Service, (IntKind.i64.wrap ((IntKind.i64.wrap ((IntKind.i64.wrap ((IntKind.i64.wrap ((IntKind.i64.wrap (v125 + (1 : Int))) + (1 : Int))) + (1 : Int))) + (1 : Int))) + (1 : Int))), b143.Parent, b143.Evid, (⟨b143.Rest.Servers, b143.Rest.Ops, b143.Rest.End⟩ : Timpl_Rest)⟩ : Timpl_Event)).set v126.toNat (⟨b144.Kind, b144.Realm, b144.By, b144.Client, b144.Service, b144.Key, (IntKind.i64.wrap ((IntKind.i64.wrap ((IntKind.i64.wrap ((IntKind.i64.wrap ((IntKind.i64.wrap ((IntKind.i64.wrap (v125 + (1 : Int))) + (1 : Int))) + (1 : Int))) + (1 : Int))) + (1 : Int))) + (1 : Int))), b144.Evid, (⟨b144.Rest.Servers, b144.Rest.Ops, b144.Rest.End⟩ : Timpl_Rest)⟩ : Timpl_Event)) v126).bind fun b145 => (at? ((((((((v124.set v126.toNat (⟨v125, b138.Realm, b138.By, b138.Client, b138.Service, b138.Key, b138.Parent, b138.Evid, (⟨b138.Rest.Servers, b138.Rest.Ops, b138.Rest.End⟩ : Timpl_Rest)⟩ : Timpl_Event)).set v126.toNat (⟨b139.Kind, (IntKind.i64.wrap (v125 + (1 : Int))), b139.By, b139.Client, b139.Service, b139.Key, b139.Parent, b139.Evid, (⟨b139.Rest.Servers, b139.Rest.Ops, b139.Rest.End⟩ : Timpl_Rest)⟩ : Timpl_Event)).set v126.toNat (⟨b140.Kind, b140.Realm, (IntKind.i64.wrap ((IntKind.i64.wrap (v125 + (1 : Int))) + (1 : Int))), b140.Client, b140.Service, b140.Key, b140.Parent, b140.Evid, (⟨b140.Rest.Servers, b140.Rest.Ops, b140.Rest.End⟩ : Timpl_Rest)⟩ : Timpl_Event)).set v126.toNat (⟨b141.Kind, b141.Realm, b141.By, (IntKind.i64.wrap ((IntKind.i64.wrap ((IntKind.i64.wrap (v125 + (1 : Int))) + (1 : Int))) + (1 : Int))), b141.Service, b141.Key, b141.Parent, b141.Evid, (⟨b141.Rest.Servers, b141.Rest.Ops, b141.Rest.End⟩ : Timpl_Rest)⟩ : Timpl_Event)).set v126.toNat (⟨b142.Kind, b142.Realm, b142.By, b142.Client, (IntKind.i64.wrap ((IntKind.i64.wrap ((IntKind.i64.wrap ((IntKind.i64.wrap (v125 + (1 : Int))) + (1 : Int))) + (1 : Int))) + (1 : Int))), b142.Key, b142.Parent, b142.Evid, (⟨b142.Rest.Servers, b142.Rest.Ops, b142.Rest.End⟩ : Timpl_Rest)⟩ : Timpl_Event)).set v126.toNat (⟨b143.Kind, b143.Realm, b143.By, b143.Client, b143.Service, (IntKind.i64.wrap ((IntKind.i64.wrap ((IntKind.i64.wrap ((IntKind.i64.wrap ((IntKind.i64.wrap (v125 + (1 : Int))) + (1 : Int))) + (1 : Int))) + (1 : Int))) + (1 : Int))), b143.Parent, b143.Evid, (⟨b143.Rest.Servers, b143.Rest.Ops, b143.Rest.End⟩ : Timpl_Rest)⟩ : Timpl_Event)).set v126.toNat (⟨b144.Kind, b144.Realm, b144.By, b144.Client, b144.Service, b144.Key, (IntKind.i64.wrap ((IntKind.i64.wrap ((IntKind.i64.wrap ((IntKind.i64.wrap ((IntKind.i64.wrap ((IntKind.i64.wrap (v125 + (1 : Int))) + (1 : Int))) + (1 : Int))) + (1 : Int))) + (1 : Int))) + (1 : Int))), b144.Evid, (⟨b144.Rest.Servers, b144.Rest.Ops, b144.Rest.End⟩ : Timpl_Rest)⟩ : Timpl_Event)).set v126.toNat (⟨b145.Kind, b145.Realm, b145.By, b145.Client, b145.Service, b145.Key, b145.Parent, (IntKind.i64.wrap ((IntKind.i64.wrap ((IntKind.i64.wrap ((IntKind.i64.wrap ((IntKind.i64.wrap ((IntKind.i64.wrap ((IntKind.i64.wrap (v125 + (1 : Int))) + (1 : Int))) + (1 : Int))) + (1 : Int))) + (1 : Int))) + (1 : Int))) + (1 : Int))), (⟨b145.Rest.Servers, b145.Rest.Ops, b145.Rest.End⟩ : Timpl_Rest)⟩ : Timpl_Event)) v126).bind fun b146 => (at? (((((((((v124.set v126.toNat (⟨v125, b138.Realm, b138.By, b138.Client, b138.Service, b138.Key, b138.Parent, b138.Evid, (⟨b138.Rest.Servers, b138.Rest.Ops, b138.Rest.End⟩ : Timpl_Rest)⟩ : Timpl_Event)).set v126.toNat (⟨b139.Kind, (IntKind.i64.wrap (v125 + (1 : Int))), b139.By, b139.Client, b139.Service, b139.Key, b139.Parent, b139.Evid, (⟨b139.Rest.Servers, b139.Rest.Ops, b139.Rest.End⟩ : Timpl_Rest)⟩ : Timpl_Event)).set v126.toNat (⟨b140.Kind, b140.Realm, (IntKind.i64.wrap ((IntKind.i64.wrap (v125 + (1 : Int))) + (1 : Int))), b140.Client, b140.Service, b140.Key, b140.Parent, b140.Evid, (⟨b140.Rest.Servers, b140.Rest.Ops, b140.Rest.End⟩ : Timpl_Rest)⟩ : Timpl_Event)).set v126.toNat (⟨b141.Kind, b141.Realm, b141.By, (IntKind.i64.wrap ((IntKind.i64.wrap ((IntKind.i64.wrap (v125 + (1 : Int))) + (1 : Int))) + (1 : Int))), b141.Service, b141.Key, b141.Parent, b141.Evid, (⟨b141.Rest.Servers, b141.Rest.Ops, b141.Rest.End⟩ : Timpl_Rest)⟩ : Timpl_Event)).set v126.toNat (⟨b142.Kind, b142.Realm, b142.By, b142.Client, (IntKind.i64.wrap ((IntKind.i64.wrap ((IntKind.i64.wrap ((IntKind.i64.wrap (v125 + (1 : Int))) + (1 : Int))) + (1 : Int))) + (1 : Int))), b142.Key, b142.Parent, b142.Evid, (⟨b142.Rest.Servers, b142.Rest.Ops, b142.Rest.End⟩ : Timpl_Rest)⟩ : Timpl_Event)).set v126.toNat (⟨b143.Kind, b143.Realm, b143.By, b143.Client, b143.Service, (IntKind.i64.wrap ((IntKind.i64.wrap ((IntKind.i64.wrap ((IntKind.i64.wrap ((IntKind.i64.wrap (v125 + (1 : Int))) + (1 : Int))) + (1 : Int))) + (1 : Int))) + (1 : Int))), b143.Parent, b143.Evid, (⟨b143.Rest.Servers, b143.Rest.Ops, b143.Rest.End⟩ : Timpl_Rest)⟩ : Timpl_Event)).set v126.toNat (⟨b144.Kind, b144.Realm, b144.By, b144.Client, b144.Service, b144.Key, (IntKind.i64.wrap ((IntKind.i64.wrap ((IntKind.i64.wrap ((IntKind.i64.wrap ((IntKind.i64.wrap ((IntKind.i64.wrap (v125 + (1 : Int))) + (1 : Int))) + (1 : Int))) + (1 : Int))) + (1 : Int))) + (1 : Int))), b144.Evid, (⟨b144.Rest.Servers, b144.Rest.Ops, b144.Rest.End⟩ : Timpl_Rest)⟩ : Timpl_Event)).set v126.toNat (⟨b145.Kind, b145.Realm, b145.By, b145.Client, b145.Service, b145.Key, b145.Parent, (IntKind.i64.wrap ((IntKind.i64.wrap ((IntKind.i64.wrap ((IntKind.i64.wrap ((IntKind.i64.wrap ((IntKind.i64.wrap ((IntKind.i64.wrap (v125 + (1 : Int))) + (1 : Int))) + (1 : Int))) + (1 : Int))) + (1 : Int))) + (1 : Int))) + (1 : Int))), (⟨b145.Rest.Servers, b145.Rest.Ops, b145.Rest.End⟩ : Timpl_Rest)⟩ : Timpl_Event)).set v126.toNat (⟨b146.Kind, b146.Realm, b146.By, b146.Client, b146.Service, b146.Key, b146.Parent, b146.Evid, (⟨(IntKind.i64.wrap ((IntKind.i64.wrap ((IntKind.i64.wrap ((IntKind.i64.wrap ((IntKind.i64.wrap ((IntKind.i64.wrap ((IntKind.i64.wrap ((IntKind.i64.wrap (v125 + (1 : Int))) + (1 : Int))) + (1 : Int))) + (1 : Int))) + (1 : Int))) + (1 : Int))) + (1 : Int))) + (1 : Int))), b146.Rest.Ops, b146.Rest.End⟩ : Timpl_Rest)⟩ : Timpl_Event)) v126).bind fun b147 => (at? ((((((((((v124.set v126.toNat (⟨v125, b138.Realm, b138.By, b138.Client, b138.Service, b138.Key, b138.Parent, b138.Evid, (⟨b138.Rest.Servers, b138.Rest.Ops, b138.Rest.End⟩ : Timpl_Rest)⟩ : Timpl_Event)).set v126.toNat (⟨b139.Kind, (IntKind.i64.wrap (v125 + (1 : Int))), b139.By, b139.Client, b139.Service, b139.Key, b139.Parent, b139.Evid, (⟨b139.Rest.Servers, b139.Rest.Ops, b139.Rest.End⟩ : Timpl_Rest)⟩ : Timpl_Event)).set v126.toNat (⟨b140.Kind, b140.Realm, (IntKind.i64.wrap ((IntKind.i64.wrap (v125 + (1 : Int))) + (1 : Int))), b140.Client, b140.Service, b140.Key, b140.Parent, b140.Evid, (⟨b140.Rest.Servers, b140.Rest.Ops, b140.Rest.End⟩ : Timpl_Rest)⟩ : Timpl_Event)).set v126.toNat (⟨b141.Kind, b141.Realm, b141.By, (IntKind.i64.wrap ((IntKind.i64.wrap ((IntKind.i64.wrap (v125 + (1 : Int))) + (1 : Int))) + (1 : Int))), b141.Service, b141.Key, b141.Parent, b141.Evid, (⟨b141.Rest.Servers, b141.Rest.Ops, b141.Rest.End⟩ : Timpl_Rest)⟩ : Timpl_Event)).set v126.toNat (⟨b142.Kind, b142.Realm, b142.By, b142.Client, (IntKind.i64.wrap ((IntKind.i64.wrap ((IntKind.i64.wrap ((IntKind.i64.wrap (v125 + (1 : Int))) + (1 : Int))) + (1 : Int))) + (1 : Int))), b142.Key, b142.Parent, b142.Evid, (⟨b142.Rest.Servers, b142.Rest.Ops, b142.Rest.End⟩ : Timpl_Rest)⟩ : Timpl_Event)).set v126.toNat (⟨b143.Kind, b143.Realm, b143.By, b143.Client, b143.Service, (IntKind.i64.wrap ((IntKind.i64.wrap ((IntKind.i64.wrap ((IntKind.i64.wrap ((IntKind.i64.wrap (v125 + (1 : Int))) + (1 : Int))) + (1 : Int))) + (1 : Int))) + (1 : Int))), b143.Parent, b143.Evid, (⟨b143.Rest.Servers, b143.Rest.Ops, b143.Rest.End⟩ : Timpl_Rest)⟩ : Timpl_Event)).set v126.toNat (⟨b144.Kind, b144.Realm, b144.By, b144.Client, b144.Service, b144.Key, (IntKind.i64.wrap ((IntKind.i64.wrap ((IntKind.i64.wrap ((IntKind.i64.wrap ((IntKind.i64.wrap ((IntKind.i64.wrap (v125 + (1 : Int))) + (1 : Int))) + (1 : Int))) + (1 : Int))) + (1 : Int))) + (1 : Int))), b144.Evid, (⟨b144.Rest.Servers, b144.Rest.Ops, b144.Rest.End⟩ : Timpl_Rest)⟩ : Timpl_Event)).set v126.toNat (⟨b145.Kind, b145.Realm, b145.By, b145.Client, b145.Service, b145.Key, b145.Parent, (IntKind.i64.wrap ((IntKind.i64.wrap ((IntKind.i64.wrap ((IntKind.i64.wrap ((IntKind.i64.wrap ((IntKind.i64.wrap ((IntKind.i64.wrap (v125 + (1 : Int))) + (1 : Int))) + (1 : Int))) + (1 : Int))) + (1 : Int))) + (1 : Int))) + (1 : Int))), (⟨b145.Rest.Servers, b145.Rest.Ops, b145.Rest.End⟩ : Timpl_Rest)⟩ : Timpl_Event)).set v126.toNat (⟨b146.Kind, b146.Realm, b146.By, b146.Client, b146.Service, b146.Key, b146.Parent, b146.Evid, (⟨(IntKind.i64.wrap ((IntKind.i64.wrap ((IntKind.i64.wrap ((IntKind.i64.wrap ((IntKind.i64.wrap ((IntKind.i64.wrap ((IntKind.i64.wrap ((IntKind.i64.wrap (v125 + (1 : Int))) + (1 : Int))) + (1 : Int))) + (1 : Int))) + (1 : Int))) + (1 : Int))) + (1 : Int))) + (1 : Int))), b146.Rest.Ops, b146.Rest.End⟩ : Timpl_Rest)⟩ : Timpl_Event)).set v126.toNat (⟨b147.Kind, b147.Realm, b147.By, b147.Client, b147.Service, b147.Key, b147.Parent, b147.Evid, (⟨b147.Rest.Servers, (IntKind.i64.wrap ((IntKind.i64.wrap ((IntKind.i64.wrap ((IntKind.i64.wrap ((IntKind.i64.wrap ((IntKind.i64.wrap ((IntKind.i64.wrap ((IntKind.i64.wrap ((IntKind.i64.wrap (v125 + (1 : Int))) + (1 : Int))) + (1 : Int))) + (1 : Int))) + (1 : Int))) + (1 : Int))) + (1 : Int))) + (1 : Int))) + (1 : Int))), b147.Rest.End⟩ : Timpl_Rest)⟩ : Timpl_Event)) v126).bind fun b148 => (Flaws_markEventS.l2 k2) (((((((((((v124.set v126.toNat (⟨v125, b138.Realm, b138.By, b138.Client, b138.Service, b138.Key, b138.Parent, b138.Evid, (⟨b138.Rest.Servers, b138.Rest.Ops, b138.Rest.End⟩ : Timpl_Rest)⟩ : Timpl_Event)).set v126.toNat (⟨b139.Kind, (IntKind.i64.wrap (v125 + (1 : Int))), b139.By, b139.Client, b139.Service, b139.Key, b139.Parent, b139.Evid, (⟨b139.Rest.Servers, b139.Rest.Ops, b139.Rest.End⟩ : Timpl_Rest)⟩ : Timpl_Event)).set v126.toNat (⟨b140.Kind, b140.Realm, (IntKind.i64.wrap ((IntKind.i64.wrap (v125 + (1 : Int))) + (1 : Int))), b140.Client, b140.Service, b140.Key, b140.Parent, b140.Evid, (⟨b140.Rest.Servers, b140.Rest.Ops, b140.Rest.End⟩ : Timpl_Rest)⟩ : Timpl_Event)).set v126.toNat (⟨b141.Kind, b141.Realm, b141.By, (IntKind.i64.wrap ((IntKind.i64.wrap ((IntKind.i64.wrap (v125 + (1 : Int))) + (1 : Int))) + (1 : Int))), b141.Service, b141.Key, b141.Parent, b141.Evid, (⟨b141.Rest.Servers, b141.Rest.Ops, b141.Rest.End⟩ : Timpl_Rest)⟩ : Timpl_Event)).set v126.toNat (⟨b142.Kind, b142.Realm, b142.By, b142.Client, (IntKind.i64.wrap ((IntKind.i64.wrap ((IntKind.i64.wrap ((IntKind.i64.wrap (v125 + (1 : Int))) + (1 : Int))) + (1 : Int))) + (1 : Int))), b142.Key, b142.Parent, b142.Evid, (⟨b142.Rest.Servers, b142.Rest.Ops, b142.Rest.End⟩ : Timpl_Rest)⟩ : Timpl_Event)).set v126.toNat (⟨b143.Kind, b143.Realm, b143.By, b143.Client, b143.Service, (IntKind.i64.wrap ((IntKind.i64.wrap ((IntKind.i64.wrap ((IntKind.i64.wrap ((IntKind.i64.wrap (v125 + (1 : Int))) + (1 : Int))) + (1 : Int))) + (1 : Int))) + (1 : Int))), b143.Parent, b143.Evid, (⟨b143.Rest.Servers, b143.Rest.Ops, b143.Rest.End⟩ : Timpl_Rest)⟩ : Timpl_Event)).set v126.toNat (⟨b144.Kind, b144.Realm, b144.By, b144.Client, b144.Service, b144.Key, (IntKind.i64.wrap ((IntKind.i64.wrap ((IntKind.i64.wrap ((IntKind.i64.wrap ((IntKind.i64.wrap ((IntKind.i64.wrap (v125 + (1 : Int))) + (1 : Int))) + (1 : Int))) + (1 : Int))) + (1 : Int))) + (1 : Int))), b144.Evid, (⟨b144.Rest.Servers, b144.Rest.Ops, b144.Rest.End⟩ : Timpl_Rest)⟩ : Timpl_Event)).set v126.toNat (⟨b145.Kind, b145.Realm, b145.By, b145.Client, b145.Service, b145.Key, b145.Parent, (IntKind.i64.wrap ((IntKind.i64.wrap ((IntKind.i64.wrap ((IntKind.i64.wrap ((IntKind.i64.wrap ((IntKind.i64.wrap ((IntKind.i64.wrap (v125 + (1 : Int))) + (1 : Int))) + (1 : Int))) + (1 : Int))) + (1 : Int))) + (1 : Int))) + (1 : Int))), (⟨b145.Rest.Servers, b145.Rest.Ops, b145.Rest.End⟩ : Timpl_Rest)⟩ : Timpl_Event)).set v126.toNat (⟨b146.Kind, b146.Realm, b146.By, b146.Client, b146.Service, b146.Key, b146.Parent, b146.Evid, (⟨(IntKind.i64.wrap ((IntKind.i64.wrap ((IntKind.i64.wrap ((IntKind.i64.wrap ((IntKind.i64.wrap ((IntKind.i64.wrap ((IntKind.i64.wrap ((IntKind.i64.wrap (v125 + (1 : Int))) + (1 : Int))) + (1 : Int))) + (1 : Int))) + (1 : Int))) + (1 : Int))) + (1 : Int))) + (1 : Int))), b146.Rest.Ops, b146.Rest.End⟩ : Timpl_Rest)⟩ : Timpl_Event)).set v126.toNat (⟨b147.Kind, b147.Realm, b147.By, b147.Client, b147.Service, b147.Key, b147.Parent, b147.Evid, (⟨b147.Rest.Servers, (IntKind.i64.wrap ((IntKind.i64.wrap ((IntKind.i64.wrap ((IntKind.i64.wrap ((IntKind.i64.wrap ((IntKind.i64.wrap ((IntKind.i64.wrap ((IntKind.i64.wrap ((IntKind.i64.wrap (v125 + (1 : Int))) + (1 : Int))) + (1 : Int))) + (1 : Int))) + (1 : Int))) + (1 : Int))) + (1 : Int))) + (1 : Int))) + (1 : Int))), b147.Rest.End⟩ : Timpl_Rest)⟩ : Timpl_Event)).set v126.toNat (⟨b148.Kind, b148.Realm, b148.By, b148.Client, b148.Service, b148.Key, b148.Parent, b148.Evid, (⟨b148.Rest.Servers, b148.Rest.Ops, (IntKind.i64.wrap ((IntKind.i64.wrap ((IntKind.i64.wrap ((IntKind.i64.wrap ((IntKind.i64.wrap ((IntKind.i64.wrap ((IntKind.i64.wrap ((IntKind.i64.wrap ((IntKind.i64.wrap ((IntKind.i64.wrap (v125 + (1 : Int))) + (1 : Int))) + (1 : Int))) + (1 : Int))) + (1 : Int))) + (1 : Int))) + (1 : Int))) + (1 : Int))) + (1 : Int))) + (1 : Int)))⟩ : Timpl_Rest)⟩ : Timpl_Event)) (IntKind.i64.wrap ((IntKind.i64.wrap ((IntKind.i64.wrap ((IntKind.i64.wrap ((IntKind.i64.wrap ((IntKind.i64.wrap ((IntKind.i64.wrap ((IntKind.i64.wrap ((IntKind.i64.wrap ((IntKind.i64.wrap ((IntKind.i64.wrap (v125 + (1 : Int))) + (1 : Int))) + (1 : Int))) + (1 : Int))) + (1 : Int))) + (1 : Int))) + (1 : Int))) + (1 : Int))) + (1 : Int))) + (1 : Int))) + (1 : Int))) (IntKind.i64.wrap (v126 + (1 : Int)))) (some (v125, v124))
def Flaws_markEventS (k : Nat) (a0 : List Timpl_Event) (a1 : Int) : Option (Int × List Timpl_Event) := Flaws_markEventS.l2 k a0 a1 (0 : Int)
theorem ent28 : Enters Try.prog 28 := ⟨Try.f28, Try.func28, rfl, by decide⟩
set_option maxHeartbeats 8000000 in
set_option maxRecDepth 100000 in
theorem Flaws_markEventS_gives (k : Nat) (a0 : List Timpl_Event) (a1 : Int) (r : Int × List Timpl_Event) (H : Flaws_markEventS k a0 a1 = some r) : GivesB Try.prog 28 [V.one (Cell.ow 11 (List.map eTimpl_Event a0)), V.one (cI a1)] [] [0] [V.one (cI r.1)] [] [V.one (Cell.ow 11 (List.map eTimpl_Event r.2))] := by
  refine GivesB.intro Try.func28 rfl rfl rfl rfl rfl rfl ?_
  intro F hF hm
  unfold Flaws_markEventS at H
  obtain ⟨K, hK⟩ : ∃ K, k ≤ K := ⟨k, Nat.le_refl k⟩
  refine WpC.seq ?_
  refine WpC.regionL ?_
  refine L.assign hF rfl rfl rfl ?_
  refine L.nil ?_
  refine WpC.seq ?_
  refine WpC.seq ?_
  refine WpC.regionL ?_
  refine L.assign hF rfl rfl rfl ?_
  refine L.nil ?_
  refine WpC.block ?_
  refine WpC.loopL (P := Try.prog) (fun n σ => ∃ v124 : List Timpl_Event, ∃ v125 : Int, ∃ v126 : Int, n ≤ K ∧ Flaws_markEventS.l2 n v124 v125 v126 = some r ∧ σ = mkSt [(0, one (Cell.own 0)), (1, one (cI v125)), (5, one (cI v126))] [(0, ⟨11, List.map eTimpl_Event v124⟩)] [] 2) k ⟨_, ⟨a0, a1, (0 : Int), by omega, H, rfl⟩, Le.mk [(0, 0)] hm rfl ⟨⟨_, rfl, rfl⟩, ⟨_, rfl, rfl⟩, ⟨_, rfl, rfl⟩, trivial⟩ ⟨⟨_, rfl, rfl⟩, trivial⟩ trivial⟩ ?_
  clear H
  rintro k2 _ ⟨v124, v125, v126, hk2, H, rfl⟩
  cases k2 with
  | zero => cases H
  | succ k2 =>
    rw [Flaws_markEventS.l2] at H
    refine WpC.seq ?_
    refine WpC.seq ?_
    refine WpC.regionL ?_
    refine L.move hF rfl rfl rfl ?_
    refine L.move hF rfl rfl rfl ?_
    refine L.lenR (xs := v124) (e := eTimpl_Event) Try.underlying26 hF rfl rfl rfl rfl ?_
    refine L.bin hF rfl rfl rfl rfl rfl rfl ?_
    refine L.nil ?_
    refine WpC.cond rfl (fun hc => ?_) (fun hc => ?_)
    · replace H := condT hc H
      refine WpC.skip ?_
      refine WpC.seq ?_
      refine WpC.block ?_
      refine WpC.seq ?_
      refine WpC.regionL ?_
      refine L.move hF rfl rfl rfl ?_
      refine L.move hF rfl rfl rfl ?_
      refine L.move hF rfl rfl rfl ?_
      obtain ⟨b138, hb138, H⟩ := bindS H
      refine L.idxR (xs := v124) (e := eTimpl_Event) Try.underlying26 info135 hF rfl rfl rfl rfl rfl hb138 rfl rfl ?_
      refine L.fieldAddr Try.underlying135 rfl info3 rfl hF rfl rfl rfl rfl rfl ?_
      refine L.storeEp (xs := v124) (e := eTimpl_Event) (a' := (⟨v125, b138.Realm, b138.By, b138.Client, b138.Service, b138.Key, b138.Parent, b138.Evid, (⟨b138.Rest.Servers, b138.Rest.Ops, b138.Rest.End⟩ : Timpl_Rest)⟩ : Timpl_Event)) shape3 hF rfl rfl rfl rfl rfl rfl rfl (at?_get hb138).2 rfl rfl ?_
      refine L.nil ?_
      refine WpC.seq ?_
      refine WpC.regionL ?_
      refine L.move hF rfl rfl rfl ?_
      refine L.bin hF rfl rfl rfl rfl rfl rfl ?_
      refine L.assign hF rfl rfl rfl ?_
      refine L.nil ?_
      refine WpC.seq ?_
      refine WpC.regionL ?_
      refine L.move hF rfl rfl rfl ?_
      refine L.move hF rfl rfl rfl ?_
      refine L.move hF rfl rfl rfl ?_
      obtain ⟨b139, hb139, H⟩ := bindS H
      refine L.idxR (xs := (v124.set v126.toNat (⟨v125, b138.Realm, b138.By, b138.Client, b138.Service, b138.Key, b138.Parent, b138.Evid, (⟨b138.Rest.Servers, b138.Rest.Ops, b138.Rest.End⟩ : Timpl_Rest)⟩ : Timpl_Event))) (e := eTimpl_Event) Try.underlying26 info135 hF rfl rfl rfl rfl rfl hb139 rfl rfl ?_
      refine L.fieldAddr Try.underlying135 rfl info3 rfl hF rfl rfl rfl rfl rfl ?_
      refine L.storeEp (xs := (v124.set v126.toNat (⟨v125, b138.Realm, b138.By, b138.Client, b138.Service, b138.Key, b138.Parent, b138.Evid, (⟨b138.Rest.Servers, b138.Rest.Ops, b138.Rest.End⟩ : Timpl_Rest)⟩ : Timpl_Event))) (e := eTimpl_Event) (a' := (⟨b139.Kind, (IntKind.i64.wrap (v125 + (1 : Int))), b139.By, b139.Client, b139.Service, b139.Key, b139.Parent, b139.Evid, (⟨b139.Rest.Servers, b139.Rest.Ops, b139.Rest.End⟩ : Timpl_Rest)⟩ : Timpl_Event)) shape3 hF rfl rfl rfl rfl rfl rfl rfl (at?_get hb139).2 rfl rfl ?_
      refine L.nil ?_
      refine WpC.seq ?_
      refine WpC.regionL ?_
      refine L.move hF rfl rfl rfl ?_
      refine L.bin hF rfl rfl rfl rfl rfl rfl ?_
      refine L.assign hF rfl rfl rfl ?_
      refine L.nil ?_
      refine WpC.seq ?_
      refine WpC.regionL ?_
      refine L.move hF rfl rfl rfl ?_
      refine L.move hF rfl rfl rfl ?_
      refine L.move hF rfl rfl rfl ?_
      obtain ⟨b140, hb140, H⟩ := bindS H
      refine L.idxR (xs := ((v124.set v126.toNat (⟨v125, b138.Realm, b138.By, b138.Client, b138.Service, b138.Key, b138.Parent, b138.Evid, (⟨b138.Rest.Servers, b138.Rest.Ops, b138.Rest.End⟩ : Timpl_Rest)⟩ : Timpl_Event)).set v126.toNat (⟨b139.Kind, (IntKind.i64.wrap (v125 + (1 : Int))), b139.By, b139.Client, b139.Service, b139.Key, b139.Parent, b139.Evid, (⟨b139.Rest.Servers, b139.Rest.Ops, b139.Rest.End⟩ : Timpl_Rest)⟩ : Timpl_Event))) (e := eTimpl_Event) Try.underlying26 info135 hF rfl rfl rfl rfl rfl hb140 rfl rfl ?_
      refine L.fieldAddr Try.underlying135 rfl info3 rfl hF rfl rfl rfl rfl rfl ?_
      refine L.storeEp (xs := ((v124.set v126.toNat (⟨v125, b138.Realm, b138.By, b138.Client, b138.Service, b138.Key, b138.Parent, b138.Evid, (⟨b138.Rest.Servers, b138.Rest.Ops, b138.Rest.End⟩ : Timpl_Rest)⟩ : Timpl_Event)).set v126.toNat (⟨b139.Kind, (IntKind.i64.wrap (v125 + (1 : Int))), b139.By, b139.Client, b139.Service, b139.Key, b139.Parent, b139.Evid, (⟨b139.Rest.Servers, b139.Rest.Ops, b139.Rest.End⟩ : Timpl_Rest)⟩ : Timpl_Event))) (e := eTimpl_Event) (a' := (⟨b140.Kind, b140.Realm, (IntKind.i64.wrap ((IntKind.i64.wrap (v125 + (1 : Int))) + (1 : Int))), b140.Client, b140.Service, b140.Key, b140.Parent, b140.Evid, (⟨b140.Rest.Servers, b140.Rest.Ops, b140.Rest.End⟩ : Timpl_Rest)⟩ : Timpl_Event)) shape3 hF rfl rfl rfl rfl rfl rfl rfl (at?_get hb140).2 rfl rfl ?_
      refine L.nil ?_
      refine WpC.seq ?_
      refine WpC.regionL ?_
      refine L.move hF rfl rfl rfl ?_
      refine L.bin hF rfl rfl rfl rfl rfl rfl ?_
      refine L.assign hF rfl rfl rfl ?_
      refine L.nil ?_
      refine WpC.seq ?_
      refine WpC.regionL ?_
      refine L.move hF rfl rfl rfl ?_
      refine L.move hF rfl rfl rfl ?_
      refine L.move hF rfl rfl rfl ?_
      obtain ⟨b141, hb141, H⟩ := bindS H
      refine L.idxR (xs := (((v124.set v126.toNat (⟨v125, b138.Realm, b138.By, b138.Client, b138.Service, b138.Key, b138.Parent, b138.Evid, (⟨b138.Rest.Servers, b138.Rest.Ops, b138.Rest.End⟩ : Timpl_Rest)⟩ : Timpl_Event)).set v126.toNat (⟨b139.Kind, (IntKind.i64.wrap (v125 + (1 : Int))), b139.By, b139.Client, b139.Service, b139.Key, b139.Parent, b139.Evid, (⟨b139.Rest.Servers, b139.Rest.Ops, b139.Rest.End⟩ : Timpl_Rest)⟩ : Timpl_Event)).set v126.toNat (⟨b140.Kind, b140.Realm, (IntKind.i64.wrap ((IntKind.i64.wrap (v125 + (1 : Int))) + (1 : Int))), b140.Client, b140.Service, b140.Key, b140.Parent, b140.Evid, (⟨b140.Rest.Servers, b140.Rest.Ops, b140.Rest.End⟩ : Timpl_Rest)⟩ : Timpl_Event))) (e := eTimpl_Event) Try.underlying26 info135 hF rfl rfl rfl rfl rfl hb141 rfl rfl ?_
      refine L.fieldAddr Try.underlying135 rfl info3 rfl hF rfl rfl rfl rfl rfl ?_
      refine L.storeEp (xs := (((v124.set v126.toNat (⟨v125, b138.Realm, b138.By, b138.Client, b138.Service, b138.Key, b138.Parent, b138.Evid, (⟨b138.Rest.Servers, b138.Rest.Ops, b138.Rest.End⟩ : Timpl_Rest)⟩ : Timpl_Event)).set v126.toNat (⟨b139.Kind, (IntKind.i64.wrap (v125 + (1 : Int))), b139.By, b139.Client, b139.Service, b139.Key, b139.Parent, b139.Evid, (⟨b139.Rest.Servers, b139.Rest.Ops, b139.Rest.End⟩ : Timpl_Rest)⟩ : Timpl_Event)).set v126.toNat (⟨b140.Kind, b140.Realm, (IntKind.i64.wrap ((IntKind.i64.wrap (v125 + (1 : Int))) + (1 : Int))), b140.Client, b140.Service, b140.Key, b140.Parent, b140.Evid, (⟨b140.Rest.Servers, b140.Rest.Ops, b140.Rest.End⟩ : Timpl_Rest)⟩ : Timpl_Event))) (e := eTimpl_Event) (a' := (⟨b141.Kind, b141.Realm, b141.By, (IntKind.i64.wrap ((IntKind.i64.wrap ((IntKind.i64.wrap (v125 + (1 : Int))) + (1 : Int))) + (1 : Int))), b141.Service, b141.Key, b141.Parent, b141.Evid, (⟨b141.Rest.Servers, b141.Rest.Ops, b141.Rest.End⟩ : Timpl_Rest)⟩ : Timpl_Event)) shape3 hF rfl rfl rfl rfl rfl rfl rfl (at?_get hb141).2 rfl rfl ?_
      refine L.nil ?_
      refine WpC.seq ?_
      refine WpC.regionL ?_
      refine L.move hF rfl rfl rfl ?_
      refine L.bin hF rfl rfl rfl rfl rfl rfl ?_
      refine L.assign hF rfl rfl rfl ?_
      refine L.nil ?_
      refine WpC.seq ?_
      refine WpC.regionL ?_
      refine L.move hF rfl rfl rfl ?_
      refine L.move hF rfl rfl rfl ?_
      refine L.move hF rfl rfl rfl ?_
      obtain ⟨b142, hb142, H⟩ := bindS H
      refine L.idxR (xs := ((((v124.set v126.toNat (⟨v125, b138.Realm, b138.By, b138.Client, b138.Service, b138.Key, b138.Parent, b138.Evid, (⟨b138.Rest.Servers, b138.Rest.Ops, b138.Rest.End⟩ : Timpl_Rest)⟩ : Timpl_Event)).set v126.toNat (⟨b139.Kind, (IntKind.i64.wrap (v125 + (1 : Int))), b139.By, b139.Client, b139.Service, b139.Key, b139.Parent, b139.Evid, (⟨b139.Rest.Servers, b139.Rest.Ops, b139.Rest.End⟩ : Timpl_Rest)⟩ : Timpl_Event)).set v126.toNat (⟨b140.Kind, b140.Realm, (IntKind.i64.wrap ((IntKind.i64.wrap (v125 + (1 : Int))) + (1 : Int))), b140.Client, b140.Service, b140.Key, b140.Parent, b140.Evid, (⟨b140.Rest.Servers, b140.Rest.Ops, b140.Rest.End⟩ : Timpl_Rest)⟩ : Timpl_Event)).set v126.toNat (⟨b141.Kind, b141.Realm, b141.By, (IntKind.i64.wrap ((IntKind.i64.wrap ((IntKind.i64.wrap (v125 + (1 : Int))) + (1 : Int))) + (1 : Int))), b141.Service, b141.Key, b141.Parent, b141.Evid, (⟨b141.Rest.Servers, b141.Rest.Ops, b141.Rest.End⟩ : Timpl_Rest)⟩ : Timpl_Event))) (e := eTimpl_Event) Try.underlying26 info135 hF rfl rfl rfl rfl rfl hb142 rfl rfl ?_
      refine L.fieldAddr Try.underlying135 rfl info3 rfl hF rfl rfl rfl rfl rfl ?_
      refine L.storeEp (xs := ((((v124.set v126.toNat (⟨v125, b138.Realm, b138.By, b138.Client, b138.Service, b138.Key, b138.Parent, b138.Evid, (⟨b138.Rest.Servers, b138.Rest.Ops, b138.Rest.End⟩ : Timpl_Rest)⟩ : Timpl_Event)).set v126.toNat (⟨b139.Kind, (IntKind.i64.wrap (v125 + (1 : Int))), b139.By, b139.Client, b139.Service, b139.Key, b139.Parent, b139.Evid, (⟨b139.Rest.Servers, b139.Rest.Ops, b139.Rest.End⟩ : Timpl_Rest)⟩ : Timpl_Event)).set v126.toNat (⟨b140.Kind, b140.Realm, (IntKind.i64.wrap ((IntKind.i64.wrap (v125 + (1 : Int))) + (1 : Int))), b140.Client, b140.Service, b140.Key, b140.Parent, b140.Evid, (⟨b140.Rest.Servers, b140.Rest.Ops, b140.Rest.End⟩ : Timpl_Rest)⟩ : Timpl_Event)).set v126.toNat (⟨b141.Kind, b141.Realm, b141.By, (IntKind.i64.wrap ((IntKind.i64.wrap ((IntKind.i64.wrap (v125 + (1 : Int))) + (1 : Int))) + (1 : Int))), b141.Service, b141.Key, b141.Parent, b141.Evid, (⟨b141.Rest.Servers, b141.Rest.Ops, b141.Rest.End⟩ : Timpl_Rest)⟩ : Timpl_Event))) (e := eTimpl_Event) (a' := (⟨b142.Kind, b142.Realm, b142.By, b142.Client, (IntKind.i64.wrap ((IntKind.i64.wrap ((IntKind.i64.wrap ((IntKind.i64.wrap (v125 + (1 : Int))) + (1 : Int))) + (1 : Int))) + (1 : Int))), b142.Key, b142.Parent, b142.Evid, (⟨b142.Rest.Servers, b142.Rest.Ops, b142.Rest.End⟩ : Timpl_Rest)⟩ : Timpl_Event)) shape3 hF rfl rfl rfl rfl rfl rfl rfl (at?_get hb142).2 rfl rfl ?_
      refine L.nil ?_
      refine WpC.seq ?_
      refine WpC.regionL ?_
      refine L.move hF rfl rfl rfl ?_
      refine L.bin hF rfl rfl rfl rfl rfl rfl ?_
      refine L.assign hF rfl rfl rfl ?_
      refine L.nil ?_
      refine WpC.seq ?_
      refine WpC.regionL ?_
      refine L.move hF rfl rfl rfl ?_
      refine L.move hF rfl rfl rfl ?_
      refine L.move hF rfl rfl rfl ?_
      obtain ⟨b143, hb143, H⟩ := bindS H
      refine L.idxR (xs := (((((v124.set v126.toNat (⟨v125, b138.Realm, b138.By, b138.Client, b138.Service, b138.Key, b138.Parent, b138.Evid, (⟨b138.Rest.Servers, b138.Rest.Ops, b138.Rest.End⟩ : Timpl_Rest)⟩ : Timpl_Event)).set v126.toNat (⟨b139.Kind, (IntKind.i64.wrap (v125 + (1 : Int))), b139.By, b139.Client, b139.Service, b139.Key, b139.Parent, b139.Evid, (⟨b139.Rest.Servers, b139.Rest.Ops, b139.Rest.End⟩ : Timpl_Rest)⟩ : Timpl_Event)).set v126.toNat (⟨b140.Kind, b140.Realm, (IntKind.i64.wrap ((IntKind.i64.wrap (v125 + (1 : Int))) + (1 : Int))), b140.Client, b140.Service, b140.Key, b140.Parent, b140.Evid, (⟨b140.Rest.Servers, b140.Rest.Ops, b140.Rest.End⟩ : Timpl_Rest)⟩ : Timpl_Event)).set v126.toNat (⟨b141.Kind, b141.Realm, b141.By, (IntKind.i64.wrap ((IntKind.i64.wrap ((IntKind.i64.wrap (v125 + (1 : Int))) + (1 : Int))) + (1 : Int))), b141.Service, b141.Key, b141.Parent, b141.Evid, (⟨b141.Rest.Servers, b141.Rest.Ops, b141.Rest.End⟩ : Timpl_Rest)⟩ : Timpl_Event)).set v126.toNat (⟨b142.Kind, b142.Realm, b142.By, b142.Client, (IntKind.i64.wrap ((IntKind.i64.wrap ((IntKind.i64.wrap ((IntKind.i64.wrap (v125 + (1 : Int))) + (1 : Int))) + (1 : Int))) + (1 : Int))), b142.Key, b142.Parent, b142.Evid, (⟨b142.Rest.Servers, b142.Rest.Ops, b142.Rest.End⟩ : Timpl_Rest)⟩ : Timpl_Event))) (e := eTimpl_Event) Try.underlying26 info135 hF rfl rfl rfl rfl rfl hb143 rfl rfl ?_
      refine L.fieldAddr Try.underlying135 rfl info3 rfl hF rfl rfl rfl rfl rfl ?_
      refine L.storeEp (xs := (((((v124.set v126.toNat (⟨v125, b138.Realm, b138.By, b138.Client, b138.Service, b138.Key, b138.Parent, b138.Evid, (⟨b138.Rest.Servers, b138.Rest.Ops, b138.Rest.End⟩ : Timpl_Rest)⟩ : Timpl_Event)).set v126.toNat (⟨b139.Kind, (IntKind.i64.wrap (v125 + (1 : Int))), b139.By, b139.Client, b139.Service, b139.Key, b139.Parent, b139.Evid, (⟨b139.Rest.Servers, b139.Rest.Ops, b139.Rest.End⟩ : Timpl_Rest)⟩ : Timpl_Event)).set v126.toNat (⟨b140.Kind, b140.Realm, (IntKind.i64.wrap ((IntKind.i64.wrap (v125 + (1 : Int))) + (1 : Int))), b140.Client, b140.Service, b140.Key, b140.Parent, b140.Evid, (⟨b140.Rest.Servers, b140.Rest.Ops, b140.Rest.End⟩ : Timpl_Rest)⟩ : Timpl_Event)).set v126.toNat (⟨b141.Kind, b141.Realm, b141.By, (IntKind.i64.wrap ((IntKind.i64.wrap ((IntKind.i64.wrap (v125 + (1 : Int))) + (1 : Int))) + (1 : Int))), b141.Service, b141.Key, b141.Parent, b141.Evid, (⟨b141.Rest.Servers, b141.Rest.Ops, b141.Rest.End⟩ : Timpl_Rest)⟩ : Timpl_Event)).set v126.toNat (⟨b142.Kind, b142.Realm, b142.By, b142.Client, (IntKind.i64.wrap ((IntKind.i64.wrap ((IntKind.i64.wrap ((IntKind.i64.wrap (v125 + (1 : Int))) + (1 : Int))) + (1 : Int))) + (1 : Int))), b142.Key, b142.Parent, b142.Evid, (⟨b142.Rest.Servers, b142.Rest.Ops, b142.Rest.End⟩ : Timpl_Rest)⟩ : Timpl_Event))) (e := eTimpl_Event) (a' := (⟨b143.Kind, b143.Realm, b143.By, b143.Client, b143.Service, (IntKind.i64.wrap ((IntKind.i64.wrap ((IntKind.i64.wrap ((IntKind.i64.wrap ((IntKind.i64.wrap (v125 + (1 : Int))) + (1 : Int))) + (1 : Int))) + (1 : Int))) + (1 : Int))), b143.Parent, b143.Evid, (⟨b143.Rest.Servers, b143.Rest.Ops, b143.Rest.End⟩ : Timpl_Rest)⟩ : Timpl_Event)) shape3 hF rfl rfl rfl rfl rfl rfl rfl (at?_get hb143).2 rfl rfl ?_
      refine L.nil ?_
      refine WpC.seq ?_
      refine WpC.regionL ?_
      refine L.move hF rfl rfl rfl ?_
      refine L.bin hF rfl rfl rfl rfl rfl rfl ?_
      refine L.assign hF rfl rfl rfl ?_
      refine L.nil ?_
      refine WpC.seq ?_
      refine WpC.regionL ?_
      refine L.move hF rfl rfl rfl ?_
      refine L.move hF rfl rfl rfl ?_
      refine L.move hF rfl rfl rfl ?_
      obtain ⟨b144, hb144, H⟩ := bindS H
      refine L.idxR (xs := ((((((v124.set v126.toNat (⟨v125, b138.Realm, b138.By, b138.Client, b138.Service, b138.Key, b138.Parent, b138.Evid, (⟨b138.Rest.Servers, b138.Rest.Ops, b138.Rest.End⟩ : Timpl_Rest)⟩ : Timpl_Event)).set v126.toNat (⟨b139.Kind, (IntKind.i64.wrap (v125 + (1 : Int))), b139.By, b139.Client, b139.Service, b139.Key, b139.Parent, b139.Evid, (⟨b139.Rest.Servers, b139.Rest.Ops, b139.Rest.End⟩ : Timpl_Rest)⟩ : Timpl_Event)).set v126.toNat (⟨b140.Kind, b140.Realm, (IntKind.i64.wrap ((IntKind.i64.wrap (v125 + (1 : Int))) + (1 : Int))), b140.Client, b140.Service, b140.Key, b140.Parent, b140.Evid, (⟨b140.Rest.Servers, b140.Rest.Ops, b140.Rest.End⟩ : Timpl_Rest)⟩ : Timpl_Event)).set v126.toNat (⟨b141.Kind, b141.Realm, b141.By, (IntKind.i64.wrap ((IntKind.i64.wrap ((IntKind.i64.wrap (v125 + (1 : Int))) + (1 : Int))) + (1 : Int))), b141.Service, b141.Key, b141.Parent, b141.Evid, (⟨b141.Rest.Servers, b141.Rest.Ops, b141.Rest.End⟩ : Timpl_Rest)⟩ : Timpl_Event)).set v126.toNat (⟨b142.Kind, b142.Realm, b142.By, b142.Client, (IntKind.i64.wrap ((IntKind.i64.wrap ((IntKind.i64.wrap ((IntKind.i64.wrap (v125 + (1 : Int))) + (1 : Int))) + (1 : Int))) + (1 : Int))), b142.Key, b142.Parent, b142.Evid, (⟨b142.Rest.Servers, b142.Rest.Ops, b142.Rest.End⟩ : Timpl_Rest)⟩ : Timpl_Event)).set v126.toNat (⟨b143.Kind, b143.Realm, b143.By, b143.Client, b143.Service, (IntKind.i64.wrap ((IntKind.i64.wrap ((IntKind.i64.wrap ((IntKind.i64.wrap ((IntKind.i64.wrap (v125 + (1 : Int))) + (1 : Int))) + (1 : Int))) + (1 : Int))) + (1 : Int))), b143.Parent, b143.Evid, (⟨b143.Rest.Servers, b143.Rest.Ops, b143.Rest.End⟩ : Timpl_Rest)⟩ : Timpl_Event))) (e := eTimpl_Event) Try.underlying26 info135 hF rfl rfl rfl rfl rfl hb144 rfl rfl ?_
      refine L.fieldAddr Try.underlying135 rfl info3 rfl hF rfl rfl rfl rfl rfl ?_
      refine L.storeEp (xs := ((((((v124.set v126.toNat (⟨v125, b138.Realm, b138.By, b138.Client, b138.Service, b138.Key, b138.Parent, b138.Evid, (⟨b138.Rest.Servers, b138.Rest.Ops, b138.Rest.End⟩ : Timpl_Rest)⟩ : Timpl_Event)).set v126.toNat (⟨b139.Kind, (IntKind.i64.wrap (v125 + (1 : Int))), b139.By, b139.Client, b139.Service, b139.Key, b139.Parent, b139.Evid, (⟨b139.Rest.Servers, b139.Rest.Ops, b139.Rest.End⟩ : Timpl_Rest)⟩ : Timpl_Event)).set v126.toNat (⟨b140.Kind, b140.Realm, (IntKind.i64.wrap ((IntKind.i64.wrap (v125 + (1 : Int))) + (1 : Int))), b140.Client, b140.Service, b140.Key, b140.Parent, b140.Evid, (⟨b140.Rest.Servers, b140.Rest.Ops, b140.Rest.End⟩ : Timpl_Rest)⟩ : Timpl_Event)).set v126.toNat (⟨b141.Kind, b141.Realm, b141.By, (IntKind.i64.wrap ((IntKind.i64.wrap ((IntKind.i64.wrap (v125 + (1 : Int))) + (1 : Int))) + (1 : Int))), b141.Service, b141.Key, b141.Parent, b141.Evid, (⟨b141.Rest.Servers, b141.Rest.Ops, b141.Rest.End⟩ : Timpl_Rest)⟩ : Timpl_Event)).set v126.toNat (⟨b142.Kind, b142.Realm, b142.By, b142.Client, (IntKind.i64.wrap ((IntKind.i64.wrap ((IntKind.i64.wrap ((IntKind.i64.wrap (v125 + (1 : Int))) + (1 : Int))) + (1 : Int))) + (1 : Int))), b142.Key, b142.Parent, b142.Evid, (⟨b142.Rest.Servers, b142.Rest.Ops, b142.Rest.End⟩ : Timpl_Rest)⟩ : Timpl_Event)).set v126.toNat (⟨b143.Kind, b143.Realm, b143.By, b143.Client, b143.Service, (IntKind.i64.wrap ((IntKind.i64.wrap ((IntKind.i64.wrap ((IntKind.i64.wrap ((IntKind.i64.wrap (v125 + (1 : Int))) + (1 : Int))) + (1 : Int))) + (1 : Int))) + (1 : Int))), b143.Parent, b143.Evid, (⟨b143.Rest.Servers, b143.Rest.Ops, b143.Rest.End⟩ : Timpl_Rest)⟩ : Timpl_Event))) (e := eTimpl_Event) (a' := (⟨b144.Kind, b144.Realm, b144.By, b144.Client, b144.Service, b144.Key, (IntKind.i64.wrap ((IntKind.i64.wrap ((IntKind.i64.wrap ((IntKind.i64.wrap ((IntKind.i64.wrap ((IntKind.i64.wrap (v125 + (1 : Int))) + (1 : Int))) + (1 : Int))) + (1 : Int))) + (1 : Int))) + (1 : Int))), b144.Evid, (⟨b144.Rest.Servers, b144.Rest.Ops, b144.Rest.End⟩ : Timpl_Rest)⟩ : Timpl_Event)) shape3 hF rfl rfl rfl rfl rfl rfl rfl (at?_get hb144).2 rfl rfl ?_
      refine L.nil ?_
      refine WpC.seq ?_
      refine WpC.regionL ?_
      refine L.move hF rfl rfl rfl ?_
      refine L.bin hF rfl rfl rfl rfl rfl rfl ?_
      refine L.assign hF rfl rfl rfl ?_
      refine L.nil ?_
      refine WpC.seq ?_
      refine WpC.regionL ?_
      refine L.move hF rfl rfl rfl ?_
      refine L.move hF rfl rfl rfl ?_
      refine L.move hF rfl rfl rfl ?_
      obtain ⟨b145, hb145, H⟩ := bindS H
      refine L.idxR (xs := (((((((v124.set v126.toNat (⟨v125, b138.Realm, b138.By, b138.Client, b138.Service, b138.Key, b138.Parent, b138.Evid, (⟨b138.Rest.Servers, b138.Rest.Ops, b138.Rest.End⟩ : Timpl_Rest)⟩ : Timpl_Event)).set v126.toNat (⟨b139.Kind, (IntKind.i64.wrap (v125 + (1 : Int))), b139.By, b139.Client, b139.Service, b139.Key, b139.Parent, b139.Evid, (⟨b139.Rest.Servers, b139.Rest.Ops, b139.Rest.End⟩ : Timpl_Rest)⟩ : Timpl_Event)).set v126.toNat (⟨b140.Kind, b140.Realm, (IntKind.i64.wrap ((IntKind.i64.wrap (v125 + (1 : Int))) + (1 : Int))), b140.Client, b140.Service, b140.Key, b140.Parent, b140.Evid, (⟨b140.Rest.Servers, b140.Rest.Ops, b140.Rest.End⟩ : Timpl_Rest)⟩ : Timpl_Event)).set v126.toNat (⟨b141.Kind, b141.Realm, b141.By, (IntKind.i64.wrap ((IntKind.i64.wrap ((IntKind.i64.wrap (v125 + (1 : Int))) + (1 : Int))) + (1 : Int))), b141.Service, b141.Key, b141.Parent, b141.Evid, (⟨b141.Rest.Servers, b141.Rest.Ops, b141.Rest.End⟩ : Timpl_Rest)⟩ : Timpl_Event)).set v126.toNat (⟨b142.Kind, b142.Realm, b142.By, b142.Client, (IntKind.i64.wrap ((IntKind.i64.wrap ((IntKind.i64.wrap ((IntKind.i64.wrap (v125 + (1 : Int))) + (1 : Int))) + (1 : Int))) + (1 : Int))), b142.Key, b142.Parent, b142.Evid, (⟨b142.Rest.Servers, b142.Rest.Ops, b142.Rest.End⟩ : Timpl_Rest)⟩ : Timpl_Event)).set v126.toNat (⟨b143.Kind, b143.Realm, b143.By, b143.Client, b143.Service, (IntKind.i64.wrap ((IntKind.i64.wrap ((IntKind.i64.wrap ((IntKind.i64.wrap ((IntKind.i64.wrap (v125 + (1 : Int))) + (1 : Int))) + (1 : Int))) + (1 : Int))) + (1 : Int))), b143.Parent, b143.Evid, (⟨b143.Rest.Servers, b143.Rest.Ops, b143.Rest.End⟩ : Timpl_Rest)⟩ : Timpl_Event)).set v126.toNat (⟨b144.Kind, b144.Realm, b144.By, b144.Client, b144.Service, b144.Key, (IntKind.i64.wrap ((IntKind.i64.wrap ((IntKind.i64.wrap ((IntKind.i64.wrap ((IntKind.i64.wrap ((IntKind.i64.wrap (v125 + (1 : Int))) + (1 : Int))) + (1 : Int))) + (1 : Int))) + (1 : Int))) + (1 : Int))), b144.Evid, (⟨b144.Rest.Servers, b144.Rest.Ops, b144.Rest.End⟩ : Timpl_Rest)⟩ : Timpl_Event))) (e := eTimpl_Event) Try.underlying26 info135 hF rfl rfl rfl rfl rfl hb145 rfl rfl ?_
      refine L.fieldAddr Try.underlying135 rfl info3 rfl hF rfl rfl rfl rfl rfl ?_
      refine L.storeEp (xs := (((((((v124.set v126.toNat (⟨v125, b138.Realm, b138.By, b138.Client, b138.Service, b138.Key, b138.Parent, b138.Evid, (⟨b138.Rest.Servers, b138.Rest.Ops, b138.Rest.End⟩ : Timpl_Rest)⟩ : Timpl_Event)).set v126.toNat (⟨b139.Kind, (IntKind.i64.wrap (v125 + (1 : Int))), b139.By, b139.Client, b139.Service, b139.Key, b139.Parent, b139.Evid, (⟨b139.Rest.Servers, b139.Rest.Ops, b139.Rest.End⟩ : Timpl_Rest)⟩ : Timpl_Event)).set v126.toNat (⟨b140.Kind, b140.Realm, (IntKind.i64.wrap ((IntKind.i64.wrap (v125 + (1 : Int))) + (1 : Int))), b140.Client, b140.Service, b140.Key, b140.Parent, b140.Evid, (⟨b140.Rest.Servers, b140.Rest.Ops, b140.Rest.End⟩ : Timpl_Rest)⟩ : Timpl_Event)).set v126.toNat (⟨b141.Kind, b141.Realm, b141.By, (IntKind.i64.wrap ((IntKind.i64.wrap ((IntKind.i64.wrap (v125 + (1 : Int))) + (1 : Int))) + (1 : Int))), b141.Service, b141.Key, b141.Parent, b141.Evid, (⟨b141.Rest.Servers, b141.Rest.Ops, b141.Rest.End⟩ : Timpl_Rest)⟩ : Timpl_Event)).set v126.toNat (⟨b142.Kind, b142.Realm, b142.By, b142.Client, (IntKind.i64.wrap ((IntKind.i64.wrap ((IntKind.i64.wrap ((IntKind.i64.wrap (v125 + (1 : Int))) + (1 : Int))) + (1 : Int))) + (1 : Int))), b142.Key, b142.Parent, b142.Evid, (⟨b142.Rest.Servers, b142.Rest.Ops, b142.Rest.End⟩ : Timpl_Rest)⟩ : Timpl_Event)).set v126.toNat (⟨b143.Kind, b143.Realm, b143.By, b143.Client, b143.Service, (IntKind.i64.wrap ((IntKind.i64.wrap ((IntKind.i64.wrap ((IntKind.i64.wrap ((IntKind.i64.wrap (v125 + (1 : Int))) + (1 : Int))) + (1 : Int))) + (1 : Int))) + (1 : Int))), b143.Parent, b143.Evid, (⟨b143.Rest.Servers, b143.Rest.Ops, b143.Rest.End⟩ : Timpl_Rest)⟩ : Timpl_Event)).set v126.toNat (⟨b144.Kind, b144.Realm, b144.By, b144.Client, b144.Service, b144.Key, (IntKind.i64.wrap ((IntKind.i64.wrap ((IntKind.i64.wrap ((IntKind.i64.wrap ((IntKind.i64.wrap ((IntKind.i64.wrap (v125 + (1 : Int))) + (1 : Int))) + (1 : Int))) + (1 : Int))) + (1 : Int))) + (1 : Int))), b144.Evid, (⟨b144.Rest.Servers, b144.Rest.Ops, b144.Rest.End⟩ : Timpl_Rest)⟩ : Timpl_Event))) (e := eTimpl_Event) (a' := (⟨b145.Kind, b145.Realm, b145.By, b145.Client, b145.Service, b145.Key, b145.Parent, (IntKind.i64.wrap ((IntKind.i64.wrap ((IntKind.i64.wrap ((IntKind.i64.wrap ((IntKind.i64.wrap ((IntKind.i64.wrap ((IntKind.i64.wrap (v125 + (1 : Int))) + (1 : Int))) + (1 : Int))) + (1 : Int))) + (1 : Int))) + (1 : Int))) + (1 : Int))), (⟨b145.Rest.Servers, b145.Rest.Ops, b145.Rest.End⟩ : Timpl_Rest)⟩ : Timpl_Event)) shape3 hF rfl rfl rfl rfl rfl rfl rfl (at?_get hb145).2 rfl rfl ?_
      refine L.nil ?_
      refine WpC.seq ?_
      refine WpC.regionL ?_
      refine L.move hF rfl rfl rfl ?_
      refine L.bin hF rfl rfl rfl rfl rfl rfl ?_
      refine L.assign hF rfl rfl rfl ?_
      refine L.nil ?_
      refine WpC.seq ?_
      refine WpC.regionL ?_
      refine L.move hF rfl rfl rfl ?_
      refine L.move hF rfl rfl rfl ?_
      refine L.move hF rfl rfl rfl ?_
      obtain ⟨b146, hb146, H⟩ := bindS H
      refine L.idxR (xs := ((((((((v124.set v126.toNat (⟨v125, b138.Realm, b138.By, b138.Client, b138.Service, b138.Key, b138.Parent, b138.Evid, (⟨b138.Rest.Servers, b138.Rest.Ops, b138.Rest.End⟩ : Timpl_Rest)⟩ : Timpl_Event)).set v126.toNat (⟨b139.Kind, (IntKind.i64.wrap (v125 + (1 : Int))), b139.By, b139.Client, b139.Service, b139.Key, b139.Parent, b139.Evid, (⟨b139.Rest.Servers, b139.Rest.Ops, b139.Rest.End⟩ : Timpl_Rest)⟩ : Timpl_Event)).set v126.toNat (⟨b140.Kind, b140.Realm, (IntKind.i64.wrap ((IntKind.i64.wrap (v125 + (1 : Int))) + (1 : Int))), b140.Client, b140.Service, b140.Key, b140.Parent, b140.Evid, (⟨b140.Rest.Servers, b140.Rest.Ops, b140.Rest.End⟩ : Timpl_Rest)⟩ : Timpl_Event)).set v126.toNat (⟨b141.Kind, b141.Realm, b141.By, (IntKind.i64.wrap ((IntKind.i64.wrap ((IntKind.i64.wrap (v125 + (1 : Int))) + (1 : Int))) + (1 : Int))), b141.Service, b141.Key, b141.Parent, b141.Evid, (⟨b141.Rest.Servers, b141.Rest.Ops, b141.Rest.End⟩ : Timpl_Rest)⟩ : Timpl_Event)).set v126.toNat (⟨b142.Kind, b142.Realm, b142.By, b142.Client, (IntKind.i64.wrap ((IntKind.i64.wrap ((IntKind.i64.wrap ((IntKind.i64.wrap (v125 + (1 : Int))) + (1 : Int))) + (1 : Int))) + (1 : Int))), b142.Key, b142.Parent, b142.Evid, (⟨b142.Rest.Servers, b142.Rest.Ops, b142.Rest.End⟩ : Timpl_Rest)⟩ : Timpl_Event)).set v126.toNat (⟨b143.Kind, b143.Realm, b143.By, b143.Client, b143.Service, (IntKind.i64.wrap ((IntKind.i64.wrap ((IntKind.i64.wrap ((IntKind.i64.wrap ((IntKind.i64.wrap (v125 + (1 : Int))) + (1 : Int))) + (1 : Int))) + (1 : Int))) + (1 : Int))), b143.Parent, b143.Evid, (⟨b143.Rest.Servers, b143.Rest.Ops, b143.Rest.End⟩ : Timpl_Rest)⟩ : Timpl_Event)).set v126.toNat (⟨b144.Kind, b144.Realm, b144.By, b144.Client, b144.Service, b144.Key, (IntKind.i64.wrap ((IntKind.i64.wrap ((IntKind.i64.wrap ((IntKind.i64.wrap ((IntKind.i64.wrap ((IntKind.i64.wrap (v125 + (1 : Int))) + (1 : Int))) + (1 : Int))) + (1 : Int))) + (1 : Int))) + (1 : Int))), b144.Evid, (⟨b144.Rest.Servers, b144.Rest.Ops, b144.Rest.End⟩ : Timpl_Rest)⟩ : Timpl_Event)).set v126.toNat (⟨b145.Kind, b145.Realm, b145.By, b145.Client, b145.Service, b145.Key, b145.Parent, (IntKind.i64.wrap ((IntKind.i64.wrap ((IntKind.i64.wrap ((IntKind.i64.wrap ((IntKind.i64.wrap ((IntKind.i64.wrap ((IntKind.i64.wrap (v125 + (1 : Int))) + (1 : Int))) + (1 : Int))) + (1 : Int))) + (1 : Int))) + (1 : Int))) + (1 : Int))), (⟨b145.Rest.Servers, b145.Rest.Ops, b145.Rest.End⟩ : Timpl_Rest)⟩ : Timpl_Event))) (e := eTimpl_Event) Try.underlying26 info135 hF rfl rfl rfl rfl rfl hb146 rfl rfl ?_
      refine L.fieldAddr Try.underlying135 rfl info74 rfl hF rfl rfl rfl rfl rfl ?_
      refine L.fieldAddr Try.underlying74 rfl info3 rfl hF rfl rfl rfl rfl rfl ?_
      refine L.storeEp (xs := ((((((((v124.set v126.toNat (⟨v125, b138.Realm, b138.By, b138.Client, b138.Service, b138.Key, b138.Parent, b138.Evid, (⟨b138.Rest.Servers, b138.Rest.Ops, b138.Rest.End⟩ : Timpl_Rest)⟩ : Timpl_Event)).set v126.toNat (⟨b139.Kind, (IntKind.i64.wrap (v125 + (1 : Int))), b139.By, b139.Client, b139.Service, b139.Key, b139.Parent, b139.Evid, (⟨b139.Rest.Servers, b139.Rest.Ops, b139.Rest.End⟩ : Timpl_Rest)⟩ : Timpl_Event)).set v126.toNat (⟨b140.Kind, b140.Realm, (IntKind.i64.wrap ((IntKind.i64.wrap (v125 + (1 : Int))) + (1 : Int))), b140.Client, b140.Service, b140.Key, b140.Parent, b140.Evid, (⟨b140.Rest.Servers, b140.Rest.Ops, b140.Rest.End⟩ : Timpl_Rest)⟩ : Timpl_Event)).set v126.toNat (⟨b141.Kind, b141.Realm, b141.By, (IntKind.i64.wrap ((IntKind.i64.wrap ((IntKind.i64.wrap (v125 + (1 : Int))) + (1 : Int))) + (1 : Int))), b141.Service, b141.Key, b141.Parent, b141.Evid, (⟨b141.Rest.Servers, b141.Rest.Ops, b141.Rest.End⟩ : Timpl_Rest)⟩ : Timpl_Event)).set v126.toNat (⟨b142.Kind, b142.Realm, b142.By, b142.Client, (IntKind.i64.wrap ((IntKind.i64.wrap ((IntKind.i64.wrap ((IntKind.i64.wrap (v125 + (1 : Int))) + (1 : Int))) + (1 : Int))) + (1 : Int))), b142.Key, b142.Parent, b142.Evid, (⟨b142.Rest.Servers, b142.Rest.Ops, b142.Rest.End⟩ : Timpl_Rest)⟩ : Timpl_Event)).set v126.toNat (⟨b143.Kind, b143.Realm, b143.By, b143.Client, b143.Service, (IntKind.i64.wrap ((IntKind.i64.wrap ((IntKind.i64.wrap ((IntKind.i64.wrap ((IntKind.i64.wrap (v125 + (1 : Int))) + (1 : Int))) + (1 : Int))) + (1 : Int))) + (1 : Int))), b143.Parent, b143.Evid, (⟨b143.Rest.Servers, b143.Rest.Ops, b143.Rest.End⟩ : Timpl_Rest)⟩ : Timpl_Event)).set v126.toNat (⟨b144.Kind, b144.Realm, b144.By, b144.Client, b144.Service, b144.Key, (IntKind.i64.wrap ((IntKind.i64.wrap ((IntKind.i64.wrap ((IntKind.i64.wrap ((IntKind.i64.wrap ((IntKind.i64.wrap (v125 + (1 : Int))) + (1 : Int))) + (1 : Int))) + (1 : Int))) + (1 : Int))) + (1 : Int))), b144.Evid, (⟨b144.Rest.Servers, b144.Rest.Ops, b144.Rest.End⟩ : Timpl_Rest)⟩ : Timpl_Event)).set v126.toNat (⟨b145.Kind, b145.Realm, b145.By, b145.Client, b145.Service, b145.Key, b145.Parent, (IntKind.i64.wrap ((IntKind.i64.wrap ((IntKind.i64.wrap ((IntKind.i64.wrap ((IntKind.i64.wrap ((IntKind.i64.wrap ((IntKind.i64.wrap (v125 + (1 : Int))) + (1 : Int))) + (1 : Int))) + (1 : Int))) + (1 : Int))) + (1 : Int))) + (1 : Int))), (⟨b145.Rest.Servers, b145.Rest.Ops, b145.Rest.End⟩ : Timpl_Rest)⟩ : Timpl_Event))) (e := eTimpl_Event) (a' := (⟨b146.Kind, b146.Realm, b146.By, b146.Client, b146.Service, b146.Key, b146.Parent, b146.Evid, (⟨(IntKind.i64.wrap ((IntKind.i64.wrap ((IntKind.i64.wrap ((IntKind.i64.wrap ((IntKind.i64.wrap ((IntKind.i64.wrap ((IntKind.i64.wrap ((IntKind.i64.wrap (v125 + (1 : Int))) + (1 : Int))) + (1 : Int))) + (1 : Int))) + (1 : Int))) + (1 : Int))) + (1 : Int))) + (1 : Int))), b146.Rest.Ops, b146.Rest.End⟩ : Timpl_Rest)⟩ : Timpl_Event)) shape3 hF rfl rfl rfl rfl rfl rfl rfl (at?_get hb146).2 rfl rfl ?_
      refine L.nil ?_
      refine WpC.seq ?_
      refine WpC.regionL ?_
      refine L.move hF rfl rfl rfl ?_
      refine L.bin hF rfl rfl rfl rfl rfl rfl ?_
      refine L.assign hF rfl rfl rfl ?_
      refine L.nil ?_
      refine WpC.seq ?_
      refine WpC.regionL ?_
      refine L.move hF rfl rfl rfl ?_
      refine L.move hF rfl rfl rfl ?_
      refine L.move hF rfl rfl rfl ?_
      obtain ⟨b147, hb147, H⟩ := bindS H
      refine L.idxR (xs := (((((((((v124.set v126.toNat (⟨v125, b138.Realm, b138.By, b138.Client, b138.Service, b138.Key, b138.Parent, b138.Evid, (⟨b138.Rest.Servers, b138.Rest.Ops, b138.Rest.End⟩ : Timpl_Rest)⟩ : Timpl_Event)).set v126.toNat (⟨b139.Kind, (IntKind.i64.wrap (v125 + (1 : Int))), b139.By, b139.Client, b139.Service, b139.Key, b139.Parent, b139.Evid, (⟨b139.Rest.Servers, b139.Rest.Ops, b139.Rest.End⟩ : Timpl_Rest)⟩ : Timpl_Event)).set v126.toNat (⟨b140.Kind, b140.Realm, (IntKind.i64.wrap ((IntKind.i64.wrap (v125 + (1 : Int))) + (1 : Int))), b140.Client, b140.Service, b140.Key, b140.Parent, b140.Evid, (⟨b140.Rest.Servers, b140.Rest.Ops, b140.Rest.End⟩ : Timpl_Rest)⟩ : Timpl_Event)).set v126.toNat (⟨b141.Kind, b141.Realm, b141.By, (IntKind.i64.wrap ((IntKind.i64.wrap ((IntKind.i64.wrap (v125 + (1 : Int))) + (1 : Int))) + (1 : Int))), b141.Service, b141.Key, b141.Parent, b141.Evid, (⟨b141.Rest.Servers, b141.Rest.Ops, b141.Rest.End⟩ : Timpl_Rest)⟩ : Timpl_Event)).set v126.toNat (⟨b142.Kind, b142.Realm, b142.By, b142.Client, (IntKind.i64.wrap ((IntKind.i64.wrap ((IntKind.i64.wrap ((IntKind.i64.wrap (v125 + (1 : Int))) + (1 : Int))) + (1 : Int))) + (1 : Int))), b142.Key, b142.Parent, b142.Evid, (⟨b142.Rest.Servers, b142.Rest.Ops, b142.Rest.End⟩ : Timpl_Rest)⟩ : Timpl_Event)).set v126.toNat (⟨b143.Kind, b143.Realm, b143.By, b143.Client, b143.Service, (IntKind.i64.wrap ((IntKind.i64.wrap ((IntKind.i64.wrap ((IntKind.i64.wrap ((IntKind.i64.wrap (v125 + (1 : Int))) + (1 : Int))) + (1 : Int))) + (1 : Int))) + (1 : Int))), b143.Parent, b143.Evid, (⟨b143.Rest.Servers, b143.Rest.Ops, b143.Rest.End⟩ : Timpl_Rest)⟩ : Timpl_Event)).set v126.toNat (⟨b144.Kind, b144.Realm, b144.By, b144.Client, b144.Service, b144.Key, (IntKind.i64.wrap ((IntKind.i64.wrap ((IntKind.i64.wrap ((IntKind.i64.wrap ((IntKind.i64.wrap ((IntKind.i64.wrap (v125 + (1 : Int))) + (1 : Int))) + (1 : Int))) + (1 : Int))) + (1 : Int))) + (1 : Int))), b144.Evid, (⟨b144.Rest.Servers, b144.Rest.Ops, b144.Rest.End⟩ : Timpl_Rest)⟩ : Timpl_Event)).set v126.toNat (⟨b145.Kind, b145.Realm, b145.By, b145.Client, b145.Service, b145.Key, b145.Parent, (IntKind.i64.wrap ((IntKind.i64.wrap ((IntKind.i64.wrap ((IntKind.i64.wrap ((IntKind.i64.wrap ((IntKind.i64.wrap ((IntKind.i64.wrap (v125 + (1 : Int))) + (1 : Int))) + (1 : Int))) + (1 : Int))) + (1 : Int))) + (1 : Int))) + (1 : Int))), (⟨b145.Rest.Servers, b145.Rest.Ops, b145.Rest.End⟩ : Timpl_Rest)⟩ : Timpl_Event)).set v126.toNat (⟨b146.Kind, b146.Realm, b146.By, b146.Client, b146.Service, b146.Key, b146.Parent, b146.Evid, (⟨(IntKind.i64.wrap ((IntKind.i64.wrap ((IntKind.i64.wrap ((IntKind.i64.wrap ((IntKind.i64.wrap ((IntKind.i64.wrap ((IntKind.i64.wrap ((IntKind.i64.wrap (v125 + (1 : Int))) + (1 : Int))) + (1 : Int))) + (1 : Int))) + (1 : Int))) + (1 : Int))) + (1 : Int))) + (1 : Int))), b146.Rest.Ops, b146.Rest.End⟩ : Timpl_Rest)⟩ : Timpl_Event))) (e := eTimpl_Event) Try.underlying26 info135 hF rfl rfl rfl rfl rfl hb147 rfl rfl ?_
      refine L.fieldAddr Try.underlying135 rfl info74 rfl hF rfl rfl rfl rfl rfl ?_
      refine L.fieldAddr Try.underlying74 rfl info3 rfl hF rfl rfl rfl rfl rfl ?_
      refine L.storeEp (xs := (((((((((v124.set v126.toNat (⟨v125, b138.Realm, b138.By, b138.Client, b138.Service, b138.Key, b138.Parent, b138.Evid, (⟨b138.Rest.Servers, b138.Rest.Ops, b138.Rest.End⟩ : Timpl_Rest)⟩ : Timpl_Event)).set v126.toNat (⟨b139.Kind, (IntKind.i64.wrap (v125 + (1 : Int))), b139.By, b139.Client, b139.Service, b139.Key, b139.Parent, b139.Evid, (⟨b139.Rest.Servers, b139.Rest.Ops, b139.Rest.End⟩ : Timpl_Rest)⟩ : Timpl_Event)).set v126.toNat (⟨b140.Kind, b140.Realm, (IntKind.i64.wrap ((IntKind.i64.wrap (v125 + (1 : Int))) + (1 : Int))), b140.Client, b140.Service, b140.Key, b140.Parent, b140.Evid, (⟨b140.Rest.Servers, b140.Rest.Ops, b140.Rest.End⟩ : Timpl_Rest)⟩ : Timpl_Event)).set v126.toNat (⟨b141.Kind, b141.Realm, b141.By, (IntKind.i64.wrap ((IntKind.i64.wrap ((IntKind.i64.wrap (v125 + (1 : Int))) + (1 : Int))) + (1 : Int))), b141.Service, b141.Key, b141.Parent, b141.Evid, (⟨b141.Rest.Servers, b141.Rest.Ops, b141.Rest.End⟩ : Timpl_Rest)⟩ : Timpl_Event)).set v126.toNat (⟨b142.Kind, b142.Realm, b142.By, b142.Client, (IntKind.i64.wrap ((IntKind.i64.wrap ((IntKind.i64.wrap ((IntKind.i64.wrap (v125 + (1 : Int))) + (1 : Int))) + (1 : Int))) + (1 : Int))), b142.Key, b142.Parent, b142.Evid, (⟨b142.Rest.Servers, b142.Rest.Ops, b142.Rest.End⟩ : Timpl_Rest)⟩ : Timpl_Event)).set v126.toNat (⟨b143.Kind, b143.Realm, b143.By, b143.Client, b143.Service, (IntKind.i64.wrap ((IntKind.i64.wrap ((IntKind.i64.wrap ((IntKind.i64.wrap ((IntKind.i64.wrap (v125 + (1 : Int))) + (1 : Int))) + (1 : Int))) + (1 : Int))) + (1 : Int))), b143.Parent, b143.Evid, (⟨b143.Rest.Servers, b143.Rest.Ops, b143.Rest.End⟩ : Timpl_Rest)⟩ : Timpl_Event)).set v126.toNat (⟨b144.Kind, b144.Realm, b144.By, b144.Client, b144.Service, b144.Key, (IntKind.i64.wrap ((IntKind.i64.wrap ((IntKind.i64.wrap ((IntKind.i64.wrap ((IntKind.i64.wrap ((IntKind.i64.wrap (v125 + (1 : Int))) + (1 : Int))) + (1 : Int))) + (1 : Int))) + (1 : Int))) + (1 : Int))), b144.Evid, (⟨b144.Rest.Servers, b144.Rest.Ops, b144.Rest.End⟩ : Timpl_Rest)⟩ : Timpl_Event)).set v126.toNat (⟨b145.Kind, b145.Realm, b145.By, b145.Client, b145.Service, b145.Key, b145.Parent, (IntKind.i64.wrap ((IntKind.i64.wrap ((IntKind.i64.wrap ((IntKind.i64.wrap ((IntKind.i64.wrap ((IntKind.i64.wrap ((IntKind.i64.wrap (v125 + (1 : Int))) + (1 : Int))) + (1 : Int))) + (1 : Int))) + (1 : Int))) + (1 : Int))) + (1 : Int))), (⟨b145.Rest.Servers, b145.Rest.Ops, b145.Rest.End⟩ : Timpl_Rest)⟩ : Timpl_Event)).set v126.toNat (⟨b146.Kind, b146.Realm, b146.By, b146.Client, b146.Service, b146.Key, b146.Parent, b146.Evid, (⟨(IntKind.i64.wrap ((IntKind.i64.wrap ((IntKind.i64.wrap ((IntKind.i64.wrap ((IntKind.i64.wrap ((IntKind.i64.wrap ((IntKind.i64.wrap ((IntKind.i64.wrap (v125 + (1 : Int))) + (1 : Int))) + (1 : Int))) + (1 : Int))) + (1 : Int))) + (1 : Int))) + (1 : Int))) + (1 : Int))), b146.Rest.Ops, b146.Rest.End⟩ : Timpl_Rest)⟩ : Timpl_Event))) (e := eTimpl_Event) (a' := (⟨b147.Kind, b147.Realm, b147.By, b147.Client, b147.Service, b147.Key, b147.Parent, b147.Evid, (⟨b147.Rest.Servers, (IntKind.i64.wrap ((IntKind.i64.wrap ((IntKind.i64.wrap ((IntKind.i64.wrap ((IntKind.i64.wrap ((IntKind.i64.wrap ((IntKind.i64.wrap ((IntKind.i64.wrap ((IntKind.i64.wrap (v125 + (1 : Int))) + (1 : Int))) + (1 : Int))) + (1 : Int))) + (1 : Int))) + (1 : Int))) + (1 : Int))) + (1 : Int))) + (1 : Int))), b147.Rest.End⟩ : Timpl_Rest)⟩ : Timpl_Event)) shape3 hF rfl rfl rfl rfl rfl rfl rfl (at?_get hb147).2 rfl rfl ?_
      refine L.nil ?_
      refine WpC.seq ?_
      refine WpC.regionL ?_
      refine L.move hF rfl rfl rfl ?_
      refine L.bin hF rfl rfl rfl rfl rfl rfl ?_
      refine L.assign hF rfl rfl rfl ?_
      refine L.nil ?_
      refine WpC.seq ?_
      refine WpC.regionL ?_
      refine L.move hF rfl rfl rfl ?_
      refine L.move hF rfl rfl rfl ?_
      refine L.move hF rfl rfl rfl ?_
      obtain ⟨b148, hb148, H⟩ := bindS H
      refine L.idxR (xs := ((((((((((v124.set v126.toNat (⟨v125, b138.Realm, b138.By, b138.Client, b138.Service, b138.Key, b138.Parent, b138.Evid, (⟨b138.Rest.Servers, b138.Rest.Ops, b138.Rest.End⟩ : Timpl_Rest)⟩ : Timpl_Event)).set v126.toNat (⟨b139.Kind, (IntKind.i64.wrap (v125 + (1 : Int))), b139.By, b139.Client, b139.Service, b139.Key, b139.Parent, b139.Evid, (⟨b139.Rest.Servers, b139.Rest.Ops, b139.Rest.End⟩ : Timpl_Rest)⟩ : Timpl_Event)).set v126.toNat (⟨b140.Kind, b140.Realm, (IntKind.i64.wrap ((IntKind.i64.wrap (v125 + (1 : Int))) + (1 : Int))), b140.Client, b140.Service, b140.Key, b140.Parent, b140.Evid, (⟨b140.Rest.Servers, b140.Rest.Ops, b140.Rest.End⟩ : Timpl_Rest)⟩ : Timpl_Event)).set v126.toNat (⟨b141.Kind, b141.Realm, b141.By, (IntKind.i64.wrap ((IntKind.i64.wrap ((IntKind.i64.wrap (v125 + (1 : Int))) + (1 : Int))) + (1 : Int))), b141.Service, b141.Key, b141.Parent, b141.Evid, (⟨b141.Rest.Servers, b141.Rest.Ops, b141.Rest.End⟩ : Timpl_Rest)⟩ : Timpl_Event)).set v126.toNat (⟨b142.Kind, b142.Realm, b142.By, b142.Client, (IntKind.i64.wrap ((IntKind.i64.wrap ((IntKind.i64.wrap ((IntKind.i64.wrap (v125 + (1 : Int))) + (1 : Int))) + (1 : Int))) + (1 : Int))), b142.Key, b142.Parent, b142.Evid, (⟨b142.Rest.Servers, b142.Rest.Ops, b142.Rest.End⟩ : Timpl_Rest)⟩ : Timpl_Event)).set v126.toNat (⟨b143.Kind, b143.Realm, b143.By, b143.Client, b143.Service, (IntKind.i64.wrap ((IntKind.i64.wrap ((IntKind.i64.wrap ((IntKind.i64.wrap ((IntKind.i64.wrap (v125 + (1 : Int))) + (1 : Int))) + (1 : Int))) + (1 : Int))) + (1 : Int))), b143.Parent, b143.Evid, (⟨b143.Rest.Servers, b143.Rest.Ops, b143.Rest.End⟩ : Timpl_Rest)⟩ : Timpl_Event)).set v126.toNat (⟨b144.Kind, b144.Realm, b144.By, b144.Client, b144.Service, b144.Key, (IntKind.i64.wrap ((IntKind.i64.wrap ((IntKind.i64.wrap ((IntKind.i64.wrap ((IntKind.i64.wrap ((IntKind.i64.wrap (v125 + (1 : Int))) + (1 : Int))) + (1 : Int))) + (1 : Int))) + (1 : Int))) + (1 : Int))), b144.Evid, (⟨b144.Rest.Servers, b144.Rest.Ops, b144.Rest.End⟩ : Timpl_Rest)⟩ : Timpl_Event)).set v126.toNat (⟨b145.Kind, b145.Realm, b145.By, b145.Client, b145.Service, b145.Key, b145.Parent, (IntKind.i64.wrap ((IntKind.i64.wrap ((IntKind.i64.wrap ((IntKind.i64.wrap ((IntKind.i64.wrap ((IntKind.i64.wrap ((IntKind.i64.wrap (v125 + (1 : Int))) + (1 : Int))) + (1 : Int))) + (1 : Int))) + (1 : Int))) + (1 : Int))) + (1 : Int))), (⟨b145.Rest.Servers, b145.Rest.Ops, b145.Rest.End⟩ : Timpl_Rest)⟩ : Timpl_Event)).set v126.toNat (⟨b146.Kind, b146.Realm, b146.By, b146.Client, b146.Service, b146.Key, b146.Parent, b146.Evid, (⟨(IntKind.i64.wrap ((IntKind.i64.wrap ((IntKind.i64.wrap ((IntKind.i64.wrap ((IntKind.i64.wrap ((IntKind.i64.wrap ((IntKind.i64.wrap ((IntKind.i64.wrap (v125 + (1 : Int))) + (1 : Int))) + (1 : Int))) + (1 : Int))) + (1 : Int))) + (1 : Int))) + (1 : Int))) + (1 : Int))), b146.Rest.Ops, b146.Rest.End⟩ : Timpl_Rest)⟩ : Timpl_Event)).set v126.toNat (⟨b147.Kind, b147.Realm, b147.By, b147.Client, b147.Service, b147.Key, b147.Parent, b147.Evid, (⟨b147.Rest.Servers, (IntKind.i64.wrap ((IntKind.i64.wrap ((IntKind.i64.wrap ((IntKind.i64.wrap ((IntKind.i64.wrap ((IntKind.i64.wrap ((IntKind.i64.wrap ((IntKind.i64.wrap ((IntKind.i64.wrap (v125 + (1 : Int))) + (1 : Int))) + (1 : Int))) + (1 : Int))) + (1 : Int))) + (1 : Int))) + (1 : Int))) + (1 : Int))) + (1 : Int))), b147.Rest.End⟩ : Timpl_Rest)⟩ : Timpl_Event))) (e := eTimpl_Event) Try.underlying26 info135 hF rfl rfl rfl rfl rfl hb148 rfl rfl ?_
      refine L.fieldAddr Try.underlying135 rfl info74 rfl hF rfl rfl rfl rfl rfl ?_
      refine L.fieldAddr Try.underlying74 rfl info3 rfl hF rfl rfl rfl rfl rfl ?_
      refine L.storeEp (xs := ((((((((((v124.set v126.toNat (⟨v125, b138.Realm, b138.By, b138.Client, b138.Service, b138.Key, b138.Parent, b138.Evid, (⟨b138.Rest.Servers, b138.Rest.Ops, b138.Rest.End⟩ : Timpl_Rest)⟩ : Timpl_Event)).set v126.toNat (⟨b139.Kind, (IntKind.i64.wrap (v125 + (1 : Int))), b139.By, b139.Client, b139.Service, b139.Key, b139.Parent, b139.Evid, (⟨b139.Rest.Servers, b139.Rest.Ops, b139.Rest.End⟩ : Timpl_Rest)⟩ : Timpl_Event)).set v126.toNat (⟨b140.Kind, b140.Realm, (IntKind.i64.wrap ((IntKind.i64.wrap (v125 + (1 : Int))) + (1 : Int))), b140.Client, b140.Service, b140.Key, b140.Parent, b140.Evid, (⟨b140.Rest.Servers, b140.Rest.Ops, b140.Rest.End⟩ : Timpl_Rest)⟩ : Timpl_Event)).set v126.toNat (⟨b141.Kind, b141.Realm, b141.By, (IntKind.i64.wrap ((IntKind.i64.wrap ((IntKind.i64.wrap (v125 + (1 : Int))) + (1 : Int))) + (1 : Int))), b141.Service, b141.Key, b141.Parent, b141.Evid, (⟨b141.Rest.Servers, b141.Rest.Ops, b141.Rest.End⟩ : Timpl_Rest)⟩ : Timpl_Event)).set v126.toNat (⟨b142.Kind, b142.Realm, b142.By, b142.Client, (IntKind.i64.wrap ((IntKind.i64.wrap ((IntKind.i64.wrap ((IntKind.i64.wrap (v125 + (1 : Int))) + (1 : Int))) + (1 : Int))) + (1 : Int))), b142.Key, b142.Parent, b142.Evid, (⟨b142.Rest.Servers, b142.Rest.Ops, b142.Rest.End⟩ : Timpl_Rest)⟩ : Timpl_Event)).set v126.toNat (⟨b143.Kind, b143.Realm, b143.By, b143.Client, b143.Service, (IntKind.i64.wrap ((IntKind.i64.wrap ((IntKind.i64.wrap ((IntKind.i64.wrap ((IntKind.i64.wrap (v125 + (1 : Int))) + (1 : Int))) + (1 : Int))) + (1 : Int))) + (1 : Int))), b143.Parent, b143.Evid, (⟨b143.Rest.Servers, b143.Rest.Ops, b143.Rest.End⟩ : Timpl_Rest)⟩ : Timpl_Event)).set v126.toNat (⟨b144.Kind, b144.Realm, b144.By, b144.Client, b144.Service, b144.Key, (IntKind.i64.wrap ((IntKind.i64.wrap ((IntKind.i64.wrap ((IntKind.i64.wrap ((IntKind.i64.wrap ((IntKind.i64.wrap (v125 + (1 : Int))) + (1 : Int))) + (1 : Int))) + (1 : Int))) + (1 : Int))) + (1 : Int))), b144.Evid, (⟨b144.Rest.Servers, b144.Rest.Ops, b144.Rest.End⟩ : Timpl_Rest)⟩ : Timpl_Event)).set v126.toNat (⟨b145.Kind, b145.Realm, b145.By, b145.Client, b145.Service, b145.Key, b145.Parent, (IntKind.i64.wrap ((IntKind.i64.wrap ((IntKind.i64.wrap ((IntKind.i64.wrap ((IntKind.i64.wrap ((IntKind.i64.wrap ((IntKind.i64.wrap (v125 + (1 : Int))) + (1 : Int))) + (1 : Int))) + (1 : Int))) + (1 : Int))) + (1 : Int))) + (1 : Int))), (⟨b145.Rest.Servers, b145.Rest.Ops, b145.Rest.End⟩ : Timpl_Rest)⟩ : Timpl_Event)).set v126.toNat (⟨b146.Kind, b146.Realm, b146.By, b146.Client, b146.Service, b146.Key, b146.Parent, b146.Evid, (⟨(IntKind.i64.wrap ((IntKind.i64.wrap ((IntKind.i64.wrap ((IntKind.i64.wrap ((IntKind.i64.wrap ((IntKind.i64.wrap ((IntKind.i64.wrap ((IntKind.i64.wrap (v125 + (1 : Int))) + (1 : Int))) + (1 : Int))) + (1 : Int))) + (1 : Int))) + (1 : Int))) + (1 : Int))) + (1 : Int))), b146.Rest.Ops, b146.Rest.End⟩ : Timpl_Rest)⟩ : Timpl_Event)).set v126.toNat (⟨b147.Kind, b147.Realm, b147.By, b147.Client, b147.Service, b147.Key, b147.Parent, b147.Evid, (⟨b147.Rest.Servers, (IntKind.i64.wrap ((IntKind.i64.wrap ((IntKind.i64.wrap ((IntKind.i64.wrap ((IntKind.i64.wrap ((IntKind.i64.wrap ((IntKind.i64.wrap ((IntKind.i64.wrap ((IntKind.i64.wrap (v125 + (1 : Int))) + (1 : Int))) + (1 : Int))) + (1 : Int))) + (1 : Int))) + (1 : Int))) + (1 : Int))) + (1 : Int))) + (1 : Int))), b147.Rest.End⟩ : Timpl_Rest)⟩ : Timpl_Event))) (e := eTimpl_Event) (a' := (⟨b148.Kind, b148.Realm, b148.By, b148.Client, b148.Service, b148.Key, b148.Parent, b148.Evid, (⟨b148.Rest.Servers, b148.Rest.Ops, (IntKind.i64.wrap ((IntKind.i64.wrap ((IntKind.i64.wrap ((IntKind.i64.wrap ((IntKind.i64.wrap ((IntKind.i64.wrap ((IntKind.i64.wrap ((IntKind.i64.wrap ((IntKind.i64.wrap ((IntKind.i64.wrap (v125 + (1 : Int))) + (1 : Int))) + (1 : Int))) + (1 : Int))) + (1 : Int))) + (1 : Int))) + (1 : Int))) + (1 : Int))) + (1 : Int))) + (1 : Int)))⟩ : Timpl_Rest)⟩ : Timpl_Event)) shape3 hF rfl rfl rfl rfl rfl rfl rfl (at?_get hb148).2 rfl rfl ?_
      refine L.nil ?_
      refine WpC.regionL ?_
      refine L.move hF rfl rfl rfl ?_
      refine L.bin hF rfl rfl rfl rfl rfl rfl ?_
      refine L.assign hF rfl rfl rfl ?_
      refine L.nil ?_
      refine WpC.regionL ?_
      refine L.move hF rfl rfl rfl ?_
      refine L.bin hF rfl rfl rfl rfl rfl rfl ?_
      refine L.assign hF rfl rfl rfl ?_
      refine L.nil ?_
      exact ⟨k2, _, by omega, ⟨(((((((((((v124.set v126.toNat (⟨v125, b138.Realm, b138.By, b138.Client, b138.Service, b138.Key, b138.Parent, b138.Evid, (⟨b138.Rest.Servers, b138.Rest.Ops, b138.Rest.End⟩ : Timpl_Rest)⟩ : Timpl_Event)).set v126.toNat (⟨b139.Kind, (IntKind.i64.wrap (v125 + (1 : Int))), b139.By, b139.Client, b139.Service, b139.Key, b139.Parent, b139.Evid, (⟨b139.Rest.Servers, b139.Rest.Ops, b139.Rest.End⟩ : Timpl_Rest)⟩ : Timpl_Event)).set v126.toNat (⟨b140.Kind, b140.Realm, (IntKind.i64.wrap ((IntKind.i64.wrap (v125 + (1 : Int))) + (1 : Int))), b140.Client, b140.Service, b140.Key, b140.Parent, b140.Evid, (⟨b140.Rest.Servers, b140.Rest.Ops, b140.Rest.End⟩ : Timpl_Rest)⟩ : Timpl_Event)).set v126.toNat (⟨b141.Kind, b141.Realm, b141.By, (IntKind.i64.wrap ((IntKind.i64.wrap ((IntKind.i64.wrap (v125 + (1 : Int))) + (1 : Int))) + (1 : Int))), b141.Service, b141.Key, b141.Parent, b141.Evid, (⟨b141.Rest.Servers, b141.Rest.Ops, b141.Rest.End⟩ : Timpl_Rest)⟩ : Timpl_Event)).set v126.toNat (⟨b142.Kind, b142.Realm, b142.By, b142.Client, (IntKind.i64.wrap ((IntKind.i64.wrap ((IntKind.i64.wrap ((IntKind.i64.wrap (v125 + (1 : Int))) + (1 : Int))) + (1 : Int))) + (1 : Int))), b142.Key, b142.Parent, b142.Evid, (⟨b142.Rest.Servers, b142.Rest.Ops, b142.Rest.End⟩ : Timpl_Rest)⟩ : Timpl_Event)).set v126.toNat (⟨b143.Kind, b143.Realm, b143.By, b143.Client, b143.Service, (IntKind.i64.wrap ((IntKind.i64.wrap ((IntKind.i64.wrap ((IntKind.i64.wrap ((IntKind.i64.wrap (v125 + (1 : Int))) + (1 : Int))) + (1 : Int))) + (1 : Int))) + (1 : Int))), b143.Parent, b143.Evid, (⟨b143.Rest.Servers, b143.Rest.Ops, b143.Rest.End⟩ : Timpl_Rest)⟩ : Timpl_Event)).set v126.toNat (⟨b144.Kind, b144.Realm, b144.By, b144.Client, b144.Service, b144.Key, (IntKind.i64.wrap ((IntKind.i64.wrap ((IntKind.i64.wrap ((IntKind.i64.wrap ((IntKind.i64.wrap ((IntKind.i64.wrap (v125 + (1 : Int))) + (1 : Int))) + (1 : Int))) + (1 : Int))) + (1 : Int))) + (1 : Int))), b144.Evid, (⟨b144.Rest.Servers, b144.Rest.Ops, b144.Rest.End⟩ : Timpl_Rest)⟩ : Timpl_Event)).set v126.toNat (⟨b145.Kind, b145.Realm, b145.By, b145.Client, b145.Service, b145.Key, b145.Parent, (IntKind.i64.wrap ((IntKind.i64.wrap ((IntKind.i64.wrap ((IntKind.i64.wrap ((IntKind.i64.wrap ((IntKind.i64.wrap ((IntKind.i64.wrap (v125 + (1 : Int))) + (1 : Int))) + (1 : Int))) + (1 : Int))) + (1 : Int))) + (1 : Int))) + (1 : Int))), (⟨b145.Rest.Servers, b145.Rest.Ops, b145.Rest.End⟩ : Timpl_Rest)⟩ : Timpl_Event)).set v126.toNat (⟨b146.Kind, b146.Realm, b146.By, b146.Client, b146.Service, b146.Key, b146.Parent, b146.Evid, (⟨(IntKind.i64.wrap ((IntKind.i64.wrap ((IntKind.i64.wrap ((IntKind.i64.wrap ((IntKind.i64.wrap ((IntKind.i64.wrap ((IntKind.i64.wrap ((IntKind.i64.wrap (v125 + (1 : Int))) + (1 : Int))) + (1 : Int))) + (1 : Int))) + (1 : Int))) + (1 : Int))) + (1 : Int))) + (1 : Int))), b146.Rest.Ops, b146.Rest.End⟩ : Timpl_Rest)⟩ : Timpl_Event)).set v126.toNat (⟨b147.Kind, b147.Realm, b147.By, b147.Client, b147.Service, b147.Key, b147.Parent, b147.Evid, (⟨b147.Rest.Servers, (IntKind.i64.wrap ((IntKind.i64.wrap ((IntKind.i64.wrap ((IntKind.i64.wrap ((IntKind.i64.wrap ((IntKind.i64.wrap ((IntKind.i64.wrap ((IntKind.i64.wrap ((IntKind.i64.wrap (v125 + (1 : Int))) + (1 : Int))) + (1 : Int))) + (1 : Int))) + (1 : Int))) + (1 : Int))) + (1 : Int))) + (1 : Int))) + (1 : Int))), b147.Rest.End⟩ : Timpl_Rest)⟩ : Timpl_Event)).set v126.toNat (⟨b148.Kind, b148.Realm, b148.By, b148.Client, b148.Service, b148.Key, b148.Parent, b148.Evid, (⟨b148.Rest.Servers, b148.Rest.Ops, (IntKind.i64.wrap ((IntKind.i64.wrap ((IntKind.i64.wrap ((IntKind.i64.wrap ((IntKind.i64.wrap ((IntKind.i64.wrap ((IntKind.i64.wrap ((IntKind.i64.wrap ((IntKind.i64.wrap ((IntKind.i64.wrap (v125 + (1 : Int))) + (1 : Int))) + (1 : Int))) + (1 : Int))) + (1 : Int))) + (1 : Int))) + (1 : Int))) + (1 : Int))) + (1 : Int))) + (1 : Int)))⟩ : Timpl_Rest)⟩ : Timpl_Event)), (IntKind.i64.wrap ((IntKind.i64.wrap ((IntKind.i64.wrap ((IntKind.i64.wrap ((IntKind.i64.wrap ((IntKind.i64.wrap ((IntKind.i64.wrap ((IntKind.i64.wrap ((IntKind.i64.wrap ((IntKind.i64.wrap ((IntKind.i64.wrap (v125 + (1 : Int))) + (1 : Int))) + (1 : Int))) + (1 : Int))) + (1 : Int))) + (1 : Int))) + (1 : Int))) + (1 : Int))) + (1 : Int))) + (1 : Int))) + (1 : Int))), (IntKind.i64.wrap (v126 + (1 : Int))), by omega, H, rfl⟩, Le.mk [(0, 0)] hm rfl ⟨⟨_, rfl, rfl⟩, ⟨_, rfl, rfl⟩, ⟨_, rfl, rfl⟩, trivial⟩ ⟨⟨_, rfl, rfl⟩, trivial⟩ trivial⟩
    · replace H := condF hc H
      refine WpC.exit ?_
      refine WpC.seq ?_
      refine WpC.regionL ?_
      refine L.move hF rfl rfl rfl ?_
      refine L.assign hF rfl rfl rfl ?_
      refine L.nil ?_
      refine WpC.ret ?_
      cases H
      exact Leaves.retB rfl rfl rfl rfl ⟨rfl, rfl, rfl⟩
/-! ### Flaws_markIntS -/
def Flaws_markIntS.l2 : Nat → (List Int) → Int → Int → Option (Int × List Int)
  | 0, _, _, _ => none
  | k2 + 1, v24, v25, v26 => cond (decide (v26 < (v24.length : Int))) ((at? v24 v26).bind fun b28 => (Flaws_markIntS.l2 k2) (v24.set v26.toNat v25) (IntKind.i64.wrap (v25 + (1 : Int))) (IntKind.i64.wrap (v26 + (1 : Int)))) (some (v25, v24))
def Flaws_markIntS (k : Nat) (a0 : List Int) (a1 : Int) : Option (Int × List Int) := Flaws_markIntS.l2 k a0 a1 (0 : Int)
theorem ent29 : Enters Try.prog 29 := ⟨Try.f29, Try.func29, rfl, by decide⟩
set_option maxHeartbeats 8000000 in
set_option maxRecDepth 100000 in
theorem Flaws_markIntS_gives (k : Nat) (a0 : List Int) (a1 : Int) (r : Int × List Int) (H : Flaws_markIntS k a0 a1 = some r) : GivesB Try.prog 29 [V.one (Cell.ow 1 (List.map eI a0)), V.one (cI a1)] [] [0] [V.one (cI r.1)] [] [V.one (Cell.ow 1 (List.map eI r.2))] := by
  refine GivesB.intro Try.func29 rfl rfl rfl rfl rfl rfl ?_
  intro F hF hm
  unfold Flaws_markIntS at H
  obtain ⟨K, hK⟩ : ∃ K, k ≤ K := ⟨k, Nat.le_refl k⟩
  refine WpC.seq ?_
  refine WpC.regionL ?_
  refine L.assign hF rfl rfl rfl ?_
  refine L.nil ?_
  refine WpC.seq ?_
  refine WpC.seq ?_
  refine WpC.regionL ?_
  refine L.assign hF rfl rfl rfl ?_
  refine L.nil ?_
  refine WpC.block ?_
  refine WpC.loopL (P := Try.prog) (fun n σ => ∃ v24 : List Int, ∃ v25 : Int, ∃ v26 : Int, n ≤ K ∧ Flaws_markIntS.l2 n v24 v25 v26 = some r ∧ σ = mkSt [(0, one (Cell.own 0)), (1, one (cI v25)), (5, one (cI v26))] [(0, ⟨1, List.map eI v24⟩)] [] 2) k ⟨_, ⟨a0, a1, (0 : Int), by omega, H, rfl⟩, Le.mk [(0, 0)] hm rfl ⟨⟨_, rfl, rfl⟩, ⟨_, rfl, rfl⟩, ⟨_, rfl, rfl⟩, trivial⟩ ⟨⟨_, rfl, rfl⟩, trivial⟩ trivial⟩ ?_
  clear H
  rintro k2 _ ⟨v24, v25, v26, hk2, H, rfl⟩
  cases k2 with
  | zero => cases H
  | succ k2 =>
    rw [Flaws_markIntS.l2] at H
    refine WpC.seq ?_
    refine WpC.seq ?_
    refine WpC.regionL ?_
    refine L.move hF rfl rfl rfl ?_
    refine L.move hF rfl rfl rfl ?_
    refine L.lenR (xs := v24) (e := eI) Try.underlying24 hF rfl rfl rfl rfl ?_
    refine L.bin hF rfl rfl rfl rfl rfl rfl ?_
    refine L.nil ?_
    refine WpC.cond rfl (fun hc => ?_) (fun hc => ?_)
    · replace H := condT hc H
      refine WpC.skip ?_
      refine WpC.seq ?_
      refine WpC.block ?_
      refine WpC.seq ?_
      refine WpC.regionL ?_
      refine L.move hF rfl rfl rfl ?_
      refine L.move hF rfl rfl rfl ?_
      refine L.move hF rfl rfl rfl ?_
      obtain ⟨b28, hb28, H⟩ := bindS H
      refine L.idxR (xs := v24) (e := eI) Try.underlying24 info3 hF rfl rfl rfl rfl rfl hb28 rfl rfl ?_
      refine L.storeEp (xs := v24) (e := eI) (a' := v25) shape3 hF rfl rfl rfl rfl rfl rfl rfl (at?_get hb28).2 rfl rfl ?_
      refine L.nil ?_
      refine WpC.regionL ?_
      refine L.move hF rfl rfl rfl ?_
      refine L.bin hF rfl rfl rfl rfl rfl rfl ?_
      refine L.assign hF rfl rfl rfl ?_
      refine L.nil ?_
      refine WpC.regionL ?_
      refine L.move hF rfl rfl rfl ?_
      refine L.bin hF rfl rfl rfl rfl rfl rfl ?_
      refine L.assign hF rfl rfl rfl ?_
      refine L.nil ?_
      exact ⟨k2, _, by omega, ⟨(v24.set v26.toNat v25), (IntKind.i64.wrap (v25 + (1 : Int))), (IntKind.i64.wrap (v26 + (1 : Int))), by omega, H, rfl⟩, Le.mk [(0, 0)] hm rfl ⟨⟨_, rfl, rfl⟩, ⟨_, rfl, rfl⟩, ⟨_, rfl, rfl⟩, trivial⟩ ⟨⟨_, rfl, rfl⟩, trivial⟩ trivial⟩
    · replace H := condF hc H
      refine WpC.exit ?_
      refine WpC.seq ?_
      refine WpC.regionL ?_
      refine L.move hF rfl rfl rfl ?_
      refine L.assign hF rfl rfl rfl ?_
      refine L.nil ?_
      refine WpC.ret ?_
      cases H
      exact Leaves.retB rfl rfl rfl rfl ⟨rfl, rfl, rfl⟩
/-! ### Flaws_heldIntS -/
def Flaws_heldIntS.l2 : Nat → (List Int) → Int → Int → Option Int
  | 0, _, _, _ => none
  | k2 + 1, v34, v35, v36 => cond (decide (v36 < (v34.length : Int))) ((at? v34 v36).bind fun b40 => cond (b40 != v35) (some (-1 : Int)) ((Flaws_heldIntS.l2 k2) v34 (IntKind.i64.wrap (v35 + (1 : Int))) (IntKind.i64.wrap (v36 + (1 : Int))))) (some v35)
def Flaws_heldIntS (k : Nat) (a0 : List Int) (a1 : Int) : Option Int := Flaws_heldIntS.l2 k a0 a1 (0 : Int)
theorem ent30 : Enters Try.prog 30 := ⟨Try.f30, Try.func30, rfl, by decide⟩
set_option maxHeartbeats 8000000 in
set_option maxRecDepth 100000 in
theorem Flaws_heldIntS_gives (k : Nat) (g0 : Bool) (a0 : List Int) (a1 : Int) (r : Int) (H : Flaws_heldIntS k a0 a1 = some r) : Gives Try.prog 30 [V.one (Cell.sl g0 (List.map eI a0)), V.one (cI a1)] [] [V.one (cI r)] [] := by
  refine Gives.intro Try.func30 rfl rfl rfl rfl ?_
  intro F hF hm
  unfold Flaws_heldIntS at H
  obtain ⟨K, hK⟩ : ∃ K, k ≤ K := ⟨k, Nat.le_refl k⟩
  refine WpC.seq ?_
  refine WpC.regionL ?_
  refine L.assign hF rfl rfl rfl ?_
  refine L.nil ?_
  refine WpC.seq ?_
  refine WpC.seq ?_
  refine WpC.regionL ?_
  refine L.assign hF rfl rfl rfl ?_
  refine L.nil ?_
  refine WpC.block ?_
  refine WpC.loopL (P := Try.prog) (fun n σ => ∃ v34 : List Int, ∃ v35 : Int, ∃ v36 : Int, n ≤ K ∧ Flaws_heldIntS.l2 n v34 v35 v36 = some r ∧ σ = mkSt [(0, one (Cell.sl g0 (List.map eI v34))), (1, one (cI v35)), (5, one (cI v36))] [] [] 0) k ⟨_, ⟨a0, a1, (0 : Int), by omega, H, rfl⟩, Le.mk [] hm rfl ⟨⟨_, rfl, rfl⟩, ⟨_, rfl, rfl⟩, ⟨_, rfl, rfl⟩, trivial⟩ trivial trivial⟩ ?_
  clear H
  rintro k2 _ ⟨v34, v35, v36, hk2, H, rfl⟩
  cases k2 with
  | zero => cases H
  | succ k2 =>
    rw [Flaws_heldIntS.l2] at H
    refine WpC.seq ?_
    refine WpC.seq ?_
    refine WpC.regionL ?_
    refine L.move hF rfl rfl rfl ?_
    refine L.move hF rfl rfl rfl ?_
    refine L.lenR (xs := v34) (e := eI) Try.underlying24 hF rfl rfl rfl rfl ?_
    refine L.bin hF rfl rfl rfl rfl rfl rfl ?_
    refine L.nil ?_
    refine WpC.cond rfl (fun hc => ?_) (fun hc => ?_)
    · replace H := condT hc H
      refine WpC.skip ?_
      refine WpC.seq ?_
      refine WpC.block ?_
      refine WpC.seq ?_
      refine WpC.seq ?_
      refine WpC.regionL ?_
      refine L.move hF rfl rfl rfl ?_
      refine L.move hF rfl rfl rfl ?_
      obtain ⟨b40, hb40, H⟩ := bindS H
      refine L.idxR (xs := v34) (e := eI) Try.underlying24 info3 hF rfl rfl rfl rfl rfl hb40 rfl rfl ?_
      refine L.loadPe shape3 hF rfl rfl rfl rfl rfl ?_
      refine L.move hF rfl rfl rfl ?_
      refine L.bin hF rfl rfl rfl rfl rfl rfl ?_
      refine L.nil ?_
      refine WpC.cond rfl (fun hc => ?_) (fun hc => ?_)
      · replace H := condT hc H
        refine WpC.seq ?_
        refine WpC.regionL ?_
        refine L.assign hF rfl rfl rfl ?_
        refine L.nil ?_
        refine WpC.ret ?_
        cases H
        exact Leaves.ret rfl rfl rfl ⟨rfl, rfl⟩
      · replace H := condF hc H
        refine WpC.skip ?_
        refine WpC.regionL ?_
        refine L.move hF rfl rfl rfl ?_
        refine L.bin hF rfl rfl rfl rfl rfl rfl ?_
        refine L.assign hF rfl rfl rfl ?_
        refine L.nil ?_
        refine WpC.regionL ?_
        refine L.move hF rfl rfl rfl ?_
        refine L.bin hF rfl rfl rfl rfl rfl rfl ?_
        refine L.assign hF rfl rfl rfl ?_
        refine L.nil ?_
        exact ⟨k2, _, by omega, ⟨v34, (IntKind.i64.wrap (v35 + (1 : Int))), (IntKind.i64.wrap (v36 + (1 : Int))), by omega, H, rfl⟩, Le.mk [] hm rfl ⟨⟨_, rfl, rfl⟩, ⟨_, rfl, rfl⟩, ⟨_, rfl, rfl⟩, trivial⟩ trivial trivial⟩
    · replace H := condF hc H
      refine WpC.exit ?_
      refine WpC.seq ?_
      refine WpC.regionL ?_
      refine L.move hF rfl rfl rfl ?_
      refine L.assign hF rfl rfl rfl ?_
      refine L.nil ?_
      refine WpC.ret ?_
      cases H
      exact Leaves.ret rfl rfl rfl ⟨rfl, rfl⟩
/-! ### Flaws_FnExactChain -/
def Flaws_FnExactChain (k : Nat) (a0 : List Tlaws_Event) (a1 : Int) : Option Bool := (Flaws_szEventS k a0 (1048576 : Int)).bind fun r1 => cond (decide (r1 < (0 : Int))) (some true) ((Flaws_toEventS k a0).bind fun r2 => (Fspec_Chain k r2 a1).bind fun r3 => (Flaws_toEventS k a0).bind fun r4 => (Fimpl_Chain k r4 a1).bind fun r5 => (Flaws_eqIntS k r5 r3).bind fun r7 => cond (!r7) (some false) ((Flaws_toEventS k a0).bind fun r10 => (Flaws_eqEventS k r4 r10).bind fun r11 => cond (!r11) (some false) ((Flaws_markEventS k r4 (1 : Int)).bind fun r12 => cond (decide (r12.1 < (0 : Int))) (some false) ((Flaws_eqIntS k r5 r3).bind fun r16 => cond (!r16) (some false) ((Flaws_markIntS k r5 (1 : Int)).bind fun r17 => (Flaws_heldIntS k r17.2 (1 : Int)).bind fun r18 => cond (decide (r18 < (0 : Int))) (some false) (cond (r18 != r17.1) (some false) ((Flaws_toEventS k a0).bind fun r19 => (Fimpl_Chain k r19 a1).bind fun r20 => (Flaws_eqIntS k r20 r3).bind fun r22 => cond (!r22) (some false) ((Flaws_heldIntS k r17.2 (1 : Int)).bind fun r23 => cond (decide (r23 < (0 : Int))) (some false) (cond (r23 != r17.1) (some false) (some true))))))))))
theorem ent3 : Enters Try.prog 3 := ⟨Try.f3, Try.func3, rfl, by decide⟩
set_option maxHeartbeats 8000000 in
set_option maxRecDepth 100000 in
theorem Flaws_FnExactChain_gives (k : Nat) (g0 : Bool) (a0 : List Tlaws_Event) (a1 : Int) (r : Bool) (H : Flaws_FnExactChain k a0 a1 = some r) : Gives Try.prog 3 [V.one (Cell.sl g0 (List.map eTlaws_Event a0)), V.one (cI a1)] [] [V.one (cL r)] [] := by
  refine Gives.intro Try.func3 rfl rfl rfl rfl ?_
  intro F hF hm
  unfold Flaws_FnExactChain at H
  obtain ⟨K, hK⟩ : ∃ K, k ≤ K := ⟨k, Nat.le_refl k⟩
  refine WpC.seq ?_
  refine WpC.regionL ?_
  refine L.assign hF rfl rfl rfl ?_
  refine L.nil ?_
  refine WpC.seq ?_
  refine WpC.regionL ?_
  refine L.assign hF rfl rfl rfl ?_
  refine L.nil ?_
  refine WpC.seq ?_
  refine WpC.regionL ?_
  refine L.move hF rfl rfl rfl ?_
  refine L.move hF rfl rfl rfl ?_
  obtain ⟨r1, hr1, H⟩ := bindS H
  refine L.call [false, false] [] [] 2 hF rfl rfl rfl ent22 rfl rfl rfl rfl rfl (Flaws_szEventS_gives k g0 a0 (1048576 : Int) r1 hr1) rfl ?_
  refine L.assign hF rfl rfl rfl ?_
  refine L.nil ?_
  refine WpC.seq ?_
  refine WpC.seq ?_
  refine WpC.regionL ?_
  refine L.move hF rfl rfl rfl ?_
  refine L.bin hF rfl rfl rfl rfl rfl rfl ?_
  refine L.nil ?_
  refine WpC.cond rfl (fun hc => ?_) (fun hc => ?_)
  · replace H := condT hc H
    refine WpC.seq ?_
    refine WpC.regionL ?_
    refine L.assign hF rfl rfl rfl ?_
    refine L.nil ?_
    refine WpC.ret ?_
    cases H
    exact Leaves.ret rfl rfl rfl ⟨rfl, rfl⟩
  · replace H := condF hc H
    refine WpC.skip ?_
    refine WpC.seq ?_
    refine WpC.regionL ?_
    refine L.move hF rfl rfl rfl ?_
    obtain ⟨r2, hr2, H⟩ := bindS H
    refine L.call [false] [] [] 3 hF rfl rfl rfl ent24 rfl rfl rfl rfl rfl (Flaws_toEventS_gives k g0 a0 r2 hr2) rfl ?_
    refine L.move hF rfl rfl rfl ?_
    obtain ⟨r3, hr3, H⟩ := bindS H
    refine L.call [false, false] [3] [] 4 hF rfl rfl rfl ent23 rfl rfl rfl rfl rfl (Fspec_Chain_gives k false r2 a1 r3 hr3) rfl ?_
    refine L.assign hF rfl rfl rfl ?_
    refine L.nil ?_
    refine WpC.seq ?_
    refine WpC.regionL ?_
    refine L.move hF rfl rfl rfl ?_
    obtain ⟨r4, hr4, H⟩ := bindS H
    refine L.call [false] [] [] 5 hF rfl rfl rfl ent24 rfl rfl rfl rfl rfl (Flaws_toEventS_gives k g0 a0 r4 hr4) rfl ?_
    refine L.assign hF rfl rfl rfl ?_
    refine L.nil ?_
    refine WpC.seq ?_
    refine WpC.regionL ?_
    refine L.move hF rfl rfl rfl ?_
    refine L.move hF rfl rfl rfl ?_
    obtain ⟨r5, hr5, H⟩ := bindS H
    refine L.call [false, false] [5] [] 6 hF rfl rfl rfl ent25 rfl rfl rfl rfl rfl (Fimpl_Chain_gives k false r4 a1 r5 hr5) rfl ?_
    refine L.assign hF rfl rfl rfl ?_
    refine L.nil ?_
    refine WpC.seq ?_
    refine WpC.seq ?_
    refine WpC.regionL ?_
    refine L.move hF rfl rfl rfl ?_
    refine L.move hF rfl rfl rfl ?_
    obtain ⟨r7, hr7, H⟩ := bindS H
    refine L.call [false, false] [6, 4] [] 7 hF rfl rfl rfl ent26 rfl rfl rfl rfl rfl (Flaws_eqIntS_gives k false false r5 r3 r7 hr7) rfl ?_
    refine L.not hF rfl rfl rfl ?_
    refine L.nil ?_
    refine WpC.cond rfl (fun hc => ?_) (fun hc => ?_)
    · replace H := condT hc H
      refine WpC.seq ?_
      refine WpC.regionL ?_
      refine L.assign hF rfl rfl rfl ?_
      refine L.nil ?_
      refine WpC.ret ?_
      cases H
      exact Leaves.ret rfl rfl rfl ⟨rfl, rfl⟩
    · replace H := condF hc H
      refine WpC.skip ?_
      refine WpC.seq ?_
      refine WpC.seq ?_
      refine WpC.regionL ?_
      refine L.move hF rfl rfl rfl ?_
      refine L.move hF rfl rfl rfl ?_
      obtain ⟨r10, hr10, H⟩ := bindS H
      refine L.call [false] [] [] 8 hF rfl rfl rfl ent24 rfl rfl rfl rfl rfl (Flaws_toEventS_gives k g0 a0 r10 hr10) rfl ?_
      obtain ⟨r11, hr11, H⟩ := bindS H
      refine L.call [false, false] [5, 8] [] 9 hF rfl rfl rfl ent27 rfl rfl rfl rfl rfl (Flaws_eqEventS_gives k false false r4 r10 r11 hr11) rfl ?_
      refine L.not hF rfl rfl rfl ?_
      refine L.nil ?_
      refine WpC.cond rfl (fun hc => ?_) (fun hc => ?_)
      · replace H := condT hc H
        refine WpC.seq ?_
        refine WpC.regionL ?_
        refine L.assign hF rfl rfl rfl ?_
        refine L.nil ?_
        refine WpC.ret ?_
        cases H
        exact Leaves.ret rfl rfl rfl ⟨rfl, rfl⟩
      · replace H := condF hc H
        refine WpC.skip ?_
        refine WpC.seq ?_
        refine WpC.regionL ?_
        refine L.assign hF rfl rfl rfl ?_
        refine L.nil ?_
        refine WpC.seq ?_
        refine WpC.regionL ?_
        refine L.move hF rfl rfl rfl ?_
        refine L.move hF rfl rfl rfl ?_
        obtain ⟨r12, hr12, H⟩ := bindS H
        refine L.callB [true, false] [] [] 10 [0] hF rfl rfl rfl ent28 rfl rfl rfl rfl rfl (Flaws_markEventS_gives k  r4 (1 : Int) r12 hr12) rfl rfl rfl ?_
        refine L.assign hF rfl rfl rfl ?_
        refine L.nil ?_
        refine WpC.seq ?_
        refine WpC.seq ?_
        refine WpC.regionL ?_
        refine L.move hF rfl rfl rfl ?_
        refine L.bin hF rfl rfl rfl rfl rfl rfl ?_
        refine L.move hF rfl rfl rfl ?_
        refine L.split (fun hc => ?_) (fun hc => ?_)
        · replace H := condT hc H
          refine L.off hF rfl rfl ?_
          refine L.off hF rfl rfl ?_
          refine L.off hF rfl rfl ?_
          refine L.off hF rfl rfl ?_
          refine L.pick hF rfl rfl rfl rfl ?_
          refine L.nil ?_
          refine WpC.cond rfl (fun _ => ?_) (fun hc => by cases hc)
          refine WpC.seq ?_
          refine WpC.regionL ?_
          refine L.assign hF rfl rfl rfl ?_
          refine L.nil ?_
          refine WpC.ret ?_
          cases H
          exact Leaves.ret rfl rfl rfl ⟨rfl, rfl⟩
        · replace H := condF hc H
          refine L.move hF rfl rfl rfl ?_
          refine L.move hF rfl rfl rfl ?_
          obtain ⟨r16, hr16, H⟩ := bindS H
          refine L.call [false, false] [6, 4] [] 11 hF rfl rfl rfl ent26 rfl rfl rfl rfl rfl (Flaws_eqIntS_gives k false false r5 r3 r16 hr16) rfl ?_
          refine L.not hF rfl rfl rfl ?_
          refine L.pick hF rfl rfl rfl rfl ?_
          refine L.nil ?_
          refine WpC.cond rfl (fun hc => ?_) (fun hc => ?_)
          · replace H := condT hc H
            refine WpC.seq ?_
            refine WpC.regionL ?_
            refine L.assign hF rfl rfl rfl ?_
            refine L.nil ?_
            refine WpC.ret ?_
            cases H
            exact Leaves.ret rfl rfl rfl ⟨rfl, rfl⟩
          · replace H := condF hc H
            refine WpC.skip ?_
            refine WpC.seq ?_
            refine WpC.regionL ?_
            refine L.assign hF rfl rfl rfl ?_
            refine L.nil ?_
            refine WpC.seq ?_
            refine WpC.regionL ?_
            refine L.move hF rfl rfl rfl ?_
            refine L.move hF rfl rfl rfl ?_
            obtain ⟨r17, hr17, H⟩ := bindS H
            refine L.callB [true, false] [] [] 12 [0] hF rfl rfl rfl ent29 rfl rfl rfl rfl rfl (Flaws_markIntS_gives k  r5 (1 : Int) r17 hr17) rfl rfl rfl ?_
            refine L.assign hF rfl rfl rfl ?_
            refine L.nil ?_
            refine WpC.seq ?_
            refine WpC.regionL ?_
            refine L.assign hF rfl rfl rfl ?_
            refine L.nil ?_
            refine WpC.seq ?_
            refine WpC.regionL ?_
            refine L.move hF rfl rfl rfl ?_
            refine L.move hF rfl rfl rfl ?_
            obtain ⟨r18, hr18, H⟩ := bindS H
            refine L.call [false, false] [6] [] 13 hF rfl rfl rfl ent30 rfl rfl rfl rfl rfl (Flaws_heldIntS_gives k false r17.2 (1 : Int) r18 hr18) rfl ?_
            refine L.assign hF rfl rfl rfl ?_
            refine L.nil ?_
            refine WpC.seq ?_
            refine WpC.seq ?_
            refine WpC.regionL ?_
            refine L.move hF rfl rfl rfl ?_
            refine L.bin hF rfl rfl rfl rfl rfl rfl ?_
            refine L.nil ?_
            refine WpC.cond rfl (fun hc => ?_) (fun hc => ?_)
            · replace H := condT hc H
              refine WpC.seq ?_
              refine WpC.regionL ?_
              refine L.assign hF rfl rfl rfl ?_
              refine L.nil ?_
              refine WpC.ret ?_
              cases H
              exact Leaves.ret rfl rfl rfl ⟨rfl, rfl⟩
            · replace H := condF hc H
              refine WpC.skip ?_
              refine WpC.seq ?_
              refine WpC.seq ?_
              refine WpC.regionL ?_
              refine L.move hF rfl rfl rfl ?_
              refine L.move hF rfl rfl rfl ?_
              refine L.bin hF rfl rfl rfl rfl rfl rfl ?_
              refine L.nil ?_
              refine WpC.cond rfl (fun hc => ?_) (fun hc => ?_)
              · replace H := condT hc H
                refine WpC.seq ?_
                refine WpC.regionL ?_
                refine L.assign hF rfl rfl rfl ?_
                refine L.nil ?_
                refine WpC.ret ?_
                cases H
                exact Leaves.ret rfl rfl rfl ⟨rfl, rfl⟩
              · replace H := condF hc H
                refine WpC.skip ?_
                refine WpC.seq ?_
                refine WpC.regionL ?_
                refine L.move hF rfl rfl rfl ?_
                obtain ⟨r19, hr19, H⟩ := bindS H
                refine L.call [false] [] [] 14 hF rfl rfl rfl ent24 rfl rfl rfl rfl rfl (Flaws_toEventS_gives k g0 a0 r19 hr19) rfl ?_
                refine L.move hF rfl rfl rfl ?_
                obtain ⟨r20, hr20, H⟩ := bindS H
                refine L.call [false, false] [14] [] 15 hF rfl rfl rfl ent25 rfl rfl rfl rfl rfl (Fimpl_Chain_gives k false r19 a1 r20 hr20) rfl ?_
                refine L.assign hF rfl rfl rfl ?_
                refine L.nil ?_
                refine WpC.seq ?_
                refine WpC.seq ?_
                refine WpC.regionL ?_
                refine L.move hF rfl rfl rfl ?_
                refine L.move hF rfl rfl rfl ?_
                obtain ⟨r22, hr22, H⟩ := bindS H
                refine L.call [false, false] [15, 4] [] 16 hF rfl rfl rfl ent26 rfl rfl rfl rfl rfl (Flaws_eqIntS_gives k false false r20 r3 r22 hr22) rfl ?_
                refine L.not hF rfl rfl rfl ?_
                refine L.nil ?_
                refine WpC.cond rfl (fun hc => ?_) (fun hc => ?_)
                · replace H := condT hc H
                  refine WpC.seq ?_
                  refine WpC.regionL ?_
                  refine L.assign hF rfl rfl rfl ?_
                  refine L.nil ?_
                  refine WpC.ret ?_
                  cases H
                  exact Leaves.ret rfl rfl rfl ⟨rfl, rfl⟩
                · replace H := condF hc H
                  refine WpC.skip ?_
                  refine WpC.seq ?_
                  refine WpC.regionL ?_
                  refine L.assign hF rfl rfl rfl ?_
                  refine L.nil ?_
                  refine WpC.seq ?_
                  refine WpC.regionL ?_
                  refine L.move hF rfl rfl rfl ?_
                  refine L.move hF rfl rfl rfl ?_
                  obtain ⟨r23, hr23, H⟩ := bindS H
                  refine L.call [false, false] [6] [] 17 hF rfl rfl rfl ent30 rfl rfl rfl rfl rfl (Flaws_heldIntS_gives k false r17.2 (1 : Int) r23 hr23) rfl ?_
                  refine L.assign hF rfl rfl rfl ?_
                  refine L.nil ?_
                  refine WpC.seq ?_
                  refine WpC.seq ?_
                  refine WpC.regionL ?_
                  refine L.move hF rfl rfl rfl ?_
                  refine L.bin hF rfl rfl rfl rfl rfl rfl ?_
                  refine L.nil ?_
                  refine WpC.cond rfl (fun hc => ?_) (fun hc => ?_)
                  · replace H := condT hc H
                    refine WpC.seq ?_
                    refine WpC.regionL ?_
                    refine L.assign hF rfl rfl rfl ?_
                    refine L.nil ?_
                    refine WpC.ret ?_
                    cases H
                    exact Leaves.ret rfl rfl rfl ⟨rfl, rfl⟩
                  · replace H := condF hc H
                    refine WpC.skip ?_
                    refine WpC.seq ?_
                    refine WpC.seq ?_
                    refine WpC.regionL ?_
                    refine L.move hF rfl rfl rfl ?_
                    refine L.move hF rfl rfl rfl ?_
                    refine L.bin hF rfl rfl rfl rfl rfl rfl ?_
                    refine L.nil ?_
                    refine WpC.cond rfl (fun hc => ?_) (fun hc => ?_)
                    · replace H := condT hc H
                      refine WpC.seq ?_
                      refine WpC.regionL ?_
                      refine L.assign hF rfl rfl rfl ?_
                      refine L.nil ?_
                      refine WpC.ret ?_
                      cases H
                      exact Leaves.ret rfl rfl rfl ⟨rfl, rfl⟩
                    · replace H := condF hc H
                      refine WpC.skip ?_
                      refine WpC.seq ?_
                      refine WpC.regionL ?_
                      refine L.assign hF rfl rfl rfl ?_
                      refine L.nil ?_
                      refine WpC.ret ?_
                      cases H
                      exact Leaves.ret rfl rfl rfl ⟨rfl, rfl⟩
def wfTlaws_Rest (x : Tlaws_Rest) : Prop := Go.MG.wfI x.Servers ∧ Go.MG.wfI x.Ops ∧ Go.MG.wfI x.End
theorem open84 : Go.MG.Opens Try.prog 84 eTlaws_Rest wfTlaws_Rest := by
  intro H enc W fuel cs x h
  obtain ⟨n, hp⟩ := Go.MG.struct_parts Try.underlying84 (by kernel_rfl : Try.prog.cellsOf 84 = 3) (by kernel_rfl) h
  obtain ⟨c0, k0, y0, rfl, h0, hp⟩ := hp
  obtain ⟨c1, k1, y1, rfl, h1, hp⟩ := hp
  obtain ⟨c2, k2, y2, rfl, h2, hp⟩ := hp
  obtain rfl := hp
  obtain ⟨a0, r0, w0⟩ := (Go.MG.Opens.int Try.underlying3) _ _ _ _ _ _ h0
  obtain ⟨a1, r1, w1⟩ := (Go.MG.Opens.int Try.underlying3) _ _ _ _ _ _ h1
  obtain ⟨a2, r2, w2⟩ := (Go.MG.Opens.int Try.underlying3) _ _ _ _ _ _ h2
  exact ⟨⟨a0, a1, a2⟩, (r0.append (r1.append (r2.append (rfl : Go.MG.RCs _ [] [])))), w0, w1, w2⟩
def wfTlaws_Event (x : Tlaws_Event) : Prop := Go.MG.wfI x.Kind ∧ Go.MG.wfI x.Realm ∧ Go.MG.wfI x.By ∧ Go.MG.wfI x.Client ∧ Go.MG.wfI x.Service ∧ Go.MG.wfI x.Key ∧ Go.MG.wfI x.Parent ∧ Go.MG.wfI x.Evid ∧ wfTlaws_Rest x.Rest
theorem open138 : Go.MG.Opens Try.prog 138 eTlaws_Event wfTlaws_Event := by
  intro H enc W fuel cs x h
  obtain ⟨n, hp⟩ := Go.MG.struct_parts Try.underlying138 (by kernel_rfl : Try.prog.cellsOf 138 = 11) (by kernel_rfl) h
  obtain ⟨c0, k0, y0, rfl, h0, hp⟩ := hp
  obtain ⟨c1, k1, y1, rfl, h1, hp⟩ := hp
  obtain ⟨c2, k2, y2, rfl, h2, hp⟩ := hp
  obtain ⟨c3, k3, y3, rfl, h3, hp⟩ := hp
  obtain ⟨c4, k4, y4, rfl, h4, hp⟩ := hp
  obtain ⟨c5, k5, y5, rfl, h5, hp⟩ := hp
  obtain ⟨c6, k6, y6, rfl, h6, hp⟩ := hp
  obtain ⟨c7, k7, y7, rfl, h7, hp⟩ := hp
  obtain ⟨c8, k8, y8, rfl, h8, hp⟩ := hp
  obtain rfl := hp
  obtain ⟨a0, r0, w0⟩ := (Go.MG.Opens.int Try.underlying3) _ _ _ _ _ _ h0
  obtain ⟨a1, r1, w1⟩ := (Go.MG.Opens.int Try.underlying3) _ _ _ _ _ _ h1
  obtain ⟨a2, r2, w2⟩ := (Go.MG.Opens.int Try.underlying3) _ _ _ _ _ _ h2
  obtain ⟨a3, r3, w3⟩ := (Go.MG.Opens.int Try.underlying3) _ _ _ _ _ _ h3
  obtain ⟨a4, r4, w4⟩ := (Go.MG.Opens.int Try.underlying3) _ _ _ _ _ _ h4
  obtain ⟨a5, r5, w5⟩ := (Go.MG.Opens.int Try.underlying3) _ _ _ _ _ _ h5
  obtain ⟨a6, r6, w6⟩ := (Go.MG.Opens.int Try.underlying3) _ _ _ _ _ _ h6
  obtain ⟨a7, r7, w7⟩ := (Go.MG.Opens.int Try.underlying3) _ _ _ _ _ _ h7
  obtain ⟨a8, r8, w8⟩ := open84 _ _ _ _ _ _ h8
  exact ⟨⟨a0, a1, a2, a3, a4, a5, a6, a7, a8⟩, (r0.append (r1.append (r2.append (r3.append (r4.append (r5.append (r6.append (r7.append (r8.append (rfl : Go.MG.RCs _ [] [])))))))))), w0, w1, w2, w3, w4, w5, w6, w7, w8⟩
theorem open22 : Go.MG.Opens Try.prog 22 (Go.MG.eR eTlaws_Event) (Go.MG.wfR wfTlaws_Event) := Go.MG.Opens.slice Try.underlying22 open138 (fun _ => (by kernel_rfl : Try.prog.cellsOf 138 = 11).symm) (fun _ => rfl) (fun _ => rfl) (by kernel_rfl)
end Go.Proofs.Ytcolcmjcjpikcaa.M
