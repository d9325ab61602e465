import Derived.Test.YtcolcmjcjpikcaaSd
import Derived.Test.YtcolcmjcjpikcaaProg
namespace Go.Proofs.Ytcolcmjcjpikcaa.M
open Go Go.MG
set_option linter.unusedVariables false
set_option linter.unusedSimpArgs false
structure Timpl_Rest where
  Servers : Int
  Ops : Int
  End : Int
def eTimpl_Rest (x : Timpl_Rest) : List Cell := [cI x.Servers, cI x.Ops, cI x.End]
structure Tlaws_Pair where
  A : Int
  B : Int
def eTlaws_Pair (x : Tlaws_Pair) : List Cell := [cI x.A, cI x.B]
structure Tlaws_Config where
  UserRealm : List Int
  ServiceRealm : List Int
  Links : List Tlaws_Pair
  Proxy : List Tlaws_Pair
  Skew : Int
def eTlaws_Config (x : Tlaws_Config) : List Cell := [Cell.sl true (List.map eI x.UserRealm), Cell.sl true (List.map eI x.ServiceRealm), Cell.sl true (List.map eTlaws_Pair x.Links), Cell.sl true (List.map eTlaws_Pair x.Proxy), cI x.Skew]
structure Tlaws_Rest where
  Servers : Int
  Ops : Int
  End : Int
def eTlaws_Rest (x : Tlaws_Rest) : List Cell := [cI x.Servers, cI x.Ops, cI x.End]
structure Timpl_Pair where
  A : Int
  B : Int
def eTimpl_Pair (x : Timpl_Pair) : List Cell := [cI x.A, cI x.B]
structure Timpl_Config where
  UserRealm : List Int
  ServiceRealm : List Int
  Links : List Timpl_Pair
  Proxy : List Timpl_Pair
  Skew : Int
def eTimpl_Config (x : Timpl_Config) : List Cell := [Cell.sl true (List.map eI x.UserRealm), Cell.sl true (List.map eI x.ServiceRealm), Cell.sl true (List.map eTimpl_Pair x.Links), Cell.sl true (List.map eTimpl_Pair x.Proxy), cI x.Skew]
structure Tlaws_Auth where
  Client : Int
  Time : Int
  Seq : Int
def eTlaws_Auth (x : Tlaws_Auth) : List Cell := [cI x.Client, cI x.Time, cI x.Seq]
structure Tlaws_Accept where
  Server : Int
  Client : Int
  Key : Int
  Op : Int
  Now : Int
  Auth : Tlaws_Auth
  Rest : Tlaws_Rest
  Path : List Int
  Via : List Int
  Leaks : Int
  Ticket : List UInt8
def eTlaws_Accept (x : Tlaws_Accept) : List Cell := [cI x.Server, cI x.Client, cI x.Key, cI x.Op, cI x.Now, cI x.Auth.Client, cI x.Auth.Time, cI x.Auth.Seq, cI x.Rest.Servers, cI x.Rest.Ops, cI x.Rest.End, Cell.sl true (List.map eI x.Path), Cell.sl true (List.map eI x.Via), cI x.Leaks, cS x.Ticket]
structure Timpl_Auth where
  Client : Int
  Time : Int
  Seq : Int
def eTimpl_Auth (x : Timpl_Auth) : List Cell := [cI x.Client, cI x.Time, cI x.Seq]
structure Timpl_Accept where
  Server : Int
  Client : Int
  Key : Int
  Op : Int
  Now : Int
  Auth : Timpl_Auth
  Rest : Timpl_Rest
  Path : List Int
  Via : List Int
  Leaks : Int
  Ticket : List UInt8
def eTimpl_Accept (x : Timpl_Accept) : List Cell := [cI x.Server, cI x.Client, cI x.Key, cI x.Op, cI x.Now, cI x.Auth.Client, cI x.Auth.Time, cI x.Auth.Seq, cI x.Rest.Servers, cI x.Rest.Ops, cI x.Rest.End, Cell.sl true (List.map eI x.Path), Cell.sl true (List.map eI x.Via), cI x.Leaks, cS x.Ticket]
theorem mixed : Try.prog.follows .mixedOrders = true := by kernel_rfl
theorem shape3 : MG.shape Try.prog 3 = some (false, 1) := by kernel_rfl
theorem shape9 : MG.shape Try.prog 9 = some (false, 1) := by kernel_rfl
theorem shape24 : MG.shape Try.prog 24 = some (false, 1) := by kernel_rfl
theorem shape74 : MG.shape Try.prog 74 = some (true, 3) := by kernel_rfl
theorem shape81 : MG.shape Try.prog 81 = some (false, 1) := by kernel_rfl
theorem shape83 : MG.shape Try.prog 83 = some (true, 5) := by kernel_rfl
theorem shape84 : MG.shape Try.prog 84 = some (true, 3) := by kernel_rfl
theorem shape88 : MG.shape Try.prog 88 = some (false, 1) := by kernel_rfl
theorem shape90 : MG.shape Try.prog 90 = some (true, 5) := by kernel_rfl
theorem shape106 : MG.shape Try.prog 106 = some (true, 3) := by kernel_rfl
theorem shape108 : MG.shape Try.prog 108 = some (true, 15) := by kernel_rfl
theorem shape111 : MG.shape Try.prog 111 = some (true, 3) := by kernel_rfl
theorem shape113 : MG.shape Try.prog 113 = some (true, 15) := by kernel_rfl
theorem shape256 : MG.shape Try.prog 256 = some (true, 2) := by kernel_rfl
theorem shape258 : MG.shape Try.prog 258 = some (true, 2) := by kernel_rfl
theorem info3 : Try.prog.info? 3 = some Try.t3 := by kernel_rfl
theorem info9 : Try.prog.info? 9 = some Try.t9 := by kernel_rfl
theorem info24 : Try.prog.info? 24 = some Try.t24 := by kernel_rfl
theorem info74 : Try.prog.info? 74 = some Try.t74 := by kernel_rfl
theorem info81 : Try.prog.info? 81 = some Try.t81 := by kernel_rfl
theorem info84 : Try.prog.info? 84 = some Try.t84 := by kernel_rfl
theorem info88 : Try.prog.info? 88 = some Try.t88 := by kernel_rfl
theorem info90 : Try.prog.info? 90 = some Try.t90 := by kernel_rfl
theorem info106 : Try.prog.info? 106 = some Try.t106 := by kernel_rfl
theorem info111 : Try.prog.info? 111 = some Try.t111 := by kernel_rfl
theorem info113 : Try.prog.info? 113 = some Try.t113 := by kernel_rfl
theorem info256 : Try.prog.info? 256 = some Try.t256 := by kernel_rfl
theorem info258 : Try.prog.info? 258 = some Try.t258 := by kernel_rfl
abbrev bx (a b c d : Int) : List Cell := [cI a, cI b, cI c, cI d]
theorem S3 {π : Nat → Option Nat} {σ : St} {t0 t1 t2 : Nat} {s0 u0 s1 u1 s2 u2 : Slot} (h0 : renS π s0 = some u0) (g0 : σ.slots t0 = some u0) (h1 : renS π s1 = some u1) (g1 : σ.slots t1 = some u1) (h2 : renS π s2 = some u2) (g2 : σ.slots t2 = some u2) : SlotsOk π σ [(t0, s0), (t1, s1), (t2, s2)] := ⟨⟨_, h0, g0⟩, ⟨_, h1, g1⟩, ⟨_, h2, g2⟩, trivial⟩
theorem S4 {π : Nat → Option Nat} {σ : St} {t0 t1 t2 t3 : Nat} {s0 u0 s1 u1 s2 u2 s3 u3 : Slot} (h0 : renS π s0 = some u0) (g0 : σ.slots t0 = some u0) (h1 : renS π s1 = some u1) (g1 : σ.slots t1 = some u1) (h2 : renS π s2 = some u2) (g2 : σ.slots t2 = some u2) (h3 : renS π s3 = some u3) (g3 : σ.slots t3 = some u3) : SlotsOk π σ [(t0, s0), (t1, s1), (t2, s2), (t3, s3)] := ⟨⟨_, h0, g0⟩, ⟨_, h1, g1⟩, ⟨_, h2, g2⟩, ⟨_, h3, g3⟩, trivial⟩
theorem S5 {π : Nat → Option Nat} {σ : St} {t0 t1 t2 t3 t4 : Nat} {s0 u0 s1 u1 s2 u2 s3 u3 s4 u4 : Slot} (h0 : renS π s0 = some u0) (g0 : σ.slots t0 = some u0) (h1 : renS π s1 = some u1) (g1 : σ.slots t1 = some u1) (h2 : renS π s2 = some u2) (g2 : σ.slots t2 = some u2) (h3 : renS π s3 = some u3) (g3 : σ.slots t3 = some u3) (h4 : renS π s4 = some u4) (g4 : σ.slots t4 = some u4) : SlotsOk π σ [(t0, s0), (t1, s1), (t2, s2), (t3, s3), (t4, s4)] := ⟨⟨_, h0, g0⟩, ⟨_, h1, g1⟩, ⟨_, h2, g2⟩, ⟨_, h3, g3⟩, ⟨_, h4, g4⟩, trivial⟩
theorem S6 {π : Nat → Option Nat} {σ : St} {t0 t1 t2 t3 t4 t5 : Nat} {s0 u0 s1 u1 s2 u2 s3 u3 s4 u4 s5 u5 : Slot} (h0 : renS π s0 = some u0) (g0 : σ.slots t0 = some u0) (h1 : renS π s1 = some u1) (g1 : σ.slots t1 = some u1) (h2 : renS π s2 = some u2) (g2 : σ.slots t2 = some u2) (h3 : renS π s3 = some u3) (g3 : σ.slots t3 = some u3) (h4 : renS π s4 = some u4) (g4 : σ.slots t4 = some u4) (h5 : renS π s5 = some u5) (g5 : σ.slots t5 = some u5) : SlotsOk π σ [(t0, s0), (t1, s1), (t2, s2), (t3, s3), (t4, s4), (t5, s5)] := ⟨⟨_, h0, g0⟩, ⟨_, h1, g1⟩, ⟨_, h2, g2⟩, ⟨_, h3, g3⟩, ⟨_, h4, g4⟩, ⟨_, h5, g5⟩, trivial⟩
theorem S7 {π : Nat → Option Nat} {σ : St} {t0 t1 t2 t3 t4 t5 t6 : Nat} {s0 u0 s1 u1 s2 u2 s3 u3 s4 u4 s5 u5 s6 u6 : Slot} (h0 : renS π s0 = some u0) (g0 : σ.slots t0 = some u0) (h1 : renS π s1 = some u1) (g1 : σ.slots t1 = some u1) (h2 : renS π s2 = some u2) (g2 : σ.slots t2 = some u2) (h3 : renS π s3 = some u3) (g3 : σ.slots t3 = some u3) (h4 : renS π s4 = some u4) (g4 : σ.slots t4 = some u4) (h5 : renS π s5 = some u5) (g5 : σ.slots t5 = some u5) (h6 : renS π s6 = some u6) (g6 : σ.slots t6 = some u6) : SlotsOk π σ [(t0, s0), (t1, s1), (t2, s2), (t3, s3), (t4, s4), (t5, s5), (t6, s6)] := ⟨⟨_, h0, g0⟩, ⟨_, h1, g1⟩, ⟨_, h2, g2⟩, ⟨_, h3, g3⟩, ⟨_, h4, g4⟩, ⟨_, h5, g5⟩, ⟨_, h6, g6⟩, trivial⟩
theorem S8 {π : Nat → Option Nat} {σ : St} {t0 t1 t2 t3 t4 t5 t6 t7 : Nat} {s0 u0 s1 u1 s2 u2 s3 u3 s4 u4 s5 u5 s6 u6 s7 u7 : Slot} (h0 : renS π s0 = some u0) (g0 : σ.slots t0 = some u0) (h1 : renS π s1 = some u1) (g1 : σ.slots t1 = some u1) (h2 : renS π s2 = some u2) (g2 : σ.slots t2 = some u2) (h3 : renS π s3 = some u3) (g3 : σ.slots t3 = some u3) (h4 : renS π s4 = some u4) (g4 : σ.slots t4 = some u4) (h5 : renS π s5 = some u5) (g5 : σ.slots t5 = some u5) (h6 : renS π s6 = some u6) (g6 : σ.slots t6 = some u6) (h7 : renS π s7 = some u7) (g7 : σ.slots t7 = some u7) : SlotsOk π σ [(t0, s0), (t1, s1), (t2, s2), (t3, s3), (t4, s4), (t5, s5), (t6, s6), (t7, s7)] := ⟨⟨_, h0, g0⟩, ⟨_, h1, g1⟩, ⟨_, h2, g2⟩, ⟨_, h3, g3⟩, ⟨_, h4, g4⟩, ⟨_, h5, g5⟩, ⟨_, h6, g6⟩, ⟨_, h7, g7⟩, trivial⟩
theorem S9 {π : Nat → Option Nat} {σ : St} {t0 t1 t2 t3 t4 t5 t6 t7 t8 : Nat} {s0 u0 s1 u1 s2 u2 s3 u3 s4 u4 s5 u5 s6 u6 s7 u7 s8 u8 : Slot} (h0 : renS π s0 = some u0) (g0 : σ.slots t0 = some u0) (h1 : renS π s1 = some u1) (g1 : σ.slots t1 = some u1) (h2 : renS π s2 = some u2) (g2 : σ.slots t2 = some u2) (h3 : renS π s3 = some u3) (g3 : σ.slots t3 = some u3) (h4 : renS π s4 = some u4) (g4 : σ.slots t4 = some u4) (h5 : renS π s5 = some u5) (g5 : σ.slots t5 = some u5) (h6 : renS π s6 = some u6) (g6 : σ.slots t6 = some u6) (h7 : renS π s7 = some u7) (g7 : σ.slots t7 = some u7) (h8 : renS π s8 = some u8) (g8 : σ.slots t8 = some u8) : SlotsOk π σ [(t0, s0), (t1, s1), (t2, s2), (t3, s3), (t4, s4), (t5, s5), (t6, s6), (t7, s7), (t8, s8)] := ⟨⟨_, h0, g0⟩, ⟨_, h1, g1⟩, ⟨_, h2, g2⟩, ⟨_, h3, g3⟩, ⟨_, h4, g4⟩, ⟨_, h5, g5⟩, ⟨_, h6, g6⟩, ⟨_, h7, g7⟩, ⟨_, h8, g8⟩, trivial⟩
theorem S10 {π : Nat → Option Nat} {σ : St} {t0 t1 t2 t3 t4 t5 t6 t7 t8 t9 : Nat} {s0 u0 s1 u1 s2 u2 s3 u3 s4 u4 s5 u5 s6 u6 s7 u7 s8 u8 s9 u9 : Slot} (h0 : renS π s0 = some u0) (g0 : σ.slots t0 = some u0) (h1 : renS π s1 = some u1) (g1 : σ.slots t1 = some u1) (h2 : renS π s2 = some u2) (g2 : σ.slots t2 = some u2) (h3 : renS π s3 = some u3) (g3 : σ.slots t3 = some u3) (h4 : renS π s4 = some u4) (g4 : σ.slots t4 = some u4) (h5 : renS π s5 = some u5) (g5 : σ.slots t5 = some u5) (h6 : renS π s6 = some u6) (g6 : σ.slots t6 = some u6) (h7 : renS π s7 = some u7) (g7 : σ.slots t7 = some u7) (h8 : renS π s8 = some u8) (g8 : σ.slots t8 = some u8) (h9 : renS π s9 = some u9) (g9 : σ.slots t9 = some u9) : SlotsOk π σ [(t0, s0), (t1, s1), (t2, s2), (t3, s3), (t4, s4), (t5, s5), (t6, s6), (t7, s7), (t8, s8), (t9, s9)] := ⟨⟨_, h0, g0⟩, ⟨_, h1, g1⟩, ⟨_, h2, g2⟩, ⟨_, h3, g3⟩, ⟨_, h4, g4⟩, ⟨_, h5, g5⟩, ⟨_, h6, g6⟩, ⟨_, h7, g7⟩, ⟨_, h8, g8⟩, ⟨_, h9, g9⟩, trivial⟩
theorem S11 {π : Nat → Option Nat} {σ : St} {t0 t1 t2 t3 t4 t5 t6 t7 t8 t9 t10 : Nat} {s0 u0 s1 u1 s2 u2 s3 u3 s4 u4 s5 u5 s6 u6 s7 u7 s8 u8 s9 u9 s10 u10 : Slot} (h0 : renS π s0 = some u0) (g0 : σ.slots t0 = some u0) (h1 : renS π s1 = some u1) (g1 : σ.slots t1 = some u1) (h2 : renS π s2 = some u2) (g2 : σ.slots t2 = some u2) (h3 : renS π s3 = some u3) (g3 : σ.slots t3 = some u3) (h4 : renS π s4 = some u4) (g4 : σ.slots t4 = some u4) (h5 : renS π s5 = some u5) (g5 : σ.slots t5 = some u5) (h6 : renS π s6 = some u6) (g6 : σ.slots t6 = some u6) (h7 : renS π s7 = some u7) (g7 : σ.slots t7 = some u7) (h8 : renS π s8 = some u8) (g8 : σ.slots t8 = some u8) (h9 : renS π s9 = some u9) (g9 : σ.slots t9 = some u9) (h10 : renS π s10 = some u10) (g10 : σ.slots t10 = some u10) : SlotsOk π σ [(t0, s0), (t1, s1), (t2, s2), (t3, s3), (t4, s4), (t5, s5), (t6, s6), (t7, s7), (t8, s8), (t9, s9), (t10, s10)] := ⟨⟨_, h0, g0⟩, ⟨_, h1, g1⟩, ⟨_, h2, g2⟩, ⟨_, h3, g3⟩, ⟨_, h4, g4⟩, ⟨_, h5, g5⟩, ⟨_, h6, g6⟩, ⟨_, h7, g7⟩, ⟨_, h8, g8⟩, ⟨_, h9, g9⟩, ⟨_, h10, g10⟩, trivial⟩
theorem S12 {π : Nat → Option Nat} {σ : St} {t0 t1 t2 t3 t4 t5 t6 t7 t8 t9 t10 t11 : Nat} {s0 u0 s1 u1 s2 u2 s3 u3 s4 u4 s5 u5 s6 u6 s7 u7 s8 u8 s9 u9 s10 u10 s11 u11 : Slot} (h0 : renS π s0 = some u0) (g0 : σ.slots t0 = some u0) (h1 : renS π s1 = some u1) (g1 : σ.slots t1 = some u1) (h2 : renS π s2 = some u2) (g2 : σ.slots t2 = some u2) (h3 : renS π s3 = some u3) (g3 : σ.slots t3 = some u3) (h4 : renS π s4 = some u4) (g4 : σ.slots t4 = some u4) (h5 : renS π s5 = some u5) (g5 : σ.slots t5 = some u5) (h6 : renS π s6 = some u6) (g6 : σ.slots t6 = some u6) (h7 : renS π s7 = some u7) (g7 : σ.slots t7 = some u7) (h8 : renS π s8 = some u8) (g8 : σ.slots t8 = some u8) (h9 : renS π s9 = some u9) (g9 : σ.slots t9 = some u9) (h10 : renS π s10 = some u10) (g10 : σ.slots t10 = some u10) (h11 : renS π s11 = some u11) (g11 : σ.slots t11 = some u11) : SlotsOk π σ [(t0, s0), (t1, s1), (t2, s2), (t3, s3), (t4, s4), (t5, s5), (t6, s6), (t7, s7), (t8, s8), (t9, s9), (t10, s10), (t11, s11)] := ⟨⟨_, h0, g0⟩, ⟨_, h1, g1⟩, ⟨_, h2, g2⟩, ⟨_, h3, g3⟩, ⟨_, h4, g4⟩, ⟨_, h5, g5⟩, ⟨_, h6, g6⟩, ⟨_, h7, g7⟩, ⟨_, h8, g8⟩, ⟨_, h9, g9⟩, ⟨_, h10, g10⟩, ⟨_, h11, g11⟩, trivial⟩
theorem S13 {π : Nat → Option Nat} {σ : St} {t0 t1 t2 t3 t4 t5 t6 t7 t8 t9 t10 t11 t12 : Nat} {s0 u0 s1 u1 s2 u2 s3 u3 s4 u4 s5 u5 s6 u6 s7 u7 s8 u8 s9 u9 s10 u10 s11 u11 s12 u12 : Slot} (h0 : renS π s0 = some u0) (g0 : σ.slots t0 = some u0) (h1 : renS π s1 = some u1) (g1 : σ.slots t1 = some u1) (h2 : renS π s2 = some u2) (g2 : σ.slots t2 = some u2) (h3 : renS π s3 = some u3) (g3 : σ.slots t3 = some u3) (h4 : renS π s4 = some u4) (g4 : σ.slots t4 = some u4) (h5 : renS π s5 = some u5) (g5 : σ.slots t5 = some u5) (h6 : renS π s6 = some u6) (g6 : σ.slots t6 = some u6) (h7 : renS π s7 = some u7) (g7 : σ.slots t7 = some u7) (h8 : renS π s8 = some u8) (g8 : σ.slots t8 = some u8) (h9 : renS π s9 = some u9) (g9 : σ.slots t9 = some u9) (h10 : renS π s10 = some u10) (g10 : σ.slots t10 = some u10) (h11 : renS π s11 = some u11) (g11 : σ.slots t11 = some u11) (h12 : renS π s12 = some u12) (g12 : σ.slots t12 = some u12) : SlotsOk π σ [(t0, s0), (t1, s1), (t2, s2), (t3, s3), (t4, s4), (t5, s5), (t6, s6), (t7, s7), (t8, s8), (t9, s9), (t10, s10), (t11, s11), (t12, s12)] := ⟨⟨_, h0, g0⟩, ⟨_, h1, g1⟩, ⟨_, h2, g2⟩, ⟨_, h3, g3⟩, ⟨_, h4, g4⟩, ⟨_, h5, g5⟩, ⟨_, h6, g6⟩, ⟨_, h7, g7⟩, ⟨_, h8, g8⟩, ⟨_, h9, g9⟩, ⟨_, h10, g10⟩, ⟨_, h11, g11⟩, ⟨_, h12, g12⟩, trivial⟩
theorem S14 {π : Nat → Option Nat} {σ : St} {t0 t1 t2 t3 t4 t5 t6 t7 t8 t9 t10 t11 t12 t13 : Nat} {s0 u0 s1 u1 s2 u2 s3 u3 s4 u4 s5 u5 s6 u6 s7 u7 s8 u8 s9 u9 s10 u10 s11 u11 s12 u12 s13 u13 : Slot} (h0 : renS π s0 = some u0) (g0 : σ.slots t0 = some u0) (h1 : renS π s1 = some u1) (g1 : σ.slots t1 = some u1) (h2 : renS π s2 = some u2) (g2 : σ.slots t2 = some u2) (h3 : renS π s3 = some u3) (g3 : σ.slots t3 = some u3) (h4 : renS π s4 = some u4) (g4 : σ.slots t4 = some u4) (h5 : renS π s5 = some u5) (g5 : σ.slots t5 = some u5) (h6 : renS π s6 = some u6) (g6 : σ.slots t6 = some u6) (h7 : renS π s7 = some u7) (g7 : σ.slots t7 = some u7) (h8 : renS π s8 = some u8) (g8 : σ.slots t8 = some u8) (h9 : renS π s9 = some u9) (g9 : σ.slots t9 = some u9) (h10 : renS π s10 = some u10) (g10 : σ.slots t10 = some u10) (h11 : renS π s11 = some u11) (g11 : σ.slots t11 = some u11) (h12 : renS π s12 = some u12) (g12 : σ.slots t12 = some u12) (h13 : renS π s13 = some u13) (g13 : σ.slots t13 = some u13) : SlotsOk π σ [(t0, s0), (t1, s1), (t2, s2), (t3, s3), (t4, s4), (t5, s5), (t6, s6), (t7, s7), (t8, s8), (t9, s9), (t10, s10), (t11, s11), (t12, s12), (t13, s13)] := ⟨⟨_, h0, g0⟩, ⟨_, h1, g1⟩, ⟨_, h2, g2⟩, ⟨_, h3, g3⟩, ⟨_, h4, g4⟩, ⟨_, h5, g5⟩, ⟨_, h6, g6⟩, ⟨_, h7, g7⟩, ⟨_, h8, g8⟩, ⟨_, h9, g9⟩, ⟨_, h10, g10⟩, ⟨_, h11, g11⟩, ⟨_, h12, g12⟩, ⟨_, h13, g13⟩, trivial⟩
theorem B2 {π : Nat → Option Nat} {σ : St} {k0 q0 k1 q1 : Nat} {c0 d0 c1 d1 : List Cell} (h0 : π k0 = some q0) (g0 : renCs π c0 = some d0) (e0 : σ.H.boxes q0 = some d0) (h1 : π k1 = some q1) (g1 : renCs π c1 = some d1) (e1 : σ.H.boxes q1 = some d1) : BoxesOk π σ [(k0, c0), (k1, c1)] := ⟨⟨_, _, h0, g0, e0⟩, ⟨_, _, h1, g1, e1⟩, trivial⟩
theorem B3 {π : Nat → Option Nat} {σ : St} {k0 q0 k1 q1 k2 q2 : Nat} {c0 d0 c1 d1 c2 d2 : List Cell} (h0 : π k0 = some q0) (g0 : renCs π c0 = some d0) (e0 : σ.H.boxes q0 = some d0) (h1 : π k1 = some q1) (g1 : renCs π c1 = some d1) (e1 : σ.H.boxes q1 = some d1) (h2 : π k2 = some q2) (g2 : renCs π c2 = some d2) (e2 : σ.H.boxes q2 = some d2) : BoxesOk π σ [(k0, c0), (k1, c1), (k2, c2)] := ⟨⟨_, _, h0, g0, e0⟩, ⟨_, _, h1, g1, e1⟩, ⟨_, _, h2, g2, e2⟩, trivial⟩
theorem B4 {π : Nat → Option Nat} {σ : St} {k0 q0 k1 q1 k2 q2 k3 q3 : Nat} {c0 d0 c1 d1 c2 d2 c3 d3 : List Cell} (h0 : π k0 = some q0) (g0 : renCs π c0 = some d0) (e0 : σ.H.boxes q0 = some d0) (h1 : π k1 = some q1) (g1 : renCs π c1 = some d1) (e1 : σ.H.boxes q1 = some d1) (h2 : π k2 = some q2) (g2 : renCs π c2 = some d2) (e2 : σ.H.boxes q2 = some d2) (h3 : π k3 = some q3) (g3 : renCs π c3 = some d3) (e3 : σ.H.boxes q3 = some d3) : BoxesOk π σ [(k0, c0), (k1, c1), (k2, c2), (k3, c3)] := ⟨⟨_, _, h0, g0, e0⟩, ⟨_, _, h1, g1, e1⟩, ⟨_, _, h2, g2, e2⟩, ⟨_, _, h3, g3, e3⟩, trivial⟩
theorem B5 {π : Nat → Option Nat} {σ : St} {k0 q0 k1 q1 k2 q2 k3 q3 k4 q4 : Nat} {c0 d0 c1 d1 c2 d2 c3 d3 c4 d4 : List Cell} (h0 : π k0 = some q0) (g0 : renCs π c0 = some d0) (e0 : σ.H.boxes q0 = some d0) (h1 : π k1 = some q1) (g1 : renCs π c1 = some d1) (e1 : σ.H.boxes q1 = some d1) (h2 : π k2 = some q2) (g2 : renCs π c2 = some d2) (e2 : σ.H.boxes q2 = some d2) (h3 : π k3 = some q3) (g3 : renCs π c3 = some d3) (e3 : σ.H.boxes q3 = some d3) (h4 : π k4 = some q4) (g4 : renCs π c4 = some d4) (e4 : σ.H.boxes q4 = some d4) : BoxesOk π σ [(k0, c0), (k1, c1), (k2, c2), (k3, c3), (k4, c4)] := ⟨⟨_, _, h0, g0, e0⟩, ⟨_, _, h1, g1, e1⟩, ⟨_, _, h2, g2, e2⟩, ⟨_, _, h3, g3, e3⟩, ⟨_, _, h4, g4, e4⟩, trivial⟩
theorem B6 {π : Nat → Option Nat} {σ : St} {k0 q0 k1 q1 k2 q2 k3 q3 k4 q4 k5 q5 : Nat} {c0 d0 c1 d1 c2 d2 c3 d3 c4 d4 c5 d5 : List Cell} (h0 : π k0 = some q0) (g0 : renCs π c0 = some d0) (e0 : σ.H.boxes q0 = some d0) (h1 : π k1 = some q1) (g1 : renCs π c1 = some d1) (e1 : σ.H.boxes q1 = some d1) (h2 : π k2 = some q2) (g2 : renCs π c2 = some d2) (e2 : σ.H.boxes q2 = some d2) (h3 : π k3 = some q3) (g3 : renCs π c3 = some d3) (e3 : σ.H.boxes q3 = some d3) (h4 : π k4 = some q4) (g4 : renCs π c4 = some d4) (e4 : σ.H.boxes q4 = some d4) (h5 : π k5 = some q5) (g5 : renCs π c5 = some d5) (e5 : σ.H.boxes q5 = some d5) : BoxesOk π σ [(k0, c0), (k1, c1), (k2, c2), (k3, c3), (k4, c4), (k5, c5)] := ⟨⟨_, _, h0, g0, e0⟩, ⟨_, _, h1, g1, e1⟩, ⟨_, _, h2, g2, e2⟩, ⟨_, _, h3, g3, e3⟩, ⟨_, _, h4, g4, e4⟩, ⟨_, _, h5, g5, e5⟩, trivial⟩
/-! ### Flaws_szIntS -/
def Flaws_szIntS (k : Nat) (a0 : List Int) (a1 : Int) : Option Int := cond (decide ((IntKind.i64.wrap (a1 - (a0.length : Int))) < (0 : Int))) (some (-1 : Int)) (some (IntKind.i64.wrap (a1 - (a0.length : Int))))
theorem ent148 : MG.Enters Try.prog 148 := ⟨Try.f148, Try.func148, rfl, by decide⟩
set_option maxHeartbeats 8000000 in
set_option maxRecDepth 100000 in
theorem Flaws_szIntS_gives (k : Nat) (g0 : Bool) (a0 : List Int) (a1 : Int) (r : Int) (H : Flaws_szIntS k a0 a1 = some r) : Gives Try.prog 148 [V.one (Cell.sl g0 (List.map eI a0)), V.one (cI a1)] [] [V.one (cI r)] [] := by
  refine Gives.intro Try.func148 rfl rfl rfl rfl ?_
  intro F hF hm
  unfold Flaws_szIntS at H
  obtain ⟨K, hK⟩ : ∃ K, k ≤ K := ⟨k, Nat.le_refl k⟩
  refine WpC.seq ?_
  refine WpC.regionL ?_
  refine L.assign hF rfl rfl rfl ?_
  refine L.nil ?_
  refine WpC.seq ?_
  refine WpC.regionL ?_
  refine L.move hF rfl rfl rfl ?_
  refine L.move hF rfl rfl rfl ?_
  refine L.lenR (xs := a0) (e := eI) Try.underlying24 hF rfl rfl rfl rfl ?_
  refine L.bin hF rfl rfl rfl rfl rfl rfl ?_
  refine L.assign hF rfl rfl rfl ?_
  refine L.nil ?_
  refine WpC.seq ?_
  refine WpC.seq ?_
  refine WpC.regionL ?_
  refine L.move hF rfl rfl rfl ?_
  refine L.bin hF rfl rfl rfl rfl rfl rfl ?_
  refine L.nil ?_
  refine WpC.cond rfl (fun hc => ?_) (fun hc => ?_)
  · replace H := condT hc H
    refine WpC.seq ?_
    refine WpC.regionL ?_
    refine L.assign hF rfl rfl rfl ?_
    refine L.nil ?_
    refine WpC.ret ?_
    cases H
    exact Leaves.ret rfl rfl rfl ⟨rfl, rfl⟩
  · replace H := condF hc H
    refine WpC.skip ?_
    refine WpC.seq ?_
    refine WpC.regionL ?_
    refine L.move hF rfl rfl rfl ?_
    refine L.assign hF rfl rfl rfl ?_
    refine L.nil ?_
    refine WpC.ret ?_
    cases H
    exact Leaves.ret rfl rfl rfl ⟨rfl, rfl⟩
/-! ### Flaws_szPairS -/
def Flaws_szPairS (k : Nat) (a0 : List Tlaws_Pair) (a1 : Int) : Option Int := cond (decide ((IntKind.i64.wrap (a1 - (a0.length : Int))) < (0 : Int))) (some (-1 : Int)) (some (IntKind.i64.wrap (a1 - (a0.length : Int))))
theorem ent149 : MG.Enters Try.prog 149 := ⟨Try.f149, Try.func149, rfl, by decide⟩
set_option maxHeartbeats 8000000 in
set_option maxRecDepth 100000 in
theorem Flaws_szPairS_gives (k : Nat) (g0 : Bool) (a0 : List Tlaws_Pair) (a1 : Int) (r : Int) (H : Flaws_szPairS k a0 a1 = some r) : Gives Try.prog 149 [V.one (Cell.sl g0 (List.map eTlaws_Pair a0)), V.one (cI a1)] [] [V.one (cI r)] [] := by
  refine Gives.intro Try.func149 rfl rfl rfl rfl ?_
  intro F hF hm
  unfold Flaws_szPairS at H
  obtain ⟨K, hK⟩ : ∃ K, k ≤ K := ⟨k, Nat.le_refl k⟩
  refine WpC.seq ?_
  refine WpC.regionL ?_
  refine L.assign hF rfl rfl rfl ?_
  refine L.nil ?_
  refine WpC.seq ?_
  refine WpC.regionL ?_
  refine L.move hF rfl rfl rfl ?_
  refine L.move hF rfl rfl rfl ?_
  refine L.lenR (xs := a0) (e := eTlaws_Pair) Try.underlying81 hF rfl rfl rfl rfl ?_
  refine L.bin hF rfl rfl rfl rfl rfl rfl ?_
  refine L.assign hF rfl rfl rfl ?_
  refine L.nil ?_
  refine WpC.seq ?_
  refine WpC.seq ?_
  refine WpC.regionL ?_
  refine L.move hF rfl rfl rfl ?_
  refine L.bin hF rfl rfl rfl rfl rfl rfl ?_
  refine L.nil ?_
  refine WpC.cond rfl (fun hc => ?_) (fun hc => ?_)
  · replace H := condT hc H
    refine WpC.seq ?_
    refine WpC.regionL ?_
    refine L.assign hF rfl rfl rfl ?_
    refine L.nil ?_
    refine WpC.ret ?_
    cases H
    exact Leaves.ret rfl rfl rfl ⟨rfl, rfl⟩
  · replace H := condF hc H
    refine WpC.skip ?_
    refine WpC.seq ?_
    refine WpC.regionL ?_
    refine L.move hF rfl rfl rfl ?_
    refine L.assign hF rfl rfl rfl ?_
    refine L.nil ?_
    refine WpC.ret ?_
    cases H
    exact Leaves.ret rfl rfl rfl ⟨rfl, rfl⟩
/-! ### Flaws_szConfig -/
def Flaws_szConfig (k : Nat) (a0 : Tlaws_Config) (a1 : Int) : Option Int := (Flaws_szIntS k a0.UserRealm a1).bind fun r1 => cond (decide (r1 < (0 : Int))) (some (-1 : Int)) ((Flaws_szIntS k a0.ServiceRealm r1).bind fun r2 => cond (decide (r2 < (0 : Int))) (some (-1 : Int)) ((Flaws_szPairS k a0.Links r2).bind fun r3 => cond (decide (r3 < (0 : Int))) (some (-1 : Int)) ((Flaws_szPairS k a0.Proxy r3).bind fun r4 => cond (decide (r4 < (0 : Int))) (some (-1 : Int)) (some r4))))
theorem ent69 : MG.Enters Try.prog 69 := ⟨Try.f69, Try.func69, rfl, by decide⟩
set_option maxHeartbeats 8000000 in
set_option maxRecDepth 100000 in
theorem Flaws_szConfig_gives (k : Nat) (g0 : Bool) (g1 : Bool) (g2 : Bool) (g3 : Bool) (a0 : Tlaws_Config) (a1 : Int) (r : Int) (H : Flaws_szConfig k a0 a1 = some r) : Gives Try.prog 69 [V.agg [Cell.sl g0 (List.map eI a0.UserRealm), Cell.sl g1 (List.map eI a0.ServiceRealm), Cell.sl g2 (List.map eTlaws_Pair a0.Links), Cell.sl g3 (List.map eTlaws_Pair a0.Proxy), cI a0.Skew], V.one (cI a1)] [] [V.one (cI r)] [] := by
  refine Gives.intro Try.func69 rfl rfl rfl rfl ?_
  intro F hF hm
  unfold Flaws_szConfig at H
  obtain ⟨K, hK⟩ : ∃ K, k ≤ K := ⟨k, Nat.le_refl k⟩
  refine WpC.seq ?_
  refine WpC.regionL ?_
  refine L.box 6 hF rfl rfl rfl rfl ?_
  refine L.assign hF rfl rfl rfl ?_
  refine L.nil ?_
  refine WpC.seq ?_
  refine WpC.regionL ?_
  refine L.fieldAddr Try.underlying83 rfl info24 rfl hF rfl rfl rfl rfl rfl ?_
  refine L.loadPtr shape24 hF rfl rfl rfl rfl rfl rfl ?_
  refine L.move hF rfl rfl rfl ?_
  obtain ⟨r1, hr1, H⟩ := bindS H
  refine L.call [false, false] [] [] 7 hF rfl rfl rfl ent148 rfl rfl rfl rfl rfl (Flaws_szIntS_gives k g0 a0.UserRealm a1 r1 hr1) rfl ?_
  refine L.assign hF rfl rfl rfl ?_
  refine L.nil ?_
  refine WpC.seq ?_
  refine WpC.seq ?_
  refine WpC.regionL ?_
  refine L.move hF rfl rfl rfl ?_
  refine L.bin hF rfl rfl rfl rfl rfl rfl ?_
  refine L.nil ?_
  refine WpC.cond rfl (fun hc => ?_) (fun hc => ?_)
  · replace H := condT hc H
    refine WpC.seq ?_
    refine WpC.regionL ?_
    refine L.assign hF rfl rfl rfl ?_
    refine L.nil ?_
    refine WpC.ret ?_
    cases H
    exact Leaves.ret rfl rfl rfl ⟨rfl, rfl⟩
  · replace H := condF hc H
    refine WpC.skip ?_
    refine WpC.seq ?_
    refine WpC.regionL ?_
    refine L.fieldAddr Try.underlying83 rfl info24 rfl hF rfl rfl rfl rfl rfl ?_
    refine L.loadPtr shape24 hF rfl rfl rfl rfl rfl rfl ?_
    refine L.move hF rfl rfl rfl ?_
    obtain ⟨r2, hr2, H⟩ := bindS H
    refine L.call [false, false] [] [] 8 hF rfl rfl rfl ent148 rfl rfl rfl rfl rfl (Flaws_szIntS_gives k g1 a0.ServiceRealm r1 r2 hr2) rfl ?_
    refine L.assign hF rfl rfl rfl ?_
    refine L.nil ?_
    refine WpC.seq ?_
    refine WpC.seq ?_
    refine WpC.regionL ?_
    refine L.move hF rfl rfl rfl ?_
    refine L.bin hF rfl rfl rfl rfl rfl rfl ?_
    refine L.nil ?_
    refine WpC.cond rfl (fun hc => ?_) (fun hc => ?_)
    · replace H := condT hc H
      refine WpC.seq ?_
      refine WpC.regionL ?_
      refine L.assign hF rfl rfl rfl ?_
      refine L.nil ?_
      refine WpC.ret ?_
      cases H
      exact Leaves.ret rfl rfl rfl ⟨rfl, rfl⟩
    · replace H := condF hc H
      refine WpC.skip ?_
      refine WpC.seq ?_
      refine WpC.regionL ?_
      refine L.fieldAddr Try.underlying83 rfl info81 rfl hF rfl rfl rfl rfl rfl ?_
      refine L.loadPtr shape81 hF rfl rfl rfl rfl rfl rfl ?_
      refine L.move hF rfl rfl rfl ?_
      obtain ⟨r3, hr3, H⟩ := bindS H
      refine L.call [false, false] [] [] 9 hF rfl rfl rfl ent149 rfl rfl rfl rfl rfl (Flaws_szPairS_gives k g2 a0.Links r2 r3 hr3) rfl ?_
      refine L.assign hF rfl rfl rfl ?_
      refine L.nil ?_
      refine WpC.seq ?_
      refine WpC.seq ?_
      refine WpC.regionL ?_
      refine L.move hF rfl rfl rfl ?_
      refine L.bin hF rfl rfl rfl rfl rfl rfl ?_
      refine L.nil ?_
      refine WpC.cond rfl (fun hc => ?_) (fun hc => ?_)
      · replace H := condT hc H
        refine WpC.seq ?_
        refine WpC.regionL ?_
        refine L.assign hF rfl rfl rfl ?_
        refine L.nil ?_
        refine WpC.ret ?_
        cases H
        exact Leaves.ret rfl rfl rfl ⟨rfl, rfl⟩
      · replace H := condF hc H
        refine WpC.skip ?_
        refine WpC.seq ?_
        refine WpC.regionL ?_
        refine L.fieldAddr Try.underlying83 rfl info81 rfl hF rfl rfl rfl rfl rfl ?_
        refine L.loadPtr shape81 hF rfl rfl rfl rfl rfl rfl ?_
        refine L.move hF rfl rfl rfl ?_
        obtain ⟨r4, hr4, H⟩ := bindS H
        refine L.call [false, false] [] [] 10 hF rfl rfl rfl ent149 rfl rfl rfl rfl rfl (Flaws_szPairS_gives k g3 a0.Proxy r3 r4 hr4) rfl ?_
        refine L.assign hF rfl rfl rfl ?_
        refine L.nil ?_
        refine WpC.seq ?_
        refine WpC.seq ?_
        refine WpC.regionL ?_
        refine L.move hF rfl rfl rfl ?_
        refine L.bin hF rfl rfl rfl rfl rfl rfl ?_
        refine L.nil ?_
        refine WpC.cond rfl (fun hc => ?_) (fun hc => ?_)
        · replace H := condT hc H
          refine WpC.seq ?_
          refine WpC.regionL ?_
          refine L.assign hF rfl rfl rfl ?_
          refine L.nil ?_
          refine WpC.ret ?_
          cases H
          exact Leaves.ret rfl rfl rfl ⟨rfl, rfl⟩
        · replace H := condF hc H
          refine WpC.skip ?_
          refine WpC.seq ?_
          refine WpC.regionL ?_
          refine L.move hF rfl rfl rfl ?_
          refine L.assign hF rfl rfl rfl ?_
          refine L.nil ?_
          refine WpC.ret ?_
          cases H
          exact Leaves.ret rfl rfl rfl ⟨rfl, rfl⟩
/-! ### Flaws_szAccept -/
def Flaws_szAccept (k : Nat) (a0 : Tlaws_Accept) (a1 : Int) : Option Int := (Flaws_szIntS k a0.Path a1).bind fun r1 => cond (decide (r1 < (0 : Int))) (some (-1 : Int)) ((Flaws_szIntS k a0.Via r1).bind fun r2 => cond (decide (r2 < (0 : Int))) (some (-1 : Int)) (cond (decide ((IntKind.i64.wrap (r2 - (a0.Ticket.length : Int))) < (0 : Int))) (some (-1 : Int)) (some (IntKind.i64.wrap (r2 - (a0.Ticket.length : Int))))))
theorem ent87 : MG.Enters Try.prog 87 := ⟨Try.f87, Try.func87, rfl, by decide⟩
set_option maxHeartbeats 8000000 in
set_option maxRecDepth 100000 in
theorem Flaws_szAccept_gives (k : Nat) (g0 : Bool) (g1 : Bool) (a0 : Tlaws_Accept) (a1 : Int) (r : Int) (H : Flaws_szAccept k a0 a1 = some r) : Gives Try.prog 87 [V.agg [cI a0.Server, cI a0.Client, cI a0.Key, cI a0.Op, cI a0.Now, cI a0.Auth.Client, cI a0.Auth.Time, cI a0.Auth.Seq, cI a0.Rest.Servers, cI a0.Rest.Ops, cI a0.Rest.End, Cell.sl g0 (List.map eI a0.Path), Cell.sl g1 (List.map eI a0.Via), cI a0.Leaks, cS a0.Ticket], V.one (cI a1)] [] [V.one (cI r)] [] := by
  refine Gives.intro Try.func87 rfl rfl rfl rfl ?_
  intro F hF hm
  unfold Flaws_szAccept at H
  obtain ⟨K, hK⟩ : ∃ K, k ≤ K := ⟨k, Nat.le_refl k⟩
  refine WpC.seq ?_
  refine WpC.regionL ?_
  refine L.box 16 hF rfl rfl rfl rfl ?_
  refine L.assign hF rfl rfl rfl ?_
  refine L.nil ?_
  refine WpC.seq ?_
  refine WpC.regionL ?_
  refine L.fieldAddr Try.underlying108 rfl info24 rfl hF rfl rfl rfl rfl rfl ?_
  refine L.loadPtr shape24 hF rfl rfl rfl rfl rfl rfl ?_
  refine L.move hF rfl rfl rfl ?_
  obtain ⟨r1, hr1, H⟩ := bindS H
  refine L.call [false, false] [] [] 17 hF rfl rfl rfl ent148 rfl rfl rfl rfl rfl (Flaws_szIntS_gives k g0 a0.Path a1 r1 hr1) rfl ?_
  refine L.assign hF rfl rfl rfl ?_
  refine L.nil ?_
  refine WpC.seq ?_
  refine WpC.seq ?_
  refine WpC.regionL ?_
  refine L.move hF rfl rfl rfl ?_
  refine L.bin hF rfl rfl rfl rfl rfl rfl ?_
  refine L.nil ?_
  refine WpC.cond rfl (fun hc => ?_) (fun hc => ?_)
  · replace H := condT hc H
    refine WpC.seq ?_
    refine WpC.regionL ?_
    refine L.assign hF rfl rfl rfl ?_
    refine L.nil ?_
    refine WpC.ret ?_
    cases H
    exact Leaves.ret rfl rfl rfl ⟨rfl, rfl⟩
  · replace H := condF hc H
    refine WpC.skip ?_
    refine WpC.seq ?_
    refine WpC.regionL ?_
    refine L.fieldAddr Try.underlying108 rfl info24 rfl hF rfl rfl rfl rfl rfl ?_
    refine L.loadPtr shape24 hF rfl rfl rfl rfl rfl rfl ?_
    refine L.move hF rfl rfl rfl ?_
    obtain ⟨r2, hr2, H⟩ := bindS H
    refine L.call [false, false] [] [] 18 hF rfl rfl rfl ent148 rfl rfl rfl rfl rfl (Flaws_szIntS_gives k g1 a0.Via r1 r2 hr2) rfl ?_
    refine L.assign hF rfl rfl rfl ?_
    refine L.nil ?_
    refine WpC.seq ?_
    refine WpC.seq ?_
    refine WpC.regionL ?_
    refine L.move hF rfl rfl rfl ?_
    refine L.bin hF rfl rfl rfl rfl rfl rfl ?_
    refine L.nil ?_
    refine WpC.cond rfl (fun hc => ?_) (fun hc => ?_)
    · replace H := condT hc H
      refine WpC.seq ?_
      refine WpC.regionL ?_
      refine L.assign hF rfl rfl rfl ?_
      refine L.nil ?_
      refine WpC.ret ?_
      cases H
      exact Leaves.ret rfl rfl rfl ⟨rfl, rfl⟩
    · replace H := condF hc H
      refine WpC.skip ?_
      refine WpC.seq ?_
      refine WpC.regionL ?_
      refine L.move hF rfl rfl rfl ?_
      refine L.fieldAddr Try.underlying108 rfl info9 rfl hF rfl rfl rfl rfl rfl ?_
      refine L.loadPtr shape9 hF rfl rfl rfl rfl rfl rfl ?_
      refine L.lenS Try.underlying9 hF rfl rfl rfl ?_
      refine L.bin hF rfl rfl rfl rfl rfl rfl ?_
      refine L.assign hF rfl rfl rfl ?_
      refine L.nil ?_
      refine WpC.seq ?_
      refine WpC.seq ?_
      refine WpC.regionL ?_
      refine L.move hF rfl rfl rfl ?_
      refine L.bin hF rfl rfl rfl rfl rfl rfl ?_
      refine L.nil ?_
      refine WpC.cond rfl (fun hc => ?_) (fun hc => ?_)
      · replace H := condT hc H
        refine WpC.seq ?_
        refine WpC.regionL ?_
        refine L.assign hF rfl rfl rfl ?_
        refine L.nil ?_
        refine WpC.ret ?_
        cases H
        exact Leaves.ret rfl rfl rfl ⟨rfl, rfl⟩
      · replace H := condF hc H
        refine WpC.skip ?_
        refine WpC.seq ?_
        refine WpC.regionL ?_
        refine L.move hF rfl rfl rfl ?_
        refine L.assign hF rfl rfl rfl ?_
        refine L.nil ?_
        refine WpC.ret ?_
        cases H
        exact Leaves.ret rfl rfl rfl ⟨rfl, rfl⟩
/-! ### Flaws_toIntS -/
def Flaws_toIntS.l2 : Nat → (List Int) → (List Int) → Int → Option (List Int)
  | 0, _, _, _ => none
  | k2 + 1, v35, v36, v37 => cond (decide (v37 < (v35.length : Int))) ((at? v35 v37).bind fun b40 => (at? v36 v37).bind fun b41 => (Flaws_toIntS.l2 k2) v35 (v36.set v37.toNat b40) (IntKind.i64.wrap (v37 + (1 : Int)))) (some v36)
def Flaws_toIntS (k : Nat) (a0 : List Int) : Option (List Int) := cond (decide (0 ≤ (a0.length : Int) ∧ (a0.length : Int) ≤ (a0.length : Int) ∧ 8 * (a0.length : Int) ≤ 281474976710656 ∧ (a0.length : Int) ≤ 9223372036854775807)) (Flaws_toIntS.l2 k a0 (List.replicate (a0.length : Int).toNat (0 : Int)) (0 : Int)) none
theorem ent54 : MG.Enters Try.prog 54 := ⟨Try.f54, Try.func54, rfl, by decide⟩
set_option maxHeartbeats 8000000 in
set_option maxRecDepth 100000 in
theorem Flaws_toIntS_gives (k : Nat) (g0 : Bool) (a0 : List Int) (r : List Int) (H : Flaws_toIntS k a0 = some r) : Gives Try.prog 54 [V.one (Cell.sl g0 (List.map eI a0))] [] [V.one (Cell.ow 1 (List.map eI r))] [] := by
  refine Gives.intro Try.func54 rfl rfl rfl rfl ?_
  intro F hF hm
  unfold Flaws_toIntS at H
  obtain ⟨K, hK⟩ : ∃ K, k ≤ K := ⟨k, Nat.le_refl k⟩
  refine WpC.seq ?_
  refine WpC.regionL ?_
  refine L.assign hF rfl rfl rfl ?_
  refine L.nil ?_
  refine WpC.seq ?_
  refine WpC.regionL ?_
  refine L.move hF rfl rfl rfl ?_
  refine L.lenR (xs := a0) (e := eI) Try.underlying24 hF rfl rfl rfl rfl ?_
  obtain ⟨h1, H⟩ := condG H
  refine L.makeSlice (e := eI) 1 (0 : Int) Try.underlying24 info3 rfl rfl rfl hF rfl rfl rfl rfl (of_decide_eq_true h1) rfl rfl ?_
  refine L.assign hF rfl rfl rfl ?_
  refine L.nil ?_
  refine WpC.seq ?_
  refine WpC.seq ?_
  refine WpC.regionL ?_
  refine L.assign hF rfl rfl rfl ?_
  refine L.nil ?_
  refine WpC.block ?_
  refine WpC.loopL (P := Try.prog) (fun n σ => ∃ v35 : List Int, ∃ v36 : List Int, ∃ v37 : Int, n ≤ K ∧ Flaws_toIntS.l2 n v35 v36 v37 = some r ∧ σ = mkSt [(0, MG.one (Cell.sl g0 (List.map eI v35))), (3, MG.one (Cell.own 0)), (4, MG.one (cI v37))] [(0, ⟨1, List.map eI v36⟩)] [] 1) k ⟨_, ⟨a0, (List.replicate (a0.length : Int).toNat (0 : Int)), (0 : Int), by omega, H, rfl⟩, Le.mk [(0, 1)] hm rfl ⟨⟨_, rfl, rfl⟩, ⟨_, rfl, rfl⟩, ⟨_, rfl, rfl⟩, trivial⟩ ⟨⟨_, rfl, rfl⟩, trivial⟩ trivial⟩ ?_
  clear H
  rintro k2 _ ⟨v35, v36, v37, hk2, H, rfl⟩
  cases k2 with
  | zero => cases H
  | succ k2 =>
    rw [Flaws_toIntS.l2] at H
    refine WpC.seq ?_
    refine WpC.seq ?_
    refine WpC.regionL ?_
    refine L.move hF rfl rfl rfl ?_
    refine L.move hF rfl rfl rfl ?_
    refine L.lenR (xs := v35) (e := eI) Try.underlying24 hF rfl rfl rfl rfl ?_
    refine L.bin hF rfl rfl rfl rfl rfl rfl ?_
    refine L.nil ?_
    refine WpC.cond rfl (fun hc => ?_) (fun hc => ?_)
    · replace H := condT hc H
      refine WpC.skip ?_
      refine WpC.seq ?_
      refine WpC.block ?_
      refine WpC.regionL ?_
      refine L.move hF rfl rfl rfl ?_
      refine L.move hF rfl rfl rfl ?_
      refine L.move hF rfl rfl rfl ?_
      refine L.move hF rfl rfl rfl ?_
      obtain ⟨b40, hb40, H⟩ := bindS H
      refine L.idxR (xs := v35) (e := eI) Try.underlying24 info3 hF rfl rfl rfl rfl rfl hb40 rfl rfl ?_
      refine L.loadPe shape3 hF rfl rfl rfl rfl rfl ?_
      obtain ⟨b41, hb41, H⟩ := bindS H
      refine L.idxR (xs := v36) (e := eI) Try.underlying24 info3 hF rfl rfl rfl rfl rfl hb41 rfl rfl ?_
      refine L.storeEp (xs := v36) (e := eI) (a' := b40) shape3 hF rfl rfl rfl rfl rfl rfl rfl (at?_get hb41).2 rfl rfl ?_
      refine L.nil ?_
      refine WpC.regionL ?_
      refine L.move hF rfl rfl rfl ?_
      refine L.bin hF rfl rfl rfl rfl rfl rfl ?_
      refine L.assign hF rfl rfl rfl ?_
      refine L.nil ?_
      exact ⟨k2, _, by omega, ⟨v35, (v36.set v37.toNat b40), (IntKind.i64.wrap (v37 + (1 : Int))), by omega, H, rfl⟩, Le.mk [(0, 0)] hm rfl ⟨⟨_, rfl, rfl⟩, ⟨_, rfl, rfl⟩, ⟨_, rfl, rfl⟩, trivial⟩ ⟨⟨_, rfl, rfl⟩, trivial⟩ trivial⟩
    · replace H := condF hc H
      refine WpC.exit ?_
      refine WpC.seq ?_
      refine WpC.regionL ?_
      refine L.move hF rfl rfl rfl ?_
      refine L.assign hF rfl rfl rfl ?_
      refine L.nil ?_
      refine WpC.ret ?_
      cases H
      exact Leaves.ret rfl rfl rfl ⟨rfl, rfl⟩
/-! ### Flaws_toPair -/
def Flaws_toPair (k : Nat) (a0 : Tlaws_Pair) : Option Timpl_Pair := some (⟨a0.A, a0.B⟩ : Timpl_Pair)
theorem ent245 : MG.Enters Try.prog 245 := ⟨Try.f245, Try.func245, rfl, by decide⟩
set_option maxHeartbeats 8000000 in
set_option maxRecDepth 100000 in
theorem Flaws_toPair_gives (k : Nat) (a0 : Tlaws_Pair) (r : Timpl_Pair) (H : Flaws_toPair k a0 = some r) : Gives Try.prog 245 [V.agg [cI a0.A, cI a0.B]] [] [V.agg [cI r.A, cI r.B]] [] := by
  refine Gives.intro Try.func245 rfl rfl rfl rfl ?_
  intro F hF hm
  unfold Flaws_toPair at H
  obtain ⟨K, hK⟩ : ∃ K, k ≤ K := ⟨k, Nat.le_refl k⟩
  refine WpC.seq ?_
  refine WpC.regionL ?_
  refine L.box 2 hF rfl rfl rfl rfl ?_
  refine L.alloc 3 info256 rfl hF rfl rfl rfl rfl ?_
  refine L.nil ?_
  refine WpC.seq ?_
  refine WpC.regionL ?_
  refine L.alloc 4 info256 rfl hF rfl rfl rfl rfl ?_
  refine L.nil ?_
  refine WpC.seq ?_
  refine WpC.regionL ?_
  refine L.fieldAddr Try.underlying258 rfl info3 rfl hF rfl rfl rfl rfl rfl ?_
  refine L.loadPtr shape3 hF rfl rfl rfl rfl rfl rfl ?_
  refine L.fieldAddr Try.underlying256 rfl info3 rfl hF rfl rfl rfl rfl rfl ?_
  refine L.storePtr shape3 hF rfl rfl rfl rfl rfl rfl rfl ?_
  refine L.nil ?_
  refine WpC.seq ?_
  refine WpC.regionL ?_
  refine L.fieldAddr Try.underlying258 rfl info3 rfl hF rfl rfl rfl rfl rfl ?_
  refine L.loadPtr shape3 hF rfl rfl rfl rfl rfl rfl ?_
  refine L.fieldAddr Try.underlying256 rfl info3 rfl hF rfl rfl rfl rfl rfl ?_
  refine L.storePtr shape3 hF rfl rfl rfl rfl rfl rfl rfl ?_
  refine L.nil ?_
  refine WpC.seq ?_
  refine WpC.regionL ?_
  refine L.loadPtr shape256 hF rfl rfl rfl rfl rfl rfl ?_
  refine L.storePtr shape256 hF rfl rfl rfl rfl rfl rfl rfl ?_
  refine L.nil ?_
  refine WpC.ret ?_
  cases H
  exact Leaves.ret rfl rfl rfl ⟨rfl, rfl⟩
/-! ### Flaws_toPairS -/
def Flaws_toPairS.l2 : Nat → (List Tlaws_Pair) → (List Timpl_Pair) → Int → Option (List Timpl_Pair)
  | 0, _, _, _ => none
  | k2 + 1, v45, v46, v47 => cond (decide (v47 < (v45.length : Int))) ((at? v45 v47).bind fun b51 => (Flaws_toPair k2 b51).bind fun r52 => (at? v46 v47).bind fun b53 => (Flaws_toPairS.l2 k2) v45 (v46.set v47.toNat r52) (IntKind.i64.wrap (v47 + (1 : Int)))) (some v46)
def Flaws_toPairS (k : Nat) (a0 : List Tlaws_Pair) : Option (List Timpl_Pair) := cond (decide (0 ≤ (a0.length : Int) ∧ (a0.length : Int) ≤ (a0.length : Int) ∧ 16 * (a0.length : Int) ≤ 281474976710656 ∧ (a0.length : Int) ≤ 9223372036854775807)) (Flaws_toPairS.l2 k a0 (List.replicate (a0.length : Int).toNat (⟨(0 : Int), (0 : Int)⟩ : Timpl_Pair)) (0 : Int)) none
theorem ent155 : MG.Enters Try.prog 155 := ⟨Try.f155, Try.func155, rfl, by decide⟩
set_option maxHeartbeats 8000000 in
set_option maxRecDepth 100000 in
theorem Flaws_toPairS_gives (k : Nat) (g0 : Bool) (a0 : List Tlaws_Pair) (r : List Timpl_Pair) (H : Flaws_toPairS k a0 = some r) : Gives Try.prog 155 [V.one (Cell.sl g0 (List.map eTlaws_Pair a0))] [] [V.one (Cell.ow 2 (List.map eTimpl_Pair r))] [] := by
  refine Gives.intro Try.func155 rfl rfl rfl rfl ?_
  intro F hF hm
  unfold Flaws_toPairS at H
  obtain ⟨K, hK⟩ : ∃ K, k ≤ K := ⟨k, Nat.le_refl k⟩
  refine WpC.seq ?_
  refine WpC.regionL ?_
  refine L.assign hF rfl rfl rfl ?_
  refine L.nil ?_
  refine WpC.seq ?_
  refine WpC.regionL ?_
  refine L.move hF rfl rfl rfl ?_
  refine L.lenR (xs := a0) (e := eTlaws_Pair) Try.underlying81 hF rfl rfl rfl rfl ?_
  obtain ⟨h1, H⟩ := condG H
  refine L.makeSlice (e := eTimpl_Pair) 1 (⟨(0 : Int), (0 : Int)⟩ : Timpl_Pair) Try.underlying88 info256 rfl rfl rfl hF rfl rfl rfl rfl (of_decide_eq_true h1) rfl rfl ?_
  refine L.assign hF rfl rfl rfl ?_
  refine L.nil ?_
  refine WpC.seq ?_
  refine WpC.seq ?_
  refine WpC.regionL ?_
  refine L.assign hF rfl rfl rfl ?_
  refine L.nil ?_
  refine WpC.block ?_
  refine WpC.loopL (P := Try.prog) (fun n σ => ∃ v45 : List Tlaws_Pair, ∃ v46 : List Timpl_Pair, ∃ v47 : Int, n ≤ K ∧ Flaws_toPairS.l2 n v45 v46 v47 = some r ∧ σ = mkSt [(0, MG.one (Cell.sl g0 (List.map eTlaws_Pair v45))), (3, MG.one (Cell.own 0)), (4, MG.one (cI v47))] [(0, ⟨2, List.map eTimpl_Pair v46⟩)] [] 1) k ⟨_, ⟨a0, (List.replicate (a0.length : Int).toNat (⟨(0 : Int), (0 : Int)⟩ : Timpl_Pair)), (0 : Int), by omega, H, rfl⟩, Le.mk [(0, 1)] hm rfl ⟨⟨_, rfl, rfl⟩, ⟨_, rfl, rfl⟩, ⟨_, rfl, rfl⟩, trivial⟩ ⟨⟨_, rfl, rfl⟩, trivial⟩ trivial⟩ ?_
  clear H
  rintro k2 _ ⟨v45, v46, v47, hk2, H, rfl⟩
  cases k2 with
  | zero => cases H
  | succ k2 =>
    rw [Flaws_toPairS.l2] at H
    refine WpC.seq ?_
    refine WpC.seq ?_
    refine WpC.regionL ?_
    refine L.move hF rfl rfl rfl ?_
    refine L.move hF rfl rfl rfl ?_
    refine L.lenR (xs := v45) (e := eTlaws_Pair) Try.underlying81 hF rfl rfl rfl rfl ?_
    refine L.bin hF rfl rfl rfl rfl rfl rfl ?_
    refine L.nil ?_
    refine WpC.cond rfl (fun hc => ?_) (fun hc => ?_)
    · replace H := condT hc H
      refine WpC.skip ?_
      refine WpC.seq ?_
      refine WpC.block ?_
      refine WpC.regionL ?_
      refine L.move hF rfl rfl rfl ?_
      refine L.move hF rfl rfl rfl ?_
      refine L.move hF rfl rfl rfl ?_
      refine L.move hF rfl rfl rfl ?_
      obtain ⟨b51, hb51, H⟩ := bindS H
      refine L.idxR (xs := v45) (e := eTlaws_Pair) Try.underlying81 info258 hF rfl rfl rfl rfl rfl hb51 rfl rfl ?_
      refine L.loadPe shape258 hF rfl rfl rfl rfl rfl ?_
      obtain ⟨r52, hr52, H⟩ := bindS H
      refine L.call [false] [] [] 1 hF rfl rfl rfl ent245 rfl rfl rfl rfl rfl (Flaws_toPair_gives k2  b51 r52 hr52) rfl ?_
      obtain ⟨b53, hb53, H⟩ := bindS H
      refine L.idxR (xs := v46) (e := eTimpl_Pair) Try.underlying88 info256 hF rfl rfl rfl rfl rfl hb53 rfl rfl ?_
      refine L.storeEp (xs := v46) (e := eTimpl_Pair) (a' := r52) shape256 hF rfl rfl rfl rfl rfl rfl rfl (at?_get hb53).2 rfl rfl ?_
      refine L.nil ?_
      refine WpC.regionL ?_
      refine L.move hF rfl rfl rfl ?_
      refine L.bin hF rfl rfl rfl rfl rfl rfl ?_
      refine L.assign hF rfl rfl rfl ?_
      refine L.nil ?_
      exact ⟨k2, _, by omega, ⟨v45, (v46.set v47.toNat r52), (IntKind.i64.wrap (v47 + (1 : Int))), by omega, H, rfl⟩, Le.mk [(0, 0)] hm rfl ⟨⟨_, rfl, rfl⟩, ⟨_, rfl, rfl⟩, ⟨_, rfl, rfl⟩, trivial⟩ ⟨⟨_, rfl, rfl⟩, trivial⟩ trivial⟩
    · replace H := condF hc H
      refine WpC.exit ?_
      refine WpC.seq ?_
      refine WpC.regionL ?_
      refine L.move hF rfl rfl rfl ?_
      refine L.assign hF rfl rfl rfl ?_
      refine L.nil ?_
      refine WpC.ret ?_
      cases H
      exact Leaves.ret rfl rfl rfl ⟨rfl, rfl⟩
/-! ### Flaws_toConfig -/
def Flaws_toConfig (k : Nat) (a0 : Tlaws_Config) : Option Timpl_Config := (Flaws_toIntS k a0.UserRealm).bind fun r1 => (Flaws_toIntS k a0.ServiceRealm).bind fun r2 => (Flaws_toPairS k a0.Links).bind fun r3 => (Flaws_toPairS k a0.Proxy).bind fun r4 => some (⟨r1, r2, r3, r4, a0.Skew⟩ : Timpl_Config)
theorem ent71 : MG.Enters Try.prog 71 := ⟨Try.f71, Try.func71, rfl, by decide⟩
set_option maxHeartbeats 8000000 in
set_option maxRecDepth 100000 in
theorem Flaws_toConfig_gives (k : Nat) (g0 : Bool) (g1 : Bool) (g2 : Bool) (g3 : Bool) (a0 : Tlaws_Config) (r : Timpl_Config) (H : Flaws_toConfig k a0 = some r) : Gives Try.prog 71 [V.agg [Cell.sl g0 (List.map eI a0.UserRealm), Cell.sl g1 (List.map eI a0.ServiceRealm), Cell.sl g2 (List.map eTlaws_Pair a0.Links), Cell.sl g3 (List.map eTlaws_Pair a0.Proxy), cI a0.Skew]] [] [V.agg [Cell.ow 1 (List.map eI r.UserRealm), Cell.ow 1 (List.map eI r.ServiceRealm), Cell.ow 2 (List.map eTimpl_Pair r.Links), Cell.ow 2 (List.map eTimpl_Pair r.Proxy), cI r.Skew]] [] := by
  refine Gives.intro Try.func71 rfl rfl rfl rfl ?_
  intro F hF hm
  unfold Flaws_toConfig at H
  obtain ⟨K, hK⟩ : ∃ K, k ≤ K := ⟨k, Nat.le_refl k⟩
  refine WpC.seq ?_
  refine WpC.regionL ?_
  refine L.box 5 hF rfl rfl rfl rfl ?_
  refine L.alloc 6 info90 rfl hF rfl rfl rfl rfl ?_
  refine L.le (τ := mkSt [(1, MG.one (Cell.ptr 0 0)), (2, MG.one (Cell.ptr 1 0))] [] [(0, [Cell.sl g0 (List.map eI a0.UserRealm), Cell.sl g1 (List.map eI a0.ServiceRealm), Cell.sl g2 (List.map eTlaws_Pair a0.Links), Cell.sl g3 (List.map eTlaws_Pair a0.Proxy), cI a0.Skew]), (1, [Cell.nil, Cell.nil, Cell.nil, Cell.nil, cI (0 : Int)])] 2) (Le.mk [(0, 5), (1, 6)] hm rfl ⟨⟨_, rfl, rfl⟩, ⟨_, rfl, rfl⟩, trivial⟩ trivial ⟨⟨_, _, rfl, rfl, rfl⟩, ⟨_, _, rfl, rfl, rfl⟩, trivial⟩) ?_
  refine L.nil ?_
  refine WpC.seq ?_
  refine WpC.regionL ?_
  refine L.alloc 2 info90 rfl hF rfl rfl rfl rfl ?_
  refine L.le (τ := mkSt [(1, MG.one (Cell.ptr 0 0)), (2, MG.one (Cell.ptr 1 0)), (3, MG.one (Cell.ptr 2 0))] [] [(0, [Cell.sl g0 (List.map eI a0.UserRealm), Cell.sl g1 (List.map eI a0.ServiceRealm), Cell.sl g2 (List.map eTlaws_Pair a0.Links), Cell.sl g3 (List.map eTlaws_Pair a0.Proxy), cI a0.Skew]), (1, [Cell.nil, Cell.nil, Cell.nil, Cell.nil, cI (0 : Int)]), (2, [Cell.nil, Cell.nil, Cell.nil, Cell.nil, cI (0 : Int)])] 3) (Le.mk [(0, 0), (1, 1), (2, 2)] hm rfl ⟨⟨_, rfl, rfl⟩, ⟨_, rfl, rfl⟩, ⟨_, rfl, rfl⟩, trivial⟩ trivial ⟨⟨_, _, rfl, rfl, rfl⟩, ⟨_, _, rfl, rfl, rfl⟩, ⟨_, _, rfl, rfl, rfl⟩, trivial⟩) ?_
  refine L.nil ?_
  refine WpC.seq ?_
  refine WpC.regionL ?_
  refine L.fieldAddr Try.underlying83 rfl info24 rfl hF rfl rfl rfl rfl rfl ?_
  refine L.loadPtr shape24 hF rfl rfl rfl rfl rfl rfl ?_
  obtain ⟨r1, hr1, H⟩ := bindS H
  refine L.call [false] [] [] 3 hF rfl rfl rfl ent54 rfl rfl rfl rfl rfl (Flaws_toIntS_gives k g0 a0.UserRealm r1 hr1) rfl ?_
  refine L.fieldAddr Try.underlying90 rfl info24 rfl hF rfl rfl rfl rfl rfl ?_
  refine L.storePtr shape24 hF rfl rfl rfl rfl rfl rfl rfl ?_
  refine L.le (τ := mkSt [(1, MG.one (Cell.ptr 0 0)), (2, MG.one (Cell.ptr 1 0)), (3, MG.one (Cell.ptr 2 0))] [(3, ⟨1, List.map eI r1⟩)] [(0, [Cell.sl g0 (List.map eI a0.UserRealm), Cell.sl g1 (List.map eI a0.ServiceRealm), Cell.sl g2 (List.map eTlaws_Pair a0.Links), Cell.sl g3 (List.map eTlaws_Pair a0.Proxy), cI a0.Skew]), (1, [Cell.nil, Cell.nil, Cell.nil, Cell.nil, cI (0 : Int)]), (2, [Cell.own 3, Cell.nil, Cell.nil, Cell.nil, cI (0 : Int)])] 4) (Le.mk [(0, 0), (1, 1), (2, 2), (3, 3)] hm rfl ⟨⟨_, rfl, rfl⟩, ⟨_, rfl, rfl⟩, ⟨_, rfl, rfl⟩, trivial⟩ ⟨⟨_, rfl, rfl⟩, trivial⟩ ⟨⟨_, _, rfl, rfl, rfl⟩, ⟨_, _, rfl, rfl, rfl⟩, ⟨_, _, rfl, rfl, rfl⟩, trivial⟩) ?_
  refine L.nil ?_
  refine WpC.seq ?_
  refine WpC.regionL ?_
  refine L.fieldAddr Try.underlying83 rfl info24 rfl hF rfl rfl rfl rfl rfl ?_
  refine L.loadPtr shape24 hF rfl rfl rfl rfl rfl rfl ?_
  obtain ⟨r2, hr2, H⟩ := bindS H
  refine L.call [false] [] [] 4 hF rfl rfl rfl ent54 rfl rfl rfl rfl rfl (Flaws_toIntS_gives k g1 a0.ServiceRealm r2 hr2) rfl ?_
  refine L.fieldAddr Try.underlying90 rfl info24 rfl hF rfl rfl rfl rfl rfl ?_
  refine L.storePtr shape24 hF rfl rfl rfl rfl rfl rfl rfl ?_
  refine L.le (τ := mkSt [(1, MG.one (Cell.ptr 0 0)), (2, MG.one (Cell.ptr 1 0)), (3, MG.one (Cell.ptr 2 0))] [(3, ⟨1, List.map eI r1⟩), (4, ⟨1, List.map eI r2⟩)] [(0, [Cell.sl g0 (List.map eI a0.UserRealm), Cell.sl g1 (List.map eI a0.ServiceRealm), Cell.sl g2 (List.map eTlaws_Pair a0.Links), Cell.sl g3 (List.map eTlaws_Pair a0.Proxy), cI a0.Skew]), (1, [Cell.nil, Cell.nil, Cell.nil, Cell.nil, cI (0 : Int)]), (2, [Cell.own 3, Cell.own 4, Cell.nil, Cell.nil, cI (0 : Int)])] 5) (Le.mk [(0, 0), (1, 1), (2, 2), (3, 3), (4, 4)] hm rfl ⟨⟨_, rfl, rfl⟩, ⟨_, rfl, rfl⟩, ⟨_, rfl, rfl⟩, trivial⟩ ⟨⟨_, rfl, rfl⟩, ⟨_, rfl, rfl⟩, trivial⟩ ⟨⟨_, _, rfl, rfl, rfl⟩, ⟨_, _, rfl, rfl, rfl⟩, ⟨_, _, rfl, rfl, rfl⟩, trivial⟩) ?_
  refine L.nil ?_
  refine WpC.seq ?_
  refine WpC.regionL ?_
  refine L.fieldAddr Try.underlying83 rfl info81 rfl hF rfl rfl rfl rfl rfl ?_
  refine L.loadPtr shape81 hF rfl rfl rfl rfl rfl rfl ?_
  obtain ⟨r3, hr3, H⟩ := bindS H
  refine L.call [false] [] [] 5 hF rfl rfl rfl ent155 rfl rfl rfl rfl rfl (Flaws_toPairS_gives k g2 a0.Links r3 hr3) rfl ?_
  refine L.fieldAddr Try.underlying90 rfl info88 rfl hF rfl rfl rfl rfl rfl ?_
  refine L.storePtr shape88 hF rfl rfl rfl rfl rfl rfl rfl ?_
  refine L.le (τ := mkSt [(1, MG.one (Cell.ptr 0 0)), (2, MG.one (Cell.ptr 1 0)), (3, MG.one (Cell.ptr 2 0))] [(3, ⟨1, List.map eI r1⟩), (4, ⟨1, List.map eI r2⟩), (5, ⟨2, List.map eTimpl_Pair r3⟩)] [(0, [Cell.sl g0 (List.map eI a0.UserRealm), Cell.sl g1 (List.map eI a0.ServiceRealm), Cell.sl g2 (List.map eTlaws_Pair a0.Links), Cell.sl g3 (List.map eTlaws_Pair a0.Proxy), cI a0.Skew]), (1, [Cell.nil, Cell.nil, Cell.nil, Cell.nil, cI (0 : Int)]), (2, [Cell.own 3, Cell.own 4, Cell.own 5, Cell.nil, cI (0 : Int)])] 6) (Le.mk [(0, 0), (1, 1), (2, 2), (3, 3), (4, 4), (5, 5)] hm rfl ⟨⟨_, rfl, rfl⟩, ⟨_, rfl, rfl⟩, ⟨_, rfl, rfl⟩, trivial⟩ ⟨⟨_, rfl, rfl⟩, ⟨_, rfl, rfl⟩, ⟨_, rfl, rfl⟩, trivial⟩ ⟨⟨_, _, rfl, rfl, rfl⟩, ⟨_, _, rfl, rfl, rfl⟩, ⟨_, _, rfl, rfl, rfl⟩, trivial⟩) ?_
  refine L.nil ?_
  refine WpC.seq ?_
  refine WpC.regionL ?_
  refine L.fieldAddr Try.underlying83 rfl info81 rfl hF rfl rfl rfl rfl rfl ?_
  refine L.loadPtr shape81 hF rfl rfl rfl rfl rfl rfl ?_
  obtain ⟨r4, hr4, H⟩ := bindS H
  refine L.call [false] [] [] 6 hF rfl rfl rfl ent155 rfl rfl rfl rfl rfl (Flaws_toPairS_gives k g3 a0.Proxy r4 hr4) rfl ?_
  refine L.fieldAddr Try.underlying90 rfl info88 rfl hF rfl rfl rfl rfl rfl ?_
  refine L.storePtr shape88 hF rfl rfl rfl rfl rfl rfl rfl ?_
  refine L.le (τ := mkSt [(1, MG.one (Cell.ptr 0 0)), (2, MG.one (Cell.ptr 1 0)), (3, MG.one (Cell.ptr 2 0))] [(3, ⟨1, List.map eI r1⟩), (4, ⟨1, List.map eI r2⟩), (5, ⟨2, List.map eTimpl_Pair r3⟩), (6, ⟨2, List.map eTimpl_Pair r4⟩)] [(0, [Cell.sl g0 (List.map eI a0.UserRealm), Cell.sl g1 (List.map eI a0.ServiceRealm), Cell.sl g2 (List.map eTlaws_Pair a0.Links), Cell.sl g3 (List.map eTlaws_Pair a0.Proxy), cI a0.Skew]), (1, [Cell.nil, Cell.nil, Cell.nil, Cell.nil, cI (0 : Int)]), (2, [Cell.own 3, Cell.own 4, Cell.own 5, Cell.own 6, cI (0 : Int)])] 7) (Le.mk [(0, 0), (1, 1), (2, 2), (3, 3), (4, 4), (5, 5), (6, 6)] hm rfl ⟨⟨_, rfl, rfl⟩, ⟨_, rfl, rfl⟩, ⟨_, rfl, rfl⟩, trivial⟩ ⟨⟨_, rfl, rfl⟩, ⟨_, rfl, rfl⟩, ⟨_, rfl, rfl⟩, ⟨_, rfl, rfl⟩, trivial⟩ ⟨⟨_, _, rfl, rfl, rfl⟩, ⟨_, _, rfl, rfl, rfl⟩, ⟨_, _, rfl, rfl, rfl⟩, trivial⟩) ?_
  refine L.nil ?_
  refine WpC.seq ?_
  refine WpC.regionL ?_
  refine L.fieldAddr Try.underlying83 rfl info3 rfl hF rfl rfl rfl rfl rfl ?_
  refine L.loadPtr shape3 hF rfl rfl rfl rfl rfl rfl ?_
  refine L.fieldAddr Try.underlying90 rfl info3 rfl hF rfl rfl rfl rfl rfl ?_
  refine L.storePtr shape3 hF rfl rfl rfl rfl rfl rfl rfl ?_
  refine L.le (τ := mkSt [(2, MG.one (Cell.ptr 0 0)), (3, MG.one (Cell.ptr 1 0))] [(2, ⟨1, List.map eI r1⟩), (3, ⟨1, List.map eI r2⟩), (4, ⟨2, List.map eTimpl_Pair r3⟩), (5, ⟨2, List.map eTimpl_Pair r4⟩)] [(0, [Cell.nil, Cell.nil, Cell.nil, Cell.nil, cI (0 : Int)]), (1, [Cell.own 2, Cell.own 3, Cell.own 4, Cell.own 5, cI a0.Skew])] 6) (Le.mk [(0, 1), (1, 2), (2, 3), (3, 4), (4, 5), (5, 6)] hm rfl ⟨⟨_, rfl, rfl⟩, ⟨_, rfl, rfl⟩, trivial⟩ ⟨⟨_, rfl, rfl⟩, ⟨_, rfl, rfl⟩, ⟨_, rfl, rfl⟩, ⟨_, rfl, rfl⟩, trivial⟩ ⟨⟨_, _, rfl, rfl, rfl⟩, ⟨_, _, rfl, rfl, rfl⟩, trivial⟩) ?_
  refine L.nil ?_
  refine WpC.seq ?_
  refine WpC.regionL ?_
  refine L.loadPtr shape90 hF rfl rfl rfl rfl rfl rfl ?_
  refine L.storePtr shape90 hF rfl rfl rfl rfl rfl rfl rfl ?_
  refine L.le (τ := mkSt [(2, MG.one (Cell.ptr 0 0))] [(1, ⟨1, List.map eI r1⟩), (2, ⟨1, List.map eI r2⟩), (3, ⟨2, List.map eTimpl_Pair r3⟩), (4, ⟨2, List.map eTimpl_Pair r4⟩)] [(0, [Cell.own 1, Cell.own 2, Cell.own 3, Cell.own 4, cI a0.Skew])] 5) (Le.mk [(0, 0), (1, 2), (2, 3), (3, 4), (4, 5)] hm rfl ⟨⟨_, rfl, rfl⟩, trivial⟩ ⟨⟨_, rfl, rfl⟩, ⟨_, rfl, rfl⟩, ⟨_, rfl, rfl⟩, ⟨_, rfl, rfl⟩, trivial⟩ ⟨⟨_, _, rfl, rfl, rfl⟩, trivial⟩) ?_
  refine L.nil ?_
  refine WpC.ret ?_
  cases H
  exact Leaves.ret rfl rfl rfl ⟨rfl, rfl⟩
/-! ### Flaws_toAuth -/
def Flaws_toAuth (k : Nat) (a0 : Tlaws_Auth) : Option Timpl_Auth := some (⟨a0.Client, a0.Time, a0.Seq⟩ : Timpl_Auth)
theorem ent180 : MG.Enters Try.prog 180 := ⟨Try.f180, Try.func180, rfl, by decide⟩
set_option maxHeartbeats 8000000 in
set_option maxRecDepth 100000 in
theorem Flaws_toAuth_gives (k : Nat) (a0 : Tlaws_Auth) (r : Timpl_Auth) (H : Flaws_toAuth k a0 = some r) : Gives Try.prog 180 [V.agg [cI a0.Client, cI a0.Time, cI a0.Seq]] [] [V.agg [cI r.Client, cI r.Time, cI r.Seq]] [] := by
  refine Gives.intro Try.func180 rfl rfl rfl rfl ?_
  intro F hF hm
  unfold Flaws_toAuth at H
  obtain ⟨K, hK⟩ : ∃ K, k ≤ K := ⟨k, Nat.le_refl k⟩
  refine WpC.seq ?_
  refine WpC.regionL ?_
  refine L.box 3 hF rfl rfl rfl rfl ?_
  refine L.alloc 4 info111 rfl hF rfl rfl rfl rfl ?_
  refine L.nil ?_
  refine WpC.seq ?_
  refine WpC.regionL ?_
  refine L.alloc 5 info111 rfl hF rfl rfl rfl rfl ?_
  refine L.nil ?_
  refine WpC.seq ?_
  refine WpC.regionL ?_
  refine L.fieldAddr Try.underlying106 rfl info3 rfl hF rfl rfl rfl rfl rfl ?_
  refine L.loadPtr shape3 hF rfl rfl rfl rfl rfl rfl ?_
  refine L.fieldAddr Try.underlying111 rfl info3 rfl hF rfl rfl rfl rfl rfl ?_
  refine L.storePtr shape3 hF rfl rfl rfl rfl rfl rfl rfl ?_
  refine L.nil ?_
  refine WpC.seq ?_
  refine WpC.regionL ?_
  refine L.fieldAddr Try.underlying106 rfl info3 rfl hF rfl rfl rfl rfl rfl ?_
  refine L.loadPtr shape3 hF rfl rfl rfl rfl rfl rfl ?_
  refine L.fieldAddr Try.underlying111 rfl info3 rfl hF rfl rfl rfl rfl rfl ?_
  refine L.storePtr shape3 hF rfl rfl rfl rfl rfl rfl rfl ?_
  refine L.nil ?_
  refine WpC.seq ?_
  refine WpC.regionL ?_
  refine L.fieldAddr Try.underlying106 rfl info3 rfl hF rfl rfl rfl rfl rfl ?_
  refine L.loadPtr shape3 hF rfl rfl rfl rfl rfl rfl ?_
  refine L.fieldAddr Try.underlying111 rfl info3 rfl hF rfl rfl rfl rfl rfl ?_
  refine L.storePtr shape3 hF rfl rfl rfl rfl rfl rfl rfl ?_
  refine L.nil ?_
  refine WpC.seq ?_
  refine WpC.regionL ?_
  refine L.loadPtr shape111 hF rfl rfl rfl rfl rfl rfl ?_
  refine L.storePtr shape111 hF rfl rfl rfl rfl rfl rfl rfl ?_
  refine L.nil ?_
  refine WpC.ret ?_
  cases H
  exact Leaves.ret rfl rfl rfl ⟨rfl, rfl⟩
/-! ### Flaws_toRest -/
def Flaws_toRest (k : Nat) (a0 : Tlaws_Rest) : Option Timpl_Rest := some (⟨a0.Servers, a0.Ops, a0.End⟩ : Timpl_Rest)
theorem ent72 : MG.Enters Try.prog 72 := ⟨Try.f72, Try.func72, rfl, by decide⟩
set_option maxHeartbeats 8000000 in
set_option maxRecDepth 100000 in
theorem Flaws_toRest_gives (k : Nat) (a0 : Tlaws_Rest) (r : Timpl_Rest) (H : Flaws_toRest k a0 = some r) : Gives Try.prog 72 [V.agg [cI a0.Servers, cI a0.Ops, cI a0.End]] [] [V.agg [cI r.Servers, cI r.Ops, cI r.End]] [] := by
  refine Gives.intro Try.func72 rfl rfl rfl rfl ?_
  intro F hF hm
  unfold Flaws_toRest at H
  obtain ⟨K, hK⟩ : ∃ K, k ≤ K := ⟨k, Nat.le_refl k⟩
  refine WpC.seq ?_
  refine WpC.regionL ?_
  refine L.box 3 hF rfl rfl rfl rfl ?_
  refine L.alloc 4 info74 rfl hF rfl rfl rfl rfl ?_
  refine L.nil ?_
  refine WpC.seq ?_
  refine WpC.regionL ?_
  refine L.alloc 5 info74 rfl hF rfl rfl rfl rfl ?_
  refine L.nil ?_
  refine WpC.seq ?_
  refine WpC.regionL ?_
  refine L.fieldAddr Try.underlying84 rfl info3 rfl hF rfl rfl rfl rfl rfl ?_
  refine L.loadPtr shape3 hF rfl rfl rfl rfl rfl rfl ?_
  refine L.fieldAddr Try.underlying74 rfl info3 rfl hF rfl rfl rfl rfl rfl ?_
  refine L.storePtr shape3 hF rfl rfl rfl rfl rfl rfl rfl ?_
  refine L.nil ?_
  refine WpC.seq ?_
  refine WpC.regionL ?_
  refine L.fieldAddr Try.underlying84 rfl info3 rfl hF rfl rfl rfl rfl rfl ?_
  refine L.loadPtr shape3 hF rfl rfl rfl rfl rfl rfl ?_
  refine L.fieldAddr Try.underlying74 rfl info3 rfl hF rfl rfl rfl rfl rfl ?_
  refine L.storePtr shape3 hF rfl rfl rfl rfl rfl rfl rfl ?_
  refine L.nil ?_
  refine WpC.seq ?_
  refine WpC.regionL ?_
  refine L.fieldAddr Try.underlying84 rfl info3 rfl hF rfl rfl rfl rfl rfl ?_
  refine L.loadPtr shape3 hF rfl rfl rfl rfl rfl rfl ?_
  refine L.fieldAddr Try.underlying74 rfl info3 rfl hF rfl rfl rfl rfl rfl ?_
  refine L.storePtr shape3 hF rfl rfl rfl rfl rfl rfl rfl ?_
  refine L.nil ?_
  refine WpC.seq ?_
  refine WpC.regionL ?_
  refine L.loadPtr shape74 hF rfl rfl rfl rfl rfl rfl ?_
  refine L.storePtr shape74 hF rfl rfl rfl rfl rfl rfl rfl ?_
  refine L.nil ?_
  refine WpC.ret ?_
  cases H
  exact Leaves.ret rfl rfl rfl ⟨rfl, rfl⟩
/-! ### Flaws_toAccept -/
def Flaws_toAccept (k : Nat) (a0 : Tlaws_Accept) : Option Timpl_Accept := (Flaws_toAuth k (⟨a0.Auth.Client, a0.Auth.Time, a0.Auth.Seq⟩ : Tlaws_Auth)).bind fun r1 => (Flaws_toRest k (⟨a0.Rest.Servers, a0.Rest.Ops, a0.Rest.End⟩ : Tlaws_Rest)).bind fun r2 => (Flaws_toIntS k a0.Path).bind fun r3 => (Flaws_toIntS k a0.Via).bind fun r4 => some (⟨a0.Server, a0.Client, a0.Key, a0.Op, a0.Now, r1, r2, r3, r4, a0.Leaks, a0.Ticket⟩ : Timpl_Accept)
theorem ent89 : MG.Enters Try.prog 89 := ⟨Try.f89, Try.func89, rfl, by decide⟩
set_option maxHeartbeats 8000000 in
set_option maxRecDepth 100000 in
theorem Flaws_toAccept_gives (k : Nat) (g0 : Bool) (g1 : Bool) (a0 : Tlaws_Accept) (r : Timpl_Accept) (H : Flaws_toAccept k a0 = some r) : Gives Try.prog 89 [V.agg [cI a0.Server, cI a0.Client, cI a0.Key, cI a0.Op, cI a0.Now, cI a0.Auth.Client, cI a0.Auth.Time, cI a0.Auth.Seq, cI a0.Rest.Servers, cI a0.Rest.Ops, cI a0.Rest.End, Cell.sl g0 (List.map eI a0.Path), Cell.sl g1 (List.map eI a0.Via), cI a0.Leaks, cS a0.Ticket]] [] [V.agg [cI r.Server, cI r.Client, cI r.Key, cI r.Op, cI r.Now, cI r.Auth.Client, cI r.Auth.Time, cI r.Auth.Seq, cI r.Rest.Servers, cI r.Rest.Ops, cI r.Rest.End, Cell.ow 1 (List.map eI r.Path), Cell.ow 1 (List.map eI r.Via), cI r.Leaks, cS r.Ticket]] [] := by
  refine Gives.intro Try.func89 rfl rfl rfl rfl ?_
  intro F hF hm
  unfold Flaws_toAccept at H
  obtain ⟨K, hK⟩ : ∃ K, k ≤ K := ⟨k, Nat.le_refl k⟩
  refine WpC.seq ?_
  refine WpC.regionL ?_
  refine L.box 15 hF rfl rfl rfl rfl ?_
  refine L.alloc 16 info113 rfl hF rfl rfl rfl rfl ?_
  refine L.le (τ := mkSt [(1, MG.one (Cell.ptr 0 0)), (2, MG.one (Cell.ptr 1 0))] [] [(0, [cI a0.Server, cI a0.Client, cI a0.Key, cI a0.Op, cI a0.Now, cI a0.Auth.Client, cI a0.Auth.Time, cI a0.Auth.Seq, cI a0.Rest.Servers, cI a0.Rest.Ops, cI a0.Rest.End, Cell.sl g0 (List.map eI a0.Path), Cell.sl g1 (List.map eI a0.Via), cI a0.Leaks, cS a0.Ticket]), (1, [cI (0 : Int), cI (0 : Int), cI (0 : Int), cI (0 : Int), cI (0 : Int), cI (0 : Int), cI (0 : Int), cI (0 : Int), cI (0 : Int), cI (0 : Int), cI (0 : Int), Cell.nil, Cell.nil, cI (0 : Int), cS ([] : List UInt8)])] 2) (Le.mk [(0, 15), (1, 16)] hm rfl ⟨⟨_, rfl, rfl⟩, ⟨_, rfl, rfl⟩, trivial⟩ trivial ⟨⟨_, _, rfl, rfl, rfl⟩, ⟨_, _, rfl, rfl, rfl⟩, trivial⟩) ?_
  refine L.nil ?_
  refine WpC.seq ?_
  refine WpC.regionL ?_
  refine L.alloc 2 info113 rfl hF rfl rfl rfl rfl ?_
  refine L.le (τ := mkSt [(1, MG.one (Cell.ptr 0 0)), (2, MG.one (Cell.ptr 1 0)), (3, MG.one (Cell.ptr 2 0))] [] [(0, [cI a0.Server, cI a0.Client, cI a0.Key, cI a0.Op, cI a0.Now, cI a0.Auth.Client, cI a0.Auth.Time, cI a0.Auth.Seq, cI a0.Rest.Servers, cI a0.Rest.Ops, cI a0.Rest.End, Cell.sl g0 (List.map eI a0.Path), Cell.sl g1 (List.map eI a0.Via), cI a0.Leaks, cS a0.Ticket]), (1, [cI (0 : Int), cI (0 : Int), cI (0 : Int), cI (0 : Int), cI (0 : Int), cI (0 : Int), cI (0 : Int), cI (0 : Int), cI (0 : Int), cI (0 : Int), cI (0 : Int), Cell.nil, Cell.nil, cI (0 : Int), cS ([] : List UInt8)]), (2, [cI (0 : Int), cI (0 : Int), cI (0 : Int), cI (0 : Int), cI (0 : Int), cI (0 : Int), cI (0 : Int), cI (0 : Int), cI (0 : Int), cI (0 : Int), cI (0 : Int), Cell.nil, Cell.nil, cI (0 : Int), cS ([] : List UInt8)])] 3) (Le.mk [(0, 0), (1, 1), (2, 2)] hm rfl ⟨⟨_, rfl, rfl⟩, ⟨_, rfl, rfl⟩, ⟨_, rfl, rfl⟩, trivial⟩ trivial ⟨⟨_, _, rfl, rfl, rfl⟩, ⟨_, _, rfl, rfl, rfl⟩, ⟨_, _, rfl, rfl, rfl⟩, trivial⟩) ?_
  refine L.nil ?_
  refine WpC.seq ?_
  refine WpC.regionL ?_
  refine L.fieldAddr Try.underlying108 rfl info3 rfl hF rfl rfl rfl rfl rfl ?_
  refine L.loadPtr shape3 hF rfl rfl rfl rfl rfl rfl ?_
  refine L.fieldAddr Try.underlying113 rfl info3 rfl hF rfl rfl rfl rfl rfl ?_
  refine L.storePtr shape3 hF rfl rfl rfl rfl rfl rfl rfl ?_
  refine L.le (τ := mkSt [(1, MG.one (Cell.ptr 0 0)), (2, MG.one (Cell.ptr 1 0)), (3, MG.one (Cell.ptr 2 0))] [] [(0, [cI a0.Server, cI a0.Client, cI a0.Key, cI a0.Op, cI a0.Now, cI a0.Auth.Client, cI a0.Auth.Time, cI a0.Auth.Seq, cI a0.Rest.Servers, cI a0.Rest.Ops, cI a0.Rest.End, Cell.sl g0 (List.map eI a0.Path), Cell.sl g1 (List.map eI a0.Via), cI a0.Leaks, cS a0.Ticket]), (1, [cI (0 : Int), cI (0 : Int), cI (0 : Int), cI (0 : Int), cI (0 : Int), cI (0 : Int), cI (0 : Int), cI (0 : Int), cI (0 : Int), cI (0 : Int), cI (0 : Int), Cell.nil, Cell.nil, cI (0 : Int), cS ([] : List UInt8)]), (2, [cI a0.Server, cI (0 : Int), cI (0 : Int), cI (0 : Int), cI (0 : Int), cI (0 : Int), cI (0 : Int), cI (0 : Int), cI (0 : Int), cI (0 : Int), cI (0 : Int), Cell.nil, Cell.nil, cI (0 : Int), cS ([] : List UInt8)])] 3) (Le.mk [(0, 0), (1, 1), (2, 2)] hm rfl ⟨⟨_, rfl, rfl⟩, ⟨_, rfl, rfl⟩, ⟨_, rfl, rfl⟩, trivial⟩ trivial ⟨⟨_, _, rfl, rfl, rfl⟩, ⟨_, _, rfl, rfl, rfl⟩, ⟨_, _, rfl, rfl, rfl⟩, trivial⟩) ?_
  refine L.nil ?_
  refine WpC.seq ?_
  refine WpC.regionL ?_
  refine L.fieldAddr Try.underlying108 rfl info3 rfl hF rfl rfl rfl rfl rfl ?_
  refine L.loadPtr shape3 hF rfl rfl rfl rfl rfl rfl ?_
  refine L.fieldAddr Try.underlying113 rfl info3 rfl hF rfl rfl rfl rfl rfl ?_
  refine L.storePtr shape3 hF rfl rfl rfl rfl rfl rfl rfl ?_
  refine L.le (τ := mkSt [(1, MG.one (Cell.ptr 0 0)), (2, MG.one (Cell.ptr 1 0)), (3, MG.one (Cell.ptr 2 0))] [] [(0, [cI a0.Server, cI a0.Client, cI a0.Key, cI a0.Op, cI a0.Now, cI a0.Auth.Client, cI a0.Auth.Time, cI a0.Auth.Seq, cI a0.Rest.Servers, cI a0.Rest.Ops, cI a0.Rest.End, Cell.sl g0 (List.map eI a0.Path), Cell.sl g1 (List.map eI a0.Via), cI a0.Leaks, cS a0.Ticket]), (1, [cI (0 : Int), cI (0 : Int), cI (0 : Int), cI (0 : Int), cI (0 : Int), cI (0 : Int), cI (0 : Int), cI (0 : Int), cI (0 : Int), cI (0 : Int), cI (0 : Int), Cell.nil, Cell.nil, cI (0 : Int), cS ([] : List UInt8)]), (2, [cI a0.Server, cI a0.Client, cI (0 : Int), cI (0 : Int), cI (0 : Int), cI (0 : Int), cI (0 : Int), cI (0 : Int), cI (0 : Int), cI (0 : Int), cI (0 : Int), Cell.nil, Cell.nil, cI (0 : Int), cS ([] : List UInt8)])] 3) (Le.mk [(0, 0), (1, 1), (2, 2)] hm rfl ⟨⟨_, rfl, rfl⟩, ⟨_, rfl, rfl⟩, ⟨_, rfl, rfl⟩, trivial⟩ trivial ⟨⟨_, _, rfl, rfl, rfl⟩, ⟨_, _, rfl, rfl, rfl⟩, ⟨_, _, rfl, rfl, rfl⟩, trivial⟩) ?_
  refine L.nil ?_
  refine WpC.seq ?_
  refine WpC.regionL ?_
  refine L.fieldAddr Try.underlying108 rfl info3 rfl hF rfl rfl rfl rfl rfl ?_
  refine L.loadPtr shape3 hF rfl rfl rfl rfl rfl rfl ?_
  refine L.fieldAddr Try.underlying113 rfl info3 rfl hF rfl rfl rfl rfl rfl ?_
  refine L.storePtr shape3 hF rfl rfl rfl rfl rfl rfl rfl ?_
  refine L.le (τ := mkSt [(1, MG.one (Cell.ptr 0 0)), (2, MG.one (Cell.ptr 1 0)), (3, MG.one (Cell.ptr 2 0))] [] [(0, [cI a0.Server, cI a0.Client, cI a0.Key, cI a0.Op, cI a0.Now, cI a0.Auth.Client, cI a0.Auth.Time, cI a0.Auth.Seq, cI a0.Rest.Servers, cI a0.Rest.Ops, cI a0.Rest.End, Cell.sl g0 (List.map eI a0.Path), Cell.sl g1 (List.map eI a0.Via), cI a0.Leaks, cS a0.Ticket]), (1, [cI (0 : Int), cI (0 : Int), cI (0 : Int), cI (0 : Int), cI (0 : Int), cI (0 : Int), cI (0 : Int), cI (0 : Int), cI (0 : Int), cI (0 : Int), cI (0 : Int), Cell.nil, Cell.nil, cI (0 : Int), cS ([] : List UInt8)]), (2, [cI a0.Server, cI a0.Client, cI a0.Key, cI (0 : Int), cI (0 : Int), cI (0 : Int), cI (0 : Int), cI (0 : Int), cI (0 : Int), cI (0 : Int), cI (0 : Int), Cell.nil, Cell.nil, cI (0 : Int), cS ([] : List UInt8)])] 3) (Le.mk [(0, 0), (1, 1), (2, 2)] hm rfl ⟨⟨_, rfl, rfl⟩, ⟨_, rfl, rfl⟩, ⟨_, rfl, rfl⟩, trivial⟩ trivial ⟨⟨_, _, rfl, rfl, rfl⟩, ⟨_, _, rfl, rfl, rfl⟩, ⟨_, _, rfl, rfl, rfl⟩, trivial⟩) ?_
  refine L.nil ?_
  refine WpC.seq ?_
  refine WpC.regionL ?_
  refine L.fieldAddr Try.underlying108 rfl info3 rfl hF rfl rfl rfl rfl rfl ?_
  refine L.loadPtr shape3 hF rfl rfl rfl rfl rfl rfl ?_
  refine L.fieldAddr Try.underlying113 rfl info3 rfl hF rfl rfl rfl rfl rfl ?_
  refine L.storePtr shape3 hF rfl rfl rfl rfl rfl rfl rfl ?_
  refine L.le (τ := mkSt [(1, MG.one (Cell.ptr 0 0)), (2, MG.one (Cell.ptr 1 0)), (3, MG.one (Cell.ptr 2 0))] [] [(0, [cI a0.Server, cI a0.Client, cI a0.Key, cI a0.Op, cI a0.Now, cI a0.Auth.Client, cI a0.Auth.Time, cI a0.Auth.Seq, cI a0.Rest.Servers, cI a0.Rest.Ops, cI a0.Rest.End, Cell.sl g0 (List.map eI a0.Path), Cell.sl g1 (List.map eI a0.Via), cI a0.Leaks, cS a0.Ticket]), (1, [cI (0 : Int), cI (0 : Int), cI (0 : Int), cI (0 : Int), cI (0 : Int), cI (0 : Int), cI (0 : Int), cI (0 : Int), cI (0 : Int), cI (0 : Int), cI (0 : Int), Cell.nil, Cell.nil, cI (0 : Int), cS ([] : List UInt8)]), (2, [cI a0.Server, cI a0.Client, cI a0.Key, cI a0.Op, cI (0 : Int), cI (0 : Int), cI (0 : Int), cI (0 : Int), cI (0 : Int), cI (0 : Int), cI (0 : Int), Cell.nil, Cell.nil, cI (0 : Int), cS ([] : List UInt8)])] 3) (Le.mk [(0, 0), (1, 1), (2, 2)] hm rfl ⟨⟨_, rfl, rfl⟩, ⟨_, rfl, rfl⟩, ⟨_, rfl, rfl⟩, trivial⟩ trivial ⟨⟨_, _, rfl, rfl, rfl⟩, ⟨_, _, rfl, rfl, rfl⟩, ⟨_, _, rfl, rfl, rfl⟩, trivial⟩) ?_
  refine L.nil ?_
  refine WpC.seq ?_
  refine WpC.regionL ?_
  refine L.fieldAddr Try.underlying108 rfl info3 rfl hF rfl rfl rfl rfl rfl ?_
  refine L.loadPtr shape3 hF rfl rfl rfl rfl rfl rfl ?_
  refine L.fieldAddr Try.underlying113 rfl info3 rfl hF rfl rfl rfl rfl rfl ?_
  refine L.storePtr shape3 hF rfl rfl rfl rfl rfl rfl rfl ?_
  refine L.le (τ := mkSt [(1, MG.one (Cell.ptr 0 0)), (2, MG.one (Cell.ptr 1 0)), (3, MG.one (Cell.ptr 2 0))] [] [(0, [cI a0.Server, cI a0.Client, cI a0.Key, cI a0.Op, cI a0.Now, cI a0.Auth.Client, cI a0.Auth.Time, cI a0.Auth.Seq, cI a0.Rest.Servers, cI a0.Rest.Ops, cI a0.Rest.End, Cell.sl g0 (List.map eI a0.Path), Cell.sl g1 (List.map eI a0.Via), cI a0.Leaks, cS a0.Ticket]), (1, [cI (0 : Int), cI (0 : Int), cI (0 : Int), cI (0 : Int), cI (0 : Int), cI (0 : Int), cI (0 : Int), cI (0 : Int), cI (0 : Int), cI (0 : Int), cI (0 : Int), Cell.nil, Cell.nil, cI (0 : Int), cS ([] : List UInt8)]), (2, [cI a0.Server, cI a0.Client, cI a0.Key, cI a0.Op, cI a0.Now, cI (0 : Int), cI (0 : Int), cI (0 : Int), cI (0 : Int), cI (0 : Int), cI (0 : Int), Cell.nil, Cell.nil, cI (0 : Int), cS ([] : List UInt8)])] 3) (Le.mk [(0, 0), (1, 1), (2, 2)] hm rfl ⟨⟨_, rfl, rfl⟩, ⟨_, rfl, rfl⟩, ⟨_, rfl, rfl⟩, trivial⟩ trivial ⟨⟨_, _, rfl, rfl, rfl⟩, ⟨_, _, rfl, rfl, rfl⟩, ⟨_, _, rfl, rfl, rfl⟩, trivial⟩) ?_
  refine L.nil ?_
  refine WpC.seq ?_
  refine WpC.regionL ?_
  refine L.fieldAddr Try.underlying108 rfl info106 rfl hF rfl rfl rfl rfl rfl ?_
  refine L.loadPtr shape106 hF rfl rfl rfl rfl rfl rfl ?_
  obtain ⟨r1, hr1, H⟩ := bindS H
  refine L.call [false] [] [] 3 hF rfl rfl rfl ent180 rfl rfl rfl rfl rfl (Flaws_toAuth_gives k  (⟨a0.Auth.Client, a0.Auth.Time, a0.Auth.Seq⟩ : Tlaws_Auth) r1 hr1) rfl ?_
  refine L.fieldAddr Try.underlying113 rfl info111 rfl hF rfl rfl rfl rfl rfl ?_
  refine L.storePtr shape111 hF rfl rfl rfl rfl rfl rfl rfl ?_
  refine L.le (τ := mkSt [(1, MG.one (Cell.ptr 0 0)), (2, MG.one (Cell.ptr 1 0)), (3, MG.one (Cell.ptr 2 0))] [] [(0, [cI a0.Server, cI a0.Client, cI a0.Key, cI a0.Op, cI a0.Now, cI a0.Auth.Client, cI a0.Auth.Time, cI a0.Auth.Seq, cI a0.Rest.Servers, cI a0.Rest.Ops, cI a0.Rest.End, Cell.sl g0 (List.map eI a0.Path), Cell.sl g1 (List.map eI a0.Via), cI a0.Leaks, cS a0.Ticket]), (1, [cI (0 : Int), cI (0 : Int), cI (0 : Int), cI (0 : Int), cI (0 : Int), cI (0 : Int), cI (0 : Int), cI (0 : Int), cI (0 : Int), cI (0 : Int), cI (0 : Int), Cell.nil, Cell.nil, cI (0 : Int), cS ([] : List UInt8)]), (2, [cI a0.Server, cI a0.Client, cI a0.Key, cI a0.Op, cI a0.Now, cI r1.Client, cI r1.Time, cI r1.Seq, cI (0 : Int), cI (0 : Int), cI (0 : Int), Cell.nil, Cell.nil, cI (0 : Int), cS ([] : List UInt8)])] 3) (Le.mk [(0, 0), (1, 1), (2, 2)] hm rfl ⟨⟨_, rfl, rfl⟩, ⟨_, rfl, rfl⟩, ⟨_, rfl, rfl⟩, trivial⟩ trivial ⟨⟨_, _, rfl, rfl, rfl⟩, ⟨_, _, rfl, rfl, rfl⟩, ⟨_, _, rfl, rfl, rfl⟩, trivial⟩) ?_
  refine L.nil ?_
  refine WpC.seq ?_
  refine WpC.regionL ?_
  refine L.fieldAddr Try.underlying108 rfl info84 rfl hF rfl rfl rfl rfl rfl ?_
  refine L.loadPtr shape84 hF rfl rfl rfl rfl rfl rfl ?_
  obtain ⟨r2, hr2, H⟩ := bindS H
  refine L.call [false] [] [] 3 hF rfl rfl rfl ent72 rfl rfl rfl rfl rfl (Flaws_toRest_gives k  (⟨a0.Rest.Servers, a0.Rest.Ops, a0.Rest.End⟩ : Tlaws_Rest) r2 hr2) rfl ?_
  refine L.fieldAddr Try.underlying113 rfl info74 rfl hF rfl rfl rfl rfl rfl ?_
  refine L.storePtr shape74 hF rfl rfl rfl rfl rfl rfl rfl ?_
  refine L.le (τ := mkSt [(1, MG.one (Cell.ptr 0 0)), (2, MG.one (Cell.ptr 1 0)), (3, MG.one (Cell.ptr 2 0))] [] [(0, [cI a0.Server, cI a0.Client, cI a0.Key, cI a0.Op, cI a0.Now, cI a0.Auth.Client, cI a0.Auth.Time, cI a0.Auth.Seq, cI a0.Rest.Servers, cI a0.Rest.Ops, cI a0.Rest.End, Cell.sl g0 (List.map eI a0.Path), Cell.sl g1 (List.map eI a0.Via), cI a0.Leaks, cS a0.Ticket]), (1, [cI (0 : Int), cI (0 : Int), cI (0 : Int), cI (0 : Int), cI (0 : Int), cI (0 : Int), cI (0 : Int), cI (0 : Int), cI (0 : Int), cI (0 : Int), cI (0 : Int), Cell.nil, Cell.nil, cI (0 : Int), cS ([] : List UInt8)]), (2, [cI a0.Server, cI a0.Client, cI a0.Key, cI a0.Op, cI a0.Now, cI r1.Client, cI r1.Time, cI r1.Seq, cI r2.Servers, cI r2.Ops, cI r2.End, Cell.nil, Cell.nil, cI (0 : Int), cS ([] : List UInt8)])] 3) (Le.mk [(0, 0), (1, 1), (2, 2)] hm rfl ⟨⟨_, rfl, rfl⟩, ⟨_, rfl, rfl⟩, ⟨_, rfl, rfl⟩, trivial⟩ trivial ⟨⟨_, _, rfl, rfl, rfl⟩, ⟨_, _, rfl, rfl, rfl⟩, ⟨_, _, rfl, rfl, rfl⟩, trivial⟩) ?_
  refine L.nil ?_
  refine WpC.seq ?_
  refine WpC.regionL ?_
  refine L.fieldAddr Try.underlying108 rfl info24 rfl hF rfl rfl rfl rfl rfl ?_
  refine L.loadPtr shape24 hF rfl rfl rfl rfl rfl rfl ?_
  obtain ⟨r3, hr3, H⟩ := bindS H
  refine L.call [false] [] [] 3 hF rfl rfl rfl ent54 rfl rfl rfl rfl rfl (Flaws_toIntS_gives k g0 a0.Path r3 hr3) rfl ?_
  refine L.fieldAddr Try.underlying113 rfl info24 rfl hF rfl rfl rfl rfl rfl ?_
  refine L.storePtr shape24 hF rfl rfl rfl rfl rfl rfl rfl ?_
  refine L.le (τ := mkSt [(1, MG.one (Cell.ptr 0 0)), (2, MG.one (Cell.ptr 1 0)), (3, MG.one (Cell.ptr 2 0))] [(3, ⟨1, List.map eI r3⟩)] [(0, [cI a0.Server, cI a0.Client, cI a0.Key, cI a0.Op, cI a0.Now, cI a0.Auth.Client, cI a0.Auth.Time, cI a0.Auth.Seq, cI a0.Rest.Servers, cI a0.Rest.Ops, cI a0.Rest.End, Cell.sl g0 (List.map eI a0.Path), Cell.sl g1 (List.map eI a0.Via), cI a0.Leaks, cS a0.Ticket]), (1, [cI (0 : Int), cI (0 : Int), cI (0 : Int), cI (0 : Int), cI (0 : Int), cI (0 : Int), cI (0 : Int), cI (0 : Int), cI (0 : Int), cI (0 : Int), cI (0 : Int), Cell.nil, Cell.nil, cI (0 : Int), cS ([] : List UInt8)]), (2, [cI a0.Server, cI a0.Client, cI a0.Key, cI a0.Op, cI a0.Now, cI r1.Client, cI r1.Time, cI r1.Seq, cI r2.Servers, cI r2.Ops, cI r2.End, Cell.own 3, Cell.nil, cI (0 : Int), cS ([] : List UInt8)])] 4) (Le.mk [(0, 0), (1, 1), (2, 2), (3, 3)] hm rfl ⟨⟨_, rfl, rfl⟩, ⟨_, rfl, rfl⟩, ⟨_, rfl, rfl⟩, trivial⟩ ⟨⟨_, rfl, rfl⟩, trivial⟩ ⟨⟨_, _, rfl, rfl, rfl⟩, ⟨_, _, rfl, rfl, rfl⟩, ⟨_, _, rfl, rfl, rfl⟩, trivial⟩) ?_
  refine L.nil ?_
  refine WpC.seq ?_
  refine WpC.regionL ?_
  refine L.fieldAddr Try.underlying108 rfl info24 rfl hF rfl rfl rfl rfl rfl ?_
  refine L.loadPtr shape24 hF rfl rfl rfl rfl rfl rfl ?_
  obtain ⟨r4, hr4, H⟩ := bindS H
  refine L.call [false] [] [] 4 hF rfl rfl rfl ent54 rfl rfl rfl rfl rfl (Flaws_toIntS_gives k g1 a0.Via r4 hr4) rfl ?_
  refine L.fieldAddr Try.underlying113 rfl info24 rfl hF rfl rfl rfl rfl rfl ?_
  refine L.storePtr shape24 hF rfl rfl rfl rfl rfl rfl rfl ?_
  refine L.le (τ := mkSt [(1, MG.one (Cell.ptr 0 0)), (2, MG.one (Cell.ptr 1 0)), (3, MG.one (Cell.ptr 2 0))] [(3, ⟨1, List.map eI r3⟩), (4, ⟨1, List.map eI r4⟩)] [(0, [cI a0.Server, cI a0.Client, cI a0.Key, cI a0.Op, cI a0.Now, cI a0.Auth.Client, cI a0.Auth.Time, cI a0.Auth.Seq, cI a0.Rest.Servers, cI a0.Rest.Ops, cI a0.Rest.End, Cell.sl g0 (List.map eI a0.Path), Cell.sl g1 (List.map eI a0.Via), cI a0.Leaks, cS a0.Ticket]), (1, [cI (0 : Int), cI (0 : Int), cI (0 : Int), cI (0 : Int), cI (0 : Int), cI (0 : Int), cI (0 : Int), cI (0 : Int), cI (0 : Int), cI (0 : Int), cI (0 : Int), Cell.nil, Cell.nil, cI (0 : Int), cS ([] : List UInt8)]), (2, [cI a0.Server, cI a0.Client, cI a0.Key, cI a0.Op, cI a0.Now, cI r1.Client, cI r1.Time, cI r1.Seq, cI r2.Servers, cI r2.Ops, cI r2.End, Cell.own 3, Cell.own 4, cI (0 : Int), cS ([] : List UInt8)])] 5) (Le.mk [(0, 0), (1, 1), (2, 2), (3, 3), (4, 4)] hm rfl ⟨⟨_, rfl, rfl⟩, ⟨_, rfl, rfl⟩, ⟨_, rfl, rfl⟩, trivial⟩ ⟨⟨_, rfl, rfl⟩, ⟨_, rfl, rfl⟩, trivial⟩ ⟨⟨_, _, rfl, rfl, rfl⟩, ⟨_, _, rfl, rfl, rfl⟩, ⟨_, _, rfl, rfl, rfl⟩, trivial⟩) ?_
  refine L.nil ?_
  refine WpC.seq ?_
  refine WpC.regionL ?_
  refine L.fieldAddr Try.underlying108 rfl info3 rfl hF rfl rfl rfl rfl rfl ?_
  refine L.loadPtr shape3 hF rfl rfl rfl rfl rfl rfl ?_
  refine L.fieldAddr Try.underlying113 rfl info3 rfl hF rfl rfl rfl rfl rfl ?_
  refine L.storePtr shape3 hF rfl rfl rfl rfl rfl rfl rfl ?_
  refine L.le (τ := mkSt [(1, MG.one (Cell.ptr 0 0)), (2, MG.one (Cell.ptr 1 0)), (3, MG.one (Cell.ptr 2 0))] [(3, ⟨1, List.map eI r3⟩), (4, ⟨1, List.map eI r4⟩)] [(0, [cI a0.Server, cI a0.Client, cI a0.Key, cI a0.Op, cI a0.Now, cI a0.Auth.Client, cI a0.Auth.Time, cI a0.Auth.Seq, cI a0.Rest.Servers, cI a0.Rest.Ops, cI a0.Rest.End, Cell.sl g0 (List.map eI a0.Path), Cell.sl g1 (List.map eI a0.Via), cI a0.Leaks, cS a0.Ticket]), (1, [cI (0 : Int), cI (0 : Int), cI (0 : Int), cI (0 : Int), cI (0 : Int), cI (0 : Int), cI (0 : Int), cI (0 : Int), cI (0 : Int), cI (0 : Int), cI (0 : Int), Cell.nil, Cell.nil, cI (0 : Int), cS ([] : List UInt8)]), (2, [cI a0.Server, cI a0.Client, cI a0.Key, cI a0.Op, cI a0.Now, cI r1.Client, cI r1.Time, cI r1.Seq, cI r2.Servers, cI r2.Ops, cI r2.End, Cell.own 3, Cell.own 4, cI a0.Leaks, cS ([] : List UInt8)])] 5) (Le.mk [(0, 0), (1, 1), (2, 2), (3, 3), (4, 4)] hm rfl ⟨⟨_, rfl, rfl⟩, ⟨_, rfl, rfl⟩, ⟨_, rfl, rfl⟩, trivial⟩ ⟨⟨_, rfl, rfl⟩, ⟨_, rfl, rfl⟩, trivial⟩ ⟨⟨_, _, rfl, rfl, rfl⟩, ⟨_, _, rfl, rfl, rfl⟩, ⟨_, _, rfl, rfl, rfl⟩, trivial⟩) ?_
  refine L.nil ?_
  refine WpC.seq ?_
  refine WpC.regionL ?_
  refine L.fieldAddr Try.underlying108 rfl info9 rfl hF rfl rfl rfl rfl rfl ?_
  refine L.loadPtr shape9 hF rfl rfl rfl rfl rfl rfl ?_
  refine L.fieldAddr Try.underlying113 rfl info9 rfl hF rfl rfl rfl rfl rfl ?_
  refine L.storePtr shape9 hF rfl rfl rfl rfl rfl rfl rfl ?_
  refine L.le (τ := mkSt [(2, MG.one (Cell.ptr 0 0)), (3, MG.one (Cell.ptr 1 0))] [(2, ⟨1, List.map eI r3⟩), (3, ⟨1, List.map eI r4⟩)] [(0, [cI (0 : Int), cI (0 : Int), cI (0 : Int), cI (0 : Int), cI (0 : Int), cI (0 : Int), cI (0 : Int), cI (0 : Int), cI (0 : Int), cI (0 : Int), cI (0 : Int), Cell.nil, Cell.nil, cI (0 : Int), cS ([] : List UInt8)]), (1, [cI a0.Server, cI a0.Client, cI a0.Key, cI a0.Op, cI a0.Now, cI r1.Client, cI r1.Time, cI r1.Seq, cI r2.Servers, cI r2.Ops, cI r2.End, Cell.own 2, Cell.own 3, cI a0.Leaks, cS a0.Ticket])] 4) (Le.mk [(0, 1), (1, 2), (2, 3), (3, 4)] hm rfl ⟨⟨_, rfl, rfl⟩, ⟨_, rfl, rfl⟩, trivial⟩ ⟨⟨_, rfl, rfl⟩, ⟨_, rfl, rfl⟩, trivial⟩ ⟨⟨_, _, rfl, rfl, rfl⟩, ⟨_, _, rfl, rfl, rfl⟩, trivial⟩) ?_
  refine L.nil ?_
  refine WpC.seq ?_
  refine WpC.regionL ?_
  refine L.loadPtr shape113 hF rfl rfl rfl rfl rfl rfl ?_
  refine L.storePtr shape113 hF rfl rfl rfl rfl rfl rfl rfl ?_
  refine L.le (τ := mkSt [(2, MG.one (Cell.ptr 0 0))] [(1, ⟨1, List.map eI r3⟩), (2, ⟨1, List.map eI r4⟩)] [(0, [cI a0.Server, cI a0.Client, cI a0.Key, cI a0.Op, cI a0.Now, cI r1.Client, cI r1.Time, cI r1.Seq, cI r2.Servers, cI r2.Ops, cI r2.End, Cell.own 1, Cell.own 2, cI a0.Leaks, cS a0.Ticket])] 3) (Le.mk [(0, 0), (1, 2), (2, 3)] hm rfl ⟨⟨_, rfl, rfl⟩, trivial⟩ ⟨⟨_, rfl, rfl⟩, ⟨_, rfl, rfl⟩, trivial⟩ ⟨⟨_, _, rfl, rfl, rfl⟩, trivial⟩) ?_
  refine L.nil ?_
  refine WpC.ret ?_
  cases H
  exact Leaves.ret rfl rfl rfl ⟨rfl, rfl⟩
/-! ### Fspec_l5All -/
def Fspec_l5All.l2 : Nat → (List Int) → Int → Int → Option Bool
  | 0, _, _, _ => none
  | k2 + 1, v54, v55, v56 => cond (decide (v56 < (v54.length : Int))) ((at? v54 v56).bind fun b63 => cond (decide (b63 < (0 : Int))) (some false) ((at? v54 v56).bind fun b64 => cond (decide (b64 ≥ v55)) (some false) ((Fspec_l5All.l2 k2) v54 v55 (IntKind.i64.wrap (v56 + (1 : Int)))))) (some true)
def Fspec_l5All (k : Nat) (a0 : List Int) (a1 : Int) (a2 : Int) : Option Bool := cond (decide ((a0.length : Int) > a1)) (some false) (Fspec_l5All.l2 k a0 a2 (0 : Int))
theorem ent241 : MG.Enters Try.prog 241 := ⟨Try.f241, Try.func241, rfl, by decide⟩
set_option maxHeartbeats 8000000 in
set_option maxRecDepth 100000 in
theorem Fspec_l5All_gives (k : Nat) (g0 : Bool) (a0 : List Int) (a1 : Int) (a2 : Int) (r : Bool) (H : Fspec_l5All k a0 a1 a2 = some r) : Gives Try.prog 241 [V.one (Cell.sl g0 (List.map eI a0)), V.one (cI a1), V.one (cI a2)] [] [V.one (cL r)] [] := by
  refine Gives.intro Try.func241 rfl rfl rfl rfl ?_
  intro F hF hm
  unfold Fspec_l5All at H
  obtain ⟨K, hK⟩ : ∃ K, k ≤ K := ⟨k, Nat.le_refl k⟩
  refine WpC.seq ?_
  refine WpC.regionL ?_
  refine L.assign hF rfl rfl rfl ?_
  refine L.nil ?_
  refine WpC.seq ?_
  refine WpC.seq ?_
  refine WpC.regionL ?_
  refine L.move hF rfl rfl rfl ?_
  refine L.lenR (xs := a0) (e := eI) Try.underlying24 hF rfl rfl rfl rfl ?_
  refine L.move hF rfl rfl rfl ?_
  refine L.bin hF rfl rfl rfl rfl rfl rfl ?_
  refine L.nil ?_
  refine WpC.cond rfl (fun hc => ?_) (fun hc => ?_)
  · replace H := condT hc H
    refine WpC.seq ?_
    refine WpC.regionL ?_
    refine L.assign hF rfl rfl rfl ?_
    refine L.nil ?_
    refine WpC.ret ?_
    cases H
    exact Leaves.ret rfl rfl rfl ⟨rfl, rfl⟩
  · replace H := condF hc H
    refine WpC.skip ?_
    refine WpC.seq ?_
    refine WpC.seq ?_
    refine WpC.regionL ?_
    refine L.assign hF rfl rfl rfl ?_
    refine L.nil ?_
    refine WpC.block ?_
    refine WpC.loopL (P := Try.prog) (fun n σ => ∃ v54 : List Int, ∃ v55 : Int, ∃ v56 : Int, n ≤ K ∧ Fspec_l5All.l2 n v54 v55 v56 = some r ∧ σ = mkSt [(0, MG.one (Cell.sl g0 (List.map eI v54))), (2, MG.one (cI v55)), (7, MG.one (cI v56))] [] [] 0) k ⟨_, ⟨a0, a2, (0 : Int), by omega, H, rfl⟩, Le.mk [] hm rfl ⟨⟨_, rfl, rfl⟩, ⟨_, rfl, rfl⟩, ⟨_, rfl, rfl⟩, trivial⟩ trivial trivial⟩ ?_
    clear H
    rintro k2 _ ⟨v54, v55, v56, hk2, H, rfl⟩
    cases k2 with
    | zero => cases H
    | succ k2 =>
      rw [Fspec_l5All.l2] at H
      refine WpC.seq ?_
      refine WpC.seq ?_
      refine WpC.regionL ?_
      refine L.move hF rfl rfl rfl ?_
      refine L.move hF rfl rfl rfl ?_
      refine L.lenR (xs := v54) (e := eI) Try.underlying24 hF rfl rfl rfl rfl ?_
      refine L.bin hF rfl rfl rfl rfl rfl rfl ?_
      refine L.nil ?_
      refine WpC.cond rfl (fun hc => ?_) (fun hc => ?_)
      · replace H := condT hc H
        refine WpC.skip ?_
        refine WpC.seq ?_
        refine WpC.block ?_
        refine WpC.seq ?_
        refine WpC.regionL ?_
        refine L.move hF rfl rfl rfl ?_
        refine L.move hF rfl rfl rfl ?_
        obtain ⟨b63, hb63, H⟩ := bindS H
        refine L.idxR (xs := v54) (e := eI) Try.underlying24 info3 hF rfl rfl rfl rfl rfl hb63 rfl rfl ?_
        refine L.loadPe shape3 hF rfl rfl rfl rfl rfl ?_
        refine L.bin hF rfl rfl rfl rfl rfl rfl ?_
        refine L.move hF rfl rfl rfl ?_
        refine L.split (fun hc => ?_) (fun hc => ?_)
        · replace H := condT hc H
          refine L.off hF rfl rfl ?_
          refine L.off hF rfl rfl ?_
          refine L.off hF rfl rfl ?_
          refine L.off hF rfl rfl ?_
          refine L.off hF rfl rfl ?_
          refine L.off hF rfl rfl ?_
          refine L.pick hF rfl rfl rfl rfl ?_
          refine L.nil ?_
          refine WpC.cond rfl (fun _ => ?_) (fun hc => by cases hc)
          refine WpC.seq ?_
          refine WpC.regionL ?_
          refine L.assign hF rfl rfl rfl ?_
          refine L.nil ?_
          refine WpC.ret ?_
          cases H
          exact Leaves.ret rfl rfl rfl ⟨rfl, rfl⟩
        · replace H := condF hc H
          refine L.move hF rfl rfl rfl ?_
          refine L.move hF rfl rfl rfl ?_
          obtain ⟨b64, hb64, H⟩ := bindS H
          refine L.idxR (xs := v54) (e := eI) Try.underlying24 info3 hF rfl rfl rfl rfl rfl hb64 rfl rfl ?_
          refine L.loadPe shape3 hF rfl rfl rfl rfl rfl ?_
          refine L.move hF rfl rfl rfl ?_
          refine L.bin hF rfl rfl rfl rfl rfl rfl ?_
          refine L.pick hF rfl rfl rfl rfl ?_
          refine L.nil ?_
          refine WpC.cond rfl (fun hc => ?_) (fun hc => ?_)
          · replace H := condT hc H
            refine WpC.seq ?_
            refine WpC.regionL ?_
            refine L.assign hF rfl rfl rfl ?_
            refine L.nil ?_
            refine WpC.ret ?_
            cases H
            exact Leaves.ret rfl rfl rfl ⟨rfl, rfl⟩
          · replace H := condF hc H
            refine WpC.skip ?_
            refine WpC.regionL ?_
            refine L.move hF rfl rfl rfl ?_
            refine L.bin hF rfl rfl rfl rfl rfl rfl ?_
            refine L.assign hF rfl rfl rfl ?_
            refine L.nil ?_
            exact ⟨k2, _, by omega, ⟨v54, v55, (IntKind.i64.wrap (v56 + (1 : Int))), by omega, H, rfl⟩, Le.mk [] hm rfl ⟨⟨_, rfl, rfl⟩, ⟨_, rfl, rfl⟩, ⟨_, rfl, rfl⟩, trivial⟩ trivial trivial⟩
      · replace H := condF hc H
        refine WpC.exit ?_
        refine WpC.seq ?_
        refine WpC.regionL ?_
        refine L.assign hF rfl rfl rfl ?_
        refine L.nil ?_
        refine WpC.ret ?_
        cases H
        exact Leaves.ret rfl rfl rfl ⟨rfl, rfl⟩
/-! ### Fspec_l6Has -/
def Fspec_l6Has.l2 : Nat → (List Timpl_Pair) → Int → Int → Int → Option Bool
  | 0, _, _, _, _ => none
  | k2 + 1, v29, v30, v31, v32 => cond (decide (v30 < (v29.length : Int))) ((at? v29 v30).bind fun b34 => cond ((b34.A == v31) && ((b34.B == v32) && true)) (some true) ((Fspec_l6Has.l2 k2) v29 (IntKind.i64.wrap (v30 + (1 : Int))) v31 v32)) (some false)
def Fspec_l6Has (k : Nat) (a0 : List Timpl_Pair) (a1 : Timpl_Pair) : Option Bool := Fspec_l6Has.l2 k a0 (0 : Int) a1.A a1.B
theorem ent244 : MG.Enters Try.prog 244 := ⟨Try.f244, Try.func244, rfl, by decide⟩
set_option maxHeartbeats 8000000 in
set_option maxRecDepth 100000 in
theorem Fspec_l6Has_gives (k : Nat) (g0 : Bool) (a0 : List Timpl_Pair) (a1 : Timpl_Pair) (r : Bool) (H : Fspec_l6Has k a0 a1 = some r) : Gives Try.prog 244 [V.one (Cell.sl g0 (List.map eTimpl_Pair a0)), V.agg [cI a1.A, cI a1.B]] [] [V.one (cL r)] [] := by
  refine Gives.intro Try.func244 rfl rfl rfl rfl ?_
  intro F hF hm
  unfold Fspec_l6Has at H
  obtain ⟨K, hK⟩ : ∃ K, k ≤ K := ⟨k, Nat.le_refl k⟩
  refine WpC.seq ?_
  refine WpC.regionL ?_
  refine L.box 3 hF rfl rfl rfl rfl ?_
  refine L.assign hF rfl rfl rfl ?_
  refine L.nil ?_
  refine WpC.seq ?_
  refine WpC.seq ?_
  refine WpC.regionL ?_
  refine L.assign hF rfl rfl rfl ?_
  refine L.nil ?_
  refine WpC.block ?_
  refine WpC.loopL (P := Try.prog) (fun n σ => ∃ v29 : List Timpl_Pair, ∃ v30 : Int, ∃ v31 : Int, ∃ v32 : Int, n ≤ K ∧ Fspec_l6Has.l2 n v29 v30 v31 v32 = some r ∧ σ = mkSt [(0, MG.one (Cell.sl g0 (List.map eTimpl_Pair v29))), (3, MG.one (Cell.ptr 0 0)), (5, MG.one (cI v30))] [] [(0, [cI v31, cI v32])] 1) k ⟨_, ⟨a0, (0 : Int), a1.A, a1.B, by omega, H, rfl⟩, Le.mk [(0, 3)] hm rfl ⟨⟨_, rfl, rfl⟩, ⟨_, rfl, rfl⟩, ⟨_, rfl, rfl⟩, trivial⟩ trivial ⟨⟨_, _, rfl, rfl, rfl⟩, trivial⟩⟩ ?_
  clear H
  rintro k2 _ ⟨v29, v30, v31, v32, hk2, H, rfl⟩
  cases k2 with
  | zero => cases H
  | succ k2 =>
    rw [Fspec_l6Has.l2] at H
    refine WpC.seq ?_
    refine WpC.seq ?_
    refine WpC.regionL ?_
    refine L.move hF rfl rfl rfl ?_
    refine L.move hF rfl rfl rfl ?_
    refine L.lenR (xs := v29) (e := eTimpl_Pair) Try.underlying88 hF rfl rfl rfl rfl ?_
    refine L.bin hF rfl rfl rfl rfl rfl rfl ?_
    refine L.nil ?_
    refine WpC.cond rfl (fun hc => ?_) (fun hc => ?_)
    · replace H := condT hc H
      refine WpC.skip ?_
      refine WpC.seq ?_
      refine WpC.block ?_
      refine WpC.seq ?_
      refine S.begin mixed (by kernel_rfl) ?_
      refine S.st 0 rfl rfl ((Ca.move).quiet) (fun Q0 k0 => L.move hF rfl rfl rfl (L.nil k0)) ?_
      refine S.st 1 rfl rfl ((Ca.move).quiet) (fun Q0 k0 => L.move hF rfl rfl rfl (L.nil k0)) ?_
      obtain ⟨b34, hb34, H⟩ := bindS H
      refine S.st 2 rfl rfl ((Ca.indexAddr).quiet) (fun Q0 k0 => L.idxR (xs := v29) (e := eTimpl_Pair) Try.underlying88 info256 hF rfl rfl rfl rfl rfl hb34 rfl rfl (L.nil k0)) ?_
      refine S.st 3 rfl rfl (Qu.load) (fun Q0 k0 => L.loadPe shape256 hF rfl rfl rfl rfl rfl (L.nil k0)) ?_
      refine S.st 4 rfl rfl (Qu.load) (fun Q0 k0 => L.loadPtr shape256 hF rfl rfl rfl rfl rfl rfl (L.nil k0)) ?_
      refine S.st 5 rfl rfl ((Ca.eqA (r := ((b34.A == v31) && ((b34.B == v32) && true))) rfl rfl rfl rfl (by kernel_rfl) (by kernel_rfl)).quiet) (fun Q0 k0 => L.eqA (r := ((b34.A == v31) && ((b34.B == v32) && true))) hF rfl rfl rfl rfl rfl rfl (by kernel_rfl) (by kernel_rfl) (L.nil k0)) ?_
      refine S.nil ?_
      refine WpC.cond rfl (fun hc => ?_) (fun hc => ?_)
      · replace H := condT hc H
        refine WpC.seq ?_
        refine WpC.regionL ?_
        refine L.assign hF rfl rfl rfl ?_
        refine L.nil ?_
        refine WpC.ret ?_
        cases H
        exact Leaves.ret rfl rfl rfl ⟨rfl, rfl⟩
      · replace H := condF hc H
        refine WpC.skip ?_
        refine WpC.regionL ?_
        refine L.move hF rfl rfl rfl ?_
        refine L.bin hF rfl rfl rfl rfl rfl rfl ?_
        refine L.assign hF rfl rfl rfl ?_
        refine L.nil ?_
        exact ⟨k2, _, by omega, ⟨v29, (IntKind.i64.wrap (v30 + (1 : Int))), v31, v32, by omega, H, rfl⟩, Le.mk [(0, 0)] hm rfl ⟨⟨_, rfl, rfl⟩, ⟨_, rfl, rfl⟩, ⟨_, rfl, rfl⟩, trivial⟩ trivial ⟨⟨_, _, rfl, rfl, rfl⟩, trivial⟩⟩
    · replace H := condF hc H
      refine WpC.exit ?_
      refine WpC.seq ?_
      refine WpC.regionL ?_
      refine L.assign hF rfl rfl rfl ?_
      refine L.nil ?_
      refine WpC.ret ?_
      cases H
      exact Leaves.ret rfl rfl rfl ⟨rfl, rfl⟩
/-! ### Fspec_l6Pairs -/
def Fspec_l6Pairs.j8 (cl7 : (List Timpl_Pair) → Int → Bool → Int → Option Bool) (k : Nat) (v185 : List Timpl_Pair) (v186 : Int) (v187 : Bool) (v188 : Int) (v189 : Int) (v190 : Bool) (v191 : Int) (v192 : Bool) (v193 : Bool) (v194 : Bool) (v195 : Bool) (v196 : List Timpl_Pair) (v197 : Bool) : Option Bool := cl7 v185 v186 v187 (IntKind.i64.wrap (v188 + (1 : Int)))
def Fspec_l6Pairs.l7 : Nat → (List Timpl_Pair) → Int → Bool → Int → Option Bool
  | 0, _, _, _, _ => none
  | k7 + 1, v172, v173, v174, v175 => cond (decide (v175 < (v172.length : Int))) ((at? v172 v175).bind fun b198 => cond (decide (b198.A < (0 : Int))) (some false) (cond (decide (b198.A ≥ v173)) (some false) (cond (decide (b198.B < (0 : Int))) (some false) (cond (decide (b198.B ≥ v173)) (some false) (cond v174 (cond (b198.A == b198.B) (some false) ((part? v172 (0 : Int) v175).bind fun b209 => (Fspec_l6Has k7 b209 b198).bind fun r210 => cond r210 (some false) (Fspec_l6Pairs.j8 (Fspec_l6Pairs.l7 k7) k7 v172 v173 v174 v175 b198.A (decide (b198.A ≥ v173)) b198.B (decide (b198.B < (0 : Int))) (decide (b198.B ≥ v173)) true (b198.A == b198.B) b209 r210))) ((part? v172 (0 : Int) v175).bind fun b211 => (Fspec_l6Has k7 b211 b198).bind fun r212 => cond r212 (some false) (Fspec_l6Pairs.j8 (Fspec_l6Pairs.l7 k7) k7 v172 v173 v174 v175 b198.A (decide (b198.A ≥ v173)) b198.B (decide (b198.B < (0 : Int))) (decide (b198.B ≥ v173)) false false b211 r212))))))) (some true)
def Fspec_l6Pairs (k : Nat) (a0 : List Timpl_Pair) (a1 : Int) (a2 : Bool) : Option Bool := cond (decide ((a0.length : Int) > (6 : Int))) (some false) (Fspec_l6Pairs.l7 k a0 a1 a2 (0 : Int))
theorem ent242 : MG.Enters Try.prog 242 := ⟨Try.f242, Try.func242, rfl, by decide⟩
set_option maxHeartbeats 8000000 in
set_option maxRecDepth 100000 in
theorem Fspec_l6Pairs_gives (k : Nat) (g0 : Bool) (a0 : List Timpl_Pair) (a1 : Int) (a2 : Bool) (r : Bool) (H : Fspec_l6Pairs k a0 a1 a2 = some r) : Gives Try.prog 242 [V.one (Cell.sl g0 (List.map eTimpl_Pair a0)), V.one (cI a1), V.one (cL a2)] [] [V.one (cL r)] [] := by
  refine Gives.intro Try.func242 rfl rfl rfl rfl ?_
  intro F hF hm
  unfold Fspec_l6Pairs at H
  obtain ⟨K, hK⟩ : ∃ K, k ≤ K := ⟨k, Nat.le_refl k⟩
  refine WpC.seq ?_
  refine WpC.regionL ?_
  refine L.assign hF rfl rfl rfl ?_
  refine L.nil ?_
  refine WpC.seq ?_
  refine WpC.seq ?_
  refine WpC.regionL ?_
  refine L.move hF rfl rfl rfl ?_
  refine L.lenR (xs := a0) (e := eTimpl_Pair) Try.underlying88 hF rfl rfl rfl rfl ?_
  refine L.bin hF rfl rfl rfl rfl rfl rfl ?_
  refine L.nil ?_
  refine WpC.cond rfl (fun hc => ?_) (fun hc => ?_)
  · replace H := condT hc H
    refine WpC.seq ?_
    refine WpC.regionL ?_
    refine L.assign hF rfl rfl rfl ?_
    refine L.nil ?_
    refine WpC.ret ?_
    cases H
    exact Leaves.ret rfl rfl rfl ⟨rfl, rfl⟩
  · replace H := condF hc H
    refine WpC.skip ?_
    refine WpC.seq ?_
    refine WpC.seq ?_
    refine WpC.regionL ?_
    refine L.assign hF rfl rfl rfl ?_
    refine L.nil ?_
    refine WpC.block ?_
    refine WpC.loopL (P := Try.prog) (fun n σ => ∃ v172 : List Timpl_Pair, ∃ v173 : Int, ∃ v174 : Bool, ∃ v175 : Int, n ≤ K ∧ Fspec_l6Pairs.l7 n v172 v173 v174 v175 = some r ∧ σ = mkSt [(0, MG.one (Cell.sl g0 (List.map eTimpl_Pair v172))), (1, MG.one (cI v173)), (2, MG.one (cL v174)), (7, MG.one (cI v175))] [] [] 0) k ⟨_, ⟨a0, a1, a2, (0 : Int), by omega, H, rfl⟩, Le.mk [] hm rfl ⟨⟨_, rfl, rfl⟩, ⟨_, rfl, rfl⟩, ⟨_, rfl, rfl⟩, ⟨_, rfl, rfl⟩, trivial⟩ trivial trivial⟩ ?_
    clear H
    rintro k7 _ ⟨v172, v173, v174, v175, hk7, H, rfl⟩
    cases k7 with
    | zero => cases H
    | succ k7 =>
      rw [Fspec_l6Pairs.l7] at H
      refine WpC.seq ?_
      refine WpC.seq ?_
      refine WpC.regionL ?_
      refine L.move hF rfl rfl rfl ?_
      refine L.move hF rfl rfl rfl ?_
      refine L.lenR (xs := v172) (e := eTimpl_Pair) Try.underlying88 hF rfl rfl rfl rfl ?_
      refine L.bin hF rfl rfl rfl rfl rfl rfl ?_
      refine L.nil ?_
      refine WpC.cond rfl (fun hc => ?_) (fun hc => ?_)
      · replace H := condT hc H
        refine WpC.skip ?_
        refine WpC.join (fun σ => ∃ kj8 : Nat, ∃ v185 : List Timpl_Pair, ∃ v186 : Int, ∃ v187 : Bool, ∃ v188 : Int, ∃ v189 : Int, ∃ v190 : Bool, ∃ v191 : Int, ∃ v192 : Bool, ∃ v193 : Bool, ∃ v194 : Bool, ∃ v195 : Bool, ∃ v196 : List Timpl_Pair, ∃ v197 : Bool, kj8 ≤ K ∧ Fspec_l6Pairs.j8 (Fspec_l6Pairs.l7 k7) kj8 v185 v186 v187 v188 v189 v190 v191 v192 v193 v194 v195 v196 v197 = some r ∧ σ = mkSt [(0, MG.one (Cell.sl g0 (List.map eTimpl_Pair v185))), (1, MG.one (cI v186)), (2, MG.one (cL v187)), (7, MG.one (cI v188)), (26, MG.one (Cell.ptr 0 0)), (27, MG.one (cI v189)), (28, MG.one (cI v186)), (29, MG.one (cL v190)), (32, MG.one (Cell.ptr 0 1)), (33, MG.one (cI v191)), (34, MG.one (cL v192)), (37, MG.one (Cell.ptr 0 1)), (38, MG.one (cI v191)), (39, MG.one (cI v186)), (40, MG.one (cL v193)), (43, MG.one (cL v187)), (44, MG.one (cL v194)), (50, MG.one (cL v195)), (53, MG.one (Cell.sl g0 (List.map eTimpl_Pair v185))), (54, MG.one (cI v188)), (55, MG.one (Cell.sl g0 (List.map eTimpl_Pair v196))), (56, agg [cI v189, cI v191]), (57, MG.one (cL v197))] [] [(0, [cI v189, cI v191])] 1) ?_ ?_
        · rintro _ ⟨kj8, v185, v186, v187, v188, v189, v190, v191, v192, v193, v194, v195, v196, v197, hkj8, H, rfl⟩
          unfold Fspec_l6Pairs.j8 at H
          refine WpC.regionL ?_
          refine L.move hF rfl rfl rfl ?_
          refine L.bin hF rfl rfl rfl rfl rfl rfl ?_
          refine L.assign hF rfl rfl rfl ?_
          refine L.nil ?_
          exact ⟨k7, _, by omega, ⟨v185, v186, v187, (IntKind.i64.wrap (v188 + (1 : Int))), by omega, H, rfl⟩, Le.mk [] hm rfl ⟨⟨_, rfl, rfl⟩, ⟨_, rfl, rfl⟩, ⟨_, rfl, rfl⟩, ⟨_, rfl, rfl⟩, trivial⟩ trivial trivial⟩
        · refine WpC.block ?_
          refine WpC.seq ?_
          refine WpC.regionL ?_
          refine L.move hF rfl rfl rfl ?_
          refine L.move hF rfl rfl rfl ?_
          obtain ⟨b198, hb198, H⟩ := bindS H
          refine L.idxR (xs := v172) (e := eTimpl_Pair) Try.underlying88 info256 hF rfl rfl rfl rfl rfl hb198 rfl rfl ?_
          refine L.loadPe shape256 hF rfl rfl rfl rfl rfl ?_
          refine L.alloc 0 info256 rfl hF rfl rfl rfl rfl ?_
          refine L.storePtr shape256 hF rfl rfl rfl rfl rfl rfl rfl ?_
          refine L.nil ?_
          refine WpC.seq ?_
          rcases Bool.eq_false_or_eq_true ((decide (b198.A < (0 : Int)))) with hc203 | hc203
          · replace H := condT hc203 H
            refine A.begin mixed rfl rfl ?_
            intro W hI hO
            refine hI _ _ _ ?_
            refine A.take 0 rfl (by kernel_rfl) (by kernel_rfl) (by kernel_rfl) rfl (Ca.fieldAddr Try.underlying256 rfl info3 rfl) (fun Q0 k0 => L.fieldAddr Try.underlying256 rfl info3 rfl hF rfl rfl rfl rfl rfl (L.nil k0)) ?_
            refine A.all [1] (by kernel_rfl) rfl ⟨⟨_, rfl, ?_⟩, trivial⟩
            refine L.loadPtr shape3 hF rfl rfl rfl rfl rfl rfl ?_
            refine L.nil ?_
            refine A.take 2 rfl (by kernel_rfl) (by kernel_rfl) (by kernel_rfl) rfl (Ca.bin rfl rfl (calm_int _ _ _ _ _ _ _ _)) (fun Q0 k0 => L.bin hF rfl rfl rfl rfl rfl rfl (L.nil k0)) ?_
            refine A.take 3 rfl (by kernel_rfl) (by kernel_rfl) (by kernel_rfl) rfl (Ca.move) (fun Q0 k0 => L.move hF rfl rfl rfl (L.nil k0)) ?_
            refine A.le (τ := mkSt [(0, MG.one (Cell.sl g0 (List.map eTimpl_Pair v172))), (1, MG.one (cI v173)), (2, MG.one (cL v174)), (7, MG.one (cI v175)), (8, MG.one (Cell.ptr 0 0)), (25, MG.one (cL true))] [] [(0, [cI b198.A, cI b198.B])] 1) (Le.mk [(0, 0)] hm rfl ⟨⟨_, rfl, rfl⟩, ⟨_, rfl, rfl⟩, ⟨_, rfl, rfl⟩, ⟨_, rfl, rfl⟩, ⟨_, rfl, rfl⟩, ⟨_, rfl, congrArg (fun b => some (MG.one (cL b))) hc203⟩, trivial⟩ trivial ⟨⟨_, _, rfl, rfl, rfl⟩, trivial⟩) ?_
            refine A.off 4 rfl (by kernel_rfl) (by kernel_rfl) (by kernel_rfl) rfl hF rfl rfl ?_
            refine A.off 5 rfl (by kernel_rfl) (by kernel_rfl) (by kernel_rfl) rfl hF rfl rfl ?_
            refine A.off 6 rfl (by kernel_rfl) (by kernel_rfl) (by kernel_rfl) rfl hF rfl rfl ?_
            refine A.off 7 rfl (by kernel_rfl) (by kernel_rfl) (by kernel_rfl) rfl hF rfl rfl ?_
            refine A.take 8 rfl (by kernel_rfl) (by kernel_rfl) (by kernel_rfl) rfl (Ca.pick) (fun Q0 k0 => L.pick hF rfl rfl rfl rfl (L.nil k0)) ?_
            refine A.take 9 rfl (by kernel_rfl) (by kernel_rfl) (by kernel_rfl) rfl (Ca.move) (fun Q0 k0 => L.move hF rfl rfl rfl (L.nil k0)) ?_
            refine A.off 10 rfl (by kernel_rfl) (by kernel_rfl) (by kernel_rfl) rfl hF rfl rfl ?_
            refine A.off 11 rfl (by kernel_rfl) (by kernel_rfl) (by kernel_rfl) rfl hF rfl rfl ?_
            refine A.off 12 rfl (by kernel_rfl) (by kernel_rfl) (by kernel_rfl) rfl hF rfl rfl ?_
            refine A.take 13 rfl (by kernel_rfl) (by kernel_rfl) (by kernel_rfl) rfl (Ca.pick) (fun Q0 k0 => L.pick hF rfl rfl rfl rfl (L.nil k0)) ?_
            refine A.le (τ := mkSt [(0, MG.one (Cell.sl g0 (List.map eTimpl_Pair v172))), (1, MG.one (cI v173)), (2, MG.one (cL v174)), (7, MG.one (cI v175)), (8, MG.one (Cell.ptr 0 0)), (26, Slot.tup []), (27, Slot.tup []), (28, Slot.tup []), (29, Slot.tup []), (32, Slot.tup []), (33, Slot.tup []), (34, Slot.tup []), (35, MG.one (cL true))] [] [(0, [cI b198.A, cI b198.B])] 1) (Le.mk [(0, 0)] hm rfl ⟨⟨_, rfl, rfl⟩, ⟨_, rfl, rfl⟩, ⟨_, rfl, rfl⟩, ⟨_, rfl, rfl⟩, ⟨_, rfl, rfl⟩, ⟨_, rfl, rfl⟩, ⟨_, rfl, rfl⟩, ⟨_, rfl, rfl⟩, ⟨_, rfl, rfl⟩, ⟨_, rfl, rfl⟩, ⟨_, rfl, rfl⟩, ⟨_, rfl, rfl⟩, ⟨_, rfl, rfl⟩, trivial⟩ trivial ⟨⟨_, _, rfl, rfl, rfl⟩, trivial⟩) ?_
            refine A.take 14 rfl (by kernel_rfl) (by kernel_rfl) (by kernel_rfl) rfl (Ca.move) (fun Q0 k0 => L.move hF rfl rfl rfl (L.nil k0)) ?_
            refine A.off 15 rfl (by kernel_rfl) (by kernel_rfl) (by kernel_rfl) rfl hF rfl rfl ?_
            refine A.off 16 rfl (by kernel_rfl) (by kernel_rfl) (by kernel_rfl) rfl hF rfl rfl ?_
            refine A.off 17 rfl (by kernel_rfl) (by kernel_rfl) (by kernel_rfl) rfl hF rfl rfl ?_
            refine A.off 18 rfl (by kernel_rfl) (by kernel_rfl) (by kernel_rfl) rfl hF rfl rfl ?_
            refine A.take 19 rfl (by kernel_rfl) (by kernel_rfl) (by kernel_rfl) rfl (Ca.pick) (fun Q0 k0 => L.pick hF rfl rfl rfl rfl (L.nil k0)) ?_
            refine A.take 20 rfl (by kernel_rfl) (by kernel_rfl) (by kernel_rfl) rfl (Ca.move) (fun Q0 k0 => L.move hF rfl rfl rfl (L.nil k0)) ?_
            refine A.off 21 rfl (by kernel_rfl) (by kernel_rfl) (by kernel_rfl) rfl hF rfl rfl ?_
            refine A.off 22 rfl (by kernel_rfl) (by kernel_rfl) (by kernel_rfl) rfl hF rfl rfl ?_
            refine A.off 23 rfl (by kernel_rfl) (by kernel_rfl) (by kernel_rfl) rfl hF rfl rfl ?_
            refine A.le (τ := mkSt [(0, MG.one (Cell.sl g0 (List.map eTimpl_Pair v172))), (1, MG.one (cI v173)), (2, MG.one (cL v174)), (7, MG.one (cI v175)), (8, MG.one (Cell.ptr 0 0)), (26, Slot.tup []), (27, Slot.tup []), (28, Slot.tup []), (29, Slot.tup []), (32, Slot.tup []), (33, Slot.tup []), (34, Slot.tup []), (37, Slot.tup []), (38, Slot.tup []), (39, Slot.tup []), (40, Slot.tup []), (42, MG.one (cL true)), (43, Slot.tup []), (44, Slot.tup []), (45, Slot.tup [])] [] [(0, [cI b198.A, cI b198.B])] 1) (Le.mk [(0, 0)] hm rfl ⟨⟨_, rfl, rfl⟩, ⟨_, rfl, rfl⟩, ⟨_, rfl, rfl⟩, ⟨_, rfl, rfl⟩, ⟨_, rfl, rfl⟩, ⟨_, rfl, rfl⟩, ⟨_, rfl, rfl⟩, ⟨_, rfl, rfl⟩, ⟨_, rfl, rfl⟩, ⟨_, rfl, rfl⟩, ⟨_, rfl, rfl⟩, ⟨_, rfl, rfl⟩, ⟨_, rfl, rfl⟩, ⟨_, rfl, rfl⟩, ⟨_, rfl, rfl⟩, ⟨_, rfl, rfl⟩, ⟨_, rfl, rfl⟩, ⟨_, rfl, rfl⟩, ⟨_, rfl, rfl⟩, ⟨_, rfl, rfl⟩, trivial⟩ trivial ⟨⟨_, _, rfl, rfl, rfl⟩, trivial⟩) ?_
            refine A.off 24 rfl (by kernel_rfl) (by kernel_rfl) (by kernel_rfl) rfl hF rfl rfl ?_
            refine A.off 25 rfl (by kernel_rfl) (by kernel_rfl) (by kernel_rfl) rfl hF rfl rfl ?_
            refine A.off 26 rfl (by kernel_rfl) (by kernel_rfl) (by kernel_rfl) rfl hF rfl rfl ?_
            refine A.off 27 rfl (by kernel_rfl) (by kernel_rfl) (by kernel_rfl) rfl hF rfl rfl ?_
            refine A.off 28 rfl (by kernel_rfl) (by kernel_rfl) (by kernel_rfl) rfl hF rfl rfl ?_
            refine A.take 29 rfl (by kernel_rfl) (by kernel_rfl) (by kernel_rfl) rfl (Ca.pick) (fun Q0 k0 => L.pick hF rfl rfl rfl rfl (L.nil k0)) ?_
            refine A.take 30 rfl (by kernel_rfl) (by kernel_rfl) (by kernel_rfl) rfl (Ca.move) (fun Q0 k0 => L.move hF rfl rfl rfl (L.nil k0)) ?_
            refine A.off 31 rfl (by kernel_rfl) (by kernel_rfl) (by kernel_rfl) rfl hF rfl rfl ?_
            refine A.off 32 rfl (by kernel_rfl) (by kernel_rfl) (by kernel_rfl) rfl hF rfl rfl ?_
            refine A.off 33 rfl (by kernel_rfl) (by kernel_rfl) (by kernel_rfl) rfl hF rfl rfl ?_
            refine A.le (τ := mkSt [(0, MG.one (Cell.sl g0 (List.map eTimpl_Pair v172))), (1, MG.one (cI v173)), (2, MG.one (cL v174)), (7, MG.one (cI v175)), (8, MG.one (Cell.ptr 0 0)), (26, Slot.tup []), (27, Slot.tup []), (28, Slot.tup []), (29, Slot.tup []), (32, Slot.tup []), (33, Slot.tup []), (34, Slot.tup []), (37, Slot.tup []), (38, Slot.tup []), (39, Slot.tup []), (40, Slot.tup []), (43, Slot.tup []), (44, Slot.tup []), (45, Slot.tup []), (46, Slot.tup []), (47, Slot.tup []), (48, Slot.tup []), (49, Slot.tup []), (50, Slot.tup []), (52, MG.one (cL true)), (53, Slot.tup []), (54, Slot.tup []), (55, Slot.tup [])] [] [(0, [cI b198.A, cI b198.B])] 1) (Le.mk [(0, 0)] hm rfl ⟨⟨_, rfl, rfl⟩, ⟨_, rfl, rfl⟩, ⟨_, rfl, rfl⟩, ⟨_, rfl, rfl⟩, ⟨_, rfl, rfl⟩, ⟨_, rfl, rfl⟩, ⟨_, rfl, rfl⟩, ⟨_, rfl, rfl⟩, ⟨_, rfl, rfl⟩, ⟨_, rfl, rfl⟩, ⟨_, rfl, rfl⟩, ⟨_, rfl, rfl⟩, ⟨_, rfl, rfl⟩, ⟨_, rfl, rfl⟩, ⟨_, rfl, rfl⟩, ⟨_, rfl, rfl⟩, ⟨_, rfl, rfl⟩, ⟨_, rfl, rfl⟩, ⟨_, rfl, rfl⟩, ⟨_, rfl, rfl⟩, ⟨_, rfl, rfl⟩, ⟨_, rfl, rfl⟩, ⟨_, rfl, rfl⟩, ⟨_, rfl, rfl⟩, ⟨_, rfl, rfl⟩, ⟨_, rfl, rfl⟩, ⟨_, rfl, rfl⟩, ⟨_, rfl, rfl⟩, trivial⟩ trivial ⟨⟨_, _, rfl, rfl, rfl⟩, trivial⟩) ?_
            refine A.off 34 rfl (by kernel_rfl) (by kernel_rfl) (by kernel_rfl) rfl hF rfl rfl ?_
            refine A.all [35] (by kernel_rfl) rfl ⟨⟨_, rfl, ?_⟩, trivial⟩
            refine L.off hF rfl rfl ?_
            refine L.nil ?_
            refine A.take 36 rfl (by kernel_rfl) (by kernel_rfl) (by kernel_rfl) rfl (Ca.pick) (fun Q0 k0 => L.pick hF rfl rfl rfl rfl (L.nil k0)) ?_
            refine A.le (τ := mkSt [(0, MG.one (Cell.sl g0 (List.map eTimpl_Pair v172))), (1, MG.one (cI v173)), (2, MG.one (cL v174)), (7, MG.one (cI v175)), (26, Slot.tup []), (27, Slot.tup []), (28, Slot.tup []), (29, Slot.tup []), (32, Slot.tup []), (33, Slot.tup []), (34, Slot.tup []), (37, Slot.tup []), (38, Slot.tup []), (39, Slot.tup []), (40, Slot.tup []), (43, Slot.tup []), (44, Slot.tup []), (45, Slot.tup []), (46, Slot.tup []), (47, Slot.tup []), (48, Slot.tup []), (49, Slot.tup []), (50, Slot.tup []), (53, Slot.tup []), (54, Slot.tup []), (55, Slot.tup []), (56, Slot.tup []), (57, Slot.tup []), (58, MG.one (cL true))] [] [] 0) (Le.mk [] hm rfl ⟨⟨_, rfl, rfl⟩, ⟨_, rfl, rfl⟩, ⟨_, rfl, rfl⟩, ⟨_, rfl, rfl⟩, ⟨_, rfl, rfl⟩, ⟨_, rfl, rfl⟩, ⟨_, rfl, rfl⟩, ⟨_, rfl, rfl⟩, ⟨_, rfl, rfl⟩, ⟨_, rfl, rfl⟩, ⟨_, rfl, rfl⟩, ⟨_, rfl, rfl⟩, ⟨_, rfl, rfl⟩, ⟨_, rfl, rfl⟩, ⟨_, rfl, rfl⟩, ⟨_, rfl, rfl⟩, ⟨_, rfl, rfl⟩, ⟨_, rfl, rfl⟩, ⟨_, rfl, rfl⟩, ⟨_, rfl, rfl⟩, ⟨_, rfl, rfl⟩, ⟨_, rfl, rfl⟩, ⟨_, rfl, rfl⟩, ⟨_, rfl, rfl⟩, ⟨_, rfl, rfl⟩, ⟨_, rfl, rfl⟩, ⟨_, rfl, rfl⟩, ⟨_, rfl, rfl⟩, ⟨_, rfl, rfl⟩, trivial⟩ trivial trivial) ?_
            refine A.done (by kernel_rfl) ?_
            refine WpC.cond rfl (fun _ => ?_) (fun hc => by cases hc)
            refine WpC.seq ?_
            refine WpC.regionL ?_
            refine L.assign hF rfl rfl rfl ?_
            refine L.nil ?_
            refine WpC.ret ?_
            cases H
            exact Leaves.ret rfl rfl rfl ⟨rfl, rfl⟩
          · replace H := condF hc203 H
            rcases Bool.eq_false_or_eq_true ((decide (b198.A ≥ v173))) with hc204 | hc204
            · replace H := condT hc204 H
              refine A.begin mixed rfl rfl ?_
              intro W hI hO
              refine hI _ _ _ ?_
              refine A.take 0 rfl (by kernel_rfl) (by kernel_rfl) (by kernel_rfl) rfl (Ca.fieldAddr Try.underlying256 rfl info3 rfl) (fun Q0 k0 => L.fieldAddr Try.underlying256 rfl info3 rfl hF rfl rfl rfl rfl rfl (L.nil k0)) ?_
              refine A.all [1] (by kernel_rfl) rfl ⟨⟨_, rfl, ?_⟩, trivial⟩
              refine L.loadPtr shape3 hF rfl rfl rfl rfl rfl rfl ?_
              refine L.nil ?_
              refine A.take 2 rfl (by kernel_rfl) (by kernel_rfl) (by kernel_rfl) rfl (Ca.bin rfl rfl (calm_int _ _ _ _ _ _ _ _)) (fun Q0 k0 => L.bin hF rfl rfl rfl rfl rfl rfl (L.nil k0)) ?_
              refine A.take 3 rfl (by kernel_rfl) (by kernel_rfl) (by kernel_rfl) rfl (Ca.move) (fun Q0 k0 => L.move hF rfl rfl rfl (L.nil k0)) ?_
              refine A.le (τ := mkSt [(0, MG.one (Cell.sl g0 (List.map eTimpl_Pair v172))), (1, MG.one (cI v173)), (2, MG.one (cL v174)), (7, MG.one (cI v175)), (8, MG.one (Cell.ptr 0 0)), (25, MG.one (cL false))] [] [(0, [cI b198.A, cI b198.B])] 1) (Le.mk [(0, 0)] hm rfl ⟨⟨_, rfl, rfl⟩, ⟨_, rfl, rfl⟩, ⟨_, rfl, rfl⟩, ⟨_, rfl, rfl⟩, ⟨_, rfl, rfl⟩, ⟨_, rfl, congrArg (fun b => some (MG.one (cL b))) hc203⟩, trivial⟩ trivial ⟨⟨_, _, rfl, rfl, rfl⟩, trivial⟩) ?_
              refine A.take 4 rfl (by kernel_rfl) (by kernel_rfl) (by kernel_rfl) rfl (Ca.fieldAddr Try.underlying256 rfl info3 rfl) (fun Q0 k0 => L.fieldAddr Try.underlying256 rfl info3 rfl hF rfl rfl rfl rfl rfl (L.nil k0)) ?_
              refine A.take 6 rfl (by kernel_rfl) (by kernel_rfl) (by kernel_rfl) rfl (Ca.move) (fun Q0 k0 => L.move hF rfl rfl rfl (L.nil k0)) ?_
              refine A.all [5] (by kernel_rfl) rfl ⟨⟨_, rfl, ?_⟩, trivial⟩
              refine L.loadPtr shape3 hF rfl rfl rfl rfl rfl rfl ?_
              refine L.nil ?_
              refine A.take 7 rfl (by kernel_rfl) (by kernel_rfl) (by kernel_rfl) rfl (Ca.bin rfl rfl (calm_int _ _ _ _ _ _ _ _)) (fun Q0 k0 => L.bin hF rfl rfl rfl rfl rfl rfl (L.nil k0)) ?_
              refine A.take 8 rfl (by kernel_rfl) (by kernel_rfl) (by kernel_rfl) rfl (Ca.pick) (fun Q0 k0 => L.pick hF rfl rfl rfl rfl (L.nil k0)) ?_
              refine A.take 9 rfl (by kernel_rfl) (by kernel_rfl) (by kernel_rfl) rfl (Ca.move) (fun Q0 k0 => L.move hF rfl rfl rfl (L.nil k0)) ?_
              refine A.le (τ := mkSt [(0, MG.one (Cell.sl g0 (List.map eTimpl_Pair v172))), (1, MG.one (cI v173)), (2, MG.one (cL v174)), (7, MG.one (cI v175)), (8, MG.one (Cell.ptr 0 0)), (26, MG.one (Cell.ptr 0 0)), (27, MG.one (cI b198.A)), (28, MG.one (cI v173)), (29, MG.one (cL (decide (b198.A ≥ v173)))), (31, MG.one (cL true))] [] [(0, [cI b198.A, cI b198.B])] 1) (Le.mk [(0, 0)] hm rfl ⟨⟨_, rfl, rfl⟩, ⟨_, rfl, rfl⟩, ⟨_, rfl, rfl⟩, ⟨_, rfl, rfl⟩, ⟨_, rfl, rfl⟩, ⟨_, rfl, rfl⟩, ⟨_, rfl, rfl⟩, ⟨_, rfl, rfl⟩, ⟨_, rfl, rfl⟩, ⟨_, rfl, congrArg (fun b => some (MG.one (cL b))) hc204⟩, trivial⟩ trivial ⟨⟨_, _, rfl, rfl, rfl⟩, trivial⟩) ?_
              refine A.off 10 rfl (by kernel_rfl) (by kernel_rfl) (by kernel_rfl) rfl hF rfl rfl ?_
              refine A.off 11 rfl (by kernel_rfl) (by kernel_rfl) (by kernel_rfl) rfl hF rfl rfl ?_
              refine A.off 12 rfl (by kernel_rfl) (by kernel_rfl) (by kernel_rfl) rfl hF rfl rfl ?_
              refine A.take 13 rfl (by kernel_rfl) (by kernel_rfl) (by kernel_rfl) rfl (Ca.pick) (fun Q0 k0 => L.pick hF rfl rfl rfl rfl (L.nil k0)) ?_
              refine A.take 14 rfl (by kernel_rfl) (by kernel_rfl) (by kernel_rfl) rfl (Ca.move) (fun Q0 k0 => L.move hF rfl rfl rfl (L.nil k0)) ?_
              refine A.off 15 rfl (by kernel_rfl) (by kernel_rfl) (by kernel_rfl) rfl hF rfl rfl ?_
              refine A.off 16 rfl (by kernel_rfl) (by kernel_rfl) (by kernel_rfl) rfl hF rfl rfl ?_
              refine A.off 17 rfl (by kernel_rfl) (by kernel_rfl) (by kernel_rfl) rfl hF rfl rfl ?_
              refine A.off 18 rfl (by kernel_rfl) (by kernel_rfl) (by kernel_rfl) rfl hF rfl rfl ?_
              refine A.take 19 rfl (by kernel_rfl) (by kernel_rfl) (by kernel_rfl) rfl (Ca.pick) (fun Q0 k0 => L.pick hF rfl rfl rfl rfl (L.nil k0)) ?_
              refine A.le (τ := mkSt [(0, MG.one (Cell.sl g0 (List.map eTimpl_Pair v172))), (1, MG.one (cI v173)), (2, MG.one (cL v174)), (7, MG.one (cI v175)), (8, MG.one (Cell.ptr 0 0)), (26, MG.one (Cell.ptr 0 0)), (27, MG.one (cI b198.A)), (28, MG.one (cI v173)), (29, MG.one (cL (decide (b198.A ≥ v173)))), (32, Slot.tup []), (33, Slot.tup []), (34, Slot.tup []), (37, Slot.tup []), (38, Slot.tup []), (39, Slot.tup []), (40, Slot.tup []), (41, MG.one (cL true))] [] [(0, [cI b198.A, cI b198.B])] 1) (Le.mk [(0, 0)] hm rfl ⟨⟨_, rfl, rfl⟩, ⟨_, rfl, rfl⟩, ⟨_, rfl, rfl⟩, ⟨_, rfl, rfl⟩, ⟨_, rfl, rfl⟩, ⟨_, rfl, rfl⟩, ⟨_, rfl, rfl⟩, ⟨_, rfl, rfl⟩, ⟨_, rfl, rfl⟩, ⟨_, rfl, rfl⟩, ⟨_, rfl, rfl⟩, ⟨_, rfl, rfl⟩, ⟨_, rfl, rfl⟩, ⟨_, rfl, rfl⟩, ⟨_, rfl, rfl⟩, ⟨_, rfl, rfl⟩, ⟨_, rfl, rfl⟩, trivial⟩ trivial ⟨⟨_, _, rfl, rfl, rfl⟩, trivial⟩) ?_
              refine A.take 20 rfl (by kernel_rfl) (by kernel_rfl) (by kernel_rfl) rfl (Ca.move) (fun Q0 k0 => L.move hF rfl rfl rfl (L.nil k0)) ?_
              refine A.off 21 rfl (by kernel_rfl) (by kernel_rfl) (by kernel_rfl) rfl hF rfl rfl ?_
              refine A.off 22 rfl (by kernel_rfl) (by kernel_rfl) (by kernel_rfl) rfl hF rfl rfl ?_
              refine A.off 23 rfl (by kernel_rfl) (by kernel_rfl) (by kernel_rfl) rfl hF rfl rfl ?_
              refine A.off 24 rfl (by kernel_rfl) (by kernel_rfl) (by kernel_rfl) rfl hF rfl rfl ?_
              refine A.off 25 rfl (by kernel_rfl) (by kernel_rfl) (by kernel_rfl) rfl hF rfl rfl ?_
              refine A.off 26 rfl (by kernel_rfl) (by kernel_rfl) (by kernel_rfl) rfl hF rfl rfl ?_
              refine A.off 27 rfl (by kernel_rfl) (by kernel_rfl) (by kernel_rfl) rfl hF rfl rfl ?_
              refine A.off 28 rfl (by kernel_rfl) (by kernel_rfl) (by kernel_rfl) rfl hF rfl rfl ?_
              refine A.take 29 rfl (by kernel_rfl) (by kernel_rfl) (by kernel_rfl) rfl (Ca.pick) (fun Q0 k0 => L.pick hF rfl rfl rfl rfl (L.nil k0)) ?_
              refine A.le (τ := mkSt [(0, MG.one (Cell.sl g0 (List.map eTimpl_Pair v172))), (1, MG.one (cI v173)), (2, MG.one (cL v174)), (7, MG.one (cI v175)), (8, MG.one (Cell.ptr 0 0)), (26, MG.one (Cell.ptr 0 0)), (27, MG.one (cI b198.A)), (28, MG.one (cI v173)), (29, MG.one (cL (decide (b198.A ≥ v173)))), (32, Slot.tup []), (33, Slot.tup []), (34, Slot.tup []), (37, Slot.tup []), (38, Slot.tup []), (39, Slot.tup []), (40, Slot.tup []), (43, Slot.tup []), (44, Slot.tup []), (45, Slot.tup []), (46, Slot.tup []), (47, Slot.tup []), (48, Slot.tup []), (49, Slot.tup []), (50, Slot.tup []), (51, MG.one (cL true))] [] [(0, [cI b198.A, cI b198.B])] 1) (Le.mk [(0, 0)] hm rfl ⟨⟨_, rfl, rfl⟩, ⟨_, rfl, rfl⟩, ⟨_, rfl, rfl⟩, ⟨_, rfl, rfl⟩, ⟨_, rfl, rfl⟩, ⟨_, rfl, rfl⟩, ⟨_, rfl, rfl⟩, ⟨_, rfl, rfl⟩, ⟨_, rfl, rfl⟩, ⟨_, rfl, rfl⟩, ⟨_, rfl, rfl⟩, ⟨_, rfl, rfl⟩, ⟨_, rfl, rfl⟩, ⟨_, rfl, rfl⟩, ⟨_, rfl, rfl⟩, ⟨_, rfl, rfl⟩, ⟨_, rfl, rfl⟩, ⟨_, rfl, rfl⟩, ⟨_, rfl, rfl⟩, ⟨_, rfl, rfl⟩, ⟨_, rfl, rfl⟩, ⟨_, rfl, rfl⟩, ⟨_, rfl, rfl⟩, ⟨_, rfl, rfl⟩, ⟨_, rfl, rfl⟩, trivial⟩ trivial ⟨⟨_, _, rfl, rfl, rfl⟩, trivial⟩) ?_
              refine A.take 30 rfl (by kernel_rfl) (by kernel_rfl) (by kernel_rfl) rfl (Ca.move) (fun Q0 k0 => L.move hF rfl rfl rfl (L.nil k0)) ?_
              refine A.off 31 rfl (by kernel_rfl) (by kernel_rfl) (by kernel_rfl) rfl hF rfl rfl ?_
              refine A.off 32 rfl (by kernel_rfl) (by kernel_rfl) (by kernel_rfl) rfl hF rfl rfl ?_
              refine A.off 33 rfl (by kernel_rfl) (by kernel_rfl) (by kernel_rfl) rfl hF rfl rfl ?_
              refine A.off 34 rfl (by kernel_rfl) (by kernel_rfl) (by kernel_rfl) rfl hF rfl rfl ?_
              refine A.all [35] (by kernel_rfl) rfl ⟨⟨_, rfl, ?_⟩, trivial⟩
              refine L.off hF rfl rfl ?_
              refine L.nil ?_
              refine A.take 36 rfl (by kernel_rfl) (by kernel_rfl) (by kernel_rfl) rfl (Ca.pick) (fun Q0 k0 => L.pick hF rfl rfl rfl rfl (L.nil k0)) ?_
              refine A.le (τ := mkSt [(0, MG.one (Cell.sl g0 (List.map eTimpl_Pair v172))), (1, MG.one (cI v173)), (2, MG.one (cL v174)), (7, MG.one (cI v175)), (26, MG.one (Cell.ptr 0 0)), (27, MG.one (cI b198.A)), (28, MG.one (cI v173)), (29, MG.one (cL (decide (b198.A ≥ v173)))), (32, Slot.tup []), (33, Slot.tup []), (34, Slot.tup []), (37, Slot.tup []), (38, Slot.tup []), (39, Slot.tup []), (40, Slot.tup []), (43, Slot.tup []), (44, Slot.tup []), (45, Slot.tup []), (46, Slot.tup []), (47, Slot.tup []), (48, Slot.tup []), (49, Slot.tup []), (50, Slot.tup []), (53, Slot.tup []), (54, Slot.tup []), (55, Slot.tup []), (56, Slot.tup []), (57, Slot.tup []), (58, MG.one (cL true))] [] [(0, [cI b198.A, cI b198.B])] 1) (Le.mk [(0, 0)] hm rfl ⟨⟨_, rfl, rfl⟩, ⟨_, rfl, rfl⟩, ⟨_, rfl, rfl⟩, ⟨_, rfl, rfl⟩, ⟨_, rfl, rfl⟩, ⟨_, rfl, rfl⟩, ⟨_, rfl, rfl⟩, ⟨_, rfl, rfl⟩, ⟨_, rfl, rfl⟩, ⟨_, rfl, rfl⟩, ⟨_, rfl, rfl⟩, ⟨_, rfl, rfl⟩, ⟨_, rfl, rfl⟩, ⟨_, rfl, rfl⟩, ⟨_, rfl, rfl⟩, ⟨_, rfl, rfl⟩, ⟨_, rfl, rfl⟩, ⟨_, rfl, rfl⟩, ⟨_, rfl, rfl⟩, ⟨_, rfl, rfl⟩, ⟨_, rfl, rfl⟩, ⟨_, rfl, rfl⟩, ⟨_, rfl, rfl⟩, ⟨_, rfl, rfl⟩, ⟨_, rfl, rfl⟩, ⟨_, rfl, rfl⟩, ⟨_, rfl, rfl⟩, ⟨_, rfl, rfl⟩, ⟨_, rfl, rfl⟩, trivial⟩ trivial ⟨⟨_, _, rfl, rfl, rfl⟩, trivial⟩) ?_
              refine A.done (by kernel_rfl) ?_
              refine WpC.cond rfl (fun _ => ?_) (fun hc => by cases hc)
              refine WpC.seq ?_
              refine WpC.regionL ?_
              refine L.assign hF rfl rfl rfl ?_
              refine L.nil ?_
              refine WpC.ret ?_
              cases H
              exact Leaves.ret rfl rfl rfl ⟨rfl, rfl⟩
            · replace H := condF hc204 H
              rcases Bool.eq_false_or_eq_true ((decide (b198.B < (0 : Int)))) with hc205 | hc205
              · replace H := condT hc205 H
                refine A.begin mixed rfl rfl ?_
                intro W hI hO
                refine hI _ _ _ ?_
                refine A.take 0 rfl (by kernel_rfl) (by kernel_rfl) (by kernel_rfl) rfl (Ca.fieldAddr Try.underlying256 rfl info3 rfl) (fun Q0 k0 => L.fieldAddr Try.underlying256 rfl info3 rfl hF rfl rfl rfl rfl rfl (L.nil k0)) ?_
                refine A.all [1] (by kernel_rfl) rfl ⟨⟨_, rfl, ?_⟩, trivial⟩
                refine L.loadPtr shape3 hF rfl rfl rfl rfl rfl rfl ?_
                refine L.nil ?_
                refine A.take 2 rfl (by kernel_rfl) (by kernel_rfl) (by kernel_rfl) rfl (Ca.bin rfl rfl (calm_int _ _ _ _ _ _ _ _)) (fun Q0 k0 => L.bin hF rfl rfl rfl rfl rfl rfl (L.nil k0)) ?_
                refine A.take 3 rfl (by kernel_rfl) (by kernel_rfl) (by kernel_rfl) rfl (Ca.move) (fun Q0 k0 => L.move hF rfl rfl rfl (L.nil k0)) ?_
                refine A.le (τ := mkSt [(0, MG.one (Cell.sl g0 (List.map eTimpl_Pair v172))), (1, MG.one (cI v173)), (2, MG.one (cL v174)), (7, MG.one (cI v175)), (8, MG.one (Cell.ptr 0 0)), (25, MG.one (cL false))] [] [(0, [cI b198.A, cI b198.B])] 1) (Le.mk [(0, 0)] hm rfl ⟨⟨_, rfl, rfl⟩, ⟨_, rfl, rfl⟩, ⟨_, rfl, rfl⟩, ⟨_, rfl, rfl⟩, ⟨_, rfl, rfl⟩, ⟨_, rfl, congrArg (fun b => some (MG.one (cL b))) hc203⟩, trivial⟩ trivial ⟨⟨_, _, rfl, rfl, rfl⟩, trivial⟩) ?_
                refine A.take 4 rfl (by kernel_rfl) (by kernel_rfl) (by kernel_rfl) rfl (Ca.fieldAddr Try.underlying256 rfl info3 rfl) (fun Q0 k0 => L.fieldAddr Try.underlying256 rfl info3 rfl hF rfl rfl rfl rfl rfl (L.nil k0)) ?_
                refine A.take 6 rfl (by kernel_rfl) (by kernel_rfl) (by kernel_rfl) rfl (Ca.move) (fun Q0 k0 => L.move hF rfl rfl rfl (L.nil k0)) ?_
                refine A.all [5] (by kernel_rfl) rfl ⟨⟨_, rfl, ?_⟩, trivial⟩
                refine L.loadPtr shape3 hF rfl rfl rfl rfl rfl rfl ?_
                refine L.nil ?_
                refine A.take 7 rfl (by kernel_rfl) (by kernel_rfl) (by kernel_rfl) rfl (Ca.bin rfl rfl (calm_int _ _ _ _ _ _ _ _)) (fun Q0 k0 => L.bin hF rfl rfl rfl rfl rfl rfl (L.nil k0)) ?_
                refine A.take 8 rfl (by kernel_rfl) (by kernel_rfl) (by kernel_rfl) rfl (Ca.pick) (fun Q0 k0 => L.pick hF rfl rfl rfl rfl (L.nil k0)) ?_
                refine A.take 9 rfl (by kernel_rfl) (by kernel_rfl) (by kernel_rfl) rfl (Ca.move) (fun Q0 k0 => L.move hF rfl rfl rfl (L.nil k0)) ?_
                refine A.le (τ := mkSt [(0, MG.one (Cell.sl g0 (List.map eTimpl_Pair v172))), (1, MG.one (cI v173)), (2, MG.one (cL v174)), (7, MG.one (cI v175)), (8, MG.one (Cell.ptr 0 0)), (26, MG.one (Cell.ptr 0 0)), (27, MG.one (cI b198.A)), (28, MG.one (cI v173)), (29, MG.one (cL (decide (b198.A ≥ v173)))), (31, MG.one (cL false))] [] [(0, [cI b198.A, cI b198.B])] 1) (Le.mk [(0, 0)] hm rfl ⟨⟨_, rfl, rfl⟩, ⟨_, rfl, rfl⟩, ⟨_, rfl, rfl⟩, ⟨_, rfl, rfl⟩, ⟨_, rfl, rfl⟩, ⟨_, rfl, rfl⟩, ⟨_, rfl, rfl⟩, ⟨_, rfl, rfl⟩, ⟨_, rfl, rfl⟩, ⟨_, rfl, congrArg (fun b => some (MG.one (cL b))) hc204⟩, trivial⟩ trivial ⟨⟨_, _, rfl, rfl, rfl⟩, trivial⟩) ?_
                refine A.take 10 rfl (by kernel_rfl) (by kernel_rfl) (by kernel_rfl) rfl (Ca.fieldAddr Try.underlying256 rfl info3 rfl) (fun Q0 k0 => L.fieldAddr Try.underlying256 rfl info3 rfl hF rfl rfl rfl rfl rfl (L.nil k0)) ?_
                refine A.all [11] (by kernel_rfl) rfl ⟨⟨_, rfl, ?_⟩, trivial⟩
                refine L.loadPtr shape3 hF rfl rfl rfl rfl rfl rfl ?_
                refine L.nil ?_
                refine A.take 12 rfl (by kernel_rfl) (by kernel_rfl) (by kernel_rfl) rfl (Ca.bin rfl rfl (calm_int _ _ _ _ _ _ _ _)) (fun Q0 k0 => L.bin hF rfl rfl rfl rfl rfl rfl (L.nil k0)) ?_
                refine A.take 13 rfl (by kernel_rfl) (by kernel_rfl) (by kernel_rfl) rfl (Ca.pick) (fun Q0 k0 => L.pick hF rfl rfl rfl rfl (L.nil k0)) ?_
                refine A.take 14 rfl (by kernel_rfl) (by kernel_rfl) (by kernel_rfl) rfl (Ca.move) (fun Q0 k0 => L.move hF rfl rfl rfl (L.nil k0)) ?_
                refine A.le (τ := mkSt [(0, MG.one (Cell.sl g0 (List.map eTimpl_Pair v172))), (1, MG.one (cI v173)), (2, MG.one (cL v174)), (7, MG.one (cI v175)), (8, MG.one (Cell.ptr 0 0)), (26, MG.one (Cell.ptr 0 0)), (27, MG.one (cI b198.A)), (28, MG.one (cI v173)), (29, MG.one (cL (decide (b198.A ≥ v173)))), (32, MG.one (Cell.ptr 0 1)), (33, MG.one (cI b198.B)), (34, MG.one (cL (decide (b198.B < (0 : Int))))), (36, MG.one (cL true))] [] [(0, [cI b198.A, cI b198.B])] 1) (Le.mk [(0, 0)] hm rfl ⟨⟨_, rfl, rfl⟩, ⟨_, rfl, rfl⟩, ⟨_, rfl, rfl⟩, ⟨_, rfl, rfl⟩, ⟨_, rfl, rfl⟩, ⟨_, rfl, rfl⟩, ⟨_, rfl, rfl⟩, ⟨_, rfl, rfl⟩, ⟨_, rfl, rfl⟩, ⟨_, rfl, rfl⟩, ⟨_, rfl, rfl⟩, ⟨_, rfl, rfl⟩, ⟨_, rfl, congrArg (fun b => some (MG.one (cL b))) hc205⟩, trivial⟩ trivial ⟨⟨_, _, rfl, rfl, rfl⟩, trivial⟩) ?_
                refine A.off 15 rfl (by kernel_rfl) (by kernel_rfl) (by kernel_rfl) rfl hF rfl rfl ?_
                refine A.off 16 rfl (by kernel_rfl) (by kernel_rfl) (by kernel_rfl) rfl hF rfl rfl ?_
                refine A.off 17 rfl (by kernel_rfl) (by kernel_rfl) (by kernel_rfl) rfl hF rfl rfl ?_
                refine A.off 18 rfl (by kernel_rfl) (by kernel_rfl) (by kernel_rfl) rfl hF rfl rfl ?_
                refine A.take 19 rfl (by kernel_rfl) (by kernel_rfl) (by kernel_rfl) rfl (Ca.pick) (fun Q0 k0 => L.pick hF rfl rfl rfl rfl (L.nil k0)) ?_
                refine A.take 20 rfl (by kernel_rfl) (by kernel_rfl) (by kernel_rfl) rfl (Ca.move) (fun Q0 k0 => L.move hF rfl rfl rfl (L.nil k0)) ?_
                refine A.off 21 rfl (by kernel_rfl) (by kernel_rfl) (by kernel_rfl) rfl hF rfl rfl ?_
                refine A.off 22 rfl (by kernel_rfl) (by kernel_rfl) (by kernel_rfl) rfl hF rfl rfl ?_
                refine A.off 23 rfl (by kernel_rfl) (by kernel_rfl) (by kernel_rfl) rfl hF rfl rfl ?_
                refine A.off 24 rfl (by kernel_rfl) (by kernel_rfl) (by kernel_rfl) rfl hF rfl rfl ?_
                refine A.le (τ := mkSt [(0, MG.one (Cell.sl g0 (List.map eTimpl_Pair v172))), (1, MG.one (cI v173)), (2, MG.one (cL v174)), (7, MG.one (cI v175)), (8, MG.one (Cell.ptr 0 0)), (26, MG.one (Cell.ptr 0 0)), (27, MG.one (cI b198.A)), (28, MG.one (cI v173)), (29, MG.one (cL (decide (b198.A ≥ v173)))), (32, MG.one (Cell.ptr 0 1)), (33, MG.one (cI b198.B)), (34, MG.one (cL (decide (b198.B < (0 : Int))))), (37, Slot.tup []), (38, Slot.tup []), (39, Slot.tup []), (40, Slot.tup []), (42, MG.one (cL true)), (43, Slot.tup []), (44, Slot.tup []), (45, Slot.tup []), (46, Slot.tup [])] [] [(0, [cI b198.A, cI b198.B])] 1) (Le.mk [(0, 0)] hm rfl ⟨⟨_, rfl, rfl⟩, ⟨_, rfl, rfl⟩, ⟨_, rfl, rfl⟩, ⟨_, rfl, rfl⟩, ⟨_, rfl, rfl⟩, ⟨_, rfl, rfl⟩, ⟨_, rfl, rfl⟩, ⟨_, rfl, rfl⟩, ⟨_, rfl, rfl⟩, ⟨_, rfl, rfl⟩, ⟨_, rfl, rfl⟩, ⟨_, rfl, rfl⟩, ⟨_, rfl, rfl⟩, ⟨_, rfl, rfl⟩, ⟨_, rfl, rfl⟩, ⟨_, rfl, rfl⟩, ⟨_, rfl, rfl⟩, ⟨_, rfl, rfl⟩, ⟨_, rfl, rfl⟩, ⟨_, rfl, rfl⟩, ⟨_, rfl, rfl⟩, trivial⟩ trivial ⟨⟨_, _, rfl, rfl, rfl⟩, trivial⟩) ?_
                refine A.off 25 rfl (by kernel_rfl) (by kernel_rfl) (by kernel_rfl) rfl hF rfl rfl ?_
                refine A.off 26 rfl (by kernel_rfl) (by kernel_rfl) (by kernel_rfl) rfl hF rfl rfl ?_
                refine A.off 27 rfl (by kernel_rfl) (by kernel_rfl) (by kernel_rfl) rfl hF rfl rfl ?_
                refine A.off 28 rfl (by kernel_rfl) (by kernel_rfl) (by kernel_rfl) rfl hF rfl rfl ?_
                refine A.take 29 rfl (by kernel_rfl) (by kernel_rfl) (by kernel_rfl) rfl (Ca.pick) (fun Q0 k0 => L.pick hF rfl rfl rfl rfl (L.nil k0)) ?_
                refine A.take 30 rfl (by kernel_rfl) (by kernel_rfl) (by kernel_rfl) rfl (Ca.move) (fun Q0 k0 => L.move hF rfl rfl rfl (L.nil k0)) ?_
                refine A.off 31 rfl (by kernel_rfl) (by kernel_rfl) (by kernel_rfl) rfl hF rfl rfl ?_
                refine A.off 32 rfl (by kernel_rfl) (by kernel_rfl) (by kernel_rfl) rfl hF rfl rfl ?_
                refine A.off 33 rfl (by kernel_rfl) (by kernel_rfl) (by kernel_rfl) rfl hF rfl rfl ?_
                refine A.off 34 rfl (by kernel_rfl) (by kernel_rfl) (by kernel_rfl) rfl hF rfl rfl ?_
                refine A.le (τ := mkSt [(0, MG.one (Cell.sl g0 (List.map eTimpl_Pair v172))), (1, MG.one (cI v173)), (2, MG.one (cL v174)), (7, MG.one (cI v175)), (26, MG.one (Cell.ptr 0 0)), (27, MG.one (cI b198.A)), (28, MG.one (cI v173)), (29, MG.one (cL (decide (b198.A ≥ v173)))), (32, MG.one (Cell.ptr 0 1)), (33, MG.one (cI b198.B)), (34, MG.one (cL (decide (b198.B < (0 : Int))))), (37, Slot.tup []), (38, Slot.tup []), (39, Slot.tup []), (40, Slot.tup []), (43, Slot.tup []), (44, Slot.tup []), (45, Slot.tup []), (46, Slot.tup []), (47, Slot.tup []), (48, Slot.tup []), (49, Slot.tup []), (50, Slot.tup []), (52, MG.one (cL true)), (53, Slot.tup []), (54, Slot.tup []), (55, Slot.tup []), (56, Slot.tup [])] [] [(0, [cI b198.A, cI b198.B])] 1) (Le.mk [(0, 0)] hm rfl ⟨⟨_, rfl, rfl⟩, ⟨_, rfl, rfl⟩, ⟨_, rfl, rfl⟩, ⟨_, rfl, rfl⟩, ⟨_, rfl, rfl⟩, ⟨_, rfl, rfl⟩, ⟨_, rfl, rfl⟩, ⟨_, rfl, rfl⟩, ⟨_, rfl, rfl⟩, ⟨_, rfl, rfl⟩, ⟨_, rfl, rfl⟩, ⟨_, rfl, rfl⟩, ⟨_, rfl, rfl⟩, ⟨_, rfl, rfl⟩, ⟨_, rfl, rfl⟩, ⟨_, rfl, rfl⟩, ⟨_, rfl, rfl⟩, ⟨_, rfl, rfl⟩, ⟨_, rfl, rfl⟩, ⟨_, rfl, rfl⟩, ⟨_, rfl, rfl⟩, ⟨_, rfl, rfl⟩, ⟨_, rfl, rfl⟩, ⟨_, rfl, rfl⟩, ⟨_, rfl, rfl⟩, ⟨_, rfl, rfl⟩, ⟨_, rfl, rfl⟩, ⟨_, rfl, rfl⟩, trivial⟩ trivial ⟨⟨_, _, rfl, rfl, rfl⟩, trivial⟩) ?_
                refine A.all [35] (by kernel_rfl) rfl ⟨⟨_, rfl, ?_⟩, trivial⟩
                refine L.off hF rfl rfl ?_
                refine L.nil ?_
                refine A.take 36 rfl (by kernel_rfl) (by kernel_rfl) (by kernel_rfl) rfl (Ca.pick) (fun Q0 k0 => L.pick hF rfl rfl rfl rfl (L.nil k0)) ?_
                refine A.le (τ := mkSt [(0, MG.one (Cell.sl g0 (List.map eTimpl_Pair v172))), (1, MG.one (cI v173)), (2, MG.one (cL v174)), (7, MG.one (cI v175)), (26, MG.one (Cell.ptr 0 0)), (27, MG.one (cI b198.A)), (28, MG.one (cI v173)), (29, MG.one (cL (decide (b198.A ≥ v173)))), (32, MG.one (Cell.ptr 0 1)), (33, MG.one (cI b198.B)), (34, MG.one (cL (decide (b198.B < (0 : Int))))), (37, Slot.tup []), (38, Slot.tup []), (39, Slot.tup []), (40, Slot.tup []), (43, Slot.tup []), (44, Slot.tup []), (45, Slot.tup []), (46, Slot.tup []), (47, Slot.tup []), (48, Slot.tup []), (49, Slot.tup []), (50, Slot.tup []), (53, Slot.tup []), (54, Slot.tup []), (55, Slot.tup []), (56, Slot.tup []), (57, Slot.tup []), (58, MG.one (cL true))] [] [(0, [cI b198.A, cI b198.B])] 1) (Le.mk [(0, 0)] hm rfl ⟨⟨_, rfl, rfl⟩, ⟨_, rfl, rfl⟩, ⟨_, rfl, rfl⟩, ⟨_, rfl, rfl⟩, ⟨_, rfl, rfl⟩, ⟨_, rfl, rfl⟩, ⟨_, rfl, rfl⟩, ⟨_, rfl, rfl⟩, ⟨_, rfl, rfl⟩, ⟨_, rfl, rfl⟩, ⟨_, rfl, rfl⟩, ⟨_, rfl, rfl⟩, ⟨_, rfl, rfl⟩, ⟨_, rfl, rfl⟩, ⟨_, rfl, rfl⟩, ⟨_, rfl, rfl⟩, ⟨_, rfl, rfl⟩, ⟨_, rfl, rfl⟩, ⟨_, rfl, rfl⟩, ⟨_, rfl, rfl⟩, ⟨_, rfl, rfl⟩, ⟨_, rfl, rfl⟩, ⟨_, rfl, rfl⟩, ⟨_, rfl, rfl⟩, ⟨_, rfl, rfl⟩, ⟨_, rfl, rfl⟩, ⟨_, rfl, rfl⟩, ⟨_, rfl, rfl⟩, ⟨_, rfl, rfl⟩, trivial⟩ trivial ⟨⟨_, _, rfl, rfl, rfl⟩, trivial⟩) ?_
                refine A.done (by kernel_rfl) ?_
                refine WpC.cond rfl (fun _ => ?_) (fun hc => by cases hc)
                refine WpC.seq ?_
                refine WpC.regionL ?_
                refine L.assign hF rfl rfl rfl ?_
                refine L.nil ?_
                refine WpC.ret ?_
                cases H
                exact Leaves.ret rfl rfl rfl ⟨rfl, rfl⟩
              · replace H := condF hc205 H
                rcases Bool.eq_false_or_eq_true ((decide (b198.B ≥ v173))) with hc206 | hc206
                · replace H := condT hc206 H
                  refine A.begin mixed rfl rfl ?_
                  intro W hI hO
                  refine hI _ _ _ ?_
                  refine A.take 0 rfl (by kernel_rfl) (by kernel_rfl) (by kernel_rfl) rfl (Ca.fieldAddr Try.underlying256 rfl info3 rfl) (fun Q0 k0 => L.fieldAddr Try.underlying256 rfl info3 rfl hF rfl rfl rfl rfl rfl (L.nil k0)) ?_
                  refine A.all [1] (by kernel_rfl) rfl ⟨⟨_, rfl, ?_⟩, trivial⟩
                  refine L.loadPtr shape3 hF rfl rfl rfl rfl rfl rfl ?_
                  refine L.nil ?_
                  refine A.take 2 rfl (by kernel_rfl) (by kernel_rfl) (by kernel_rfl) rfl (Ca.bin rfl rfl (calm_int _ _ _ _ _ _ _ _)) (fun Q0 k0 => L.bin hF rfl rfl rfl rfl rfl rfl (L.nil k0)) ?_
                  refine A.take 3 rfl (by kernel_rfl) (by kernel_rfl) (by kernel_rfl) rfl (Ca.move) (fun Q0 k0 => L.move hF rfl rfl rfl (L.nil k0)) ?_
                  refine A.le (τ := mkSt [(0, MG.one (Cell.sl g0 (List.map eTimpl_Pair v172))), (1, MG.one (cI v173)), (2, MG.one (cL v174)), (7, MG.one (cI v175)), (8, MG.one (Cell.ptr 0 0)), (25, MG.one (cL false))] [] [(0, [cI b198.A, cI b198.B])] 1) (Le.mk [(0, 0)] hm rfl ⟨⟨_, rfl, rfl⟩, ⟨_, rfl, rfl⟩, ⟨_, rfl, rfl⟩, ⟨_, rfl, rfl⟩, ⟨_, rfl, rfl⟩, ⟨_, rfl, congrArg (fun b => some (MG.one (cL b))) hc203⟩, trivial⟩ trivial ⟨⟨_, _, rfl, rfl, rfl⟩, trivial⟩) ?_
                  refine A.take 4 rfl (by kernel_rfl) (by kernel_rfl) (by kernel_rfl) rfl (Ca.fieldAddr Try.underlying256 rfl info3 rfl) (fun Q0 k0 => L.fieldAddr Try.underlying256 rfl info3 rfl hF rfl rfl rfl rfl rfl (L.nil k0)) ?_
                  refine A.take 6 rfl (by kernel_rfl) (by kernel_rfl) (by kernel_rfl) rfl (Ca.move) (fun Q0 k0 => L.move hF rfl rfl rfl (L.nil k0)) ?_
                  refine A.all [5] (by kernel_rfl) rfl ⟨⟨_, rfl, ?_⟩, trivial⟩
                  refine L.loadPtr shape3 hF rfl rfl rfl rfl rfl rfl ?_
                  refine L.nil ?_
                  refine A.take 7 rfl (by kernel_rfl) (by kernel_rfl) (by kernel_rfl) rfl (Ca.bin rfl rfl (calm_int _ _ _ _ _ _ _ _)) (fun Q0 k0 => L.bin hF rfl rfl rfl rfl rfl rfl (L.nil k0)) ?_
                  refine A.take 8 rfl (by kernel_rfl) (by kernel_rfl) (by kernel_rfl) rfl (Ca.pick) (fun Q0 k0 => L.pick hF rfl rfl rfl rfl (L.nil k0)) ?_
                  refine A.take 9 rfl (by kernel_rfl) (by kernel_rfl) (by kernel_rfl) rfl (Ca.move) (fun Q0 k0 => L.move hF rfl rfl rfl (L.nil k0)) ?_
                  refine A.le (τ := mkSt [(0, MG.one (Cell.sl g0 (List.map eTimpl_Pair v172))), (1, MG.one (cI v173)), (2, MG.one (cL v174)), (7, MG.one (cI v175)), (8, MG.one (Cell.ptr 0 0)), (26, MG.one (Cell.ptr 0 0)), (27, MG.one (cI b198.A)), (28, MG.one (cI v173)), (29, MG.one (cL (decide (b198.A ≥ v173)))), (31, MG.one (cL false))] [] [(0, [cI b198.A, cI b198.B])] 1) (Le.mk [(0, 0)] hm rfl ⟨⟨_, rfl, rfl⟩, ⟨_, rfl, rfl⟩, ⟨_, rfl, rfl⟩, ⟨_, rfl, rfl⟩, ⟨_, rfl, rfl⟩, ⟨_, rfl, rfl⟩, ⟨_, rfl, rfl⟩, ⟨_, rfl, rfl⟩, ⟨_, rfl, rfl⟩, ⟨_, rfl, congrArg (fun b => some (MG.one (cL b))) hc204⟩, trivial⟩ trivial ⟨⟨_, _, rfl, rfl, rfl⟩, trivial⟩) ?_
                  refine A.take 10 rfl (by kernel_rfl) (by kernel_rfl) (by kernel_rfl) rfl (Ca.fieldAddr Try.underlying256 rfl info3 rfl) (fun Q0 k0 => L.fieldAddr Try.underlying256 rfl info3 rfl hF rfl rfl rfl rfl rfl (L.nil k0)) ?_
                  refine A.all [11] (by kernel_rfl) rfl ⟨⟨_, rfl, ?_⟩, trivial⟩
                  refine L.loadPtr shape3 hF rfl rfl rfl rfl rfl rfl ?_
                  refine L.nil ?_
                  refine A.take 12 rfl (by kernel_rfl) (by kernel_rfl) (by kernel_rfl) rfl (Ca.bin rfl rfl (calm_int _ _ _ _ _ _ _ _)) (fun Q0 k0 => L.bin hF rfl rfl rfl rfl rfl rfl (L.nil k0)) ?_
                  refine A.take 13 rfl (by kernel_rfl) (by kernel_rfl) (by kernel_rfl) rfl (Ca.pick) (fun Q0 k0 => L.pick hF rfl rfl rfl rfl (L.nil k0)) ?_
                  refine A.take 14 rfl (by kernel_rfl) (by kernel_rfl) (by kernel_rfl) rfl (Ca.move) (fun Q0 k0 => L.move hF rfl rfl rfl (L.nil k0)) ?_
                  refine A.le (τ := mkSt [(0, MG.one (Cell.sl g0 (List.map eTimpl_Pair v172))), (1, MG.one (cI v173)), (2, MG.one (cL v174)), (7, MG.one (cI v175)), (8, MG.one (Cell.ptr 0 0)), (26, MG.one (Cell.ptr 0 0)), (27, MG.one (cI b198.A)), (28, MG.one (cI v173)), (29, MG.one (cL (decide (b198.A ≥ v173)))), (32, MG.one (Cell.ptr 0 1)), (33, MG.one (cI b198.B)), (34, MG.one (cL (decide (b198.B < (0 : Int))))), (36, MG.one (cL false))] [] [(0, [cI b198.A, cI b198.B])] 1) (Le.mk [(0, 0)] hm rfl ⟨⟨_, rfl, rfl⟩, ⟨_, rfl, rfl⟩, ⟨_, rfl, rfl⟩, ⟨_, rfl, rfl⟩, ⟨_, rfl, rfl⟩, ⟨_, rfl, rfl⟩, ⟨_, rfl, rfl⟩, ⟨_, rfl, rfl⟩, ⟨_, rfl, rfl⟩, ⟨_, rfl, rfl⟩, ⟨_, rfl, rfl⟩, ⟨_, rfl, rfl⟩, ⟨_, rfl, congrArg (fun b => some (MG.one (cL b))) hc205⟩, trivial⟩ trivial ⟨⟨_, _, rfl, rfl, rfl⟩, trivial⟩) ?_
                  refine A.take 15 rfl (by kernel_rfl) (by kernel_rfl) (by kernel_rfl) rfl (Ca.fieldAddr Try.underlying256 rfl info3 rfl) (fun Q0 k0 => L.fieldAddr Try.underlying256 rfl info3 rfl hF rfl rfl rfl rfl rfl (L.nil k0)) ?_
                  refine A.take 17 rfl (by kernel_rfl) (by kernel_rfl) (by kernel_rfl) rfl (Ca.move) (fun Q0 k0 => L.move hF rfl rfl rfl (L.nil k0)) ?_
                  refine A.all [16] (by kernel_rfl) rfl ⟨⟨_, rfl, ?_⟩, trivial⟩
                  refine L.loadPtr shape3 hF rfl rfl rfl rfl rfl rfl ?_
                  refine L.nil ?_
                  refine A.take 18 rfl (by kernel_rfl) (by kernel_rfl) (by kernel_rfl) rfl (Ca.bin rfl rfl (calm_int _ _ _ _ _ _ _ _)) (fun Q0 k0 => L.bin hF rfl rfl rfl rfl rfl rfl (L.nil k0)) ?_
                  refine A.take 19 rfl (by kernel_rfl) (by kernel_rfl) (by kernel_rfl) rfl (Ca.pick) (fun Q0 k0 => L.pick hF rfl rfl rfl rfl (L.nil k0)) ?_
                  refine A.take 20 rfl (by kernel_rfl) (by kernel_rfl) (by kernel_rfl) rfl (Ca.move) (fun Q0 k0 => L.move hF rfl rfl rfl (L.nil k0)) ?_
                  refine A.le (τ := mkSt [(0, MG.one (Cell.sl g0 (List.map eTimpl_Pair v172))), (1, MG.one (cI v173)), (2, MG.one (cL v174)), (7, MG.one (cI v175)), (8, MG.one (Cell.ptr 0 0)), (26, MG.one (Cell.ptr 0 0)), (27, MG.one (cI b198.A)), (28, MG.one (cI v173)), (29, MG.one (cL (decide (b198.A ≥ v173)))), (32, MG.one (Cell.ptr 0 1)), (33, MG.one (cI b198.B)), (34, MG.one (cL (decide (b198.B < (0 : Int))))), (37, MG.one (Cell.ptr 0 1)), (38, MG.one (cI b198.B)), (39, MG.one (cI v173)), (40, MG.one (cL (decide (b198.B ≥ v173)))), (42, MG.one (cL true))] [] [(0, [cI b198.A, cI b198.B])] 1) (Le.mk [(0, 0)] hm rfl ⟨⟨_, rfl, rfl⟩, ⟨_, rfl, rfl⟩, ⟨_, rfl, rfl⟩, ⟨_, rfl, rfl⟩, ⟨_, rfl, rfl⟩, ⟨_, rfl, rfl⟩, ⟨_, rfl, rfl⟩, ⟨_, rfl, rfl⟩, ⟨_, rfl, rfl⟩, ⟨_, rfl, rfl⟩, ⟨_, rfl, rfl⟩, ⟨_, rfl, rfl⟩, ⟨_, rfl, rfl⟩, ⟨_, rfl, rfl⟩, ⟨_, rfl, rfl⟩, ⟨_, rfl, rfl⟩, ⟨_, rfl, congrArg (fun b => some (MG.one (cL b))) hc206⟩, trivial⟩ trivial ⟨⟨_, _, rfl, rfl, rfl⟩, trivial⟩) ?_
                  refine A.off 21 rfl (by kernel_rfl) (by kernel_rfl) (by kernel_rfl) rfl hF rfl rfl ?_
                  refine A.off 22 rfl (by kernel_rfl) (by kernel_rfl) (by kernel_rfl) rfl hF rfl rfl ?_
                  refine A.off 23 rfl (by kernel_rfl) (by kernel_rfl) (by kernel_rfl) rfl hF rfl rfl ?_
                  refine A.off 24 rfl (by kernel_rfl) (by kernel_rfl) (by kernel_rfl) rfl hF rfl rfl ?_
                  refine A.off 25 rfl (by kernel_rfl) (by kernel_rfl) (by kernel_rfl) rfl hF rfl rfl ?_
                  refine A.off 26 rfl (by kernel_rfl) (by kernel_rfl) (by kernel_rfl) rfl hF rfl rfl ?_
                  refine A.off 27 rfl (by kernel_rfl) (by kernel_rfl) (by kernel_rfl) rfl hF rfl rfl ?_
                  refine A.off 28 rfl (by kernel_rfl) (by kernel_rfl) (by kernel_rfl) rfl hF rfl rfl ?_
                  refine A.take 29 rfl (by kernel_rfl) (by kernel_rfl) (by kernel_rfl) rfl (Ca.pick) (fun Q0 k0 => L.pick hF rfl rfl rfl rfl (L.nil k0)) ?_
                  refine A.take 30 rfl (by kernel_rfl) (by kernel_rfl) (by kernel_rfl) rfl (Ca.move) (fun Q0 k0 => L.move hF rfl rfl rfl (L.nil k0)) ?_
                  refine A.le (τ := mkSt [(0, MG.one (Cell.sl g0 (List.map eTimpl_Pair v172))), (1, MG.one (cI v173)), (2, MG.one (cL v174)), (7, MG.one (cI v175)), (8, MG.one (Cell.ptr 0 0)), (26, MG.one (Cell.ptr 0 0)), (27, MG.one (cI b198.A)), (28, MG.one (cI v173)), (29, MG.one (cL (decide (b198.A ≥ v173)))), (32, MG.one (Cell.ptr 0 1)), (33, MG.one (cI b198.B)), (34, MG.one (cL (decide (b198.B < (0 : Int))))), (37, MG.one (Cell.ptr 0 1)), (38, MG.one (cI b198.B)), (39, MG.one (cI v173)), (40, MG.one (cL (decide (b198.B ≥ v173)))), (43, Slot.tup []), (44, Slot.tup []), (45, Slot.tup []), (46, Slot.tup []), (47, Slot.tup []), (48, Slot.tup []), (49, Slot.tup []), (50, Slot.tup []), (52, MG.one (cL true))] [] [(0, [cI b198.A, cI b198.B])] 1) (Le.mk [(0, 0)] hm rfl ⟨⟨_, rfl, rfl⟩, ⟨_, rfl, rfl⟩, ⟨_, rfl, rfl⟩, ⟨_, rfl, rfl⟩, ⟨_, rfl, rfl⟩, ⟨_, rfl, rfl⟩, ⟨_, rfl, rfl⟩, ⟨_, rfl, rfl⟩, ⟨_, rfl, rfl⟩, ⟨_, rfl, rfl⟩, ⟨_, rfl, rfl⟩, ⟨_, rfl, rfl⟩, ⟨_, rfl, rfl⟩, ⟨_, rfl, rfl⟩, ⟨_, rfl, rfl⟩, ⟨_, rfl, rfl⟩, ⟨_, rfl, rfl⟩, ⟨_, rfl, rfl⟩, ⟨_, rfl, rfl⟩, ⟨_, rfl, rfl⟩, ⟨_, rfl, rfl⟩, ⟨_, rfl, rfl⟩, ⟨_, rfl, rfl⟩, ⟨_, rfl, rfl⟩, ⟨_, rfl, rfl⟩, trivial⟩ trivial ⟨⟨_, _, rfl, rfl, rfl⟩, trivial⟩) ?_
                  refine A.off 31 rfl (by kernel_rfl) (by kernel_rfl) (by kernel_rfl) rfl hF rfl rfl ?_
                  refine A.off 32 rfl (by kernel_rfl) (by kernel_rfl) (by kernel_rfl) rfl hF rfl rfl ?_
                  refine A.off 33 rfl (by kernel_rfl) (by kernel_rfl) (by kernel_rfl) rfl hF rfl rfl ?_
                  refine A.off 34 rfl (by kernel_rfl) (by kernel_rfl) (by kernel_rfl) rfl hF rfl rfl ?_
                  refine A.all [35] (by kernel_rfl) rfl ⟨⟨_, rfl, ?_⟩, trivial⟩
                  refine L.off hF rfl rfl ?_
                  refine L.nil ?_
                  refine A.take 36 rfl (by kernel_rfl) (by kernel_rfl) (by kernel_rfl) rfl (Ca.pick) (fun Q0 k0 => L.pick hF rfl rfl rfl rfl (L.nil k0)) ?_
                  refine A.le (τ := mkSt [(0, MG.one (Cell.sl g0 (List.map eTimpl_Pair v172))), (1, MG.one (cI v173)), (2, MG.one (cL v174)), (7, MG.one (cI v175)), (26, MG.one (Cell.ptr 0 0)), (27, MG.one (cI b198.A)), (28, MG.one (cI v173)), (29, MG.one (cL (decide (b198.A ≥ v173)))), (32, MG.one (Cell.ptr 0 1)), (33, MG.one (cI b198.B)), (34, MG.one (cL (decide (b198.B < (0 : Int))))), (37, MG.one (Cell.ptr 0 1)), (38, MG.one (cI b198.B)), (39, MG.one (cI v173)), (40, MG.one (cL (decide (b198.B ≥ v173)))), (43, Slot.tup []), (44, Slot.tup []), (45, Slot.tup []), (46, Slot.tup []), (47, Slot.tup []), (48, Slot.tup []), (49, Slot.tup []), (50, Slot.tup []), (53, Slot.tup []), (54, Slot.tup []), (55, Slot.tup []), (56, Slot.tup []), (57, Slot.tup []), (58, MG.one (cL true))] [] [(0, [cI b198.A, cI b198.B])] 1) (Le.mk [(0, 0)] hm rfl ⟨⟨_, rfl, rfl⟩, ⟨_, rfl, rfl⟩, ⟨_, rfl, rfl⟩, ⟨_, rfl, rfl⟩, ⟨_, rfl, rfl⟩, ⟨_, rfl, rfl⟩, ⟨_, rfl, rfl⟩, ⟨_, rfl, rfl⟩, ⟨_, rfl, rfl⟩, ⟨_, rfl, rfl⟩, ⟨_, rfl, rfl⟩, ⟨_, rfl, rfl⟩, ⟨_, rfl, rfl⟩, ⟨_, rfl, rfl⟩, ⟨_, rfl, rfl⟩, ⟨_, rfl, rfl⟩, ⟨_, rfl, rfl⟩, ⟨_, rfl, rfl⟩, ⟨_, rfl, rfl⟩, ⟨_, rfl, rfl⟩, ⟨_, rfl, rfl⟩, ⟨_, rfl, rfl⟩, ⟨_, rfl, rfl⟩, ⟨_, rfl, rfl⟩, ⟨_, rfl, rfl⟩, ⟨_, rfl, rfl⟩, ⟨_, rfl, rfl⟩, ⟨_, rfl, rfl⟩, ⟨_, rfl, rfl⟩, trivial⟩ trivial ⟨⟨_, _, rfl, rfl, rfl⟩, trivial⟩) ?_
                  refine A.done (by kernel_rfl) ?_
                  refine WpC.cond rfl (fun _ => ?_) (fun hc => by cases hc)
                  refine WpC.seq ?_
                  refine WpC.regionL ?_
                  refine L.assign hF rfl rfl rfl ?_
                  refine L.nil ?_
                  refine WpC.ret ?_
                  cases H
                  exact Leaves.ret rfl rfl rfl ⟨rfl, rfl⟩
                · replace H := condF hc206 H
                  rcases Bool.eq_false_or_eq_true (v174) with hc207 | hc207
                  · replace H := condT hc207 H
                    rcases Bool.eq_false_or_eq_true ((b198.A == b198.B)) with hc208 | hc208
                    · replace H := condT hc208 H
                      refine A.begin mixed rfl rfl ?_
                      intro W hI hO
                      have n134217727 : W 10 #[true, true, true, true, true, true, true, true, true, true, true, true, true, true, true, true, true, true, true, true, true, true, true, true, true, true, true, false, false, false, false, false, false, false, false, false, false] (mkSt [(0, MG.one (Cell.sl g0 (List.map eTimpl_Pair v172))), (1, MG.one (cI v173)), (2, MG.one (cL v174)), (7, MG.one (cI v175)), (8, MG.one (Cell.ptr 0 0)), (26, MG.one (Cell.ptr 0 0)), (27, MG.one (cI b198.A)), (28, MG.one (cI v173)), (29, MG.one (cL (decide (b198.A ≥ v173)))), (32, MG.one (Cell.ptr 0 1)), (33, MG.one (cI b198.B)), (34, MG.one (cL (decide (b198.B < (0 : Int))))), (37, MG.one (Cell.ptr 0 1)), (38, MG.one (cI b198.B)), (39, MG.one (cI v173)), (40, MG.one (cL (decide (b198.B ≥ v173)))), (42, MG.one (cL false)), (43, MG.one (cL v174)), (44, MG.one (cL true)), (45, MG.one (Cell.ptr 0 0)), (46, MG.one (cI b198.A)), (47, MG.one (Cell.ptr 0 1)), (48, MG.one (cI b198.B))] [] [(0, [cI b198.A, cI b198.B])] 1) := by
                        refine hI _ _ _ ?_
                        refine A.take 27 rfl (by kernel_rfl) (by kernel_rfl) (by kernel_rfl) rfl (Ca.bin rfl rfl (calm_int _ _ _ _ _ _ _ _)) (fun Q0 k0 => L.bin hF rfl rfl rfl rfl rfl rfl (L.nil k0)) ?_
                        refine A.take 28 rfl (by kernel_rfl) (by kernel_rfl) (by kernel_rfl) rfl (Ca.pick) (fun Q0 k0 => L.pick hF rfl rfl rfl rfl (L.nil k0)) ?_
                        refine A.take 29 rfl (by kernel_rfl) (by kernel_rfl) (by kernel_rfl) rfl (Ca.pick) (fun Q0 k0 => L.pick hF rfl rfl rfl rfl (L.nil k0)) ?_
                        refine A.take 30 rfl (by kernel_rfl) (by kernel_rfl) (by kernel_rfl) rfl (Ca.move) (fun Q0 k0 => L.move hF rfl rfl rfl (L.nil k0)) ?_
                        refine A.le (τ := mkSt [(0, MG.one (Cell.sl g0 (List.map eTimpl_Pair v172))), (1, MG.one (cI v173)), (2, MG.one (cL v174)), (7, MG.one (cI v175)), (8, MG.one (Cell.ptr 0 0)), (26, MG.one (Cell.ptr 0 0)), (27, MG.one (cI b198.A)), (28, MG.one (cI v173)), (29, MG.one (cL (decide (b198.A ≥ v173)))), (32, MG.one (Cell.ptr 0 1)), (33, MG.one (cI b198.B)), (34, MG.one (cL (decide (b198.B < (0 : Int))))), (37, MG.one (Cell.ptr 0 1)), (38, MG.one (cI b198.B)), (39, MG.one (cI v173)), (40, MG.one (cL (decide (b198.B ≥ v173)))), (43, MG.one (cL v174)), (44, MG.one (cL true)), (45, MG.one (Cell.ptr 0 0)), (46, MG.one (cI b198.A)), (47, MG.one (Cell.ptr 0 1)), (48, MG.one (cI b198.B)), (49, MG.one (cL (b198.A == b198.B))), (50, MG.one (cL (b198.A == b198.B))), (52, MG.one (cL true))] [] [(0, [cI b198.A, cI b198.B])] 1) (Le.mk [(0, 0)] hm rfl ⟨⟨_, rfl, rfl⟩, ⟨_, rfl, rfl⟩, ⟨_, rfl, rfl⟩, ⟨_, rfl, rfl⟩, ⟨_, rfl, rfl⟩, ⟨_, rfl, rfl⟩, ⟨_, rfl, rfl⟩, ⟨_, rfl, rfl⟩, ⟨_, rfl, rfl⟩, ⟨_, rfl, rfl⟩, ⟨_, rfl, rfl⟩, ⟨_, rfl, rfl⟩, ⟨_, rfl, rfl⟩, ⟨_, rfl, rfl⟩, ⟨_, rfl, rfl⟩, ⟨_, rfl, rfl⟩, ⟨_, rfl, rfl⟩, ⟨_, rfl, rfl⟩, ⟨_, rfl, rfl⟩, ⟨_, rfl, rfl⟩, ⟨_, rfl, rfl⟩, ⟨_, rfl, rfl⟩, ⟨_, rfl, rfl⟩, ⟨_, rfl, rfl⟩, ⟨_, rfl, congrArg (fun b => some (MG.one (cL b))) hc208⟩, trivial⟩ trivial ⟨⟨_, _, rfl, rfl, rfl⟩, trivial⟩) ?_
                        refine A.off 31 rfl (by kernel_rfl) (by kernel_rfl) (by kernel_rfl) rfl hF rfl rfl ?_
                        refine A.off 32 rfl (by kernel_rfl) (by kernel_rfl) (by kernel_rfl) rfl hF rfl rfl ?_
                        refine A.off 33 rfl (by kernel_rfl) (by kernel_rfl) (by kernel_rfl) rfl hF rfl rfl ?_
                        refine A.off 34 rfl (by kernel_rfl) (by kernel_rfl) (by kernel_rfl) rfl hF rfl rfl ?_
                        refine A.all [35] (by kernel_rfl) rfl ⟨⟨_, rfl, ?_⟩, trivial⟩
                        refine L.off hF rfl rfl ?_
                        refine L.nil ?_
                        refine A.take 36 rfl (by kernel_rfl) (by kernel_rfl) (by kernel_rfl) rfl (Ca.pick) (fun Q0 k0 => L.pick hF rfl rfl rfl rfl (L.nil k0)) ?_
                        refine A.le (τ := mkSt [(0, MG.one (Cell.sl g0 (List.map eTimpl_Pair v172))), (1, MG.one (cI v173)), (2, MG.one (cL v174)), (7, MG.one (cI v175)), (26, MG.one (Cell.ptr 0 0)), (27, MG.one (cI b198.A)), (28, MG.one (cI v173)), (29, MG.one (cL (decide (b198.A ≥ v173)))), (32, MG.one (Cell.ptr 0 1)), (33, MG.one (cI b198.B)), (34, MG.one (cL (decide (b198.B < (0 : Int))))), (37, MG.one (Cell.ptr 0 1)), (38, MG.one (cI b198.B)), (39, MG.one (cI v173)), (40, MG.one (cL (decide (b198.B ≥ v173)))), (43, MG.one (cL v174)), (44, MG.one (cL true)), (45, MG.one (Cell.ptr 0 0)), (46, MG.one (cI b198.A)), (47, MG.one (Cell.ptr 0 1)), (48, MG.one (cI b198.B)), (49, MG.one (cL (b198.A == b198.B))), (50, MG.one (cL (b198.A == b198.B))), (53, Slot.tup []), (54, Slot.tup []), (55, Slot.tup []), (56, Slot.tup []), (57, Slot.tup []), (58, MG.one (cL true))] [] [(0, [cI b198.A, cI b198.B])] 1) (Le.mk [(0, 0)] hm rfl ⟨⟨_, rfl, rfl⟩, ⟨_, rfl, rfl⟩, ⟨_, rfl, rfl⟩, ⟨_, rfl, rfl⟩, ⟨_, rfl, rfl⟩, ⟨_, rfl, rfl⟩, ⟨_, rfl, rfl⟩, ⟨_, rfl, rfl⟩, ⟨_, rfl, rfl⟩, ⟨_, rfl, rfl⟩, ⟨_, rfl, rfl⟩, ⟨_, rfl, rfl⟩, ⟨_, rfl, rfl⟩, ⟨_, rfl, rfl⟩, ⟨_, rfl, rfl⟩, ⟨_, rfl, rfl⟩, ⟨_, rfl, rfl⟩, ⟨_, rfl, rfl⟩, ⟨_, rfl, rfl⟩, ⟨_, rfl, rfl⟩, ⟨_, rfl, rfl⟩, ⟨_, rfl, rfl⟩, ⟨_, rfl, rfl⟩, ⟨_, rfl, rfl⟩, ⟨_, rfl, rfl⟩, ⟨_, rfl, rfl⟩, ⟨_, rfl, rfl⟩, ⟨_, rfl, rfl⟩, ⟨_, rfl, rfl⟩, trivial⟩ trivial ⟨⟨_, _, rfl, rfl, rfl⟩, trivial⟩) ?_
                        refine A.done (by kernel_rfl) ?_
                        refine WpC.cond rfl (fun _ => ?_) (fun hc => by cases hc)
                        refine WpC.seq ?_
                        refine WpC.regionL ?_
                        refine L.assign hF rfl rfl rfl ?_
                        refine L.nil ?_
                        refine WpC.ret ?_
                        cases H
                        exact Leaves.ret rfl rfl rfl ⟨rfl, rfl⟩
                      refine hI _ _ _ ?_
                      refine A.take 0 rfl (by kernel_rfl) (by kernel_rfl) (by kernel_rfl) rfl (Ca.fieldAddr Try.underlying256 rfl info3 rfl) (fun Q0 k0 => L.fieldAddr Try.underlying256 rfl info3 rfl hF rfl rfl rfl rfl rfl (L.nil k0)) ?_
                      refine A.all [1] (by kernel_rfl) rfl ⟨⟨_, rfl, ?_⟩, trivial⟩
                      refine L.loadPtr shape3 hF rfl rfl rfl rfl rfl rfl ?_
                      refine L.nil ?_
                      refine A.take 2 rfl (by kernel_rfl) (by kernel_rfl) (by kernel_rfl) rfl (Ca.bin rfl rfl (calm_int _ _ _ _ _ _ _ _)) (fun Q0 k0 => L.bin hF rfl rfl rfl rfl rfl rfl (L.nil k0)) ?_
                      refine A.take 3 rfl (by kernel_rfl) (by kernel_rfl) (by kernel_rfl) rfl (Ca.move) (fun Q0 k0 => L.move hF rfl rfl rfl (L.nil k0)) ?_
                      refine A.le (τ := mkSt [(0, MG.one (Cell.sl g0 (List.map eTimpl_Pair v172))), (1, MG.one (cI v173)), (2, MG.one (cL v174)), (7, MG.one (cI v175)), (8, MG.one (Cell.ptr 0 0)), (25, MG.one (cL false))] [] [(0, [cI b198.A, cI b198.B])] 1) (Le.mk [(0, 0)] hm rfl ⟨⟨_, rfl, rfl⟩, ⟨_, rfl, rfl⟩, ⟨_, rfl, rfl⟩, ⟨_, rfl, rfl⟩, ⟨_, rfl, rfl⟩, ⟨_, rfl, congrArg (fun b => some (MG.one (cL b))) hc203⟩, trivial⟩ trivial ⟨⟨_, _, rfl, rfl, rfl⟩, trivial⟩) ?_
                      refine A.take 4 rfl (by kernel_rfl) (by kernel_rfl) (by kernel_rfl) rfl (Ca.fieldAddr Try.underlying256 rfl info3 rfl) (fun Q0 k0 => L.fieldAddr Try.underlying256 rfl info3 rfl hF rfl rfl rfl rfl rfl (L.nil k0)) ?_
                      refine A.take 6 rfl (by kernel_rfl) (by kernel_rfl) (by kernel_rfl) rfl (Ca.move) (fun Q0 k0 => L.move hF rfl rfl rfl (L.nil k0)) ?_
                      refine A.all [5] (by kernel_rfl) rfl ⟨⟨_, rfl, ?_⟩, trivial⟩
                      refine L.loadPtr shape3 hF rfl rfl rfl rfl rfl rfl ?_
                      refine L.nil ?_
                      refine A.take 7 rfl (by kernel_rfl) (by kernel_rfl) (by kernel_rfl) rfl (Ca.bin rfl rfl (calm_int _ _ _ _ _ _ _ _)) (fun Q0 k0 => L.bin hF rfl rfl rfl rfl rfl rfl (L.nil k0)) ?_
                      refine A.take 8 rfl (by kernel_rfl) (by kernel_rfl) (by kernel_rfl) rfl (Ca.pick) (fun Q0 k0 => L.pick hF rfl rfl rfl rfl (L.nil k0)) ?_
                      refine A.take 9 rfl (by kernel_rfl) (by kernel_rfl) (by kernel_rfl) rfl (Ca.move) (fun Q0 k0 => L.move hF rfl rfl rfl (L.nil k0)) ?_
                      refine A.le (τ := mkSt [(0, MG.one (Cell.sl g0 (List.map eTimpl_Pair v172))), (1, MG.one (cI v173)), (2, MG.one (cL v174)), (7, MG.one (cI v175)), (8, MG.one (Cell.ptr 0 0)), (26, MG.one (Cell.ptr 0 0)), (27, MG.one (cI b198.A)), (28, MG.one (cI v173)), (29, MG.one (cL (decide (b198.A ≥ v173)))), (31, MG.one (cL false))] [] [(0, [cI b198.A, cI b198.B])] 1) (Le.mk [(0, 0)] hm rfl ⟨⟨_, rfl, rfl⟩, ⟨_, rfl, rfl⟩, ⟨_, rfl, rfl⟩, ⟨_, rfl, rfl⟩, ⟨_, rfl, rfl⟩, ⟨_, rfl, rfl⟩, ⟨_, rfl, rfl⟩, ⟨_, rfl, rfl⟩, ⟨_, rfl, rfl⟩, ⟨_, rfl, congrArg (fun b => some (MG.one (cL b))) hc204⟩, trivial⟩ trivial ⟨⟨_, _, rfl, rfl, rfl⟩, trivial⟩) ?_
                      refine A.take 10 rfl (by kernel_rfl) (by kernel_rfl) (by kernel_rfl) rfl (Ca.fieldAddr Try.underlying256 rfl info3 rfl) (fun Q0 k0 => L.fieldAddr Try.underlying256 rfl info3 rfl hF rfl rfl rfl rfl rfl (L.nil k0)) ?_
                      refine A.all [11] (by kernel_rfl) rfl ⟨⟨_, rfl, ?_⟩, trivial⟩
                      refine L.loadPtr shape3 hF rfl rfl rfl rfl rfl rfl ?_
                      refine L.nil ?_
                      refine A.take 12 rfl (by kernel_rfl) (by kernel_rfl) (by kernel_rfl) rfl (Ca.bin rfl rfl (calm_int _ _ _ _ _ _ _ _)) (fun Q0 k0 => L.bin hF rfl rfl rfl rfl rfl rfl (L.nil k0)) ?_
                      refine A.take 13 rfl (by kernel_rfl) (by kernel_rfl) (by kernel_rfl) rfl (Ca.pick) (fun Q0 k0 => L.pick hF rfl rfl rfl rfl (L.nil k0)) ?_
                      refine A.take 14 rfl (by kernel_rfl) (by kernel_rfl) (by kernel_rfl) rfl (Ca.move) (fun Q0 k0 => L.move hF rfl rfl rfl (L.nil k0)) ?_
                      refine A.le (τ := mkSt [(0, MG.one (Cell.sl g0 (List.map eTimpl_Pair v172))), (1, MG.one (cI v173)), (2, MG.one (cL v174)), (7, MG.one (cI v175)), (8, MG.one (Cell.ptr 0 0)), (26, MG.one (Cell.ptr 0 0)), (27, MG.one (cI b198.A)), (28, MG.one (cI v173)), (29, MG.one (cL (decide (b198.A ≥ v173)))), (32, MG.one (Cell.ptr 0 1)), (33, MG.one (cI b198.B)), (34, MG.one (cL (decide (b198.B < (0 : Int))))), (36, MG.one (cL false))] [] [(0, [cI b198.A, cI b198.B])] 1) (Le.mk [(0, 0)] hm rfl ⟨⟨_, rfl, rfl⟩, ⟨_, rfl, rfl⟩, ⟨_, rfl, rfl⟩, ⟨_, rfl, rfl⟩, ⟨_, rfl, rfl⟩, ⟨_, rfl, rfl⟩, ⟨_, rfl, rfl⟩, ⟨_, rfl, rfl⟩, ⟨_, rfl, rfl⟩, ⟨_, rfl, rfl⟩, ⟨_, rfl, rfl⟩, ⟨_, rfl, rfl⟩, ⟨_, rfl, congrArg (fun b => some (MG.one (cL b))) hc205⟩, trivial⟩ trivial ⟨⟨_, _, rfl, rfl, rfl⟩, trivial⟩) ?_
                      refine A.take 15 rfl (by kernel_rfl) (by kernel_rfl) (by kernel_rfl) rfl (Ca.fieldAddr Try.underlying256 rfl info3 rfl) (fun Q0 k0 => L.fieldAddr Try.underlying256 rfl info3 rfl hF rfl rfl rfl rfl rfl (L.nil k0)) ?_
                      refine A.take 17 rfl (by kernel_rfl) (by kernel_rfl) (by kernel_rfl) rfl (Ca.move) (fun Q0 k0 => L.move hF rfl rfl rfl (L.nil k0)) ?_
                      refine A.all [16] (by kernel_rfl) rfl ⟨⟨_, rfl, ?_⟩, trivial⟩
                      refine L.loadPtr shape3 hF rfl rfl rfl rfl rfl rfl ?_
                      refine L.nil ?_
                      refine A.take 18 rfl (by kernel_rfl) (by kernel_rfl) (by kernel_rfl) rfl (Ca.bin rfl rfl (calm_int _ _ _ _ _ _ _ _)) (fun Q0 k0 => L.bin hF rfl rfl rfl rfl rfl rfl (L.nil k0)) ?_
                      refine A.take 19 rfl (by kernel_rfl) (by kernel_rfl) (by kernel_rfl) rfl (Ca.pick) (fun Q0 k0 => L.pick hF rfl rfl rfl rfl (L.nil k0)) ?_
                      refine A.take 20 rfl (by kernel_rfl) (by kernel_rfl) (by kernel_rfl) rfl (Ca.move) (fun Q0 k0 => L.move hF rfl rfl rfl (L.nil k0)) ?_
                      refine A.le (τ := mkSt [(0, MG.one (Cell.sl g0 (List.map eTimpl_Pair v172))), (1, MG.one (cI v173)), (2, MG.one (cL v174)), (7, MG.one (cI v175)), (8, MG.one (Cell.ptr 0 0)), (26, MG.one (Cell.ptr 0 0)), (27, MG.one (cI b198.A)), (28, MG.one (cI v173)), (29, MG.one (cL (decide (b198.A ≥ v173)))), (32, MG.one (Cell.ptr 0 1)), (33, MG.one (cI b198.B)), (34, MG.one (cL (decide (b198.B < (0 : Int))))), (37, MG.one (Cell.ptr 0 1)), (38, MG.one (cI b198.B)), (39, MG.one (cI v173)), (40, MG.one (cL (decide (b198.B ≥ v173)))), (42, MG.one (cL false))] [] [(0, [cI b198.A, cI b198.B])] 1) (Le.mk [(0, 0)] hm rfl ⟨⟨_, rfl, rfl⟩, ⟨_, rfl, rfl⟩, ⟨_, rfl, rfl⟩, ⟨_, rfl, rfl⟩, ⟨_, rfl, rfl⟩, ⟨_, rfl, rfl⟩, ⟨_, rfl, rfl⟩, ⟨_, rfl, rfl⟩, ⟨_, rfl, rfl⟩, ⟨_, rfl, rfl⟩, ⟨_, rfl, rfl⟩, ⟨_, rfl, rfl⟩, ⟨_, rfl, rfl⟩, ⟨_, rfl, rfl⟩, ⟨_, rfl, rfl⟩, ⟨_, rfl, rfl⟩, ⟨_, rfl, congrArg (fun b => some (MG.one (cL b))) hc206⟩, trivial⟩ trivial ⟨⟨_, _, rfl, rfl, rfl⟩, trivial⟩) ?_
                      refine A.take 21 rfl (by kernel_rfl) (by kernel_rfl) (by kernel_rfl) rfl (Ca.move) (fun Q0 k0 => L.move hF rfl rfl rfl (L.nil k0)) ?_
                      refine A.take 22 rfl (by kernel_rfl) (by kernel_rfl) (by kernel_rfl) rfl (Ca.move) (fun Q0 k0 => L.move hF rfl rfl rfl (L.nil k0)) ?_
                      refine A.le (τ := mkSt [(0, MG.one (Cell.sl g0 (List.map eTimpl_Pair v172))), (1, MG.one (cI v173)), (2, MG.one (cL v174)), (7, MG.one (cI v175)), (8, MG.one (Cell.ptr 0 0)), (26, MG.one (Cell.ptr 0 0)), (27, MG.one (cI b198.A)), (28, MG.one (cI v173)), (29, MG.one (cL (decide (b198.A ≥ v173)))), (32, MG.one (Cell.ptr 0 1)), (33, MG.one (cI b198.B)), (34, MG.one (cL (decide (b198.B < (0 : Int))))), (37, MG.one (Cell.ptr 0 1)), (38, MG.one (cI b198.B)), (39, MG.one (cI v173)), (40, MG.one (cL (decide (b198.B ≥ v173)))), (42, MG.one (cL false)), (43, MG.one (cL v174)), (44, MG.one (cL true))] [] [(0, [cI b198.A, cI b198.B])] 1) (Le.mk [(0, 0)] hm rfl ⟨⟨_, rfl, rfl⟩, ⟨_, rfl, rfl⟩, ⟨_, rfl, rfl⟩, ⟨_, rfl, rfl⟩, ⟨_, rfl, rfl⟩, ⟨_, rfl, rfl⟩, ⟨_, rfl, rfl⟩, ⟨_, rfl, rfl⟩, ⟨_, rfl, rfl⟩, ⟨_, rfl, rfl⟩, ⟨_, rfl, rfl⟩, ⟨_, rfl, rfl⟩, ⟨_, rfl, rfl⟩, ⟨_, rfl, rfl⟩, ⟨_, rfl, rfl⟩, ⟨_, rfl, rfl⟩, ⟨_, rfl, rfl⟩, ⟨_, rfl, rfl⟩, ⟨_, rfl, congrArg (fun b => some (MG.one (cL b))) hc207⟩, trivial⟩ trivial ⟨⟨_, _, rfl, rfl, rfl⟩, trivial⟩) ?_
                      refine A.take 23 rfl (by kernel_rfl) (by kernel_rfl) (by kernel_rfl) rfl (Ca.fieldAddr Try.underlying256 rfl info3 rfl) (fun Q0 k0 => L.fieldAddr Try.underlying256 rfl info3 rfl hF rfl rfl rfl rfl rfl (L.nil k0)) ?_
                      refine A.take 25 rfl (by kernel_rfl) (by kernel_rfl) (by kernel_rfl) rfl (Ca.fieldAddr Try.underlying256 rfl info3 rfl) (fun Q0 k0 => L.fieldAddr Try.underlying256 rfl info3 rfl hF rfl rfl rfl rfl rfl (L.nil k0)) ?_
                      refine A.all [24, 26] (by kernel_rfl) rfl ⟨⟨_, rfl, ?_⟩, ⟨_, rfl, ?_⟩, trivial⟩
                      · refine L.loadPtr shape3 hF rfl rfl rfl rfl rfl rfl ?_
                        refine L.nil ?_
                        refine A.all [26] (by kernel_rfl) rfl ⟨⟨_, rfl, ?_⟩, trivial⟩
                        refine L.loadPtr shape3 hF rfl rfl rfl rfl rfl rfl ?_
                        refine L.nil ?_
                        exact A.on (hO _ _ _ n134217727) (Le.mk [(0, 0)] hm rfl ⟨⟨_, rfl, rfl⟩, ⟨_, rfl, rfl⟩, ⟨_, rfl, rfl⟩, ⟨_, rfl, rfl⟩, ⟨_, rfl, rfl⟩, ⟨_, rfl, rfl⟩, ⟨_, rfl, rfl⟩, ⟨_, rfl, rfl⟩, ⟨_, rfl, rfl⟩, ⟨_, rfl, rfl⟩, ⟨_, rfl, rfl⟩, ⟨_, rfl, rfl⟩, ⟨_, rfl, rfl⟩, ⟨_, rfl, rfl⟩, ⟨_, rfl, rfl⟩, ⟨_, rfl, rfl⟩, ⟨_, rfl, rfl⟩, ⟨_, rfl, rfl⟩, ⟨_, rfl, rfl⟩, ⟨_, rfl, rfl⟩, ⟨_, rfl, rfl⟩, ⟨_, rfl, rfl⟩, ⟨_, rfl, rfl⟩, trivial⟩ trivial ⟨⟨_, _, rfl, rfl, rfl⟩, trivial⟩)
                      · refine L.loadPtr shape3 hF rfl rfl rfl rfl rfl rfl ?_
                        refine L.nil ?_
                        refine A.all [24] (by kernel_rfl) rfl ⟨⟨_, rfl, ?_⟩, trivial⟩
                        refine L.loadPtr shape3 hF rfl rfl rfl rfl rfl rfl ?_
                        refine L.nil ?_
                        exact A.on (hO _ _ _ n134217727) (Le.mk [(0, 0)] hm rfl ⟨⟨_, rfl, rfl⟩, ⟨_, rfl, rfl⟩, ⟨_, rfl, rfl⟩, ⟨_, rfl, rfl⟩, ⟨_, rfl, rfl⟩, ⟨_, rfl, rfl⟩, ⟨_, rfl, rfl⟩, ⟨_, rfl, rfl⟩, ⟨_, rfl, rfl⟩, ⟨_, rfl, rfl⟩, ⟨_, rfl, rfl⟩, ⟨_, rfl, rfl⟩, ⟨_, rfl, rfl⟩, ⟨_, rfl, rfl⟩, ⟨_, rfl, rfl⟩, ⟨_, rfl, rfl⟩, ⟨_, rfl, rfl⟩, ⟨_, rfl, rfl⟩, ⟨_, rfl, rfl⟩, ⟨_, rfl, rfl⟩, ⟨_, rfl, rfl⟩, ⟨_, rfl, rfl⟩, ⟨_, rfl, rfl⟩, trivial⟩ trivial ⟨⟨_, _, rfl, rfl, rfl⟩, trivial⟩)
                    · replace H := condF hc208 H
                      obtain ⟨b209, hb209, H⟩ := bindS H
                      obtain ⟨r210, hr210, H⟩ := bindS H
                      refine A.begin mixed rfl rfl ?_
                      intro W hI hO
                      have n134217727 : W 10 #[true, true, true, true, true, true, true, true, true, true, true, true, true, true, true, true, true, true, true, true, true, true, true, true, true, true, true, false, false, false, false, false, false, false, false, false, false] (mkSt [(0, MG.one (Cell.sl g0 (List.map eTimpl_Pair v172))), (1, MG.one (cI v173)), (2, MG.one (cL v174)), (7, MG.one (cI v175)), (8, MG.one (Cell.ptr 0 0)), (26, MG.one (Cell.ptr 0 0)), (27, MG.one (cI b198.A)), (28, MG.one (cI v173)), (29, MG.one (cL (decide (b198.A ≥ v173)))), (32, MG.one (Cell.ptr 0 1)), (33, MG.one (cI b198.B)), (34, MG.one (cL (decide (b198.B < (0 : Int))))), (37, MG.one (Cell.ptr 0 1)), (38, MG.one (cI b198.B)), (39, MG.one (cI v173)), (40, MG.one (cL (decide (b198.B ≥ v173)))), (42, MG.one (cL false)), (43, MG.one (cL v174)), (44, MG.one (cL true)), (45, MG.one (Cell.ptr 0 0)), (46, MG.one (cI b198.A)), (47, MG.one (Cell.ptr 0 1)), (48, MG.one (cI b198.B))] [] [(0, [cI b198.A, cI b198.B])] 1) := by
                        refine hI _ _ _ ?_
                        refine A.take 27 rfl (by kernel_rfl) (by kernel_rfl) (by kernel_rfl) rfl (Ca.bin rfl rfl (calm_int _ _ _ _ _ _ _ _)) (fun Q0 k0 => L.bin hF rfl rfl rfl rfl rfl rfl (L.nil k0)) ?_
                        refine A.take 28 rfl (by kernel_rfl) (by kernel_rfl) (by kernel_rfl) rfl (Ca.pick) (fun Q0 k0 => L.pick hF rfl rfl rfl rfl (L.nil k0)) ?_
                        refine A.take 29 rfl (by kernel_rfl) (by kernel_rfl) (by kernel_rfl) rfl (Ca.pick) (fun Q0 k0 => L.pick hF rfl rfl rfl rfl (L.nil k0)) ?_
                        refine A.take 30 rfl (by kernel_rfl) (by kernel_rfl) (by kernel_rfl) rfl (Ca.move) (fun Q0 k0 => L.move hF rfl rfl rfl (L.nil k0)) ?_
                        refine A.le (τ := mkSt [(0, MG.one (Cell.sl g0 (List.map eTimpl_Pair v172))), (1, MG.one (cI v173)), (2, MG.one (cL v174)), (7, MG.one (cI v175)), (8, MG.one (Cell.ptr 0 0)), (26, MG.one (Cell.ptr 0 0)), (27, MG.one (cI b198.A)), (28, MG.one (cI v173)), (29, MG.one (cL (decide (b198.A ≥ v173)))), (32, MG.one (Cell.ptr 0 1)), (33, MG.one (cI b198.B)), (34, MG.one (cL (decide (b198.B < (0 : Int))))), (37, MG.one (Cell.ptr 0 1)), (38, MG.one (cI b198.B)), (39, MG.one (cI v173)), (40, MG.one (cL (decide (b198.B ≥ v173)))), (43, MG.one (cL v174)), (44, MG.one (cL true)), (45, MG.one (Cell.ptr 0 0)), (46, MG.one (cI b198.A)), (47, MG.one (Cell.ptr 0 1)), (48, MG.one (cI b198.B)), (49, MG.one (cL (b198.A == b198.B))), (50, MG.one (cL (b198.A == b198.B))), (52, MG.one (cL false))] [] [(0, [cI b198.A, cI b198.B])] 1) (Le.mk [(0, 0)] hm rfl ⟨⟨_, rfl, rfl⟩, ⟨_, rfl, rfl⟩, ⟨_, rfl, rfl⟩, ⟨_, rfl, rfl⟩, ⟨_, rfl, rfl⟩, ⟨_, rfl, rfl⟩, ⟨_, rfl, rfl⟩, ⟨_, rfl, rfl⟩, ⟨_, rfl, rfl⟩, ⟨_, rfl, rfl⟩, ⟨_, rfl, rfl⟩, ⟨_, rfl, rfl⟩, ⟨_, rfl, rfl⟩, ⟨_, rfl, rfl⟩, ⟨_, rfl, rfl⟩, ⟨_, rfl, rfl⟩, ⟨_, rfl, rfl⟩, ⟨_, rfl, rfl⟩, ⟨_, rfl, rfl⟩, ⟨_, rfl, rfl⟩, ⟨_, rfl, rfl⟩, ⟨_, rfl, rfl⟩, ⟨_, rfl, rfl⟩, ⟨_, rfl, rfl⟩, ⟨_, rfl, congrArg (fun b => some (MG.one (cL b))) hc208⟩, trivial⟩ trivial ⟨⟨_, _, rfl, rfl, rfl⟩, trivial⟩) ?_
                        refine A.take 31 rfl (by kernel_rfl) (by kernel_rfl) (by kernel_rfl) rfl (Ca.move) (fun Q0 k0 => L.move hF rfl rfl rfl (L.nil k0)) ?_
                        refine A.take 32 rfl (by kernel_rfl) (by kernel_rfl) (by kernel_rfl) rfl (Ca.move) (fun Q0 k0 => L.move hF rfl rfl rfl (L.nil k0)) ?_
                        refine A.take 33 rfl (by kernel_rfl) (by kernel_rfl) (by kernel_rfl) rfl (Ca.slice) (fun Q0 k0 => L.cutR (xs := v172) (ys := b209) (e := eTimpl_Pair) Try.underlying88 info256 hF rfl rfl rfl rfl rfl hb209 (fun _ => rfl) (L.nil k0)) ?_
                        refine A.all [34] (by kernel_rfl) rfl ⟨⟨_, rfl, ?_⟩, trivial⟩
                        refine L.loadPtr shape256 hF rfl rfl rfl rfl rfl rfl ?_
                        refine L.nil ?_
                        refine A.all [35] (by kernel_rfl) rfl ⟨⟨_, rfl, ?_⟩, trivial⟩
                        refine L.call [false, false] [] [] 1 hF rfl rfl rfl ent244 rfl rfl rfl rfl rfl (Fspec_l6Has_gives k7 g0 b209 b198 r210 hr210) rfl ?_
                        refine L.nil ?_
                        refine A.take 36 rfl (by kernel_rfl) (by kernel_rfl) (by kernel_rfl) rfl (Ca.pick) (fun Q0 k0 => L.pick hF rfl rfl rfl rfl (L.nil k0)) ?_
                        refine A.le (τ := mkSt [(0, MG.one (Cell.sl g0 (List.map eTimpl_Pair v172))), (1, MG.one (cI v173)), (2, MG.one (cL v174)), (7, MG.one (cI v175)), (26, MG.one (Cell.ptr 0 0)), (27, MG.one (cI b198.A)), (28, MG.one (cI v173)), (29, MG.one (cL (decide (b198.A ≥ v173)))), (32, MG.one (Cell.ptr 0 1)), (33, MG.one (cI b198.B)), (34, MG.one (cL (decide (b198.B < (0 : Int))))), (37, MG.one (Cell.ptr 0 1)), (38, MG.one (cI b198.B)), (39, MG.one (cI v173)), (40, MG.one (cL (decide (b198.B ≥ v173)))), (43, MG.one (cL v174)), (44, MG.one (cL true)), (45, MG.one (Cell.ptr 0 0)), (46, MG.one (cI b198.A)), (47, MG.one (Cell.ptr 0 1)), (48, MG.one (cI b198.B)), (49, MG.one (cL (b198.A == b198.B))), (50, MG.one (cL (b198.A == b198.B))), (53, MG.one (Cell.sl g0 (List.map eTimpl_Pair v172))), (54, MG.one (cI v175)), (55, MG.one (Cell.sl g0 (List.map eTimpl_Pair b209))), (56, agg [cI b198.A, cI b198.B]), (57, MG.one (cL r210)), (58, MG.one (cL r210))] [] [(0, [cI b198.A, cI b198.B])] 1) (Le.mk [(0, 0)] hm rfl ⟨⟨_, rfl, rfl⟩, ⟨_, rfl, rfl⟩, ⟨_, rfl, rfl⟩, ⟨_, rfl, rfl⟩, ⟨_, rfl, rfl⟩, ⟨_, rfl, rfl⟩, ⟨_, rfl, rfl⟩, ⟨_, rfl, rfl⟩, ⟨_, rfl, rfl⟩, ⟨_, rfl, rfl⟩, ⟨_, rfl, rfl⟩, ⟨_, rfl, rfl⟩, ⟨_, rfl, rfl⟩, ⟨_, rfl, rfl⟩, ⟨_, rfl, rfl⟩, ⟨_, rfl, rfl⟩, ⟨_, rfl, rfl⟩, ⟨_, rfl, rfl⟩, ⟨_, rfl, rfl⟩, ⟨_, rfl, rfl⟩, ⟨_, rfl, rfl⟩, ⟨_, rfl, rfl⟩, ⟨_, rfl, rfl⟩, ⟨_, rfl, rfl⟩, ⟨_, rfl, rfl⟩, ⟨_, rfl, rfl⟩, ⟨_, rfl, rfl⟩, ⟨_, rfl, rfl⟩, ⟨_, rfl, rfl⟩, trivial⟩ trivial ⟨⟨_, _, rfl, rfl, rfl⟩, trivial⟩) ?_
                        refine A.done (by kernel_rfl) ?_
                        refine WpC.cond rfl (fun hc => ?_) (fun hc => ?_)
                        · replace H := condT hc H
                          refine WpC.seq ?_
                          refine WpC.regionL ?_
                          refine L.assign hF rfl rfl rfl ?_
                          refine L.nil ?_
                          refine WpC.ret ?_
                          cases H
                          exact Leaves.ret rfl rfl rfl ⟨rfl, rfl⟩
                        · replace H := condF hc H
                          refine WpC.skip ?_
                          exact ⟨_, ⟨k7, v172, v173, v174, v175, b198.A, (decide (b198.A ≥ v173)), b198.B, (decide (b198.B < (0 : Int))), (decide (b198.B ≥ v173)), true, (b198.A == b198.B), b209, r210, by omega, H, rfl⟩, Le.mk [(0, 0)] hm rfl ⟨⟨_, rfl, rfl⟩, ⟨_, rfl, rfl⟩, ⟨_, rfl, rfl⟩, ⟨_, rfl, rfl⟩, ⟨_, rfl, rfl⟩, ⟨_, rfl, rfl⟩, ⟨_, rfl, rfl⟩, ⟨_, rfl, rfl⟩, ⟨_, rfl, rfl⟩, ⟨_, rfl, rfl⟩, ⟨_, rfl, rfl⟩, ⟨_, rfl, rfl⟩, ⟨_, rfl, rfl⟩, ⟨_, rfl, rfl⟩, ⟨_, rfl, rfl⟩, ⟨_, rfl, rfl⟩, ⟨_, rfl, rfl⟩, ⟨_, rfl, rfl⟩, ⟨_, rfl, rfl⟩, ⟨_, rfl, rfl⟩, ⟨_, rfl, rfl⟩, ⟨_, rfl, rfl⟩, ⟨_, rfl, rfl⟩, trivial⟩ trivial ⟨⟨_, _, rfl, rfl, rfl⟩, trivial⟩⟩
                      refine hI _ _ _ ?_
                      refine A.take 0 rfl (by kernel_rfl) (by kernel_rfl) (by kernel_rfl) rfl (Ca.fieldAddr Try.underlying256 rfl info3 rfl) (fun Q0 k0 => L.fieldAddr Try.underlying256 rfl info3 rfl hF rfl rfl rfl rfl rfl (L.nil k0)) ?_
                      refine A.all [1] (by kernel_rfl) rfl ⟨⟨_, rfl, ?_⟩, trivial⟩
                      refine L.loadPtr shape3 hF rfl rfl rfl rfl rfl rfl ?_
                      refine L.nil ?_
                      refine A.take 2 rfl (by kernel_rfl) (by kernel_rfl) (by kernel_rfl) rfl (Ca.bin rfl rfl (calm_int _ _ _ _ _ _ _ _)) (fun Q0 k0 => L.bin hF rfl rfl rfl rfl rfl rfl (L.nil k0)) ?_
                      refine A.take 3 rfl (by kernel_rfl) (by kernel_rfl) (by kernel_rfl) rfl (Ca.move) (fun Q0 k0 => L.move hF rfl rfl rfl (L.nil k0)) ?_
                      refine A.le (τ := mkSt [(0, MG.one (Cell.sl g0 (List.map eTimpl_Pair v172))), (1, MG.one (cI v173)), (2, MG.one (cL v174)), (7, MG.one (cI v175)), (8, MG.one (Cell.ptr 0 0)), (25, MG.one (cL false))] [] [(0, [cI b198.A, cI b198.B])] 1) (Le.mk [(0, 0)] hm rfl ⟨⟨_, rfl, rfl⟩, ⟨_, rfl, rfl⟩, ⟨_, rfl, rfl⟩, ⟨_, rfl, rfl⟩, ⟨_, rfl, rfl⟩, ⟨_, rfl, congrArg (fun b => some (MG.one (cL b))) hc203⟩, trivial⟩ trivial ⟨⟨_, _, rfl, rfl, rfl⟩, trivial⟩) ?_
                      refine A.take 4 rfl (by kernel_rfl) (by kernel_rfl) (by kernel_rfl) rfl (Ca.fieldAddr Try.underlying256 rfl info3 rfl) (fun Q0 k0 => L.fieldAddr Try.underlying256 rfl info3 rfl hF rfl rfl rfl rfl rfl (L.nil k0)) ?_
                      refine A.take 6 rfl (by kernel_rfl) (by kernel_rfl) (by kernel_rfl) rfl (Ca.move) (fun Q0 k0 => L.move hF rfl rfl rfl (L.nil k0)) ?_
                      refine A.all [5] (by kernel_rfl) rfl ⟨⟨_, rfl, ?_⟩, trivial⟩
                      refine L.loadPtr shape3 hF rfl rfl rfl rfl rfl rfl ?_
                      refine L.nil ?_
                      refine A.take 7 rfl (by kernel_rfl) (by kernel_rfl) (by kernel_rfl) rfl (Ca.bin rfl rfl (calm_int _ _ _ _ _ _ _ _)) (fun Q0 k0 => L.bin hF rfl rfl rfl rfl rfl rfl (L.nil k0)) ?_
                      refine A.take 8 rfl (by kernel_rfl) (by kernel_rfl) (by kernel_rfl) rfl (Ca.pick) (fun Q0 k0 => L.pick hF rfl rfl rfl rfl (L.nil k0)) ?_
                      refine A.take 9 rfl (by kernel_rfl) (by kernel_rfl) (by kernel_rfl) rfl (Ca.move) (fun Q0 k0 => L.move hF rfl rfl rfl (L.nil k0)) ?_
                      refine A.le (τ := mkSt [(0, MG.one (Cell.sl g0 (List.map eTimpl_Pair v172))), (1, MG.one (cI v173)), (2, MG.one (cL v174)), (7, MG.one (cI v175)), (8, MG.one (Cell.ptr 0 0)), (26, MG.one (Cell.ptr 0 0)), (27, MG.one (cI b198.A)), (28, MG.one (cI v173)), (29, MG.one (cL (decide (b198.A ≥ v173)))), (31, MG.one (cL false))] [] [(0, [cI b198.A, cI b198.B])] 1) (Le.mk [(0, 0)] hm rfl ⟨⟨_, rfl, rfl⟩, ⟨_, rfl, rfl⟩, ⟨_, rfl, rfl⟩, ⟨_, rfl, rfl⟩, ⟨_, rfl, rfl⟩, ⟨_, rfl, rfl⟩, ⟨_, rfl, rfl⟩, ⟨_, rfl, rfl⟩, ⟨_, rfl, rfl⟩, ⟨_, rfl, congrArg (fun b => some (MG.one (cL b))) hc204⟩, trivial⟩ trivial ⟨⟨_, _, rfl, rfl, rfl⟩, trivial⟩) ?_
                      refine A.take 10 rfl (by kernel_rfl) (by kernel_rfl) (by kernel_rfl) rfl (Ca.fieldAddr Try.underlying256 rfl info3 rfl) (fun Q0 k0 => L.fieldAddr Try.underlying256 rfl info3 rfl hF rfl rfl rfl rfl rfl (L.nil k0)) ?_
                      refine A.all [11] (by kernel_rfl) rfl ⟨⟨_, rfl, ?_⟩, trivial⟩
                      refine L.loadPtr shape3 hF rfl rfl rfl rfl rfl rfl ?_
                      refine L.nil ?_
                      refine A.take 12 rfl (by kernel_rfl) (by kernel_rfl) (by kernel_rfl) rfl (Ca.bin rfl rfl (calm_int _ _ _ _ _ _ _ _)) (fun Q0 k0 => L.bin hF rfl rfl rfl rfl rfl rfl (L.nil k0)) ?_
                      refine A.take 13 rfl (by kernel_rfl) (by kernel_rfl) (by kernel_rfl) rfl (Ca.pick) (fun Q0 k0 => L.pick hF rfl rfl rfl rfl (L.nil k0)) ?_
                      refine A.take 14 rfl (by kernel_rfl) (by kernel_rfl) (by kernel_rfl) rfl (Ca.move) (fun Q0 k0 => L.move hF rfl rfl rfl (L.nil k0)) ?_
                      refine A.le (τ := mkSt [(0, MG.one (Cell.sl g0 (List.map eTimpl_Pair v172))), (1, MG.one (cI v173)), (2, MG.one (cL v174)), (7, MG.one (cI v175)), (8, MG.one (Cell.ptr 0 0)), (26, MG.one (Cell.ptr 0 0)), (27, MG.one (cI b198.A)), (28, MG.one (cI v173)), (29, MG.one (cL (decide (b198.A ≥ v173)))), (32, MG.one (Cell.ptr 0 1)), (33, MG.one (cI b198.B)), (34, MG.one (cL (decide (b198.B < (0 : Int))))), (36, MG.one (cL false))] [] [(0, [cI b198.A, cI b198.B])] 1) (Le.mk [(0, 0)] hm rfl ⟨⟨_, rfl, rfl⟩, ⟨_, rfl, rfl⟩, ⟨_, rfl, rfl⟩, ⟨_, rfl, rfl⟩, ⟨_, rfl, rfl⟩, ⟨_, rfl, rfl⟩, ⟨_, rfl, rfl⟩, ⟨_, rfl, rfl⟩, ⟨_, rfl, rfl⟩, ⟨_, rfl, rfl⟩, ⟨_, rfl, rfl⟩, ⟨_, rfl, rfl⟩, ⟨_, rfl, congrArg (fun b => some (MG.one (cL b))) hc205⟩, trivial⟩ trivial ⟨⟨_, _, rfl, rfl, rfl⟩, trivial⟩) ?_
                      refine A.take 15 rfl (by kernel_rfl) (by kernel_rfl) (by kernel_rfl) rfl (Ca.fieldAddr Try.underlying256 rfl info3 rfl) (fun Q0 k0 => L.fieldAddr Try.underlying256 rfl info3 rfl hF rfl rfl rfl rfl rfl (L.nil k0)) ?_
                      refine A.take 17 rfl (by kernel_rfl) (by kernel_rfl) (by kernel_rfl) rfl (Ca.move) (fun Q0 k0 => L.move hF rfl rfl rfl (L.nil k0)) ?_
                      refine A.all [16] (by kernel_rfl) rfl ⟨⟨_, rfl, ?_⟩, trivial⟩
                      refine L.loadPtr shape3 hF rfl rfl rfl rfl rfl rfl ?_
                      refine L.nil ?_
                      refine A.take 18 rfl (by kernel_rfl) (by kernel_rfl) (by kernel_rfl) rfl (Ca.bin rfl rfl (calm_int _ _ _ _ _ _ _ _)) (fun Q0 k0 => L.bin hF rfl rfl rfl rfl rfl rfl (L.nil k0)) ?_
                      refine A.take 19 rfl (by kernel_rfl) (by kernel_rfl) (by kernel_rfl) rfl (Ca.pick) (fun Q0 k0 => L.pick hF rfl rfl rfl rfl (L.nil k0)) ?_
                      refine A.take 20 rfl (by kernel_rfl) (by kernel_rfl) (by kernel_rfl) rfl (Ca.move) (fun Q0 k0 => L.move hF rfl rfl rfl (L.nil k0)) ?_
                      refine A.le (τ := mkSt [(0, MG.one (Cell.sl g0 (List.map eTimpl_Pair v172))), (1, MG.one (cI v173)), (2, MG.one (cL v174)), (7, MG.one (cI v175)), (8, MG.one (Cell.ptr 0 0)), (26, MG.one (Cell.ptr 0 0)), (27, MG.one (cI b198.A)), (28, MG.one (cI v173)), (29, MG.one (cL (decide (b198.A ≥ v173)))), (32, MG.one (Cell.ptr 0 1)), (33, MG.one (cI b198.B)), (34, MG.one (cL (decide (b198.B < (0 : Int))))), (37, MG.one (Cell.ptr 0 1)), (38, MG.one (cI b198.B)), (39, MG.one (cI v173)), (40, MG.one (cL (decide (b198.B ≥ v173)))), (42, MG.one (cL false))] [] [(0, [cI b198.A, cI b198.B])] 1) (Le.mk [(0, 0)] hm rfl ⟨⟨_, rfl, rfl⟩, ⟨_, rfl, rfl⟩, ⟨_, rfl, rfl⟩, ⟨_, rfl, rfl⟩, ⟨_, rfl, rfl⟩, ⟨_, rfl, rfl⟩, ⟨_, rfl, rfl⟩, ⟨_, rfl, rfl⟩, ⟨_, rfl, rfl⟩, ⟨_, rfl, rfl⟩, ⟨_, rfl, rfl⟩, ⟨_, rfl, rfl⟩, ⟨_, rfl, rfl⟩, ⟨_, rfl, rfl⟩, ⟨_, rfl, rfl⟩, ⟨_, rfl, rfl⟩, ⟨_, rfl, congrArg (fun b => some (MG.one (cL b))) hc206⟩, trivial⟩ trivial ⟨⟨_, _, rfl, rfl, rfl⟩, trivial⟩) ?_
                      refine A.take 21 rfl (by kernel_rfl) (by kernel_rfl) (by kernel_rfl) rfl (Ca.move) (fun Q0 k0 => L.move hF rfl rfl rfl (L.nil k0)) ?_
                      refine A.take 22 rfl (by kernel_rfl) (by kernel_rfl) (by kernel_rfl) rfl (Ca.move) (fun Q0 k0 => L.move hF rfl rfl rfl (L.nil k0)) ?_
                      refine A.le (τ := mkSt [(0, MG.one (Cell.sl g0 (List.map eTimpl_Pair v172))), (1, MG.one (cI v173)), (2, MG.one (cL v174)), (7, MG.one (cI v175)), (8, MG.one (Cell.ptr 0 0)), (26, MG.one (Cell.ptr 0 0)), (27, MG.one (cI b198.A)), (28, MG.one (cI v173)), (29, MG.one (cL (decide (b198.A ≥ v173)))), (32, MG.one (Cell.ptr 0 1)), (33, MG.one (cI b198.B)), (34, MG.one (cL (decide (b198.B < (0 : Int))))), (37, MG.one (Cell.ptr 0 1)), (38, MG.one (cI b198.B)), (39, MG.one (cI v173)), (40, MG.one (cL (decide (b198.B ≥ v173)))), (42, MG.one (cL false)), (43, MG.one (cL v174)), (44, MG.one (cL true))] [] [(0, [cI b198.A, cI b198.B])] 1) (Le.mk [(0, 0)] hm rfl ⟨⟨_, rfl, rfl⟩, ⟨_, rfl, rfl⟩, ⟨_, rfl, rfl⟩, ⟨_, rfl, rfl⟩, ⟨_, rfl, rfl⟩, ⟨_, rfl, rfl⟩, ⟨_, rfl, rfl⟩, ⟨_, rfl, rfl⟩, ⟨_, rfl, rfl⟩, ⟨_, rfl, rfl⟩, ⟨_, rfl, rfl⟩, ⟨_, rfl, rfl⟩, ⟨_, rfl, rfl⟩, ⟨_, rfl, rfl⟩, ⟨_, rfl, rfl⟩, ⟨_, rfl, rfl⟩, ⟨_, rfl, rfl⟩, ⟨_, rfl, rfl⟩, ⟨_, rfl, congrArg (fun b => some (MG.one (cL b))) hc207⟩, trivial⟩ trivial ⟨⟨_, _, rfl, rfl, rfl⟩, trivial⟩) ?_
                      refine A.take 23 rfl (by kernel_rfl) (by kernel_rfl) (by kernel_rfl) rfl (Ca.fieldAddr Try.underlying256 rfl info3 rfl) (fun Q0 k0 => L.fieldAddr Try.underlying256 rfl info3 rfl hF rfl rfl rfl rfl rfl (L.nil k0)) ?_
                      refine A.take 25 rfl (by kernel_rfl) (by kernel_rfl) (by kernel_rfl) rfl (Ca.fieldAddr Try.underlying256 rfl info3 rfl) (fun Q0 k0 => L.fieldAddr Try.underlying256 rfl info3 rfl hF rfl rfl rfl rfl rfl (L.nil k0)) ?_
                      refine A.all [24, 26] (by kernel_rfl) rfl ⟨⟨_, rfl, ?_⟩, ⟨_, rfl, ?_⟩, trivial⟩
                      · refine L.loadPtr shape3 hF rfl rfl rfl rfl rfl rfl ?_
                        refine L.nil ?_
                        refine A.all [26] (by kernel_rfl) rfl ⟨⟨_, rfl, ?_⟩, trivial⟩
                        refine L.loadPtr shape3 hF rfl rfl rfl rfl rfl rfl ?_
                        refine L.nil ?_
                        exact A.on (hO _ _ _ n134217727) (Le.mk [(0, 0)] hm rfl ⟨⟨_, rfl, rfl⟩, ⟨_, rfl, rfl⟩, ⟨_, rfl, rfl⟩, ⟨_, rfl, rfl⟩, ⟨_, rfl, rfl⟩, ⟨_, rfl, rfl⟩, ⟨_, rfl, rfl⟩, ⟨_, rfl, rfl⟩, ⟨_, rfl, rfl⟩, ⟨_, rfl, rfl⟩, ⟨_, rfl, rfl⟩, ⟨_, rfl, rfl⟩, ⟨_, rfl, rfl⟩, ⟨_, rfl, rfl⟩, ⟨_, rfl, rfl⟩, ⟨_, rfl, rfl⟩, ⟨_, rfl, rfl⟩, ⟨_, rfl, rfl⟩, ⟨_, rfl, rfl⟩, ⟨_, rfl, rfl⟩, ⟨_, rfl, rfl⟩, ⟨_, rfl, rfl⟩, ⟨_, rfl, rfl⟩, trivial⟩ trivial ⟨⟨_, _, rfl, rfl, rfl⟩, trivial⟩)
                      · refine L.loadPtr shape3 hF rfl rfl rfl rfl rfl rfl ?_
                        refine L.nil ?_
                        refine A.all [24] (by kernel_rfl) rfl ⟨⟨_, rfl, ?_⟩, trivial⟩
                        refine L.loadPtr shape3 hF rfl rfl rfl rfl rfl rfl ?_
                        refine L.nil ?_
                        exact A.on (hO _ _ _ n134217727) (Le.mk [(0, 0)] hm rfl ⟨⟨_, rfl, rfl⟩, ⟨_, rfl, rfl⟩, ⟨_, rfl, rfl⟩, ⟨_, rfl, rfl⟩, ⟨_, rfl, rfl⟩, ⟨_, rfl, rfl⟩, ⟨_, rfl, rfl⟩, ⟨_, rfl, rfl⟩, ⟨_, rfl, rfl⟩, ⟨_, rfl, rfl⟩, ⟨_, rfl, rfl⟩, ⟨_, rfl, rfl⟩, ⟨_, rfl, rfl⟩, ⟨_, rfl, rfl⟩, ⟨_, rfl, rfl⟩, ⟨_, rfl, rfl⟩, ⟨_, rfl, rfl⟩, ⟨_, rfl, rfl⟩, ⟨_, rfl, rfl⟩, ⟨_, rfl, rfl⟩, ⟨_, rfl, rfl⟩, ⟨_, rfl, rfl⟩, ⟨_, rfl, rfl⟩, trivial⟩ trivial ⟨⟨_, _, rfl, rfl, rfl⟩, trivial⟩)
                  · replace H := condF hc207 H
                    obtain ⟨b211, hb211, H⟩ := bindS H
                    obtain ⟨r212, hr212, H⟩ := bindS H
                    refine A.begin mixed rfl rfl ?_
                    intro W hI hO
                    refine hI _ _ _ ?_
                    refine A.take 0 rfl (by kernel_rfl) (by kernel_rfl) (by kernel_rfl) rfl (Ca.fieldAddr Try.underlying256 rfl info3 rfl) (fun Q0 k0 => L.fieldAddr Try.underlying256 rfl info3 rfl hF rfl rfl rfl rfl rfl (L.nil k0)) ?_
                    refine A.all [1] (by kernel_rfl) rfl ⟨⟨_, rfl, ?_⟩, trivial⟩
                    refine L.loadPtr shape3 hF rfl rfl rfl rfl rfl rfl ?_
                    refine L.nil ?_
                    refine A.take 2 rfl (by kernel_rfl) (by kernel_rfl) (by kernel_rfl) rfl (Ca.bin rfl rfl (calm_int _ _ _ _ _ _ _ _)) (fun Q0 k0 => L.bin hF rfl rfl rfl rfl rfl rfl (L.nil k0)) ?_
                    refine A.take 3 rfl (by kernel_rfl) (by kernel_rfl) (by kernel_rfl) rfl (Ca.move) (fun Q0 k0 => L.move hF rfl rfl rfl (L.nil k0)) ?_
                    refine A.le (τ := mkSt [(0, MG.one (Cell.sl g0 (List.map eTimpl_Pair v172))), (1, MG.one (cI v173)), (2, MG.one (cL v174)), (7, MG.one (cI v175)), (8, MG.one (Cell.ptr 0 0)), (25, MG.one (cL false))] [] [(0, [cI b198.A, cI b198.B])] 1) (Le.mk [(0, 0)] hm rfl ⟨⟨_, rfl, rfl⟩, ⟨_, rfl, rfl⟩, ⟨_, rfl, rfl⟩, ⟨_, rfl, rfl⟩, ⟨_, rfl, rfl⟩, ⟨_, rfl, congrArg (fun b => some (MG.one (cL b))) hc203⟩, trivial⟩ trivial ⟨⟨_, _, rfl, rfl, rfl⟩, trivial⟩) ?_
                    refine A.take 4 rfl (by kernel_rfl) (by kernel_rfl) (by kernel_rfl) rfl (Ca.fieldAddr Try.underlying256 rfl info3 rfl) (fun Q0 k0 => L.fieldAddr Try.underlying256 rfl info3 rfl hF rfl rfl rfl rfl rfl (L.nil k0)) ?_
                    refine A.take 6 rfl (by kernel_rfl) (by kernel_rfl) (by kernel_rfl) rfl (Ca.move) (fun Q0 k0 => L.move hF rfl rfl rfl (L.nil k0)) ?_
                    refine A.all [5] (by kernel_rfl) rfl ⟨⟨_, rfl, ?_⟩, trivial⟩
                    refine L.loadPtr shape3 hF rfl rfl rfl rfl rfl rfl ?_
                    refine L.nil ?_
                    refine A.take 7 rfl (by kernel_rfl) (by kernel_rfl) (by kernel_rfl) rfl (Ca.bin rfl rfl (calm_int _ _ _ _ _ _ _ _)) (fun Q0 k0 => L.bin hF rfl rfl rfl rfl rfl rfl (L.nil k0)) ?_
                    refine A.take 8 rfl (by kernel_rfl) (by kernel_rfl) (by kernel_rfl) rfl (Ca.pick) (fun Q0 k0 => L.pick hF rfl rfl rfl rfl (L.nil k0)) ?_
                    refine A.take 9 rfl (by kernel_rfl) (by kernel_rfl) (by kernel_rfl) rfl (Ca.move) (fun Q0 k0 => L.move hF rfl rfl rfl (L.nil k0)) ?_
                    refine A.le (τ := mkSt [(0, MG.one (Cell.sl g0 (List.map eTimpl_Pair v172))), (1, MG.one (cI v173)), (2, MG.one (cL v174)), (7, MG.one (cI v175)), (8, MG.one (Cell.ptr 0 0)), (26, MG.one (Cell.ptr 0 0)), (27, MG.one (cI b198.A)), (28, MG.one (cI v173)), (29, MG.one (cL (decide (b198.A ≥ v173)))), (31, MG.one (cL false))] [] [(0, [cI b198.A, cI b198.B])] 1) (Le.mk [(0, 0)] hm rfl ⟨⟨_, rfl, rfl⟩, ⟨_, rfl, rfl⟩, ⟨_, rfl, rfl⟩, ⟨_, rfl, rfl⟩, ⟨_, rfl, rfl⟩, ⟨_, rfl, rfl⟩, ⟨_, rfl, rfl⟩, ⟨_, rfl, rfl⟩, ⟨_, rfl, rfl⟩, ⟨_, rfl, congrArg (fun b => some (MG.one (cL b))) hc204⟩, trivial⟩ trivial ⟨⟨_, _, rfl, rfl, rfl⟩, trivial⟩) ?_
                    refine A.take 10 rfl (by kernel_rfl) (by kernel_rfl) (by kernel_rfl) rfl (Ca.fieldAddr Try.underlying256 rfl info3 rfl) (fun Q0 k0 => L.fieldAddr Try.underlying256 rfl info3 rfl hF rfl rfl rfl rfl rfl (L.nil k0)) ?_
                    refine A.all [11] (by kernel_rfl) rfl ⟨⟨_, rfl, ?_⟩, trivial⟩
                    refine L.loadPtr shape3 hF rfl rfl rfl rfl rfl rfl ?_
                    refine L.nil ?_
                    refine A.take 12 rfl (by kernel_rfl) (by kernel_rfl) (by kernel_rfl) rfl (Ca.bin rfl rfl (calm_int _ _ _ _ _ _ _ _)) (fun Q0 k0 => L.bin hF rfl rfl rfl rfl rfl rfl (L.nil k0)) ?_
                    refine A.take 13 rfl (by kernel_rfl) (by kernel_rfl) (by kernel_rfl) rfl (Ca.pick) (fun Q0 k0 => L.pick hF rfl rfl rfl rfl (L.nil k0)) ?_
                    refine A.take 14 rfl (by kernel_rfl) (by kernel_rfl) (by kernel_rfl) rfl (Ca.move) (fun Q0 k0 => L.move hF rfl rfl rfl (L.nil k0)) ?_
                    refine A.le (τ := mkSt [(0, MG.one (Cell.sl g0 (List.map eTimpl_Pair v172))), (1, MG.one (cI v173)), (2, MG.one (cL v174)), (7, MG.one (cI v175)), (8, MG.one (Cell.ptr 0 0)), (26, MG.one (Cell.ptr 0 0)), (27, MG.one (cI b198.A)), (28, MG.one (cI v173)), (29, MG.one (cL (decide (b198.A ≥ v173)))), (32, MG.one (Cell.ptr 0 1)), (33, MG.one (cI b198.B)), (34, MG.one (cL (decide (b198.B < (0 : Int))))), (36, MG.one (cL false))] [] [(0, [cI b198.A, cI b198.B])] 1) (Le.mk [(0, 0)] hm rfl ⟨⟨_, rfl, rfl⟩, ⟨_, rfl, rfl⟩, ⟨_, rfl, rfl⟩, ⟨_, rfl, rfl⟩, ⟨_, rfl, rfl⟩, ⟨_, rfl, rfl⟩, ⟨_, rfl, rfl⟩, ⟨_, rfl, rfl⟩, ⟨_, rfl, rfl⟩, ⟨_, rfl, rfl⟩, ⟨_, rfl, rfl⟩, ⟨_, rfl, rfl⟩, ⟨_, rfl, congrArg (fun b => some (MG.one (cL b))) hc205⟩, trivial⟩ trivial ⟨⟨_, _, rfl, rfl, rfl⟩, trivial⟩) ?_
                    refine A.take 15 rfl (by kernel_rfl) (by kernel_rfl) (by kernel_rfl) rfl (Ca.fieldAddr Try.underlying256 rfl info3 rfl) (fun Q0 k0 => L.fieldAddr Try.underlying256 rfl info3 rfl hF rfl rfl rfl rfl rfl (L.nil k0)) ?_
                    refine A.take 17 rfl (by kernel_rfl) (by kernel_rfl) (by kernel_rfl) rfl (Ca.move) (fun Q0 k0 => L.move hF rfl rfl rfl (L.nil k0)) ?_
                    refine A.all [16] (by kernel_rfl) rfl ⟨⟨_, rfl, ?_⟩, trivial⟩
                    refine L.loadPtr shape3 hF rfl rfl rfl rfl rfl rfl ?_
                    refine L.nil ?_
                    refine A.take 18 rfl (by kernel_rfl) (by kernel_rfl) (by kernel_rfl) rfl (Ca.bin rfl rfl (calm_int _ _ _ _ _ _ _ _)) (fun Q0 k0 => L.bin hF rfl rfl rfl rfl rfl rfl (L.nil k0)) ?_
                    refine A.take 19 rfl (by kernel_rfl) (by kernel_rfl) (by kernel_rfl) rfl (Ca.pick) (fun Q0 k0 => L.pick hF rfl rfl rfl rfl (L.nil k0)) ?_
                    refine A.take 20 rfl (by kernel_rfl) (by kernel_rfl) (by kernel_rfl) rfl (Ca.move) (fun Q0 k0 => L.move hF rfl rfl rfl (L.nil k0)) ?_
                    refine A.le (τ := mkSt [(0, MG.one (Cell.sl g0 (List.map eTimpl_Pair v172))), (1, MG.one (cI v173)), (2, MG.one (cL v174)), (7, MG.one (cI v175)), (8, MG.one (Cell.ptr 0 0)), (26, MG.one (Cell.ptr 0 0)), (27, MG.one (cI b198.A)), (28, MG.one (cI v173)), (29, MG.one (cL (decide (b198.A ≥ v173)))), (32, MG.one (Cell.ptr 0 1)), (33, MG.one (cI b198.B)), (34, MG.one (cL (decide (b198.B < (0 : Int))))), (37, MG.one (Cell.ptr 0 1)), (38, MG.one (cI b198.B)), (39, MG.one (cI v173)), (40, MG.one (cL (decide (b198.B ≥ v173)))), (42, MG.one (cL false))] [] [(0, [cI b198.A, cI b198.B])] 1) (Le.mk [(0, 0)] hm rfl ⟨⟨_, rfl, rfl⟩, ⟨_, rfl, rfl⟩, ⟨_, rfl, rfl⟩, ⟨_, rfl, rfl⟩, ⟨_, rfl, rfl⟩, ⟨_, rfl, rfl⟩, ⟨_, rfl, rfl⟩, ⟨_, rfl, rfl⟩, ⟨_, rfl, rfl⟩, ⟨_, rfl, rfl⟩, ⟨_, rfl, rfl⟩, ⟨_, rfl, rfl⟩, ⟨_, rfl, rfl⟩, ⟨_, rfl, rfl⟩, ⟨_, rfl, rfl⟩, ⟨_, rfl, rfl⟩, ⟨_, rfl, congrArg (fun b => some (MG.one (cL b))) hc206⟩, trivial⟩ trivial ⟨⟨_, _, rfl, rfl, rfl⟩, trivial⟩) ?_
                    refine A.take 21 rfl (by kernel_rfl) (by kernel_rfl) (by kernel_rfl) rfl (Ca.move) (fun Q0 k0 => L.move hF rfl rfl rfl (L.nil k0)) ?_
                    refine A.take 22 rfl (by kernel_rfl) (by kernel_rfl) (by kernel_rfl) rfl (Ca.move) (fun Q0 k0 => L.move hF rfl rfl rfl (L.nil k0)) ?_
                    refine A.le (τ := mkSt [(0, MG.one (Cell.sl g0 (List.map eTimpl_Pair v172))), (1, MG.one (cI v173)), (2, MG.one (cL v174)), (7, MG.one (cI v175)), (8, MG.one (Cell.ptr 0 0)), (26, MG.one (Cell.ptr 0 0)), (27, MG.one (cI b198.A)), (28, MG.one (cI v173)), (29, MG.one (cL (decide (b198.A ≥ v173)))), (32, MG.one (Cell.ptr 0 1)), (33, MG.one (cI b198.B)), (34, MG.one (cL (decide (b198.B < (0 : Int))))), (37, MG.one (Cell.ptr 0 1)), (38, MG.one (cI b198.B)), (39, MG.one (cI v173)), (40, MG.one (cL (decide (b198.B ≥ v173)))), (42, MG.one (cL false)), (43, MG.one (cL v174)), (44, MG.one (cL false))] [] [(0, [cI b198.A, cI b198.B])] 1) (Le.mk [(0, 0)] hm rfl ⟨⟨_, rfl, rfl⟩, ⟨_, rfl, rfl⟩, ⟨_, rfl, rfl⟩, ⟨_, rfl, rfl⟩, ⟨_, rfl, rfl⟩, ⟨_, rfl, rfl⟩, ⟨_, rfl, rfl⟩, ⟨_, rfl, rfl⟩, ⟨_, rfl, rfl⟩, ⟨_, rfl, rfl⟩, ⟨_, rfl, rfl⟩, ⟨_, rfl, rfl⟩, ⟨_, rfl, rfl⟩, ⟨_, rfl, rfl⟩, ⟨_, rfl, rfl⟩, ⟨_, rfl, rfl⟩, ⟨_, rfl, rfl⟩, ⟨_, rfl, rfl⟩, ⟨_, rfl, congrArg (fun b => some (MG.one (cL b))) hc207⟩, trivial⟩ trivial ⟨⟨_, _, rfl, rfl, rfl⟩, trivial⟩) ?_
                    refine A.off 23 rfl (by kernel_rfl) (by kernel_rfl) (by kernel_rfl) rfl hF rfl rfl ?_
                    refine A.off 24 rfl (by kernel_rfl) (by kernel_rfl) (by kernel_rfl) rfl hF rfl rfl ?_
                    refine A.off 25 rfl (by kernel_rfl) (by kernel_rfl) (by kernel_rfl) rfl hF rfl rfl ?_
                    refine A.off 26 rfl (by kernel_rfl) (by kernel_rfl) (by kernel_rfl) rfl hF rfl rfl ?_
                    refine A.off 27 rfl (by kernel_rfl) (by kernel_rfl) (by kernel_rfl) rfl hF rfl rfl ?_
                    refine A.take 28 rfl (by kernel_rfl) (by kernel_rfl) (by kernel_rfl) rfl (Ca.pick) (fun Q0 k0 => L.pick hF rfl rfl rfl rfl (L.nil k0)) ?_
                    refine A.take 29 rfl (by kernel_rfl) (by kernel_rfl) (by kernel_rfl) rfl (Ca.pick) (fun Q0 k0 => L.pick hF rfl rfl rfl rfl (L.nil k0)) ?_
                    refine A.take 30 rfl (by kernel_rfl) (by kernel_rfl) (by kernel_rfl) rfl (Ca.move) (fun Q0 k0 => L.move hF rfl rfl rfl (L.nil k0)) ?_
                    refine A.take 31 rfl (by kernel_rfl) (by kernel_rfl) (by kernel_rfl) rfl (Ca.move) (fun Q0 k0 => L.move hF rfl rfl rfl (L.nil k0)) ?_
                    refine A.take 32 rfl (by kernel_rfl) (by kernel_rfl) (by kernel_rfl) rfl (Ca.move) (fun Q0 k0 => L.move hF rfl rfl rfl (L.nil k0)) ?_
                    refine A.le (τ := mkSt [(0, MG.one (Cell.sl g0 (List.map eTimpl_Pair v172))), (1, MG.one (cI v173)), (2, MG.one (cL v174)), (7, MG.one (cI v175)), (8, MG.one (Cell.ptr 0 0)), (26, MG.one (Cell.ptr 0 0)), (27, MG.one (cI b198.A)), (28, MG.one (cI v173)), (29, MG.one (cL (decide (b198.A ≥ v173)))), (32, MG.one (Cell.ptr 0 1)), (33, MG.one (cI b198.B)), (34, MG.one (cL (decide (b198.B < (0 : Int))))), (37, MG.one (Cell.ptr 0 1)), (38, MG.one (cI b198.B)), (39, MG.one (cI v173)), (40, MG.one (cL (decide (b198.B ≥ v173)))), (43, MG.one (cL v174)), (44, MG.one (cL false)), (45, Slot.tup []), (46, Slot.tup []), (47, Slot.tup []), (48, Slot.tup []), (49, Slot.tup []), (50, MG.one (cL false)), (52, MG.one (cL false)), (53, MG.one (Cell.sl g0 (List.map eTimpl_Pair v172))), (54, MG.one (cI v175))] [] [(0, [cI b198.A, cI b198.B])] 1) (Le.mk [(0, 0)] hm rfl ⟨⟨_, rfl, rfl⟩, ⟨_, rfl, rfl⟩, ⟨_, rfl, rfl⟩, ⟨_, rfl, rfl⟩, ⟨_, rfl, rfl⟩, ⟨_, rfl, rfl⟩, ⟨_, rfl, rfl⟩, ⟨_, rfl, rfl⟩, ⟨_, rfl, rfl⟩, ⟨_, rfl, rfl⟩, ⟨_, rfl, rfl⟩, ⟨_, rfl, rfl⟩, ⟨_, rfl, rfl⟩, ⟨_, rfl, rfl⟩, ⟨_, rfl, rfl⟩, ⟨_, rfl, rfl⟩, ⟨_, rfl, rfl⟩, ⟨_, rfl, rfl⟩, ⟨_, rfl, rfl⟩, ⟨_, rfl, rfl⟩, ⟨_, rfl, rfl⟩, ⟨_, rfl, rfl⟩, ⟨_, rfl, rfl⟩, ⟨_, rfl, rfl⟩, ⟨_, rfl, rfl⟩, ⟨_, rfl, rfl⟩, ⟨_, rfl, rfl⟩, trivial⟩ trivial ⟨⟨_, _, rfl, rfl, rfl⟩, trivial⟩) ?_
                    refine A.take 33 rfl (by kernel_rfl) (by kernel_rfl) (by kernel_rfl) rfl (Ca.slice) (fun Q0 k0 => L.cutR (xs := v172) (ys := b211) (e := eTimpl_Pair) Try.underlying88 info256 hF rfl rfl rfl rfl rfl hb211 (fun _ => rfl) (L.nil k0)) ?_
                    refine A.all [34] (by kernel_rfl) rfl ⟨⟨_, rfl, ?_⟩, trivial⟩
                    refine L.loadPtr shape256 hF rfl rfl rfl rfl rfl rfl ?_
                    refine L.nil ?_
                    refine A.all [35] (by kernel_rfl) rfl ⟨⟨_, rfl, ?_⟩, trivial⟩
                    refine L.call [false, false] [] [] 1 hF rfl rfl rfl ent244 rfl rfl rfl rfl rfl (Fspec_l6Has_gives k7 g0 b211 b198 r212 hr212) rfl ?_
                    refine L.nil ?_
                    refine A.take 36 rfl (by kernel_rfl) (by kernel_rfl) (by kernel_rfl) rfl (Ca.pick) (fun Q0 k0 => L.pick hF rfl rfl rfl rfl (L.nil k0)) ?_
                    refine A.le (τ := mkSt [(0, MG.one (Cell.sl g0 (List.map eTimpl_Pair v172))), (1, MG.one (cI v173)), (2, MG.one (cL v174)), (7, MG.one (cI v175)), (26, MG.one (Cell.ptr 0 0)), (27, MG.one (cI b198.A)), (28, MG.one (cI v173)), (29, MG.one (cL (decide (b198.A ≥ v173)))), (32, MG.one (Cell.ptr 0 1)), (33, MG.one (cI b198.B)), (34, MG.one (cL (decide (b198.B < (0 : Int))))), (37, MG.one (Cell.ptr 0 1)), (38, MG.one (cI b198.B)), (39, MG.one (cI v173)), (40, MG.one (cL (decide (b198.B ≥ v173)))), (43, MG.one (cL v174)), (44, MG.one (cL false)), (45, Slot.tup []), (46, Slot.tup []), (47, Slot.tup []), (48, Slot.tup []), (49, Slot.tup []), (50, MG.one (cL false)), (53, MG.one (Cell.sl g0 (List.map eTimpl_Pair v172))), (54, MG.one (cI v175)), (55, MG.one (Cell.sl g0 (List.map eTimpl_Pair b211))), (56, agg [cI b198.A, cI b198.B]), (57, MG.one (cL r212)), (58, MG.one (cL r212))] [] [(0, [cI b198.A, cI b198.B])] 1) (Le.mk [(0, 0)] hm rfl ⟨⟨_, rfl, rfl⟩, ⟨_, rfl, rfl⟩, ⟨_, rfl, rfl⟩, ⟨_, rfl, rfl⟩, ⟨_, rfl, rfl⟩, ⟨_, rfl, rfl⟩, ⟨_, rfl, rfl⟩, ⟨_, rfl, rfl⟩, ⟨_, rfl, rfl⟩, ⟨_, rfl, rfl⟩, ⟨_, rfl, rfl⟩, ⟨_, rfl, rfl⟩, ⟨_, rfl, rfl⟩, ⟨_, rfl, rfl⟩, ⟨_, rfl, rfl⟩, ⟨_, rfl, rfl⟩, ⟨_, rfl, rfl⟩, ⟨_, rfl, rfl⟩, ⟨_, rfl, rfl⟩, ⟨_, rfl, rfl⟩, ⟨_, rfl, rfl⟩, ⟨_, rfl, rfl⟩, ⟨_, rfl, rfl⟩, ⟨_, rfl, rfl⟩, ⟨_, rfl, rfl⟩, ⟨_, rfl, rfl⟩, ⟨_, rfl, rfl⟩, ⟨_, rfl, rfl⟩, ⟨_, rfl, rfl⟩, trivial⟩ trivial ⟨⟨_, _, rfl, rfl, rfl⟩, trivial⟩) ?_
                    refine A.done (by kernel_rfl) ?_
                    refine WpC.cond rfl (fun hc => ?_) (fun hc => ?_)
                    · replace H := condT hc H
                      refine WpC.seq ?_
                      refine WpC.regionL ?_
                      refine L.assign hF rfl rfl rfl ?_
                      refine L.nil ?_
                      refine WpC.ret ?_
                      cases H
                      exact Leaves.ret rfl rfl rfl ⟨rfl, rfl⟩
                    · replace H := condF hc H
                      refine WpC.skip ?_
                      exact ⟨_, ⟨k7, v172, v173, v174, v175, b198.A, (decide (b198.A ≥ v173)), b198.B, (decide (b198.B < (0 : Int))), (decide (b198.B ≥ v173)), false, false, b211, r212, by omega, H, rfl⟩, Le.mk [(0, 0)] hm rfl ⟨⟨_, rfl, rfl⟩, ⟨_, rfl, rfl⟩, ⟨_, rfl, rfl⟩, ⟨_, rfl, rfl⟩, ⟨_, rfl, rfl⟩, ⟨_, rfl, rfl⟩, ⟨_, rfl, rfl⟩, ⟨_, rfl, rfl⟩, ⟨_, rfl, rfl⟩, ⟨_, rfl, rfl⟩, ⟨_, rfl, rfl⟩, ⟨_, rfl, rfl⟩, ⟨_, rfl, rfl⟩, ⟨_, rfl, rfl⟩, ⟨_, rfl, rfl⟩, ⟨_, rfl, rfl⟩, ⟨_, rfl, rfl⟩, ⟨_, rfl, rfl⟩, ⟨_, rfl, rfl⟩, ⟨_, rfl, rfl⟩, ⟨_, rfl, rfl⟩, ⟨_, rfl, rfl⟩, ⟨_, rfl, rfl⟩, trivial⟩ trivial ⟨⟨_, _, rfl, rfl, rfl⟩, trivial⟩⟩
      · replace H := condF hc H
        refine WpC.exit ?_
        refine WpC.seq ?_
        refine WpC.regionL ?_
        refine L.assign hF rfl rfl rfl ?_
        refine L.nil ?_
        refine WpC.ret ?_
        cases H
        exact Leaves.ret rfl rfl rfl ⟨rfl, rfl⟩
/-! ### Fspec_l1In -/
def Fspec_l1In (k : Nat) (a0 : Int) (a1 : Int) (a2 : Int) : Option Bool := cond (decide (a0 ≥ a1)) (some (decide (a0 ≤ a2))) (some false)
theorem ent152 : MG.Enters Try.prog 152 := ⟨Try.f152, Try.func152, rfl, by decide⟩
set_option maxHeartbeats 8000000 in
set_option maxRecDepth 100000 in
theorem Fspec_l1In_gives (k : Nat) (a0 : Int) (a1 : Int) (a2 : Int) (r : Bool) (H : Fspec_l1In k a0 a1 a2 = some r) : Gives Try.prog 152 [V.one (cI a0), V.one (cI a1), V.one (cI a2)] [] [V.one (cL r)] [] := by
  refine Gives.intro Try.func152 rfl rfl rfl rfl ?_
  intro F hF hm
  unfold Fspec_l1In at H
  obtain ⟨K, hK⟩ : ∃ K, k ≤ K := ⟨k, Nat.le_refl k⟩
  refine WpC.seq ?_
  refine WpC.regionL ?_
  refine L.assign hF rfl rfl rfl ?_
  refine L.nil ?_
  refine WpC.seq ?_
  refine WpC.regionL ?_
  refine L.move hF rfl rfl rfl ?_
  refine L.move hF rfl rfl rfl ?_
  refine L.bin hF rfl rfl rfl rfl rfl rfl ?_
  refine L.move hF rfl rfl rfl ?_
  refine L.split (fun hc => ?_) (fun hc => ?_)
  · replace H := condT hc H
    refine L.move hF rfl rfl rfl ?_
    refine L.move hF rfl rfl rfl ?_
    refine L.bin hF rfl rfl rfl rfl rfl rfl ?_
    refine L.pick hF rfl rfl rfl rfl ?_
    refine L.assign hF rfl rfl rfl ?_
    refine L.nil ?_
    refine WpC.ret ?_
    cases H
    exact Leaves.ret rfl rfl rfl ⟨rfl, rfl⟩
  · replace H := condF hc H
    refine L.off hF rfl rfl ?_
    refine L.off hF rfl rfl ?_
    refine L.off hF rfl rfl ?_
    refine L.pick hF rfl rfl rfl rfl ?_
    refine L.assign hF rfl rfl rfl ?_
    refine L.nil ?_
    refine WpC.ret ?_
    cases H
    exact Leaves.ret rfl rfl rfl ⟨rfl, rfl⟩
/-! ### Fspec_ConfigOk -/
def Fspec_ConfigOk (k : Nat) (a0 : Timpl_Config) : Option Bool := cond ((a0.UserRealm.length : Int) == (3 : Int)) ((Fspec_l5All k a0.UserRealm (3 : Int) (3 : Int)).bind fun r6 => cond r6 (cond ((a0.ServiceRealm.length : Int) == (3 : Int)) ((Fspec_l5All k a0.ServiceRealm (3 : Int) (3 : Int)).bind fun r7 => cond r7 ((Fspec_l6Pairs k a0.Links (3 : Int) true).bind fun r8 => cond r8 ((Fspec_l6Pairs k a0.Proxy (3 : Int) false).bind fun r9 => cond r9 ((Fspec_l1In k a0.Skew (0 : Int) (20 : Int)).bind fun r10 => some r10) (some false)) (some false)) (some false)) (some false)) (some false)) (some false)
theorem ent150 : MG.Enters Try.prog 150 := ⟨Try.f150, Try.func150, rfl, by decide⟩
set_option maxHeartbeats 8000000 in
set_option maxRecDepth 100000 in
theorem Fspec_ConfigOk_gives (k : Nat) (g0 : Bool) (g1 : Bool) (g2 : Bool) (g3 : Bool) (a0 : Timpl_Config) (r : Bool) (H : Fspec_ConfigOk k a0 = some r) : Gives Try.prog 150 [V.agg [Cell.sl g0 (List.map eI a0.UserRealm), Cell.sl g1 (List.map eI a0.ServiceRealm), Cell.sl g2 (List.map eTimpl_Pair a0.Links), Cell.sl g3 (List.map eTimpl_Pair a0.Proxy), cI a0.Skew]] [] [V.one (cL r)] [] := by
  refine Gives.intro Try.func150 rfl rfl rfl rfl ?_
  intro F hF hm
  unfold Fspec_ConfigOk at H
  obtain ⟨K, hK⟩ : ∃ K, k ≤ K := ⟨k, Nat.le_refl k⟩
  refine WpC.seq ?_
  refine WpC.regionL ?_
  refine L.box 5 hF rfl rfl rfl rfl ?_
  refine L.assign hF rfl rfl rfl ?_
  refine L.nil ?_
  refine WpC.seq ?_
  refine WpC.regionL ?_
  refine L.fieldAddr Try.underlying90 rfl info24 rfl hF rfl rfl rfl rfl rfl ?_
  refine L.loadPtr shape24 hF rfl rfl rfl rfl rfl rfl ?_
  refine L.lenR (xs := a0.UserRealm) (e := eI) Try.underlying24 hF rfl rfl rfl rfl ?_
  refine L.bin hF rfl rfl rfl rfl rfl rfl ?_
  refine L.move hF rfl rfl rfl ?_
  refine L.split (fun hc => ?_) (fun hc => ?_)
  · replace H := condT hc H
    refine L.fieldAddr Try.underlying90 rfl info24 rfl hF rfl rfl rfl rfl rfl ?_
    refine L.loadPtr shape24 hF rfl rfl rfl rfl rfl rfl ?_
    obtain ⟨r6, hr6, H⟩ := bindS H
    refine L.call [false, false, false] [] [] 6 hF rfl rfl rfl ent241 rfl rfl rfl rfl rfl (Fspec_l5All_gives k g0 a0.UserRealm (3 : Int) (3 : Int) r6 hr6) rfl ?_
    refine L.pick hF rfl rfl rfl rfl ?_
    refine L.move hF rfl rfl rfl ?_
    refine L.split (fun hc => ?_) (fun hc => ?_)
    · replace H := condT hc H
      refine L.fieldAddr Try.underlying90 rfl info24 rfl hF rfl rfl rfl rfl rfl ?_
      refine L.loadPtr shape24 hF rfl rfl rfl rfl rfl rfl ?_
      refine L.lenR (xs := a0.ServiceRealm) (e := eI) Try.underlying24 hF rfl rfl rfl rfl ?_
      refine L.bin hF rfl rfl rfl rfl rfl rfl ?_
      refine L.pick hF rfl rfl rfl rfl ?_
      refine L.move hF rfl rfl rfl ?_
      refine L.split (fun hc => ?_) (fun hc => ?_)
      · replace H := condT hc H
        refine L.fieldAddr Try.underlying90 rfl info24 rfl hF rfl rfl rfl rfl rfl ?_
        refine L.loadPtr shape24 hF rfl rfl rfl rfl rfl rfl ?_
        obtain ⟨r7, hr7, H⟩ := bindS H
        refine L.call [false, false, false] [] [] 7 hF rfl rfl rfl ent241 rfl rfl rfl rfl rfl (Fspec_l5All_gives k g1 a0.ServiceRealm (3 : Int) (3 : Int) r7 hr7) rfl ?_
        refine L.pick hF rfl rfl rfl rfl ?_
        refine L.move hF rfl rfl rfl ?_
        refine L.split (fun hc => ?_) (fun hc => ?_)
        · replace H := condT hc H
          refine L.fieldAddr Try.underlying90 rfl info88 rfl hF rfl rfl rfl rfl rfl ?_
          refine L.loadPtr shape88 hF rfl rfl rfl rfl rfl rfl ?_
          obtain ⟨r8, hr8, H⟩ := bindS H
          refine L.call [false, false, false] [] [] 8 hF rfl rfl rfl ent242 rfl rfl rfl rfl rfl (Fspec_l6Pairs_gives k g2 a0.Links (3 : Int) true r8 hr8) rfl ?_
          refine L.pick hF rfl rfl rfl rfl ?_
          refine L.move hF rfl rfl rfl ?_
          refine L.split (fun hc => ?_) (fun hc => ?_)
          · replace H := condT hc H
            refine L.fieldAddr Try.underlying90 rfl info88 rfl hF rfl rfl rfl rfl rfl ?_
            refine L.loadPtr shape88 hF rfl rfl rfl rfl rfl rfl ?_
            obtain ⟨r9, hr9, H⟩ := bindS H
            refine L.call [false, false, false] [] [] 9 hF rfl rfl rfl ent242 rfl rfl rfl rfl rfl (Fspec_l6Pairs_gives k g3 a0.Proxy (3 : Int) false r9 hr9) rfl ?_
            refine L.pick hF rfl rfl rfl rfl ?_
            refine L.move hF rfl rfl rfl ?_
            refine L.split (fun hc => ?_) (fun hc => ?_)
            · replace H := condT hc H
              refine L.fieldAddr Try.underlying90 rfl info3 rfl hF rfl rfl rfl rfl rfl ?_
              refine L.loadPtr shape3 hF rfl rfl rfl rfl rfl rfl ?_
              obtain ⟨r10, hr10, H⟩ := bindS H
              refine L.call [false, false, false] [] [] 10 hF rfl rfl rfl ent152 rfl rfl rfl rfl rfl (Fspec_l1In_gives k  a0.Skew (0 : Int) (20 : Int) r10 hr10) rfl ?_
              refine L.pick hF rfl rfl rfl rfl ?_
              refine L.assign hF rfl rfl rfl ?_
              refine L.nil ?_
              refine WpC.ret ?_
              cases H
              exact Leaves.ret rfl rfl rfl ⟨rfl, rfl⟩
            · replace H := condF hc H
              refine L.off hF rfl rfl ?_
              refine L.off hF rfl rfl ?_
              refine L.off hF rfl rfl ?_
              refine L.pick hF rfl rfl rfl rfl ?_
              refine L.assign hF rfl rfl rfl ?_
              refine L.nil ?_
              refine WpC.ret ?_
              cases H
              exact Leaves.ret rfl rfl rfl ⟨rfl, rfl⟩
          · replace H := condF hc H
            refine L.off hF rfl rfl ?_
            refine L.off hF rfl rfl ?_
            refine L.off hF rfl rfl ?_
            refine L.pick hF rfl rfl rfl rfl ?_
            refine L.move hF rfl rfl rfl ?_
            refine L.off hF rfl rfl ?_
            refine L.off hF rfl rfl ?_
            refine L.off hF rfl rfl ?_
            refine L.pick hF rfl rfl rfl rfl ?_
            refine L.assign hF rfl rfl rfl ?_
            refine L.nil ?_
            refine WpC.ret ?_
            cases H
            exact Leaves.ret rfl rfl rfl ⟨rfl, rfl⟩
        · replace H := condF hc H
          refine L.off hF rfl rfl ?_
          refine L.off hF rfl rfl ?_
          refine L.off hF rfl rfl ?_
          refine L.pick hF rfl rfl rfl rfl ?_
          refine L.move hF rfl rfl rfl ?_
          refine L.off hF rfl rfl ?_
          refine L.off hF rfl rfl ?_
          refine L.off hF rfl rfl ?_
          refine L.pick hF rfl rfl rfl rfl ?_
          refine L.move hF rfl rfl rfl ?_
          refine L.off hF rfl rfl ?_
          refine L.off hF rfl rfl ?_
          refine L.off hF rfl rfl ?_
          refine L.pick hF rfl rfl rfl rfl ?_
          refine L.assign hF rfl rfl rfl ?_
          refine L.nil ?_
          refine WpC.ret ?_
          cases H
          exact Leaves.ret rfl rfl rfl ⟨rfl, rfl⟩
      · replace H := condF hc H
        refine L.off hF rfl rfl ?_
        refine L.off hF rfl rfl ?_
        refine L.off hF rfl rfl ?_
        refine L.pick hF rfl rfl rfl rfl ?_
        refine L.move hF rfl rfl rfl ?_
        refine L.off hF rfl rfl ?_
        refine L.off hF rfl rfl ?_
        refine L.off hF rfl rfl ?_
        refine L.pick hF rfl rfl rfl rfl ?_
        refine L.move hF rfl rfl rfl ?_
        refine L.off hF rfl rfl ?_
        refine L.off hF rfl rfl ?_
        refine L.off hF rfl rfl ?_
        refine L.pick hF rfl rfl rfl rfl ?_
        refine L.move hF rfl rfl rfl ?_
        refine L.off hF rfl rfl ?_
        refine L.off hF rfl rfl ?_
        refine L.off hF rfl rfl ?_
        refine L.pick hF rfl rfl rfl rfl ?_
        refine L.assign hF rfl rfl rfl ?_
        refine L.nil ?_
        refine WpC.ret ?_
        cases H
        exact Leaves.ret rfl rfl rfl ⟨rfl, rfl⟩
    · replace H := condF hc H
      refine L.off hF rfl rfl ?_
      refine L.off hF rfl rfl ?_
      refine L.off hF rfl rfl ?_
      refine L.off hF rfl rfl ?_
      refine L.pick hF rfl rfl rfl rfl ?_
      refine L.move hF rfl rfl rfl ?_
      refine L.off hF rfl rfl ?_
      refine L.off hF rfl rfl ?_
      refine L.off hF rfl rfl ?_
      refine L.pick hF rfl rfl rfl rfl ?_
      refine L.move hF rfl rfl rfl ?_
      refine L.off hF rfl rfl ?_
      refine L.off hF rfl rfl ?_
      refine L.off hF rfl rfl ?_
      refine L.pick hF rfl rfl rfl rfl ?_
      refine L.move hF rfl rfl rfl ?_
      refine L.off hF rfl rfl ?_
      refine L.off hF rfl rfl ?_
      refine L.off hF rfl rfl ?_
      refine L.pick hF rfl rfl rfl rfl ?_
      refine L.move hF rfl rfl rfl ?_
      refine L.off hF rfl rfl ?_
      refine L.off hF rfl rfl ?_
      refine L.off hF rfl rfl ?_
      refine L.pick hF rfl rfl rfl rfl ?_
      refine L.assign hF rfl rfl rfl ?_
      refine L.nil ?_
      refine WpC.ret ?_
      cases H
      exact Leaves.ret rfl rfl rfl ⟨rfl, rfl⟩
  · replace H := condF hc H
    refine L.off hF rfl rfl ?_
    refine L.off hF rfl rfl ?_
    refine L.off hF rfl rfl ?_
    refine L.pick hF rfl rfl rfl rfl ?_
    refine L.move hF rfl rfl rfl ?_
    refine L.off hF rfl rfl ?_
    refine L.off hF rfl rfl ?_
    refine L.off hF rfl rfl ?_
    refine L.off hF rfl rfl ?_
    refine L.pick hF rfl rfl rfl rfl ?_
    refine L.move hF rfl rfl rfl ?_
    refine L.off hF rfl rfl ?_
    refine L.off hF rfl rfl ?_
    refine L.off hF rfl rfl ?_
    refine L.pick hF rfl rfl rfl rfl ?_
    refine L.move hF rfl rfl rfl ?_
    refine L.off hF rfl rfl ?_
    refine L.off hF rfl rfl ?_
    refine L.off hF rfl rfl ?_
    refine L.pick hF rfl rfl rfl rfl ?_
    refine L.move hF rfl rfl rfl ?_
    refine L.off hF rfl rfl ?_
    refine L.off hF rfl rfl ?_
    refine L.off hF rfl rfl ?_
    refine L.pick hF rfl rfl rfl rfl ?_
    refine L.move hF rfl rfl rfl ?_
    refine L.off hF rfl rfl ?_
    refine L.off hF rfl rfl ?_
    refine L.off hF rfl rfl ?_
    refine L.pick hF rfl rfl rfl rfl ?_
    refine L.assign hF rfl rfl rfl ?_
    refine L.nil ?_
    refine WpC.ret ?_
    cases H
    exact Leaves.ret rfl rfl rfl ⟨rfl, rfl⟩
/-! ### Fspec_l5Principal -/
def Fspec_l5Principal (k : Nat) (a0 : Int) : Option Bool := cond (decide (a0 ≥ (0 : Int))) (some (decide (a0 < (6 : Int)))) (some false)
theorem ent142 : MG.Enters Try.prog 142 := ⟨Try.f142, Try.func142, rfl, by decide⟩
set_option maxHeartbeats 8000000 in
set_option maxRecDepth 100000 in
theorem Fspec_l5Principal_gives (k : Nat) (a0 : Int) (r : Bool) (H : Fspec_l5Principal k a0 = some r) : Gives Try.prog 142 [V.one (cI a0)] [] [V.one (cL r)] [] := by
  refine Gives.intro Try.func142 rfl rfl rfl rfl ?_
  intro F hF hm
  unfold Fspec_l5Principal at H
  obtain ⟨K, hK⟩ : ∃ K, k ≤ K := ⟨k, Nat.le_refl k⟩
  refine WpC.seq ?_
  refine WpC.regionL ?_
  refine L.assign hF rfl rfl rfl ?_
  refine L.nil ?_
  refine WpC.seq ?_
  refine WpC.regionL ?_
  refine L.move hF rfl rfl rfl ?_
  refine L.bin hF rfl rfl rfl rfl rfl rfl ?_
  refine L.move hF rfl rfl rfl ?_
  refine L.split (fun hc => ?_) (fun hc => ?_)
  · replace H := condT hc H
    refine L.move hF rfl rfl rfl ?_
    refine L.bin hF rfl rfl rfl rfl rfl rfl ?_
    refine L.pick hF rfl rfl rfl rfl ?_
    refine L.assign hF rfl rfl rfl ?_
    refine L.nil ?_
    refine WpC.ret ?_
    cases H
    exact Leaves.ret rfl rfl rfl ⟨rfl, rfl⟩
  · replace H := condF hc H
    refine L.off hF rfl rfl ?_
    refine L.off hF rfl rfl ?_
    refine L.pick hF rfl rfl rfl rfl ?_
    refine L.assign hF rfl rfl rfl ?_
    refine L.nil ?_
    refine WpC.ret ?_
    cases H
    exact Leaves.ret rfl rfl rfl ⟨rfl, rfl⟩
/-! ### Fspec_PrincipalKey -/
def Fspec_PrincipalKey (k : Nat) (a0 : Int) : Option Int := (Fspec_l5Principal k a0).bind fun r2 => cond (!r2) (some (0 : Int)) (cond (decide (a0 < (3 : Int))) (some (IntKind.i64.wrap ((1 : Int) + a0))) (some (IntKind.i64.wrap ((IntKind.i64.wrap ((11 : Int) + a0)) - (3 : Int)))))
theorem ent176 : MG.Enters Try.prog 176 := ⟨Try.f176, Try.func176, rfl, by decide⟩
set_option maxHeartbeats 8000000 in
set_option maxRecDepth 100000 in
theorem Fspec_PrincipalKey_gives (k : Nat) (a0 : Int) (r : Int) (H : Fspec_PrincipalKey k a0 = some r) : Gives Try.prog 176 [V.one (cI a0)] [] [V.one (cI r)] [] := by
  refine Gives.intro Try.func176 rfl rfl rfl rfl ?_
  intro F hF hm
  unfold Fspec_PrincipalKey at H
  obtain ⟨K, hK⟩ : ∃ K, k ≤ K := ⟨k, Nat.le_refl k⟩
  refine WpC.seq ?_
  refine WpC.regionL ?_
  refine L.assign hF rfl rfl rfl ?_
  refine L.nil ?_
  refine WpC.seq ?_
  refine WpC.seq ?_
  refine WpC.regionL ?_
  refine L.move hF rfl rfl rfl ?_
  obtain ⟨r2, hr2, H⟩ := bindS H
  refine L.call [false] [] [] 1 hF rfl rfl rfl ent142 rfl rfl rfl rfl rfl (Fspec_l5Principal_gives k  a0 r2 hr2) rfl ?_
  refine L.not hF rfl rfl rfl ?_
  refine L.nil ?_
  refine WpC.cond rfl (fun hc => ?_) (fun hc => ?_)
  · replace H := condT hc H
    refine WpC.seq ?_
    refine WpC.regionL ?_
    refine L.assign hF rfl rfl rfl ?_
    refine L.nil ?_
    refine WpC.ret ?_
    cases H
    exact Leaves.ret rfl rfl rfl ⟨rfl, rfl⟩
  · replace H := condF hc H
    refine WpC.skip ?_
    refine WpC.seq ?_
    refine WpC.seq ?_
    refine WpC.regionL ?_
    refine L.move hF rfl rfl rfl ?_
    refine L.bin hF rfl rfl rfl rfl rfl rfl ?_
    refine L.nil ?_
    refine WpC.cond rfl (fun hc => ?_) (fun hc => ?_)
    · replace H := condT hc H
      refine WpC.seq ?_
      refine WpC.regionL ?_
      refine L.move hF rfl rfl rfl ?_
      refine L.bin hF rfl rfl rfl rfl rfl rfl ?_
      refine L.assign hF rfl rfl rfl ?_
      refine L.nil ?_
      refine WpC.ret ?_
      cases H
      exact Leaves.ret rfl rfl rfl ⟨rfl, rfl⟩
    · replace H := condF hc H
      refine WpC.skip ?_
      refine WpC.seq ?_
      refine WpC.regionL ?_
      refine L.move hF rfl rfl rfl ?_
      refine L.bin hF rfl rfl rfl rfl rfl rfl ?_
      refine L.bin hF rfl rfl rfl rfl rfl rfl ?_
      refine L.assign hF rfl rfl rfl ?_
      refine L.nil ?_
      refine WpC.ret ?_
      cases H
      exact Leaves.ret rfl rfl rfl ⟨rfl, rfl⟩
/-! ### Fspec_l3Has -/
def Fspec_l3Has.l2 : Nat → (List Int) → Int → Int → Option Bool
  | 0, _, _, _ => none
  | k2 + 1, v24, v25, v26 => cond (decide (v26 < (v24.length : Int))) ((at? v24 v26).bind fun b28 => cond (b28 == v25) (some true) ((Fspec_l3Has.l2 k2) v24 v25 (IntKind.i64.wrap (v26 + (1 : Int))))) (some false)
def Fspec_l3Has (k : Nat) (a0 : List Int) (a1 : Int) : Option Bool := Fspec_l3Has.l2 k a0 a1 (0 : Int)
theorem ent257 : MG.Enters Try.prog 257 := ⟨Try.f257, Try.func257, rfl, by decide⟩
set_option maxHeartbeats 8000000 in
set_option maxRecDepth 100000 in
theorem Fspec_l3Has_gives (k : Nat) (g0 : Bool) (a0 : List Int) (a1 : Int) (r : Bool) (H : Fspec_l3Has k a0 a1 = some r) : Gives Try.prog 257 [V.one (Cell.sl g0 (List.map eI a0)), V.one (cI a1)] [] [V.one (cL r)] [] := by
  refine Gives.intro Try.func257 rfl rfl rfl rfl ?_
  intro F hF hm
  unfold Fspec_l3Has at H
  obtain ⟨K, hK⟩ : ∃ K, k ≤ K := ⟨k, Nat.le_refl k⟩
  refine WpC.seq ?_
  refine WpC.regionL ?_
  refine L.assign hF rfl rfl rfl ?_
  refine L.nil ?_
  refine WpC.seq ?_
  refine WpC.seq ?_
  refine WpC.regionL ?_
  refine L.assign hF rfl rfl rfl ?_
  refine L.nil ?_
  refine WpC.block ?_
  refine WpC.loopL (P := Try.prog) (fun n σ => ∃ v24 : List Int, ∃ v25 : Int, ∃ v26 : Int, n ≤ K ∧ Fspec_l3Has.l2 n v24 v25 v26 = some r ∧ σ = mkSt [(0, MG.one (Cell.sl g0 (List.map eI v24))), (1, MG.one (cI v25)), (5, MG.one (cI v26))] [] [] 0) k ⟨_, ⟨a0, a1, (0 : Int), by omega, H, rfl⟩, Le.mk [] hm rfl ⟨⟨_, rfl, rfl⟩, ⟨_, rfl, rfl⟩, ⟨_, rfl, rfl⟩, trivial⟩ trivial trivial⟩ ?_
  clear H
  rintro k2 _ ⟨v24, v25, v26, hk2, H, rfl⟩
  cases k2 with
  | zero => cases H
  | succ k2 =>
    rw [Fspec_l3Has.l2] at H
    refine WpC.seq ?_
    refine WpC.seq ?_
    refine WpC.regionL ?_
    refine L.move hF rfl rfl rfl ?_
    refine L.move hF rfl rfl rfl ?_
    refine L.lenR (xs := v24) (e := eI) Try.underlying24 hF rfl rfl rfl rfl ?_
    refine L.bin hF rfl rfl rfl rfl rfl rfl ?_
    refine L.nil ?_
    refine WpC.cond rfl (fun hc => ?_) (fun hc => ?_)
    · replace H := condT hc H
      refine WpC.skip ?_
      refine WpC.seq ?_
      refine WpC.block ?_
      refine WpC.seq ?_
      refine WpC.regionL ?_
      refine L.move hF rfl rfl rfl ?_
      refine L.move hF rfl rfl rfl ?_
      obtain ⟨b28, hb28, H⟩ := bindS H
      refine L.idxR (xs := v24) (e := eI) Try.underlying24 info3 hF rfl rfl rfl rfl rfl hb28 rfl rfl ?_
      refine L.loadPe shape3 hF rfl rfl rfl rfl rfl ?_
      refine L.move hF rfl rfl rfl ?_
      refine L.bin hF rfl rfl rfl rfl rfl rfl ?_
      refine L.nil ?_
      refine WpC.cond rfl (fun hc => ?_) (fun hc => ?_)
      · replace H := condT hc H
        refine WpC.seq ?_
        refine WpC.regionL ?_
        refine L.assign hF rfl rfl rfl ?_
        refine L.nil ?_
        refine WpC.ret ?_
        cases H
        exact Leaves.ret rfl rfl rfl ⟨rfl, rfl⟩
      · replace H := condF hc H
        refine WpC.skip ?_
        refine WpC.regionL ?_
        refine L.move hF rfl rfl rfl ?_
        refine L.bin hF rfl rfl rfl rfl rfl rfl ?_
        refine L.assign hF rfl rfl rfl ?_
        refine L.nil ?_
        exact ⟨k2, _, by omega, ⟨v24, v25, (IntKind.i64.wrap (v26 + (1 : Int))), by omega, H, rfl⟩, Le.mk [] hm rfl ⟨⟨_, rfl, rfl⟩, ⟨_, rfl, rfl⟩, ⟨_, rfl, rfl⟩, trivial⟩ trivial trivial⟩
    · replace H := condF hc H
      refine WpC.exit ?_
      refine WpC.seq ?_
      refine WpC.regionL ?_
      refine L.assign hF rfl rfl rfl ?_
      refine L.nil ?_
      refine WpC.ret ?_
      cases H
      exact Leaves.ret rfl rfl rfl ⟨rfl, rfl⟩
/-! ### Fspec_l3Put -/
def Fspec_l3Put.j29 (cl24 : (List Int) → Int → (List Int) → Bool → Int → Option (List Int)) (k : Nat) (v267 : List Int) (v268 : Int) (v269 : List Int) (v270 : Bool) (v271 : Int) : Option (List Int) := (at? v267 v271).bind fun b272 => cond (decide ((2 * (v269.length + ([b272] : List Int).length) + 192) * 8 ≤ 281474976710656)) (cl24 v267 v268 (v269 ++ ([b272] : List Int)) v270 (IntKind.i64.wrap (v271 + (1 : Int)))) none
def Fspec_l3Put.j30 (cl24 : (List Int) → Int → (List Int) → Bool → Int → Option (List Int)) (k : Nat) (v275 : List Int) (v276 : Int) (v277 : List Int) (v278 : Bool) (v279 : Int) (v280 : Bool) : Option (List Int) := cond v280 (cond (decide ((2 * (v277.length + ([v276] : List Int).length) + 192) * 8 ≤ 281474976710656)) (Fspec_l3Put.j29 cl24 k v275 v276 (v277 ++ ([v276] : List Int)) true v279) none) (Fspec_l3Put.j29 cl24 k v275 v276 v277 v278 v279)
def Fspec_l3Put.l24 : Nat → (List Int) → Int → (List Int) → Bool → Int → Option (List Int)
  | 0, _, _, _, _, _ => none
  | k24 + 1, v228, v229, v230, v231, v232 => cond (decide (v232 < (v228.length : Int))) (cond (!v231) ((at? v228 v232).bind fun b282 => Fspec_l3Put.j30 (Fspec_l3Put.l24 k24) k24 v228 v229 v230 v231 v232 (decide (v229 < b282))) (Fspec_l3Put.j30 (Fspec_l3Put.l24 k24) k24 v228 v229 v230 v231 v232 false)) (cond (!v231) (cond (decide ((2 * (v230.length + ([v229] : List Int).length) + 192) * 8 ≤ 281474976710656)) (some (v230 ++ ([v229] : List Int))) none) (some v230))
def Fspec_l3Put (k : Nat) (a0 : List Int) (a1 : Int) : Option (List Int) := (Fspec_l3Has k a0 a1).bind fun r2 => cond r2 (some a0) (Fspec_l3Put.l24 k a0 a1 ([] : List Int) false (0 : Int))
theorem ent175 : MG.Enters Try.prog 175 := ⟨Try.f175, Try.func175, rfl, by decide⟩
set_option maxHeartbeats 8000000 in
set_option maxRecDepth 100000 in
theorem Fspec_l3Put_gives (k : Nat) (a0 : List Int) (a1 : Int) (r : List Int) (H : Fspec_l3Put k a0 a1 = some r) : Gives Try.prog 175 [V.one (Cell.sl true (List.map eI a0)), V.one (cI a1)] [] [V.one (Cell.sl true (List.map eI r))] [] := by
  refine Gives.intro Try.func175 rfl rfl rfl rfl ?_
  intro F hF hm
  unfold Fspec_l3Put at H
  obtain ⟨K, hK⟩ : ∃ K, k ≤ K := ⟨k, Nat.le_refl k⟩
  refine WpC.seq ?_
  refine WpC.regionL ?_
  refine L.assign hF rfl rfl rfl ?_
  refine L.nil ?_
  refine WpC.seq ?_
  refine WpC.seq ?_
  refine WpC.regionL ?_
  refine L.move hF rfl rfl rfl ?_
  refine L.move hF rfl rfl rfl ?_
  obtain ⟨r2, hr2, H⟩ := bindS H
  refine L.call [false, false] [] [] 2 hF rfl rfl rfl ent257 rfl rfl rfl rfl rfl (Fspec_l3Has_gives k true a0 a1 r2 hr2) rfl ?_
  refine L.nil ?_
  refine WpC.cond rfl (fun hc => ?_) (fun hc => ?_)
  · replace H := condT hc H
    refine WpC.seq ?_
    refine WpC.regionL ?_
    refine L.move hF rfl rfl rfl ?_
    refine L.assign hF rfl rfl rfl ?_
    refine L.nil ?_
    refine WpC.ret ?_
    cases H
    exact Leaves.ret rfl rfl rfl ⟨rfl, rfl⟩
  · replace H := condF hc H
    refine WpC.skip ?_
    refine WpC.seq ?_
    refine WpC.regionL ?_
    refine L.buildSlice (e := eI) 3 ([] : List Int) Try.underlying24 info3 rfl rfl rfl hF rfl rfl rfl rfl rfl rfl rfl rfl ?_
    refine L.assign hF rfl rfl rfl ?_
    refine L.nil ?_
    refine WpC.seq ?_
    refine WpC.regionL ?_
    refine L.assign hF rfl rfl rfl ?_
    refine L.nil ?_
    refine WpC.seq ?_
    refine WpC.seq ?_
    refine WpC.regionL ?_
    refine L.assign hF rfl rfl rfl ?_
    refine L.nil ?_
    refine WpC.block ?_
    refine WpC.loopL (P := Try.prog) (fun n σ => ∃ v228 : List Int, ∃ v229 : Int, ∃ v230 : List Int, ∃ v231 : Bool, ∃ v232 : Int, n ≤ K ∧ Fspec_l3Put.l24 n v228 v229 v230 v231 v232 = some r ∧ σ = mkSt [(0, MG.one (Cell.sl true (List.map eI v228))), (1, MG.one (cI v229)), (5, MG.one (Cell.own 0)), (6, MG.one (cL v231)), (7, MG.one (cI v232))] [(0, ⟨1, List.map eI v230⟩)] [] 1) k ⟨_, ⟨a0, a1, ([] : List Int), false, (0 : Int), by omega, H, rfl⟩, Le.mk [(0, 3)] hm rfl ⟨⟨_, rfl, rfl⟩, ⟨_, rfl, rfl⟩, ⟨_, rfl, rfl⟩, ⟨_, rfl, rfl⟩, ⟨_, rfl, rfl⟩, trivial⟩ ⟨⟨_, rfl, rfl⟩, trivial⟩ trivial⟩ ?_
    clear H
    rintro k24 _ ⟨v228, v229, v230, v231, v232, hk24, H, rfl⟩
    cases k24 with
    | zero => cases H
    | succ k24 =>
      rw [Fspec_l3Put.l24] at H
      refine WpC.seq ?_
      refine WpC.seq ?_
      refine WpC.regionL ?_
      refine L.move hF rfl rfl rfl ?_
      refine L.move hF rfl rfl rfl ?_
      refine L.lenR (xs := v228) (e := eI) Try.underlying24 hF rfl rfl rfl rfl ?_
      refine L.bin hF rfl rfl rfl rfl rfl rfl ?_
      refine L.nil ?_
      refine WpC.cond rfl (fun hc => ?_) (fun hc => ?_)
      · replace H := condT hc H
        refine WpC.skip ?_
        refine WpC.seq ?_
        refine WpC.block ?_
        refine WpC.join (fun σ => ∃ kj29 : Nat, ∃ v267 : List Int, ∃ v268 : Int, ∃ v269 : List Int, ∃ v270 : Bool, ∃ v271 : Int, kj29 ≤ K ∧ Fspec_l3Put.j29 (Fspec_l3Put.l24 k24) kj29 v267 v268 v269 v270 v271 = some r ∧ σ = mkSt [(0, MG.one (Cell.sl true (List.map eI v267))), (1, MG.one (cI v268)), (5, MG.one (Cell.own 0)), (6, MG.one (cL v270)), (7, MG.one (cI v271))] [(0, ⟨1, List.map eI v269⟩)] [] 1) ?_ ?_
        · rintro _ ⟨kj29, v267, v268, v269, v270, v271, hkj29, H, rfl⟩
          unfold Fspec_l3Put.j29 at H
          refine WpC.regionL ?_
          refine L.move hF rfl rfl rfl ?_
          refine L.move hF rfl rfl rfl ?_
          refine L.move hF rfl rfl rfl ?_
          obtain ⟨b272, hb272, H⟩ := bindS H
          refine L.idxR (xs := v267) (e := eI) Try.underlying24 info3 hF rfl rfl rfl rfl rfl hb272 rfl rfl ?_
          refine L.loadPe shape3 hF rfl rfl rfl rfl rfl ?_
          refine L.buildSlice (e := eI) 1 ([b272] : List Int) Try.underlying24 info3 rfl rfl rfl hF rfl rfl rfl rfl rfl rfl rfl rfl ?_
          obtain ⟨h273, H⟩ := condG H
          refine L.append (xs := v269) (ys := ([b272] : List Int)) (e := eI) 2 Try.underlying24 info3 rfl rfl hF rfl rfl rfl rfl rfl rfl rfl rfl (fun _ => rfl) (fun _ _ h1 h2 => by cases h1; cases h2; rfl) ⟨_, Try.underlying24⟩ (of_decide_eq_true h273) rfl rfl ?_
          refine L.assign hF rfl rfl rfl ?_
          refine L.nil ?_
          refine WpC.regionL ?_
          refine L.move hF rfl rfl rfl ?_
          refine L.bin hF rfl rfl rfl rfl rfl rfl ?_
          refine L.assign hF rfl rfl rfl ?_
          refine L.nil ?_
          exact ⟨k24, _, by omega, ⟨v267, v268, (v269 ++ ([b272] : List Int)), v270, (IntKind.i64.wrap (v271 + (1 : Int))), by omega, H, rfl⟩, Le.mk [(0, 2)] hm rfl ⟨⟨_, rfl, rfl⟩, ⟨_, rfl, rfl⟩, ⟨_, rfl, rfl⟩, ⟨_, rfl, rfl⟩, ⟨_, rfl, rfl⟩, trivial⟩ ⟨⟨_, rfl, rfl⟩, trivial⟩ trivial⟩
        · refine WpC.join (fun σ => ∃ kj30 : Nat, ∃ v275 : List Int, ∃ v276 : Int, ∃ v277 : List Int, ∃ v278 : Bool, ∃ v279 : Int, ∃ v280 : Bool, kj30 ≤ K ∧ Fspec_l3Put.j30 (Fspec_l3Put.l24 k24) kj30 v275 v276 v277 v278 v279 v280 = some r ∧ σ = mkSt [(0, MG.one (Cell.sl true (List.map eI v275))), (1, MG.one (cI v276)), (5, MG.one (Cell.own 0)), (6, MG.one (cL v278)), (7, MG.one (cI v279)), (28, MG.one (cL v280))] [(0, ⟨1, List.map eI v277⟩)] [] 1) ?_ ?_
          · rintro _ ⟨kj30, v275, v276, v277, v278, v279, v280, hkj30, H, rfl⟩
            unfold Fspec_l3Put.j30 at H
            refine WpC.cond rfl (fun hc => ?_) (fun hc => ?_)
            · replace H := condT hc H
              refine WpC.seq ?_
              refine WpC.regionL ?_
              refine L.move hF rfl rfl rfl ?_
              refine L.move hF rfl rfl rfl ?_
              refine L.buildSlice (e := eI) 1 ([v276] : List Int) Try.underlying24 info3 rfl rfl rfl hF rfl rfl rfl rfl rfl rfl rfl rfl ?_
              obtain ⟨h281, H⟩ := condG H
              refine L.append (xs := v277) (ys := ([v276] : List Int)) (e := eI) 2 Try.underlying24 info3 rfl rfl hF rfl rfl rfl rfl rfl rfl rfl rfl (fun _ => rfl) (fun _ _ h1 h2 => by cases h1; cases h2; rfl) ⟨_, Try.underlying24⟩ (of_decide_eq_true h281) rfl rfl ?_
              refine L.assign hF rfl rfl rfl ?_
              refine L.nil ?_
              refine WpC.regionL ?_
              refine L.assign hF rfl rfl rfl ?_
              refine L.nil ?_
              exact ⟨_, ⟨kj30, v275, v276, (v277 ++ ([v276] : List Int)), true, v279, by omega, H, rfl⟩, Le.mk [(0, 2)] hm rfl ⟨⟨_, rfl, rfl⟩, ⟨_, rfl, rfl⟩, ⟨_, rfl, rfl⟩, ⟨_, rfl, rfl⟩, ⟨_, rfl, rfl⟩, trivial⟩ ⟨⟨_, rfl, rfl⟩, trivial⟩ trivial⟩
            · replace H := condF hc H
              refine WpC.skip ?_
              exact ⟨_, ⟨kj30, v275, v276, v277, v278, v279, by omega, H, rfl⟩, Le.mk [(0, 0)] hm rfl ⟨⟨_, rfl, rfl⟩, ⟨_, rfl, rfl⟩, ⟨_, rfl, rfl⟩, ⟨_, rfl, rfl⟩, ⟨_, rfl, rfl⟩, trivial⟩ ⟨⟨_, rfl, rfl⟩, trivial⟩ trivial⟩
          · refine WpC.regionL ?_
            refine L.move hF rfl rfl rfl ?_
            refine L.not hF rfl rfl rfl ?_
            refine L.move hF rfl rfl rfl ?_
            refine L.split (fun hc => ?_) (fun hc => ?_)
            · replace H := condT hc H
              refine L.move hF rfl rfl rfl ?_
              refine L.move hF rfl rfl rfl ?_
              refine L.move hF rfl rfl rfl ?_
              obtain ⟨b282, hb282, H⟩ := bindS H
              refine L.idxR (xs := v228) (e := eI) Try.underlying24 info3 hF rfl rfl rfl rfl rfl hb282 rfl rfl ?_
              refine L.loadPe shape3 hF rfl rfl rfl rfl rfl ?_
              refine L.bin hF rfl rfl rfl rfl rfl rfl ?_
              refine L.pick hF rfl rfl rfl rfl ?_
              refine L.nil ?_
              exact ⟨_, ⟨k24, v228, v229, v230, v231, v232, (decide (v229 < b282)), by omega, H, rfl⟩, Le.mk [(0, 0)] hm rfl ⟨⟨_, rfl, rfl⟩, ⟨_, rfl, rfl⟩, ⟨_, rfl, rfl⟩, ⟨_, rfl, rfl⟩, ⟨_, rfl, rfl⟩, ⟨_, rfl, rfl⟩, trivial⟩ ⟨⟨_, rfl, rfl⟩, trivial⟩ trivial⟩
            · replace H := condF hc H
              refine L.off hF rfl rfl ?_
              refine L.off hF rfl rfl ?_
              refine L.off hF rfl rfl ?_
              refine L.off hF rfl rfl ?_
              refine L.off hF rfl rfl ?_
              refine L.off hF rfl rfl ?_
              refine L.pick hF rfl rfl rfl rfl ?_
              refine L.nil ?_
              exact ⟨_, ⟨k24, v228, v229, v230, v231, v232, false, by omega, H, rfl⟩, Le.mk [(0, 0)] hm rfl ⟨⟨_, rfl, rfl⟩, ⟨_, rfl, rfl⟩, ⟨_, rfl, rfl⟩, ⟨_, rfl, rfl⟩, ⟨_, rfl, rfl⟩, ⟨_, rfl, rfl⟩, trivial⟩ ⟨⟨_, rfl, rfl⟩, trivial⟩ trivial⟩
      · replace H := condF hc H
        refine WpC.exit ?_
        refine WpC.seq ?_
        refine WpC.seq ?_
        refine WpC.regionL ?_
        refine L.move hF rfl rfl rfl ?_
        refine L.not hF rfl rfl rfl ?_
        refine L.nil ?_
        refine WpC.cond rfl (fun hc => ?_) (fun hc => ?_)
        · replace H := condT hc H
          refine WpC.regionL ?_
          refine L.move hF rfl rfl rfl ?_
          refine L.move hF rfl rfl rfl ?_
          refine L.buildSlice (e := eI) 1 ([v229] : List Int) Try.underlying24 info3 rfl rfl rfl hF rfl rfl rfl rfl rfl rfl rfl rfl ?_
          obtain ⟨h284, H⟩ := condG H
          refine L.append (xs := v230) (ys := ([v229] : List Int)) (e := eI) 2 Try.underlying24 info3 rfl rfl hF rfl rfl rfl rfl rfl rfl rfl rfl (fun _ => rfl) (fun _ _ h1 h2 => by cases h1; cases h2; rfl) ⟨_, Try.underlying24⟩ (of_decide_eq_true h284) rfl rfl ?_
          refine L.assign hF rfl rfl rfl ?_
          refine L.nil ?_
          refine WpC.seq ?_
          refine WpC.regionL ?_
          refine L.move hF rfl rfl rfl ?_
          refine L.assign hF rfl rfl rfl ?_
          refine L.nil ?_
          refine WpC.le (Le.shareAll 2 rfl) ?_
          refine WpC.ret ?_
          cases H
          exact Leaves.ret rfl rfl rfl ⟨rfl, rfl⟩
        · replace H := condF hc H
          refine WpC.skip ?_
          refine WpC.seq ?_
          refine WpC.regionL ?_
          refine L.move hF rfl rfl rfl ?_
          refine L.assign hF rfl rfl rfl ?_
          refine L.nil ?_
          refine WpC.le (Le.shareAll 0 rfl) ?_
          refine WpC.ret ?_
          cases H
          exact Leaves.ret rfl rfl rfl ⟨rfl, rfl⟩
/-! ### Fspec_RealmOf -/
def Fspec_RealmOf (k : Nat) (a0 : Timpl_Config) (a1 : Int) : Option Int := (Fspec_ConfigOk k a0).bind fun r7 => cond (!r7) (some (-1 : Int)) ((Fspec_l5Principal k a1).bind fun r8 => cond (!r8) (some (-1 : Int)) (cond (decide (a1 < (3 : Int))) ((at? a0.UserRealm a1).bind fun b10 => some b10) ((at? a0.ServiceRealm (IntKind.i64.wrap (a1 - (3 : Int)))).bind fun b11 => some b11)))
theorem ent153 : MG.Enters Try.prog 153 := ⟨Try.f153, Try.func153, rfl, by decide⟩
set_option maxHeartbeats 8000000 in
set_option maxRecDepth 100000 in
theorem Fspec_RealmOf_gives (k : Nat) (g0 : Bool) (g1 : Bool) (g2 : Bool) (g3 : Bool) (a0 : Timpl_Config) (a1 : Int) (r : Int) (H : Fspec_RealmOf k a0 a1 = some r) : Gives Try.prog 153 [V.agg [Cell.sl g0 (List.map eI a0.UserRealm), Cell.sl g1 (List.map eI a0.ServiceRealm), Cell.sl g2 (List.map eTimpl_Pair a0.Links), Cell.sl g3 (List.map eTimpl_Pair a0.Proxy), cI a0.Skew], V.one (cI a1)] [] [V.one (cI r)] [] := by
  refine Gives.intro Try.func153 rfl rfl rfl rfl ?_
  intro F hF hm
  unfold Fspec_RealmOf at H
  obtain ⟨K, hK⟩ : ∃ K, k ≤ K := ⟨k, Nat.le_refl k⟩
  refine WpC.seq ?_
  refine WpC.regionL ?_
  refine L.box 6 hF rfl rfl rfl rfl ?_
  refine L.assign hF rfl rfl rfl ?_
  refine L.nil ?_
  refine WpC.seq ?_
  refine WpC.seq ?_
  refine WpC.regionL ?_
  refine L.loadPtr shape90 hF rfl rfl rfl rfl rfl rfl ?_
  obtain ⟨r7, hr7, H⟩ := bindS H
  refine L.call [false] [] [] 7 hF rfl rfl rfl ent150 rfl rfl rfl rfl rfl (Fspec_ConfigOk_gives k g0 g1 g2 g3 a0 r7 hr7) rfl ?_
  refine L.not hF rfl rfl rfl ?_
  refine L.move hF rfl rfl rfl ?_
  refine L.split (fun hc => ?_) (fun hc => ?_)
  · replace H := condT hc H
    refine L.off hF rfl rfl ?_
    refine L.off hF rfl rfl ?_
    refine L.off hF rfl rfl ?_
    refine L.pick hF rfl rfl rfl rfl ?_
    refine L.nil ?_
    refine WpC.cond rfl (fun _ => ?_) (fun hc => by cases hc)
    refine WpC.seq ?_
    refine WpC.regionL ?_
    refine L.assign hF rfl rfl rfl ?_
    refine L.nil ?_
    refine WpC.ret ?_
    cases H
    exact Leaves.ret rfl rfl rfl ⟨rfl, rfl⟩
  · replace H := condF hc H
    refine L.move hF rfl rfl rfl ?_
    obtain ⟨r8, hr8, H⟩ := bindS H
    refine L.call [false] [] [] 8 hF rfl rfl rfl ent142 rfl rfl rfl rfl rfl (Fspec_l5Principal_gives k  a1 r8 hr8) rfl ?_
    refine L.not hF rfl rfl rfl ?_
    refine L.pick hF rfl rfl rfl rfl ?_
    refine L.nil ?_
    refine WpC.cond rfl (fun hc => ?_) (fun hc => ?_)
    · replace H := condT hc H
      refine WpC.seq ?_
      refine WpC.regionL ?_
      refine L.assign hF rfl rfl rfl ?_
      refine L.nil ?_
      refine WpC.ret ?_
      cases H
      exact Leaves.ret rfl rfl rfl ⟨rfl, rfl⟩
    · replace H := condF hc H
      refine WpC.skip ?_
      refine WpC.seq ?_
      refine WpC.seq ?_
      refine WpC.regionL ?_
      refine L.move hF rfl rfl rfl ?_
      refine L.bin hF rfl rfl rfl rfl rfl rfl ?_
      refine L.nil ?_
      refine WpC.cond rfl (fun hc => ?_) (fun hc => ?_)
      · replace H := condT hc H
        refine WpC.seq ?_
        refine WpC.regionL ?_
        refine L.fieldAddr Try.underlying90 rfl info24 rfl hF rfl rfl rfl rfl rfl ?_
        refine L.loadPtr shape24 hF rfl rfl rfl rfl rfl rfl ?_
        refine L.move hF rfl rfl rfl ?_
        obtain ⟨b10, hb10, H⟩ := bindS H
        refine L.idxR (xs := a0.UserRealm) (e := eI) Try.underlying24 info3 hF rfl rfl rfl rfl rfl hb10 rfl rfl ?_
        refine L.loadPe shape3 hF rfl rfl rfl rfl rfl ?_
        refine L.assign hF rfl rfl rfl ?_
        refine L.nil ?_
        refine WpC.ret ?_
        cases H
        exact Leaves.ret rfl rfl rfl ⟨rfl, rfl⟩
      · replace H := condF hc H
        refine WpC.skip ?_
        refine WpC.seq ?_
        refine WpC.regionL ?_
        refine L.fieldAddr Try.underlying90 rfl info24 rfl hF rfl rfl rfl rfl rfl ?_
        refine L.loadPtr shape24 hF rfl rfl rfl rfl rfl rfl ?_
        refine L.move hF rfl rfl rfl ?_
        refine L.bin hF rfl rfl rfl rfl rfl rfl ?_
        obtain ⟨b11, hb11, H⟩ := bindS H
        refine L.idxR (xs := a0.ServiceRealm) (e := eI) Try.underlying24 info3 hF rfl rfl rfl rfl rfl hb11 rfl rfl ?_
        refine L.loadPe shape3 hF rfl rfl rfl rfl rfl ?_
        refine L.assign hF rfl rfl rfl ?_
        refine L.nil ?_
        refine WpC.ret ?_
        cases H
        exact Leaves.ret rfl rfl rfl ⟨rfl, rfl⟩
/-! ### Fspec_l6Realm -/
def Fspec_l6Realm (k : Nat) (a0 : Int) : Option Bool := cond (decide (a0 ≥ (0 : Int))) (some (decide (a0 < (3 : Int)))) (some false)
theorem ent177 : MG.Enters Try.prog 177 := ⟨Try.f177, Try.func177, rfl, by decide⟩
set_option maxHeartbeats 8000000 in
set_option maxRecDepth 100000 in
theorem Fspec_l6Realm_gives (k : Nat) (a0 : Int) (r : Bool) (H : Fspec_l6Realm k a0 = some r) : Gives Try.prog 177 [V.one (cI a0)] [] [V.one (cL r)] [] := by
  refine Gives.intro Try.func177 rfl rfl rfl rfl ?_
  intro F hF hm
  unfold Fspec_l6Realm at H
  obtain ⟨K, hK⟩ : ∃ K, k ≤ K := ⟨k, Nat.le_refl k⟩
  refine WpC.seq ?_
  refine WpC.regionL ?_
  refine L.assign hF rfl rfl rfl ?_
  refine L.nil ?_
  refine WpC.seq ?_
  refine WpC.regionL ?_
  refine L.move hF rfl rfl rfl ?_
  refine L.bin hF rfl rfl rfl rfl rfl rfl ?_
  refine L.move hF rfl rfl rfl ?_
  refine L.split (fun hc => ?_) (fun hc => ?_)
  · replace H := condT hc H
    refine L.move hF rfl rfl rfl ?_
    refine L.bin hF rfl rfl rfl rfl rfl rfl ?_
    refine L.pick hF rfl rfl rfl rfl ?_
    refine L.assign hF rfl rfl rfl ?_
    refine L.nil ?_
    refine WpC.ret ?_
    cases H
    exact Leaves.ret rfl rfl rfl ⟨rfl, rfl⟩
  · replace H := condF hc H
    refine L.off hF rfl rfl ?_
    refine L.off hF rfl rfl ?_
    refine L.pick hF rfl rfl rfl rfl ?_
    refine L.assign hF rfl rfl rfl ?_
    refine L.nil ?_
    refine WpC.ret ?_
    cases H
    exact Leaves.ret rfl rfl rfl ⟨rfl, rfl⟩
/-! ### Fspec_CentreKey -/
def Fspec_CentreKey (k : Nat) (a0 : Int) : Option Int := (Fspec_l6Realm k a0).bind fun r2 => cond (!r2) (some (0 : Int)) (some (IntKind.i64.wrap ((21 : Int) + a0)))
theorem ent178 : MG.Enters Try.prog 178 := ⟨Try.f178, Try.func178, rfl, by decide⟩
set_option maxHeartbeats 8000000 in
set_option maxRecDepth 100000 in
theorem Fspec_CentreKey_gives (k : Nat) (a0 : Int) (r : Int) (H : Fspec_CentreKey k a0 = some r) : Gives Try.prog 178 [V.one (cI a0)] [] [V.one (cI r)] [] := by
  refine Gives.intro Try.func178 rfl rfl rfl rfl ?_
  intro F hF hm
  unfold Fspec_CentreKey at H
  obtain ⟨K, hK⟩ : ∃ K, k ≤ K := ⟨k, Nat.le_refl k⟩
  refine WpC.seq ?_
  refine WpC.regionL ?_
  refine L.assign hF rfl rfl rfl ?_
  refine L.nil ?_
  refine WpC.seq ?_
  refine WpC.seq ?_
  refine WpC.regionL ?_
  refine L.move hF rfl rfl rfl ?_
  obtain ⟨r2, hr2, H⟩ := bindS H
  refine L.call [false] [] [] 1 hF rfl rfl rfl ent177 rfl rfl rfl rfl rfl (Fspec_l6Realm_gives k  a0 r2 hr2) rfl ?_
  refine L.not hF rfl rfl rfl ?_
  refine L.nil ?_
  refine WpC.cond rfl (fun hc => ?_) (fun hc => ?_)
  · replace H := condT hc H
    refine WpC.seq ?_
    refine WpC.regionL ?_
    refine L.assign hF rfl rfl rfl ?_
    refine L.nil ?_
    refine WpC.ret ?_
    cases H
    exact Leaves.ret rfl rfl rfl ⟨rfl, rfl⟩
  · replace H := condF hc H
    refine WpC.skip ?_
    refine WpC.seq ?_
    refine WpC.regionL ?_
    refine L.move hF rfl rfl rfl ?_
    refine L.bin hF rfl rfl rfl rfl rfl rfl ?_
    refine L.assign hF rfl rfl rfl ?_
    refine L.nil ?_
    refine WpC.ret ?_
    cases H
    exact Leaves.ret rfl rfl rfl ⟨rfl, rfl⟩
/-! ### Fspec_LinkKey -/
def Fspec_LinkKey (k : Nat) (a0 : Int) (a1 : Int) : Option Int := (Fspec_l6Realm k a0).bind fun r7 => cond (!r7) (some (0 : Int)) ((Fspec_l6Realm k a1).bind fun r8 => cond (!r8) (some (0 : Int)) (some (IntKind.i64.wrap ((IntKind.i64.wrap ((31 : Int) + (IntKind.i64.wrap ((3 : Int) * a0)))) + a1))))
theorem ent179 : MG.Enters Try.prog 179 := ⟨Try.f179, Try.func179, rfl, by decide⟩
set_option maxHeartbeats 8000000 in
set_option maxRecDepth 100000 in
theorem Fspec_LinkKey_gives (k : Nat) (a0 : Int) (a1 : Int) (r : Int) (H : Fspec_LinkKey k a0 a1 = some r) : Gives Try.prog 179 [V.one (cI a0), V.one (cI a1)] [] [V.one (cI r)] [] := by
  refine Gives.intro Try.func179 rfl rfl rfl rfl ?_
  intro F hF hm
  unfold Fspec_LinkKey at H
  obtain ⟨K, hK⟩ : ∃ K, k ≤ K := ⟨k, Nat.le_refl k⟩
  refine WpC.seq ?_
  refine WpC.regionL ?_
  refine L.assign hF rfl rfl rfl ?_
  refine L.nil ?_
  refine WpC.seq ?_
  refine WpC.seq ?_
  refine WpC.regionL ?_
  refine L.move hF rfl rfl rfl ?_
  obtain ⟨r7, hr7, H⟩ := bindS H
  refine L.call [false] [] [] 2 hF rfl rfl rfl ent177 rfl rfl rfl rfl rfl (Fspec_l6Realm_gives k  a0 r7 hr7) rfl ?_
  refine L.not hF rfl rfl rfl ?_
  refine L.move hF rfl rfl rfl ?_
  refine L.split (fun hc => ?_) (fun hc => ?_)
  · replace H := condT hc H
    refine L.off hF rfl rfl ?_
    refine L.off hF rfl rfl ?_
    refine L.off hF rfl rfl ?_
    refine L.pick hF rfl rfl rfl rfl ?_
    refine L.nil ?_
    refine WpC.cond rfl (fun _ => ?_) (fun hc => by cases hc)
    refine WpC.seq ?_
    refine WpC.regionL ?_
    refine L.assign hF rfl rfl rfl ?_
    refine L.nil ?_
    refine WpC.ret ?_
    cases H
    exact Leaves.ret rfl rfl rfl ⟨rfl, rfl⟩
  · replace H := condF hc H
    refine L.move hF rfl rfl rfl ?_
    obtain ⟨r8, hr8, H⟩ := bindS H
    refine L.call [false] [] [] 3 hF rfl rfl rfl ent177 rfl rfl rfl rfl rfl (Fspec_l6Realm_gives k  a1 r8 hr8) rfl ?_
    refine L.not hF rfl rfl rfl ?_
    refine L.pick hF rfl rfl rfl rfl ?_
    refine L.nil ?_
    refine WpC.cond rfl (fun hc => ?_) (fun hc => ?_)
    · replace H := condT hc H
      refine WpC.seq ?_
      refine WpC.regionL ?_
      refine L.assign hF rfl rfl rfl ?_
      refine L.nil ?_
      refine WpC.ret ?_
      cases H
      exact Leaves.ret rfl rfl rfl ⟨rfl, rfl⟩
    · replace H := condF hc H
      refine WpC.skip ?_
      refine WpC.seq ?_
      refine WpC.regionL ?_
      refine L.move hF rfl rfl rfl ?_
      refine L.bin hF rfl rfl rfl rfl rfl rfl ?_
      refine L.bin hF rfl rfl rfl rfl rfl rfl ?_
      refine L.move hF rfl rfl rfl ?_
      refine L.bin hF rfl rfl rfl rfl rfl rfl ?_
      refine L.assign hF rfl rfl rfl ?_
      refine L.nil ?_
      refine WpC.ret ?_
      cases H
      exact Leaves.ret rfl rfl rfl ⟨rfl, rfl⟩
end Go.Proofs.Ytcolcmjcjpikcaa.M
