import Derived.Test.YtcolcmjcjpikcaaMgZc
import Derived.Test.YtcolcmjcjpikcaaProg
namespace Go.Proofs.Ytcolcmjcjpikcaa.M
open Go Go.MG
set_option linter.unusedVariables false
set_option linter.unusedSimpArgs false
structure Timpl_Rest where
  Servers : Int
  Ops : Int
  End : Int
def eTimpl_Rest (x : Timpl_Rest) : List Cell := [cI x.Servers, cI x.Ops, cI x.End]
structure Tlaws_Pair where
  A : Int
  B : Int
def eTlaws_Pair (x : Tlaws_Pair) : List Cell := [cI x.A, cI x.B]
structure Tlaws_Config where
  UserRealm : List Int
  ServiceRealm : List Int
  Links : List Tlaws_Pair
  Proxy : List Tlaws_Pair
  Skew : Int
def eTlaws_Config (x : Tlaws_Config) : List Cell := [Cell.sl true (List.map eI x.UserRealm), Cell.sl true (List.map eI x.ServiceRealm), Cell.sl true (List.map eTlaws_Pair x.Links), Cell.sl true (List.map eTlaws_Pair x.Proxy), cI x.Skew]
structure Tlaws_Rest where
  Servers : Int
  Ops : Int
  End : Int
def eTlaws_Rest (x : Tlaws_Rest) : List Cell := [cI x.Servers, cI x.Ops, cI x.End]
structure Timpl_Act where
  Kind : Int
  A : Int
  B : Int
  C : Int
  D : Int
  Rest : Timpl_Rest
  Text : List UInt8
def eTimpl_Act (x : Timpl_Act) : List Cell := [cI x.Kind, cI x.A, cI x.B, cI x.C, cI x.D, cI x.Rest.Servers, cI x.Rest.Ops, cI x.Rest.End, cS x.Text]
structure Timpl_Pair where
  A : Int
  B : Int
def eTimpl_Pair (x : Timpl_Pair) : List Cell := [cI x.A, cI x.B]
structure Timpl_Config where
  UserRealm : List Int
  ServiceRealm : List Int
  Links : List Timpl_Pair
  Proxy : List Timpl_Pair
  Skew : Int
def eTimpl_Config (x : Timpl_Config) : List Cell := [Cell.sl true (List.map eI x.UserRealm), Cell.sl true (List.map eI x.ServiceRealm), Cell.sl true (List.map eTimpl_Pair x.Links), Cell.sl true (List.map eTimpl_Pair x.Proxy), cI x.Skew]
theorem mixed : Try.prog.follows .mixedOrders = true := by kernel_rfl
theorem shape3 : MG.shape Try.prog 3 = some (false, 1) := by kernel_rfl
theorem shape9 : MG.shape Try.prog 9 = some (false, 1) := by kernel_rfl
theorem shape24 : MG.shape Try.prog 24 = some (false, 1) := by kernel_rfl
theorem shape74 : MG.shape Try.prog 74 = some (true, 3) := by kernel_rfl
theorem shape81 : MG.shape Try.prog 81 = some (false, 1) := by kernel_rfl
theorem shape83 : MG.shape Try.prog 83 = some (true, 5) := by kernel_rfl
theorem shape84 : MG.shape Try.prog 84 = some (true, 3) := by kernel_rfl
theorem shape88 : MG.shape Try.prog 88 = some (false, 1) := by kernel_rfl
theorem shape90 : MG.shape Try.prog 90 = some (true, 5) := by kernel_rfl
theorem shape195 : MG.shape Try.prog 195 = some (true, 9) := by kernel_rfl
theorem shape256 : MG.shape Try.prog 256 = some (true, 2) := by kernel_rfl
theorem shape258 : MG.shape Try.prog 258 = some (true, 2) := by kernel_rfl
theorem info3 : Try.prog.info? 3 = some Try.t3 := by kernel_rfl
theorem info5 : Try.prog.info? 5 = some Try.t5 := by kernel_rfl
theorem info9 : Try.prog.info? 9 = some Try.t9 := by kernel_rfl
theorem info24 : Try.prog.info? 24 = some Try.t24 := by kernel_rfl
theorem info74 : Try.prog.info? 74 = some Try.t74 := by kernel_rfl
theorem info81 : Try.prog.info? 81 = some Try.t81 := by kernel_rfl
theorem info88 : Try.prog.info? 88 = some Try.t88 := by kernel_rfl
theorem info90 : Try.prog.info? 90 = some Try.t90 := by kernel_rfl
theorem info195 : Try.prog.info? 195 = some Try.t195 := by kernel_rfl
theorem info256 : Try.prog.info? 256 = some Try.t256 := by kernel_rfl
theorem info258 : Try.prog.info? 258 = some Try.t258 := by kernel_rfl
theorem built195 : builtA Try.prog 195 = fillA (fun x => ([(0, 1), (1, 1), (2, 1), (3, 1), (4, 1), (5, 3), (8, 1)] : List (Nat × Nat))[x]?) [cI (0 : Int), cI (0 : Int), cI (0 : Int), cI (0 : Int), cI (0 : Int), cI (0 : Int), cI (0 : Int), cI (0 : Int), cS ([] : List UInt8)] := by kernel_rfl
theorem built256 : builtA Try.prog 256 = fillA (fun x => ([(0, 1), (1, 1)] : List (Nat × Nat))[x]?) [cI (0 : Int), cI (0 : Int)] := by kernel_rfl
abbrev bx (a b c d : Int) : List Cell := [cI a, cI b, cI c, cI d]
theorem S3 {π : Nat → Option Nat} {σ : St} {t0 t1 t2 : Nat} {s0 u0 s1 u1 s2 u2 : Slot} (h0 : renS π s0 = some u0) (g0 : σ.slots t0 = some u0) (h1 : renS π s1 = some u1) (g1 : σ.slots t1 = some u1) (h2 : renS π s2 = some u2) (g2 : σ.slots t2 = some u2) : SlotsOk π σ [(t0, s0), (t1, s1), (t2, s2)] := ⟨⟨_, h0, g0⟩, ⟨_, h1, g1⟩, ⟨_, h2, g2⟩, trivial⟩
theorem S4 {π : Nat → Option Nat} {σ : St} {t0 t1 t2 t3 : Nat} {s0 u0 s1 u1 s2 u2 s3 u3 : Slot} (h0 : renS π s0 = some u0) (g0 : σ.slots t0 = some u0) (h1 : renS π s1 = some u1) (g1 : σ.slots t1 = some u1) (h2 : renS π s2 = some u2) (g2 : σ.slots t2 = some u2) (h3 : renS π s3 = some u3) (g3 : σ.slots t3 = some u3) : SlotsOk π σ [(t0, s0), (t1, s1), (t2, s2), (t3, s3)] := ⟨⟨_, h0, g0⟩, ⟨_, h1, g1⟩, ⟨_, h2, g2⟩, ⟨_, h3, g3⟩, trivial⟩
theorem S5 {π : Nat → Option Nat} {σ : St} {t0 t1 t2 t3 t4 : Nat} {s0 u0 s1 u1 s2 u2 s3 u3 s4 u4 : Slot} (h0 : renS π s0 = some u0) (g0 : σ.slots t0 = some u0) (h1 : renS π s1 = some u1) (g1 : σ.slots t1 = some u1) (h2 : renS π s2 = some u2) (g2 : σ.slots t2 = some u2) (h3 : renS π s3 = some u3) (g3 : σ.slots t3 = some u3) (h4 : renS π s4 = some u4) (g4 : σ.slots t4 = some u4) : SlotsOk π σ [(t0, s0), (t1, s1), (t2, s2), (t3, s3), (t4, s4)] := ⟨⟨_, h0, g0⟩, ⟨_, h1, g1⟩, ⟨_, h2, g2⟩, ⟨_, h3, g3⟩, ⟨_, h4, g4⟩, trivial⟩
theorem S6 {π : Nat → Option Nat} {σ : St} {t0 t1 t2 t3 t4 t5 : Nat} {s0 u0 s1 u1 s2 u2 s3 u3 s4 u4 s5 u5 : Slot} (h0 : renS π s0 = some u0) (g0 : σ.slots t0 = some u0) (h1 : renS π s1 = some u1) (g1 : σ.slots t1 = some u1) (h2 : renS π s2 = some u2) (g2 : σ.slots t2 = some u2) (h3 : renS π s3 = some u3) (g3 : σ.slots t3 = some u3) (h4 : renS π s4 = some u4) (g4 : σ.slots t4 = some u4) (h5 : renS π s5 = some u5) (g5 : σ.slots t5 = some u5) : SlotsOk π σ [(t0, s0), (t1, s1), (t2, s2), (t3, s3), (t4, s4), (t5, s5)] := ⟨⟨_, h0, g0⟩, ⟨_, h1, g1⟩, ⟨_, h2, g2⟩, ⟨_, h3, g3⟩, ⟨_, h4, g4⟩, ⟨_, h5, g5⟩, trivial⟩
theorem S7 {π : Nat → Option Nat} {σ : St} {t0 t1 t2 t3 t4 t5 t6 : Nat} {s0 u0 s1 u1 s2 u2 s3 u3 s4 u4 s5 u5 s6 u6 : Slot} (h0 : renS π s0 = some u0) (g0 : σ.slots t0 = some u0) (h1 : renS π s1 = some u1) (g1 : σ.slots t1 = some u1) (h2 : renS π s2 = some u2) (g2 : σ.slots t2 = some u2) (h3 : renS π s3 = some u3) (g3 : σ.slots t3 = some u3) (h4 : renS π s4 = some u4) (g4 : σ.slots t4 = some u4) (h5 : renS π s5 = some u5) (g5 : σ.slots t5 = some u5) (h6 : renS π s6 = some u6) (g6 : σ.slots t6 = some u6) : SlotsOk π σ [(t0, s0), (t1, s1), (t2, s2), (t3, s3), (t4, s4), (t5, s5), (t6, s6)] := ⟨⟨_, h0, g0⟩, ⟨_, h1, g1⟩, ⟨_, h2, g2⟩, ⟨_, h3, g3⟩, ⟨_, h4, g4⟩, ⟨_, h5, g5⟩, ⟨_, h6, g6⟩, trivial⟩
theorem S8 {π : Nat → Option Nat} {σ : St} {t0 t1 t2 t3 t4 t5 t6 t7 : Nat} {s0 u0 s1 u1 s2 u2 s3 u3 s4 u4 s5 u5 s6 u6 s7 u7 : Slot} (h0 : renS π s0 = some u0) (g0 : σ.slots t0 = some u0) (h1 : renS π s1 = some u1) (g1 : σ.slots t1 = some u1) (h2 : renS π s2 = some u2) (g2 : σ.slots t2 = some u2) (h3 : renS π s3 = some u3) (g3 : σ.slots t3 = some u3) (h4 : renS π s4 = some u4) (g4 : σ.slots t4 = some u4) (h5 : renS π s5 = some u5) (g5 : σ.slots t5 = some u5) (h6 : renS π s6 = some u6) (g6 : σ.slots t6 = some u6) (h7 : renS π s7 = some u7) (g7 : σ.slots t7 = some u7) : SlotsOk π σ [(t0, s0), (t1, s1), (t2, s2), (t3, s3), (t4, s4), (t5, s5), (t6, s6), (t7, s7)] := ⟨⟨_, h0, g0⟩, ⟨_, h1, g1⟩, ⟨_, h2, g2⟩, ⟨_, h3, g3⟩, ⟨_, h4, g4⟩, ⟨_, h5, g5⟩, ⟨_, h6, g6⟩, ⟨_, h7, g7⟩, trivial⟩
theorem S9 {π : Nat → Option Nat} {σ : St} {t0 t1 t2 t3 t4 t5 t6 t7 t8 : Nat} {s0 u0 s1 u1 s2 u2 s3 u3 s4 u4 s5 u5 s6 u6 s7 u7 s8 u8 : Slot} (h0 : renS π s0 = some u0) (g0 : σ.slots t0 = some u0) (h1 : renS π s1 = some u1) (g1 : σ.slots t1 = some u1) (h2 : renS π s2 = some u2) (g2 : σ.slots t2 = some u2) (h3 : renS π s3 = some u3) (g3 : σ.slots t3 = some u3) (h4 : renS π s4 = some u4) (g4 : σ.slots t4 = some u4) (h5 : renS π s5 = some u5) (g5 : σ.slots t5 = some u5) (h6 : renS π s6 = some u6) (g6 : σ.slots t6 = some u6) (h7 : renS π s7 = some u7) (g7 : σ.slots t7 = some u7) (h8 : renS π s8 = some u8) (g8 : σ.slots t8 = some u8) : SlotsOk π σ [(t0, s0), (t1, s1), (t2, s2), (t3, s3), (t4, s4), (t5, s5), (t6, s6), (t7, s7), (t8, s8)] := ⟨⟨_, h0, g0⟩, ⟨_, h1, g1⟩, ⟨_, h2, g2⟩, ⟨_, h3, g3⟩, ⟨_, h4, g4⟩, ⟨_, h5, g5⟩, ⟨_, h6, g6⟩, ⟨_, h7, g7⟩, ⟨_, h8, g8⟩, trivial⟩
theorem S10 {π : Nat → Option Nat} {σ : St} {t0 t1 t2 t3 t4 t5 t6 t7 t8 t9 : Nat} {s0 u0 s1 u1 s2 u2 s3 u3 s4 u4 s5 u5 s6 u6 s7 u7 s8 u8 s9 u9 : Slot} (h0 : renS π s0 = some u0) (g0 : σ.slots t0 = some u0) (h1 : renS π s1 = some u1) (g1 : σ.slots t1 = some u1) (h2 : renS π s2 = some u2) (g2 : σ.slots t2 = some u2) (h3 : renS π s3 = some u3) (g3 : σ.slots t3 = some u3) (h4 : renS π s4 = some u4) (g4 : σ.slots t4 = some u4) (h5 : renS π s5 = some u5) (g5 : σ.slots t5 = some u5) (h6 : renS π s6 = some u6) (g6 : σ.slots t6 = some u6) (h7 : renS π s7 = some u7) (g7 : σ.slots t7 = some u7) (h8 : renS π s8 = some u8) (g8 : σ.slots t8 = some u8) (h9 : renS π s9 = some u9) (g9 : σ.slots t9 = some u9) : SlotsOk π σ [(t0, s0), (t1, s1), (t2, s2), (t3, s3), (t4, s4), (t5, s5), (t6, s6), (t7, s7), (t8, s8), (t9, s9)] := ⟨⟨_, h0, g0⟩, ⟨_, h1, g1⟩, ⟨_, h2, g2⟩, ⟨_, h3, g3⟩, ⟨_, h4, g4⟩, ⟨_, h5, g5⟩, ⟨_, h6, g6⟩, ⟨_, h7, g7⟩, ⟨_, h8, g8⟩, ⟨_, h9, g9⟩, trivial⟩
theorem S11 {π : Nat → Option Nat} {σ : St} {t0 t1 t2 t3 t4 t5 t6 t7 t8 t9 t10 : Nat} {s0 u0 s1 u1 s2 u2 s3 u3 s4 u4 s5 u5 s6 u6 s7 u7 s8 u8 s9 u9 s10 u10 : Slot} (h0 : renS π s0 = some u0) (g0 : σ.slots t0 = some u0) (h1 : renS π s1 = some u1) (g1 : σ.slots t1 = some u1) (h2 : renS π s2 = some u2) (g2 : σ.slots t2 = some u2) (h3 : renS π s3 = some u3) (g3 : σ.slots t3 = some u3) (h4 : renS π s4 = some u4) (g4 : σ.slots t4 = some u4) (h5 : renS π s5 = some u5) (g5 : σ.slots t5 = some u5) (h6 : renS π s6 = some u6) (g6 : σ.slots t6 = some u6) (h7 : renS π s7 = some u7) (g7 : σ.slots t7 = some u7) (h8 : renS π s8 = some u8) (g8 : σ.slots t8 = some u8) (h9 : renS π s9 = some u9) (g9 : σ.slots t9 = some u9) (h10 : renS π s10 = some u10) (g10 : σ.slots t10 = some u10) : SlotsOk π σ [(t0, s0), (t1, s1), (t2, s2), (t3, s3), (t4, s4), (t5, s5), (t6, s6), (t7, s7), (t8, s8), (t9, s9), (t10, s10)] := ⟨⟨_, h0, g0⟩, ⟨_, h1, g1⟩, ⟨_, h2, g2⟩, ⟨_, h3, g3⟩, ⟨_, h4, g4⟩, ⟨_, h5, g5⟩, ⟨_, h6, g6⟩, ⟨_, h7, g7⟩, ⟨_, h8, g8⟩, ⟨_, h9, g9⟩, ⟨_, h10, g10⟩, trivial⟩
theorem S12 {π : Nat → Option Nat} {σ : St} {t0 t1 t2 t3 t4 t5 t6 t7 t8 t9 t10 t11 : Nat} {s0 u0 s1 u1 s2 u2 s3 u3 s4 u4 s5 u5 s6 u6 s7 u7 s8 u8 s9 u9 s10 u10 s11 u11 : Slot} (h0 : renS π s0 = some u0) (g0 : σ.slots t0 = some u0) (h1 : renS π s1 = some u1) (g1 : σ.slots t1 = some u1) (h2 : renS π s2 = some u2) (g2 : σ.slots t2 = some u2) (h3 : renS π s3 = some u3) (g3 : σ.slots t3 = some u3) (h4 : renS π s4 = some u4) (g4 : σ.slots t4 = some u4) (h5 : renS π s5 = some u5) (g5 : σ.slots t5 = some u5) (h6 : renS π s6 = some u6) (g6 : σ.slots t6 = some u6) (h7 : renS π s7 = some u7) (g7 : σ.slots t7 = some u7) (h8 : renS π s8 = some u8) (g8 : σ.slots t8 = some u8) (h9 : renS π s9 = some u9) (g9 : σ.slots t9 = some u9) (h10 : renS π s10 = some u10) (g10 : σ.slots t10 = some u10) (h11 : renS π s11 = some u11) (g11 : σ.slots t11 = some u11) : SlotsOk π σ [(t0, s0), (t1, s1), (t2, s2), (t3, s3), (t4, s4), (t5, s5), (t6, s6), (t7, s7), (t8, s8), (t9, s9), (t10, s10), (t11, s11)] := ⟨⟨_, h0, g0⟩, ⟨_, h1, g1⟩, ⟨_, h2, g2⟩, ⟨_, h3, g3⟩, ⟨_, h4, g4⟩, ⟨_, h5, g5⟩, ⟨_, h6, g6⟩, ⟨_, h7, g7⟩, ⟨_, h8, g8⟩, ⟨_, h9, g9⟩, ⟨_, h10, g10⟩, ⟨_, h11, g11⟩, trivial⟩
theorem S13 {π : Nat → Option Nat} {σ : St} {t0 t1 t2 t3 t4 t5 t6 t7 t8 t9 t10 t11 t12 : Nat} {s0 u0 s1 u1 s2 u2 s3 u3 s4 u4 s5 u5 s6 u6 s7 u7 s8 u8 s9 u9 s10 u10 s11 u11 s12 u12 : Slot} (h0 : renS π s0 = some u0) (g0 : σ.slots t0 = some u0) (h1 : renS π s1 = some u1) (g1 : σ.slots t1 = some u1) (h2 : renS π s2 = some u2) (g2 : σ.slots t2 = some u2) (h3 : renS π s3 = some u3) (g3 : σ.slots t3 = some u3) (h4 : renS π s4 = some u4) (g4 : σ.slots t4 = some u4) (h5 : renS π s5 = some u5) (g5 : σ.slots t5 = some u5) (h6 : renS π s6 = some u6) (g6 : σ.slots t6 = some u6) (h7 : renS π s7 = some u7) (g7 : σ.slots t7 = some u7) (h8 : renS π s8 = some u8) (g8 : σ.slots t8 = some u8) (h9 : renS π s9 = some u9) (g9 : σ.slots t9 = some u9) (h10 : renS π s10 = some u10) (g10 : σ.slots t10 = some u10) (h11 : renS π s11 = some u11) (g11 : σ.slots t11 = some u11) (h12 : renS π s12 = some u12) (g12 : σ.slots t12 = some u12) : SlotsOk π σ [(t0, s0), (t1, s1), (t2, s2), (t3, s3), (t4, s4), (t5, s5), (t6, s6), (t7, s7), (t8, s8), (t9, s9), (t10, s10), (t11, s11), (t12, s12)] := ⟨⟨_, h0, g0⟩, ⟨_, h1, g1⟩, ⟨_, h2, g2⟩, ⟨_, h3, g3⟩, ⟨_, h4, g4⟩, ⟨_, h5, g5⟩, ⟨_, h6, g6⟩, ⟨_, h7, g7⟩, ⟨_, h8, g8⟩, ⟨_, h9, g9⟩, ⟨_, h10, g10⟩, ⟨_, h11, g11⟩, ⟨_, h12, g12⟩, trivial⟩
theorem S14 {π : Nat → Option Nat} {σ : St} {t0 t1 t2 t3 t4 t5 t6 t7 t8 t9 t10 t11 t12 t13 : Nat} {s0 u0 s1 u1 s2 u2 s3 u3 s4 u4 s5 u5 s6 u6 s7 u7 s8 u8 s9 u9 s10 u10 s11 u11 s12 u12 s13 u13 : Slot} (h0 : renS π s0 = some u0) (g0 : σ.slots t0 = some u0) (h1 : renS π s1 = some u1) (g1 : σ.slots t1 = some u1) (h2 : renS π s2 = some u2) (g2 : σ.slots t2 = some u2) (h3 : renS π s3 = some u3) (g3 : σ.slots t3 = some u3) (h4 : renS π s4 = some u4) (g4 : σ.slots t4 = some u4) (h5 : renS π s5 = some u5) (g5 : σ.slots t5 = some u5) (h6 : renS π s6 = some u6) (g6 : σ.slots t6 = some u6) (h7 : renS π s7 = some u7) (g7 : σ.slots t7 = some u7) (h8 : renS π s8 = some u8) (g8 : σ.slots t8 = some u8) (h9 : renS π s9 = some u9) (g9 : σ.slots t9 = some u9) (h10 : renS π s10 = some u10) (g10 : σ.slots t10 = some u10) (h11 : renS π s11 = some u11) (g11 : σ.slots t11 = some u11) (h12 : renS π s12 = some u12) (g12 : σ.slots t12 = some u12) (h13 : renS π s13 = some u13) (g13 : σ.slots t13 = some u13) : SlotsOk π σ [(t0, s0), (t1, s1), (t2, s2), (t3, s3), (t4, s4), (t5, s5), (t6, s6), (t7, s7), (t8, s8), (t9, s9), (t10, s10), (t11, s11), (t12, s12), (t13, s13)] := ⟨⟨_, h0, g0⟩, ⟨_, h1, g1⟩, ⟨_, h2, g2⟩, ⟨_, h3, g3⟩, ⟨_, h4, g4⟩, ⟨_, h5, g5⟩, ⟨_, h6, g6⟩, ⟨_, h7, g7⟩, ⟨_, h8, g8⟩, ⟨_, h9, g9⟩, ⟨_, h10, g10⟩, ⟨_, h11, g11⟩, ⟨_, h12, g12⟩, ⟨_, h13, g13⟩, trivial⟩
theorem B2 {π : Nat → Option Nat} {σ : St} {k0 q0 k1 q1 : Nat} {c0 d0 c1 d1 : List Cell} (h0 : π k0 = some q0) (g0 : renCs π c0 = some d0) (e0 : σ.H.boxes q0 = some d0) (h1 : π k1 = some q1) (g1 : renCs π c1 = some d1) (e1 : σ.H.boxes q1 = some d1) : BoxesOk π σ [(k0, c0), (k1, c1)] := ⟨⟨_, _, h0, g0, e0⟩, ⟨_, _, h1, g1, e1⟩, trivial⟩
theorem B3 {π : Nat → Option Nat} {σ : St} {k0 q0 k1 q1 k2 q2 : Nat} {c0 d0 c1 d1 c2 d2 : List Cell} (h0 : π k0 = some q0) (g0 : renCs π c0 = some d0) (e0 : σ.H.boxes q0 = some d0) (h1 : π k1 = some q1) (g1 : renCs π c1 = some d1) (e1 : σ.H.boxes q1 = some d1) (h2 : π k2 = some q2) (g2 : renCs π c2 = some d2) (e2 : σ.H.boxes q2 = some d2) : BoxesOk π σ [(k0, c0), (k1, c1), (k2, c2)] := ⟨⟨_, _, h0, g0, e0⟩, ⟨_, _, h1, g1, e1⟩, ⟨_, _, h2, g2, e2⟩, trivial⟩
theorem B4 {π : Nat → Option Nat} {σ : St} {k0 q0 k1 q1 k2 q2 k3 q3 : Nat} {c0 d0 c1 d1 c2 d2 c3 d3 : List Cell} (h0 : π k0 = some q0) (g0 : renCs π c0 = some d0) (e0 : σ.H.boxes q0 = some d0) (h1 : π k1 = some q1) (g1 : renCs π c1 = some d1) (e1 : σ.H.boxes q1 = some d1) (h2 : π k2 = some q2) (g2 : renCs π c2 = some d2) (e2 : σ.H.boxes q2 = some d2) (h3 : π k3 = some q3) (g3 : renCs π c3 = some d3) (e3 : σ.H.boxes q3 = some d3) : BoxesOk π σ [(k0, c0), (k1, c1), (k2, c2), (k3, c3)] := ⟨⟨_, _, h0, g0, e0⟩, ⟨_, _, h1, g1, e1⟩, ⟨_, _, h2, g2, e2⟩, ⟨_, _, h3, g3, e3⟩, trivial⟩
theorem B5 {π : Nat → Option Nat} {σ : St} {k0 q0 k1 q1 k2 q2 k3 q3 k4 q4 : Nat} {c0 d0 c1 d1 c2 d2 c3 d3 c4 d4 : List Cell} (h0 : π k0 = some q0) (g0 : renCs π c0 = some d0) (e0 : σ.H.boxes q0 = some d0) (h1 : π k1 = some q1) (g1 : renCs π c1 = some d1) (e1 : σ.H.boxes q1 = some d1) (h2 : π k2 = some q2) (g2 : renCs π c2 = some d2) (e2 : σ.H.boxes q2 = some d2) (h3 : π k3 = some q3) (g3 : renCs π c3 = some d3) (e3 : σ.H.boxes q3 = some d3) (h4 : π k4 = some q4) (g4 : renCs π c4 = some d4) (e4 : σ.H.boxes q4 = some d4) : BoxesOk π σ [(k0, c0), (k1, c1), (k2, c2), (k3, c3), (k4, c4)] := ⟨⟨_, _, h0, g0, e0⟩, ⟨_, _, h1, g1, e1⟩, ⟨_, _, h2, g2, e2⟩, ⟨_, _, h3, g3, e3⟩, ⟨_, _, h4, g4, e4⟩, trivial⟩
theorem B6 {π : Nat → Option Nat} {σ : St} {k0 q0 k1 q1 k2 q2 k3 q3 k4 q4 k5 q5 : Nat} {c0 d0 c1 d1 c2 d2 c3 d3 c4 d4 c5 d5 : List Cell} (h0 : π k0 = some q0) (g0 : renCs π c0 = some d0) (e0 : σ.H.boxes q0 = some d0) (h1 : π k1 = some q1) (g1 : renCs π c1 = some d1) (e1 : σ.H.boxes q1 = some d1) (h2 : π k2 = some q2) (g2 : renCs π c2 = some d2) (e2 : σ.H.boxes q2 = some d2) (h3 : π k3 = some q3) (g3 : renCs π c3 = some d3) (e3 : σ.H.boxes q3 = some d3) (h4 : π k4 = some q4) (g4 : renCs π c4 = some d4) (e4 : σ.H.boxes q4 = some d4) (h5 : π k5 = some q5) (g5 : renCs π c5 = some d5) (e5 : σ.H.boxes q5 = some d5) : BoxesOk π σ [(k0, c0), (k1, c1), (k2, c2), (k3, c3), (k4, c4), (k5, c5)] := ⟨⟨_, _, h0, g0, e0⟩, ⟨_, _, h1, g1, e1⟩, ⟨_, _, h2, g2, e2⟩, ⟨_, _, h3, g3, e3⟩, ⟨_, _, h4, g4, e4⟩, ⟨_, _, h5, g5, e5⟩, trivial⟩
/-! ### Flaws_szIntS -/
def Flaws_szIntS (k : Nat) (a0 : List Int) (a1 : Int) : Option Int := cond (decide ((IntKind.i64.wrap (a1 - (a0.length : Int))) < (0 : Int))) (some (-1 : Int)) (some (IntKind.i64.wrap (a1 - (a0.length : Int))))
theorem ent148 : Enters Try.prog 148 := ⟨Try.f148, Try.func148, rfl, by decide⟩
set_option maxHeartbeats 8000000 in
set_option maxRecDepth 100000 in
theorem Flaws_szIntS_gives (k : Nat) (g0 : Bool) (a0 : List Int) (a1 : Int) (r : Int) (H : Flaws_szIntS k a0 a1 = some r) : Gives Try.prog 148 [V.one (Cell.sl g0 (List.map eI a0)), V.one (cI a1)] [] [V.one (cI r)] [] := by
  refine Gives.intro Try.func148 rfl rfl rfl rfl ?_
  intro F hF hm
  unfold Flaws_szIntS at H
  obtain ⟨K, hK⟩ : ∃ K, k ≤ K := ⟨k, Nat.le_refl k⟩
  refine WpC.seq ?_
  refine WpC.regionL ?_
  refine L.assign hF rfl rfl rfl ?_
  refine L.nil ?_
  refine WpC.seq ?_
  refine WpC.regionL ?_
  refine L.move hF rfl rfl rfl ?_
  refine L.move hF rfl rfl rfl ?_
  refine L.lenR (xs := a0) (e := eI) Try.underlying24 hF rfl rfl rfl rfl ?_
  refine L.bin hF rfl rfl rfl rfl rfl rfl ?_
  refine L.assign hF rfl rfl rfl ?_
  refine L.nil ?_
  refine WpC.seq ?_
  refine WpC.seq ?_
  refine WpC.regionL ?_
  refine L.move hF rfl rfl rfl ?_
  refine L.bin hF rfl rfl rfl rfl rfl rfl ?_
  refine L.nil ?_
  refine WpC.cond rfl (fun hc => ?_) (fun hc => ?_)
  · replace H := condT hc H
    refine WpC.seq ?_
    refine WpC.regionL ?_
    refine L.assign hF rfl rfl rfl ?_
    refine L.nil ?_
    refine WpC.ret ?_
    cases H
    exact Leaves.ret rfl rfl rfl ⟨rfl, rfl⟩
  · replace H := condF hc H
    refine WpC.skip ?_
    refine WpC.seq ?_
    refine WpC.regionL ?_
    refine L.move hF rfl rfl rfl ?_
    refine L.assign hF rfl rfl rfl ?_
    refine L.nil ?_
    refine WpC.ret ?_
    cases H
    exact Leaves.ret rfl rfl rfl ⟨rfl, rfl⟩
/-! ### Flaws_szPairS -/
def Flaws_szPairS (k : Nat) (a0 : List Tlaws_Pair) (a1 : Int) : Option Int := cond (decide ((IntKind.i64.wrap (a1 - (a0.length : Int))) < (0 : Int))) (some (-1 : Int)) (some (IntKind.i64.wrap (a1 - (a0.length : Int))))
theorem ent149 : Enters Try.prog 149 := ⟨Try.f149, Try.func149, rfl, by decide⟩
set_option maxHeartbeats 8000000 in
set_option maxRecDepth 100000 in
theorem Flaws_szPairS_gives (k : Nat) (g0 : Bool) (a0 : List Tlaws_Pair) (a1 : Int) (r : Int) (H : Flaws_szPairS k a0 a1 = some r) : Gives Try.prog 149 [V.one (Cell.sl g0 (List.map eTlaws_Pair a0)), V.one (cI a1)] [] [V.one (cI r)] [] := by
  refine Gives.intro Try.func149 rfl rfl rfl rfl ?_
  intro F hF hm
  unfold Flaws_szPairS at H
  obtain ⟨K, hK⟩ : ∃ K, k ≤ K := ⟨k, Nat.le_refl k⟩
  refine WpC.seq ?_
  refine WpC.regionL ?_
  refine L.assign hF rfl rfl rfl ?_
  refine L.nil ?_
  refine WpC.seq ?_
  refine WpC.regionL ?_
  refine L.move hF rfl rfl rfl ?_
  refine L.move hF rfl rfl rfl ?_
  refine L.lenR (xs := a0) (e := eTlaws_Pair) Try.underlying81 hF rfl rfl rfl rfl ?_
  refine L.bin hF rfl rfl rfl rfl rfl rfl ?_
  refine L.assign hF rfl rfl rfl ?_
  refine L.nil ?_
  refine WpC.seq ?_
  refine WpC.seq ?_
  refine WpC.regionL ?_
  refine L.move hF rfl rfl rfl ?_
  refine L.bin hF rfl rfl rfl rfl rfl rfl ?_
  refine L.nil ?_
  refine WpC.cond rfl (fun hc => ?_) (fun hc => ?_)
  · replace H := condT hc H
    refine WpC.seq ?_
    refine WpC.regionL ?_
    refine L.assign hF rfl rfl rfl ?_
    refine L.nil ?_
    refine WpC.ret ?_
    cases H
    exact Leaves.ret rfl rfl rfl ⟨rfl, rfl⟩
  · replace H := condF hc H
    refine WpC.skip ?_
    refine WpC.seq ?_
    refine WpC.regionL ?_
    refine L.move hF rfl rfl rfl ?_
    refine L.assign hF rfl rfl rfl ?_
    refine L.nil ?_
    refine WpC.ret ?_
    cases H
    exact Leaves.ret rfl rfl rfl ⟨rfl, rfl⟩
/-! ### Flaws_szConfig -/
def Flaws_szConfig (k : Nat) (a0 : Tlaws_Config) (a1 : Int) : Option Int := (Flaws_szIntS k a0.UserRealm a1).bind fun r1 => cond (decide (r1 < (0 : Int))) (some (-1 : Int)) ((Flaws_szIntS k a0.ServiceRealm r1).bind fun r2 => cond (decide (r2 < (0 : Int))) (some (-1 : Int)) ((Flaws_szPairS k a0.Links r2).bind fun r3 => cond (decide (r3 < (0 : Int))) (some (-1 : Int)) ((Flaws_szPairS k a0.Proxy r3).bind fun r4 => cond (decide (r4 < (0 : Int))) (some (-1 : Int)) (some r4))))
theorem ent69 : Enters Try.prog 69 := ⟨Try.f69, Try.func69, rfl, by decide⟩
set_option maxHeartbeats 8000000 in
set_option maxRecDepth 100000 in
theorem Flaws_szConfig_gives (k : Nat) (g0 : Bool) (g1 : Bool) (g2 : Bool) (g3 : Bool) (a0 : Tlaws_Config) (a1 : Int) (r : Int) (H : Flaws_szConfig k a0 a1 = some r) : Gives Try.prog 69 [V.agg [Cell.sl g0 (List.map eI a0.UserRealm), Cell.sl g1 (List.map eI a0.ServiceRealm), Cell.sl g2 (List.map eTlaws_Pair a0.Links), Cell.sl g3 (List.map eTlaws_Pair a0.Proxy), cI a0.Skew], V.one (cI a1)] [] [V.one (cI r)] [] := by
  refine Gives.intro Try.func69 rfl rfl rfl rfl ?_
  intro F hF hm
  unfold Flaws_szConfig at H
  obtain ⟨K, hK⟩ : ∃ K, k ≤ K := ⟨k, Nat.le_refl k⟩
  refine WpC.seq ?_
  refine WpC.regionL ?_
  refine L.box 6 hF rfl rfl rfl rfl ?_
  refine L.assign hF rfl rfl rfl ?_
  refine L.nil ?_
  refine WpC.seq ?_
  refine WpC.regionL ?_
  refine L.fieldAddr Try.underlying83 rfl info24 rfl hF rfl rfl rfl rfl rfl ?_
  refine L.loadPtr shape24 hF rfl rfl rfl rfl rfl rfl ?_
  refine L.move hF rfl rfl rfl ?_
  obtain ⟨r1, hr1, H⟩ := bindS H
  refine L.call [false, false] [] [] 7 hF rfl rfl rfl ent148 rfl rfl rfl rfl rfl (Flaws_szIntS_gives k g0 a0.UserRealm a1 r1 hr1) rfl ?_
  refine L.assign hF rfl rfl rfl ?_
  refine L.nil ?_
  refine WpC.seq ?_
  refine WpC.seq ?_
  refine WpC.regionL ?_
  refine L.move hF rfl rfl rfl ?_
  refine L.bin hF rfl rfl rfl rfl rfl rfl ?_
  refine L.nil ?_
  refine WpC.cond rfl (fun hc => ?_) (fun hc => ?_)
  · replace H := condT hc H
    refine WpC.seq ?_
    refine WpC.regionL ?_
    refine L.assign hF rfl rfl rfl ?_
    refine L.nil ?_
    refine WpC.ret ?_
    cases H
    exact Leaves.ret rfl rfl rfl ⟨rfl, rfl⟩
  · replace H := condF hc H
    refine WpC.skip ?_
    refine WpC.seq ?_
    refine WpC.regionL ?_
    refine L.fieldAddr Try.underlying83 rfl info24 rfl hF rfl rfl rfl rfl rfl ?_
    refine L.loadPtr shape24 hF rfl rfl rfl rfl rfl rfl ?_
    refine L.move hF rfl rfl rfl ?_
    obtain ⟨r2, hr2, H⟩ := bindS H
    refine L.call [false, false] [] [] 8 hF rfl rfl rfl ent148 rfl rfl rfl rfl rfl (Flaws_szIntS_gives k g1 a0.ServiceRealm r1 r2 hr2) rfl ?_
    refine L.assign hF rfl rfl rfl ?_
    refine L.nil ?_
    refine WpC.seq ?_
    refine WpC.seq ?_
    refine WpC.regionL ?_
    refine L.move hF rfl rfl rfl ?_
    refine L.bin hF rfl rfl rfl rfl rfl rfl ?_
    refine L.nil ?_
    refine WpC.cond rfl (fun hc => ?_) (fun hc => ?_)
    · replace H := condT hc H
      refine WpC.seq ?_
      refine WpC.regionL ?_
      refine L.assign hF rfl rfl rfl ?_
      refine L.nil ?_
      refine WpC.ret ?_
      cases H
      exact Leaves.ret rfl rfl rfl ⟨rfl, rfl⟩
    · replace H := condF hc H
      refine WpC.skip ?_
      refine WpC.seq ?_
      refine WpC.regionL ?_
      refine L.fieldAddr Try.underlying83 rfl info81 rfl hF rfl rfl rfl rfl rfl ?_
      refine L.loadPtr shape81 hF rfl rfl rfl rfl rfl rfl ?_
      refine L.move hF rfl rfl rfl ?_
      obtain ⟨r3, hr3, H⟩ := bindS H
      refine L.call [false, false] [] [] 9 hF rfl rfl rfl ent149 rfl rfl rfl rfl rfl (Flaws_szPairS_gives k g2 a0.Links r2 r3 hr3) rfl ?_
      refine L.assign hF rfl rfl rfl ?_
      refine L.nil ?_
      refine WpC.seq ?_
      refine WpC.seq ?_
      refine WpC.regionL ?_
      refine L.move hF rfl rfl rfl ?_
      refine L.bin hF rfl rfl rfl rfl rfl rfl ?_
      refine L.nil ?_
      refine WpC.cond rfl (fun hc => ?_) (fun hc => ?_)
      · replace H := condT hc H
        refine WpC.seq ?_
        refine WpC.regionL ?_
        refine L.assign hF rfl rfl rfl ?_
        refine L.nil ?_
        refine WpC.ret ?_
        cases H
        exact Leaves.ret rfl rfl rfl ⟨rfl, rfl⟩
      · replace H := condF hc H
        refine WpC.skip ?_
        refine WpC.seq ?_
        refine WpC.regionL ?_
        refine L.fieldAddr Try.underlying83 rfl info81 rfl hF rfl rfl rfl rfl rfl ?_
        refine L.loadPtr shape81 hF rfl rfl rfl rfl rfl rfl ?_
        refine L.move hF rfl rfl rfl ?_
        obtain ⟨r4, hr4, H⟩ := bindS H
        refine L.call [false, false] [] [] 10 hF rfl rfl rfl ent149 rfl rfl rfl rfl rfl (Flaws_szPairS_gives k g3 a0.Proxy r3 r4 hr4) rfl ?_
        refine L.assign hF rfl rfl rfl ?_
        refine L.nil ?_
        refine WpC.seq ?_
        refine WpC.seq ?_
        refine WpC.regionL ?_
        refine L.move hF rfl rfl rfl ?_
        refine L.bin hF rfl rfl rfl rfl rfl rfl ?_
        refine L.nil ?_
        refine WpC.cond rfl (fun hc => ?_) (fun hc => ?_)
        · replace H := condT hc H
          refine WpC.seq ?_
          refine WpC.regionL ?_
          refine L.assign hF rfl rfl rfl ?_
          refine L.nil ?_
          refine WpC.ret ?_
          cases H
          exact Leaves.ret rfl rfl rfl ⟨rfl, rfl⟩
        · replace H := condF hc H
          refine WpC.skip ?_
          refine WpC.seq ?_
          refine WpC.regionL ?_
          refine L.move hF rfl rfl rfl ?_
          refine L.assign hF rfl rfl rfl ?_
          refine L.nil ?_
          refine WpC.ret ?_
          cases H
          exact Leaves.ret rfl rfl rfl ⟨rfl, rfl⟩
/-! ### Flaws_toIntS -/
def Flaws_toIntS.l2 : Nat → (List Int) → (List Int) → Int → Option (List Int)
  | 0, _, _, _ => none
  | k2 + 1, v35, v36, v37 => cond (decide (v37 < (v35.length : Int))) ((at? v35 v37).bind fun b40 => (at? v36 v37).bind fun b41 => (Flaws_toIntS.l2 k2) v35 (v36.set v37.toNat b40) (IntKind.i64.wrap (v37 + (1 : Int)))) (some v36)
def Flaws_toIntS (k : Nat) (a0 : List Int) : Option (List Int) := cond (decide (0 ≤ (a0.length : Int) ∧ (a0.length : Int) ≤ (a0.length : Int) ∧ 8 * (a0.length : Int) ≤ 281474976710656 ∧ (a0.length : Int) ≤ 9223372036854775807)) (Flaws_toIntS.l2 k a0 (List.replicate (a0.length : Int).toNat (0 : Int)) (0 : Int)) none
theorem ent54 : Enters Try.prog 54 := ⟨Try.f54, Try.func54, rfl, by decide⟩
set_option maxHeartbeats 8000000 in
set_option maxRecDepth 100000 in
theorem Flaws_toIntS_gives (k : Nat) (g0 : Bool) (a0 : List Int) (r : List Int) (H : Flaws_toIntS k a0 = some r) : Gives Try.prog 54 [V.one (Cell.sl g0 (List.map eI a0))] [] [V.one (Cell.ow 1 (List.map eI r))] [] := by
  refine Gives.intro Try.func54 rfl rfl rfl rfl ?_
  intro F hF hm
  unfold Flaws_toIntS at H
  obtain ⟨K, hK⟩ : ∃ K, k ≤ K := ⟨k, Nat.le_refl k⟩
  refine WpC.seq ?_
  refine WpC.regionL ?_
  refine L.assign hF rfl rfl rfl ?_
  refine L.nil ?_
  refine WpC.seq ?_
  refine WpC.regionL ?_
  refine L.move hF rfl rfl rfl ?_
  refine L.lenR (xs := a0) (e := eI) Try.underlying24 hF rfl rfl rfl rfl ?_
  obtain ⟨h1, H⟩ := condG H
  refine L.makeSlice (e := eI) 1 (0 : Int) Try.underlying24 info3 rfl rfl rfl hF rfl rfl rfl rfl (of_decide_eq_true h1) rfl rfl ?_
  refine L.assign hF rfl rfl rfl ?_
  refine L.nil ?_
  refine WpC.seq ?_
  refine WpC.seq ?_
  refine WpC.regionL ?_
  refine L.assign hF rfl rfl rfl ?_
  refine L.nil ?_
  refine WpC.block ?_
  refine WpC.loopL (P := Try.prog) (fun n σ => ∃ v35 : List Int, ∃ v36 : List Int, ∃ v37 : Int, n ≤ K ∧ Flaws_toIntS.l2 n v35 v36 v37 = some r ∧ σ = mkSt [(0, one (Cell.sl g0 (List.map eI v35))), (3, one (Cell.own 0)), (4, one (cI v37))] [(0, ⟨1, List.map eI v36⟩)] [] 1) k ⟨_, ⟨a0, (List.replicate (a0.length : Int).toNat (0 : Int)), (0 : Int), by omega, H, rfl⟩, Le.mk [(0, 1)] hm rfl ⟨⟨_, rfl, rfl⟩, ⟨_, rfl, rfl⟩, ⟨_, rfl, rfl⟩, trivial⟩ ⟨⟨_, rfl, rfl⟩, trivial⟩ trivial⟩ ?_
  clear H
  rintro k2 _ ⟨v35, v36, v37, hk2, H, rfl⟩
  cases k2 with
  | zero => cases H
  | succ k2 =>
    rw [Flaws_toIntS.l2] at H
    refine WpC.seq ?_
    refine WpC.seq ?_
    refine WpC.regionL ?_
    refine L.move hF rfl rfl rfl ?_
    refine L.move hF rfl rfl rfl ?_
    refine L.lenR (xs := v35) (e := eI) Try.underlying24 hF rfl rfl rfl rfl ?_
    refine L.bin hF rfl rfl rfl rfl rfl rfl ?_
    refine L.nil ?_
    refine WpC.cond rfl (fun hc => ?_) (fun hc => ?_)
    · replace H := condT hc H
      refine WpC.skip ?_
      refine WpC.seq ?_
      refine WpC.block ?_
      refine WpC.regionL ?_
      refine L.move hF rfl rfl rfl ?_
      refine L.move hF rfl rfl rfl ?_
      refine L.move hF rfl rfl rfl ?_
      refine L.move hF rfl rfl rfl ?_
      obtain ⟨b40, hb40, H⟩ := bindS H
      refine L.idxR (xs := v35) (e := eI) Try.underlying24 info3 hF rfl rfl rfl rfl rfl hb40 rfl rfl ?_
      refine L.loadPe shape3 hF rfl rfl rfl rfl rfl ?_
      obtain ⟨b41, hb41, H⟩ := bindS H
      refine L.idxR (xs := v36) (e := eI) Try.underlying24 info3 hF rfl rfl rfl rfl rfl hb41 rfl rfl ?_
      refine L.storeEp (xs := v36) (e := eI) (a' := b40) shape3 hF rfl rfl rfl rfl rfl rfl rfl (at?_get hb41).2 rfl rfl ?_
      refine L.nil ?_
      refine WpC.regionL ?_
      refine L.move hF rfl rfl rfl ?_
      refine L.bin hF rfl rfl rfl rfl rfl rfl ?_
      refine L.assign hF rfl rfl rfl ?_
      refine L.nil ?_
      exact ⟨k2, _, by omega, ⟨v35, (v36.set v37.toNat b40), (IntKind.i64.wrap (v37 + (1 : Int))), by omega, H, rfl⟩, Le.mk [(0, 0)] hm rfl ⟨⟨_, rfl, rfl⟩, ⟨_, rfl, rfl⟩, ⟨_, rfl, rfl⟩, trivial⟩ ⟨⟨_, rfl, rfl⟩, trivial⟩ trivial⟩
    · replace H := condF hc H
      refine WpC.exit ?_
      refine WpC.seq ?_
      refine WpC.regionL ?_
      refine L.move hF rfl rfl rfl ?_
      refine L.assign hF rfl rfl rfl ?_
      refine L.nil ?_
      refine WpC.ret ?_
      cases H
      exact Leaves.ret rfl rfl rfl ⟨rfl, rfl⟩
/-! ### Flaws_toPair -/
def Flaws_toPair (k : Nat) (a0 : Tlaws_Pair) : Option Timpl_Pair := some (⟨a0.A, a0.B⟩ : Timpl_Pair)
theorem ent245 : Enters Try.prog 245 := ⟨Try.f245, Try.func245, rfl, by decide⟩
set_option maxHeartbeats 8000000 in
set_option maxRecDepth 100000 in
theorem Flaws_toPair_gives (k : Nat) (a0 : Tlaws_Pair) (r : Timpl_Pair) (H : Flaws_toPair k a0 = some r) : Gives Try.prog 245 [V.agg [cI a0.A, cI a0.B]] [] [V.agg [cI r.A, cI r.B]] [] := by
  refine Gives.intro Try.func245 rfl rfl rfl rfl ?_
  intro F hF hm
  unfold Flaws_toPair at H
  obtain ⟨K, hK⟩ : ∃ K, k ≤ K := ⟨k, Nat.le_refl k⟩
  refine WpC.seq ?_
  refine WpC.regionL ?_
  refine L.box 2 hF rfl rfl rfl rfl ?_
  refine L.alloc 3 info256 rfl hF rfl rfl rfl rfl ?_
  refine L.nil ?_
  refine WpC.seq ?_
  refine WpC.regionL ?_
  refine L.alloc 4 info256 rfl hF rfl rfl rfl rfl ?_
  refine L.nil ?_
  refine WpC.seq ?_
  refine WpC.regionL ?_
  refine L.fieldAddr Try.underlying258 rfl info3 rfl hF rfl rfl rfl rfl rfl ?_
  refine L.loadPtr shape3 hF rfl rfl rfl rfl rfl rfl ?_
  refine L.fieldAddr Try.underlying256 rfl info3 rfl hF rfl rfl rfl rfl rfl ?_
  refine L.storePtr shape3 hF rfl rfl rfl rfl rfl rfl rfl ?_
  refine L.nil ?_
  refine WpC.seq ?_
  refine WpC.regionL ?_
  refine L.fieldAddr Try.underlying258 rfl info3 rfl hF rfl rfl rfl rfl rfl ?_
  refine L.loadPtr shape3 hF rfl rfl rfl rfl rfl rfl ?_
  refine L.fieldAddr Try.underlying256 rfl info3 rfl hF rfl rfl rfl rfl rfl ?_
  refine L.storePtr shape3 hF rfl rfl rfl rfl rfl rfl rfl ?_
  refine L.nil ?_
  refine WpC.seq ?_
  refine WpC.regionL ?_
  refine L.loadPtr shape256 hF rfl rfl rfl rfl rfl rfl ?_
  refine L.storePtr shape256 hF rfl rfl rfl rfl rfl rfl rfl ?_
  refine L.nil ?_
  refine WpC.ret ?_
  cases H
  exact Leaves.ret rfl rfl rfl ⟨rfl, rfl⟩
/-! ### Flaws_toPairS -/
def Flaws_toPairS.l2 : Nat → (List Tlaws_Pair) → (List Timpl_Pair) → Int → Option (List Timpl_Pair)
  | 0, _, _, _ => none
  | k2 + 1, v45, v46, v47 => cond (decide (v47 < (v45.length : Int))) ((at? v45 v47).bind fun b51 => (Flaws_toPair k2 b51).bind fun r52 => (at? v46 v47).bind fun b53 => (Flaws_toPairS.l2 k2) v45 (v46.set v47.toNat r52) (IntKind.i64.wrap (v47 + (1 : Int)))) (some v46)
def Flaws_toPairS (k : Nat) (a0 : List Tlaws_Pair) : Option (List Timpl_Pair) := cond (decide (0 ≤ (a0.length : Int) ∧ (a0.length : Int) ≤ (a0.length : Int) ∧ 16 * (a0.length : Int) ≤ 281474976710656 ∧ (a0.length : Int) ≤ 9223372036854775807)) (Flaws_toPairS.l2 k a0 (List.replicate (a0.length : Int).toNat (⟨(0 : Int), (0 : Int)⟩ : Timpl_Pair)) (0 : Int)) none
theorem ent155 : Enters Try.prog 155 := ⟨Try.f155, Try.func155, rfl, by decide⟩
set_option maxHeartbeats 8000000 in
set_option maxRecDepth 100000 in
theorem Flaws_toPairS_gives (k : Nat) (g0 : Bool) (a0 : List Tlaws_Pair) (r : List Timpl_Pair) (H : Flaws_toPairS k a0 = some r) : Gives Try.prog 155 [V.one (Cell.sl g0 (List.map eTlaws_Pair a0))] [] [V.one (Cell.ow 2 (List.map eTimpl_Pair r))] [] := by
  refine Gives.intro Try.func155 rfl rfl rfl rfl ?_
  intro F hF hm
  unfold Flaws_toPairS at H
  obtain ⟨K, hK⟩ : ∃ K, k ≤ K := ⟨k, Nat.le_refl k⟩
  refine WpC.seq ?_
  refine WpC.regionL ?_
  refine L.assign hF rfl rfl rfl ?_
  refine L.nil ?_
  refine WpC.seq ?_
  refine WpC.regionL ?_
  refine L.move hF rfl rfl rfl ?_
  refine L.lenR (xs := a0) (e := eTlaws_Pair) Try.underlying81 hF rfl rfl rfl rfl ?_
  obtain ⟨h1, H⟩ := condG H
  refine L.makeSlice (e := eTimpl_Pair) 1 (⟨(0 : Int), (0 : Int)⟩ : Timpl_Pair) Try.underlying88 info256 rfl rfl rfl hF rfl rfl rfl rfl (of_decide_eq_true h1) rfl rfl ?_
  refine L.assign hF rfl rfl rfl ?_
  refine L.nil ?_
  refine WpC.seq ?_
  refine WpC.seq ?_
  refine WpC.regionL ?_
  refine L.assign hF rfl rfl rfl ?_
  refine L.nil ?_
  refine WpC.block ?_
  refine WpC.loopL (P := Try.prog) (fun n σ => ∃ v45 : List Tlaws_Pair, ∃ v46 : List Timpl_Pair, ∃ v47 : Int, n ≤ K ∧ Flaws_toPairS.l2 n v45 v46 v47 = some r ∧ σ = mkSt [(0, one (Cell.sl g0 (List.map eTlaws_Pair v45))), (3, one (Cell.own 0)), (4, one (cI v47))] [(0, ⟨2, List.map eTimpl_Pair v46⟩)] [] 1) k ⟨_, ⟨a0, (List.replicate (a0.length : Int).toNat (⟨(0 : Int), (0 : Int)⟩ : Timpl_Pair)), (0 : Int), by omega, H, rfl⟩, Le.mk [(0, 1)] hm rfl ⟨⟨_, rfl, rfl⟩, ⟨_, rfl, rfl⟩, ⟨_, rfl, rfl⟩, trivial⟩ ⟨⟨_, rfl, rfl⟩, trivial⟩ trivial⟩ ?_
  clear H
  rintro k2 _ ⟨v45, v46, v47, hk2, H, rfl⟩
  cases k2 with
  | zero => cases H
  | succ k2 =>
    rw [Flaws_toPairS.l2] at H
    refine WpC.seq ?_
    refine WpC.seq ?_
    refine WpC.regionL ?_
    refine L.move hF rfl rfl rfl ?_
    refine L.move hF rfl rfl rfl ?_
    refine L.lenR (xs := v45) (e := eTlaws_Pair) Try.underlying81 hF rfl rfl rfl rfl ?_
    refine L.bin hF rfl rfl rfl rfl rfl rfl ?_
    refine L.nil ?_
    refine WpC.cond rfl (fun hc => ?_) (fun hc => ?_)
    · replace H := condT hc H
      refine WpC.skip ?_
      refine WpC.seq ?_
      refine WpC.block ?_
      refine WpC.regionL ?_
      refine L.move hF rfl rfl rfl ?_
      refine L.move hF rfl rfl rfl ?_
      refine L.move hF rfl rfl rfl ?_
      refine L.move hF rfl rfl rfl ?_
      obtain ⟨b51, hb51, H⟩ := bindS H
      refine L.idxR (xs := v45) (e := eTlaws_Pair) Try.underlying81 info258 hF rfl rfl rfl rfl rfl hb51 rfl rfl ?_
      refine L.loadPe shape258 hF rfl rfl rfl rfl rfl ?_
      obtain ⟨r52, hr52, H⟩ := bindS H
      refine L.call [false] [] [] 1 hF rfl rfl rfl ent245 rfl rfl rfl rfl rfl (Flaws_toPair_gives k2  b51 r52 hr52) rfl ?_
      obtain ⟨b53, hb53, H⟩ := bindS H
      refine L.idxR (xs := v46) (e := eTimpl_Pair) Try.underlying88 info256 hF rfl rfl rfl rfl rfl hb53 rfl rfl ?_
      refine L.storeEp (xs := v46) (e := eTimpl_Pair) (a' := r52) shape256 hF rfl rfl rfl rfl rfl rfl rfl (at?_get hb53).2 rfl rfl ?_
      refine L.nil ?_
      refine WpC.regionL ?_
      refine L.move hF rfl rfl rfl ?_
      refine L.bin hF rfl rfl rfl rfl rfl rfl ?_
      refine L.assign hF rfl rfl rfl ?_
      refine L.nil ?_
      exact ⟨k2, _, by omega, ⟨v45, (v46.set v47.toNat r52), (IntKind.i64.wrap (v47 + (1 : Int))), by omega, H, rfl⟩, Le.mk [(0, 0)] hm rfl ⟨⟨_, rfl, rfl⟩, ⟨_, rfl, rfl⟩, ⟨_, rfl, rfl⟩, trivial⟩ ⟨⟨_, rfl, rfl⟩, trivial⟩ trivial⟩
    · replace H := condF hc H
      refine WpC.exit ?_
      refine WpC.seq ?_
      refine WpC.regionL ?_
      refine L.move hF rfl rfl rfl ?_
      refine L.assign hF rfl rfl rfl ?_
      refine L.nil ?_
      refine WpC.ret ?_
      cases H
      exact Leaves.ret rfl rfl rfl ⟨rfl, rfl⟩
/-! ### Flaws_toConfig -/
def Flaws_toConfig (k : Nat) (a0 : Tlaws_Config) : Option Timpl_Config := (Flaws_toIntS k a0.UserRealm).bind fun r1 => (Flaws_toIntS k a0.ServiceRealm).bind fun r2 => (Flaws_toPairS k a0.Links).bind fun r3 => (Flaws_toPairS k a0.Proxy).bind fun r4 => some (⟨r1, r2, r3, r4, a0.Skew⟩ : Timpl_Config)
theorem ent71 : Enters Try.prog 71 := ⟨Try.f71, Try.func71, rfl, by decide⟩
set_option maxHeartbeats 8000000 in
set_option maxRecDepth 100000 in
theorem Flaws_toConfig_gives (k : Nat) (g0 : Bool) (g1 : Bool) (g2 : Bool) (g3 : Bool) (a0 : Tlaws_Config) (r : Timpl_Config) (H : Flaws_toConfig k a0 = some r) : Gives Try.prog 71 [V.agg [Cell.sl g0 (List.map eI a0.UserRealm), Cell.sl g1 (List.map eI a0.ServiceRealm), Cell.sl g2 (List.map eTlaws_Pair a0.Links), Cell.sl g3 (List.map eTlaws_Pair a0.Proxy), cI a0.Skew]] [] [V.agg [Cell.ow 1 (List.map eI r.UserRealm), Cell.ow 1 (List.map eI r.ServiceRealm), Cell.ow 2 (List.map eTimpl_Pair r.Links), Cell.ow 2 (List.map eTimpl_Pair r.Proxy), cI r.Skew]] [] := by
  refine Gives.intro Try.func71 rfl rfl rfl rfl ?_
  intro F hF hm
  unfold Flaws_toConfig at H
  obtain ⟨K, hK⟩ : ∃ K, k ≤ K := ⟨k, Nat.le_refl k⟩
  refine WpC.seq ?_
  refine WpC.regionL ?_
  refine L.box 5 hF rfl rfl rfl rfl ?_
  refine L.alloc 6 info90 rfl hF rfl rfl rfl rfl ?_
  refine L.nil ?_
  refine WpC.seq ?_
  refine WpC.regionL ?_
  refine L.alloc 7 info90 rfl hF rfl rfl rfl rfl ?_
  refine L.nil ?_
  refine WpC.seq ?_
  refine WpC.regionL ?_
  refine L.fieldAddr Try.underlying83 rfl info24 rfl hF rfl rfl rfl rfl rfl ?_
  refine L.loadPtr shape24 hF rfl rfl rfl rfl rfl rfl ?_
  obtain ⟨r1, hr1, H⟩ := bindS H
  refine L.call [false] [] [] 8 hF rfl rfl rfl ent54 rfl rfl rfl rfl rfl (Flaws_toIntS_gives k g0 a0.UserRealm r1 hr1) rfl ?_
  refine L.fieldAddr Try.underlying90 rfl info24 rfl hF rfl rfl rfl rfl rfl ?_
  refine L.storePtr shape24 hF rfl rfl rfl rfl rfl rfl rfl ?_
  refine L.nil ?_
  refine WpC.seq ?_
  refine WpC.regionL ?_
  refine L.fieldAddr Try.underlying83 rfl info24 rfl hF rfl rfl rfl rfl rfl ?_
  refine L.loadPtr shape24 hF rfl rfl rfl rfl rfl rfl ?_
  obtain ⟨r2, hr2, H⟩ := bindS H
  refine L.call [false] [] [] 9 hF rfl rfl rfl ent54 rfl rfl rfl rfl rfl (Flaws_toIntS_gives k g1 a0.ServiceRealm r2 hr2) rfl ?_
  refine L.fieldAddr Try.underlying90 rfl info24 rfl hF rfl rfl rfl rfl rfl ?_
  refine L.storePtr shape24 hF rfl rfl rfl rfl rfl rfl rfl ?_
  refine L.nil ?_
  refine WpC.seq ?_
  refine WpC.regionL ?_
  refine L.fieldAddr Try.underlying83 rfl info81 rfl hF rfl rfl rfl rfl rfl ?_
  refine L.loadPtr shape81 hF rfl rfl rfl rfl rfl rfl ?_
  obtain ⟨r3, hr3, H⟩ := bindS H
  refine L.call [false] [] [] 10 hF rfl rfl rfl ent155 rfl rfl rfl rfl rfl (Flaws_toPairS_gives k g2 a0.Links r3 hr3) rfl ?_
  refine L.fieldAddr Try.underlying90 rfl info88 rfl hF rfl rfl rfl rfl rfl ?_
  refine L.storePtr shape88 hF rfl rfl rfl rfl rfl rfl rfl ?_
  refine L.nil ?_
  refine WpC.seq ?_
  refine WpC.regionL ?_
  refine L.fieldAddr Try.underlying83 rfl info81 rfl hF rfl rfl rfl rfl rfl ?_
  refine L.loadPtr shape81 hF rfl rfl rfl rfl rfl rfl ?_
  obtain ⟨r4, hr4, H⟩ := bindS H
  refine L.call [false] [] [] 11 hF rfl rfl rfl ent155 rfl rfl rfl rfl rfl (Flaws_toPairS_gives k g3 a0.Proxy r4 hr4) rfl ?_
  refine L.fieldAddr Try.underlying90 rfl info88 rfl hF rfl rfl rfl rfl rfl ?_
  refine L.storePtr shape88 hF rfl rfl rfl rfl rfl rfl rfl ?_
  refine L.nil ?_
  refine WpC.seq ?_
  refine WpC.regionL ?_
  refine L.fieldAddr Try.underlying83 rfl info3 rfl hF rfl rfl rfl rfl rfl ?_
  refine L.loadPtr shape3 hF rfl rfl rfl rfl rfl rfl ?_
  refine L.fieldAddr Try.underlying90 rfl info3 rfl hF rfl rfl rfl rfl rfl ?_
  refine L.storePtr shape3 hF rfl rfl rfl rfl rfl rfl rfl ?_
  refine L.nil ?_
  refine WpC.seq ?_
  refine WpC.regionL ?_
  refine L.loadPtr shape90 hF rfl rfl rfl rfl rfl rfl ?_
  refine L.storePtr shape90 hF rfl rfl rfl rfl rfl rfl rfl ?_
  refine L.nil ?_
  refine WpC.ret ?_
  cases H
  exact Leaves.ret rfl rfl rfl ⟨rfl, rfl⟩
/-! ### Flaws_toRest -/
def Flaws_toRest (k : Nat) (a0 : Tlaws_Rest) : Option Timpl_Rest := some (⟨a0.Servers, a0.Ops, a0.End⟩ : Timpl_Rest)
theorem ent72 : Enters Try.prog 72 := ⟨Try.f72, Try.func72, rfl, by decide⟩
set_option maxHeartbeats 8000000 in
set_option maxRecDepth 100000 in
theorem Flaws_toRest_gives (k : Nat) (a0 : Tlaws_Rest) (r : Timpl_Rest) (H : Flaws_toRest k a0 = some r) : Gives Try.prog 72 [V.agg [cI a0.Servers, cI a0.Ops, cI a0.End]] [] [V.agg [cI r.Servers, cI r.Ops, cI r.End]] [] := by
  refine Gives.intro Try.func72 rfl rfl rfl rfl ?_
  intro F hF hm
  unfold Flaws_toRest at H
  obtain ⟨K, hK⟩ : ∃ K, k ≤ K := ⟨k, Nat.le_refl k⟩
  refine WpC.seq ?_
  refine WpC.regionL ?_
  refine L.box 3 hF rfl rfl rfl rfl ?_
  refine L.alloc 4 info74 rfl hF rfl rfl rfl rfl ?_
  refine L.nil ?_
  refine WpC.seq ?_
  refine WpC.regionL ?_
  refine L.alloc 5 info74 rfl hF rfl rfl rfl rfl ?_
  refine L.nil ?_
  refine WpC.seq ?_
  refine WpC.regionL ?_
  refine L.fieldAddr Try.underlying84 rfl info3 rfl hF rfl rfl rfl rfl rfl ?_
  refine L.loadPtr shape3 hF rfl rfl rfl rfl rfl rfl ?_
  refine L.fieldAddr Try.underlying74 rfl info3 rfl hF rfl rfl rfl rfl rfl ?_
  refine L.storePtr shape3 hF rfl rfl rfl rfl rfl rfl rfl ?_
  refine L.nil ?_
  refine WpC.seq ?_
  refine WpC.regionL ?_
  refine L.fieldAddr Try.underlying84 rfl info3 rfl hF rfl rfl rfl rfl rfl ?_
  refine L.loadPtr shape3 hF rfl rfl rfl rfl rfl rfl ?_
  refine L.fieldAddr Try.underlying74 rfl info3 rfl hF rfl rfl rfl rfl rfl ?_
  refine L.storePtr shape3 hF rfl rfl rfl rfl rfl rfl rfl ?_
  refine L.nil ?_
  refine WpC.seq ?_
  refine WpC.regionL ?_
  refine L.fieldAddr Try.underlying84 rfl info3 rfl hF rfl rfl rfl rfl rfl ?_
  refine L.loadPtr shape3 hF rfl rfl rfl rfl rfl rfl ?_
  refine L.fieldAddr Try.underlying74 rfl info3 rfl hF rfl rfl rfl rfl rfl ?_
  refine L.storePtr shape3 hF rfl rfl rfl rfl rfl rfl rfl ?_
  refine L.nil ?_
  refine WpC.seq ?_
  refine WpC.regionL ?_
  refine L.loadPtr shape74 hF rfl rfl rfl rfl rfl rfl ?_
  refine L.storePtr shape74 hF rfl rfl rfl rfl rfl rfl rfl ?_
  refine L.nil ?_
  refine WpC.ret ?_
  cases H
  exact Leaves.ret rfl rfl rfl ⟨rfl, rfl⟩
/-! ### Fspec_l5All -/
def Fspec_l5All.l2 : Nat → (List Int) → Int → Int → Option Bool
  | 0, _, _, _ => none
  | k2 + 1, v54, v55, v56 => cond (decide (v56 < (v54.length : Int))) ((at? v54 v56).bind fun b63 => cond (decide (b63 < (0 : Int))) (some false) ((at? v54 v56).bind fun b64 => cond (decide (b64 ≥ v55)) (some false) ((Fspec_l5All.l2 k2) v54 v55 (IntKind.i64.wrap (v56 + (1 : Int)))))) (some true)
def Fspec_l5All (k : Nat) (a0 : List Int) (a1 : Int) (a2 : Int) : Option Bool := cond (decide ((a0.length : Int) > a1)) (some false) (Fspec_l5All.l2 k a0 a2 (0 : Int))
theorem ent241 : Enters Try.prog 241 := ⟨Try.f241, Try.func241, rfl, by decide⟩
set_option maxHeartbeats 8000000 in
set_option maxRecDepth 100000 in
theorem Fspec_l5All_gives (k : Nat) (g0 : Bool) (a0 : List Int) (a1 : Int) (a2 : Int) (r : Bool) (H : Fspec_l5All k a0 a1 a2 = some r) : Gives Try.prog 241 [V.one (Cell.sl g0 (List.map eI a0)), V.one (cI a1), V.one (cI a2)] [] [V.one (cL r)] [] := by
  refine Gives.intro Try.func241 rfl rfl rfl rfl ?_
  intro F hF hm
  unfold Fspec_l5All at H
  obtain ⟨K, hK⟩ : ∃ K, k ≤ K := ⟨k, Nat.le_refl k⟩
  refine WpC.seq ?_
  refine WpC.regionL ?_
  refine L.assign hF rfl rfl rfl ?_
  refine L.nil ?_
  refine WpC.seq ?_
  refine WpC.seq ?_
  refine WpC.regionL ?_
  refine L.move hF rfl rfl rfl ?_
  refine L.lenR (xs := a0) (e := eI) Try.underlying24 hF rfl rfl rfl rfl ?_
  refine L.move hF rfl rfl rfl ?_
  refine L.bin hF rfl rfl rfl rfl rfl rfl ?_
  refine L.nil ?_
  refine WpC.cond rfl (fun hc => ?_) (fun hc => ?_)
  · replace H := condT hc H
    refine WpC.seq ?_
    refine WpC.regionL ?_
    refine L.assign hF rfl rfl rfl ?_
    refine L.nil ?_
    refine WpC.ret ?_
    cases H
    exact Leaves.ret rfl rfl rfl ⟨rfl, rfl⟩
  · replace H := condF hc H
    refine WpC.skip ?_
    refine WpC.seq ?_
    refine WpC.seq ?_
    refine WpC.regionL ?_
    refine L.assign hF rfl rfl rfl ?_
    refine L.nil ?_
    refine WpC.block ?_
    refine WpC.loopL (P := Try.prog) (fun n σ => ∃ v54 : List Int, ∃ v55 : Int, ∃ v56 : Int, n ≤ K ∧ Fspec_l5All.l2 n v54 v55 v56 = some r ∧ σ = mkSt [(0, one (Cell.sl g0 (List.map eI v54))), (2, one (cI v55)), (7, one (cI v56))] [] [] 0) k ⟨_, ⟨a0, a2, (0 : Int), by omega, H, rfl⟩, Le.mk [] hm rfl ⟨⟨_, rfl, rfl⟩, ⟨_, rfl, rfl⟩, ⟨_, rfl, rfl⟩, trivial⟩ trivial trivial⟩ ?_
    clear H
    rintro k2 _ ⟨v54, v55, v56, hk2, H, rfl⟩
    cases k2 with
    | zero => cases H
    | succ k2 =>
      rw [Fspec_l5All.l2] at H
      refine WpC.seq ?_
      refine WpC.seq ?_
      refine WpC.regionL ?_
      refine L.move hF rfl rfl rfl ?_
      refine L.move hF rfl rfl rfl ?_
      refine L.lenR (xs := v54) (e := eI) Try.underlying24 hF rfl rfl rfl rfl ?_
      refine L.bin hF rfl rfl rfl rfl rfl rfl ?_
      refine L.nil ?_
      refine WpC.cond rfl (fun hc => ?_) (fun hc => ?_)
      · replace H := condT hc H
        refine WpC.skip ?_
        refine WpC.seq ?_
        refine WpC.block ?_
        refine WpC.seq ?_
        refine WpC.regionL ?_
        refine L.move hF rfl rfl rfl ?_
        refine L.move hF rfl rfl rfl ?_
        obtain ⟨b63, hb63, H⟩ := bindS H
        refine L.idxR (xs := v54) (e := eI) Try.underlying24 info3 hF rfl rfl rfl rfl rfl hb63 rfl rfl ?_
        refine L.loadPe shape3 hF rfl rfl rfl rfl rfl ?_
        refine L.bin hF rfl rfl rfl rfl rfl rfl ?_
        refine L.move hF rfl rfl rfl ?_
        refine L.split (fun hc => ?_) (fun hc => ?_)
        · replace H := condT hc H
          refine L.off hF rfl rfl ?_
          refine L.off hF rfl rfl ?_
          refine L.off hF rfl rfl ?_
          refine L.off hF rfl rfl ?_
          refine L.off hF rfl rfl ?_
          refine L.off hF rfl rfl ?_
          refine L.pick hF rfl rfl rfl rfl ?_
          refine L.nil ?_
          refine WpC.cond rfl (fun _ => ?_) (fun hc => by cases hc)
          refine WpC.seq ?_
          refine WpC.regionL ?_
          refine L.assign hF rfl rfl rfl ?_
          refine L.nil ?_
          refine WpC.ret ?_
          cases H
          exact Leaves.ret rfl rfl rfl ⟨rfl, rfl⟩
        · replace H := condF hc H
          refine L.move hF rfl rfl rfl ?_
          refine L.move hF rfl rfl rfl ?_
          obtain ⟨b64, hb64, H⟩ := bindS H
          refine L.idxR (xs := v54) (e := eI) Try.underlying24 info3 hF rfl rfl rfl rfl rfl hb64 rfl rfl ?_
          refine L.loadPe shape3 hF rfl rfl rfl rfl rfl ?_
          refine L.move hF rfl rfl rfl ?_
          refine L.bin hF rfl rfl rfl rfl rfl rfl ?_
          refine L.pick hF rfl rfl rfl rfl ?_
          refine L.nil ?_
          refine WpC.cond rfl (fun hc => ?_) (fun hc => ?_)
          · replace H := condT hc H
            refine WpC.seq ?_
            refine WpC.regionL ?_
            refine L.assign hF rfl rfl rfl ?_
            refine L.nil ?_
            refine WpC.ret ?_
            cases H
            exact Leaves.ret rfl rfl rfl ⟨rfl, rfl⟩
          · replace H := condF hc H
            refine WpC.skip ?_
            refine WpC.regionL ?_
            refine L.move hF rfl rfl rfl ?_
            refine L.bin hF rfl rfl rfl rfl rfl rfl ?_
            refine L.assign hF rfl rfl rfl ?_
            refine L.nil ?_
            exact ⟨k2, _, by omega, ⟨v54, v55, (IntKind.i64.wrap (v56 + (1 : Int))), by omega, H, rfl⟩, Le.mk [] hm rfl ⟨⟨_, rfl, rfl⟩, ⟨_, rfl, rfl⟩, ⟨_, rfl, rfl⟩, trivial⟩ trivial trivial⟩
      · replace H := condF hc H
        refine WpC.exit ?_
        refine WpC.seq ?_
        refine WpC.regionL ?_
        refine L.assign hF rfl rfl rfl ?_
        refine L.nil ?_
        refine WpC.ret ?_
        cases H
        exact Leaves.ret rfl rfl rfl ⟨rfl, rfl⟩
/-! ### Fspec_l6Has -/
def Fspec_l6Has.l2 : Nat → (List Timpl_Pair) → Int → Int → Int → Option Bool
  | 0, _, _, _, _ => none
  | k2 + 1, v29, v30, v31, v32 => cond (decide (v30 < (v29.length : Int))) ((at? v29 v30).bind fun b34 => cond ((b34.A == v31) && ((b34.B == v32) && true)) (some true) ((Fspec_l6Has.l2 k2) v29 (IntKind.i64.wrap (v30 + (1 : Int))) v31 v32)) (some false)
def Fspec_l6Has (k : Nat) (a0 : List Timpl_Pair) (a1 : Timpl_Pair) : Option Bool := Fspec_l6Has.l2 k a0 (0 : Int) a1.A a1.B
theorem ent244 : Enters Try.prog 244 := ⟨Try.f244, Try.func244, rfl, by decide⟩
set_option maxHeartbeats 8000000 in
set_option maxRecDepth 100000 in
theorem Fspec_l6Has_gives (k : Nat) (g0 : Bool) (a0 : List Timpl_Pair) (a1 : Timpl_Pair) (r : Bool) (H : Fspec_l6Has k a0 a1 = some r) : Gives Try.prog 244 [V.one (Cell.sl g0 (List.map eTimpl_Pair a0)), V.agg [cI a1.A, cI a1.B]] [] [V.one (cL r)] [] := by
  refine Gives.intro Try.func244 rfl rfl rfl rfl ?_
  intro F hF hm
  unfold Fspec_l6Has at H
  obtain ⟨K, hK⟩ : ∃ K, k ≤ K := ⟨k, Nat.le_refl k⟩
  refine WpC.seq ?_
  refine WpC.regionL ?_
  refine L.box 3 hF rfl rfl rfl rfl ?_
  refine L.assign hF rfl rfl rfl ?_
  refine L.nil ?_
  refine WpC.seq ?_
  refine WpC.seq ?_
  refine WpC.regionL ?_
  refine L.assign hF rfl rfl rfl ?_
  refine L.nil ?_
  refine WpC.block ?_
  refine WpC.loopL (P := Try.prog) (fun n σ => ∃ v29 : List Timpl_Pair, ∃ v30 : Int, ∃ v31 : Int, ∃ v32 : Int, n ≤ K ∧ Fspec_l6Has.l2 n v29 v30 v31 v32 = some r ∧ σ = mkSt [(0, one (Cell.sl g0 (List.map eTimpl_Pair v29))), (3, one (Cell.ptr 0 0)), (5, one (cI v30))] [] [(0, [cI v31, cI v32])] 1) k ⟨_, ⟨a0, (0 : Int), a1.A, a1.B, by omega, H, rfl⟩, Le.mk [(0, 3)] hm rfl ⟨⟨_, rfl, rfl⟩, ⟨_, rfl, rfl⟩, ⟨_, rfl, rfl⟩, trivial⟩ trivial ⟨⟨_, _, rfl, rfl, rfl⟩, trivial⟩⟩ ?_
  clear H
  rintro k2 _ ⟨v29, v30, v31, v32, hk2, H, rfl⟩
  cases k2 with
  | zero => cases H
  | succ k2 =>
    rw [Fspec_l6Has.l2] at H
    refine WpC.seq ?_
    refine WpC.seq ?_
    refine WpC.regionL ?_
    refine L.move hF rfl rfl rfl ?_
    refine L.move hF rfl rfl rfl ?_
    refine L.lenR (xs := v29) (e := eTimpl_Pair) Try.underlying88 hF rfl rfl rfl rfl ?_
    refine L.bin hF rfl rfl rfl rfl rfl rfl ?_
    refine L.nil ?_
    refine WpC.cond rfl (fun hc => ?_) (fun hc => ?_)
    · replace H := condT hc H
      refine WpC.skip ?_
      refine WpC.seq ?_
      refine WpC.block ?_
      refine WpC.seq ?_
      refine S.begin mixed (by kernel_rfl) ?_
      refine S.st 0 rfl rfl ((Ca.move).quiet) (fun Q0 k0 => L.move hF rfl rfl rfl (L.nil k0)) ?_
      refine S.st 1 rfl rfl ((Ca.move).quiet) (fun Q0 k0 => L.move hF rfl rfl rfl (L.nil k0)) ?_
      obtain ⟨b34, hb34, H⟩ := bindS H
      refine S.st 2 rfl rfl ((Ca.indexAddr).quiet) (fun Q0 k0 => L.idxR (xs := v29) (e := eTimpl_Pair) Try.underlying88 info256 hF rfl rfl rfl rfl rfl hb34 rfl rfl (L.nil k0)) ?_
      refine S.st 3 rfl rfl (Qu.load) (fun Q0 k0 => L.loadPe shape256 hF rfl rfl rfl rfl rfl (L.nil k0)) ?_
      refine S.st 4 rfl rfl (Qu.load) (fun Q0 k0 => L.loadPtr shape256 hF rfl rfl rfl rfl rfl rfl (L.nil k0)) ?_
      refine S.st 5 rfl rfl ((Ca.eqA (r := ((b34.A == v31) && ((b34.B == v32) && true))) rfl rfl rfl rfl (by kernel_rfl) (by kernel_rfl)).quiet) (fun Q0 k0 => L.eqA (r := ((b34.A == v31) && ((b34.B == v32) && true))) hF rfl rfl rfl rfl rfl rfl (by kernel_rfl) (by kernel_rfl) (L.nil k0)) ?_
      refine S.nil ?_
      refine WpC.cond rfl (fun hc => ?_) (fun hc => ?_)
      · replace H := condT hc H
        refine WpC.seq ?_
        refine WpC.regionL ?_
        refine L.assign hF rfl rfl rfl ?_
        refine L.nil ?_
        refine WpC.ret ?_
        cases H
        exact Leaves.ret rfl rfl rfl ⟨rfl, rfl⟩
      · replace H := condF hc H
        refine WpC.skip ?_
        refine WpC.regionL ?_
        refine L.move hF rfl rfl rfl ?_
        refine L.bin hF rfl rfl rfl rfl rfl rfl ?_
        refine L.assign hF rfl rfl rfl ?_
        refine L.nil ?_
        exact ⟨k2, _, by omega, ⟨v29, (IntKind.i64.wrap (v30 + (1 : Int))), v31, v32, by omega, H, rfl⟩, Le.mk [(0, 0)] hm rfl ⟨⟨_, rfl, rfl⟩, ⟨_, rfl, rfl⟩, ⟨_, rfl, rfl⟩, trivial⟩ trivial ⟨⟨_, _, rfl, rfl, rfl⟩, trivial⟩⟩
    · replace H := condF hc H
      refine WpC.exit ?_
      refine WpC.seq ?_
      refine WpC.regionL ?_
      refine L.assign hF rfl rfl rfl ?_
      refine L.nil ?_
      refine WpC.ret ?_
      cases H
      exact Leaves.ret rfl rfl rfl ⟨rfl, rfl⟩
/-! ### Fspec_l6Pairs -/
def Fspec_l6Pairs.j8 (cl7 : (List Timpl_Pair) → Int → Bool → Int → Option Bool) (k : Nat) (v185 : List Timpl_Pair) (v186 : Int) (v187 : Bool) (v188 : Int) (v189 : Int) (v190 : Bool) (v191 : Int) (v192 : Bool) (v193 : Bool) (v194 : Bool) (v195 : Bool) (v196 : List Timpl_Pair) (v197 : Bool) : Option Bool := cl7 v185 v186 v187 (IntKind.i64.wrap (v188 + (1 : Int)))
def Fspec_l6Pairs.l7 : Nat → (List Timpl_Pair) → Int → Bool → Int → Option Bool
  | 0, _, _, _, _ => none
  | k7 + 1, v172, v173, v174, v175 => cond (decide (v175 < (v172.length : Int))) ((at? v172 v175).bind fun b198 => cond (decide (b198.A < (0 : Int))) (some false) (cond (decide (b198.A ≥ v173)) (some false) (cond (decide (b198.B < (0 : Int))) (some false) (cond (decide (b198.B ≥ v173)) (some false) (cond v174 (cond (b198.A == b198.B) (some false) ((part? v172 (0 : Int) v175).bind fun b209 => (Fspec_l6Has k7 b209 b198).bind fun r210 => cond r210 (some false) (Fspec_l6Pairs.j8 (Fspec_l6Pairs.l7 k7) k7 v172 v173 v174 v175 b198.A (decide (b198.A ≥ v173)) b198.B (decide (b198.B < (0 : Int))) (decide (b198.B ≥ v173)) true (b198.A == b198.B) b209 r210))) ((part? v172 (0 : Int) v175).bind fun b211 => (Fspec_l6Has k7 b211 b198).bind fun r212 => cond r212 (some false) (Fspec_l6Pairs.j8 (Fspec_l6Pairs.l7 k7) k7 v172 v173 v174 v175 b198.A (decide (b198.A ≥ v173)) b198.B (decide (b198.B < (0 : Int))) (decide (b198.B ≥ v173)) false false b211 r212))))))) (some true)
def Fspec_l6Pairs (k : Nat) (a0 : List Timpl_Pair) (a1 : Int) (a2 : Bool) : Option Bool := cond (decide ((a0.length : Int) > (6 : Int))) (some false) (Fspec_l6Pairs.l7 k a0 a1 a2 (0 : Int))
theorem ent242 : Enters Try.prog 242 := ⟨Try.f242, Try.func242, rfl, by decide⟩
set_option maxHeartbeats 8000000 in
set_option maxRecDepth 100000 in
theorem Fspec_l6Pairs_gives (k : Nat) (g0 : Bool) (a0 : List Timpl_Pair) (a1 : Int) (a2 : Bool) (r : Bool) (H : Fspec_l6Pairs k a0 a1 a2 = some r) : Gives Try.prog 242 [V.one (Cell.sl g0 (List.map eTimpl_Pair a0)), V.one (cI a1), V.one (cL a2)] [] [V.one (cL r)] [] := by
  refine Gives.intro Try.func242 rfl rfl rfl rfl ?_
  intro F hF hm
  unfold Fspec_l6Pairs at H
  obtain ⟨K, hK⟩ : ∃ K, k ≤ K := ⟨k, Nat.le_refl k⟩
  refine WpC.seq ?_
  refine WpC.regionL ?_
  refine L.assign hF rfl rfl rfl ?_
  refine L.nil ?_
  refine WpC.seq ?_
  refine WpC.seq ?_
  refine WpC.regionL ?_
  refine L.move hF rfl rfl rfl ?_
  refine L.lenR (xs := a0) (e := eTimpl_Pair) Try.underlying88 hF rfl rfl rfl rfl ?_
  refine L.bin hF rfl rfl rfl rfl rfl rfl ?_
  refine L.nil ?_
  refine WpC.cond rfl (fun hc => ?_) (fun hc => ?_)
  · replace H := condT hc H
    refine WpC.seq ?_
    refine WpC.regionL ?_
    refine L.assign hF rfl rfl rfl ?_
    refine L.nil ?_
    refine WpC.ret ?_
    cases H
    exact Leaves.ret rfl rfl rfl ⟨rfl, rfl⟩
  · replace H := condF hc H
    refine WpC.skip ?_
    refine WpC.seq ?_
    refine WpC.seq ?_
    refine WpC.regionL ?_
    refine L.assign hF rfl rfl rfl ?_
    refine L.nil ?_
    refine WpC.block ?_
    refine WpC.loopL (P := Try.prog) (fun n σ => ∃ v172 : List Timpl_Pair, ∃ v173 : Int, ∃ v174 : Bool, ∃ v175 : Int, n ≤ K ∧ Fspec_l6Pairs.l7 n v172 v173 v174 v175 = some r ∧ σ = mkSt [(0, one (Cell.sl g0 (List.map eTimpl_Pair v172))), (1, one (cI v173)), (2, one (cL v174)), (7, one (cI v175))] [] [] 0) k ⟨_, ⟨a0, a1, a2, (0 : Int), by omega, H, rfl⟩, Le.mk [] hm rfl ⟨⟨_, rfl, rfl⟩, ⟨_, rfl, rfl⟩, ⟨_, rfl, rfl⟩, ⟨_, rfl, rfl⟩, trivial⟩ trivial trivial⟩ ?_
    clear H
    rintro k7 _ ⟨v172, v173, v174, v175, hk7, H, rfl⟩
    cases k7 with
    | zero => cases H
    | succ k7 =>
      rw [Fspec_l6Pairs.l7] at H
      refine WpC.seq ?_
      refine WpC.seq ?_
      refine WpC.regionL ?_
      refine L.move hF rfl rfl rfl ?_
      refine L.move hF rfl rfl rfl ?_
      refine L.lenR (xs := v172) (e := eTimpl_Pair) Try.underlying88 hF rfl rfl rfl rfl ?_
      refine L.bin hF rfl rfl rfl rfl rfl rfl ?_
      refine L.nil ?_
      refine WpC.cond rfl (fun hc => ?_) (fun hc => ?_)
      · replace H := condT hc H
        refine WpC.skip ?_
        refine WpC.join (fun σ => ∃ kj8 : Nat, ∃ v185 : List Timpl_Pair, ∃ v186 : Int, ∃ v187 : Bool, ∃ v188 : Int, ∃ v189 : Int, ∃ v190 : Bool, ∃ v191 : Int, ∃ v192 : Bool, ∃ v193 : Bool, ∃ v194 : Bool, ∃ v195 : Bool, ∃ v196 : List Timpl_Pair, ∃ v197 : Bool, kj8 ≤ K ∧ Fspec_l6Pairs.j8 (Fspec_l6Pairs.l7 k7) kj8 v185 v186 v187 v188 v189 v190 v191 v192 v193 v194 v195 v196 v197 = some r ∧ σ = mkSt [(0, one (Cell.sl g0 (List.map eTimpl_Pair v185))), (1, one (cI v186)), (2, one (cL v187)), (7, one (cI v188)), (26, one (Cell.ptr 0 0)), (27, one (cI v189)), (28, one (cI v186)), (29, one (cL v190)), (32, one (Cell.ptr 0 1)), (33, one (cI v191)), (34, one (cL v192)), (37, one (Cell.ptr 0 1)), (38, one (cI v191)), (39, one (cI v186)), (40, one (cL v193)), (43, one (cL v187)), (44, one (cL v194)), (50, one (cL v195)), (53, one (Cell.sl g0 (List.map eTimpl_Pair v185))), (54, one (cI v188)), (55, one (Cell.sl g0 (List.map eTimpl_Pair v196))), (56, agg [cI v189, cI v191]), (57, one (cL v197))] [] [(0, [cI v189, cI v191])] 1) ?_ ?_
        · rintro _ ⟨kj8, v185, v186, v187, v188, v189, v190, v191, v192, v193, v194, v195, v196, v197, hkj8, H, rfl⟩
          unfold Fspec_l6Pairs.j8 at H
          refine WpC.regionL ?_
          refine L.move hF rfl rfl rfl ?_
          refine L.bin hF rfl rfl rfl rfl rfl rfl ?_
          refine L.assign hF rfl rfl rfl ?_
          refine L.nil ?_
          exact ⟨k7, _, by omega, ⟨v185, v186, v187, (IntKind.i64.wrap (v188 + (1 : Int))), by omega, H, rfl⟩, Le.mk [] hm rfl ⟨⟨_, rfl, rfl⟩, ⟨_, rfl, rfl⟩, ⟨_, rfl, rfl⟩, ⟨_, rfl, rfl⟩, trivial⟩ trivial trivial⟩
        · refine WpC.block ?_
          refine WpC.seq ?_
          refine WpC.regionL ?_
          refine L.move hF rfl rfl rfl ?_
          refine L.move hF rfl rfl rfl ?_
          obtain ⟨b198, hb198, H⟩ := bindS H
          refine L.idxR (xs := v172) (e := eTimpl_Pair) Try.underlying88 info256 hF rfl rfl rfl rfl rfl hb198 rfl rfl ?_
          refine L.loadPe shape256 hF rfl rfl rfl rfl rfl ?_
          refine L.alloc 0 info256 rfl hF rfl rfl rfl rfl ?_
          refine L.storePtr shape256 hF rfl rfl rfl rfl rfl rfl rfl ?_
          refine L.nil ?_
          refine WpC.seq ?_
          rcases Bool.eq_false_or_eq_true ((decide (b198.A < (0 : Int)))) with hc203 | hc203
          · replace H := condT hc203 H
            refine A.begin mixed rfl rfl ?_
            intro W hI hO
            refine hI _ _ _ ?_
            refine A.take 0 rfl (by kernel_rfl) (by kernel_rfl) (by kernel_rfl) rfl (Ca.fieldAddr Try.underlying256 rfl info3 rfl) (fun Q0 k0 => L.fieldAddr Try.underlying256 rfl info3 rfl hF rfl rfl rfl rfl rfl (L.nil k0)) ?_
            refine A.all [1] (by kernel_rfl) rfl ⟨⟨_, rfl, ?_⟩, trivial⟩
            refine L.loadPtr shape3 hF rfl rfl rfl rfl rfl rfl ?_
            refine L.nil ?_
            refine A.take 2 rfl (by kernel_rfl) (by kernel_rfl) (by kernel_rfl) rfl (Ca.bin rfl rfl (calm_int _ _ _ _ _ _ _ _)) (fun Q0 k0 => L.bin hF rfl rfl rfl rfl rfl rfl (L.nil k0)) ?_
            refine A.take 3 rfl (by kernel_rfl) (by kernel_rfl) (by kernel_rfl) rfl (Ca.move) (fun Q0 k0 => L.move hF rfl rfl rfl (L.nil k0)) ?_
            refine A.le (τ := mkSt [(0, one (Cell.sl g0 (List.map eTimpl_Pair v172))), (1, one (cI v173)), (2, one (cL v174)), (7, one (cI v175)), (8, one (Cell.ptr 0 0)), (25, one (cL true))] [] [(0, [cI b198.A, cI b198.B])] 1) (Le.mk [(0, 0)] hm rfl ⟨⟨_, rfl, rfl⟩, ⟨_, rfl, rfl⟩, ⟨_, rfl, rfl⟩, ⟨_, rfl, rfl⟩, ⟨_, rfl, rfl⟩, ⟨_, rfl, congrArg (fun b => some (one (cL b))) hc203⟩, trivial⟩ trivial ⟨⟨_, _, rfl, rfl, rfl⟩, trivial⟩) ?_
            refine A.off 4 rfl (by kernel_rfl) (by kernel_rfl) (by kernel_rfl) rfl hF rfl rfl ?_
            refine A.off 5 rfl (by kernel_rfl) (by kernel_rfl) (by kernel_rfl) rfl hF rfl rfl ?_
            refine A.off 6 rfl (by kernel_rfl) (by kernel_rfl) (by kernel_rfl) rfl hF rfl rfl ?_
            refine A.off 7 rfl (by kernel_rfl) (by kernel_rfl) (by kernel_rfl) rfl hF rfl rfl ?_
            refine A.take 8 rfl (by kernel_rfl) (by kernel_rfl) (by kernel_rfl) rfl (Ca.pick) (fun Q0 k0 => L.pick hF rfl rfl rfl rfl (L.nil k0)) ?_
            refine A.take 9 rfl (by kernel_rfl) (by kernel_rfl) (by kernel_rfl) rfl (Ca.move) (fun Q0 k0 => L.move hF rfl rfl rfl (L.nil k0)) ?_
            refine A.off 10 rfl (by kernel_rfl) (by kernel_rfl) (by kernel_rfl) rfl hF rfl rfl ?_
            refine A.off 11 rfl (by kernel_rfl) (by kernel_rfl) (by kernel_rfl) rfl hF rfl rfl ?_
            refine A.off 12 rfl (by kernel_rfl) (by kernel_rfl) (by kernel_rfl) rfl hF rfl rfl ?_
            refine A.take 13 rfl (by kernel_rfl) (by kernel_rfl) (by kernel_rfl) rfl (Ca.pick) (fun Q0 k0 => L.pick hF rfl rfl rfl rfl (L.nil k0)) ?_
            refine A.le (τ := mkSt [(0, one (Cell.sl g0 (List.map eTimpl_Pair v172))), (1, one (cI v173)), (2, one (cL v174)), (7, one (cI v175)), (8, one (Cell.ptr 0 0)), (26, Slot.tup []), (27, Slot.tup []), (28, Slot.tup []), (29, Slot.tup []), (32, Slot.tup []), (33, Slot.tup []), (34, Slot.tup []), (35, one (cL true))] [] [(0, [cI b198.A, cI b198.B])] 1) (Le.mk [(0, 0)] hm rfl ⟨⟨_, rfl, rfl⟩, ⟨_, rfl, rfl⟩, ⟨_, rfl, rfl⟩, ⟨_, rfl, rfl⟩, ⟨_, rfl, rfl⟩, ⟨_, rfl, rfl⟩, ⟨_, rfl, rfl⟩, ⟨_, rfl, rfl⟩, ⟨_, rfl, rfl⟩, ⟨_, rfl, rfl⟩, ⟨_, rfl, rfl⟩, ⟨_, rfl, rfl⟩, ⟨_, rfl, rfl⟩, trivial⟩ trivial ⟨⟨_, _, rfl, rfl, rfl⟩, trivial⟩) ?_
            refine A.take 14 rfl (by kernel_rfl) (by kernel_rfl) (by kernel_rfl) rfl (Ca.move) (fun Q0 k0 => L.move hF rfl rfl rfl (L.nil k0)) ?_
            refine A.off 15 rfl (by kernel_rfl) (by kernel_rfl) (by kernel_rfl) rfl hF rfl rfl ?_
            refine A.off 16 rfl (by kernel_rfl) (by kernel_rfl) (by kernel_rfl) rfl hF rfl rfl ?_
            refine A.off 17 rfl (by kernel_rfl) (by kernel_rfl) (by kernel_rfl) rfl hF rfl rfl ?_
            refine A.off 18 rfl (by kernel_rfl) (by kernel_rfl) (by kernel_rfl) rfl hF rfl rfl ?_
            refine A.take 19 rfl (by kernel_rfl) (by kernel_rfl) (by kernel_rfl) rfl (Ca.pick) (fun Q0 k0 => L.pick hF rfl rfl rfl rfl (L.nil k0)) ?_
            refine A.take 20 rfl (by kernel_rfl) (by kernel_rfl) (by kernel_rfl) rfl (Ca.move) (fun Q0 k0 => L.move hF rfl rfl rfl (L.nil k0)) ?_
            refine A.off 21 rfl (by kernel_rfl) (by kernel_rfl) (by kernel_rfl) rfl hF rfl rfl ?_
            refine A.off 22 rfl (by kernel_rfl) (by kernel_rfl) (by kernel_rfl) rfl hF rfl rfl ?_
            refine A.off 23 rfl (by kernel_rfl) (by kernel_rfl) (by kernel_rfl) rfl hF rfl rfl ?_
            refine A.le (τ := mkSt [(0, one (Cell.sl g0 (List.map eTimpl_Pair v172))), (1, one (cI v173)), (2, one (cL v174)), (7, one (cI v175)), (8, one (Cell.ptr 0 0)), (26, Slot.tup []), (27, Slot.tup []), (28, Slot.tup []), (29, Slot.tup []), (32, Slot.tup []), (33, Slot.tup []), (34, Slot.tup []), (37, Slot.tup []), (38, Slot.tup []), (39, Slot.tup []), (40, Slot.tup []), (42, one (cL true)), (43, Slot.tup []), (44, Slot.tup []), (45, Slot.tup [])] [] [(0, [cI b198.A, cI b198.B])] 1) (Le.mk [(0, 0)] hm rfl ⟨⟨_, rfl, rfl⟩, ⟨_, rfl, rfl⟩, ⟨_, rfl, rfl⟩, ⟨_, rfl, rfl⟩, ⟨_, rfl, rfl⟩, ⟨_, rfl, rfl⟩, ⟨_, rfl, rfl⟩, ⟨_, rfl, rfl⟩, ⟨_, rfl, rfl⟩, ⟨_, rfl, rfl⟩, ⟨_, rfl, rfl⟩, ⟨_, rfl, rfl⟩, ⟨_, rfl, rfl⟩, ⟨_, rfl, rfl⟩, ⟨_, rfl, rfl⟩, ⟨_, rfl, rfl⟩, ⟨_, rfl, rfl⟩, ⟨_, rfl, rfl⟩, ⟨_, rfl, rfl⟩, ⟨_, rfl, rfl⟩, trivial⟩ trivial ⟨⟨_, _, rfl, rfl, rfl⟩, trivial⟩) ?_
            refine A.off 24 rfl (by kernel_rfl) (by kernel_rfl) (by kernel_rfl) rfl hF rfl rfl ?_
            refine A.off 25 rfl (by kernel_rfl) (by kernel_rfl) (by kernel_rfl) rfl hF rfl rfl ?_
            refine A.off 26 rfl (by kernel_rfl) (by kernel_rfl) (by kernel_rfl) rfl hF rfl rfl ?_
            refine A.off 27 rfl (by kernel_rfl) (by kernel_rfl) (by kernel_rfl) rfl hF rfl rfl ?_
            refine A.off 28 rfl (by kernel_rfl) (by kernel_rfl) (by kernel_rfl) rfl hF rfl rfl ?_
            refine A.take 29 rfl (by kernel_rfl) (by kernel_rfl) (by kernel_rfl) rfl (Ca.pick) (fun Q0 k0 => L.pick hF rfl rfl rfl rfl (L.nil k0)) ?_
            refine A.take 30 rfl (by kernel_rfl) (by kernel_rfl) (by kernel_rfl) rfl (Ca.move) (fun Q0 k0 => L.move hF rfl rfl rfl (L.nil k0)) ?_
            refine A.off 31 rfl (by kernel_rfl) (by kernel_rfl) (by kernel_rfl) rfl hF rfl rfl ?_
            refine A.off 32 rfl (by kernel_rfl) (by kernel_rfl) (by kernel_rfl) rfl hF rfl rfl ?_
            refine A.off 33 rfl (by kernel_rfl) (by kernel_rfl) (by kernel_rfl) rfl hF rfl rfl ?_
            refine A.le (τ := mkSt [(0, one (Cell.sl g0 (List.map eTimpl_Pair v172))), (1, one (cI v173)), (2, one (cL v174)), (7, one (cI v175)), (8, one (Cell.ptr 0 0)), (26, Slot.tup []), (27, Slot.tup []), (28, Slot.tup []), (29, Slot.tup []), (32, Slot.tup []), (33, Slot.tup []), (34, Slot.tup []), (37, Slot.tup []), (38, Slot.tup []), (39, Slot.tup []), (40, Slot.tup []), (43, Slot.tup []), (44, Slot.tup []), (45, Slot.tup []), (46, Slot.tup []), (47, Slot.tup []), (48, Slot.tup []), (49, Slot.tup []), (50, Slot.tup []), (52, one (cL true)), (53, Slot.tup []), (54, Slot.tup []), (55, Slot.tup [])] [] [(0, [cI b198.A, cI b198.B])] 1) (Le.mk [(0, 0)] hm rfl ⟨⟨_, rfl, rfl⟩, ⟨_, rfl, rfl⟩, ⟨_, rfl, rfl⟩, ⟨_, rfl, rfl⟩, ⟨_, rfl, rfl⟩, ⟨_, rfl, rfl⟩, ⟨_, rfl, rfl⟩, ⟨_, rfl, rfl⟩, ⟨_, rfl, rfl⟩, ⟨_, rfl, rfl⟩, ⟨_, rfl, rfl⟩, ⟨_, rfl, rfl⟩, ⟨_, rfl, rfl⟩, ⟨_, rfl, rfl⟩, ⟨_, rfl, rfl⟩, ⟨_, rfl, rfl⟩, ⟨_, rfl, rfl⟩, ⟨_, rfl, rfl⟩, ⟨_, rfl, rfl⟩, ⟨_, rfl, rfl⟩, ⟨_, rfl, rfl⟩, ⟨_, rfl, rfl⟩, ⟨_, rfl, rfl⟩, ⟨_, rfl, rfl⟩, ⟨_, rfl, rfl⟩, ⟨_, rfl, rfl⟩, ⟨_, rfl, rfl⟩, ⟨_, rfl, rfl⟩, trivial⟩ trivial ⟨⟨_, _, rfl, rfl, rfl⟩, trivial⟩) ?_
            refine A.off 34 rfl (by kernel_rfl) (by kernel_rfl) (by kernel_rfl) rfl hF rfl rfl ?_
            refine A.all [35] (by kernel_rfl) rfl ⟨⟨_, rfl, ?_⟩, trivial⟩
            refine L.off hF rfl rfl ?_
            refine L.nil ?_
            refine A.take 36 rfl (by kernel_rfl) (by kernel_rfl) (by kernel_rfl) rfl (Ca.pick) (fun Q0 k0 => L.pick hF rfl rfl rfl rfl (L.nil k0)) ?_
            refine A.le (τ := mkSt [(0, one (Cell.sl g0 (List.map eTimpl_Pair v172))), (1, one (cI v173)), (2, one (cL v174)), (7, one (cI v175)), (26, Slot.tup []), (27, Slot.tup []), (28, Slot.tup []), (29, Slot.tup []), (32, Slot.tup []), (33, Slot.tup []), (34, Slot.tup []), (37, Slot.tup []), (38, Slot.tup []), (39, Slot.tup []), (40, Slot.tup []), (43, Slot.tup []), (44, Slot.tup []), (45, Slot.tup []), (46, Slot.tup []), (47, Slot.tup []), (48, Slot.tup []), (49, Slot.tup []), (50, Slot.tup []), (53, Slot.tup []), (54, Slot.tup []), (55, Slot.tup []), (56, Slot.tup []), (57, Slot.tup []), (58, one (cL true))] [] [] 0) (Le.mk [] hm rfl ⟨⟨_, rfl, rfl⟩, ⟨_, rfl, rfl⟩, ⟨_, rfl, rfl⟩, ⟨_, rfl, rfl⟩, ⟨_, rfl, rfl⟩, ⟨_, rfl, rfl⟩, ⟨_, rfl, rfl⟩, ⟨_, rfl, rfl⟩, ⟨_, rfl, rfl⟩, ⟨_, rfl, rfl⟩, ⟨_, rfl, rfl⟩, ⟨_, rfl, rfl⟩, ⟨_, rfl, rfl⟩, ⟨_, rfl, rfl⟩, ⟨_, rfl, rfl⟩, ⟨_, rfl, rfl⟩, ⟨_, rfl, rfl⟩, ⟨_, rfl, rfl⟩, ⟨_, rfl, rfl⟩, ⟨_, rfl, rfl⟩, ⟨_, rfl, rfl⟩, ⟨_, rfl, rfl⟩, ⟨_, rfl, rfl⟩, ⟨_, rfl, rfl⟩, ⟨_, rfl, rfl⟩, ⟨_, rfl, rfl⟩, ⟨_, rfl, rfl⟩, ⟨_, rfl, rfl⟩, ⟨_, rfl, rfl⟩, trivial⟩ trivial trivial) ?_
            refine A.done (by kernel_rfl) ?_
            refine WpC.cond rfl (fun _ => ?_) (fun hc => by cases hc)
            refine WpC.seq ?_
            refine WpC.regionL ?_
            refine L.assign hF rfl rfl rfl ?_
            refine L.nil ?_
            refine WpC.ret ?_
            cases H
            exact Leaves.ret rfl rfl rfl ⟨rfl, rfl⟩
          · replace H := condF hc203 H
            rcases Bool.eq_false_or_eq_true ((decide (b198.A ≥ v173))) with hc204 | hc204
            · replace H := condT hc204 H
              refine A.begin mixed rfl rfl ?_
              intro W hI hO
              refine hI _ _ _ ?_
              refine A.take 0 rfl (by kernel_rfl) (by kernel_rfl) (by kernel_rfl) rfl (Ca.fieldAddr Try.underlying256 rfl info3 rfl) (fun Q0 k0 => L.fieldAddr Try.underlying256 rfl info3 rfl hF rfl rfl rfl rfl rfl (L.nil k0)) ?_
              refine A.all [1] (by kernel_rfl) rfl ⟨⟨_, rfl, ?_⟩, trivial⟩
              refine L.loadPtr shape3 hF rfl rfl rfl rfl rfl rfl ?_
              refine L.nil ?_
              refine A.take 2 rfl (by kernel_rfl) (by kernel_rfl) (by kernel_rfl) rfl (Ca.bin rfl rfl (calm_int _ _ _ _ _ _ _ _)) (fun Q0 k0 => L.bin hF rfl rfl rfl rfl rfl rfl (L.nil k0)) ?_
              refine A.take 3 rfl (by kernel_rfl) (by kernel_rfl) (by kernel_rfl) rfl (Ca.move) (fun Q0 k0 => L.move hF rfl rfl rfl (L.nil k0)) ?_
              refine A.le (τ := mkSt [(0, one (Cell.sl g0 (List.map eTimpl_Pair v172))), (1, one (cI v173)), (2, one (cL v174)), (7, one (cI v175)), (8, one (Cell.ptr 0 0)), (25, one (cL false))] [] [(0, [cI b198.A, cI b198.B])] 1) (Le.mk [(0, 0)] hm rfl ⟨⟨_, rfl, rfl⟩, ⟨_, rfl, rfl⟩, ⟨_, rfl, rfl⟩, ⟨_, rfl, rfl⟩, ⟨_, rfl, rfl⟩, ⟨_, rfl, congrArg (fun b => some (one (cL b))) hc203⟩, trivial⟩ trivial ⟨⟨_, _, rfl, rfl, rfl⟩, trivial⟩) ?_
              refine A.take 4 rfl (by kernel_rfl) (by kernel_rfl) (by kernel_rfl) rfl (Ca.fieldAddr Try.underlying256 rfl info3 rfl) (fun Q0 k0 => L.fieldAddr Try.underlying256 rfl info3 rfl hF rfl rfl rfl rfl rfl (L.nil k0)) ?_
              refine A.take 6 rfl (by kernel_rfl) (by kernel_rfl) (by kernel_rfl) rfl (Ca.move) (fun Q0 k0 => L.move hF rfl rfl rfl (L.nil k0)) ?_
              refine A.all [5] (by kernel_rfl) rfl ⟨⟨_, rfl, ?_⟩, trivial⟩
              refine L.loadPtr shape3 hF rfl rfl rfl rfl rfl rfl ?_
              refine L.nil ?_
              refine A.take 7 rfl (by kernel_rfl) (by kernel_rfl) (by kernel_rfl) rfl (Ca.bin rfl rfl (calm_int _ _ _ _ _ _ _ _)) (fun Q0 k0 => L.bin hF rfl rfl rfl rfl rfl rfl (L.nil k0)) ?_
              refine A.take 8 rfl (by kernel_rfl) (by kernel_rfl) (by kernel_rfl) rfl (Ca.pick) (fun Q0 k0 => L.pick hF rfl rfl rfl rfl (L.nil k0)) ?_
              refine A.take 9 rfl (by kernel_rfl) (by kernel_rfl) (by kernel_rfl) rfl (Ca.move) (fun Q0 k0 => L.move hF rfl rfl rfl (L.nil k0)) ?_
              refine A.le (τ := mkSt [(0, one (Cell.sl g0 (List.map eTimpl_Pair v172))), (1, one (cI v173)), (2, one (cL v174)), (7, one (cI v175)), (8, one (Cell.ptr 0 0)), (26, one (Cell.ptr 0 0)), (27, one (cI b198.A)), (28, one (cI v173)), (29, one (cL (decide (b198.A ≥ v173)))), (31, one (cL true))] [] [(0, [cI b198.A, cI b198.B])] 1) (Le.mk [(0, 0)] hm rfl ⟨⟨_, rfl, rfl⟩, ⟨_, rfl, rfl⟩, ⟨_, rfl, rfl⟩, ⟨_, rfl, rfl⟩, ⟨_, rfl, rfl⟩, ⟨_, rfl, rfl⟩, ⟨_, rfl, rfl⟩, ⟨_, rfl, rfl⟩, ⟨_, rfl, rfl⟩, ⟨_, rfl, congrArg (fun b => some (one (cL b))) hc204⟩, trivial⟩ trivial ⟨⟨_, _, rfl, rfl, rfl⟩, trivial⟩) ?_
              refine A.off 10 rfl (by kernel_rfl) (by kernel_rfl) (by kernel_rfl) rfl hF rfl rfl ?_
              refine A.off 11 rfl (by kernel_rfl) (by kernel_rfl) (by kernel_rfl) rfl hF rfl rfl ?_
              refine A.off 12 rfl (by kernel_rfl) (by kernel_rfl) (by kernel_rfl) rfl hF rfl rfl ?_
              refine A.take 13 rfl (by kernel_rfl) (by kernel_rfl) (by kernel_rfl) rfl (Ca.pick) (fun Q0 k0 => L.pick hF rfl rfl rfl rfl (L.nil k0)) ?_
              refine A.take 14 rfl (by kernel_rfl) (by kernel_rfl) (by kernel_rfl) rfl (Ca.move) (fun Q0 k0 => L.move hF rfl rfl rfl (L.nil k0)) ?_
              refine A.off 15 rfl (by kernel_rfl) (by kernel_rfl) (by kernel_rfl) rfl hF rfl rfl ?_
              refine A.off 16 rfl (by kernel_rfl) (by kernel_rfl) (by kernel_rfl) rfl hF rfl rfl ?_
              refine A.off 17 rfl (by kernel_rfl) (by kernel_rfl) (by kernel_rfl) rfl hF rfl rfl ?_
              refine A.off 18 rfl (by kernel_rfl) (by kernel_rfl) (by kernel_rfl) rfl hF rfl rfl ?_
              refine A.take 19 rfl (by kernel_rfl) (by kernel_rfl) (by kernel_rfl) rfl (Ca.pick) (fun Q0 k0 => L.pick hF rfl rfl rfl rfl (L.nil k0)) ?_
              refine A.le (τ := mkSt [(0, one (Cell.sl g0 (List.map eTimpl_Pair v172))), (1, one (cI v173)), (2, one (cL v174)), (7, one (cI v175)), (8, one (Cell.ptr 0 0)), (26, one (Cell.ptr 0 0)), (27, one (cI b198.A)), (28, one (cI v173)), (29, one (cL (decide (b198.A ≥ v173)))), (32, Slot.tup []), (33, Slot.tup []), (34, Slot.tup []), (37, Slot.tup []), (38, Slot.tup []), (39, Slot.tup []), (40, Slot.tup []), (41, one (cL true))] [] [(0, [cI b198.A, cI b198.B])] 1) (Le.mk [(0, 0)] hm rfl ⟨⟨_, rfl, rfl⟩, ⟨_, rfl, rfl⟩, ⟨_, rfl, rfl⟩, ⟨_, rfl, rfl⟩, ⟨_, rfl, rfl⟩, ⟨_, rfl, rfl⟩, ⟨_, rfl, rfl⟩, ⟨_, rfl, rfl⟩, ⟨_, rfl, rfl⟩, ⟨_, rfl, rfl⟩, ⟨_, rfl, rfl⟩, ⟨_, rfl, rfl⟩, ⟨_, rfl, rfl⟩, ⟨_, rfl, rfl⟩, ⟨_, rfl, rfl⟩, ⟨_, rfl, rfl⟩, ⟨_, rfl, rfl⟩, trivial⟩ trivial ⟨⟨_, _, rfl, rfl, rfl⟩, trivial⟩) ?_
              refine A.take 20 rfl (by kernel_rfl) (by kernel_rfl) (by kernel_rfl) rfl (Ca.move) (fun Q0 k0 => L.move hF rfl rfl rfl (L.nil k0)) ?_
              refine A.off 21 rfl (by kernel_rfl) (by kernel_rfl) (by kernel_rfl) rfl hF rfl rfl ?_
              refine A.off 22 rfl (by kernel_rfl) (by kernel_rfl) (by kernel_rfl) rfl hF rfl rfl ?_
              refine A.off 23 rfl (by kernel_rfl) (by kernel_rfl) (by kernel_rfl) rfl hF rfl rfl ?_
              refine A.off 24 rfl (by kernel_rfl) (by kernel_rfl) (by kernel_rfl) rfl hF rfl rfl ?_
              refine A.off 25 rfl (by kernel_rfl) (by kernel_rfl) (by kernel_rfl) rfl hF rfl rfl ?_
              refine A.off 26 rfl (by kernel_rfl) (by kernel_rfl) (by kernel_rfl) rfl hF rfl rfl ?_
              refine A.off 27 rfl (by kernel_rfl) (by kernel_rfl) (by kernel_rfl) rfl hF rfl rfl ?_
              refine A.off 28 rfl (by kernel_rfl) (by kernel_rfl) (by kernel_rfl) rfl hF rfl rfl ?_
              refine A.take 29 rfl (by kernel_rfl) (by kernel_rfl) (by kernel_rfl) rfl (Ca.pick) (fun Q0 k0 => L.pick hF rfl rfl rfl rfl (L.nil k0)) ?_
              refine A.le (τ := mkSt [(0, one (Cell.sl g0 (List.map eTimpl_Pair v172))), (1, one (cI v173)), (2, one (cL v174)), (7, one (cI v175)), (8, one (Cell.ptr 0 0)), (26, one (Cell.ptr 0 0)), (27, one (cI b198.A)), (28, one (cI v173)), (29, one (cL (decide (b198.A ≥ v173)))), (32, Slot.tup []), (33, Slot.tup []), (34, Slot.tup []), (37, Slot.tup []), (38, Slot.tup []), (39, Slot.tup []), (40, Slot.tup []), (43, Slot.tup []), (44, Slot.tup []), (45, Slot.tup []), (46, Slot.tup []), (47, Slot.tup []), (48, Slot.tup []), (49, Slot.tup []), (50, Slot.tup []), (51, one (cL true))] [] [(0, [cI b198.A, cI b198.B])] 1) (Le.mk [(0, 0)] hm rfl ⟨⟨_, rfl, rfl⟩, ⟨_, rfl, rfl⟩, ⟨_, rfl, rfl⟩, ⟨_, rfl, rfl⟩, ⟨_, rfl, rfl⟩, ⟨_, rfl, rfl⟩, ⟨_, rfl, rfl⟩, ⟨_, rfl, rfl⟩, ⟨_, rfl, rfl⟩, ⟨_, rfl, rfl⟩, ⟨_, rfl, rfl⟩, ⟨_, rfl, rfl⟩, ⟨_, rfl, rfl⟩, ⟨_, rfl, rfl⟩, ⟨_, rfl, rfl⟩, ⟨_, rfl, rfl⟩, ⟨_, rfl, rfl⟩, ⟨_, rfl, rfl⟩, ⟨_, rfl, rfl⟩, ⟨_, rfl, rfl⟩, ⟨_, rfl, rfl⟩, ⟨_, rfl, rfl⟩, ⟨_, rfl, rfl⟩, ⟨_, rfl, rfl⟩, ⟨_, rfl, rfl⟩, trivial⟩ trivial ⟨⟨_, _, rfl, rfl, rfl⟩, trivial⟩) ?_
              refine A.take 30 rfl (by kernel_rfl) (by kernel_rfl) (by kernel_rfl) rfl (Ca.move) (fun Q0 k0 => L.move hF rfl rfl rfl (L.nil k0)) ?_
              refine A.off 31 rfl (by kernel_rfl) (by kernel_rfl) (by kernel_rfl) rfl hF rfl rfl ?_
              refine A.off 32 rfl (by kernel_rfl) (by kernel_rfl) (by kernel_rfl) rfl hF rfl rfl ?_
              refine A.off 33 rfl (by kernel_rfl) (by kernel_rfl) (by kernel_rfl) rfl hF rfl rfl ?_
              refine A.off 34 rfl (by kernel_rfl) (by kernel_rfl) (by kernel_rfl) rfl hF rfl rfl ?_
              refine A.all [35] (by kernel_rfl) rfl ⟨⟨_, rfl, ?_⟩, trivial⟩
              refine L.off hF rfl rfl ?_
              refine L.nil ?_
              refine A.take 36 rfl (by kernel_rfl) (by kernel_rfl) (by kernel_rfl) rfl (Ca.pick) (fun Q0 k0 => L.pick hF rfl rfl rfl rfl (L.nil k0)) ?_
              refine A.le (τ := mkSt [(0, one (Cell.sl g0 (List.map eTimpl_Pair v172))), (1, one (cI v173)), (2, one (cL v174)), (7, one (cI v175)), (26, one (Cell.ptr 0 0)), (27, one (cI b198.A)), (28, one (cI v173)), (29, one (cL (decide (b198.A ≥ v173)))), (32, Slot.tup []), (33, Slot.tup []), (34, Slot.tup []), (37, Slot.tup []), (38, Slot.tup []), (39, Slot.tup []), (40, Slot.tup []), (43, Slot.tup []), (44, Slot.tup []), (45, Slot.tup []), (46, Slot.tup []), (47, Slot.tup []), (48, Slot.tup []), (49, Slot.tup []), (50, Slot.tup []), (53, Slot.tup []), (54, Slot.tup []), (55, Slot.tup []), (56, Slot.tup []), (57, Slot.tup []), (58, one (cL true))] [] [(0, [cI b198.A, cI b198.B])] 1) (Le.mk [(0, 0)] hm rfl ⟨⟨_, rfl, rfl⟩, ⟨_, rfl, rfl⟩, ⟨_, rfl, rfl⟩, ⟨_, rfl, rfl⟩, ⟨_, rfl, rfl⟩, ⟨_, rfl, rfl⟩, ⟨_, rfl, rfl⟩, ⟨_, rfl, rfl⟩, ⟨_, rfl, rfl⟩, ⟨_, rfl, rfl⟩, ⟨_, rfl, rfl⟩, ⟨_, rfl, rfl⟩, ⟨_, rfl, rfl⟩, ⟨_, rfl, rfl⟩, ⟨_, rfl, rfl⟩, ⟨_, rfl, rfl⟩, ⟨_, rfl, rfl⟩, ⟨_, rfl, rfl⟩, ⟨_, rfl, rfl⟩, ⟨_, rfl, rfl⟩, ⟨_, rfl, rfl⟩, ⟨_, rfl, rfl⟩, ⟨_, rfl, rfl⟩, ⟨_, rfl, rfl⟩, ⟨_, rfl, rfl⟩, ⟨_, rfl, rfl⟩, ⟨_, rfl, rfl⟩, ⟨_, rfl, rfl⟩, ⟨_, rfl, rfl⟩, trivial⟩ trivial ⟨⟨_, _, rfl, rfl, rfl⟩, trivial⟩) ?_
              refine A.done (by kernel_rfl) ?_
              refine WpC.cond rfl (fun _ => ?_) (fun hc => by cases hc)
              refine WpC.seq ?_
              refine WpC.regionL ?_
              refine L.assign hF rfl rfl rfl ?_
              refine L.nil ?_
              refine WpC.ret ?_
              cases H
              exact Leaves.ret rfl rfl rfl ⟨rfl, rfl⟩
            · replace H := condF hc204 H
              rcases Bool.eq_false_or_eq_true ((decide (b198.B < (0 : Int)))) with hc205 | hc205
              · replace H := condT hc205 H
                refine A.begin mixed rfl rfl ?_
                intro W hI hO
                refine hI _ _ _ ?_
                refine A.take 0 rfl (by kernel_rfl) (by kernel_rfl) (by kernel_rfl) rfl (Ca.fieldAddr Try.underlying256 rfl info3 rfl) (fun Q0 k0 => L.fieldAddr Try.underlying256 rfl info3 rfl hF rfl rfl rfl rfl rfl (L.nil k0)) ?_
                refine A.all [1] (by kernel_rfl) rfl ⟨⟨_, rfl, ?_⟩, trivial⟩
                refine L.loadPtr shape3 hF rfl rfl rfl rfl rfl rfl ?_
                refine L.nil ?_
                refine A.take 2 rfl (by kernel_rfl) (by kernel_rfl) (by kernel_rfl) rfl (Ca.bin rfl rfl (calm_int _ _ _ _ _ _ _ _)) (fun Q0 k0 => L.bin hF rfl rfl rfl rfl rfl rfl (L.nil k0)) ?_
                refine A.take 3 rfl (by kernel_rfl) (by kernel_rfl) (by kernel_rfl) rfl (Ca.move) (fun Q0 k0 => L.move hF rfl rfl rfl (L.nil k0)) ?_
                refine A.le (τ := mkSt [(0, one (Cell.sl g0 (List.map eTimpl_Pair v172))), (1, one (cI v173)), (2, one (cL v174)), (7, one (cI v175)), (8, one (Cell.ptr 0 0)), (25, one (cL false))] [] [(0, [cI b198.A, cI b198.B])] 1) (Le.mk [(0, 0)] hm rfl ⟨⟨_, rfl, rfl⟩, ⟨_, rfl, rfl⟩, ⟨_, rfl, rfl⟩, ⟨_, rfl, rfl⟩, ⟨_, rfl, rfl⟩, ⟨_, rfl, congrArg (fun b => some (one (cL b))) hc203⟩, trivial⟩ trivial ⟨⟨_, _, rfl, rfl, rfl⟩, trivial⟩) ?_
                refine A.take 4 rfl (by kernel_rfl) (by kernel_rfl) (by kernel_rfl) rfl (Ca.fieldAddr Try.underlying256 rfl info3 rfl) (fun Q0 k0 => L.fieldAddr Try.underlying256 rfl info3 rfl hF rfl rfl rfl rfl rfl (L.nil k0)) ?_
                refine A.take 6 rfl (by kernel_rfl) (by kernel_rfl) (by kernel_rfl) rfl (Ca.move) (fun Q0 k0 => L.move hF rfl rfl rfl (L.nil k0)) ?_
                refine A.all [5] (by kernel_rfl) rfl ⟨⟨_, rfl, ?_⟩, trivial⟩
                refine L.loadPtr shape3 hF rfl rfl rfl rfl rfl rfl ?_
                refine L.nil ?_
                refine A.take 7 rfl (by kernel_rfl) (by kernel_rfl) (by kernel_rfl) rfl (Ca.bin rfl rfl (calm_int _ _ _ _ _ _ _ _)) (fun Q0 k0 => L.bin hF rfl rfl rfl rfl rfl rfl (L.nil k0)) ?_
                refine A.take 8 rfl (by kernel_rfl) (by kernel_rfl) (by kernel_rfl) rfl (Ca.pick) (fun Q0 k0 => L.pick hF rfl rfl rfl rfl (L.nil k0)) ?_
                refine A.take 9 rfl (by kernel_rfl) (by kernel_rfl) (by kernel_rfl) rfl (Ca.move) (fun Q0 k0 => L.move hF rfl rfl rfl (L.nil k0)) ?_
                refine A.le (τ := mkSt [(0, one (Cell.sl g0 (List.map eTimpl_Pair v172))), (1, one (cI v173)), (2, one (cL v174)), (7, one (cI v175)), (8, one (Cell.ptr 0 0)), (26, one (Cell.ptr 0 0)), (27, one (cI b198.A)), (28, one (cI v173)), (29, one (cL (decide (b198.A ≥ v173)))), (31, one (cL false))] [] [(0, [cI b198.A, cI b198.B])] 1) (Le.mk [(0, 0)] hm rfl ⟨⟨_, rfl, rfl⟩, ⟨_, rfl, rfl⟩, ⟨_, rfl, rfl⟩, ⟨_, rfl, rfl⟩, ⟨_, rfl, rfl⟩, ⟨_, rfl, rfl⟩, ⟨_, rfl, rfl⟩, ⟨_, rfl, rfl⟩, ⟨_, rfl, rfl⟩, ⟨_, rfl, congrArg (fun b => some (one (cL b))) hc204⟩, trivial⟩ trivial ⟨⟨_, _, rfl, rfl, rfl⟩, trivial⟩) ?_
                refine A.take 10 rfl (by kernel_rfl) (by kernel_rfl) (by kernel_rfl) rfl (Ca.fieldAddr Try.underlying256 rfl info3 rfl) (fun Q0 k0 => L.fieldAddr Try.underlying256 rfl info3 rfl hF rfl rfl rfl rfl rfl (L.nil k0)) ?_
                refine A.all [11] (by kernel_rfl) rfl ⟨⟨_, rfl, ?_⟩, trivial⟩
                refine L.loadPtr shape3 hF rfl rfl rfl rfl rfl rfl ?_
                refine L.nil ?_
                refine A.take 12 rfl (by kernel_rfl) (by kernel_rfl) (by kernel_rfl) rfl (Ca.bin rfl rfl (calm_int _ _ _ _ _ _ _ _)) (fun Q0 k0 => L.bin hF rfl rfl rfl rfl rfl rfl (L.nil k0)) ?_
                refine A.take 13 rfl (by kernel_rfl) (by kernel_rfl) (by kernel_rfl) rfl (Ca.pick) (fun Q0 k0 => L.pick hF rfl rfl rfl rfl (L.nil k0)) ?_
                refine A.take 14 rfl (by kernel_rfl) (by kernel_rfl) (by kernel_rfl) rfl (Ca.move) (fun Q0 k0 => L.move hF rfl rfl rfl (L.nil k0)) ?_
                refine A.le (τ := mkSt [(0, one (Cell.sl g0 (List.map eTimpl_Pair v172))), (1, one (cI v173)), (2, one (cL v174)), (7, one (cI v175)), (8, one (Cell.ptr 0 0)), (26, one (Cell.ptr 0 0)), (27, one (cI b198.A)), (28, one (cI v173)), (29, one (cL (decide (b198.A ≥ v173)))), (32, one (Cell.ptr 0 1)), (33, one (cI b198.B)), (34, one (cL (decide (b198.B < (0 : Int))))), (36, one (cL true))] [] [(0, [cI b198.A, cI b198.B])] 1) (Le.mk [(0, 0)] hm rfl ⟨⟨_, rfl, rfl⟩, ⟨_, rfl, rfl⟩, ⟨_, rfl, rfl⟩, ⟨_, rfl, rfl⟩, ⟨_, rfl, rfl⟩, ⟨_, rfl, rfl⟩, ⟨_, rfl, rfl⟩, ⟨_, rfl, rfl⟩, ⟨_, rfl, rfl⟩, ⟨_, rfl, rfl⟩, ⟨_, rfl, rfl⟩, ⟨_, rfl, rfl⟩, ⟨_, rfl, congrArg (fun b => some (one (cL b))) hc205⟩, trivial⟩ trivial ⟨⟨_, _, rfl, rfl, rfl⟩, trivial⟩) ?_
                refine A.off 15 rfl (by kernel_rfl) (by kernel_rfl) (by kernel_rfl) rfl hF rfl rfl ?_
                refine A.off 16 rfl (by kernel_rfl) (by kernel_rfl) (by kernel_rfl) rfl hF rfl rfl ?_
                refine A.off 17 rfl (by kernel_rfl) (by kernel_rfl) (by kernel_rfl) rfl hF rfl rfl ?_
                refine A.off 18 rfl (by kernel_rfl) (by kernel_rfl) (by kernel_rfl) rfl hF rfl rfl ?_
                refine A.take 19 rfl (by kernel_rfl) (by kernel_rfl) (by kernel_rfl) rfl (Ca.pick) (fun Q0 k0 => L.pick hF rfl rfl rfl rfl (L.nil k0)) ?_
                refine A.take 20 rfl (by kernel_rfl) (by kernel_rfl) (by kernel_rfl) rfl (Ca.move) (fun Q0 k0 => L.move hF rfl rfl rfl (L.nil k0)) ?_
                refine A.off 21 rfl (by kernel_rfl) (by kernel_rfl) (by kernel_rfl) rfl hF rfl rfl ?_
                refine A.off 22 rfl (by kernel_rfl) (by kernel_rfl) (by kernel_rfl) rfl hF rfl rfl ?_
                refine A.off 23 rfl (by kernel_rfl) (by kernel_rfl) (by kernel_rfl) rfl hF rfl rfl ?_
                refine A.off 24 rfl (by kernel_rfl) (by kernel_rfl) (by kernel_rfl) rfl hF rfl rfl ?_
                refine A.le (τ := mkSt [(0, one (Cell.sl g0 (List.map eTimpl_Pair v172))), (1, one (cI v173)), (2, one (cL v174)), (7, one (cI v175)), (8, one (Cell.ptr 0 0)), (26, one (Cell.ptr 0 0)), (27, one (cI b198.A)), (28, one (cI v173)), (29, one (cL (decide (b198.A ≥ v173)))), (32, one (Cell.ptr 0 1)), (33, one (cI b198.B)), (34, one (cL (decide (b198.B < (0 : Int))))), (37, Slot.tup []), (38, Slot.tup []), (39, Slot.tup []), (40, Slot.tup []), (42, one (cL true)), (43, Slot.tup []), (44, Slot.tup []), (45, Slot.tup []), (46, Slot.tup [])] [] [(0, [cI b198.A, cI b198.B])] 1) (Le.mk [(0, 0)] hm rfl ⟨⟨_, rfl, rfl⟩, ⟨_, rfl, rfl⟩, ⟨_, rfl, rfl⟩, ⟨_, rfl, rfl⟩, ⟨_, rfl, rfl⟩, ⟨_, rfl, rfl⟩, ⟨_, rfl, rfl⟩, ⟨_, rfl, rfl⟩, ⟨_, rfl, rfl⟩, ⟨_, rfl, rfl⟩, ⟨_, rfl, rfl⟩, ⟨_, rfl, rfl⟩, ⟨_, rfl, rfl⟩, ⟨_, rfl, rfl⟩, ⟨_, rfl, rfl⟩, ⟨_, rfl, rfl⟩, ⟨_, rfl, rfl⟩, ⟨_, rfl, rfl⟩, ⟨_, rfl, rfl⟩, ⟨_, rfl, rfl⟩, ⟨_, rfl, rfl⟩, trivial⟩ trivial ⟨⟨_, _, rfl, rfl, rfl⟩, trivial⟩) ?_
                refine A.off 25 rfl (by kernel_rfl) (by kernel_rfl) (by kernel_rfl) rfl hF rfl rfl ?_
                refine A.off 26 rfl (by kernel_rfl) (by kernel_rfl) (by kernel_rfl) rfl hF rfl rfl ?_
                refine A.off 27 rfl (by kernel_rfl) (by kernel_rfl) (by kernel_rfl) rfl hF rfl rfl ?_
                refine A.off 28 rfl (by kernel_rfl) (by kernel_rfl) (by kernel_rfl) rfl hF rfl rfl ?_
                refine A.take 29 rfl (by kernel_rfl) (by kernel_rfl) (by kernel_rfl) rfl (Ca.pick) (fun Q0 k0 => L.pick hF rfl rfl rfl rfl (L.nil k0)) ?_
                refine A.take 30 rfl (by kernel_rfl) (by kernel_rfl) (by kernel_rfl) rfl (Ca.move) (fun Q0 k0 => L.move hF rfl rfl rfl (L.nil k0)) ?_
                refine A.off 31 rfl (by kernel_rfl) (by kernel_rfl) (by kernel_rfl) rfl hF rfl rfl ?_
                refine A.off 32 rfl (by kernel_rfl) (by kernel_rfl) (by kernel_rfl) rfl hF rfl rfl ?_
                refine A.off 33 rfl (by kernel_rfl) (by kernel_rfl) (by kernel_rfl) rfl hF rfl rfl ?_
                refine A.off 34 rfl (by kernel_rfl) (by kernel_rfl) (by kernel_rfl) rfl hF rfl rfl ?_
                refine A.le (τ := mkSt [(0, one (Cell.sl g0 (List.map eTimpl_Pair v172))), (1, one (cI v173)), (2, one (cL v174)), (7, one (cI v175)), (26, one (Cell.ptr 0 0)), (27, one (cI b198.A)), (28, one (cI v173)), (29, one (cL (decide (b198.A ≥ v173)))), (32, one (Cell.ptr 0 1)), (33, one (cI b198.B)), (34, one (cL (decide (b198.B < (0 : Int))))), (37, Slot.tup []), (38, Slot.tup []), (39, Slot.tup []), (40, Slot.tup []), (43, Slot.tup []), (44, Slot.tup []), (45, Slot.tup []), (46, Slot.tup []), (47, Slot.tup []), (48, Slot.tup []), (49, Slot.tup []), (50, Slot.tup []), (52, one (cL true)), (53, Slot.tup []), (54, Slot.tup []), (55, Slot.tup []), (56, Slot.tup [])] [] [(0, [cI b198.A, cI b198.B])] 1) (Le.mk [(0, 0)] hm rfl ⟨⟨_, rfl, rfl⟩, ⟨_, rfl, rfl⟩, ⟨_, rfl, rfl⟩, ⟨_, rfl, rfl⟩, ⟨_, rfl, rfl⟩, ⟨_, rfl, rfl⟩, ⟨_, rfl, rfl⟩, ⟨_, rfl, rfl⟩, ⟨_, rfl, rfl⟩, ⟨_, rfl, rfl⟩, ⟨_, rfl, rfl⟩, ⟨_, rfl, rfl⟩, ⟨_, rfl, rfl⟩, ⟨_, rfl, rfl⟩, ⟨_, rfl, rfl⟩, ⟨_, rfl, rfl⟩, ⟨_, rfl, rfl⟩, ⟨_, rfl, rfl⟩, ⟨_, rfl, rfl⟩, ⟨_, rfl, rfl⟩, ⟨_, rfl, rfl⟩, ⟨_, rfl, rfl⟩, ⟨_, rfl, rfl⟩, ⟨_, rfl, rfl⟩, ⟨_, rfl, rfl⟩, ⟨_, rfl, rfl⟩, ⟨_, rfl, rfl⟩, ⟨_, rfl, rfl⟩, trivial⟩ trivial ⟨⟨_, _, rfl, rfl, rfl⟩, trivial⟩) ?_
                refine A.all [35] (by kernel_rfl) rfl ⟨⟨_, rfl, ?_⟩, trivial⟩
                refine L.off hF rfl rfl ?_
                refine L.nil ?_
                refine A.take 36 rfl (by kernel_rfl) (by kernel_rfl) (by kernel_rfl) rfl (Ca.pick) (fun Q0 k0 => L.pick hF rfl rfl rfl rfl (L.nil k0)) ?_
                refine A.le (τ := mkSt [(0, one (Cell.sl g0 (List.map eTimpl_Pair v172))), (1, one (cI v173)), (2, one (cL v174)), (7, one (cI v175)), (26, one (Cell.ptr 0 0)), (27, one (cI b198.A)), (28, one (cI v173)), (29, one (cL (decide (b198.A ≥ v173)))), (32, one (Cell.ptr 0 1)), (33, one (cI b198.B)), (34, one (cL (decide (b198.B < (0 : Int))))), (37, Slot.tup []), (38, Slot.tup []), (39, Slot.tup []), (40, Slot.tup []), (43, Slot.tup []), (44, Slot.tup []), (45, Slot.tup []), (46, Slot.tup []), (47, Slot.tup []), (48, Slot.tup []), (49, Slot.tup []), (50, Slot.tup []), (53, Slot.tup []), (54, Slot.tup []), (55, Slot.tup []), (56, Slot.tup []), (57, Slot.tup []), (58, one (cL true))] [] [(0, [cI b198.A, cI b198.B])] 1) (Le.mk [(0, 0)] hm rfl ⟨⟨_, rfl, rfl⟩, ⟨_, rfl, rfl⟩, ⟨_, rfl, rfl⟩, ⟨_, rfl, rfl⟩, ⟨_, rfl, rfl⟩, ⟨_, rfl, rfl⟩, ⟨_, rfl, rfl⟩, ⟨_, rfl, rfl⟩, ⟨_, rfl, rfl⟩, ⟨_, rfl, rfl⟩, ⟨_, rfl, rfl⟩, ⟨_, rfl, rfl⟩, ⟨_, rfl, rfl⟩, ⟨_, rfl, rfl⟩, ⟨_, rfl, rfl⟩, ⟨_, rfl, rfl⟩, ⟨_, rfl, rfl⟩, ⟨_, rfl, rfl⟩, ⟨_, rfl, rfl⟩, ⟨_, rfl, rfl⟩, ⟨_, rfl, rfl⟩, ⟨_, rfl, rfl⟩, ⟨_, rfl, rfl⟩, ⟨_, rfl, rfl⟩, ⟨_, rfl, rfl⟩, ⟨_, rfl, rfl⟩, ⟨_, rfl, rfl⟩, ⟨_, rfl, rfl⟩, ⟨_, rfl, rfl⟩, trivial⟩ trivial ⟨⟨_, _, rfl, rfl, rfl⟩, trivial⟩) ?_
                refine A.done (by kernel_rfl) ?_
                refine WpC.cond rfl (fun _ => ?_) (fun hc => by cases hc)
                refine WpC.seq ?_
                refine WpC.regionL ?_
                refine L.assign hF rfl rfl rfl ?_
                refine L.nil ?_
                refine WpC.ret ?_
                cases H
                exact Leaves.ret rfl rfl rfl ⟨rfl, rfl⟩
              · replace H := condF hc205 H
                rcases Bool.eq_false_or_eq_true ((decide (b198.B ≥ v173))) with hc206 | hc206
                · replace H := condT hc206 H
                  refine A.begin mixed rfl rfl ?_
                  intro W hI hO
                  refine hI _ _ _ ?_
                  refine A.take 0 rfl (by kernel_rfl) (by kernel_rfl) (by kernel_rfl) rfl (Ca.fieldAddr Try.underlying256 rfl info3 rfl) (fun Q0 k0 => L.fieldAddr Try.underlying256 rfl info3 rfl hF rfl rfl rfl rfl rfl (L.nil k0)) ?_
                  refine A.all [1] (by kernel_rfl) rfl ⟨⟨_, rfl, ?_⟩, trivial⟩
                  refine L.loadPtr shape3 hF rfl rfl rfl rfl rfl rfl ?_
                  refine L.nil ?_
                  refine A.take 2 rfl (by kernel_rfl) (by kernel_rfl) (by kernel_rfl) rfl (Ca.bin rfl rfl (calm_int _ _ _ _ _ _ _ _)) (fun Q0 k0 => L.bin hF rfl rfl rfl rfl rfl rfl (L.nil k0)) ?_
                  refine A.take 3 rfl (by kernel_rfl) (by kernel_rfl) (by kernel_rfl) rfl (Ca.move) (fun Q0 k0 => L.move hF rfl rfl rfl (L.nil k0)) ?_
                  refine A.le (τ := mkSt [(0, one (Cell.sl g0 (List.map eTimpl_Pair v172))), (1, one (cI v173)), (2, one (cL v174)), (7, one (cI v175)), (8, one (Cell.ptr 0 0)), (25, one (cL false))] [] [(0, [cI b198.A, cI b198.B])] 1) (Le.mk [(0, 0)] hm rfl ⟨⟨_, rfl, rfl⟩, ⟨_, rfl, rfl⟩, ⟨_, rfl, rfl⟩, ⟨_, rfl, rfl⟩, ⟨_, rfl, rfl⟩, ⟨_, rfl, congrArg (fun b => some (one (cL b))) hc203⟩, trivial⟩ trivial ⟨⟨_, _, rfl, rfl, rfl⟩, trivial⟩) ?_
                  refine A.take 4 rfl (by kernel_rfl) (by kernel_rfl) (by kernel_rfl) rfl (Ca.fieldAddr Try.underlying256 rfl info3 rfl) (fun Q0 k0 => L.fieldAddr Try.underlying256 rfl info3 rfl hF rfl rfl rfl rfl rfl (L.nil k0)) ?_
                  refine A.take 6 rfl (by kernel_rfl) (by kernel_rfl) (by kernel_rfl) rfl (Ca.move) (fun Q0 k0 => L.move hF rfl rfl rfl (L.nil k0)) ?_
                  refine A.all [5] (by kernel_rfl) rfl ⟨⟨_, rfl, ?_⟩, trivial⟩
                  refine L.loadPtr shape3 hF rfl rfl rfl rfl rfl rfl ?_
                  refine L.nil ?_
                  refine A.take 7 rfl (by kernel_rfl) (by kernel_rfl) (by kernel_rfl) rfl (Ca.bin rfl rfl (calm_int _ _ _ _ _ _ _ _)) (fun Q0 k0 => L.bin hF rfl rfl rfl rfl rfl rfl (L.nil k0)) ?_
                  refine A.take 8 rfl (by kernel_rfl) (by kernel_rfl) (by kernel_rfl) rfl (Ca.pick) (fun Q0 k0 => L.pick hF rfl rfl rfl rfl (L.nil k0)) ?_
                  refine A.take 9 rfl (by kernel_rfl) (by kernel_rfl) (by kernel_rfl) rfl (Ca.move) (fun Q0 k0 => L.move hF rfl rfl rfl (L.nil k0)) ?_
                  refine A.le (τ := mkSt [(0, one (Cell.sl g0 (List.map eTimpl_Pair v172))), (1, one (cI v173)), (2, one (cL v174)), (7, one (cI v175)), (8, one (Cell.ptr 0 0)), (26, one (Cell.ptr 0 0)), (27, one (cI b198.A)), (28, one (cI v173)), (29, one (cL (decide (b198.A ≥ v173)))), (31, one (cL false))] [] [(0, [cI b198.A, cI b198.B])] 1) (Le.mk [(0, 0)] hm rfl ⟨⟨_, rfl, rfl⟩, ⟨_, rfl, rfl⟩, ⟨_, rfl, rfl⟩, ⟨_, rfl, rfl⟩, ⟨_, rfl, rfl⟩, ⟨_, rfl, rfl⟩, ⟨_, rfl, rfl⟩, ⟨_, rfl, rfl⟩, ⟨_, rfl, rfl⟩, ⟨_, rfl, congrArg (fun b => some (one (cL b))) hc204⟩, trivial⟩ trivial ⟨⟨_, _, rfl, rfl, rfl⟩, trivial⟩) ?_
                  refine A.take 10 rfl (by kernel_rfl) (by kernel_rfl) (by kernel_rfl) rfl (Ca.fieldAddr Try.underlying256 rfl info3 rfl) (fun Q0 k0 => L.fieldAddr Try.underlying256 rfl info3 rfl hF rfl rfl rfl rfl rfl (L.nil k0)) ?_
                  refine A.all [11] (by kernel_rfl) rfl ⟨⟨_, rfl, ?_⟩, trivial⟩
                  refine L.loadPtr shape3 hF rfl rfl rfl rfl rfl rfl ?_
                  refine L.nil ?_
                  refine A.take 12 rfl (by kernel_rfl) (by kernel_rfl) (by kernel_rfl) rfl (Ca.bin rfl rfl (calm_int _ _ _ _ _ _ _ _)) (fun Q0 k0 => L.bin hF rfl rfl rfl rfl rfl rfl (L.nil k0)) ?_
                  refine A.take 13 rfl (by kernel_rfl) (by kernel_rfl) (by kernel_rfl) rfl (Ca.pick) (fun Q0 k0 => L.pick hF rfl rfl rfl rfl (L.nil k0)) ?_
                  refine A.take 14 rfl (by kernel_rfl) (by kernel_rfl) (by kernel_rfl) rfl (Ca.move) (fun Q0 k0 => L.move hF rfl rfl rfl (L.nil k0)) ?_
                  refine A.le (τ := mkSt [(0, one (Cell.sl g0 (List.map eTimpl_Pair v172))), (1, one (cI v173)), (2, one (cL v174)), (7, one (cI v175)), (8, one (Cell.ptr 0 0)), (26, one (Cell.ptr 0 0)), (27, one (cI b198.A)), (28, one (cI v173)), (29, one (cL (decide (b198.A ≥ v173)))), (32, one (Cell.ptr 0 1)), (33, one (cI b198.B)), (34, one (cL (decide (b198.B < (0 : Int))))), (36, one (cL false))] [] [(0, [cI b198.A, cI b198.B])] 1) (Le.mk [(0, 0)] hm rfl ⟨⟨_, rfl, rfl⟩, ⟨_, rfl, rfl⟩, ⟨_, rfl, rfl⟩, ⟨_, rfl, rfl⟩, ⟨_, rfl, rfl⟩, ⟨_, rfl, rfl⟩, ⟨_, rfl, rfl⟩, ⟨_, rfl, rfl⟩, ⟨_, rfl, rfl⟩, ⟨_, rfl, rfl⟩, ⟨_, rfl, rfl⟩, ⟨_, rfl, rfl⟩, ⟨_, rfl, congrArg (fun b => some (one (cL b))) hc205⟩, trivial⟩ trivial ⟨⟨_, _, rfl, rfl, rfl⟩, trivial⟩) ?_
                  refine A.take 15 rfl (by kernel_rfl) (by kernel_rfl) (by kernel_rfl) rfl (Ca.fieldAddr Try.underlying256 rfl info3 rfl) (fun Q0 k0 => L.fieldAddr Try.underlying256 rfl info3 rfl hF rfl rfl rfl rfl rfl (L.nil k0)) ?_
                  refine A.take 17 rfl (by kernel_rfl) (by kernel_rfl) (by kernel_rfl) rfl (Ca.move) (fun Q0 k0 => L.move hF rfl rfl rfl (L.nil k0)) ?_
                  refine A.all [16] (by kernel_rfl) rfl ⟨⟨_, rfl, ?_⟩, trivial⟩
                  refine L.loadPtr shape3 hF rfl rfl rfl rfl rfl rfl ?_
                  refine L.nil ?_
                  refine A.take 18 rfl (by kernel_rfl) (by kernel_rfl) (by kernel_rfl) rfl (Ca.bin rfl rfl (calm_int _ _ _ _ _ _ _ _)) (fun Q0 k0 => L.bin hF rfl rfl rfl rfl rfl rfl (L.nil k0)) ?_
                  refine A.take 19 rfl (by kernel_rfl) (by kernel_rfl) (by kernel_rfl) rfl (Ca.pick) (fun Q0 k0 => L.pick hF rfl rfl rfl rfl (L.nil k0)) ?_
                  refine A.take 20 rfl (by kernel_rfl) (by kernel_rfl) (by kernel_rfl) rfl (Ca.move) (fun Q0 k0 => L.move hF rfl rfl rfl (L.nil k0)) ?_
                  refine A.le (τ := mkSt [(0, one (Cell.sl g0 (List.map eTimpl_Pair v172))), (1, one (cI v173)), (2, one (cL v174)), (7, one (cI v175)), (8, one (Cell.ptr 0 0)), (26, one (Cell.ptr 0 0)), (27, one (cI b198.A)), (28, one (cI v173)), (29, one (cL (decide (b198.A ≥ v173)))), (32, one (Cell.ptr 0 1)), (33, one (cI b198.B)), (34, one (cL (decide (b198.B < (0 : Int))))), (37, one (Cell.ptr 0 1)), (38, one (cI b198.B)), (39, one (cI v173)), (40, one (cL (decide (b198.B ≥ v173)))), (42, one (cL true))] [] [(0, [cI b198.A, cI b198.B])] 1) (Le.mk [(0, 0)] hm rfl ⟨⟨_, rfl, rfl⟩, ⟨_, rfl, rfl⟩, ⟨_, rfl, rfl⟩, ⟨_, rfl, rfl⟩, ⟨_, rfl, rfl⟩, ⟨_, rfl, rfl⟩, ⟨_, rfl, rfl⟩, ⟨_, rfl, rfl⟩, ⟨_, rfl, rfl⟩, ⟨_, rfl, rfl⟩, ⟨_, rfl, rfl⟩, ⟨_, rfl, rfl⟩, ⟨_, rfl, rfl⟩, ⟨_, rfl, rfl⟩, ⟨_, rfl, rfl⟩, ⟨_, rfl, rfl⟩, ⟨_, rfl, congrArg (fun b => some (one (cL b))) hc206⟩, trivial⟩ trivial ⟨⟨_, _, rfl, rfl, rfl⟩, trivial⟩) ?_
                  refine A.off 21 rfl (by kernel_rfl) (by kernel_rfl) (by kernel_rfl) rfl hF rfl rfl ?_
                  refine A.off 22 rfl (by kernel_rfl) (by kernel_rfl) (by kernel_rfl) rfl hF rfl rfl ?_
                  refine A.off 23 rfl (by kernel_rfl) (by kernel_rfl) (by kernel_rfl) rfl hF rfl rfl ?_
                  refine A.off 24 rfl (by kernel_rfl) (by kernel_rfl) (by kernel_rfl) rfl hF rfl rfl ?_
                  refine A.off 25 rfl (by kernel_rfl) (by kernel_rfl) (by kernel_rfl) rfl hF rfl rfl ?_
                  refine A.off 26 rfl (by kernel_rfl) (by kernel_rfl) (by kernel_rfl) rfl hF rfl rfl ?_
                  refine A.off 27 rfl (by kernel_rfl) (by kernel_rfl) (by kernel_rfl) rfl hF rfl rfl ?_
                  refine A.off 28 rfl (by kernel_rfl) (by kernel_rfl) (by kernel_rfl) rfl hF rfl rfl ?_
                  refine A.take 29 rfl (by kernel_rfl) (by kernel_rfl) (by kernel_rfl) rfl (Ca.pick) (fun Q0 k0 => L.pick hF rfl rfl rfl rfl (L.nil k0)) ?_
                  refine A.take 30 rfl (by kernel_rfl) (by kernel_rfl) (by kernel_rfl) rfl (Ca.move) (fun Q0 k0 => L.move hF rfl rfl rfl (L.nil k0)) ?_
                  refine A.le (τ := mkSt [(0, one (Cell.sl g0 (List.map eTimpl_Pair v172))), (1, one (cI v173)), (2, one (cL v174)), (7, one (cI v175)), (8, one (Cell.ptr 0 0)), (26, one (Cell.ptr 0 0)), (27, one (cI b198.A)), (28, one (cI v173)), (29, one (cL (decide (b198.A ≥ v173)))), (32, one (Cell.ptr 0 1)), (33, one (cI b198.B)), (34, one (cL (decide (b198.B < (0 : Int))))), (37, one (Cell.ptr 0 1)), (38, one (cI b198.B)), (39, one (cI v173)), (40, one (cL (decide (b198.B ≥ v173)))), (43, Slot.tup []), (44, Slot.tup []), (45, Slot.tup []), (46, Slot.tup []), (47, Slot.tup []), (48, Slot.tup []), (49, Slot.tup []), (50, Slot.tup []), (52, one (cL true))] [] [(0, [cI b198.A, cI b198.B])] 1) (Le.mk [(0, 0)] hm rfl ⟨⟨_, rfl, rfl⟩, ⟨_, rfl, rfl⟩, ⟨_, rfl, rfl⟩, ⟨_, rfl, rfl⟩, ⟨_, rfl, rfl⟩, ⟨_, rfl, rfl⟩, ⟨_, rfl, rfl⟩, ⟨_, rfl, rfl⟩, ⟨_, rfl, rfl⟩, ⟨_, rfl, rfl⟩, ⟨_, rfl, rfl⟩, ⟨_, rfl, rfl⟩, ⟨_, rfl, rfl⟩, ⟨_, rfl, rfl⟩, ⟨_, rfl, rfl⟩, ⟨_, rfl, rfl⟩, ⟨_, rfl, rfl⟩, ⟨_, rfl, rfl⟩, ⟨_, rfl, rfl⟩, ⟨_, rfl, rfl⟩, ⟨_, rfl, rfl⟩, ⟨_, rfl, rfl⟩, ⟨_, rfl, rfl⟩, ⟨_, rfl, rfl⟩, ⟨_, rfl, rfl⟩, trivial⟩ trivial ⟨⟨_, _, rfl, rfl, rfl⟩, trivial⟩) ?_
                  refine A.off 31 rfl (by kernel_rfl) (by kernel_rfl) (by kernel_rfl) rfl hF rfl rfl ?_
                  refine A.off 32 rfl (by kernel_rfl) (by kernel_rfl) (by kernel_rfl) rfl hF rfl rfl ?_
                  refine A.off 33 rfl (by kernel_rfl) (by kernel_rfl) (by kernel_rfl) rfl hF rfl rfl ?_
                  refine A.off 34 rfl (by kernel_rfl) (by kernel_rfl) (by kernel_rfl) rfl hF rfl rfl ?_
                  refine A.all [35] (by kernel_rfl) rfl ⟨⟨_, rfl, ?_⟩, trivial⟩
                  refine L.off hF rfl rfl ?_
                  refine L.nil ?_
                  refine A.take 36 rfl (by kernel_rfl) (by kernel_rfl) (by kernel_rfl) rfl (Ca.pick) (fun Q0 k0 => L.pick hF rfl rfl rfl rfl (L.nil k0)) ?_
                  refine A.le (τ := mkSt [(0, one (Cell.sl g0 (List.map eTimpl_Pair v172))), (1, one (cI v173)), (2, one (cL v174)), (7, one (cI v175)), (26, one (Cell.ptr 0 0)), (27, one (cI b198.A)), (28, one (cI v173)), (29, one (cL (decide (b198.A ≥ v173)))), (32, one (Cell.ptr 0 1)), (33, one (cI b198.B)), (34, one (cL (decide (b198.B < (0 : Int))))), (37, one (Cell.ptr 0 1)), (38, one (cI b198.B)), (39, one (cI v173)), (40, one (cL (decide (b198.B ≥ v173)))), (43, Slot.tup []), (44, Slot.tup []), (45, Slot.tup []), (46, Slot.tup []), (47, Slot.tup []), (48, Slot.tup []), (49, Slot.tup []), (50, Slot.tup []), (53, Slot.tup []), (54, Slot.tup []), (55, Slot.tup []), (56, Slot.tup []), (57, Slot.tup []), (58, one (cL true))] [] [(0, [cI b198.A, cI b198.B])] 1) (Le.mk [(0, 0)] hm rfl ⟨⟨_, rfl, rfl⟩, ⟨_, rfl, rfl⟩, ⟨_, rfl, rfl⟩, ⟨_, rfl, rfl⟩, ⟨_, rfl, rfl⟩, ⟨_, rfl, rfl⟩, ⟨_, rfl, rfl⟩, ⟨_, rfl, rfl⟩, ⟨_, rfl, rfl⟩, ⟨_, rfl, rfl⟩, ⟨_, rfl, rfl⟩, ⟨_, rfl, rfl⟩, ⟨_, rfl, rfl⟩, ⟨_, rfl, rfl⟩, ⟨_, rfl, rfl⟩, ⟨_, rfl, rfl⟩, ⟨_, rfl, rfl⟩, ⟨_, rfl, rfl⟩, ⟨_, rfl, rfl⟩, ⟨_, rfl, rfl⟩, ⟨_, rfl, rfl⟩, ⟨_, rfl, rfl⟩, ⟨_, rfl, rfl⟩, ⟨_, rfl, rfl⟩, ⟨_, rfl, rfl⟩, ⟨_, rfl, rfl⟩, ⟨_, rfl, rfl⟩, ⟨_, rfl, rfl⟩, ⟨_, rfl, rfl⟩, trivial⟩ trivial ⟨⟨_, _, rfl, rfl, rfl⟩, trivial⟩) ?_
                  refine A.done (by kernel_rfl) ?_
                  refine WpC.cond rfl (fun _ => ?_) (fun hc => by cases hc)
                  refine WpC.seq ?_
                  refine WpC.regionL ?_
                  refine L.assign hF rfl rfl rfl ?_
                  refine L.nil ?_
                  refine WpC.ret ?_
                  cases H
                  exact Leaves.ret rfl rfl rfl ⟨rfl, rfl⟩
                · replace H := condF hc206 H
                  rcases Bool.eq_false_or_eq_true (v174) with hc207 | hc207
                  · replace H := condT hc207 H
                    rcases Bool.eq_false_or_eq_true ((b198.A == b198.B)) with hc208 | hc208
                    · replace H := condT hc208 H
                      refine A.begin mixed rfl rfl ?_
                      intro W hI hO
                      have n134217727 : W 10 #[true, true, true, true, true, true, true, true, true, true, true, true, true, true, true, true, true, true, true, true, true, true, true, true, true, true, true, false, false, false, false, false, false, false, false, false, false] (mkSt [(0, one (Cell.sl g0 (List.map eTimpl_Pair v172))), (1, one (cI v173)), (2, one (cL v174)), (7, one (cI v175)), (8, one (Cell.ptr 0 0)), (26, one (Cell.ptr 0 0)), (27, one (cI b198.A)), (28, one (cI v173)), (29, one (cL (decide (b198.A ≥ v173)))), (32, one (Cell.ptr 0 1)), (33, one (cI b198.B)), (34, one (cL (decide (b198.B < (0 : Int))))), (37, one (Cell.ptr 0 1)), (38, one (cI b198.B)), (39, one (cI v173)), (40, one (cL (decide (b198.B ≥ v173)))), (42, one (cL false)), (43, one (cL v174)), (44, one (cL true)), (45, one (Cell.ptr 0 0)), (46, one (cI b198.A)), (47, one (Cell.ptr 0 1)), (48, one (cI b198.B))] [] [(0, [cI b198.A, cI b198.B])] 1) := by
                        refine hI _ _ _ ?_
                        refine A.take 27 rfl (by kernel_rfl) (by kernel_rfl) (by kernel_rfl) rfl (Ca.bin rfl rfl (calm_int _ _ _ _ _ _ _ _)) (fun Q0 k0 => L.bin hF rfl rfl rfl rfl rfl rfl (L.nil k0)) ?_
                        refine A.take 28 rfl (by kernel_rfl) (by kernel_rfl) (by kernel_rfl) rfl (Ca.pick) (fun Q0 k0 => L.pick hF rfl rfl rfl rfl (L.nil k0)) ?_
                        refine A.take 29 rfl (by kernel_rfl) (by kernel_rfl) (by kernel_rfl) rfl (Ca.pick) (fun Q0 k0 => L.pick hF rfl rfl rfl rfl (L.nil k0)) ?_
                        refine A.take 30 rfl (by kernel_rfl) (by kernel_rfl) (by kernel_rfl) rfl (Ca.move) (fun Q0 k0 => L.move hF rfl rfl rfl (L.nil k0)) ?_
                        refine A.le (τ := mkSt [(0, one (Cell.sl g0 (List.map eTimpl_Pair v172))), (1, one (cI v173)), (2, one (cL v174)), (7, one (cI v175)), (8, one (Cell.ptr 0 0)), (26, one (Cell.ptr 0 0)), (27, one (cI b198.A)), (28, one (cI v173)), (29, one (cL (decide (b198.A ≥ v173)))), (32, one (Cell.ptr 0 1)), (33, one (cI b198.B)), (34, one (cL (decide (b198.B < (0 : Int))))), (37, one (Cell.ptr 0 1)), (38, one (cI b198.B)), (39, one (cI v173)), (40, one (cL (decide (b198.B ≥ v173)))), (43, one (cL v174)), (44, one (cL true)), (45, one (Cell.ptr 0 0)), (46, one (cI b198.A)), (47, one (Cell.ptr 0 1)), (48, one (cI b198.B)), (49, one (cL (b198.A == b198.B))), (50, one (cL (b198.A == b198.B))), (52, one (cL true))] [] [(0, [cI b198.A, cI b198.B])] 1) (Le.mk [(0, 0)] hm rfl ⟨⟨_, rfl, rfl⟩, ⟨_, rfl, rfl⟩, ⟨_, rfl, rfl⟩, ⟨_, rfl, rfl⟩, ⟨_, rfl, rfl⟩, ⟨_, rfl, rfl⟩, ⟨_, rfl, rfl⟩, ⟨_, rfl, rfl⟩, ⟨_, rfl, rfl⟩, ⟨_, rfl, rfl⟩, ⟨_, rfl, rfl⟩, ⟨_, rfl, rfl⟩, ⟨_, rfl, rfl⟩, ⟨_, rfl, rfl⟩, ⟨_, rfl, rfl⟩, ⟨_, rfl, rfl⟩, ⟨_, rfl, rfl⟩, ⟨_, rfl, rfl⟩, ⟨_, rfl, rfl⟩, ⟨_, rfl, rfl⟩, ⟨_, rfl, rfl⟩, ⟨_, rfl, rfl⟩, ⟨_, rfl, rfl⟩, ⟨_, rfl, rfl⟩, ⟨_, rfl, congrArg (fun b => some (one (cL b))) hc208⟩, trivial⟩ trivial ⟨⟨_, _, rfl, rfl, rfl⟩, trivial⟩) ?_
                        refine A.off 31 rfl (by kernel_rfl) (by kernel_rfl) (by kernel_rfl) rfl hF rfl rfl ?_
                        refine A.off 32 rfl (by kernel_rfl) (by kernel_rfl) (by kernel_rfl) rfl hF rfl rfl ?_
                        refine A.off 33 rfl (by kernel_rfl) (by kernel_rfl) (by kernel_rfl) rfl hF rfl rfl ?_
                        refine A.off 34 rfl (by kernel_rfl) (by kernel_rfl) (by kernel_rfl) rfl hF rfl rfl ?_
                        refine A.all [35] (by kernel_rfl) rfl ⟨⟨_, rfl, ?_⟩, trivial⟩
                        refine L.off hF rfl rfl ?_
                        refine L.nil ?_
                        refine A.take 36 rfl (by kernel_rfl) (by kernel_rfl) (by kernel_rfl) rfl (Ca.pick) (fun Q0 k0 => L.pick hF rfl rfl rfl rfl (L.nil k0)) ?_
                        refine A.le (τ := mkSt [(0, one (Cell.sl g0 (List.map eTimpl_Pair v172))), (1, one (cI v173)), (2, one (cL v174)), (7, one (cI v175)), (26, one (Cell.ptr 0 0)), (27, one (cI b198.A)), (28, one (cI v173)), (29, one (cL (decide (b198.A ≥ v173)))), (32, one (Cell.ptr 0 1)), (33, one (cI b198.B)), (34, one (cL (decide (b198.B < (0 : Int))))), (37, one (Cell.ptr 0 1)), (38, one (cI b198.B)), (39, one (cI v173)), (40, one (cL (decide (b198.B ≥ v173)))), (43, one (cL v174)), (44, one (cL true)), (45, one (Cell.ptr 0 0)), (46, one (cI b198.A)), (47, one (Cell.ptr 0 1)), (48, one (cI b198.B)), (49, one (cL (b198.A == b198.B))), (50, one (cL (b198.A == b198.B))), (53, Slot.tup []), (54, Slot.tup []), (55, Slot.tup []), (56, Slot.tup []), (57, Slot.tup []), (58, one (cL true))] [] [(0, [cI b198.A, cI b198.B])] 1) (Le.mk [(0, 0)] hm rfl ⟨⟨_, rfl, rfl⟩, ⟨_, rfl, rfl⟩, ⟨_, rfl, rfl⟩, ⟨_, rfl, rfl⟩, ⟨_, rfl, rfl⟩, ⟨_, rfl, rfl⟩, ⟨_, rfl, rfl⟩, ⟨_, rfl, rfl⟩, ⟨_, rfl, rfl⟩, ⟨_, rfl, rfl⟩, ⟨_, rfl, rfl⟩, ⟨_, rfl, rfl⟩, ⟨_, rfl, rfl⟩, ⟨_, rfl, rfl⟩, ⟨_, rfl, rfl⟩, ⟨_, rfl, rfl⟩, ⟨_, rfl, rfl⟩, ⟨_, rfl, rfl⟩, ⟨_, rfl, rfl⟩, ⟨_, rfl, rfl⟩, ⟨_, rfl, rfl⟩, ⟨_, rfl, rfl⟩, ⟨_, rfl, rfl⟩, ⟨_, rfl, rfl⟩, ⟨_, rfl, rfl⟩, ⟨_, rfl, rfl⟩, ⟨_, rfl, rfl⟩, ⟨_, rfl, rfl⟩, ⟨_, rfl, rfl⟩, trivial⟩ trivial ⟨⟨_, _, rfl, rfl, rfl⟩, trivial⟩) ?_
                        refine A.done (by kernel_rfl) ?_
                        refine WpC.cond rfl (fun _ => ?_) (fun hc => by cases hc)
                        refine WpC.seq ?_
                        refine WpC.regionL ?_
                        refine L.assign hF rfl rfl rfl ?_
                        refine L.nil ?_
                        refine WpC.ret ?_
                        cases H
                        exact Leaves.ret rfl rfl rfl ⟨rfl, rfl⟩
                      refine hI _ _ _ ?_
                      refine A.take 0 rfl (by kernel_rfl) (by kernel_rfl) (by kernel_rfl) rfl (Ca.fieldAddr Try.underlying256 rfl info3 rfl) (fun Q0 k0 => L.fieldAddr Try.underlying256 rfl info3 rfl hF rfl rfl rfl rfl rfl (L.nil k0)) ?_
                      refine A.all [1] (by kernel_rfl) rfl ⟨⟨_, rfl, ?_⟩, trivial⟩
                      refine L.loadPtr shape3 hF rfl rfl rfl rfl rfl rfl ?_
                      refine L.nil ?_
                      refine A.take 2 rfl (by kernel_rfl) (by kernel_rfl) (by kernel_rfl) rfl (Ca.bin rfl rfl (calm_int _ _ _ _ _ _ _ _)) (fun Q0 k0 => L.bin hF rfl rfl rfl rfl rfl rfl (L.nil k0)) ?_
                      refine A.take 3 rfl (by kernel_rfl) (by kernel_rfl) (by kernel_rfl) rfl (Ca.move) (fun Q0 k0 => L.move hF rfl rfl rfl (L.nil k0)) ?_
                      refine A.le (τ := mkSt [(0, one (Cell.sl g0 (List.map eTimpl_Pair v172))), (1, one (cI v173)), (2, one (cL v174)), (7, one (cI v175)), (8, one (Cell.ptr 0 0)), (25, one (cL false))] [] [(0, [cI b198.A, cI b198.B])] 1) (Le.mk [(0, 0)] hm rfl ⟨⟨_, rfl, rfl⟩, ⟨_, rfl, rfl⟩, ⟨_, rfl, rfl⟩, ⟨_, rfl, rfl⟩, ⟨_, rfl, rfl⟩, ⟨_, rfl, congrArg (fun b => some (one (cL b))) hc203⟩, trivial⟩ trivial ⟨⟨_, _, rfl, rfl, rfl⟩, trivial⟩) ?_
                      refine A.take 4 rfl (by kernel_rfl) (by kernel_rfl) (by kernel_rfl) rfl (Ca.fieldAddr Try.underlying256 rfl info3 rfl) (fun Q0 k0 => L.fieldAddr Try.underlying256 rfl info3 rfl hF rfl rfl rfl rfl rfl (L.nil k0)) ?_
                      refine A.take 6 rfl (by kernel_rfl) (by kernel_rfl) (by kernel_rfl) rfl (Ca.move) (fun Q0 k0 => L.move hF rfl rfl rfl (L.nil k0)) ?_
                      refine A.all [5] (by kernel_rfl) rfl ⟨⟨_, rfl, ?_⟩, trivial⟩
                      refine L.loadPtr shape3 hF rfl rfl rfl rfl rfl rfl ?_
                      refine L.nil ?_
                      refine A.take 7 rfl (by kernel_rfl) (by kernel_rfl) (by kernel_rfl) rfl (Ca.bin rfl rfl (calm_int _ _ _ _ _ _ _ _)) (fun Q0 k0 => L.bin hF rfl rfl rfl rfl rfl rfl (L.nil k0)) ?_
                      refine A.take 8 rfl (by kernel_rfl) (by kernel_rfl) (by kernel_rfl) rfl (Ca.pick) (fun Q0 k0 => L.pick hF rfl rfl rfl rfl (L.nil k0)) ?_
                      refine A.take 9 rfl (by kernel_rfl) (by kernel_rfl) (by kernel_rfl) rfl (Ca.move) (fun Q0 k0 => L.move hF rfl rfl rfl (L.nil k0)) ?_
                      refine A.le (τ := mkSt [(0, one (Cell.sl g0 (List.map eTimpl_Pair v172))), (1, one (cI v173)), (2, one (cL v174)), (7, one (cI v175)), (8, one (Cell.ptr 0 0)), (26, one (Cell.ptr 0 0)), (27, one (cI b198.A)), (28, one (cI v173)), (29, one (cL (decide (b198.A ≥ v173)))), (31, one (cL false))] [] [(0, [cI b198.A, cI b198.B])] 1) (Le.mk [(0, 0)] hm rfl ⟨⟨_, rfl, rfl⟩, ⟨_, rfl, rfl⟩, ⟨_, rfl, rfl⟩, ⟨_, rfl, rfl⟩, ⟨_, rfl, rfl⟩, ⟨_, rfl, rfl⟩, ⟨_, rfl, rfl⟩, ⟨_, rfl, rfl⟩, ⟨_, rfl, rfl⟩, ⟨_, rfl, congrArg (fun b => some (one (cL b))) hc204⟩, trivial⟩ trivial ⟨⟨_, _, rfl, rfl, rfl⟩, trivial⟩) ?_
                      refine A.take 10 rfl (by kernel_rfl) (by kernel_rfl) (by kernel_rfl) rfl (Ca.fieldAddr Try.underlying256 rfl info3 rfl) (fun Q0 k0 => L.fieldAddr Try.underlying256 rfl info3 rfl hF rfl rfl rfl rfl rfl (L.nil k0)) ?_
                      refine A.all [11] (by kernel_rfl) rfl ⟨⟨_, rfl, ?_⟩, trivial⟩
                      refine L.loadPtr shape3 hF rfl rfl rfl rfl rfl rfl ?_
                      refine L.nil ?_
                      refine A.take 12 rfl (by kernel_rfl) (by kernel_rfl) (by kernel_rfl) rfl (Ca.bin rfl rfl (calm_int _ _ _ _ _ _ _ _)) (fun Q0 k0 => L.bin hF rfl rfl rfl rfl rfl rfl (L.nil k0)) ?_
                      refine A.take 13 rfl (by kernel_rfl) (by kernel_rfl) (by kernel_rfl) rfl (Ca.pick) (fun Q0 k0 => L.pick hF rfl rfl rfl rfl (L.nil k0)) ?_
                      refine A.take 14 rfl (by kernel_rfl) (by kernel_rfl) (by kernel_rfl) rfl (Ca.move) (fun Q0 k0 => L.move hF rfl rfl rfl (L.nil k0)) ?_
                      refine A.le (τ := mkSt [(0, one (Cell.sl g0 (List.map eTimpl_Pair v172))), (1, one (cI v173)), (2, one (cL v174)), (7, one (cI v175)), (8, one (Cell.ptr 0 0)), (26, one (Cell.ptr 0 0)), (27, one (cI b198.A)), (28, one (cI v173)), (29, one (cL (decide (b198.A ≥ v173)))), (32, one (Cell.ptr 0 1)), (33, one (cI b198.B)), (34, one (cL (decide (b198.B < (0 : Int))))), (36, one (cL false))] [] [(0, [cI b198.A, cI b198.B])] 1) (Le.mk [(0, 0)] hm rfl ⟨⟨_, rfl, rfl⟩, ⟨_, rfl, rfl⟩, ⟨_, rfl, rfl⟩, ⟨_, rfl, rfl⟩, ⟨_, rfl, rfl⟩, ⟨_, rfl, rfl⟩, ⟨_, rfl, rfl⟩, ⟨_, rfl, rfl⟩, ⟨_, rfl, rfl⟩, ⟨_, rfl, rfl⟩, ⟨_, rfl, rfl⟩, ⟨_, rfl, rfl⟩, ⟨_, rfl, congrArg (fun b => some (one (cL b))) hc205⟩, trivial⟩ trivial ⟨⟨_, _, rfl, rfl, rfl⟩, trivial⟩) ?_
                      refine A.take 15 rfl (by kernel_rfl) (by kernel_rfl) (by kernel_rfl) rfl (Ca.fieldAddr Try.underlying256 rfl info3 rfl) (fun Q0 k0 => L.fieldAddr Try.underlying256 rfl info3 rfl hF rfl rfl rfl rfl rfl (L.nil k0)) ?_
                      refine A.take 17 rfl (by kernel_rfl) (by kernel_rfl) (by kernel_rfl) rfl (Ca.move) (fun Q0 k0 => L.move hF rfl rfl rfl (L.nil k0)) ?_
                      refine A.all [16] (by kernel_rfl) rfl ⟨⟨_, rfl, ?_⟩, trivial⟩
                      refine L.loadPtr shape3 hF rfl rfl rfl rfl rfl rfl ?_
                      refine L.nil ?_
                      refine A.take 18 rfl (by kernel_rfl) (by kernel_rfl) (by kernel_rfl) rfl (Ca.bin rfl rfl (calm_int _ _ _ _ _ _ _ _)) (fun Q0 k0 => L.bin hF rfl rfl rfl rfl rfl rfl (L.nil k0)) ?_
                      refine A.take 19 rfl (by kernel_rfl) (by kernel_rfl) (by kernel_rfl) rfl (Ca.pick) (fun Q0 k0 => L.pick hF rfl rfl rfl rfl (L.nil k0)) ?_
                      refine A.take 20 rfl (by kernel_rfl) (by kernel_rfl) (by kernel_rfl) rfl (Ca.move) (fun Q0 k0 => L.move hF rfl rfl rfl (L.nil k0)) ?_
                      refine A.le (τ := mkSt [(0, one (Cell.sl g0 (List.map eTimpl_Pair v172))), (1, one (cI v173)), (2, one (cL v174)), (7, one (cI v175)), (8, one (Cell.ptr 0 0)), (26, one (Cell.ptr 0 0)), (27, one (cI b198.A)), (28, one (cI v173)), (29, one (cL (decide (b198.A ≥ v173)))), (32, one (Cell.ptr 0 1)), (33, one (cI b198.B)), (34, one (cL (decide (b198.B < (0 : Int))))), (37, one (Cell.ptr 0 1)), (38, one (cI b198.B)), (39, one (cI v173)), (40, one (cL (decide (b198.B ≥ v173)))), (42, one (cL false))] [] [(0, [cI b198.A, cI b198.B])] 1) (Le.mk [(0, 0)] hm rfl ⟨⟨_, rfl, rfl⟩, ⟨_, rfl, rfl⟩, ⟨_, rfl, rfl⟩, ⟨_, rfl, rfl⟩, ⟨_, rfl, rfl⟩, ⟨_, rfl, rfl⟩, ⟨_, rfl, rfl⟩, ⟨_, rfl, rfl⟩, ⟨_, rfl, rfl⟩, ⟨_, rfl, rfl⟩, ⟨_, rfl, rfl⟩, ⟨_, rfl, rfl⟩, ⟨_, rfl, rfl⟩, ⟨_, rfl, rfl⟩, ⟨_, rfl, rfl⟩, ⟨_, rfl, rfl⟩, ⟨_, rfl, congrArg (fun b => some (one (cL b))) hc206⟩, trivial⟩ trivial ⟨⟨_, _, rfl, rfl, rfl⟩, trivial⟩) ?_
                      refine A.take 21 rfl (by kernel_rfl) (by kernel_rfl) (by kernel_rfl) rfl (Ca.move) (fun Q0 k0 => L.move hF rfl rfl rfl (L.nil k0)) ?_
                      refine A.take 22 rfl (by kernel_rfl) (by kernel_rfl) (by kernel_rfl) rfl (Ca.move) (fun Q0 k0 => L.move hF rfl rfl rfl (L.nil k0)) ?_
                      refine A.le (τ := mkSt [(0, one (Cell.sl g0 (List.map eTimpl_Pair v172))), (1, one (cI v173)), (2, one (cL v174)), (7, one (cI v175)), (8, one (Cell.ptr 0 0)), (26, one (Cell.ptr 0 0)), (27, one (cI b198.A)), (28, one (cI v173)), (29, one (cL (decide (b198.A ≥ v173)))), (32, one (Cell.ptr 0 1)), (33, one (cI b198.B)), (34, one (cL (decide (b198.B < (0 : Int))))), (37, one (Cell.ptr 0 1)), (38, one (cI b198.B)), (39, one (cI v173)), (40, one (cL (decide (b198.B ≥ v173)))), (42, one (cL false)), (43, one (cL v174)), (44, one (cL true))] [] [(0, [cI b198.A, cI b198.B])] 1) (Le.mk [(0, 0)] hm rfl ⟨⟨_, rfl, rfl⟩, ⟨_, rfl, rfl⟩, ⟨_, rfl, rfl⟩, ⟨_, rfl, rfl⟩, ⟨_, rfl, rfl⟩, ⟨_, rfl, rfl⟩, ⟨_, rfl, rfl⟩, ⟨_, rfl, rfl⟩, ⟨_, rfl, rfl⟩, ⟨_, rfl, rfl⟩, ⟨_, rfl, rfl⟩, ⟨_, rfl, rfl⟩, ⟨_, rfl, rfl⟩, ⟨_, rfl, rfl⟩, ⟨_, rfl, rfl⟩, ⟨_, rfl, rfl⟩, ⟨_, rfl, rfl⟩, ⟨_, rfl, rfl⟩, ⟨_, rfl, congrArg (fun b => some (one (cL b))) hc207⟩, trivial⟩ trivial ⟨⟨_, _, rfl, rfl, rfl⟩, trivial⟩) ?_
                      refine A.take 23 rfl (by kernel_rfl) (by kernel_rfl) (by kernel_rfl) rfl (Ca.fieldAddr Try.underlying256 rfl info3 rfl) (fun Q0 k0 => L.fieldAddr Try.underlying256 rfl info3 rfl hF rfl rfl rfl rfl rfl (L.nil k0)) ?_
                      refine A.take 25 rfl (by kernel_rfl) (by kernel_rfl) (by kernel_rfl) rfl (Ca.fieldAddr Try.underlying256 rfl info3 rfl) (fun Q0 k0 => L.fieldAddr Try.underlying256 rfl info3 rfl hF rfl rfl rfl rfl rfl (L.nil k0)) ?_
                      refine A.all [24, 26] (by kernel_rfl) rfl ⟨⟨_, rfl, ?_⟩, ⟨_, rfl, ?_⟩, trivial⟩
                      · refine L.loadPtr shape3 hF rfl rfl rfl rfl rfl rfl ?_
                        refine L.nil ?_
                        refine A.all [26] (by kernel_rfl) rfl ⟨⟨_, rfl, ?_⟩, trivial⟩
                        refine L.loadPtr shape3 hF rfl rfl rfl rfl rfl rfl ?_
                        refine L.nil ?_
                        exact A.on (hO _ _ _ n134217727) (Le.mk [(0, 0)] hm rfl ⟨⟨_, rfl, rfl⟩, ⟨_, rfl, rfl⟩, ⟨_, rfl, rfl⟩, ⟨_, rfl, rfl⟩, ⟨_, rfl, rfl⟩, ⟨_, rfl, rfl⟩, ⟨_, rfl, rfl⟩, ⟨_, rfl, rfl⟩, ⟨_, rfl, rfl⟩, ⟨_, rfl, rfl⟩, ⟨_, rfl, rfl⟩, ⟨_, rfl, rfl⟩, ⟨_, rfl, rfl⟩, ⟨_, rfl, rfl⟩, ⟨_, rfl, rfl⟩, ⟨_, rfl, rfl⟩, ⟨_, rfl, rfl⟩, ⟨_, rfl, rfl⟩, ⟨_, rfl, rfl⟩, ⟨_, rfl, rfl⟩, ⟨_, rfl, rfl⟩, ⟨_, rfl, rfl⟩, ⟨_, rfl, rfl⟩, trivial⟩ trivial ⟨⟨_, _, rfl, rfl, rfl⟩, trivial⟩)
                      · refine L.loadPtr shape3 hF rfl rfl rfl rfl rfl rfl ?_
                        refine L.nil ?_
                        refine A.all [24] (by kernel_rfl) rfl ⟨⟨_, rfl, ?_⟩, trivial⟩
                        refine L.loadPtr shape3 hF rfl rfl rfl rfl rfl rfl ?_
                        refine L.nil ?_
                        exact A.on (hO _ _ _ n134217727) (Le.mk [(0, 0)] hm rfl ⟨⟨_, rfl, rfl⟩, ⟨_, rfl, rfl⟩, ⟨_, rfl, rfl⟩, ⟨_, rfl, rfl⟩, ⟨_, rfl, rfl⟩, ⟨_, rfl, rfl⟩, ⟨_, rfl, rfl⟩, ⟨_, rfl, rfl⟩, ⟨_, rfl, rfl⟩, ⟨_, rfl, rfl⟩, ⟨_, rfl, rfl⟩, ⟨_, rfl, rfl⟩, ⟨_, rfl, rfl⟩, ⟨_, rfl, rfl⟩, ⟨_, rfl, rfl⟩, ⟨_, rfl, rfl⟩, ⟨_, rfl, rfl⟩, ⟨_, rfl, rfl⟩, ⟨_, rfl, rfl⟩, ⟨_, rfl, rfl⟩, ⟨_, rfl, rfl⟩, ⟨_, rfl, rfl⟩, ⟨_, rfl, rfl⟩, trivial⟩ trivial ⟨⟨_, _, rfl, rfl, rfl⟩, trivial⟩)
                    · replace H := condF hc208 H
                      obtain ⟨b209, hb209, H⟩ := bindS H
                      obtain ⟨r210, hr210, H⟩ := bindS H
                      refine A.begin mixed rfl rfl ?_
                      intro W hI hO
                      have n134217727 : W 10 #[true, true, true, true, true, true, true, true, true, true, true, true, true, true, true, true, true, true, true, true, true, true, true, true, true, true, true, false, false, false, false, false, false, false, false, false, false] (mkSt [(0, one (Cell.sl g0 (List.map eTimpl_Pair v172))), (1, one (cI v173)), (2, one (cL v174)), (7, one (cI v175)), (8, one (Cell.ptr 0 0)), (26, one (Cell.ptr 0 0)), (27, one (cI b198.A)), (28, one (cI v173)), (29, one (cL (decide (b198.A ≥ v173)))), (32, one (Cell.ptr 0 1)), (33, one (cI b198.B)), (34, one (cL (decide (b198.B < (0 : Int))))), (37, one (Cell.ptr 0 1)), (38, one (cI b198.B)), (39, one (cI v173)), (40, one (cL (decide (b198.B ≥ v173)))), (42, one (cL false)), (43, one (cL v174)), (44, one (cL true)), (45, one (Cell.ptr 0 0)), (46, one (cI b198.A)), (47, one (Cell.ptr 0 1)), (48, one (cI b198.B))] [] [(0, [cI b198.A, cI b198.B])] 1) := by
                        refine hI _ _ _ ?_
                        refine A.take 27 rfl (by kernel_rfl) (by kernel_rfl) (by kernel_rfl) rfl (Ca.bin rfl rfl (calm_int _ _ _ _ _ _ _ _)) (fun Q0 k0 => L.bin hF rfl rfl rfl rfl rfl rfl (L.nil k0)) ?_
                        refine A.take 28 rfl (by kernel_rfl) (by kernel_rfl) (by kernel_rfl) rfl (Ca.pick) (fun Q0 k0 => L.pick hF rfl rfl rfl rfl (L.nil k0)) ?_
                        refine A.take 29 rfl (by kernel_rfl) (by kernel_rfl) (by kernel_rfl) rfl (Ca.pick) (fun Q0 k0 => L.pick hF rfl rfl rfl rfl (L.nil k0)) ?_
                        refine A.take 30 rfl (by kernel_rfl) (by kernel_rfl) (by kernel_rfl) rfl (Ca.move) (fun Q0 k0 => L.move hF rfl rfl rfl (L.nil k0)) ?_
                        refine A.le (τ := mkSt [(0, one (Cell.sl g0 (List.map eTimpl_Pair v172))), (1, one (cI v173)), (2, one (cL v174)), (7, one (cI v175)), (8, one (Cell.ptr 0 0)), (26, one (Cell.ptr 0 0)), (27, one (cI b198.A)), (28, one (cI v173)), (29, one (cL (decide (b198.A ≥ v173)))), (32, one (Cell.ptr 0 1)), (33, one (cI b198.B)), (34, one (cL (decide (b198.B < (0 : Int))))), (37, one (Cell.ptr 0 1)), (38, one (cI b198.B)), (39, one (cI v173)), (40, one (cL (decide (b198.B ≥ v173)))), (43, one (cL v174)), (44, one (cL true)), (45, one (Cell.ptr 0 0)), (46, one (cI b198.A)), (47, one (Cell.ptr 0 1)), (48, one (cI b198.B)), (49, one (cL (b198.A == b198.B))), (50, one (cL (b198.A == b198.B))), (52, one (cL false))] [] [(0, [cI b198.A, cI b198.B])] 1) (Le.mk [(0, 0)] hm rfl ⟨⟨_, rfl, rfl⟩, ⟨_, rfl, rfl⟩, ⟨_, rfl, rfl⟩, ⟨_, rfl, rfl⟩, ⟨_, rfl, rfl⟩, ⟨_, rfl, rfl⟩, ⟨_, rfl, rfl⟩, ⟨_, rfl, rfl⟩, ⟨_, rfl, rfl⟩, ⟨_, rfl, rfl⟩, ⟨_, rfl, rfl⟩, ⟨_, rfl, rfl⟩, ⟨_, rfl, rfl⟩, ⟨_, rfl, rfl⟩, ⟨_, rfl, rfl⟩, ⟨_, rfl, rfl⟩, ⟨_, rfl, rfl⟩, ⟨_, rfl, rfl⟩, ⟨_, rfl, rfl⟩, ⟨_, rfl, rfl⟩, ⟨_, rfl, rfl⟩, ⟨_, rfl, rfl⟩, ⟨_, rfl, rfl⟩, ⟨_, rfl, rfl⟩, ⟨_, rfl, congrArg (fun b => some (one (cL b))) hc208⟩, trivial⟩ trivial ⟨⟨_, _, rfl, rfl, rfl⟩, trivial⟩) ?_
                        refine A.take 31 rfl (by kernel_rfl) (by kernel_rfl) (by kernel_rfl) rfl (Ca.move) (fun Q0 k0 => L.move hF rfl rfl rfl (L.nil k0)) ?_
                        refine A.take 32 rfl (by kernel_rfl) (by kernel_rfl) (by kernel_rfl) rfl (Ca.move) (fun Q0 k0 => L.move hF rfl rfl rfl (L.nil k0)) ?_
                        refine A.take 33 rfl (by kernel_rfl) (by kernel_rfl) (by kernel_rfl) rfl (Ca.slice) (fun Q0 k0 => L.cutR (xs := v172) (ys := b209) (e := eTimpl_Pair) Try.underlying88 info256 hF rfl rfl rfl rfl rfl hb209 (fun _ => rfl) (L.nil k0)) ?_
                        refine A.all [34] (by kernel_rfl) rfl ⟨⟨_, rfl, ?_⟩, trivial⟩
                        refine L.loadPtr shape256 hF rfl rfl rfl rfl rfl rfl ?_
                        refine L.nil ?_
                        refine A.all [35] (by kernel_rfl) rfl ⟨⟨_, rfl, ?_⟩, trivial⟩
                        refine L.call [false, false] [] [] 1 hF rfl rfl rfl ent244 rfl rfl rfl rfl rfl (Fspec_l6Has_gives k7 g0 b209 b198 r210 hr210) rfl ?_
                        refine L.nil ?_
                        refine A.take 36 rfl (by kernel_rfl) (by kernel_rfl) (by kernel_rfl) rfl (Ca.pick) (fun Q0 k0 => L.pick hF rfl rfl rfl rfl (L.nil k0)) ?_
                        refine A.le (τ := mkSt [(0, one (Cell.sl g0 (List.map eTimpl_Pair v172))), (1, one (cI v173)), (2, one (cL v174)), (7, one (cI v175)), (26, one (Cell.ptr 0 0)), (27, one (cI b198.A)), (28, one (cI v173)), (29, one (cL (decide (b198.A ≥ v173)))), (32, one (Cell.ptr 0 1)), (33, one (cI b198.B)), (34, one (cL (decide (b198.B < (0 : Int))))), (37, one (Cell.ptr 0 1)), (38, one (cI b198.B)), (39, one (cI v173)), (40, one (cL (decide (b198.B ≥ v173)))), (43, one (cL v174)), (44, one (cL true)), (45, one (Cell.ptr 0 0)), (46, one (cI b198.A)), (47, one (Cell.ptr 0 1)), (48, one (cI b198.B)), (49, one (cL (b198.A == b198.B))), (50, one (cL (b198.A == b198.B))), (53, one (Cell.sl g0 (List.map eTimpl_Pair v172))), (54, one (cI v175)), (55, one (Cell.sl g0 (List.map eTimpl_Pair b209))), (56, agg [cI b198.A, cI b198.B]), (57, one (cL r210)), (58, one (cL r210))] [] [(0, [cI b198.A, cI b198.B])] 1) (Le.mk [(0, 0)] hm rfl ⟨⟨_, rfl, rfl⟩, ⟨_, rfl, rfl⟩, ⟨_, rfl, rfl⟩, ⟨_, rfl, rfl⟩, ⟨_, rfl, rfl⟩, ⟨_, rfl, rfl⟩, ⟨_, rfl, rfl⟩, ⟨_, rfl, rfl⟩, ⟨_, rfl, rfl⟩, ⟨_, rfl, rfl⟩, ⟨_, rfl, rfl⟩, ⟨_, rfl, rfl⟩, ⟨_, rfl, rfl⟩, ⟨_, rfl, rfl⟩, ⟨_, rfl, rfl⟩, ⟨_, rfl, rfl⟩, ⟨_, rfl, rfl⟩, ⟨_, rfl, rfl⟩, ⟨_, rfl, rfl⟩, ⟨_, rfl, rfl⟩, ⟨_, rfl, rfl⟩, ⟨_, rfl, rfl⟩, ⟨_, rfl, rfl⟩, ⟨_, rfl, rfl⟩, ⟨_, rfl, rfl⟩, ⟨_, rfl, rfl⟩, ⟨_, rfl, rfl⟩, ⟨_, rfl, rfl⟩, ⟨_, rfl, rfl⟩, trivial⟩ trivial ⟨⟨_, _, rfl, rfl, rfl⟩, trivial⟩) ?_
                        refine A.done (by kernel_rfl) ?_
                        refine WpC.cond rfl (fun hc => ?_) (fun hc => ?_)
                        · replace H := condT hc H
                          refine WpC.seq ?_
                          refine WpC.regionL ?_
                          refine L.assign hF rfl rfl rfl ?_
                          refine L.nil ?_
                          refine WpC.ret ?_
                          cases H
                          exact Leaves.ret rfl rfl rfl ⟨rfl, rfl⟩
                        · replace H := condF hc H
                          refine WpC.skip ?_
                          exact ⟨_, ⟨k7, v172, v173, v174, v175, b198.A, (decide (b198.A ≥ v173)), b198.B, (decide (b198.B < (0 : Int))), (decide (b198.B ≥ v173)), true, (b198.A == b198.B), b209, r210, by omega, H, rfl⟩, Le.mk [(0, 0)] hm rfl ⟨⟨_, rfl, rfl⟩, ⟨_, rfl, rfl⟩, ⟨_, rfl, rfl⟩, ⟨_, rfl, rfl⟩, ⟨_, rfl, rfl⟩, ⟨_, rfl, rfl⟩, ⟨_, rfl, rfl⟩, ⟨_, rfl, rfl⟩, ⟨_, rfl, rfl⟩, ⟨_, rfl, rfl⟩, ⟨_, rfl, rfl⟩, ⟨_, rfl, rfl⟩, ⟨_, rfl, rfl⟩, ⟨_, rfl, rfl⟩, ⟨_, rfl, rfl⟩, ⟨_, rfl, rfl⟩, ⟨_, rfl, rfl⟩, ⟨_, rfl, rfl⟩, ⟨_, rfl, rfl⟩, ⟨_, rfl, rfl⟩, ⟨_, rfl, rfl⟩, ⟨_, rfl, rfl⟩, ⟨_, rfl, rfl⟩, trivial⟩ trivial ⟨⟨_, _, rfl, rfl, rfl⟩, trivial⟩⟩
                      refine hI _ _ _ ?_
                      refine A.take 0 rfl (by kernel_rfl) (by kernel_rfl) (by kernel_rfl) rfl (Ca.fieldAddr Try.underlying256 rfl info3 rfl) (fun Q0 k0 => L.fieldAddr Try.underlying256 rfl info3 rfl hF rfl rfl rfl rfl rfl (L.nil k0)) ?_
                      refine A.all [1] (by kernel_rfl) rfl ⟨⟨_, rfl, ?_⟩, trivial⟩
                      refine L.loadPtr shape3 hF rfl rfl rfl rfl rfl rfl ?_
                      refine L.nil ?_
                      refine A.take 2 rfl (by kernel_rfl) (by kernel_rfl) (by kernel_rfl) rfl (Ca.bin rfl rfl (calm_int _ _ _ _ _ _ _ _)) (fun Q0 k0 => L.bin hF rfl rfl rfl rfl rfl rfl (L.nil k0)) ?_
                      refine A.take 3 rfl (by kernel_rfl) (by kernel_rfl) (by kernel_rfl) rfl (Ca.move) (fun Q0 k0 => L.move hF rfl rfl rfl (L.nil k0)) ?_
                      refine A.le (τ := mkSt [(0, one (Cell.sl g0 (List.map eTimpl_Pair v172))), (1, one (cI v173)), (2, one (cL v174)), (7, one (cI v175)), (8, one (Cell.ptr 0 0)), (25, one (cL false))] [] [(0, [cI b198.A, cI b198.B])] 1) (Le.mk [(0, 0)] hm rfl ⟨⟨_, rfl, rfl⟩, ⟨_, rfl, rfl⟩, ⟨_, rfl, rfl⟩, ⟨_, rfl, rfl⟩, ⟨_, rfl, rfl⟩, ⟨_, rfl, congrArg (fun b => some (one (cL b))) hc203⟩, trivial⟩ trivial ⟨⟨_, _, rfl, rfl, rfl⟩, trivial⟩) ?_
                      refine A.take 4 rfl (by kernel_rfl) (by kernel_rfl) (by kernel_rfl) rfl (Ca.fieldAddr Try.underlying256 rfl info3 rfl) (fun Q0 k0 => L.fieldAddr Try.underlying256 rfl info3 rfl hF rfl rfl rfl rfl rfl (L.nil k0)) ?_
                      refine A.take 6 rfl (by kernel_rfl) (by kernel_rfl) (by kernel_rfl) rfl (Ca.move) (fun Q0 k0 => L.move hF rfl rfl rfl (L.nil k0)) ?_
                      refine A.all [5] (by kernel_rfl) rfl ⟨⟨_, rfl, ?_⟩, trivial⟩
                      refine L.loadPtr shape3 hF rfl rfl rfl rfl rfl rfl ?_
                      refine L.nil ?_
                      refine A.take 7 rfl (by kernel_rfl) (by kernel_rfl) (by kernel_rfl) rfl (Ca.bin rfl rfl (calm_int _ _ _ _ _ _ _ _)) (fun Q0 k0 => L.bin hF rfl rfl rfl rfl rfl rfl (L.nil k0)) ?_
                      refine A.take 8 rfl (by kernel_rfl) (by kernel_rfl) (by kernel_rfl) rfl (Ca.pick) (fun Q0 k0 => L.pick hF rfl rfl rfl rfl (L.nil k0)) ?_
                      refine A.take 9 rfl (by kernel_rfl) (by kernel_rfl) (by kernel_rfl) rfl (Ca.move) (fun Q0 k0 => L.move hF rfl rfl rfl (L.nil k0)) ?_
                      refine A.le (τ := mkSt [(0, one (Cell.sl g0 (List.map eTimpl_Pair v172))), (1, one (cI v173)), (2, one (cL v174)), (7, one (cI v175)), (8, one (Cell.ptr 0 0)), (26, one (Cell.ptr 0 0)), (27, one (cI b198.A)), (28, one (cI v173)), (29, one (cL (decide (b198.A ≥ v173)))), (31, one (cL false))] [] [(0, [cI b198.A, cI b198.B])] 1) (Le.mk [(0, 0)] hm rfl ⟨⟨_, rfl, rfl⟩, ⟨_, rfl, rfl⟩, ⟨_, rfl, rfl⟩, ⟨_, rfl, rfl⟩, ⟨_, rfl, rfl⟩, ⟨_, rfl, rfl⟩, ⟨_, rfl, rfl⟩, ⟨_, rfl, rfl⟩, ⟨_, rfl, rfl⟩, ⟨_, rfl, congrArg (fun b => some (one (cL b))) hc204⟩, trivial⟩ trivial ⟨⟨_, _, rfl, rfl, rfl⟩, trivial⟩) ?_
                      refine A.take 10 rfl (by kernel_rfl) (by kernel_rfl) (by kernel_rfl) rfl (Ca.fieldAddr Try.underlying256 rfl info3 rfl) (fun Q0 k0 => L.fieldAddr Try.underlying256 rfl info3 rfl hF rfl rfl rfl rfl rfl (L.nil k0)) ?_
                      refine A.all [11] (by kernel_rfl) rfl ⟨⟨_, rfl, ?_⟩, trivial⟩
                      refine L.loadPtr shape3 hF rfl rfl rfl rfl rfl rfl ?_
                      refine L.nil ?_
                      refine A.take 12 rfl (by kernel_rfl) (by kernel_rfl) (by kernel_rfl) rfl (Ca.bin rfl rfl (calm_int _ _ _ _ _ _ _ _)) (fun Q0 k0 => L.bin hF rfl rfl rfl rfl rfl rfl (L.nil k0)) ?_
                      refine A.take 13 rfl (by kernel_rfl) (by kernel_rfl) (by kernel_rfl) rfl (Ca.pick) (fun Q0 k0 => L.pick hF rfl rfl rfl rfl (L.nil k0)) ?_
                      refine A.take 14 rfl (by kernel_rfl) (by kernel_rfl) (by kernel_rfl) rfl (Ca.move) (fun Q0 k0 => L.move hF rfl rfl rfl (L.nil k0)) ?_
                      refine A.le (τ := mkSt [(0, one (Cell.sl g0 (List.map eTimpl_Pair v172))), (1, one (cI v173)), (2, one (cL v174)), (7, one (cI v175)), (8, one (Cell.ptr 0 0)), (26, one (Cell.ptr 0 0)), (27, one (cI b198.A)), (28, one (cI v173)), (29, one (cL (decide (b198.A ≥ v173)))), (32, one (Cell.ptr 0 1)), (33, one (cI b198.B)), (34, one (cL (decide (b198.B < (0 : Int))))), (36, one (cL false))] [] [(0, [cI b198.A, cI b198.B])] 1) (Le.mk [(0, 0)] hm rfl ⟨⟨_, rfl, rfl⟩, ⟨_, rfl, rfl⟩, ⟨_, rfl, rfl⟩, ⟨_, rfl, rfl⟩, ⟨_, rfl, rfl⟩, ⟨_, rfl, rfl⟩, ⟨_, rfl, rfl⟩, ⟨_, rfl, rfl⟩, ⟨_, rfl, rfl⟩, ⟨_, rfl, rfl⟩, ⟨_, rfl, rfl⟩, ⟨_, rfl, rfl⟩, ⟨_, rfl, congrArg (fun b => some (one (cL b))) hc205⟩, trivial⟩ trivial ⟨⟨_, _, rfl, rfl, rfl⟩, trivial⟩) ?_
                      refine A.take 15 rfl (by kernel_rfl) (by kernel_rfl) (by kernel_rfl) rfl (Ca.fieldAddr Try.underlying256 rfl info3 rfl) (fun Q0 k0 => L.fieldAddr Try.underlying256 rfl info3 rfl hF rfl rfl rfl rfl rfl (L.nil k0)) ?_
                      refine A.take 17 rfl (by kernel_rfl) (by kernel_rfl) (by kernel_rfl) rfl (Ca.move) (fun Q0 k0 => L.move hF rfl rfl rfl (L.nil k0)) ?_
                      refine A.all [16] (by kernel_rfl) rfl ⟨⟨_, rfl, ?_⟩, trivial⟩
                      refine L.loadPtr shape3 hF rfl rfl rfl rfl rfl rfl ?_
                      refine L.nil ?_
                      refine A.take 18 rfl (by kernel_rfl) (by kernel_rfl) (by kernel_rfl) rfl (Ca.bin rfl rfl (calm_int _ _ _ _ _ _ _ _)) (fun Q0 k0 => L.bin hF rfl rfl rfl rfl rfl rfl (L.nil k0)) ?_
                      refine A.take 19 rfl (by kernel_rfl) (by kernel_rfl) (by kernel_rfl) rfl (Ca.pick) (fun Q0 k0 => L.pick hF rfl rfl rfl rfl (L.nil k0)) ?_
                      refine A.take 20 rfl (by kernel_rfl) (by kernel_rfl) (by kernel_rfl) rfl (Ca.move) (fun Q0 k0 => L.move hF rfl rfl rfl (L.nil k0)) ?_
                      refine A.le (τ := mkSt [(0, one (Cell.sl g0 (List.map eTimpl_Pair v172))), (1, one (cI v173)), (2, one (cL v174)), (7, one (cI v175)), (8, one (Cell.ptr 0 0)), (26, one (Cell.ptr 0 0)), (27, one (cI b198.A)), (28, one (cI v173)), (29, one (cL (decide (b198.A ≥ v173)))), (32, one (Cell.ptr 0 1)), (33, one (cI b198.B)), (34, one (cL (decide (b198.B < (0 : Int))))), (37, one (Cell.ptr 0 1)), (38, one (cI b198.B)), (39, one (cI v173)), (40, one (cL (decide (b198.B ≥ v173)))), (42, one (cL false))] [] [(0, [cI b198.A, cI b198.B])] 1) (Le.mk [(0, 0)] hm rfl ⟨⟨_, rfl, rfl⟩, ⟨_, rfl, rfl⟩, ⟨_, rfl, rfl⟩, ⟨_, rfl, rfl⟩, ⟨_, rfl, rfl⟩, ⟨_, rfl, rfl⟩, ⟨_, rfl, rfl⟩, ⟨_, rfl, rfl⟩, ⟨_, rfl, rfl⟩, ⟨_, rfl, rfl⟩, ⟨_, rfl, rfl⟩, ⟨_, rfl, rfl⟩, ⟨_, rfl, rfl⟩, ⟨_, rfl, rfl⟩, ⟨_, rfl, rfl⟩, ⟨_, rfl, rfl⟩, ⟨_, rfl, congrArg (fun b => some (one (cL b))) hc206⟩, trivial⟩ trivial ⟨⟨_, _, rfl, rfl, rfl⟩, trivial⟩) ?_
                      refine A.take 21 rfl (by kernel_rfl) (by kernel_rfl) (by kernel_rfl) rfl (Ca.move) (fun Q0 k0 => L.move hF rfl rfl rfl (L.nil k0)) ?_
                      refine A.take 22 rfl (by kernel_rfl) (by kernel_rfl) (by kernel_rfl) rfl (Ca.move) (fun Q0 k0 => L.move hF rfl rfl rfl (L.nil k0)) ?_
                      refine A.le (τ := mkSt [(0, one (Cell.sl g0 (List.map eTimpl_Pair v172))), (1, one (cI v173)), (2, one (cL v174)), (7, one (cI v175)), (8, one (Cell.ptr 0 0)), (26, one (Cell.ptr 0 0)), (27, one (cI b198.A)), (28, one (cI v173)), (29, one (cL (decide (b198.A ≥ v173)))), (32, one (Cell.ptr 0 1)), (33, one (cI b198.B)), (34, one (cL (decide (b198.B < (0 : Int))))), (37, one (Cell.ptr 0 1)), (38, one (cI b198.B)), (39, one (cI v173)), (40, one (cL (decide (b198.B ≥ v173)))), (42, one (cL false)), (43, one (cL v174)), (44, one (cL true))] [] [(0, [cI b198.A, cI b198.B])] 1) (Le.mk [(0, 0)] hm rfl ⟨⟨_, rfl, rfl⟩, ⟨_, rfl, rfl⟩, ⟨_, rfl, rfl⟩, ⟨_, rfl, rfl⟩, ⟨_, rfl, rfl⟩, ⟨_, rfl, rfl⟩, ⟨_, rfl, rfl⟩, ⟨_, rfl, rfl⟩, ⟨_, rfl, rfl⟩, ⟨_, rfl, rfl⟩, ⟨_, rfl, rfl⟩, ⟨_, rfl, rfl⟩, ⟨_, rfl, rfl⟩, ⟨_, rfl, rfl⟩, ⟨_, rfl, rfl⟩, ⟨_, rfl, rfl⟩, ⟨_, rfl, rfl⟩, ⟨_, rfl, rfl⟩, ⟨_, rfl, congrArg (fun b => some (one (cL b))) hc207⟩, trivial⟩ trivial ⟨⟨_, _, rfl, rfl, rfl⟩, trivial⟩) ?_
                      refine A.take 23 rfl (by kernel_rfl) (by kernel_rfl) (by kernel_rfl) rfl (Ca.fieldAddr Try.underlying256 rfl info3 rfl) (fun Q0 k0 => L.fieldAddr Try.underlying256 rfl info3 rfl hF rfl rfl rfl rfl rfl (L.nil k0)) ?_
                      refine A.take 25 rfl (by kernel_rfl) (by kernel_rfl) (by kernel_rfl) rfl (Ca.fieldAddr Try.underlying256 rfl info3 rfl) (fun Q0 k0 => L.fieldAddr Try.underlying256 rfl info3 rfl hF rfl rfl rfl rfl rfl (L.nil k0)) ?_
                      refine A.all [24, 26] (by kernel_rfl) rfl ⟨⟨_, rfl, ?_⟩, ⟨_, rfl, ?_⟩, trivial⟩
                      · refine L.loadPtr shape3 hF rfl rfl rfl rfl rfl rfl ?_
                        refine L.nil ?_
                        refine A.all [26] (by kernel_rfl) rfl ⟨⟨_, rfl, ?_⟩, trivial⟩
                        refine L.loadPtr shape3 hF rfl rfl rfl rfl rfl rfl ?_
                        refine L.nil ?_
                        exact A.on (hO _ _ _ n134217727) (Le.mk [(0, 0)] hm rfl ⟨⟨_, rfl, rfl⟩, ⟨_, rfl, rfl⟩, ⟨_, rfl, rfl⟩, ⟨_, rfl, rfl⟩, ⟨_, rfl, rfl⟩, ⟨_, rfl, rfl⟩, ⟨_, rfl, rfl⟩, ⟨_, rfl, rfl⟩, ⟨_, rfl, rfl⟩, ⟨_, rfl, rfl⟩, ⟨_, rfl, rfl⟩, ⟨_, rfl, rfl⟩, ⟨_, rfl, rfl⟩, ⟨_, rfl, rfl⟩, ⟨_, rfl, rfl⟩, ⟨_, rfl, rfl⟩, ⟨_, rfl, rfl⟩, ⟨_, rfl, rfl⟩, ⟨_, rfl, rfl⟩, ⟨_, rfl, rfl⟩, ⟨_, rfl, rfl⟩, ⟨_, rfl, rfl⟩, ⟨_, rfl, rfl⟩, trivial⟩ trivial ⟨⟨_, _, rfl, rfl, rfl⟩, trivial⟩)
                      · refine L.loadPtr shape3 hF rfl rfl rfl rfl rfl rfl ?_
                        refine L.nil ?_
                        refine A.all [24] (by kernel_rfl) rfl ⟨⟨_, rfl, ?_⟩, trivial⟩
                        refine L.loadPtr shape3 hF rfl rfl rfl rfl rfl rfl ?_
                        refine L.nil ?_
                        exact A.on (hO _ _ _ n134217727) (Le.mk [(0, 0)] hm rfl ⟨⟨_, rfl, rfl⟩, ⟨_, rfl, rfl⟩, ⟨_, rfl, rfl⟩, ⟨_, rfl, rfl⟩, ⟨_, rfl, rfl⟩, ⟨_, rfl, rfl⟩, ⟨_, rfl, rfl⟩, ⟨_, rfl, rfl⟩, ⟨_, rfl, rfl⟩, ⟨_, rfl, rfl⟩, ⟨_, rfl, rfl⟩, ⟨_, rfl, rfl⟩, ⟨_, rfl, rfl⟩, ⟨_, rfl, rfl⟩, ⟨_, rfl, rfl⟩, ⟨_, rfl, rfl⟩, ⟨_, rfl, rfl⟩, ⟨_, rfl, rfl⟩, ⟨_, rfl, rfl⟩, ⟨_, rfl, rfl⟩, ⟨_, rfl, rfl⟩, ⟨_, rfl, rfl⟩, ⟨_, rfl, rfl⟩, trivial⟩ trivial ⟨⟨_, _, rfl, rfl, rfl⟩, trivial⟩)
                  · replace H := condF hc207 H
                    obtain ⟨b211, hb211, H⟩ := bindS H
                    obtain ⟨r212, hr212, H⟩ := bindS H
                    refine A.begin mixed rfl rfl ?_
                    intro W hI hO
                    refine hI _ _ _ ?_
                    refine A.take 0 rfl (by kernel_rfl) (by kernel_rfl) (by kernel_rfl) rfl (Ca.fieldAddr Try.underlying256 rfl info3 rfl) (fun Q0 k0 => L.fieldAddr Try.underlying256 rfl info3 rfl hF rfl rfl rfl rfl rfl (L.nil k0)) ?_
                    refine A.all [1] (by kernel_rfl) rfl ⟨⟨_, rfl, ?_⟩, trivial⟩
                    refine L.loadPtr shape3 hF rfl rfl rfl rfl rfl rfl ?_
                    refine L.nil ?_
                    refine A.take 2 rfl (by kernel_rfl) (by kernel_rfl) (by kernel_rfl) rfl (Ca.bin rfl rfl (calm_int _ _ _ _ _ _ _ _)) (fun Q0 k0 => L.bin hF rfl rfl rfl rfl rfl rfl (L.nil k0)) ?_
                    refine A.take 3 rfl (by kernel_rfl) (by kernel_rfl) (by kernel_rfl) rfl (Ca.move) (fun Q0 k0 => L.move hF rfl rfl rfl (L.nil k0)) ?_
                    refine A.le (τ := mkSt [(0, one (Cell.sl g0 (List.map eTimpl_Pair v172))), (1, one (cI v173)), (2, one (cL v174)), (7, one (cI v175)), (8, one (Cell.ptr 0 0)), (25, one (cL false))] [] [(0, [cI b198.A, cI b198.B])] 1) (Le.mk [(0, 0)] hm rfl ⟨⟨_, rfl, rfl⟩, ⟨_, rfl, rfl⟩, ⟨_, rfl, rfl⟩, ⟨_, rfl, rfl⟩, ⟨_, rfl, rfl⟩, ⟨_, rfl, congrArg (fun b => some (one (cL b))) hc203⟩, trivial⟩ trivial ⟨⟨_, _, rfl, rfl, rfl⟩, trivial⟩) ?_
                    refine A.take 4 rfl (by kernel_rfl) (by kernel_rfl) (by kernel_rfl) rfl (Ca.fieldAddr Try.underlying256 rfl info3 rfl) (fun Q0 k0 => L.fieldAddr Try.underlying256 rfl info3 rfl hF rfl rfl rfl rfl rfl (L.nil k0)) ?_
                    refine A.take 6 rfl (by kernel_rfl) (by kernel_rfl) (by kernel_rfl) rfl (Ca.move) (fun Q0 k0 => L.move hF rfl rfl rfl (L.nil k0)) ?_
                    refine A.all [5] (by kernel_rfl) rfl ⟨⟨_, rfl, ?_⟩, trivial⟩
                    refine L.loadPtr shape3 hF rfl rfl rfl rfl rfl rfl ?_
                    refine L.nil ?_
                    refine A.take 7 rfl (by kernel_rfl) (by kernel_rfl) (by kernel_rfl) rfl (Ca.bin rfl rfl (calm_int _ _ _ _ _ _ _ _)) (fun Q0 k0 => L.bin hF rfl rfl rfl rfl rfl rfl (L.nil k0)) ?_
                    refine A.take 8 rfl (by kernel_rfl) (by kernel_rfl) (by kernel_rfl) rfl (Ca.pick) (fun Q0 k0 => L.pick hF rfl rfl rfl rfl (L.nil k0)) ?_
                    refine A.take 9 rfl (by kernel_rfl) (by kernel_rfl) (by kernel_rfl) rfl (Ca.move) (fun Q0 k0 => L.move hF rfl rfl rfl (L.nil k0)) ?_
                    refine A.le (τ := mkSt [(0, one (Cell.sl g0 (List.map eTimpl_Pair v172))), (1, one (cI v173)), (2, one (cL v174)), (7, one (cI v175)), (8, one (Cell.ptr 0 0)), (26, one (Cell.ptr 0 0)), (27, one (cI b198.A)), (28, one (cI v173)), (29, one (cL (decide (b198.A ≥ v173)))), (31, one (cL false))] [] [(0, [cI b198.A, cI b198.B])] 1) (Le.mk [(0, 0)] hm rfl ⟨⟨_, rfl, rfl⟩, ⟨_, rfl, rfl⟩, ⟨_, rfl, rfl⟩, ⟨_, rfl, rfl⟩, ⟨_, rfl, rfl⟩, ⟨_, rfl, rfl⟩, ⟨_, rfl, rfl⟩, ⟨_, rfl, rfl⟩, ⟨_, rfl, rfl⟩, ⟨_, rfl, congrArg (fun b => some (one (cL b))) hc204⟩, trivial⟩ trivial ⟨⟨_, _, rfl, rfl, rfl⟩, trivial⟩) ?_
                    refine A.take 10 rfl (by kernel_rfl) (by kernel_rfl) (by kernel_rfl) rfl (Ca.fieldAddr Try.underlying256 rfl info3 rfl) (fun Q0 k0 => L.fieldAddr Try.underlying256 rfl info3 rfl hF rfl rfl rfl rfl rfl (L.nil k0)) ?_
                    refine A.all [11] (by kernel_rfl) rfl ⟨⟨_, rfl, ?_⟩, trivial⟩
                    refine L.loadPtr shape3 hF rfl rfl rfl rfl rfl rfl ?_
                    refine L.nil ?_
                    refine A.take 12 rfl (by kernel_rfl) (by kernel_rfl) (by kernel_rfl) rfl (Ca.bin rfl rfl (calm_int _ _ _ _ _ _ _ _)) (fun Q0 k0 => L.bin hF rfl rfl rfl rfl rfl rfl (L.nil k0)) ?_
                    refine A.take 13 rfl (by kernel_rfl) (by kernel_rfl) (by kernel_rfl) rfl (Ca.pick) (fun Q0 k0 => L.pick hF rfl rfl rfl rfl (L.nil k0)) ?_
                    refine A.take 14 rfl (by kernel_rfl) (by kernel_rfl) (by kernel_rfl) rfl (Ca.move) (fun Q0 k0 => L.move hF rfl rfl rfl (L.nil k0)) ?_
                    refine A.le (τ := mkSt [(0, one (Cell.sl g0 (List.map eTimpl_Pair v172))), (1, one (cI v173)), (2, one (cL v174)), (7, one (cI v175)), (8, one (Cell.ptr 0 0)), (26, one (Cell.ptr 0 0)), (27, one (cI b198.A)), (28, one (cI v173)), (29, one (cL (decide (b198.A ≥ v173)))), (32, one (Cell.ptr 0 1)), (33, one (cI b198.B)), (34, one (cL (decide (b198.B < (0 : Int))))), (36, one (cL false))] [] [(0, [cI b198.A, cI b198.B])] 1) (Le.mk [(0, 0)] hm rfl ⟨⟨_, rfl, rfl⟩, ⟨_, rfl, rfl⟩, ⟨_, rfl, rfl⟩, ⟨_, rfl, rfl⟩, ⟨_, rfl, rfl⟩, ⟨_, rfl, rfl⟩, ⟨_, rfl, rfl⟩, ⟨_, rfl, rfl⟩, ⟨_, rfl, rfl⟩, ⟨_, rfl, rfl⟩, ⟨_, rfl, rfl⟩, ⟨_, rfl, rfl⟩, ⟨_, rfl, congrArg (fun b => some (one (cL b))) hc205⟩, trivial⟩ trivial ⟨⟨_, _, rfl, rfl, rfl⟩, trivial⟩) ?_
                    refine A.take 15 rfl (by kernel_rfl) (by kernel_rfl) (by kernel_rfl) rfl (Ca.fieldAddr Try.underlying256 rfl info3 rfl) (fun Q0 k0 => L.fieldAddr Try.underlying256 rfl info3 rfl hF rfl rfl rfl rfl rfl (L.nil k0)) ?_
                    refine A.take 17 rfl (by kernel_rfl) (by kernel_rfl) (by kernel_rfl) rfl (Ca.move) (fun Q0 k0 => L.move hF rfl rfl rfl (L.nil k0)) ?_
                    refine A.all [16] (by kernel_rfl) rfl ⟨⟨_, rfl, ?_⟩, trivial⟩
                    refine L.loadPtr shape3 hF rfl rfl rfl rfl rfl rfl ?_
                    refine L.nil ?_
                    refine A.take 18 rfl (by kernel_rfl) (by kernel_rfl) (by kernel_rfl) rfl (Ca.bin rfl rfl (calm_int _ _ _ _ _ _ _ _)) (fun Q0 k0 => L.bin hF rfl rfl rfl rfl rfl rfl (L.nil k0)) ?_
                    refine A.take 19 rfl (by kernel_rfl) (by kernel_rfl) (by kernel_rfl) rfl (Ca.pick) (fun Q0 k0 => L.pick hF rfl rfl rfl rfl (L.nil k0)) ?_
                    refine A.take 20 rfl (by kernel_rfl) (by kernel_rfl) (by kernel_rfl) rfl (Ca.move) (fun Q0 k0 => L.move hF rfl rfl rfl (L.nil k0)) ?_
                    refine A.le (τ := mkSt [(0, one (Cell.sl g0 (List.map eTimpl_Pair v172))), (1, one (cI v173)), (2, one (cL v174)), (7, one (cI v175)), (8, one (Cell.ptr 0 0)), (26, one (Cell.ptr 0 0)), (27, one (cI b198.A)), (28, one (cI v173)), (29, one (cL (decide (b198.A ≥ v173)))), (32, one (Cell.ptr 0 1)), (33, one (cI b198.B)), (34, one (cL (decide (b198.B < (0 : Int))))), (37, one (Cell.ptr 0 1)), (38, one (cI b198.B)), (39, one (cI v173)), (40, one (cL (decide (b198.B ≥ v173)))), (42, one (cL false))] [] [(0, [cI b198.A, cI b198.B])] 1) (Le.mk [(0, 0)] hm rfl ⟨⟨_, rfl, rfl⟩, ⟨_, rfl, rfl⟩, ⟨_, rfl, rfl⟩, ⟨_, rfl, rfl⟩, ⟨_, rfl, rfl⟩, ⟨_, rfl, rfl⟩, ⟨_, rfl, rfl⟩, ⟨_, rfl, rfl⟩, ⟨_, rfl, rfl⟩, ⟨_, rfl, rfl⟩, ⟨_, rfl, rfl⟩, ⟨_, rfl, rfl⟩, ⟨_, rfl, rfl⟩, ⟨_, rfl, rfl⟩, ⟨_, rfl, rfl⟩, ⟨_, rfl, rfl⟩, ⟨_, rfl, congrArg (fun b => some (one (cL b))) hc206⟩, trivial⟩ trivial ⟨⟨_, _, rfl, rfl, rfl⟩, trivial⟩) ?_
                    refine A.take 21 rfl (by kernel_rfl) (by kernel_rfl) (by kernel_rfl) rfl (Ca.move) (fun Q0 k0 => L.move hF rfl rfl rfl (L.nil k0)) ?_
                    refine A.take 22 rfl (by kernel_rfl) (by kernel_rfl) (by kernel_rfl) rfl (Ca.move) (fun Q0 k0 => L.move hF rfl rfl rfl (L.nil k0)) ?_
                    refine A.le (τ := mkSt [(0, one (Cell.sl g0 (List.map eTimpl_Pair v172))), (1, one (cI v173)), (2, one (cL v174)), (7, one (cI v175)), (8, one (Cell.ptr 0 0)), (26, one (Cell.ptr 0 0)), (27, one (cI b198.A)), (28, one (cI v173)), (29, one (cL (decide (b198.A ≥ v173)))), (32, one (Cell.ptr 0 1)), (33, one (cI b198.B)), (34, one (cL (decide (b198.B < (0 : Int))))), (37, one (Cell.ptr 0 1)), (38, one (cI b198.B)), (39, one (cI v173)), (40, one (cL (decide (b198.B ≥ v173)))), (42, one (cL false)), (43, one (cL v174)), (44, one (cL false))] [] [(0, [cI b198.A, cI b198.B])] 1) (Le.mk [(0, 0)] hm rfl ⟨⟨_, rfl, rfl⟩, ⟨_, rfl, rfl⟩, ⟨_, rfl, rfl⟩, ⟨_, rfl, rfl⟩, ⟨_, rfl, rfl⟩, ⟨_, rfl, rfl⟩, ⟨_, rfl, rfl⟩, ⟨_, rfl, rfl⟩, ⟨_, rfl, rfl⟩, ⟨_, rfl, rfl⟩, ⟨_, rfl, rfl⟩, ⟨_, rfl, rfl⟩, ⟨_, rfl, rfl⟩, ⟨_, rfl, rfl⟩, ⟨_, rfl, rfl⟩, ⟨_, rfl, rfl⟩, ⟨_, rfl, rfl⟩, ⟨_, rfl, rfl⟩, ⟨_, rfl, congrArg (fun b => some (one (cL b))) hc207⟩, trivial⟩ trivial ⟨⟨_, _, rfl, rfl, rfl⟩, trivial⟩) ?_
                    refine A.off 23 rfl (by kernel_rfl) (by kernel_rfl) (by kernel_rfl) rfl hF rfl rfl ?_
                    refine A.off 24 rfl (by kernel_rfl) (by kernel_rfl) (by kernel_rfl) rfl hF rfl rfl ?_
                    refine A.off 25 rfl (by kernel_rfl) (by kernel_rfl) (by kernel_rfl) rfl hF rfl rfl ?_
                    refine A.off 26 rfl (by kernel_rfl) (by kernel_rfl) (by kernel_rfl) rfl hF rfl rfl ?_
                    refine A.off 27 rfl (by kernel_rfl) (by kernel_rfl) (by kernel_rfl) rfl hF rfl rfl ?_
                    refine A.take 28 rfl (by kernel_rfl) (by kernel_rfl) (by kernel_rfl) rfl (Ca.pick) (fun Q0 k0 => L.pick hF rfl rfl rfl rfl (L.nil k0)) ?_
                    refine A.take 29 rfl (by kernel_rfl) (by kernel_rfl) (by kernel_rfl) rfl (Ca.pick) (fun Q0 k0 => L.pick hF rfl rfl rfl rfl (L.nil k0)) ?_
                    refine A.take 30 rfl (by kernel_rfl) (by kernel_rfl) (by kernel_rfl) rfl (Ca.move) (fun Q0 k0 => L.move hF rfl rfl rfl (L.nil k0)) ?_
                    refine A.take 31 rfl (by kernel_rfl) (by kernel_rfl) (by kernel_rfl) rfl (Ca.move) (fun Q0 k0 => L.move hF rfl rfl rfl (L.nil k0)) ?_
                    refine A.take 32 rfl (by kernel_rfl) (by kernel_rfl) (by kernel_rfl) rfl (Ca.move) (fun Q0 k0 => L.move hF rfl rfl rfl (L.nil k0)) ?_
                    refine A.le (τ := mkSt [(0, one (Cell.sl g0 (List.map eTimpl_Pair v172))), (1, one (cI v173)), (2, one (cL v174)), (7, one (cI v175)), (8, one (Cell.ptr 0 0)), (26, one (Cell.ptr 0 0)), (27, one (cI b198.A)), (28, one (cI v173)), (29, one (cL (decide (b198.A ≥ v173)))), (32, one (Cell.ptr 0 1)), (33, one (cI b198.B)), (34, one (cL (decide (b198.B < (0 : Int))))), (37, one (Cell.ptr 0 1)), (38, one (cI b198.B)), (39, one (cI v173)), (40, one (cL (decide (b198.B ≥ v173)))), (43, one (cL v174)), (44, one (cL false)), (45, Slot.tup []), (46, Slot.tup []), (47, Slot.tup []), (48, Slot.tup []), (49, Slot.tup []), (50, one (cL false)), (52, one (cL false)), (53, one (Cell.sl g0 (List.map eTimpl_Pair v172))), (54, one (cI v175))] [] [(0, [cI b198.A, cI b198.B])] 1) (Le.mk [(0, 0)] hm rfl ⟨⟨_, rfl, rfl⟩, ⟨_, rfl, rfl⟩, ⟨_, rfl, rfl⟩, ⟨_, rfl, rfl⟩, ⟨_, rfl, rfl⟩, ⟨_, rfl, rfl⟩, ⟨_, rfl, rfl⟩, ⟨_, rfl, rfl⟩, ⟨_, rfl, rfl⟩, ⟨_, rfl, rfl⟩, ⟨_, rfl, rfl⟩, ⟨_, rfl, rfl⟩, ⟨_, rfl, rfl⟩, ⟨_, rfl, rfl⟩, ⟨_, rfl, rfl⟩, ⟨_, rfl, rfl⟩, ⟨_, rfl, rfl⟩, ⟨_, rfl, rfl⟩, ⟨_, rfl, rfl⟩, ⟨_, rfl, rfl⟩, ⟨_, rfl, rfl⟩, ⟨_, rfl, rfl⟩, ⟨_, rfl, rfl⟩, ⟨_, rfl, rfl⟩, ⟨_, rfl, rfl⟩, ⟨_, rfl, rfl⟩, ⟨_, rfl, rfl⟩, trivial⟩ trivial ⟨⟨_, _, rfl, rfl, rfl⟩, trivial⟩) ?_
                    refine A.take 33 rfl (by kernel_rfl) (by kernel_rfl) (by kernel_rfl) rfl (Ca.slice) (fun Q0 k0 => L.cutR (xs := v172) (ys := b211) (e := eTimpl_Pair) Try.underlying88 info256 hF rfl rfl rfl rfl rfl hb211 (fun _ => rfl) (L.nil k0)) ?_
                    refine A.all [34] (by kernel_rfl) rfl ⟨⟨_, rfl, ?_⟩, trivial⟩
                    refine L.loadPtr shape256 hF rfl rfl rfl rfl rfl rfl ?_
                    refine L.nil ?_
                    refine A.all [35] (by kernel_rfl) rfl ⟨⟨_, rfl, ?_⟩, trivial⟩
                    refine L.call [false, false] [] [] 1 hF rfl rfl rfl ent244 rfl rfl rfl rfl rfl (Fspec_l6Has_gives k7 g0 b211 b198 r212 hr212) rfl ?_
                    refine L.nil ?_
                    refine A.take 36 rfl (by kernel_rfl) (by kernel_rfl) (by kernel_rfl) rfl (Ca.pick) (fun Q0 k0 => L.pick hF rfl rfl rfl rfl (L.nil k0)) ?_
                    refine A.le (τ := mkSt [(0, one (Cell.sl g0 (List.map eTimpl_Pair v172))), (1, one (cI v173)), (2, one (cL v174)), (7, one (cI v175)), (26, one (Cell.ptr 0 0)), (27, one (cI b198.A)), (28, one (cI v173)), (29, one (cL (decide (b198.A ≥ v173)))), (32, one (Cell.ptr 0 1)), (33, one (cI b198.B)), (34, one (cL (decide (b198.B < (0 : Int))))), (37, one (Cell.ptr 0 1)), (38, one (cI b198.B)), (39, one (cI v173)), (40, one (cL (decide (b198.B ≥ v173)))), (43, one (cL v174)), (44, one (cL false)), (45, Slot.tup []), (46, Slot.tup []), (47, Slot.tup []), (48, Slot.tup []), (49, Slot.tup []), (50, one (cL false)), (53, one (Cell.sl g0 (List.map eTimpl_Pair v172))), (54, one (cI v175)), (55, one (Cell.sl g0 (List.map eTimpl_Pair b211))), (56, agg [cI b198.A, cI b198.B]), (57, one (cL r212)), (58, one (cL r212))] [] [(0, [cI b198.A, cI b198.B])] 1) (Le.mk [(0, 0)] hm rfl ⟨⟨_, rfl, rfl⟩, ⟨_, rfl, rfl⟩, ⟨_, rfl, rfl⟩, ⟨_, rfl, rfl⟩, ⟨_, rfl, rfl⟩, ⟨_, rfl, rfl⟩, ⟨_, rfl, rfl⟩, ⟨_, rfl, rfl⟩, ⟨_, rfl, rfl⟩, ⟨_, rfl, rfl⟩, ⟨_, rfl, rfl⟩, ⟨_, rfl, rfl⟩, ⟨_, rfl, rfl⟩, ⟨_, rfl, rfl⟩, ⟨_, rfl, rfl⟩, ⟨_, rfl, rfl⟩, ⟨_, rfl, rfl⟩, ⟨_, rfl, rfl⟩, ⟨_, rfl, rfl⟩, ⟨_, rfl, rfl⟩, ⟨_, rfl, rfl⟩, ⟨_, rfl, rfl⟩, ⟨_, rfl, rfl⟩, ⟨_, rfl, rfl⟩, ⟨_, rfl, rfl⟩, ⟨_, rfl, rfl⟩, ⟨_, rfl, rfl⟩, ⟨_, rfl, rfl⟩, ⟨_, rfl, rfl⟩, trivial⟩ trivial ⟨⟨_, _, rfl, rfl, rfl⟩, trivial⟩) ?_
                    refine A.done (by kernel_rfl) ?_
                    refine WpC.cond rfl (fun hc => ?_) (fun hc => ?_)
                    · replace H := condT hc H
                      refine WpC.seq ?_
                      refine WpC.regionL ?_
                      refine L.assign hF rfl rfl rfl ?_
                      refine L.nil ?_
                      refine WpC.ret ?_
                      cases H
                      exact Leaves.ret rfl rfl rfl ⟨rfl, rfl⟩
                    · replace H := condF hc H
                      refine WpC.skip ?_
                      exact ⟨_, ⟨k7, v172, v173, v174, v175, b198.A, (decide (b198.A ≥ v173)), b198.B, (decide (b198.B < (0 : Int))), (decide (b198.B ≥ v173)), false, false, b211, r212, by omega, H, rfl⟩, Le.mk [(0, 0)] hm rfl ⟨⟨_, rfl, rfl⟩, ⟨_, rfl, rfl⟩, ⟨_, rfl, rfl⟩, ⟨_, rfl, rfl⟩, ⟨_, rfl, rfl⟩, ⟨_, rfl, rfl⟩, ⟨_, rfl, rfl⟩, ⟨_, rfl, rfl⟩, ⟨_, rfl, rfl⟩, ⟨_, rfl, rfl⟩, ⟨_, rfl, rfl⟩, ⟨_, rfl, rfl⟩, ⟨_, rfl, rfl⟩, ⟨_, rfl, rfl⟩, ⟨_, rfl, rfl⟩, ⟨_, rfl, rfl⟩, ⟨_, rfl, rfl⟩, ⟨_, rfl, rfl⟩, ⟨_, rfl, rfl⟩, ⟨_, rfl, rfl⟩, ⟨_, rfl, rfl⟩, ⟨_, rfl, rfl⟩, ⟨_, rfl, rfl⟩, trivial⟩ trivial ⟨⟨_, _, rfl, rfl, rfl⟩, trivial⟩⟩
      · replace H := condF hc H
        refine WpC.exit ?_
        refine WpC.seq ?_
        refine WpC.regionL ?_
        refine L.assign hF rfl rfl rfl ?_
        refine L.nil ?_
        refine WpC.ret ?_
        cases H
        exact Leaves.ret rfl rfl rfl ⟨rfl, rfl⟩
/-! ### Fspec_l1In -/
def Fspec_l1In (k : Nat) (a0 : Int) (a1 : Int) (a2 : Int) : Option Bool := cond (decide (a0 ≥ a1)) (some (decide (a0 ≤ a2))) (some false)
theorem ent152 : Enters Try.prog 152 := ⟨Try.f152, Try.func152, rfl, by decide⟩
set_option maxHeartbeats 8000000 in
set_option maxRecDepth 100000 in
theorem Fspec_l1In_gives (k : Nat) (a0 : Int) (a1 : Int) (a2 : Int) (r : Bool) (H : Fspec_l1In k a0 a1 a2 = some r) : Gives Try.prog 152 [V.one (cI a0), V.one (cI a1), V.one (cI a2)] [] [V.one (cL r)] [] := by
  refine Gives.intro Try.func152 rfl rfl rfl rfl ?_
  intro F hF hm
  unfold Fspec_l1In at H
  obtain ⟨K, hK⟩ : ∃ K, k ≤ K := ⟨k, Nat.le_refl k⟩
  refine WpC.seq ?_
  refine WpC.regionL ?_
  refine L.assign hF rfl rfl rfl ?_
  refine L.nil ?_
  refine WpC.seq ?_
  refine WpC.regionL ?_
  refine L.move hF rfl rfl rfl ?_
  refine L.move hF rfl rfl rfl ?_
  refine L.bin hF rfl rfl rfl rfl rfl rfl ?_
  refine L.move hF rfl rfl rfl ?_
  refine L.split (fun hc => ?_) (fun hc => ?_)
  · replace H := condT hc H
    refine L.move hF rfl rfl rfl ?_
    refine L.move hF rfl rfl rfl ?_
    refine L.bin hF rfl rfl rfl rfl rfl rfl ?_
    refine L.pick hF rfl rfl rfl rfl ?_
    refine L.assign hF rfl rfl rfl ?_
    refine L.nil ?_
    refine WpC.ret ?_
    cases H
    exact Leaves.ret rfl rfl rfl ⟨rfl, rfl⟩
  · replace H := condF hc H
    refine L.off hF rfl rfl ?_
    refine L.off hF rfl rfl ?_
    refine L.off hF rfl rfl ?_
    refine L.pick hF rfl rfl rfl rfl ?_
    refine L.assign hF rfl rfl rfl ?_
    refine L.nil ?_
    refine WpC.ret ?_
    cases H
    exact Leaves.ret rfl rfl rfl ⟨rfl, rfl⟩
/-! ### Fspec_ConfigOk -/
def Fspec_ConfigOk (k : Nat) (a0 : Timpl_Config) : Option Bool := cond ((a0.UserRealm.length : Int) == (3 : Int)) ((Fspec_l5All k a0.UserRealm (3 : Int) (3 : Int)).bind fun r6 => cond r6 (cond ((a0.ServiceRealm.length : Int) == (3 : Int)) ((Fspec_l5All k a0.ServiceRealm (3 : Int) (3 : Int)).bind fun r7 => cond r7 ((Fspec_l6Pairs k a0.Links (3 : Int) true).bind fun r8 => cond r8 ((Fspec_l6Pairs k a0.Proxy (3 : Int) false).bind fun r9 => cond r9 ((Fspec_l1In k a0.Skew (0 : Int) (20 : Int)).bind fun r10 => some r10) (some false)) (some false)) (some false)) (some false)) (some false)) (some false)
theorem ent150 : Enters Try.prog 150 := ⟨Try.f150, Try.func150, rfl, by decide⟩
set_option maxHeartbeats 8000000 in
set_option maxRecDepth 100000 in
theorem Fspec_ConfigOk_gives (k : Nat) (g0 : Bool) (g1 : Bool) (g2 : Bool) (g3 : Bool) (a0 : Timpl_Config) (r : Bool) (H : Fspec_ConfigOk k a0 = some r) : Gives Try.prog 150 [V.agg [Cell.sl g0 (List.map eI a0.UserRealm), Cell.sl g1 (List.map eI a0.ServiceRealm), Cell.sl g2 (List.map eTimpl_Pair a0.Links), Cell.sl g3 (List.map eTimpl_Pair a0.Proxy), cI a0.Skew]] [] [V.one (cL r)] [] := by
  refine Gives.intro Try.func150 rfl rfl rfl rfl ?_
  intro F hF hm
  unfold Fspec_ConfigOk at H
  obtain ⟨K, hK⟩ : ∃ K, k ≤ K := ⟨k, Nat.le_refl k⟩
  refine WpC.seq ?_
  refine WpC.regionL ?_
  refine L.box 5 hF rfl rfl rfl rfl ?_
  refine L.assign hF rfl rfl rfl ?_
  refine L.nil ?_
  refine WpC.seq ?_
  refine WpC.regionL ?_
  refine L.fieldAddr Try.underlying90 rfl info24 rfl hF rfl rfl rfl rfl rfl ?_
  refine L.loadPtr shape24 hF rfl rfl rfl rfl rfl rfl ?_
  refine L.lenR (xs := a0.UserRealm) (e := eI) Try.underlying24 hF rfl rfl rfl rfl ?_
  refine L.bin hF rfl rfl rfl rfl rfl rfl ?_
  refine L.move hF rfl rfl rfl ?_
  refine L.split (fun hc => ?_) (fun hc => ?_)
  · replace H := condT hc H
    refine L.fieldAddr Try.underlying90 rfl info24 rfl hF rfl rfl rfl rfl rfl ?_
    refine L.loadPtr shape24 hF rfl rfl rfl rfl rfl rfl ?_
    obtain ⟨r6, hr6, H⟩ := bindS H
    refine L.call [false, false, false] [] [] 6 hF rfl rfl rfl ent241 rfl rfl rfl rfl rfl (Fspec_l5All_gives k g0 a0.UserRealm (3 : Int) (3 : Int) r6 hr6) rfl ?_
    refine L.pick hF rfl rfl rfl rfl ?_
    refine L.move hF rfl rfl rfl ?_
    refine L.split (fun hc => ?_) (fun hc => ?_)
    · replace H := condT hc H
      refine L.fieldAddr Try.underlying90 rfl info24 rfl hF rfl rfl rfl rfl rfl ?_
      refine L.loadPtr shape24 hF rfl rfl rfl rfl rfl rfl ?_
      refine L.lenR (xs := a0.ServiceRealm) (e := eI) Try.underlying24 hF rfl rfl rfl rfl ?_
      refine L.bin hF rfl rfl rfl rfl rfl rfl ?_
      refine L.pick hF rfl rfl rfl rfl ?_
      refine L.move hF rfl rfl rfl ?_
      refine L.split (fun hc => ?_) (fun hc => ?_)
      · replace H := condT hc H
        refine L.fieldAddr Try.underlying90 rfl info24 rfl hF rfl rfl rfl rfl rfl ?_
        refine L.loadPtr shape24 hF rfl rfl rfl rfl rfl rfl ?_
        obtain ⟨r7, hr7, H⟩ := bindS H
        refine L.call [false, false, false] [] [] 7 hF rfl rfl rfl ent241 rfl rfl rfl rfl rfl (Fspec_l5All_gives k g1 a0.ServiceRealm (3 : Int) (3 : Int) r7 hr7) rfl ?_
        refine L.pick hF rfl rfl rfl rfl ?_
        refine L.move hF rfl rfl rfl ?_
        refine L.split (fun hc => ?_) (fun hc => ?_)
        · replace H := condT hc H
          refine L.fieldAddr Try.underlying90 rfl info88 rfl hF rfl rfl rfl rfl rfl ?_
          refine L.loadPtr shape88 hF rfl rfl rfl rfl rfl rfl ?_
          obtain ⟨r8, hr8, H⟩ := bindS H
          refine L.call [false, false, false] [] [] 8 hF rfl rfl rfl ent242 rfl rfl rfl rfl rfl (Fspec_l6Pairs_gives k g2 a0.Links (3 : Int) true r8 hr8) rfl ?_
          refine L.pick hF rfl rfl rfl rfl ?_
          refine L.move hF rfl rfl rfl ?_
          refine L.split (fun hc => ?_) (fun hc => ?_)
          · replace H := condT hc H
            refine L.fieldAddr Try.underlying90 rfl info88 rfl hF rfl rfl rfl rfl rfl ?_
            refine L.loadPtr shape88 hF rfl rfl rfl rfl rfl rfl ?_
            obtain ⟨r9, hr9, H⟩ := bindS H
            refine L.call [false, false, false] [] [] 9 hF rfl rfl rfl ent242 rfl rfl rfl rfl rfl (Fspec_l6Pairs_gives k g3 a0.Proxy (3 : Int) false r9 hr9) rfl ?_
            refine L.pick hF rfl rfl rfl rfl ?_
            refine L.move hF rfl rfl rfl ?_
            refine L.split (fun hc => ?_) (fun hc => ?_)
            · replace H := condT hc H
              refine L.fieldAddr Try.underlying90 rfl info3 rfl hF rfl rfl rfl rfl rfl ?_
              refine L.loadPtr shape3 hF rfl rfl rfl rfl rfl rfl ?_
              obtain ⟨r10, hr10, H⟩ := bindS H
              refine L.call [false, false, false] [] [] 10 hF rfl rfl rfl ent152 rfl rfl rfl rfl rfl (Fspec_l1In_gives k  a0.Skew (0 : Int) (20 : Int) r10 hr10) rfl ?_
              refine L.pick hF rfl rfl rfl rfl ?_
              refine L.assign hF rfl rfl rfl ?_
              refine L.nil ?_
              refine WpC.ret ?_
              cases H
              exact Leaves.ret rfl rfl rfl ⟨rfl, rfl⟩
            · replace H := condF hc H
              refine L.off hF rfl rfl ?_
              refine L.off hF rfl rfl ?_
              refine L.off hF rfl rfl ?_
              refine L.pick hF rfl rfl rfl rfl ?_
              refine L.assign hF rfl rfl rfl ?_
              refine L.nil ?_
              refine WpC.ret ?_
              cases H
              exact Leaves.ret rfl rfl rfl ⟨rfl, rfl⟩
          · replace H := condF hc H
            refine L.off hF rfl rfl ?_
            refine L.off hF rfl rfl ?_
            refine L.off hF rfl rfl ?_
            refine L.pick hF rfl rfl rfl rfl ?_
            refine L.move hF rfl rfl rfl ?_
            refine L.off hF rfl rfl ?_
            refine L.off hF rfl rfl ?_
            refine L.off hF rfl rfl ?_
            refine L.pick hF rfl rfl rfl rfl ?_
            refine L.assign hF rfl rfl rfl ?_
            refine L.nil ?_
            refine WpC.ret ?_
            cases H
            exact Leaves.ret rfl rfl rfl ⟨rfl, rfl⟩
        · replace H := condF hc H
          refine L.off hF rfl rfl ?_
          refine L.off hF rfl rfl ?_
          refine L.off hF rfl rfl ?_
          refine L.pick hF rfl rfl rfl rfl ?_
          refine L.move hF rfl rfl rfl ?_
          refine L.off hF rfl rfl ?_
          refine L.off hF rfl rfl ?_
          refine L.off hF rfl rfl ?_
          refine L.pick hF rfl rfl rfl rfl ?_
          refine L.move hF rfl rfl rfl ?_
          refine L.off hF rfl rfl ?_
          refine L.off hF rfl rfl ?_
          refine L.off hF rfl rfl ?_
          refine L.pick hF rfl rfl rfl rfl ?_
          refine L.assign hF rfl rfl rfl ?_
          refine L.nil ?_
          refine WpC.ret ?_
          cases H
          exact Leaves.ret rfl rfl rfl ⟨rfl, rfl⟩
      · replace H := condF hc H
        refine L.off hF rfl rfl ?_
        refine L.off hF rfl rfl ?_
        refine L.off hF rfl rfl ?_
        refine L.pick hF rfl rfl rfl rfl ?_
        refine L.move hF rfl rfl rfl ?_
        refine L.off hF rfl rfl ?_
        refine L.off hF rfl rfl ?_
        refine L.off hF rfl rfl ?_
        refine L.pick hF rfl rfl rfl rfl ?_
        refine L.move hF rfl rfl rfl ?_
        refine L.off hF rfl rfl ?_
        refine L.off hF rfl rfl ?_
        refine L.off hF rfl rfl ?_
        refine L.pick hF rfl rfl rfl rfl ?_
        refine L.move hF rfl rfl rfl ?_
        refine L.off hF rfl rfl ?_
        refine L.off hF rfl rfl ?_
        refine L.off hF rfl rfl ?_
        refine L.pick hF rfl rfl rfl rfl ?_
        refine L.assign hF rfl rfl rfl ?_
        refine L.nil ?_
        refine WpC.ret ?_
        cases H
        exact Leaves.ret rfl rfl rfl ⟨rfl, rfl⟩
    · replace H := condF hc H
      refine L.off hF rfl rfl ?_
      refine L.off hF rfl rfl ?_
      refine L.off hF rfl rfl ?_
      refine L.off hF rfl rfl ?_
      refine L.pick hF rfl rfl rfl rfl ?_
      refine L.move hF rfl rfl rfl ?_
      refine L.off hF rfl rfl ?_
      refine L.off hF rfl rfl ?_
      refine L.off hF rfl rfl ?_
      refine L.pick hF rfl rfl rfl rfl ?_
      refine L.move hF rfl rfl rfl ?_
      refine L.off hF rfl rfl ?_
      refine L.off hF rfl rfl ?_
      refine L.off hF rfl rfl ?_
      refine L.pick hF rfl rfl rfl rfl ?_
      refine L.move hF rfl rfl rfl ?_
      refine L.off hF rfl rfl ?_
      refine L.off hF rfl rfl ?_
      refine L.off hF rfl rfl ?_
      refine L.pick hF rfl rfl rfl rfl ?_
      refine L.move hF rfl rfl rfl ?_
      refine L.off hF rfl rfl ?_
      refine L.off hF rfl rfl ?_
      refine L.off hF rfl rfl ?_
      refine L.pick hF rfl rfl rfl rfl ?_
      refine L.assign hF rfl rfl rfl ?_
      refine L.nil ?_
      refine WpC.ret ?_
      cases H
      exact Leaves.ret rfl rfl rfl ⟨rfl, rfl⟩
  · replace H := condF hc H
    refine L.off hF rfl rfl ?_
    refine L.off hF rfl rfl ?_
    refine L.off hF rfl rfl ?_
    refine L.pick hF rfl rfl rfl rfl ?_
    refine L.move hF rfl rfl rfl ?_
    refine L.off hF rfl rfl ?_
    refine L.off hF rfl rfl ?_
    refine L.off hF rfl rfl ?_
    refine L.off hF rfl rfl ?_
    refine L.pick hF rfl rfl rfl rfl ?_
    refine L.move hF rfl rfl rfl ?_
    refine L.off hF rfl rfl ?_
    refine L.off hF rfl rfl ?_
    refine L.off hF rfl rfl ?_
    refine L.pick hF rfl rfl rfl rfl ?_
    refine L.move hF rfl rfl rfl ?_
    refine L.off hF rfl rfl ?_
    refine L.off hF rfl rfl ?_
    refine L.off hF rfl rfl ?_
    refine L.pick hF rfl rfl rfl rfl ?_
    refine L.move hF rfl rfl rfl ?_
    refine L.off hF rfl rfl ?_
    refine L.off hF rfl rfl ?_
    refine L.off hF rfl rfl ?_
    refine L.pick hF rfl rfl rfl rfl ?_
    refine L.move hF rfl rfl rfl ?_
    refine L.off hF rfl rfl ?_
    refine L.off hF rfl rfl ?_
    refine L.off hF rfl rfl ?_
    refine L.pick hF rfl rfl rfl rfl ?_
    refine L.assign hF rfl rfl rfl ?_
    refine L.nil ?_
    refine WpC.ret ?_
    cases H
    exact Leaves.ret rfl rfl rfl ⟨rfl, rfl⟩
/-! ### Fspec_l5Principal -/
def Fspec_l5Principal (k : Nat) (a0 : Int) : Option Bool := cond (decide (a0 ≥ (0 : Int))) (some (decide (a0 < (6 : Int)))) (some false)
theorem ent142 : Enters Try.prog 142 := ⟨Try.f142, Try.func142, rfl, by decide⟩
set_option maxHeartbeats 8000000 in
set_option maxRecDepth 100000 in
theorem Fspec_l5Principal_gives (k : Nat) (a0 : Int) (r : Bool) (H : Fspec_l5Principal k a0 = some r) : Gives Try.prog 142 [V.one (cI a0)] [] [V.one (cL r)] [] := by
  refine Gives.intro Try.func142 rfl rfl rfl rfl ?_
  intro F hF hm
  unfold Fspec_l5Principal at H
  obtain ⟨K, hK⟩ : ∃ K, k ≤ K := ⟨k, Nat.le_refl k⟩
  refine WpC.seq ?_
  refine WpC.regionL ?_
  refine L.assign hF rfl rfl rfl ?_
  refine L.nil ?_
  refine WpC.seq ?_
  refine WpC.regionL ?_
  refine L.move hF rfl rfl rfl ?_
  refine L.bin hF rfl rfl rfl rfl rfl rfl ?_
  refine L.move hF rfl rfl rfl ?_
  refine L.split (fun hc => ?_) (fun hc => ?_)
  · replace H := condT hc H
    refine L.move hF rfl rfl rfl ?_
    refine L.bin hF rfl rfl rfl rfl rfl rfl ?_
    refine L.pick hF rfl rfl rfl rfl ?_
    refine L.assign hF rfl rfl rfl ?_
    refine L.nil ?_
    refine WpC.ret ?_
    cases H
    exact Leaves.ret rfl rfl rfl ⟨rfl, rfl⟩
  · replace H := condF hc H
    refine L.off hF rfl rfl ?_
    refine L.off hF rfl rfl ?_
    refine L.pick hF rfl rfl rfl rfl ?_
    refine L.assign hF rfl rfl rfl ?_
    refine L.nil ?_
    refine WpC.ret ?_
    cases H
    exact Leaves.ret rfl rfl rfl ⟨rfl, rfl⟩
/-! ### Fspec_RestOk -/
def Fspec_RestOk (k : Nat) (a0 : Timpl_Rest) : Option Bool := (Fspec_l1In k a0.Servers (0 : Int) (7 : Int)).bind fun r4 => cond r4 ((Fspec_l1In k a0.Ops (0 : Int) (255 : Int)).bind fun r5 => cond r5 ((Fspec_l1In k a0.End (0 : Int) (100000 : Int)).bind fun r6 => some r6) (some false)) (some false)
theorem ent151 : Enters Try.prog 151 := ⟨Try.f151, Try.func151, rfl, by decide⟩
set_option maxHeartbeats 8000000 in
set_option maxRecDepth 100000 in
theorem Fspec_RestOk_gives (k : Nat) (a0 : Timpl_Rest) (r : Bool) (H : Fspec_RestOk k a0 = some r) : Gives Try.prog 151 [V.agg [cI a0.Servers, cI a0.Ops, cI a0.End]] [] [V.one (cL r)] [] := by
  refine Gives.intro Try.func151 rfl rfl rfl rfl ?_
  intro F hF hm
  unfold Fspec_RestOk at H
  obtain ⟨K, hK⟩ : ∃ K, k ≤ K := ⟨k, Nat.le_refl k⟩
  refine WpC.seq ?_
  refine WpC.regionL ?_
  refine L.box 3 hF rfl rfl rfl rfl ?_
  refine L.assign hF rfl rfl rfl ?_
  refine L.nil ?_
  refine WpC.seq ?_
  refine WpC.regionL ?_
  refine L.fieldAddr Try.underlying74 rfl info3 rfl hF rfl rfl rfl rfl rfl ?_
  refine L.loadPtr shape3 hF rfl rfl rfl rfl rfl rfl ?_
  obtain ⟨r4, hr4, H⟩ := bindS H
  refine L.call [false, false, false] [] [] 4 hF rfl rfl rfl ent152 rfl rfl rfl rfl rfl (Fspec_l1In_gives k  a0.Servers (0 : Int) (7 : Int) r4 hr4) rfl ?_
  refine L.move hF rfl rfl rfl ?_
  refine L.split (fun hc => ?_) (fun hc => ?_)
  · replace H := condT hc H
    refine L.fieldAddr Try.underlying74 rfl info3 rfl hF rfl rfl rfl rfl rfl ?_
    refine L.loadPtr shape3 hF rfl rfl rfl rfl rfl rfl ?_
    obtain ⟨r5, hr5, H⟩ := bindS H
    refine L.call [false, false, false] [] [] 5 hF rfl rfl rfl ent152 rfl rfl rfl rfl rfl (Fspec_l1In_gives k  a0.Ops (0 : Int) (255 : Int) r5 hr5) rfl ?_
    refine L.pick hF rfl rfl rfl rfl ?_
    refine L.move hF rfl rfl rfl ?_
    refine L.split (fun hc => ?_) (fun hc => ?_)
    · replace H := condT hc H
      refine L.fieldAddr Try.underlying74 rfl info3 rfl hF rfl rfl rfl rfl rfl ?_
      refine L.loadPtr shape3 hF rfl rfl rfl rfl rfl rfl ?_
      obtain ⟨r6, hr6, H⟩ := bindS H
      refine L.call [false, false, false] [] [] 6 hF rfl rfl rfl ent152 rfl rfl rfl rfl rfl (Fspec_l1In_gives k  a0.End (0 : Int) (100000 : Int) r6 hr6) rfl ?_
      refine L.pick hF rfl rfl rfl rfl ?_
      refine L.assign hF rfl rfl rfl ?_
      refine L.nil ?_
      refine WpC.ret ?_
      cases H
      exact Leaves.ret rfl rfl rfl ⟨rfl, rfl⟩
    · replace H := condF hc H
      refine L.off hF rfl rfl ?_
      refine L.off hF rfl rfl ?_
      refine L.off hF rfl rfl ?_
      refine L.pick hF rfl rfl rfl rfl ?_
      refine L.assign hF rfl rfl rfl ?_
      refine L.nil ?_
      refine WpC.ret ?_
      cases H
      exact Leaves.ret rfl rfl rfl ⟨rfl, rfl⟩
  · replace H := condF hc H
    refine L.off hF rfl rfl ?_
    refine L.off hF rfl rfl ?_
    refine L.off hF rfl rfl ?_
    refine L.pick hF rfl rfl rfl rfl ?_
    refine L.move hF rfl rfl rfl ?_
    refine L.off hF rfl rfl ?_
    refine L.off hF rfl rfl ?_
    refine L.off hF rfl rfl ?_
    refine L.pick hF rfl rfl rfl rfl ?_
    refine L.assign hF rfl rfl rfl ?_
    refine L.nil ?_
    refine WpC.ret ?_
    cases H
    exact Leaves.ret rfl rfl rfl ⟨rfl, rfl⟩
/-! ### Fspec_RealmOf -/
def Fspec_RealmOf (k : Nat) (a0 : Timpl_Config) (a1 : Int) : Option Int := (Fspec_ConfigOk k a0).bind fun r7 => cond (!r7) (some (-1 : Int)) ((Fspec_l5Principal k a1).bind fun r8 => cond (!r8) (some (-1 : Int)) (cond (decide (a1 < (3 : Int))) ((at? a0.UserRealm a1).bind fun b10 => some b10) ((at? a0.ServiceRealm (IntKind.i64.wrap (a1 - (3 : Int)))).bind fun b11 => some b11)))
theorem ent153 : Enters Try.prog 153 := ⟨Try.f153, Try.func153, rfl, by decide⟩
set_option maxHeartbeats 8000000 in
set_option maxRecDepth 100000 in
theorem Fspec_RealmOf_gives (k : Nat) (g0 : Bool) (g1 : Bool) (g2 : Bool) (g3 : Bool) (a0 : Timpl_Config) (a1 : Int) (r : Int) (H : Fspec_RealmOf k a0 a1 = some r) : Gives Try.prog 153 [V.agg [Cell.sl g0 (List.map eI a0.UserRealm), Cell.sl g1 (List.map eI a0.ServiceRealm), Cell.sl g2 (List.map eTimpl_Pair a0.Links), Cell.sl g3 (List.map eTimpl_Pair a0.Proxy), cI a0.Skew], V.one (cI a1)] [] [V.one (cI r)] [] := by
  refine Gives.intro Try.func153 rfl rfl rfl rfl ?_
  intro F hF hm
  unfold Fspec_RealmOf at H
  obtain ⟨K, hK⟩ : ∃ K, k ≤ K := ⟨k, Nat.le_refl k⟩
  refine WpC.seq ?_
  refine WpC.regionL ?_
  refine L.box 6 hF rfl rfl rfl rfl ?_
  refine L.assign hF rfl rfl rfl ?_
  refine L.nil ?_
  refine WpC.seq ?_
  refine WpC.seq ?_
  refine WpC.regionL ?_
  refine L.loadPtr shape90 hF rfl rfl rfl rfl rfl rfl ?_
  obtain ⟨r7, hr7, H⟩ := bindS H
  refine L.call [false] [] [] 7 hF rfl rfl rfl ent150 rfl rfl rfl rfl rfl (Fspec_ConfigOk_gives k g0 g1 g2 g3 a0 r7 hr7) rfl ?_
  refine L.not hF rfl rfl rfl ?_
  refine L.move hF rfl rfl rfl ?_
  refine L.split (fun hc => ?_) (fun hc => ?_)
  · replace H := condT hc H
    refine L.off hF rfl rfl ?_
    refine L.off hF rfl rfl ?_
    refine L.off hF rfl rfl ?_
    refine L.pick hF rfl rfl rfl rfl ?_
    refine L.nil ?_
    refine WpC.cond rfl (fun _ => ?_) (fun hc => by cases hc)
    refine WpC.seq ?_
    refine WpC.regionL ?_
    refine L.assign hF rfl rfl rfl ?_
    refine L.nil ?_
    refine WpC.ret ?_
    cases H
    exact Leaves.ret rfl rfl rfl ⟨rfl, rfl⟩
  · replace H := condF hc H
    refine L.move hF rfl rfl rfl ?_
    obtain ⟨r8, hr8, H⟩ := bindS H
    refine L.call [false] [] [] 8 hF rfl rfl rfl ent142 rfl rfl rfl rfl rfl (Fspec_l5Principal_gives k  a1 r8 hr8) rfl ?_
    refine L.not hF rfl rfl rfl ?_
    refine L.pick hF rfl rfl rfl rfl ?_
    refine L.nil ?_
    refine WpC.cond rfl (fun hc => ?_) (fun hc => ?_)
    · replace H := condT hc H
      refine WpC.seq ?_
      refine WpC.regionL ?_
      refine L.assign hF rfl rfl rfl ?_
      refine L.nil ?_
      refine WpC.ret ?_
      cases H
      exact Leaves.ret rfl rfl rfl ⟨rfl, rfl⟩
    · replace H := condF hc H
      refine WpC.skip ?_
      refine WpC.seq ?_
      refine WpC.seq ?_
      refine WpC.regionL ?_
      refine L.move hF rfl rfl rfl ?_
      refine L.bin hF rfl rfl rfl rfl rfl rfl ?_
      refine L.nil ?_
      refine WpC.cond rfl (fun hc => ?_) (fun hc => ?_)
      · replace H := condT hc H
        refine WpC.seq ?_
        refine WpC.regionL ?_
        refine L.fieldAddr Try.underlying90 rfl info24 rfl hF rfl rfl rfl rfl rfl ?_
        refine L.loadPtr shape24 hF rfl rfl rfl rfl rfl rfl ?_
        refine L.move hF rfl rfl rfl ?_
        obtain ⟨b10, hb10, H⟩ := bindS H
        refine L.idxR (xs := a0.UserRealm) (e := eI) Try.underlying24 info3 hF rfl rfl rfl rfl rfl hb10 rfl rfl ?_
        refine L.loadPe shape3 hF rfl rfl rfl rfl rfl ?_
        refine L.assign hF rfl rfl rfl ?_
        refine L.nil ?_
        refine WpC.ret ?_
        cases H
        exact Leaves.ret rfl rfl rfl ⟨rfl, rfl⟩
      · replace H := condF hc H
        refine WpC.skip ?_
        refine WpC.seq ?_
        refine WpC.regionL ?_
        refine L.fieldAddr Try.underlying90 rfl info24 rfl hF rfl rfl rfl rfl rfl ?_
        refine L.loadPtr shape24 hF rfl rfl rfl rfl rfl rfl ?_
        refine L.move hF rfl rfl rfl ?_
        refine L.bin hF rfl rfl rfl rfl rfl rfl ?_
        obtain ⟨b11, hb11, H⟩ := bindS H
        refine L.idxR (xs := a0.ServiceRealm) (e := eI) Try.underlying24 info3 hF rfl rfl rfl rfl rfl hb11 rfl rfl ?_
        refine L.loadPe shape3 hF rfl rfl rfl rfl rfl ?_
        refine L.assign hF rfl rfl rfl ?_
        refine L.nil ?_
        refine WpC.ret ?_
        cases H
        exact Leaves.ret rfl rfl rfl ⟨rfl, rfl⟩
/-! ### Fspec_l6Realm -/
def Fspec_l6Realm (k : Nat) (a0 : Int) : Option Bool := cond (decide (a0 ≥ (0 : Int))) (some (decide (a0 < (3 : Int)))) (some false)
theorem ent177 : Enters Try.prog 177 := ⟨Try.f177, Try.func177, rfl, by decide⟩
set_option maxHeartbeats 8000000 in
set_option maxRecDepth 100000 in
theorem Fspec_l6Realm_gives (k : Nat) (a0 : Int) (r : Bool) (H : Fspec_l6Realm k a0 = some r) : Gives Try.prog 177 [V.one (cI a0)] [] [V.one (cL r)] [] := by
  refine Gives.intro Try.func177 rfl rfl rfl rfl ?_
  intro F hF hm
  unfold Fspec_l6Realm at H
  obtain ⟨K, hK⟩ : ∃ K, k ≤ K := ⟨k, Nat.le_refl k⟩
  refine WpC.seq ?_
  refine WpC.regionL ?_
  refine L.assign hF rfl rfl rfl ?_
  refine L.nil ?_
  refine WpC.seq ?_
  refine WpC.regionL ?_
  refine L.move hF rfl rfl rfl ?_
  refine L.bin hF rfl rfl rfl rfl rfl rfl ?_
  refine L.move hF rfl rfl rfl ?_
  refine L.split (fun hc => ?_) (fun hc => ?_)
  · replace H := condT hc H
    refine L.move hF rfl rfl rfl ?_
    refine L.bin hF rfl rfl rfl rfl rfl rfl ?_
    refine L.pick hF rfl rfl rfl rfl ?_
    refine L.assign hF rfl rfl rfl ?_
    refine L.nil ?_
    refine WpC.ret ?_
    cases H
    exact Leaves.ret rfl rfl rfl ⟨rfl, rfl⟩
  · replace H := condF hc H
    refine L.off hF rfl rfl ?_
    refine L.off hF rfl rfl ?_
    refine L.pick hF rfl rfl rfl rfl ?_
    refine L.assign hF rfl rfl rfl ?_
    refine L.nil ?_
    refine WpC.ret ?_
    cases H
    exact Leaves.ret rfl rfl rfl ⟨rfl, rfl⟩
/-! ### Fspec_l6Far -/
def Fspec_l6Far.j52 (cl51 : (List Int) → Int → Int → (List Int) → (List Int) → (List Timpl_Pair) → (List Timpl_Pair) → Int → Option (List Int)) (k : Nat) (v1186 : List Int) (v1187 : Int) (v1188 : Int) (v1189 : List Int) (v1190 : List Int) (v1191 : List Timpl_Pair) (v1192 : List Timpl_Pair) (v1193 : Int) : Option (List Int) := cl51 v1186 v1187 (IntKind.i64.wrap (v1188 + (1 : Int))) v1189 v1190 v1191 v1192 v1193
def Fspec_l6Far.l51 (cl44 : (List Int) → Int → (List Int) → (List Int) → (List Timpl_Pair) → (List Timpl_Pair) → Int → Option (List Int)) : Nat → (List Int) → Int → Int → (List Int) → (List Int) → (List Timpl_Pair) → (List Timpl_Pair) → Int → Option (List Int)
  | 0, _, _, _, _, _, _, _, _ => none
  | k51 + 1, v1170, v1171, v1172, v1173, v1174, v1175, v1176, v1177 => cond (decide (v1172 < (v1175.length : Int))) ((at? v1175 v1172).bind fun b1194 => (at? v1170 b1194.B).bind fun b1195 => (at? v1175 v1172).bind fun b1196 => (at? v1170 b1196.A).bind fun b1197 => cond (decide ((IntKind.i64.wrap (b1195 + (1 : Int))) < b1197)) ((at? v1175 v1172).bind fun b1198 => (at? v1175 v1172).bind fun b1199 => (at? v1170 b1199.B).bind fun b1200 => (at? v1170 b1198.A).bind fun b1201 => Fspec_l6Far.j52 (Fspec_l6Far.l51 cl44 k51) k51 (v1170.set b1198.A.toNat (IntKind.i64.wrap (b1200 + (1 : Int)))) v1171 v1172 v1173 v1174 v1175 v1176 v1177) (Fspec_l6Far.j52 (Fspec_l6Far.l51 cl44 k51) k51 v1170 v1171 v1172 v1173 v1174 v1175 v1176 v1177)) (cl44 v1170 (IntKind.i64.wrap (v1171 + (1 : Int))) v1173 v1174 v1175 v1176 v1177)
def Fspec_l6Far.l44 : Nat → (List Int) → Int → (List Int) → (List Int) → (List Timpl_Pair) → (List Timpl_Pair) → Int → Option (List Int)
  | 0, _, _, _, _, _, _, _ => none
  | k44 + 1, v1007, v1008, v1009, v1010, v1011, v1012, v1013 => cond (decide (v1008 < (3 : Int))) (Fspec_l6Far.l51 (Fspec_l6Far.l44 k44) k44 v1007 v1008 (0 : Int) v1009 v1010 v1011 v1012 v1013) (some v1007)
def Fspec_l6Far.l2 : Nat → Int → (List Int) → Int → (List Int) → (List Int) → (List Timpl_Pair) → (List Timpl_Pair) → Int → Option (List Int)
  | 0, _, _, _, _, _, _, _, _ => none
  | k2 + 1, v47, v48, v49, v50, v51, v52, v53, v54 => cond (decide (v49 < (3 : Int))) (cond (decide ((2 * (v48.length + ([(3 : Int)] : List Int).length) + 192) * 8 ≤ 281474976710656)) ((Fspec_l6Far.l2 k2) v47 (v48 ++ ([(3 : Int)] : List Int)) (IntKind.i64.wrap (v49 + (1 : Int))) v50 v51 v52 v53 v54) none) ((at? v48 v47).bind fun b57 => Fspec_l6Far.l44 k2 (v48.set v47.toNat (0 : Int)) (0 : Int) v50 v51 v52 v53 v54)
def Fspec_l6Far (k : Nat) (a0 : Timpl_Config) (a1 : Int) : Option (List Int) := Fspec_l6Far.l2 k a1 ([] : List Int) (0 : Int) a0.UserRealm a0.ServiceRealm a0.Links a0.Proxy a0.Skew
theorem ent243 : Enters Try.prog 243 := ⟨Try.f243, Try.func243, rfl, by decide⟩
set_option maxHeartbeats 8000000 in
set_option maxRecDepth 100000 in
theorem Fspec_l6Far_gives (k : Nat) (g0 : Bool) (g1 : Bool) (g2 : Bool) (g3 : Bool) (a0 : Timpl_Config) (a1 : Int) (r : List Int) (H : Fspec_l6Far k a0 a1 = some r) : Gives Try.prog 243 [V.agg [Cell.sl g0 (List.map eI a0.UserRealm), Cell.sl g1 (List.map eI a0.ServiceRealm), Cell.sl g2 (List.map eTimpl_Pair a0.Links), Cell.sl g3 (List.map eTimpl_Pair a0.Proxy), cI a0.Skew], V.one (cI a1)] [] [V.one (Cell.ow 1 (List.map eI r))] [] := by
  refine Gives.intro Try.func243 rfl rfl rfl rfl ?_
  intro F hF hm
  unfold Fspec_l6Far at H
  obtain ⟨K, hK⟩ : ∃ K, k ≤ K := ⟨k, Nat.le_refl k⟩
  refine WpC.seq ?_
  refine WpC.regionL ?_
  refine L.box 6 hF rfl rfl rfl rfl ?_
  refine L.assign hF rfl rfl rfl ?_
  refine L.nil ?_
  refine WpC.seq ?_
  refine WpC.regionL ?_
  refine L.buildSlice (e := eI) 7 ([] : List Int) Try.underlying24 info3 rfl rfl rfl hF rfl rfl rfl rfl rfl rfl rfl rfl ?_
  refine L.assign hF rfl rfl rfl ?_
  refine L.nil ?_
  refine WpC.seq ?_
  refine WpC.seq ?_
  refine WpC.regionL ?_
  refine L.assign hF rfl rfl rfl ?_
  refine L.nil ?_
  refine WpC.block ?_
  refine WpC.loopL (P := Try.prog) (fun n σ => ∃ v47 : Int, ∃ v48 : List Int, ∃ v49 : Int, ∃ v50 : List Int, ∃ v51 : List Int, ∃ v52 : List Timpl_Pair, ∃ v53 : List Timpl_Pair, ∃ v54 : Int, n ≤ K ∧ Fspec_l6Far.l2 n v47 v48 v49 v50 v51 v52 v53 v54 = some r ∧ σ = mkSt [(1, one (cI v47)), (2, one (Cell.ptr 0 0)), (5, one (Cell.own 1)), (6, one (cI v49))] [(1, ⟨1, List.map eI v48⟩)] [(0, [Cell.sl g0 (List.map eI v50), Cell.sl g1 (List.map eI v51), Cell.sl g2 (List.map eTimpl_Pair v52), Cell.sl g3 (List.map eTimpl_Pair v53), cI v54])] 2) k ⟨_, ⟨a1, ([] : List Int), (0 : Int), a0.UserRealm, a0.ServiceRealm, a0.Links, a0.Proxy, a0.Skew, by omega, H, rfl⟩, Le.mk [(0, 6), (1, 7)] hm rfl ⟨⟨_, rfl, rfl⟩, ⟨_, rfl, rfl⟩, ⟨_, rfl, rfl⟩, ⟨_, rfl, rfl⟩, trivial⟩ ⟨⟨_, rfl, rfl⟩, trivial⟩ ⟨⟨_, _, rfl, rfl, rfl⟩, trivial⟩⟩ ?_
  clear H
  rintro k2 _ ⟨v47, v48, v49, v50, v51, v52, v53, v54, hk2, H, rfl⟩
  cases k2 with
  | zero => cases H
  | succ k2 =>
    rw [Fspec_l6Far.l2] at H
    refine WpC.seq ?_
    refine WpC.seq ?_
    refine WpC.regionL ?_
    refine L.move hF rfl rfl rfl ?_
    refine L.bin hF rfl rfl rfl rfl rfl rfl ?_
    refine L.nil ?_
    refine WpC.cond rfl (fun hc => ?_) (fun hc => ?_)
    · replace H := condT hc H
      refine WpC.skip ?_
      refine WpC.seq ?_
      refine WpC.block ?_
      refine WpC.regionL ?_
      refine L.move hF rfl rfl rfl ?_
      refine L.buildSlice (e := eI) 2 ([(3 : Int)] : List Int) Try.underlying24 info3 rfl rfl rfl hF rfl rfl rfl rfl rfl rfl rfl rfl ?_
      obtain ⟨h56, H⟩ := condG H
      refine L.append (xs := v48) (ys := ([(3 : Int)] : List Int)) (e := eI) 3 Try.underlying24 info3 rfl rfl hF rfl rfl rfl rfl rfl rfl rfl rfl (fun _ => rfl) (fun _ _ h1 h2 => by cases h1; cases h2; rfl) ⟨_, Try.underlying24⟩ (of_decide_eq_true h56) rfl rfl ?_
      refine L.assign hF rfl rfl rfl ?_
      refine L.nil ?_
      refine WpC.regionL ?_
      refine L.move hF rfl rfl rfl ?_
      refine L.bin hF rfl rfl rfl rfl rfl rfl ?_
      refine L.assign hF rfl rfl rfl ?_
      refine L.nil ?_
      exact ⟨k2, _, by omega, ⟨v47, (v48 ++ ([(3 : Int)] : List Int)), (IntKind.i64.wrap (v49 + (1 : Int))), v50, v51, v52, v53, v54, by omega, H, rfl⟩, Le.mk [(0, 0), (1, 3)] hm rfl ⟨⟨_, rfl, rfl⟩, ⟨_, rfl, rfl⟩, ⟨_, rfl, rfl⟩, ⟨_, rfl, rfl⟩, trivial⟩ ⟨⟨_, rfl, rfl⟩, trivial⟩ ⟨⟨_, _, rfl, rfl, rfl⟩, trivial⟩⟩
    · replace H := condF hc H
      refine WpC.exit ?_
      refine WpC.seq ?_
      refine WpC.regionL ?_
      refine L.move hF rfl rfl rfl ?_
      refine L.move hF rfl rfl rfl ?_
      obtain ⟨b57, hb57, H⟩ := bindS H
      refine L.idxR (xs := v48) (e := eI) Try.underlying24 info3 hF rfl rfl rfl rfl rfl hb57 rfl rfl ?_
      refine L.storeEp (xs := v48) (e := eI) (a' := (0 : Int)) shape3 hF rfl rfl rfl rfl rfl rfl rfl (at?_get hb57).2 rfl rfl ?_
      refine L.nil ?_
      refine WpC.seq ?_
      refine WpC.seq ?_
      refine WpC.regionL ?_
      refine L.assign hF rfl rfl rfl ?_
      refine L.nil ?_
      refine WpC.block ?_
      refine WpC.loopL (P := Try.prog) (fun n σ => ∃ v1007 : List Int, ∃ v1008 : Int, ∃ v1009 : List Int, ∃ v1010 : List Int, ∃ v1011 : List Timpl_Pair, ∃ v1012 : List Timpl_Pair, ∃ v1013 : Int, n ≤ K ∧ Fspec_l6Far.l44 n v1007 v1008 v1009 v1010 v1011 v1012 v1013 = some r ∧ σ = mkSt [(2, one (Cell.ptr 0 0)), (5, one (Cell.own 1)), (7, one (cI v1008))] [(1, ⟨1, List.map eI v1007⟩)] [(0, [Cell.sl g0 (List.map eI v1009), Cell.sl g1 (List.map eI v1010), Cell.sl g2 (List.map eTimpl_Pair v1011), Cell.sl g3 (List.map eTimpl_Pair v1012), cI v1013])] 2) k2 ⟨_, ⟨(v48.set v47.toNat (0 : Int)), (0 : Int), v50, v51, v52, v53, v54, by omega, H, rfl⟩, Le.mk [(0, 0), (1, 1)] hm rfl ⟨⟨_, rfl, rfl⟩, ⟨_, rfl, rfl⟩, ⟨_, rfl, rfl⟩, trivial⟩ ⟨⟨_, rfl, rfl⟩, trivial⟩ ⟨⟨_, _, rfl, rfl, rfl⟩, trivial⟩⟩ ?_
      clear H
      rintro k44 _ ⟨v1007, v1008, v1009, v1010, v1011, v1012, v1013, hk44, H, rfl⟩
      cases k44 with
      | zero => cases H
      | succ k44 =>
        rw [Fspec_l6Far.l44] at H
        refine WpC.seq ?_
        refine WpC.seq ?_
        refine WpC.regionL ?_
        refine L.move hF rfl rfl rfl ?_
        refine L.bin hF rfl rfl rfl rfl rfl rfl ?_
        refine L.nil ?_
        refine WpC.cond rfl (fun hc => ?_) (fun hc => ?_)
        · replace H := condT hc H
          refine WpC.skip ?_
          refine WpC.seq ?_
          refine WpC.block ?_
          refine WpC.seq ?_
          refine WpC.regionL ?_
          refine L.assign hF rfl rfl rfl ?_
          refine L.nil ?_
          refine WpC.block ?_
          refine WpC.loopL (P := Try.prog) (fun n σ => ∃ v1170 : List Int, ∃ v1171 : Int, ∃ v1172 : Int, ∃ v1173 : List Int, ∃ v1174 : List Int, ∃ v1175 : List Timpl_Pair, ∃ v1176 : List Timpl_Pair, ∃ v1177 : Int, n ≤ K ∧ Fspec_l6Far.l51 (Fspec_l6Far.l44 k44) n v1170 v1171 v1172 v1173 v1174 v1175 v1176 v1177 = some r ∧ σ = mkSt [(2, one (Cell.ptr 0 0)), (5, one (Cell.own 1)), (7, one (cI v1171)), (8, one (cI v1172))] [(1, ⟨1, List.map eI v1170⟩)] [(0, [Cell.sl g0 (List.map eI v1173), Cell.sl g1 (List.map eI v1174), Cell.sl g2 (List.map eTimpl_Pair v1175), Cell.sl g3 (List.map eTimpl_Pair v1176), cI v1177])] 2) k44 ⟨_, ⟨v1007, v1008, (0 : Int), v1009, v1010, v1011, v1012, v1013, by omega, H, rfl⟩, Le.mk [(0, 0), (1, 1)] hm rfl ⟨⟨_, rfl, rfl⟩, ⟨_, rfl, rfl⟩, ⟨_, rfl, rfl⟩, ⟨_, rfl, rfl⟩, trivial⟩ ⟨⟨_, rfl, rfl⟩, trivial⟩ ⟨⟨_, _, rfl, rfl, rfl⟩, trivial⟩⟩ ?_
          clear H
          rintro k51 _ ⟨v1170, v1171, v1172, v1173, v1174, v1175, v1176, v1177, hk51, H, rfl⟩
          cases k51 with
          | zero => cases H
          | succ k51 =>
            rw [Fspec_l6Far.l51] at H
            refine WpC.seq ?_
            refine WpC.seq ?_
            refine WpC.regionL ?_
            refine L.move hF rfl rfl rfl ?_
            refine L.fieldAddr Try.underlying90 rfl info88 rfl hF rfl rfl rfl rfl rfl ?_
            refine L.loadPtr shape88 hF rfl rfl rfl rfl rfl rfl ?_
            refine L.lenR (xs := v1175) (e := eTimpl_Pair) Try.underlying88 hF rfl rfl rfl rfl ?_
            refine L.bin hF rfl rfl rfl rfl rfl rfl ?_
            refine L.nil ?_
            refine WpC.cond rfl (fun hc => ?_) (fun hc => ?_)
            · replace H := condT hc H
              refine WpC.skip ?_
              refine WpC.join (fun σ => ∃ kj52 : Nat, ∃ v1186 : List Int, ∃ v1187 : Int, ∃ v1188 : Int, ∃ v1189 : List Int, ∃ v1190 : List Int, ∃ v1191 : List Timpl_Pair, ∃ v1192 : List Timpl_Pair, ∃ v1193 : Int, kj52 ≤ K ∧ Fspec_l6Far.j52 (Fspec_l6Far.l51 (Fspec_l6Far.l44 k44) k51) kj52 v1186 v1187 v1188 v1189 v1190 v1191 v1192 v1193 = some r ∧ σ = mkSt [(2, one (Cell.ptr 0 0)), (5, one (Cell.own 1)), (7, one (cI v1187)), (8, one (cI v1188))] [(1, ⟨1, List.map eI v1186⟩)] [(0, [Cell.sl g0 (List.map eI v1189), Cell.sl g1 (List.map eI v1190), Cell.sl g2 (List.map eTimpl_Pair v1191), Cell.sl g3 (List.map eTimpl_Pair v1192), cI v1193])] 2) ?_ ?_
              · rintro _ ⟨kj52, v1186, v1187, v1188, v1189, v1190, v1191, v1192, v1193, hkj52, H, rfl⟩
                unfold Fspec_l6Far.j52 at H
                refine WpC.regionL ?_
                refine L.move hF rfl rfl rfl ?_
                refine L.bin hF rfl rfl rfl rfl rfl rfl ?_
                refine L.assign hF rfl rfl rfl ?_
                refine L.nil ?_
                exact ⟨k51, _, by omega, ⟨v1186, v1187, (IntKind.i64.wrap (v1188 + (1 : Int))), v1189, v1190, v1191, v1192, v1193, by omega, H, rfl⟩, Le.mk [(0, 0), (1, 1)] hm rfl ⟨⟨_, rfl, rfl⟩, ⟨_, rfl, rfl⟩, ⟨_, rfl, rfl⟩, ⟨_, rfl, rfl⟩, trivial⟩ ⟨⟨_, rfl, rfl⟩, trivial⟩ ⟨⟨_, _, rfl, rfl, rfl⟩, trivial⟩⟩
              · refine WpC.block ?_
                refine WpC.seq ?_
                refine S.begin mixed (by kernel_rfl) ?_
                refine S.st 0 rfl rfl ((Ca.move).quiet) (fun Q0 k0 => L.move hF rfl rfl rfl (L.nil k0)) ?_
                refine S.st 1 rfl rfl ((Ca.fieldAddr Try.underlying90 rfl info88 rfl).quiet) (fun Q0 k0 => L.fieldAddr Try.underlying90 rfl info88 rfl hF rfl rfl rfl rfl rfl (L.nil k0)) ?_
                refine S.st 2 rfl rfl (Qu.load) (fun Q0 k0 => L.loadPtr shape88 hF rfl rfl rfl rfl rfl rfl (L.nil k0)) ?_
                refine S.st 3 rfl rfl ((Ca.move).quiet) (fun Q0 k0 => L.move hF rfl rfl rfl (L.nil k0)) ?_
                obtain ⟨b1194, hb1194, H⟩ := bindS H
                refine S.st 4 rfl rfl ((Ca.indexAddr).quiet) (fun Q0 k0 => L.idxR (xs := v1175) (e := eTimpl_Pair) Try.underlying88 info256 hF rfl rfl rfl rfl rfl hb1194 rfl rfl (L.nil k0)) ?_
                refine S.st 5 rfl rfl ((Ca.fieldAddr Try.underlying256 rfl info3 rfl).quiet) (fun Q0 k0 => L.fieldAddr Try.underlying256 rfl info3 rfl hF rfl rfl rfl rfl rfl (L.nil k0)) ?_
                refine S.st 6 rfl rfl (Qu.load) (fun Q0 k0 => L.loadPe shape3 hF rfl rfl rfl rfl rfl (L.nil k0)) ?_
                obtain ⟨b1195, hb1195, H⟩ := bindS H
                refine S.st 7 rfl rfl ((Ca.indexAddr).quiet) (fun Q0 k0 => L.idxR (xs := v1170) (e := eI) Try.underlying24 info3 hF rfl rfl rfl rfl rfl hb1195 rfl rfl (L.nil k0)) ?_
                refine S.st 8 rfl rfl (Qu.load) (fun Q0 k0 => L.loadEp (xs := v1170) (e := eI) shape3 hF rfl rfl rfl rfl (at?_get hb1195).2 rfl rfl (L.nil k0)) ?_
                refine S.st 9 rfl rfl ((Ca.bin rfl rfl (calm_int _ _ _ _ _ _ _ _)).quiet) (fun Q0 k0 => L.bin hF rfl rfl rfl rfl rfl rfl (L.nil k0)) ?_
                refine S.st 10 rfl rfl ((Ca.move).quiet) (fun Q0 k0 => L.move hF rfl rfl rfl (L.nil k0)) ?_
                refine S.st 11 rfl rfl ((Ca.fieldAddr Try.underlying90 rfl info88 rfl).quiet) (fun Q0 k0 => L.fieldAddr Try.underlying90 rfl info88 rfl hF rfl rfl rfl rfl rfl (L.nil k0)) ?_
                refine S.st 12 rfl rfl (Qu.load) (fun Q0 k0 => L.loadPtr shape88 hF rfl rfl rfl rfl rfl rfl (L.nil k0)) ?_
                refine S.st 13 rfl rfl ((Ca.move).quiet) (fun Q0 k0 => L.move hF rfl rfl rfl (L.nil k0)) ?_
                obtain ⟨b1196, hb1196, H⟩ := bindS H
                refine S.st 14 rfl rfl ((Ca.indexAddr).quiet) (fun Q0 k0 => L.idxR (xs := v1175) (e := eTimpl_Pair) Try.underlying88 info256 hF rfl rfl rfl rfl rfl hb1196 rfl rfl (L.nil k0)) ?_
                refine S.st 15 rfl rfl ((Ca.fieldAddr Try.underlying256 rfl info3 rfl).quiet) (fun Q0 k0 => L.fieldAddr Try.underlying256 rfl info3 rfl hF rfl rfl rfl rfl rfl (L.nil k0)) ?_
                refine S.st 16 rfl rfl (Qu.load) (fun Q0 k0 => L.loadPe shape3 hF rfl rfl rfl rfl rfl (L.nil k0)) ?_
                obtain ⟨b1197, hb1197, H⟩ := bindS H
                refine S.st 17 rfl rfl ((Ca.indexAddr).quiet) (fun Q0 k0 => L.idxR (xs := v1170) (e := eI) Try.underlying24 info3 hF rfl rfl rfl rfl rfl hb1197 rfl rfl (L.nil k0)) ?_
                refine S.st 18 rfl rfl (Qu.load) (fun Q0 k0 => L.loadEp (xs := v1170) (e := eI) shape3 hF rfl rfl rfl rfl (at?_get hb1197).2 rfl rfl (L.nil k0)) ?_
                refine S.st 19 rfl rfl ((Ca.bin rfl rfl (calm_int _ _ _ _ _ _ _ _)).quiet) (fun Q0 k0 => L.bin hF rfl rfl rfl rfl rfl rfl (L.nil k0)) ?_
                refine S.nil ?_
                refine WpC.cond rfl (fun hc => ?_) (fun hc => ?_)
                · replace H := condT hc H
                  obtain ⟨b1198, hb1198, H⟩ := bindS H
                  obtain ⟨b1199, hb1199, H⟩ := bindS H
                  obtain ⟨b1200, hb1200, H⟩ := bindS H
                  obtain ⟨b1201, hb1201, H⟩ := bindS H
                  refine A.begin mixed rfl rfl ?_
                  intro W hI hO
                  have n131071 : W 2 #[true, true, true, true, true, true, true, true, true, true, true, true, true, true, true, true, true, false, false] (mkSt [(2, one (Cell.ptr 0 0)), (5, one (Cell.own 1)), (7, one (cI v1171)), (8, one (cI v1172)), (51, one (Cell.own 1)), (57, one (cI b1198.A)), (67, one (cI (IntKind.i64.wrap (b1200 + (1 : Int)))))] [(1, ⟨1, List.map eI v1170⟩)] [(0, [Cell.sl g0 (List.map eI v1173), Cell.sl g1 (List.map eI v1174), Cell.sl g2 (List.map eTimpl_Pair v1175), Cell.sl g3 (List.map eTimpl_Pair v1176), cI v1177])] 2) := by
                    refine hI _ _ _ ?_
                    refine A.take 17 rfl (by kernel_rfl) (by kernel_rfl) (by kernel_rfl) rfl (Ca.indexAddr) (fun Q0 k0 => L.idxR (xs := v1170) (e := eI) Try.underlying24 info3 hF rfl rfl rfl rfl rfl hb1201 rfl rfl (L.nil k0)) ?_
                    refine A.all [18] (by kernel_rfl) rfl ⟨⟨_, rfl, ?_⟩, trivial⟩
                    refine L.storeEp (xs := v1170) (e := eI) (a' := (IntKind.i64.wrap (b1200 + (1 : Int)))) shape3 hF rfl rfl rfl rfl rfl rfl rfl (at?_get hb1201).2 rfl rfl ?_
                    refine L.nil ?_
                    refine A.le (τ := mkSt [(2, one (Cell.ptr 0 0)), (5, one (Cell.own 1)), (7, one (cI v1171)), (8, one (cI v1172))] [(1, ⟨1, List.map eI (v1170.set b1198.A.toNat (IntKind.i64.wrap (b1200 + (1 : Int))))⟩)] [(0, [Cell.sl g0 (List.map eI v1173), Cell.sl g1 (List.map eI v1174), Cell.sl g2 (List.map eTimpl_Pair v1175), Cell.sl g3 (List.map eTimpl_Pair v1176), cI v1177])] 2) (Le.mk [(0, 0), (1, 1)] hm rfl ⟨⟨_, rfl, rfl⟩, ⟨_, rfl, rfl⟩, ⟨_, rfl, rfl⟩, ⟨_, rfl, rfl⟩, trivial⟩ ⟨⟨_, rfl, rfl⟩, trivial⟩ ⟨⟨_, _, rfl, rfl, rfl⟩, trivial⟩) ?_
                    refine A.done (by kernel_rfl) ?_
                    exact ⟨_, ⟨k51, (v1170.set b1198.A.toNat (IntKind.i64.wrap (b1200 + (1 : Int)))), v1171, v1172, v1173, v1174, v1175, v1176, v1177, by omega, H, rfl⟩, Le.mk [(0, 0), (1, 1)] hm rfl ⟨⟨_, rfl, rfl⟩, ⟨_, rfl, rfl⟩, ⟨_, rfl, rfl⟩, ⟨_, rfl, rfl⟩, trivial⟩ ⟨⟨_, rfl, rfl⟩, trivial⟩ ⟨⟨_, _, rfl, rfl, rfl⟩, trivial⟩⟩
                  have n131007 : W 3 #[true, true, true, true, true, true, false, true, true, true, true, true, true, true, true, true, true, false, false] (mkSt [(2, one (Cell.ptr 0 0)), (5, one (Cell.own 1)), (7, one (cI v1171)), (8, one (cI v1172)), (51, one (Cell.own 1)), (56, one (Cell.pe g2 (eTimpl_Pair b1198) 0)), (67, one (cI (IntKind.i64.wrap (b1200 + (1 : Int)))))] [(1, ⟨1, List.map eI v1170⟩)] [(0, [Cell.sl g0 (List.map eI v1173), Cell.sl g1 (List.map eI v1174), Cell.sl g2 (List.map eTimpl_Pair v1175), Cell.sl g3 (List.map eTimpl_Pair v1176), cI v1177])] 2) := by
                    refine hI _ _ _ ?_
                    refine A.all [6] (by kernel_rfl) rfl ⟨⟨_, rfl, ?_⟩, trivial⟩
                    refine L.loadPe shape3 hF rfl rfl rfl rfl rfl ?_
                    refine L.nil ?_
                    exact A.on (hO _ _ _ n131071) (Le.mk [(0, 0), (1, 1)] hm rfl ⟨⟨_, rfl, rfl⟩, ⟨_, rfl, rfl⟩, ⟨_, rfl, rfl⟩, ⟨_, rfl, rfl⟩, ⟨_, rfl, rfl⟩, ⟨_, rfl, rfl⟩, ⟨_, rfl, rfl⟩, trivial⟩ ⟨⟨_, rfl, rfl⟩, trivial⟩ ⟨⟨_, _, rfl, rfl, rfl⟩, trivial⟩)
                  have n32767 : W 4 #[true, true, true, true, true, true, true, true, true, true, true, true, true, true, true, false, false, false, false] (mkSt [(2, one (Cell.ptr 0 0)), (5, one (Cell.own 1)), (7, one (cI v1171)), (8, one (cI v1172)), (51, one (Cell.own 1)), (57, one (cI b1198.A)), (65, one (Cell.ep 1 b1199.B.toNat 0))] [(1, ⟨1, List.map eI v1170⟩)] [(0, [Cell.sl g0 (List.map eI v1173), Cell.sl g1 (List.map eI v1174), Cell.sl g2 (List.map eTimpl_Pair v1175), Cell.sl g3 (List.map eTimpl_Pair v1176), cI v1177])] 2) := by
                    refine hI _ _ _ ?_
                    refine A.all [15] (by kernel_rfl) rfl ⟨⟨_, rfl, ?_⟩, trivial⟩
                    refine L.loadEp (xs := v1170) (e := eI) shape3 hF rfl rfl rfl rfl (at?_get hb1200).2 rfl rfl ?_
                    refine L.nil ?_
                    refine A.take 16 rfl (by kernel_rfl) (by kernel_rfl) (by kernel_rfl) rfl (Ca.bin rfl rfl (calm_int _ _ _ _ _ _ _ _)) (fun Q0 k0 => L.bin hF rfl rfl rfl rfl rfl rfl (L.nil k0)) ?_
                    exact A.on (hO _ _ _ n131071) (Le.mk [(0, 0), (1, 1)] hm rfl ⟨⟨_, rfl, rfl⟩, ⟨_, rfl, rfl⟩, ⟨_, rfl, rfl⟩, ⟨_, rfl, rfl⟩, ⟨_, rfl, rfl⟩, ⟨_, rfl, rfl⟩, ⟨_, rfl, rfl⟩, trivial⟩ ⟨⟨_, rfl, rfl⟩, trivial⟩ ⟨⟨_, _, rfl, rfl, rfl⟩, trivial⟩)
                  have n32703 : W 5 #[true, true, true, true, true, true, false, true, true, true, true, true, true, true, true, false, false, false, false] (mkSt [(2, one (Cell.ptr 0 0)), (5, one (Cell.own 1)), (7, one (cI v1171)), (8, one (cI v1172)), (51, one (Cell.own 1)), (56, one (Cell.pe g2 (eTimpl_Pair b1198) 0)), (65, one (Cell.ep 1 b1199.B.toNat 0))] [(1, ⟨1, List.map eI v1170⟩)] [(0, [Cell.sl g0 (List.map eI v1173), Cell.sl g1 (List.map eI v1174), Cell.sl g2 (List.map eTimpl_Pair v1175), Cell.sl g3 (List.map eTimpl_Pair v1176), cI v1177])] 2) := by
                    refine hI _ _ _ ?_
                    refine A.all [6, 15] (by kernel_rfl) rfl ⟨⟨_, rfl, ?_⟩, ⟨_, rfl, ?_⟩, trivial⟩
                    · refine L.loadPe shape3 hF rfl rfl rfl rfl rfl ?_
                      refine L.nil ?_
                      exact A.on (hO _ _ _ n32767) (Le.mk [(0, 0), (1, 1)] hm rfl ⟨⟨_, rfl, rfl⟩, ⟨_, rfl, rfl⟩, ⟨_, rfl, rfl⟩, ⟨_, rfl, rfl⟩, ⟨_, rfl, rfl⟩, ⟨_, rfl, rfl⟩, ⟨_, rfl, rfl⟩, trivial⟩ ⟨⟨_, rfl, rfl⟩, trivial⟩ ⟨⟨_, _, rfl, rfl, rfl⟩, trivial⟩)
                    · refine L.loadEp (xs := v1170) (e := eI) shape3 hF rfl rfl rfl rfl (at?_get hb1200).2 rfl rfl ?_
                      refine L.nil ?_
                      refine A.take 16 rfl (by kernel_rfl) (by kernel_rfl) (by kernel_rfl) rfl (Ca.bin rfl rfl (calm_int _ _ _ _ _ _ _ _)) (fun Q0 k0 => L.bin hF rfl rfl rfl rfl rfl rfl (L.nil k0)) ?_
                      exact A.on (hO _ _ _ n131007) (Le.mk [(0, 0), (1, 1)] hm rfl ⟨⟨_, rfl, rfl⟩, ⟨_, rfl, rfl⟩, ⟨_, rfl, rfl⟩, ⟨_, rfl, rfl⟩, ⟨_, rfl, rfl⟩, ⟨_, rfl, rfl⟩, ⟨_, rfl, rfl⟩, trivial⟩ ⟨⟨_, rfl, rfl⟩, trivial⟩ ⟨⟨_, _, rfl, rfl, rfl⟩, trivial⟩)
                  have n8191 : W 6 #[true, true, true, true, true, true, true, true, true, true, true, true, true, false, false, false, false, false, false] (mkSt [(2, one (Cell.ptr 0 0)), (5, one (Cell.own 1)), (7, one (cI v1171)), (8, one (cI v1172)), (51, one (Cell.own 1)), (57, one (cI b1198.A)), (58, one (Cell.own 1)), (63, one (Cell.pe g2 (eTimpl_Pair b1199) 1))] [(1, ⟨1, List.map eI v1170⟩)] [(0, [Cell.sl g0 (List.map eI v1173), Cell.sl g1 (List.map eI v1174), Cell.sl g2 (List.map eTimpl_Pair v1175), Cell.sl g3 (List.map eTimpl_Pair v1176), cI v1177])] 2) := by
                    refine hI _ _ _ ?_
                    refine A.all [13] (by kernel_rfl) rfl ⟨⟨_, rfl, ?_⟩, trivial⟩
                    refine L.loadPe shape3 hF rfl rfl rfl rfl rfl ?_
                    refine L.nil ?_
                    refine A.take 14 rfl (by kernel_rfl) (by kernel_rfl) (by kernel_rfl) rfl (Ca.indexAddr) (fun Q0 k0 => L.idxR (xs := v1170) (e := eI) Try.underlying24 info3 hF rfl rfl rfl rfl rfl hb1200 rfl rfl (L.nil k0)) ?_
                    exact A.on (hO _ _ _ n32767) (Le.mk [(0, 0), (1, 1)] hm rfl ⟨⟨_, rfl, rfl⟩, ⟨_, rfl, rfl⟩, ⟨_, rfl, rfl⟩, ⟨_, rfl, rfl⟩, ⟨_, rfl, rfl⟩, ⟨_, rfl, rfl⟩, ⟨_, rfl, rfl⟩, trivial⟩ ⟨⟨_, rfl, rfl⟩, trivial⟩ ⟨⟨_, _, rfl, rfl, rfl⟩, trivial⟩)
                  have n8127 : W 7 #[true, true, true, true, true, true, false, true, true, true, true, true, true, false, false, false, false, false, false] (mkSt [(2, one (Cell.ptr 0 0)), (5, one (Cell.own 1)), (7, one (cI v1171)), (8, one (cI v1172)), (51, one (Cell.own 1)), (56, one (Cell.pe g2 (eTimpl_Pair b1198) 0)), (58, one (Cell.own 1)), (63, one (Cell.pe g2 (eTimpl_Pair b1199) 1))] [(1, ⟨1, List.map eI v1170⟩)] [(0, [Cell.sl g0 (List.map eI v1173), Cell.sl g1 (List.map eI v1174), Cell.sl g2 (List.map eTimpl_Pair v1175), Cell.sl g3 (List.map eTimpl_Pair v1176), cI v1177])] 2) := by
                    refine hI _ _ _ ?_
                    refine A.all [6, 13] (by kernel_rfl) rfl ⟨⟨_, rfl, ?_⟩, ⟨_, rfl, ?_⟩, trivial⟩
                    · refine L.loadPe shape3 hF rfl rfl rfl rfl rfl ?_
                      refine L.nil ?_
                      exact A.on (hO _ _ _ n8191) (Le.mk [(0, 0), (1, 1)] hm rfl ⟨⟨_, rfl, rfl⟩, ⟨_, rfl, rfl⟩, ⟨_, rfl, rfl⟩, ⟨_, rfl, rfl⟩, ⟨_, rfl, rfl⟩, ⟨_, rfl, rfl⟩, ⟨_, rfl, rfl⟩, ⟨_, rfl, rfl⟩, trivial⟩ ⟨⟨_, rfl, rfl⟩, trivial⟩ ⟨⟨_, _, rfl, rfl, rfl⟩, trivial⟩)
                    · refine L.loadPe shape3 hF rfl rfl rfl rfl rfl ?_
                      refine L.nil ?_
                      refine A.take 14 rfl (by kernel_rfl) (by kernel_rfl) (by kernel_rfl) rfl (Ca.indexAddr) (fun Q0 k0 => L.idxR (xs := v1170) (e := eI) Try.underlying24 info3 hF rfl rfl rfl rfl rfl hb1200 rfl rfl (L.nil k0)) ?_
                      exact A.on (hO _ _ _ n32703) (Le.mk [(0, 0), (1, 1)] hm rfl ⟨⟨_, rfl, rfl⟩, ⟨_, rfl, rfl⟩, ⟨_, rfl, rfl⟩, ⟨_, rfl, rfl⟩, ⟨_, rfl, rfl⟩, ⟨_, rfl, rfl⟩, ⟨_, rfl, rfl⟩, trivial⟩ ⟨⟨_, rfl, rfl⟩, trivial⟩ ⟨⟨_, _, rfl, rfl, rfl⟩, trivial⟩)
                  refine hI _ _ _ ?_
                  refine A.take 0 rfl (by kernel_rfl) (by kernel_rfl) (by kernel_rfl) rfl (Ca.move) (fun Q0 k0 => L.move hF rfl rfl rfl (L.nil k0)) ?_
                  refine A.take 1 rfl (by kernel_rfl) (by kernel_rfl) (by kernel_rfl) rfl (Ca.fieldAddr Try.underlying90 rfl info88 rfl) (fun Q0 k0 => L.fieldAddr Try.underlying90 rfl info88 rfl hF rfl rfl rfl rfl rfl (L.nil k0)) ?_
                  refine A.take 3 rfl (by kernel_rfl) (by kernel_rfl) (by kernel_rfl) rfl (Ca.move) (fun Q0 k0 => L.move hF rfl rfl rfl (L.nil k0)) ?_
                  refine A.take 7 rfl (by kernel_rfl) (by kernel_rfl) (by kernel_rfl) rfl (Ca.move) (fun Q0 k0 => L.move hF rfl rfl rfl (L.nil k0)) ?_
                  refine A.take 8 rfl (by kernel_rfl) (by kernel_rfl) (by kernel_rfl) rfl (Ca.fieldAddr Try.underlying90 rfl info88 rfl) (fun Q0 k0 => L.fieldAddr Try.underlying90 rfl info88 rfl hF rfl rfl rfl rfl rfl (L.nil k0)) ?_
                  refine A.take 10 rfl (by kernel_rfl) (by kernel_rfl) (by kernel_rfl) rfl (Ca.move) (fun Q0 k0 => L.move hF rfl rfl rfl (L.nil k0)) ?_
                  refine A.all [2, 9] (by kernel_rfl) rfl ⟨⟨_, rfl, ?_⟩, ⟨_, rfl, ?_⟩, trivial⟩
                  · refine L.loadPtr shape88 hF rfl rfl rfl rfl rfl rfl ?_
                    refine L.nil ?_
                    refine A.take 4 rfl (by kernel_rfl) (by kernel_rfl) (by kernel_rfl) rfl (Ca.indexAddr) (fun Q0 k0 => L.idxR (xs := v1175) (e := eTimpl_Pair) Try.underlying88 info256 hF rfl rfl rfl rfl rfl hb1198 rfl rfl (L.nil k0)) ?_
                    refine A.take 5 rfl (by kernel_rfl) (by kernel_rfl) (by kernel_rfl) rfl (Ca.fieldAddr Try.underlying256 rfl info3 rfl) (fun Q0 k0 => L.fieldAddr Try.underlying256 rfl info3 rfl hF rfl rfl rfl rfl rfl (L.nil k0)) ?_
                    refine A.all [6, 9] (by kernel_rfl) rfl ⟨⟨_, rfl, ?_⟩, ⟨_, rfl, ?_⟩, trivial⟩
                    · refine L.loadPe shape3 hF rfl rfl rfl rfl rfl ?_
                      refine L.nil ?_
                      refine A.le (τ := mkSt [(2, one (Cell.ptr 0 0)), (5, one (Cell.own 1)), (7, one (cI v1171)), (8, one (cI v1172)), (51, one (Cell.own 1)), (57, one (cI b1198.A)), (58, one (Cell.own 1)), (59, one (Cell.ptr 0 2)), (61, one (cI v1172))] [(1, ⟨1, List.map eI v1170⟩)] [(0, [Cell.sl g0 (List.map eI v1173), Cell.sl g1 (List.map eI v1174), Cell.sl g2 (List.map eTimpl_Pair v1175), Cell.sl g3 (List.map eTimpl_Pair v1176), cI v1177])] 2) (Le.mk [(0, 0), (1, 1)] hm rfl ⟨⟨_, rfl, rfl⟩, ⟨_, rfl, rfl⟩, ⟨_, rfl, rfl⟩, ⟨_, rfl, rfl⟩, ⟨_, rfl, rfl⟩, ⟨_, rfl, rfl⟩, ⟨_, rfl, rfl⟩, ⟨_, rfl, rfl⟩, ⟨_, rfl, rfl⟩, trivial⟩ ⟨⟨_, rfl, rfl⟩, trivial⟩ ⟨⟨_, _, rfl, rfl, rfl⟩, trivial⟩) ?_
                      refine A.all [9] (by kernel_rfl) rfl ⟨⟨_, rfl, ?_⟩, trivial⟩
                      refine L.loadPtr shape88 hF rfl rfl rfl rfl rfl rfl ?_
                      refine L.nil ?_
                      refine A.take 11 rfl (by kernel_rfl) (by kernel_rfl) (by kernel_rfl) rfl (Ca.indexAddr) (fun Q0 k0 => L.idxR (xs := v1175) (e := eTimpl_Pair) Try.underlying88 info256 hF rfl rfl rfl rfl rfl hb1199 rfl rfl (L.nil k0)) ?_
                      refine A.take 12 rfl (by kernel_rfl) (by kernel_rfl) (by kernel_rfl) rfl (Ca.fieldAddr Try.underlying256 rfl info3 rfl) (fun Q0 k0 => L.fieldAddr Try.underlying256 rfl info3 rfl hF rfl rfl rfl rfl rfl (L.nil k0)) ?_
                      exact A.on (hO _ _ _ n8191) (Le.mk [(0, 0), (1, 1)] hm rfl ⟨⟨_, rfl, rfl⟩, ⟨_, rfl, rfl⟩, ⟨_, rfl, rfl⟩, ⟨_, rfl, rfl⟩, ⟨_, rfl, rfl⟩, ⟨_, rfl, rfl⟩, ⟨_, rfl, rfl⟩, ⟨_, rfl, rfl⟩, trivial⟩ ⟨⟨_, rfl, rfl⟩, trivial⟩ ⟨⟨_, _, rfl, rfl, rfl⟩, trivial⟩)
                    · refine L.loadPtr shape88 hF rfl rfl rfl rfl rfl rfl ?_
                      refine L.nil ?_
                      refine A.le (τ := mkSt [(2, one (Cell.ptr 0 0)), (5, one (Cell.own 1)), (7, one (cI v1171)), (8, one (cI v1172)), (51, one (Cell.own 1)), (56, one (Cell.pe g2 (eTimpl_Pair b1198) 0)), (58, one (Cell.own 1)), (60, one (Cell.sl g2 (List.map eTimpl_Pair v1175))), (61, one (cI v1172))] [(1, ⟨1, List.map eI v1170⟩)] [(0, [Cell.sl g0 (List.map eI v1173), Cell.sl g1 (List.map eI v1174), Cell.sl g2 (List.map eTimpl_Pair v1175), Cell.sl g3 (List.map eTimpl_Pair v1176), cI v1177])] 2) (Le.mk [(0, 0), (1, 1)] hm rfl ⟨⟨_, rfl, rfl⟩, ⟨_, rfl, rfl⟩, ⟨_, rfl, rfl⟩, ⟨_, rfl, rfl⟩, ⟨_, rfl, rfl⟩, ⟨_, rfl, rfl⟩, ⟨_, rfl, rfl⟩, ⟨_, rfl, rfl⟩, ⟨_, rfl, rfl⟩, trivial⟩ ⟨⟨_, rfl, rfl⟩, trivial⟩ ⟨⟨_, _, rfl, rfl, rfl⟩, trivial⟩) ?_
                      refine A.take 11 rfl (by kernel_rfl) (by kernel_rfl) (by kernel_rfl) rfl (Ca.indexAddr) (fun Q0 k0 => L.idxR (xs := v1175) (e := eTimpl_Pair) Try.underlying88 info256 hF rfl rfl rfl rfl rfl hb1199 rfl rfl (L.nil k0)) ?_
                      refine A.take 12 rfl (by kernel_rfl) (by kernel_rfl) (by kernel_rfl) rfl (Ca.fieldAddr Try.underlying256 rfl info3 rfl) (fun Q0 k0 => L.fieldAddr Try.underlying256 rfl info3 rfl hF rfl rfl rfl rfl rfl (L.nil k0)) ?_
                      exact A.on (hO _ _ _ n8127) (Le.mk [(0, 0), (1, 1)] hm rfl ⟨⟨_, rfl, rfl⟩, ⟨_, rfl, rfl⟩, ⟨_, rfl, rfl⟩, ⟨_, rfl, rfl⟩, ⟨_, rfl, rfl⟩, ⟨_, rfl, rfl⟩, ⟨_, rfl, rfl⟩, ⟨_, rfl, rfl⟩, trivial⟩ ⟨⟨_, rfl, rfl⟩, trivial⟩ ⟨⟨_, _, rfl, rfl, rfl⟩, trivial⟩)
                  · refine L.loadPtr shape88 hF rfl rfl rfl rfl rfl rfl ?_
                    refine L.nil ?_
                    refine A.take 11 rfl (by kernel_rfl) (by kernel_rfl) (by kernel_rfl) rfl (Ca.indexAddr) (fun Q0 k0 => L.idxR (xs := v1175) (e := eTimpl_Pair) Try.underlying88 info256 hF rfl rfl rfl rfl rfl hb1199 rfl rfl (L.nil k0)) ?_
                    refine A.take 12 rfl (by kernel_rfl) (by kernel_rfl) (by kernel_rfl) rfl (Ca.fieldAddr Try.underlying256 rfl info3 rfl) (fun Q0 k0 => L.fieldAddr Try.underlying256 rfl info3 rfl hF rfl rfl rfl rfl rfl (L.nil k0)) ?_
                    refine A.all [2, 13] (by kernel_rfl) rfl ⟨⟨_, rfl, ?_⟩, ⟨_, rfl, ?_⟩, trivial⟩
                    · refine L.loadPtr shape88 hF rfl rfl rfl rfl rfl rfl ?_
                      refine L.nil ?_
                      refine A.le (τ := mkSt [(2, one (Cell.ptr 0 0)), (5, one (Cell.own 1)), (7, one (cI v1171)), (8, one (cI v1172)), (51, one (Cell.own 1)), (53, one (Cell.sl g2 (List.map eTimpl_Pair v1175))), (54, one (cI v1172)), (58, one (Cell.own 1)), (63, one (Cell.pe g2 (eTimpl_Pair b1199) 1))] [(1, ⟨1, List.map eI v1170⟩)] [(0, [Cell.sl g0 (List.map eI v1173), Cell.sl g1 (List.map eI v1174), Cell.sl g2 (List.map eTimpl_Pair v1175), Cell.sl g3 (List.map eTimpl_Pair v1176), cI v1177])] 2) (Le.mk [(0, 0), (1, 1)] hm rfl ⟨⟨_, rfl, rfl⟩, ⟨_, rfl, rfl⟩, ⟨_, rfl, rfl⟩, ⟨_, rfl, rfl⟩, ⟨_, rfl, rfl⟩, ⟨_, rfl, rfl⟩, ⟨_, rfl, rfl⟩, ⟨_, rfl, rfl⟩, ⟨_, rfl, rfl⟩, trivial⟩ ⟨⟨_, rfl, rfl⟩, trivial⟩ ⟨⟨_, _, rfl, rfl, rfl⟩, trivial⟩) ?_
                      refine A.take 4 rfl (by kernel_rfl) (by kernel_rfl) (by kernel_rfl) rfl (Ca.indexAddr) (fun Q0 k0 => L.idxR (xs := v1175) (e := eTimpl_Pair) Try.underlying88 info256 hF rfl rfl rfl rfl rfl hb1198 rfl rfl (L.nil k0)) ?_
                      refine A.take 5 rfl (by kernel_rfl) (by kernel_rfl) (by kernel_rfl) rfl (Ca.fieldAddr Try.underlying256 rfl info3 rfl) (fun Q0 k0 => L.fieldAddr Try.underlying256 rfl info3 rfl hF rfl rfl rfl rfl rfl (L.nil k0)) ?_
                      exact A.on (hO _ _ _ n8127) (Le.mk [(0, 0), (1, 1)] hm rfl ⟨⟨_, rfl, rfl⟩, ⟨_, rfl, rfl⟩, ⟨_, rfl, rfl⟩, ⟨_, rfl, rfl⟩, ⟨_, rfl, rfl⟩, ⟨_, rfl, rfl⟩, ⟨_, rfl, rfl⟩, ⟨_, rfl, rfl⟩, trivial⟩ ⟨⟨_, rfl, rfl⟩, trivial⟩ ⟨⟨_, _, rfl, rfl, rfl⟩, trivial⟩)
                    · refine L.loadPe shape3 hF rfl rfl rfl rfl rfl ?_
                      refine L.nil ?_
                      refine A.le (τ := mkSt [(2, one (Cell.ptr 0 0)), (5, one (Cell.own 1)), (7, one (cI v1171)), (8, one (cI v1172)), (51, one (Cell.own 1)), (52, one (Cell.ptr 0 2)), (54, one (cI v1172)), (58, one (Cell.own 1)), (64, one (cI b1199.B))] [(1, ⟨1, List.map eI v1170⟩)] [(0, [Cell.sl g0 (List.map eI v1173), Cell.sl g1 (List.map eI v1174), Cell.sl g2 (List.map eTimpl_Pair v1175), Cell.sl g3 (List.map eTimpl_Pair v1176), cI v1177])] 2) (Le.mk [(0, 0), (1, 1)] hm rfl ⟨⟨_, rfl, rfl⟩, ⟨_, rfl, rfl⟩, ⟨_, rfl, rfl⟩, ⟨_, rfl, rfl⟩, ⟨_, rfl, rfl⟩, ⟨_, rfl, rfl⟩, ⟨_, rfl, rfl⟩, ⟨_, rfl, rfl⟩, ⟨_, rfl, rfl⟩, trivial⟩ ⟨⟨_, rfl, rfl⟩, trivial⟩ ⟨⟨_, _, rfl, rfl, rfl⟩, trivial⟩) ?_
                      refine A.take 14 rfl (by kernel_rfl) (by kernel_rfl) (by kernel_rfl) rfl (Ca.indexAddr) (fun Q0 k0 => L.idxR (xs := v1170) (e := eI) Try.underlying24 info3 hF rfl rfl rfl rfl rfl hb1200 rfl rfl (L.nil k0)) ?_
                      refine A.all [2, 15] (by kernel_rfl) rfl ⟨⟨_, rfl, ?_⟩, ⟨_, rfl, ?_⟩, trivial⟩
                      · refine L.loadPtr shape88 hF rfl rfl rfl rfl rfl rfl ?_
                        refine L.nil ?_
                        refine A.take 4 rfl (by kernel_rfl) (by kernel_rfl) (by kernel_rfl) rfl (Ca.indexAddr) (fun Q0 k0 => L.idxR (xs := v1175) (e := eTimpl_Pair) Try.underlying88 info256 hF rfl rfl rfl rfl rfl hb1198 rfl rfl (L.nil k0)) ?_
                        refine A.take 5 rfl (by kernel_rfl) (by kernel_rfl) (by kernel_rfl) rfl (Ca.fieldAddr Try.underlying256 rfl info3 rfl) (fun Q0 k0 => L.fieldAddr Try.underlying256 rfl info3 rfl hF rfl rfl rfl rfl rfl (L.nil k0)) ?_
                        exact A.on (hO _ _ _ n32703) (Le.mk [(0, 0), (1, 1)] hm rfl ⟨⟨_, rfl, rfl⟩, ⟨_, rfl, rfl⟩, ⟨_, rfl, rfl⟩, ⟨_, rfl, rfl⟩, ⟨_, rfl, rfl⟩, ⟨_, rfl, rfl⟩, ⟨_, rfl, rfl⟩, trivial⟩ ⟨⟨_, rfl, rfl⟩, trivial⟩ ⟨⟨_, _, rfl, rfl, rfl⟩, trivial⟩)
                      · refine L.loadEp (xs := v1170) (e := eI) shape3 hF rfl rfl rfl rfl (at?_get hb1200).2 rfl rfl ?_
                        refine L.nil ?_
                        refine A.take 16 rfl (by kernel_rfl) (by kernel_rfl) (by kernel_rfl) rfl (Ca.bin rfl rfl (calm_int _ _ _ _ _ _ _ _)) (fun Q0 k0 => L.bin hF rfl rfl rfl rfl rfl rfl (L.nil k0)) ?_
                        refine A.all [2] (by kernel_rfl) rfl ⟨⟨_, rfl, ?_⟩, trivial⟩
                        refine L.loadPtr shape88 hF rfl rfl rfl rfl rfl rfl ?_
                        refine L.nil ?_
                        refine A.take 4 rfl (by kernel_rfl) (by kernel_rfl) (by kernel_rfl) rfl (Ca.indexAddr) (fun Q0 k0 => L.idxR (xs := v1175) (e := eTimpl_Pair) Try.underlying88 info256 hF rfl rfl rfl rfl rfl hb1198 rfl rfl (L.nil k0)) ?_
                        refine A.take 5 rfl (by kernel_rfl) (by kernel_rfl) (by kernel_rfl) rfl (Ca.fieldAddr Try.underlying256 rfl info3 rfl) (fun Q0 k0 => L.fieldAddr Try.underlying256 rfl info3 rfl hF rfl rfl rfl rfl rfl (L.nil k0)) ?_
                        exact A.on (hO _ _ _ n131007) (Le.mk [(0, 0), (1, 1)] hm rfl ⟨⟨_, rfl, rfl⟩, ⟨_, rfl, rfl⟩, ⟨_, rfl, rfl⟩, ⟨_, rfl, rfl⟩, ⟨_, rfl, rfl⟩, ⟨_, rfl, rfl⟩, ⟨_, rfl, rfl⟩, trivial⟩ ⟨⟨_, rfl, rfl⟩, trivial⟩ ⟨⟨_, _, rfl, rfl, rfl⟩, trivial⟩)
                · replace H := condF hc H
                  refine WpC.skip ?_
                  exact ⟨_, ⟨k51, v1170, v1171, v1172, v1173, v1174, v1175, v1176, v1177, by omega, H, rfl⟩, Le.mk [(0, 0), (1, 1)] hm rfl ⟨⟨_, rfl, rfl⟩, ⟨_, rfl, rfl⟩, ⟨_, rfl, rfl⟩, ⟨_, rfl, rfl⟩, trivial⟩ ⟨⟨_, rfl, rfl⟩, trivial⟩ ⟨⟨_, _, rfl, rfl, rfl⟩, trivial⟩⟩
            · replace H := condF hc H
              refine WpC.exit ?_
              refine WpC.regionL ?_
              refine L.move hF rfl rfl rfl ?_
              refine L.bin hF rfl rfl rfl rfl rfl rfl ?_
              refine L.assign hF rfl rfl rfl ?_
              refine L.nil ?_
              exact ⟨k44, _, by omega, ⟨v1170, (IntKind.i64.wrap (v1171 + (1 : Int))), v1173, v1174, v1175, v1176, v1177, by omega, H, rfl⟩, Le.mk [(0, 0), (1, 1)] hm rfl ⟨⟨_, rfl, rfl⟩, ⟨_, rfl, rfl⟩, ⟨_, rfl, rfl⟩, trivial⟩ ⟨⟨_, rfl, rfl⟩, trivial⟩ ⟨⟨_, _, rfl, rfl, rfl⟩, trivial⟩⟩
        · replace H := condF hc H
          refine WpC.exit ?_
          refine WpC.seq ?_
          refine WpC.regionL ?_
          refine L.move hF rfl rfl rfl ?_
          refine L.assign hF rfl rfl rfl ?_
          refine L.nil ?_
          refine WpC.ret ?_
          cases H
          exact Leaves.ret rfl rfl rfl ⟨rfl, rfl⟩
end Go.Proofs.Ytcolcmjcjpikcaa.M
