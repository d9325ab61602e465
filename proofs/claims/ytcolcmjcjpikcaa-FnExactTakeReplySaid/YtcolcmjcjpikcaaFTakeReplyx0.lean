import Derived.Test.YtcolcmjcjpikcaaMgZc
import Derived.Test.YtcolcmjcjpikcaaProg
namespace Go.Proofs.Ytcolcmjcjpikcaa.M
open Go Go.MG
set_option linter.unusedVariables false
set_option linter.unusedSimpArgs false
structure Timpl_Rest where
  Servers : Int
  Ops : Int
  End : Int
def eTimpl_Rest (x : Timpl_Rest) : List Cell := [cI x.Servers, cI x.Ops, cI x.End]
structure Timpl_Cred where
  Owner : Int
  Client : Int
  Service : Int
  Key : Int
  Rest : Timpl_Rest
  Ticket : List UInt8
def eTimpl_Cred (x : Timpl_Cred) : List Cell := [cI x.Owner, cI x.Client, cI x.Service, cI x.Key, cI x.Rest.Servers, cI x.Rest.Ops, cI x.Rest.End, cS x.Ticket]
structure Timpl_Grant where
  Key : Int
  Service : Int
  Nonce : Int
  Rest : Timpl_Rest
def eTimpl_Grant (x : Timpl_Grant) : List Cell := [cI x.Key, cI x.Service, cI x.Nonce, cI x.Rest.Servers, cI x.Rest.Ops, cI x.Rest.End]
theorem mixed : Try.prog.follows .mixedOrders = true := by kernel_rfl
theorem shape3 : MG.shape Try.prog 3 = some (false, 1) := by kernel_rfl
theorem shape9 : MG.shape Try.prog 9 = some (false, 1) := by kernel_rfl
theorem shape74 : MG.shape Try.prog 74 = some (true, 3) := by kernel_rfl
theorem shape76 : MG.shape Try.prog 76 = some (true, 8) := by kernel_rfl
theorem shape187 : MG.shape Try.prog 187 = some (true, 6) := by kernel_rfl
theorem info3 : Try.prog.info? 3 = some Try.t3 := by kernel_rfl
theorem info5 : Try.prog.info? 5 = some Try.t5 := by kernel_rfl
theorem info9 : Try.prog.info? 9 = some Try.t9 := by kernel_rfl
theorem info74 : Try.prog.info? 74 = some Try.t74 := by kernel_rfl
theorem info76 : Try.prog.info? 76 = some Try.t76 := by kernel_rfl
theorem info187 : Try.prog.info? 187 = some Try.t187 := by kernel_rfl
theorem built74 : builtA Try.prog 74 = fillA (fun x => ([(0, 1), (1, 1), (2, 1)] : List (Nat × Nat))[x]?) [cI (0 : Int), cI (0 : Int), cI (0 : Int)] := by kernel_rfl
theorem built76 : builtA Try.prog 76 = fillA (fun x => ([(0, 1), (1, 1), (2, 1), (3, 1), (4, 3), (7, 1)] : List (Nat × Nat))[x]?) [cI (0 : Int), cI (0 : Int), cI (0 : Int), cI (0 : Int), cI (0 : Int), cI (0 : Int), cI (0 : Int), cS ([] : List UInt8)] := by kernel_rfl
theorem built187 : builtA Try.prog 187 = fillA (fun x => ([(0, 1), (1, 1), (2, 1), (3, 3)] : List (Nat × Nat))[x]?) [cI (0 : Int), cI (0 : Int), cI (0 : Int), cI (0 : Int), cI (0 : Int), cI (0 : Int)] := by kernel_rfl
abbrev bx (a b c d : Int) : List Cell := [cI a, cI b, cI c, cI d]
theorem S3 {π : Nat → Option Nat} {σ : St} {t0 t1 t2 : Nat} {s0 u0 s1 u1 s2 u2 : Slot} (h0 : renS π s0 = some u0) (g0 : σ.slots t0 = some u0) (h1 : renS π s1 = some u1) (g1 : σ.slots t1 = some u1) (h2 : renS π s2 = some u2) (g2 : σ.slots t2 = some u2) : SlotsOk π σ [(t0, s0), (t1, s1), (t2, s2)] := ⟨⟨_, h0, g0⟩, ⟨_, h1, g1⟩, ⟨_, h2, g2⟩, trivial⟩
theorem S4 {π : Nat → Option Nat} {σ : St} {t0 t1 t2 t3 : Nat} {s0 u0 s1 u1 s2 u2 s3 u3 : Slot} (h0 : renS π s0 = some u0) (g0 : σ.slots t0 = some u0) (h1 : renS π s1 = some u1) (g1 : σ.slots t1 = some u1) (h2 : renS π s2 = some u2) (g2 : σ.slots t2 = some u2) (h3 : renS π s3 = some u3) (g3 : σ.slots t3 = some u3) : SlotsOk π σ [(t0, s0), (t1, s1), (t2, s2), (t3, s3)] := ⟨⟨_, h0, g0⟩, ⟨_, h1, g1⟩, ⟨_, h2, g2⟩, ⟨_, h3, g3⟩, trivial⟩
theorem S5 {π : Nat → Option Nat} {σ : St} {t0 t1 t2 t3 t4 : Nat} {s0 u0 s1 u1 s2 u2 s3 u3 s4 u4 : Slot} (h0 : renS π s0 = some u0) (g0 : σ.slots t0 = some u0) (h1 : renS π s1 = some u1) (g1 : σ.slots t1 = some u1) (h2 : renS π s2 = some u2) (g2 : σ.slots t2 = some u2) (h3 : renS π s3 = some u3) (g3 : σ.slots t3 = some u3) (h4 : renS π s4 = some u4) (g4 : σ.slots t4 = some u4) : SlotsOk π σ [(t0, s0), (t1, s1), (t2, s2), (t3, s3), (t4, s4)] := ⟨⟨_, h0, g0⟩, ⟨_, h1, g1⟩, ⟨_, h2, g2⟩, ⟨_, h3, g3⟩, ⟨_, h4, g4⟩, trivial⟩
theorem S6 {π : Nat → Option Nat} {σ : St} {t0 t1 t2 t3 t4 t5 : Nat} {s0 u0 s1 u1 s2 u2 s3 u3 s4 u4 s5 u5 : Slot} (h0 : renS π s0 = some u0) (g0 : σ.slots t0 = some u0) (h1 : renS π s1 = some u1) (g1 : σ.slots t1 = some u1) (h2 : renS π s2 = some u2) (g2 : σ.slots t2 = some u2) (h3 : renS π s3 = some u3) (g3 : σ.slots t3 = some u3) (h4 : renS π s4 = some u4) (g4 : σ.slots t4 = some u4) (h5 : renS π s5 = some u5) (g5 : σ.slots t5 = some u5) : SlotsOk π σ [(t0, s0), (t1, s1), (t2, s2), (t3, s3), (t4, s4), (t5, s5)] := ⟨⟨_, h0, g0⟩, ⟨_, h1, g1⟩, ⟨_, h2, g2⟩, ⟨_, h3, g3⟩, ⟨_, h4, g4⟩, ⟨_, h5, g5⟩, trivial⟩
theorem S7 {π : Nat → Option Nat} {σ : St} {t0 t1 t2 t3 t4 t5 t6 : Nat} {s0 u0 s1 u1 s2 u2 s3 u3 s4 u4 s5 u5 s6 u6 : Slot} (h0 : renS π s0 = some u0) (g0 : σ.slots t0 = some u0) (h1 : renS π s1 = some u1) (g1 : σ.slots t1 = some u1) (h2 : renS π s2 = some u2) (g2 : σ.slots t2 = some u2) (h3 : renS π s3 = some u3) (g3 : σ.slots t3 = some u3) (h4 : renS π s4 = some u4) (g4 : σ.slots t4 = some u4) (h5 : renS π s5 = some u5) (g5 : σ.slots t5 = some u5) (h6 : renS π s6 = some u6) (g6 : σ.slots t6 = some u6) : SlotsOk π σ [(t0, s0), (t1, s1), (t2, s2), (t3, s3), (t4, s4), (t5, s5), (t6, s6)] := ⟨⟨_, h0, g0⟩, ⟨_, h1, g1⟩, ⟨_, h2, g2⟩, ⟨_, h3, g3⟩, ⟨_, h4, g4⟩, ⟨_, h5, g5⟩, ⟨_, h6, g6⟩, trivial⟩
theorem S8 {π : Nat → Option Nat} {σ : St} {t0 t1 t2 t3 t4 t5 t6 t7 : Nat} {s0 u0 s1 u1 s2 u2 s3 u3 s4 u4 s5 u5 s6 u6 s7 u7 : Slot} (h0 : renS π s0 = some u0) (g0 : σ.slots t0 = some u0) (h1 : renS π s1 = some u1) (g1 : σ.slots t1 = some u1) (h2 : renS π s2 = some u2) (g2 : σ.slots t2 = some u2) (h3 : renS π s3 = some u3) (g3 : σ.slots t3 = some u3) (h4 : renS π s4 = some u4) (g4 : σ.slots t4 = some u4) (h5 : renS π s5 = some u5) (g5 : σ.slots t5 = some u5) (h6 : renS π s6 = some u6) (g6 : σ.slots t6 = some u6) (h7 : renS π s7 = some u7) (g7 : σ.slots t7 = some u7) : SlotsOk π σ [(t0, s0), (t1, s1), (t2, s2), (t3, s3), (t4, s4), (t5, s5), (t6, s6), (t7, s7)] := ⟨⟨_, h0, g0⟩, ⟨_, h1, g1⟩, ⟨_, h2, g2⟩, ⟨_, h3, g3⟩, ⟨_, h4, g4⟩, ⟨_, h5, g5⟩, ⟨_, h6, g6⟩, ⟨_, h7, g7⟩, trivial⟩
theorem S9 {π : Nat → Option Nat} {σ : St} {t0 t1 t2 t3 t4 t5 t6 t7 t8 : Nat} {s0 u0 s1 u1 s2 u2 s3 u3 s4 u4 s5 u5 s6 u6 s7 u7 s8 u8 : Slot} (h0 : renS π s0 = some u0) (g0 : σ.slots t0 = some u0) (h1 : renS π s1 = some u1) (g1 : σ.slots t1 = some u1) (h2 : renS π s2 = some u2) (g2 : σ.slots t2 = some u2) (h3 : renS π s3 = some u3) (g3 : σ.slots t3 = some u3) (h4 : renS π s4 = some u4) (g4 : σ.slots t4 = some u4) (h5 : renS π s5 = some u5) (g5 : σ.slots t5 = some u5) (h6 : renS π s6 = some u6) (g6 : σ.slots t6 = some u6) (h7 : renS π s7 = some u7) (g7 : σ.slots t7 = some u7) (h8 : renS π s8 = some u8) (g8 : σ.slots t8 = some u8) : SlotsOk π σ [(t0, s0), (t1, s1), (t2, s2), (t3, s3), (t4, s4), (t5, s5), (t6, s6), (t7, s7), (t8, s8)] := ⟨⟨_, h0, g0⟩, ⟨_, h1, g1⟩, ⟨_, h2, g2⟩, ⟨_, h3, g3⟩, ⟨_, h4, g4⟩, ⟨_, h5, g5⟩, ⟨_, h6, g6⟩, ⟨_, h7, g7⟩, ⟨_, h8, g8⟩, trivial⟩
theorem S10 {π : Nat → Option Nat} {σ : St} {t0 t1 t2 t3 t4 t5 t6 t7 t8 t9 : Nat} {s0 u0 s1 u1 s2 u2 s3 u3 s4 u4 s5 u5 s6 u6 s7 u7 s8 u8 s9 u9 : Slot} (h0 : renS π s0 = some u0) (g0 : σ.slots t0 = some u0) (h1 : renS π s1 = some u1) (g1 : σ.slots t1 = some u1) (h2 : renS π s2 = some u2) (g2 : σ.slots t2 = some u2) (h3 : renS π s3 = some u3) (g3 : σ.slots t3 = some u3) (h4 : renS π s4 = some u4) (g4 : σ.slots t4 = some u4) (h5 : renS π s5 = some u5) (g5 : σ.slots t5 = some u5) (h6 : renS π s6 = some u6) (g6 : σ.slots t6 = some u6) (h7 : renS π s7 = some u7) (g7 : σ.slots t7 = some u7) (h8 : renS π s8 = some u8) (g8 : σ.slots t8 = some u8) (h9 : renS π s9 = some u9) (g9 : σ.slots t9 = some u9) : SlotsOk π σ [(t0, s0), (t1, s1), (t2, s2), (t3, s3), (t4, s4), (t5, s5), (t6, s6), (t7, s7), (t8, s8), (t9, s9)] := ⟨⟨_, h0, g0⟩, ⟨_, h1, g1⟩, ⟨_, h2, g2⟩, ⟨_, h3, g3⟩, ⟨_, h4, g4⟩, ⟨_, h5, g5⟩, ⟨_, h6, g6⟩, ⟨_, h7, g7⟩, ⟨_, h8, g8⟩, ⟨_, h9, g9⟩, trivial⟩
theorem S11 {π : Nat → Option Nat} {σ : St} {t0 t1 t2 t3 t4 t5 t6 t7 t8 t9 t10 : Nat} {s0 u0 s1 u1 s2 u2 s3 u3 s4 u4 s5 u5 s6 u6 s7 u7 s8 u8 s9 u9 s10 u10 : Slot} (h0 : renS π s0 = some u0) (g0 : σ.slots t0 = some u0) (h1 : renS π s1 = some u1) (g1 : σ.slots t1 = some u1) (h2 : renS π s2 = some u2) (g2 : σ.slots t2 = some u2) (h3 : renS π s3 = some u3) (g3 : σ.slots t3 = some u3) (h4 : renS π s4 = some u4) (g4 : σ.slots t4 = some u4) (h5 : renS π s5 = some u5) (g5 : σ.slots t5 = some u5) (h6 : renS π s6 = some u6) (g6 : σ.slots t6 = some u6) (h7 : renS π s7 = some u7) (g7 : σ.slots t7 = some u7) (h8 : renS π s8 = some u8) (g8 : σ.slots t8 = some u8) (h9 : renS π s9 = some u9) (g9 : σ.slots t9 = some u9) (h10 : renS π s10 = some u10) (g10 : σ.slots t10 = some u10) : SlotsOk π σ [(t0, s0), (t1, s1), (t2, s2), (t3, s3), (t4, s4), (t5, s5), (t6, s6), (t7, s7), (t8, s8), (t9, s9), (t10, s10)] := ⟨⟨_, h0, g0⟩, ⟨_, h1, g1⟩, ⟨_, h2, g2⟩, ⟨_, h3, g3⟩, ⟨_, h4, g4⟩, ⟨_, h5, g5⟩, ⟨_, h6, g6⟩, ⟨_, h7, g7⟩, ⟨_, h8, g8⟩, ⟨_, h9, g9⟩, ⟨_, h10, g10⟩, trivial⟩
theorem S12 {π : Nat → Option Nat} {σ : St} {t0 t1 t2 t3 t4 t5 t6 t7 t8 t9 t10 t11 : Nat} {s0 u0 s1 u1 s2 u2 s3 u3 s4 u4 s5 u5 s6 u6 s7 u7 s8 u8 s9 u9 s10 u10 s11 u11 : Slot} (h0 : renS π s0 = some u0) (g0 : σ.slots t0 = some u0) (h1 : renS π s1 = some u1) (g1 : σ.slots t1 = some u1) (h2 : renS π s2 = some u2) (g2 : σ.slots t2 = some u2) (h3 : renS π s3 = some u3) (g3 : σ.slots t3 = some u3) (h4 : renS π s4 = some u4) (g4 : σ.slots t4 = some u4) (h5 : renS π s5 = some u5) (g5 : σ.slots t5 = some u5) (h6 : renS π s6 = some u6) (g6 : σ.slots t6 = some u6) (h7 : renS π s7 = some u7) (g7 : σ.slots t7 = some u7) (h8 : renS π s8 = some u8) (g8 : σ.slots t8 = some u8) (h9 : renS π s9 = some u9) (g9 : σ.slots t9 = some u9) (h10 : renS π s10 = some u10) (g10 : σ.slots t10 = some u10) (h11 : renS π s11 = some u11) (g11 : σ.slots t11 = some u11) : SlotsOk π σ [(t0, s0), (t1, s1), (t2, s2), (t3, s3), (t4, s4), (t5, s5), (t6, s6), (t7, s7), (t8, s8), (t9, s9), (t10, s10), (t11, s11)] := ⟨⟨_, h0, g0⟩, ⟨_, h1, g1⟩, ⟨_, h2, g2⟩, ⟨_, h3, g3⟩, ⟨_, h4, g4⟩, ⟨_, h5, g5⟩, ⟨_, h6, g6⟩, ⟨_, h7, g7⟩, ⟨_, h8, g8⟩, ⟨_, h9, g9⟩, ⟨_, h10, g10⟩, ⟨_, h11, g11⟩, trivial⟩
theorem S13 {π : Nat → Option Nat} {σ : St} {t0 t1 t2 t3 t4 t5 t6 t7 t8 t9 t10 t11 t12 : Nat} {s0 u0 s1 u1 s2 u2 s3 u3 s4 u4 s5 u5 s6 u6 s7 u7 s8 u8 s9 u9 s10 u10 s11 u11 s12 u12 : Slot} (h0 : renS π s0 = some u0) (g0 : σ.slots t0 = some u0) (h1 : renS π s1 = some u1) (g1 : σ.slots t1 = some u1) (h2 : renS π s2 = some u2) (g2 : σ.slots t2 = some u2) (h3 : renS π s3 = some u3) (g3 : σ.slots t3 = some u3) (h4 : renS π s4 = some u4) (g4 : σ.slots t4 = some u4) (h5 : renS π s5 = some u5) (g5 : σ.slots t5 = some u5) (h6 : renS π s6 = some u6) (g6 : σ.slots t6 = some u6) (h7 : renS π s7 = some u7) (g7 : σ.slots t7 = some u7) (h8 : renS π s8 = some u8) (g8 : σ.slots t8 = some u8) (h9 : renS π s9 = some u9) (g9 : σ.slots t9 = some u9) (h10 : renS π s10 = some u10) (g10 : σ.slots t10 = some u10) (h11 : renS π s11 = some u11) (g11 : σ.slots t11 = some u11) (h12 : renS π s12 = some u12) (g12 : σ.slots t12 = some u12) : SlotsOk π σ [(t0, s0), (t1, s1), (t2, s2), (t3, s3), (t4, s4), (t5, s5), (t6, s6), (t7, s7), (t8, s8), (t9, s9), (t10, s10), (t11, s11), (t12, s12)] := ⟨⟨_, h0, g0⟩, ⟨_, h1, g1⟩, ⟨_, h2, g2⟩, ⟨_, h3, g3⟩, ⟨_, h4, g4⟩, ⟨_, h5, g5⟩, ⟨_, h6, g6⟩, ⟨_, h7, g7⟩, ⟨_, h8, g8⟩, ⟨_, h9, g9⟩, ⟨_, h10, g10⟩, ⟨_, h11, g11⟩, ⟨_, h12, g12⟩, trivial⟩
theorem S14 {π : Nat → Option Nat} {σ : St} {t0 t1 t2 t3 t4 t5 t6 t7 t8 t9 t10 t11 t12 t13 : Nat} {s0 u0 s1 u1 s2 u2 s3 u3 s4 u4 s5 u5 s6 u6 s7 u7 s8 u8 s9 u9 s10 u10 s11 u11 s12 u12 s13 u13 : Slot} (h0 : renS π s0 = some u0) (g0 : σ.slots t0 = some u0) (h1 : renS π s1 = some u1) (g1 : σ.slots t1 = some u1) (h2 : renS π s2 = some u2) (g2 : σ.slots t2 = some u2) (h3 : renS π s3 = some u3) (g3 : σ.slots t3 = some u3) (h4 : renS π s4 = some u4) (g4 : σ.slots t4 = some u4) (h5 : renS π s5 = some u5) (g5 : σ.slots t5 = some u5) (h6 : renS π s6 = some u6) (g6 : σ.slots t6 = some u6) (h7 : renS π s7 = some u7) (g7 : σ.slots t7 = some u7) (h8 : renS π s8 = some u8) (g8 : σ.slots t8 = some u8) (h9 : renS π s9 = some u9) (g9 : σ.slots t9 = some u9) (h10 : renS π s10 = some u10) (g10 : σ.slots t10 = some u10) (h11 : renS π s11 = some u11) (g11 : σ.slots t11 = some u11) (h12 : renS π s12 = some u12) (g12 : σ.slots t12 = some u12) (h13 : renS π s13 = some u13) (g13 : σ.slots t13 = some u13) : SlotsOk π σ [(t0, s0), (t1, s1), (t2, s2), (t3, s3), (t4, s4), (t5, s5), (t6, s6), (t7, s7), (t8, s8), (t9, s9), (t10, s10), (t11, s11), (t12, s12), (t13, s13)] := ⟨⟨_, h0, g0⟩, ⟨_, h1, g1⟩, ⟨_, h2, g2⟩, ⟨_, h3, g3⟩, ⟨_, h4, g4⟩, ⟨_, h5, g5⟩, ⟨_, h6, g6⟩, ⟨_, h7, g7⟩, ⟨_, h8, g8⟩, ⟨_, h9, g9⟩, ⟨_, h10, g10⟩, ⟨_, h11, g11⟩, ⟨_, h12, g12⟩, ⟨_, h13, g13⟩, trivial⟩
theorem B2 {π : Nat → Option Nat} {σ : St} {k0 q0 k1 q1 : Nat} {c0 d0 c1 d1 : List Cell} (h0 : π k0 = some q0) (g0 : renCs π c0 = some d0) (e0 : σ.H.boxes q0 = some d0) (h1 : π k1 = some q1) (g1 : renCs π c1 = some d1) (e1 : σ.H.boxes q1 = some d1) : BoxesOk π σ [(k0, c0), (k1, c1)] := ⟨⟨_, _, h0, g0, e0⟩, ⟨_, _, h1, g1, e1⟩, trivial⟩
theorem B3 {π : Nat → Option Nat} {σ : St} {k0 q0 k1 q1 k2 q2 : Nat} {c0 d0 c1 d1 c2 d2 : List Cell} (h0 : π k0 = some q0) (g0 : renCs π c0 = some d0) (e0 : σ.H.boxes q0 = some d0) (h1 : π k1 = some q1) (g1 : renCs π c1 = some d1) (e1 : σ.H.boxes q1 = some d1) (h2 : π k2 = some q2) (g2 : renCs π c2 = some d2) (e2 : σ.H.boxes q2 = some d2) : BoxesOk π σ [(k0, c0), (k1, c1), (k2, c2)] := ⟨⟨_, _, h0, g0, e0⟩, ⟨_, _, h1, g1, e1⟩, ⟨_, _, h2, g2, e2⟩, trivial⟩
theorem B4 {π : Nat → Option Nat} {σ : St} {k0 q0 k1 q1 k2 q2 k3 q3 : Nat} {c0 d0 c1 d1 c2 d2 c3 d3 : List Cell} (h0 : π k0 = some q0) (g0 : renCs π c0 = some d0) (e0 : σ.H.boxes q0 = some d0) (h1 : π k1 = some q1) (g1 : renCs π c1 = some d1) (e1 : σ.H.boxes q1 = some d1) (h2 : π k2 = some q2) (g2 : renCs π c2 = some d2) (e2 : σ.H.boxes q2 = some d2) (h3 : π k3 = some q3) (g3 : renCs π c3 = some d3) (e3 : σ.H.boxes q3 = some d3) : BoxesOk π σ [(k0, c0), (k1, c1), (k2, c2), (k3, c3)] := ⟨⟨_, _, h0, g0, e0⟩, ⟨_, _, h1, g1, e1⟩, ⟨_, _, h2, g2, e2⟩, ⟨_, _, h3, g3, e3⟩, trivial⟩
theorem B5 {π : Nat → Option Nat} {σ : St} {k0 q0 k1 q1 k2 q2 k3 q3 k4 q4 : Nat} {c0 d0 c1 d1 c2 d2 c3 d3 c4 d4 : List Cell} (h0 : π k0 = some q0) (g0 : renCs π c0 = some d0) (e0 : σ.H.boxes q0 = some d0) (h1 : π k1 = some q1) (g1 : renCs π c1 = some d1) (e1 : σ.H.boxes q1 = some d1) (h2 : π k2 = some q2) (g2 : renCs π c2 = some d2) (e2 : σ.H.boxes q2 = some d2) (h3 : π k3 = some q3) (g3 : renCs π c3 = some d3) (e3 : σ.H.boxes q3 = some d3) (h4 : π k4 = some q4) (g4 : renCs π c4 = some d4) (e4 : σ.H.boxes q4 = some d4) : BoxesOk π σ [(k0, c0), (k1, c1), (k2, c2), (k3, c3), (k4, c4)] := ⟨⟨_, _, h0, g0, e0⟩, ⟨_, _, h1, g1, e1⟩, ⟨_, _, h2, g2, e2⟩, ⟨_, _, h3, g3, e3⟩, ⟨_, _, h4, g4, e4⟩, trivial⟩
theorem B6 {π : Nat → Option Nat} {σ : St} {k0 q0 k1 q1 k2 q2 k3 q3 k4 q4 k5 q5 : Nat} {c0 d0 c1 d1 c2 d2 c3 d3 c4 d4 c5 d5 : List Cell} (h0 : π k0 = some q0) (g0 : renCs π c0 = some d0) (e0 : σ.H.boxes q0 = some d0) (h1 : π k1 = some q1) (g1 : renCs π c1 = some d1) (e1 : σ.H.boxes q1 = some d1) (h2 : π k2 = some q2) (g2 : renCs π c2 = some d2) (e2 : σ.H.boxes q2 = some d2) (h3 : π k3 = some q3) (g3 : renCs π c3 = some d3) (e3 : σ.H.boxes q3 = some d3) (h4 : π k4 = some q4) (g4 : renCs π c4 = some d4) (e4 : σ.H.boxes q4 = some d4) (h5 : π k5 = some q5) (g5 : renCs π c5 = some d5) (e5 : σ.H.boxes q5 = some d5) : BoxesOk π σ [(k0, c0), (k1, c1), (k2, c2), (k3, c3), (k4, c4), (k5, c5)] := ⟨⟨_, _, h0, g0, e0⟩, ⟨_, _, h1, g1, e1⟩, ⟨_, _, h2, g2, e2⟩, ⟨_, _, h3, g3, e3⟩, ⟨_, _, h4, g4, e4⟩, ⟨_, _, h5, g5, e5⟩, trivial⟩
/-! ### Fspec_l1In -/
def Fspec_l1In (k : Nat) (a0 : Int) (a1 : Int) (a2 : Int) : Option Bool := cond (decide (a0 ≥ a1)) (some (decide (a0 ≤ a2))) (some false)
theorem ent152 : Enters Try.prog 152 := ⟨Try.f152, Try.func152, rfl, by decide⟩
set_option maxHeartbeats 8000000 in
set_option maxRecDepth 100000 in
theorem Fspec_l1In_gives (k : Nat) (a0 : Int) (a1 : Int) (a2 : Int) (r : Bool) (H : Fspec_l1In k a0 a1 a2 = some r) : Gives Try.prog 152 [V.one (cI a0), V.one (cI a1), V.one (cI a2)] [] [V.one (cL r)] [] := by
  refine Gives.intro Try.func152 rfl rfl rfl rfl ?_
  intro F hF hm
  unfold Fspec_l1In at H
  obtain ⟨K, hK⟩ : ∃ K, k ≤ K := ⟨k, Nat.le_refl k⟩
  refine WpC.seq ?_
  refine WpC.regionL ?_
  refine L.assign hF rfl rfl rfl ?_
  refine L.nil ?_
  refine WpC.seq ?_
  refine WpC.regionL ?_
  refine L.move hF rfl rfl rfl ?_
  refine L.move hF rfl rfl rfl ?_
  refine L.bin hF rfl rfl rfl rfl rfl rfl ?_
  refine L.move hF rfl rfl rfl ?_
  refine L.split (fun hc => ?_) (fun hc => ?_)
  · replace H := condT hc H
    refine L.move hF rfl rfl rfl ?_
    refine L.move hF rfl rfl rfl ?_
    refine L.bin hF rfl rfl rfl rfl rfl rfl ?_
    refine L.pick hF rfl rfl rfl rfl ?_
    refine L.assign hF rfl rfl rfl ?_
    refine L.nil ?_
    refine WpC.ret ?_
    cases H
    exact Leaves.ret rfl rfl rfl ⟨rfl, rfl⟩
  · replace H := condF hc H
    refine L.off hF rfl rfl ?_
    refine L.off hF rfl rfl ?_
    refine L.off hF rfl rfl ?_
    refine L.pick hF rfl rfl rfl rfl ?_
    refine L.assign hF rfl rfl rfl ?_
    refine L.nil ?_
    refine WpC.ret ?_
    cases H
    exact Leaves.ret rfl rfl rfl ⟨rfl, rfl⟩
/-! ### Fspec_Var -/
def Fspec_Var.l2 : Nat → Int → (List UInt8) → Option (List UInt8)
  | 0, _, _ => none
  | k2 + 1, v16, v17 => cond (decide (v16 ≥ (128 : Int))) (cond (decide ((2 * (v17.length + ([(ofI (IntKind.i64.wrap ((128 : Int) + (Int.tmod v16 (128 : Int)))))] : List UInt8).length) + 192) * 1 ≤ 281474976710656)) ((Fspec_Var.l2 k2) (IntKind.i64.wrap (Int.tdiv v16 (128 : Int))) (v17 ++ ([(ofI (IntKind.i64.wrap ((128 : Int) + (Int.tmod v16 (128 : Int)))))] : List UInt8))) none) (cond (decide ((2 * (v17.length + ([(ofI v16)] : List UInt8).length) + 192) * 1 ≤ 281474976710656)) (some (v17 ++ ([(ofI v16)] : List UInt8))) none)
def Fspec_Var (k : Nat) (a0 : Int) : Option (List UInt8) := (Fspec_l1In k a0 (0 : Int) (562949953421311 : Int)).bind fun r2 => cond (!r2) (some ([] : List UInt8)) (Fspec_Var.l2 k a0 ([] : List UInt8))
theorem ent128 : Enters Try.prog 128 := ⟨Try.f128, Try.func128, rfl, by decide⟩
set_option maxHeartbeats 8000000 in
set_option maxRecDepth 100000 in
theorem Fspec_Var_gives (k : Nat) (a0 : Int) (r : List UInt8) (H : Fspec_Var k a0 = some r) : Gives Try.prog 128 [V.one (cI a0)] [] [V.one (cS r)] [] := by
  refine Gives.intro Try.func128 rfl rfl rfl rfl ?_
  intro F hF hm
  unfold Fspec_Var at H
  obtain ⟨K, hK⟩ : ∃ K, k ≤ K := ⟨k, Nat.le_refl k⟩
  refine WpC.seq ?_
  refine WpC.regionL ?_
  refine L.assign hF rfl rfl rfl ?_
  refine L.nil ?_
  refine WpC.seq ?_
  refine WpC.seq ?_
  refine WpC.regionL ?_
  refine L.move hF rfl rfl rfl ?_
  obtain ⟨r2, hr2, H⟩ := bindS H
  refine L.call [false, false, false] [] [] 1 hF rfl rfl rfl ent152 rfl rfl rfl rfl rfl (Fspec_l1In_gives k  a0 (0 : Int) (562949953421311 : Int) r2 hr2) rfl ?_
  refine L.not hF rfl rfl rfl ?_
  refine L.nil ?_
  refine WpC.cond rfl (fun hc => ?_) (fun hc => ?_)
  · replace H := condT hc H
    refine WpC.seq ?_
    refine WpC.regionL ?_
    refine L.assign hF rfl rfl rfl ?_
    refine L.nil ?_
    refine WpC.ret ?_
    cases H
    exact Leaves.ret rfl rfl rfl ⟨rfl, rfl⟩
  · replace H := condF hc H
    refine WpC.skip ?_
    refine WpC.seq ?_
    refine WpC.regionL ?_
    refine L.buildSlice (e := eB) 2 ([] : List UInt8) Try.underlying50 info5 rfl rfl rfl hF rfl rfl rfl rfl rfl rfl rfl rfl ?_
    refine L.assign hF rfl rfl rfl ?_
    refine L.nil ?_
    refine WpC.seq ?_
    refine WpC.block ?_
    refine WpC.loopL (P := Try.prog) (fun n σ => ∃ v16 : Int, ∃ v17 : List UInt8, n ≤ K ∧ Fspec_Var.l2 n v16 v17 = some r ∧ σ = mkSt [(0, one (cI v16)), (3, one (Cell.own 0))] [(0, ⟨1, List.map eB v17⟩)] [] 1) k ⟨_, ⟨a0, ([] : List UInt8), by omega, H, rfl⟩, Le.mk [(0, 2)] hm rfl ⟨⟨_, rfl, rfl⟩, ⟨_, rfl, rfl⟩, trivial⟩ ⟨⟨_, rfl, rfl⟩, trivial⟩ trivial⟩ ?_
    clear H
    rintro k2 _ ⟨v16, v17, hk2, H, rfl⟩
    cases k2 with
    | zero => cases H
    | succ k2 =>
      rw [Fspec_Var.l2] at H
      refine WpC.seq ?_
      refine WpC.seq ?_
      refine WpC.regionL ?_
      refine L.move hF rfl rfl rfl ?_
      refine L.bin hF rfl rfl rfl rfl rfl rfl ?_
      refine L.nil ?_
      refine WpC.cond rfl (fun hc => ?_) (fun hc => ?_)
      · replace H := condT hc H
        refine WpC.skip ?_
        refine WpC.block ?_
        refine WpC.seq ?_
        refine WpC.regionL ?_
        refine L.move hF rfl rfl rfl ?_
        refine L.move hF rfl rfl rfl ?_
        refine L.rem hF rfl rfl rfl rfl (by decide) ?_
        refine L.bin hF rfl rfl rfl rfl rfl rfl ?_
        refine L.toB Try.underlying3 Try.underlying5 hF rfl rfl rfl ?_
        refine L.buildSlice (e := eB) 1 ([(ofI (IntKind.i64.wrap ((128 : Int) + (Int.tmod v16 (128 : Int)))))] : List UInt8) Try.underlying50 info5 rfl rfl rfl hF rfl rfl rfl rfl rfl rfl rfl rfl ?_
        obtain ⟨h18, H⟩ := condG H
        refine L.append (xs := v17) (ys := ([(ofI (IntKind.i64.wrap ((128 : Int) + (Int.tmod v16 (128 : Int)))))] : List UInt8)) (e := eB) 2 Try.underlying50 info5 rfl rfl hF rfl rfl rfl rfl rfl rfl rfl rfl (fun _ => rfl) (fun _ _ h1 h2 => by cases h1; cases h2; rfl) ⟨_, Try.underlying50⟩ (of_decide_eq_true h18) rfl rfl ?_
        refine L.assign hF rfl rfl rfl ?_
        refine L.nil ?_
        refine WpC.regionL ?_
        refine L.move hF rfl rfl rfl ?_
        refine L.quo hF rfl rfl rfl rfl (by decide) ?_
        refine L.assign hF rfl rfl rfl ?_
        refine L.nil ?_
        exact ⟨k2, _, by omega, ⟨(IntKind.i64.wrap (Int.tdiv v16 (128 : Int))), (v17 ++ ([(ofI (IntKind.i64.wrap ((128 : Int) + (Int.tmod v16 (128 : Int)))))] : List UInt8)), by omega, H, rfl⟩, Le.mk [(0, 2)] hm rfl ⟨⟨_, rfl, rfl⟩, ⟨_, rfl, rfl⟩, trivial⟩ ⟨⟨_, rfl, rfl⟩, trivial⟩ trivial⟩
      · replace H := condF hc H
        refine WpC.exit ?_
        refine WpC.seq ?_
        refine WpC.regionL ?_
        refine L.move hF rfl rfl rfl ?_
        refine L.move hF rfl rfl rfl ?_
        refine L.toB Try.underlying3 Try.underlying5 hF rfl rfl rfl ?_
        refine L.buildSlice (e := eB) 1 ([(ofI v16)] : List UInt8) Try.underlying50 info5 rfl rfl rfl hF rfl rfl rfl rfl rfl rfl rfl rfl ?_
        obtain ⟨h19, H⟩ := condG H
        refine L.append (xs := v17) (ys := ([(ofI v16)] : List UInt8)) (e := eB) 2 Try.underlying50 info5 rfl rfl hF rfl rfl rfl rfl rfl rfl rfl rfl (fun _ => rfl) (fun _ _ h1 h2 => by cases h1; cases h2; rfl) ⟨_, Try.underlying50⟩ (of_decide_eq_true h19) rfl rfl ?_
        refine L.b2s (xs := (v17 ++ ([(ofI v16)] : List UInt8))) Try.underlying50 Try.underlying5 Try.underlying9 hF rfl rfl rfl rfl ?_
        refine L.assign hF rfl rfl rfl ?_
        refine L.nil ?_
        refine WpC.ret ?_
        cases H
        exact Leaves.ret rfl rfl rfl ⟨rfl, rfl⟩
/-! ### Fspec_ReadVar -/
def Fspec_ReadVar.l26 (cl22 : (List UInt8) → Int → Option (Int × Int)) : Nat → (List UInt8) → Int → Int → Int → Int → Bool → Option (Int × Int)
  | 0, _, _, _, _, _, _ => none
  | k26 + 1, v553, v554, v555, v556, v557, v558 => cond (decide (v556 ≥ (0 : Int))) ((at? v553 v556).bind fun b560 => (Fspec_ReadVar.l26 cl22 k26) v553 v554 (IntKind.i64.wrap ((IntKind.i64.wrap (v555 * (128 : Int))) + (Int.tmod (b560.toNat : Int) (128 : Int)))) (IntKind.i64.wrap (v556 - (1 : Int))) v557 v558) ((Fspec_Var k26 v555).bind fun r561 => (cut? v553 (0 : Int) v554).bind fun b562 => cond (r561 == b562) (some (v555, v554)) (cl22 v553 (IntKind.i64.wrap (v554 + (1 : Int)))))
def Fspec_ReadVar.l22 : Nat → (List UInt8) → Int → Option (Int × Int)
  | 0, _, _ => none
  | k22 + 1, v465, v466 => cond (decide (v466 ≤ (7 : Int))) (cond (decide (v466 ≤ (v465.length : Int))) (Fspec_ReadVar.l26 (Fspec_ReadVar.l22 k22) k22 v465 v466 (0 : Int) (IntKind.i64.wrap (v466 - (1 : Int))) (v465.length : Int) (decide (v466 ≤ (v465.length : Int)))) (some ((0 : Int), (0 : Int)))) (some ((0 : Int), (0 : Int)))
def Fspec_ReadVar (k : Nat) (a0 : List UInt8) : Option (Int × Int) := Fspec_ReadVar.l22 k a0 (1 : Int)
theorem ent216 : Enters Try.prog 216 := ⟨Try.f216, Try.func216, rfl, by decide⟩
set_option maxHeartbeats 8000000 in
set_option maxRecDepth 100000 in
theorem Fspec_ReadVar_gives (k : Nat) (a0 : List UInt8) (r : Int × Int) (H : Fspec_ReadVar k a0 = some r) : Gives Try.prog 216 [V.one (cS a0)] [] [V.one (cI r.1), V.one (cI r.2)] [] := by
  refine Gives.intro Try.func216 rfl rfl rfl rfl ?_
  intro F hF hm
  unfold Fspec_ReadVar at H
  obtain ⟨K, hK⟩ : ∃ K, k ≤ K := ⟨k, Nat.le_refl k⟩
  refine WpC.seq ?_
  refine WpC.regionL ?_
  refine L.assign hF rfl rfl rfl ?_
  refine L.assign hF rfl rfl rfl ?_
  refine L.nil ?_
  refine WpC.seq ?_
  refine WpC.seq ?_
  refine WpC.regionL ?_
  refine L.assign hF rfl rfl rfl ?_
  refine L.nil ?_
  refine WpC.block ?_
  refine WpC.loopL (P := Try.prog) (fun n σ => ∃ v465 : List UInt8, ∃ v466 : Int, n ≤ K ∧ Fspec_ReadVar.l22 n v465 v466 = some r ∧ σ = mkSt [(0, one (cS v465)), (4, one (cI v466))] [] [] 0) k ⟨_, ⟨a0, (1 : Int), by omega, H, rfl⟩, Le.mk [] hm rfl ⟨⟨_, rfl, rfl⟩, ⟨_, rfl, rfl⟩, trivial⟩ trivial trivial⟩ ?_
  clear H
  rintro k22 _ ⟨v465, v466, hk22, H, rfl⟩
  cases k22 with
  | zero => cases H
  | succ k22 =>
    rw [Fspec_ReadVar.l22] at H
    refine WpC.seq ?_
    refine WpC.seq ?_
    refine WpC.regionL ?_
    refine L.move hF rfl rfl rfl ?_
    refine L.bin hF rfl rfl rfl rfl rfl rfl ?_
    refine L.move hF rfl rfl rfl ?_
    refine L.split (fun hc => ?_) (fun hc => ?_)
    · replace H := condT hc H
      refine L.move hF rfl rfl rfl ?_
      refine L.move hF rfl rfl rfl ?_
      refine L.lenS Try.underlying9 hF rfl rfl rfl ?_
      refine L.bin hF rfl rfl rfl rfl rfl rfl ?_
      refine L.pick hF rfl rfl rfl rfl ?_
      refine L.nil ?_
      refine WpC.cond rfl (fun hc => ?_) (fun hc => ?_)
      · replace H := condT hc H
        refine WpC.skip ?_
        refine WpC.seq ?_
        refine WpC.block ?_
        refine WpC.seq ?_
        refine WpC.regionL ?_
        refine L.assign hF rfl rfl rfl ?_
        refine L.nil ?_
        refine WpC.seq ?_
        refine WpC.seq ?_
        refine WpC.regionL ?_
        refine L.move hF rfl rfl rfl ?_
        refine L.bin hF rfl rfl rfl rfl rfl rfl ?_
        refine L.assign hF rfl rfl rfl ?_
        refine L.nil ?_
        refine WpC.block ?_
        refine WpC.loopL (P := Try.prog) (fun n σ => ∃ v553 : List UInt8, ∃ v554 : Int, ∃ v555 : Int, ∃ v556 : Int, ∃ v557 : Int, ∃ v558 : Bool, n ≤ K ∧ Fspec_ReadVar.l26 (Fspec_ReadVar.l22 k22) n v553 v554 v555 v556 v557 v558 = some r ∧ σ = mkSt [(0, one (cS v553)), (4, one (cI v554)), (5, one (cI v555)), (6, one (cI v556)), (10, one (cI v554)), (11, one (cS v553)), (12, one (cI v557)), (13, one (cL v558))] [] [] 0) k22 ⟨_, ⟨v465, v466, (0 : Int), (IntKind.i64.wrap (v466 - (1 : Int))), (v465.length : Int), (decide (v466 ≤ (v465.length : Int))), by omega, H, rfl⟩, Le.mk [] hm rfl ⟨⟨_, rfl, rfl⟩, ⟨_, rfl, rfl⟩, ⟨_, rfl, rfl⟩, ⟨_, rfl, rfl⟩, ⟨_, rfl, rfl⟩, ⟨_, rfl, rfl⟩, ⟨_, rfl, rfl⟩, ⟨_, rfl, rfl⟩, trivial⟩ trivial trivial⟩ ?_
        clear H
        rintro k26 _ ⟨v553, v554, v555, v556, v557, v558, hk26, H, rfl⟩
        cases k26 with
        | zero => cases H
        | succ k26 =>
          rw [Fspec_ReadVar.l26] at H
          refine WpC.seq ?_
          refine WpC.seq ?_
          refine WpC.regionL ?_
          refine L.move hF rfl rfl rfl ?_
          refine L.bin hF rfl rfl rfl rfl rfl rfl ?_
          refine L.nil ?_
          refine WpC.cond rfl (fun hc => ?_) (fun hc => ?_)
          · replace H := condT hc H
            refine WpC.skip ?_
            refine WpC.seq ?_
            refine WpC.block ?_
            refine WpC.regionL ?_
            refine L.move hF rfl rfl rfl ?_
            refine L.bin hF rfl rfl rfl rfl rfl rfl ?_
            refine L.move hF rfl rfl rfl ?_
            refine L.move hF rfl rfl rfl ?_
            obtain ⟨b560, hb560, H⟩ := bindS H
            refine L.idxS Try.underlying9 hF rfl rfl rfl rfl hb560 ?_
            refine L.ofB Try.underlying5 Try.underlying3 hF rfl rfl rfl ?_
            refine L.rem hF rfl rfl rfl rfl (by decide) ?_
            refine L.bin hF rfl rfl rfl rfl rfl rfl ?_
            refine L.assign hF rfl rfl rfl ?_
            refine L.nil ?_
            refine WpC.regionL ?_
            refine L.move hF rfl rfl rfl ?_
            refine L.bin hF rfl rfl rfl rfl rfl rfl ?_
            refine L.assign hF rfl rfl rfl ?_
            refine L.nil ?_
            exact ⟨k26, _, by omega, ⟨v553, v554, (IntKind.i64.wrap ((IntKind.i64.wrap (v555 * (128 : Int))) + (Int.tmod (b560.toNat : Int) (128 : Int)))), (IntKind.i64.wrap (v556 - (1 : Int))), v557, v558, by omega, H, rfl⟩, Le.mk [] hm rfl ⟨⟨_, rfl, rfl⟩, ⟨_, rfl, rfl⟩, ⟨_, rfl, rfl⟩, ⟨_, rfl, rfl⟩, ⟨_, rfl, rfl⟩, ⟨_, rfl, rfl⟩, ⟨_, rfl, rfl⟩, ⟨_, rfl, rfl⟩, trivial⟩ trivial trivial⟩
          · replace H := condF hc H
            refine WpC.exit ?_
            refine WpC.seq ?_
            obtain ⟨r561, hr561, H⟩ := bindS H
            obtain ⟨b562, hb562, H⟩ := bindS H
            refine A.begin mixed rfl rfl ?_
            intro W hI hO
            have n63 : W 0 #[true, true, true, true, true, true] (mkSt [(0, one (cS v553)), (4, one (cI v554)), (5, one (cI v555)), (10, one (cI v554)), (11, one (cS v553)), (12, one (cI v557)), (13, one (cL v558)), (36, one (cL (r561 == b562)))] [] [] 0) := by
              refine hI _ _ _ (A.done (by kernel_rfl) ?_)
              refine WpC.cond rfl (fun hc => ?_) (fun hc => ?_)
              · replace H := condT hc H
                refine WpC.seq ?_
                refine WpC.regionL ?_
                refine L.move hF rfl rfl rfl ?_
                refine L.move hF rfl rfl rfl ?_
                refine L.assign hF rfl rfl rfl ?_
                refine L.assign hF rfl rfl rfl ?_
                refine L.nil ?_
                refine WpC.ret ?_
                cases H
                exact Leaves.ret rfl rfl rfl ⟨rfl, rfl⟩
              · replace H := condF hc H
                refine WpC.skip ?_
                refine WpC.regionL ?_
                refine L.move hF rfl rfl rfl ?_
                refine L.bin hF rfl rfl rfl rfl rfl rfl ?_
                refine L.assign hF rfl rfl rfl ?_
                refine L.nil ?_
                exact ⟨k22, _, by omega, ⟨v553, (IntKind.i64.wrap (v554 + (1 : Int))), by omega, H, rfl⟩, Le.mk [] hm rfl ⟨⟨_, rfl, rfl⟩, ⟨_, rfl, rfl⟩, trivial⟩ trivial trivial⟩
            have n31 : W 1 #[true, true, true, true, true, false] (mkSt [(0, one (cS v553)), (4, one (cI v554)), (5, one (cI v555)), (10, one (cI v554)), (11, one (cS v553)), (12, one (cI v557)), (13, one (cL v558)), (32, one (cS r561)), (35, one (cS b562))] [] [] 0) := by
              refine hI _ _ _ ?_
              refine A.take 5 rfl (by kernel_rfl) (by kernel_rfl) (by kernel_rfl) rfl (Ca.bin rfl rfl (calm_str _ _ _ _ _ _)) (fun Q0 k0 => L.binS hF rfl rfl rfl rfl rfl (L.nil k0)) ?_
              exact A.on (hO _ _ _ n63) (Le.mk [] hm rfl ⟨⟨_, rfl, rfl⟩, ⟨_, rfl, rfl⟩, ⟨_, rfl, rfl⟩, ⟨_, rfl, rfl⟩, ⟨_, rfl, rfl⟩, ⟨_, rfl, rfl⟩, ⟨_, rfl, rfl⟩, ⟨_, rfl, rfl⟩, trivial⟩ trivial trivial)
            have n29 : W 2 #[true, false, true, true, true, false] (mkSt [(0, one (cS v553)), (4, one (cI v554)), (5, one (cI v555)), (10, one (cI v554)), (11, one (cS v553)), (12, one (cI v557)), (13, one (cL v558)), (31, one (cI v555)), (35, one (cS b562))] [] [] 0) := by
              refine hI _ _ _ ?_
              refine A.all [1] (by kernel_rfl) rfl ⟨⟨_, rfl, ?_⟩, trivial⟩
              · refine L.call [false] [] [] 0 hF rfl rfl rfl ent128 rfl rfl rfl rfl rfl (Fspec_Var_gives k26  v555 r561 hr561) rfl ?_
                refine L.nil ?_
                exact A.on (hO _ _ _ n31) (Le.mk [] hm rfl ⟨⟨_, rfl, rfl⟩, ⟨_, rfl, rfl⟩, ⟨_, rfl, rfl⟩, ⟨_, rfl, rfl⟩, ⟨_, rfl, rfl⟩, ⟨_, rfl, rfl⟩, ⟨_, rfl, rfl⟩, ⟨_, rfl, rfl⟩, ⟨_, rfl, rfl⟩, trivial⟩ trivial trivial)
            have n13 : W 3 #[true, false, true, true, false, false] (mkSt [(0, one (cS v553)), (4, one (cI v554)), (5, one (cI v555)), (10, one (cI v554)), (11, one (cS v553)), (12, one (cI v557)), (13, one (cL v558)), (31, one (cI v555)), (33, one (cS v553)), (34, one (cI v554))] [] [] 0) := by
              refine hI _ _ _ ?_
              refine A.take 4 rfl (by kernel_rfl) (by kernel_rfl) (by kernel_rfl) rfl (Ca.slice) (fun Q0 k0 => L.cutS Try.underlying9 hF rfl rfl rfl rfl rfl hb562 (L.nil k0)) ?_
              exact A.on (hO _ _ _ n29) (Le.mk [] hm rfl ⟨⟨_, rfl, rfl⟩, ⟨_, rfl, rfl⟩, ⟨_, rfl, rfl⟩, ⟨_, rfl, rfl⟩, ⟨_, rfl, rfl⟩, ⟨_, rfl, rfl⟩, ⟨_, rfl, rfl⟩, ⟨_, rfl, rfl⟩, ⟨_, rfl, rfl⟩, trivial⟩ trivial trivial)
            have n5 : W 4 #[true, false, true, false, false, false] (mkSt [(0, one (cS v553)), (4, one (cI v554)), (5, one (cI v555)), (10, one (cI v554)), (11, one (cS v553)), (12, one (cI v557)), (13, one (cL v558)), (31, one (cI v555)), (33, one (cS v553))] [] [] 0) := by
              refine hI _ _ _ ?_
              refine A.take 3 rfl (by kernel_rfl) (by kernel_rfl) (by kernel_rfl) rfl (Ca.move) (fun Q0 k0 => L.move hF rfl rfl rfl (L.nil k0)) ?_
              exact A.on (hO _ _ _ n13) (Le.mk [] hm rfl ⟨⟨_, rfl, rfl⟩, ⟨_, rfl, rfl⟩, ⟨_, rfl, rfl⟩, ⟨_, rfl, rfl⟩, ⟨_, rfl, rfl⟩, ⟨_, rfl, rfl⟩, ⟨_, rfl, rfl⟩, ⟨_, rfl, rfl⟩, ⟨_, rfl, rfl⟩, ⟨_, rfl, rfl⟩, trivial⟩ trivial trivial)
            have n1 : W 5 #[true, false, false, false, false, false] (mkSt [(0, one (cS v553)), (4, one (cI v554)), (5, one (cI v555)), (10, one (cI v554)), (11, one (cS v553)), (12, one (cI v557)), (13, one (cL v558)), (31, one (cI v555))] [] [] 0) := by
              refine hI _ _ _ ?_
              refine A.take 2 rfl (by kernel_rfl) (by kernel_rfl) (by kernel_rfl) rfl (Ca.move) (fun Q0 k0 => L.move hF rfl rfl rfl (L.nil k0)) ?_
              exact A.on (hO _ _ _ n5) (Le.mk [] hm rfl ⟨⟨_, rfl, rfl⟩, ⟨_, rfl, rfl⟩, ⟨_, rfl, rfl⟩, ⟨_, rfl, rfl⟩, ⟨_, rfl, rfl⟩, ⟨_, rfl, rfl⟩, ⟨_, rfl, rfl⟩, ⟨_, rfl, rfl⟩, ⟨_, rfl, rfl⟩, trivial⟩ trivial trivial)
            have n0 : W 6 #[false, false, false, false, false, false] (mkSt [(0, one (cS v553)), (4, one (cI v554)), (5, one (cI v555)), (10, one (cI v554)), (11, one (cS v553)), (12, one (cI v557)), (13, one (cL v558))] [] [] 0) := by
              refine hI _ _ _ ?_
              refine A.take 0 rfl (by kernel_rfl) (by kernel_rfl) (by kernel_rfl) rfl (Ca.move) (fun Q0 k0 => L.move hF rfl rfl rfl (L.nil k0)) ?_
              exact A.on (hO _ _ _ n1) (Le.mk [] hm rfl ⟨⟨_, rfl, rfl⟩, ⟨_, rfl, rfl⟩, ⟨_, rfl, rfl⟩, ⟨_, rfl, rfl⟩, ⟨_, rfl, rfl⟩, ⟨_, rfl, rfl⟩, ⟨_, rfl, rfl⟩, ⟨_, rfl, rfl⟩, trivial⟩ trivial trivial)
            exact hI _ _ _ (A.on (hO _ _ _ n0) (Le.mk [] hm rfl ⟨⟨_, rfl, rfl⟩, ⟨_, rfl, rfl⟩, ⟨_, rfl, rfl⟩, ⟨_, rfl, rfl⟩, ⟨_, rfl, rfl⟩, ⟨_, rfl, rfl⟩, ⟨_, rfl, rfl⟩, trivial⟩ trivial trivial))
      · replace H := condF hc H
        refine WpC.exit ?_
        refine WpC.seq ?_
        refine WpC.regionL ?_
        refine L.assign hF rfl rfl rfl ?_
        refine L.assign hF rfl rfl rfl ?_
        refine L.nil ?_
        refine WpC.ret ?_
        cases H
        exact Leaves.ret rfl rfl rfl ⟨rfl, rfl⟩
    · replace H := condF hc H
      refine L.off hF rfl rfl ?_
      refine L.off hF rfl rfl ?_
      refine L.off hF rfl rfl ?_
      refine L.off hF rfl rfl ?_
      refine L.pick hF rfl rfl rfl rfl ?_
      refine L.nil ?_
      refine WpC.cond rfl (fun hc => by cases hc) (fun _ => ?_)
      refine WpC.exit ?_
      refine WpC.seq ?_
      refine WpC.regionL ?_
      refine L.assign hF rfl rfl rfl ?_
      refine L.assign hF rfl rfl rfl ?_
      refine L.nil ?_
      refine WpC.ret ?_
      cases H
      exact Leaves.ret rfl rfl rfl ⟨rfl, rfl⟩
/-! ### Fspec_l2Term -/
def Fspec_l2Term.j16 (cl15 : (List UInt8) → Int → Int → Int → Int → Int → Int → Option (Int × Int)) (k : Nat) (v191 : List UInt8) (v192 : Int) (v193 : Int) (v194 : Int) (v195 : Int) (v196 : Int) (v197 : Int) : Option (Int × Int) := cl15 v191 v192 v193 v194 v195 v196 (IntKind.i64.wrap (v197 + (1 : Int)))
def Fspec_l2Term.l15 (cREC : (List UInt8) → Int → Int → Option (Int × Int)) : Nat → (List UInt8) → Int → Int → Int → Int → Int → Int → Option (Int × Int)
  | 0, _, _, _, _, _, _, _ => none
  | k15 + 1, v183, v184, v185, v186, v187, v188, v189 => cond (decide (v189 < v186)) ((cREC v183 v187 (IntKind.i64.wrap (v185 - (1 : Int)))).bind fun r198 => cond (r198.1 == (0 : Int)) (some ((0 : Int), (0 : Int))) (cond (decide (r198.2 > v188)) (Fspec_l2Term.j16 (Fspec_l2Term.l15 cREC k15) k15 v183 v184 v185 v186 (IntKind.i64.wrap (v187 + r198.1)) r198.2 v189) (Fspec_l2Term.j16 (Fspec_l2Term.l15 cREC k15) k15 v183 v184 v185 v186 (IntKind.i64.wrap (v187 + r198.1)) v188 v189))) (some ((IntKind.i64.wrap (v187 - v184)), (IntKind.i64.wrap ((1 : Int) + v188))))
def Fspec_l2Term : Nat → (List UInt8) → Int → Int → Option (Int × Int)
  | 0, _, _, _ => none
  | k + 1, a0, a1, a2 => cond (decide (a1 ≥ (a0.length : Int))) (some ((0 : Int), (0 : Int))) (cond (decide (a2 < (1 : Int))) (some ((0 : Int), (0 : Int))) ((cut? a0 (IntKind.i64.wrap (a1 + (1 : Int))) (a0.length : Int)).bind fun b1 => (Fspec_ReadVar k b1).bind fun r2 => cond (r2.2 == (0 : Int)) (some ((0 : Int), (0 : Int))) ((at? a0 a1).bind fun b101 => cond (b101 == (97 : UInt8)) (cond (decide (r2.1 > (40 : Int))) (some ((0 : Int), (0 : Int))) (cond (decide (r2.1 > (IntKind.i64.wrap ((a0.length : Int) - (IntKind.i64.wrap ((IntKind.i64.wrap (a1 + (1 : Int))) + r2.2)))))) (some ((0 : Int), (0 : Int))) (some ((IntKind.i64.wrap ((IntKind.i64.wrap ((1 : Int) + r2.2)) + r2.1)), (1 : Int))))) (cond (b101 == (107 : UInt8)) ((Fspec_l1In k r2.1 (1 : Int) (1000000 : Int)).bind fun r103 => cond (!r103) (some ((0 : Int), (0 : Int))) (some ((IntKind.i64.wrap ((1 : Int) + r2.2)), (1 : Int)))) (cond (b101 == (115 : UInt8)) (((Fspec_l2Term k) a0 (IntKind.i64.wrap ((IntKind.i64.wrap (a1 + (1 : Int))) + r2.2)) (IntKind.i64.wrap (a2 - (1 : Int)))).bind fun r104 => cond (r104.1 == (0 : Int)) (some ((0 : Int), (0 : Int))) ((Fspec_l1In k r2.1 (1 : Int) (1000000 : Int)).bind fun r108 => cond (!r108) (some ((0 : Int), (0 : Int))) (some ((IntKind.i64.wrap ((IntKind.i64.wrap ((1 : Int) + r2.2)) + r104.1)), (IntKind.i64.wrap ((1 : Int) + r104.2)))))) (cond (b101 == (108 : UInt8)) (cond (decide (r2.1 > (12 : Int))) (some ((0 : Int), (0 : Int))) (Fspec_l2Term.l15 (Fspec_l2Term k) k a0 a1 a2 r2.1 (IntKind.i64.wrap ((IntKind.i64.wrap (a1 + (1 : Int))) + r2.2)) (0 : Int) (0 : Int))) (some ((0 : Int), (0 : Int)))))))))
theorem ent230 : Enters Try.prog 230 := ⟨Try.f230, Try.func230, rfl, by decide⟩
set_option maxHeartbeats 8000000 in
set_option maxRecDepth 100000 in
theorem Fspec_l2Term_gives : ∀ (k : Nat) (a0 : List UInt8) (a1 : Int) (a2 : Int) (r : Int × Int) (H : Fspec_l2Term k a0 a1 a2 = some r), Gives Try.prog 230 [V.one (cS a0), V.one (cI a1), V.one (cI a2)] [] [V.one (cI r.1), V.one (cI r.2)] [] := by
  intro k
  induction k with
  | zero => intros; rename_i H; cases H
  | succ k ih =>
    intro a0 a1 a2 r H
    refine Gives.intro Try.func230 rfl rfl rfl rfl ?_
    intro F hF hm
    rw [Fspec_l2Term] at H
    obtain ⟨K, hK⟩ : ∃ K, k ≤ K := ⟨k, Nat.le_refl k⟩
    refine WpC.seq ?_
    refine WpC.regionL ?_
    refine L.assign hF rfl rfl rfl ?_
    refine L.assign hF rfl rfl rfl ?_
    refine L.nil ?_
    refine WpC.seq ?_
    refine WpC.seq ?_
    refine WpC.regionL ?_
    refine L.move hF rfl rfl rfl ?_
    refine L.move hF rfl rfl rfl ?_
    refine L.lenS Try.underlying9 hF rfl rfl rfl ?_
    refine L.bin hF rfl rfl rfl rfl rfl rfl ?_
    refine L.move hF rfl rfl rfl ?_
    refine L.split (fun hc => ?_) (fun hc => ?_)
    · replace H := condT hc H
      refine L.off hF rfl rfl ?_
      refine L.off hF rfl rfl ?_
      refine L.pick hF rfl rfl rfl rfl ?_
      refine L.nil ?_
      refine WpC.cond rfl (fun _ => ?_) (fun hc => by cases hc)
      refine WpC.seq ?_
      refine WpC.regionL ?_
      refine L.assign hF rfl rfl rfl ?_
      refine L.assign hF rfl rfl rfl ?_
      refine L.nil ?_
      refine WpC.ret ?_
      cases H
      exact Leaves.ret rfl rfl rfl ⟨rfl, rfl⟩
    · replace H := condF hc H
      refine L.move hF rfl rfl rfl ?_
      refine L.bin hF rfl rfl rfl rfl rfl rfl ?_
      refine L.pick hF rfl rfl rfl rfl ?_
      refine L.nil ?_
      refine WpC.cond rfl (fun hc => ?_) (fun hc => ?_)
      · replace H := condT hc H
        refine WpC.seq ?_
        refine WpC.regionL ?_
        refine L.assign hF rfl rfl rfl ?_
        refine L.assign hF rfl rfl rfl ?_
        refine L.nil ?_
        refine WpC.ret ?_
        cases H
        exact Leaves.ret rfl rfl rfl ⟨rfl, rfl⟩
      · replace H := condF hc H
        refine WpC.skip ?_
        refine WpC.seq ?_
        refine WpC.regionL ?_
        refine L.move hF rfl rfl rfl ?_
        refine L.move hF rfl rfl rfl ?_
        refine L.bin hF rfl rfl rfl rfl rfl rfl ?_
        obtain ⟨b1, hb1, H⟩ := bindS H
        refine L.cutS Try.underlying9 hF rfl rfl rfl rfl rfl hb1 ?_
        obtain ⟨r2, hr2, H⟩ := bindS H
        refine L.call [false] [] [] 3 hF rfl rfl rfl ent216 rfl rfl rfl rfl rfl (Fspec_ReadVar_gives k  b1 r2 hr2) rfl ?_
        refine L.move hF rfl rfl rfl ?_
        refine L.extract hF rfl rfl rfl rfl ?_
        refine L.extract hF rfl rfl rfl rfl ?_
        refine L.assign hF rfl rfl rfl ?_
        refine L.assign hF rfl rfl rfl ?_
        refine L.nil ?_
        refine WpC.seq ?_
        refine WpC.seq ?_
        refine WpC.regionL ?_
        refine L.move hF rfl rfl rfl ?_
        refine L.bin hF rfl rfl rfl rfl rfl rfl ?_
        refine L.nil ?_
        refine WpC.cond rfl (fun hc => ?_) (fun hc => ?_)
        · replace H := condT hc H
          refine WpC.seq ?_
          refine WpC.regionL ?_
          refine L.assign hF rfl rfl rfl ?_
          refine L.assign hF rfl rfl rfl ?_
          refine L.nil ?_
          refine WpC.ret ?_
          cases H
          exact Leaves.ret rfl rfl rfl ⟨rfl, rfl⟩
        · replace H := condF hc H
          refine WpC.skip ?_
          refine WpC.seq ?_
          refine WpC.regionL ?_
          refine L.move hF rfl rfl rfl ?_
          refine L.bin hF rfl rfl rfl rfl rfl rfl ?_
          refine L.move hF rfl rfl rfl ?_
          refine L.bin hF rfl rfl rfl rfl rfl rfl ?_
          refine L.assign hF rfl rfl rfl ?_
          refine L.nil ?_
          refine WpC.seq ?_
          refine WpC.seq ?_
          refine WpC.regionL ?_
          refine L.move hF rfl rfl rfl ?_
          refine L.move hF rfl rfl rfl ?_
          obtain ⟨b101, hb101, H⟩ := bindS H
          refine L.idxS Try.underlying9 hF rfl rfl rfl rfl hb101 ?_
          refine L.nil ?_
          refine WpC.block ?_
          refine WpC.seq ?_
          refine WpC.regionL ?_
          refine L.binB (a := b101) (b := (97 : UInt8)) hF rfl rfl rfl rfl rfl ?_
          refine L.assign hF rfl rfl rfl ?_
          refine L.nil ?_
          refine WpC.cond rfl (fun hc => ?_) (fun hc => ?_)
          · replace H := condT hc H
            refine WpC.seq ?_
            refine WpC.seq ?_
            refine WpC.regionL ?_
            refine L.move hF rfl rfl rfl ?_
            refine L.bin hF rfl rfl rfl rfl rfl rfl ?_
            refine L.move hF rfl rfl rfl ?_
            refine L.split (fun hc => ?_) (fun hc => ?_)
            · replace H := condT hc H
              refine L.off hF rfl rfl ?_
              refine L.off hF rfl rfl ?_
              refine L.off hF rfl rfl ?_
              refine L.off hF rfl rfl ?_
              refine L.off hF rfl rfl ?_
              refine L.off hF rfl rfl ?_
              refine L.pick hF rfl rfl rfl rfl ?_
              refine L.nil ?_
              refine WpC.cond rfl (fun _ => ?_) (fun hc => by cases hc)
              refine WpC.seq ?_
              refine WpC.regionL ?_
              refine L.assign hF rfl rfl rfl ?_
              refine L.assign hF rfl rfl rfl ?_
              refine L.nil ?_
              refine WpC.ret ?_
              cases H
              exact Leaves.ret rfl rfl rfl ⟨rfl, rfl⟩
            · replace H := condF hc H
              refine L.move hF rfl rfl rfl ?_
              refine L.move hF rfl rfl rfl ?_
              refine L.lenS Try.underlying9 hF rfl rfl rfl ?_
              refine L.move hF rfl rfl rfl ?_
              refine L.bin hF rfl rfl rfl rfl rfl rfl ?_
              refine L.bin hF rfl rfl rfl rfl rfl rfl ?_
              refine L.pick hF rfl rfl rfl rfl ?_
              refine L.nil ?_
              refine WpC.cond rfl (fun hc => ?_) (fun hc => ?_)
              · replace H := condT hc H
                refine WpC.seq ?_
                refine WpC.regionL ?_
                refine L.assign hF rfl rfl rfl ?_
                refine L.assign hF rfl rfl rfl ?_
                refine L.nil ?_
                refine WpC.ret ?_
                cases H
                exact Leaves.ret rfl rfl rfl ⟨rfl, rfl⟩
              · replace H := condF hc H
                refine WpC.skip ?_
                refine WpC.seq ?_
                refine WpC.regionL ?_
                refine L.move hF rfl rfl rfl ?_
                refine L.bin hF rfl rfl rfl rfl rfl rfl ?_
                refine L.move hF rfl rfl rfl ?_
                refine L.bin hF rfl rfl rfl rfl rfl rfl ?_
                refine L.assign hF rfl rfl rfl ?_
                refine L.assign hF rfl rfl rfl ?_
                refine L.nil ?_
                refine WpC.ret ?_
                cases H
                exact Leaves.ret rfl rfl rfl ⟨rfl, rfl⟩
          · replace H := condF hc H
            refine WpC.seq ?_
            refine WpC.regionL ?_
            refine L.binB (a := b101) (b := (107 : UInt8)) hF rfl rfl rfl rfl rfl ?_
            refine L.assign hF rfl rfl rfl ?_
            refine L.nil ?_
            refine WpC.cond rfl (fun hc => ?_) (fun hc => ?_)
            · replace H := condT hc H
              refine WpC.seq ?_
              refine WpC.seq ?_
              refine WpC.regionL ?_
              refine L.move hF rfl rfl rfl ?_
              obtain ⟨r103, hr103, H⟩ := bindS H
              refine L.call [false, false, false] [] [] 5 hF rfl rfl rfl ent152 rfl rfl rfl rfl rfl (Fspec_l1In_gives k  r2.1 (1 : Int) (1000000 : Int) r103 hr103) rfl ?_
              refine L.not hF rfl rfl rfl ?_
              refine L.nil ?_
              refine WpC.cond rfl (fun hc => ?_) (fun hc => ?_)
              · replace H := condT hc H
                refine WpC.seq ?_
                refine WpC.regionL ?_
                refine L.assign hF rfl rfl rfl ?_
                refine L.assign hF rfl rfl rfl ?_
                refine L.nil ?_
                refine WpC.ret ?_
                cases H
                exact Leaves.ret rfl rfl rfl ⟨rfl, rfl⟩
              · replace H := condF hc H
                refine WpC.skip ?_
                refine WpC.seq ?_
                refine WpC.regionL ?_
                refine L.move hF rfl rfl rfl ?_
                refine L.bin hF rfl rfl rfl rfl rfl rfl ?_
                refine L.assign hF rfl rfl rfl ?_
                refine L.assign hF rfl rfl rfl ?_
                refine L.nil ?_
                refine WpC.ret ?_
                cases H
                exact Leaves.ret rfl rfl rfl ⟨rfl, rfl⟩
            · replace H := condF hc H
              refine WpC.seq ?_
              refine WpC.regionL ?_
              refine L.binB (a := b101) (b := (115 : UInt8)) hF rfl rfl rfl rfl rfl ?_
              refine L.assign hF rfl rfl rfl ?_
              refine L.nil ?_
              refine WpC.cond rfl (fun hc => ?_) (fun hc => ?_)
              · replace H := condT hc H
                refine WpC.seq ?_
                refine WpC.regionL ?_
                refine L.move hF rfl rfl rfl ?_
                refine L.move hF rfl rfl rfl ?_
                refine L.move hF rfl rfl rfl ?_
                refine L.bin hF rfl rfl rfl rfl rfl rfl ?_
                obtain ⟨r104, hr104, H⟩ := bindS H
                refine L.call [false, false, false] [] [] 5 hF rfl rfl rfl ent230 rfl rfl rfl rfl rfl (ih  a0 (IntKind.i64.wrap ((IntKind.i64.wrap (a1 + (1 : Int))) + r2.2)) (IntKind.i64.wrap (a2 - (1 : Int))) r104 hr104) rfl ?_
                refine L.move hF rfl rfl rfl ?_
                refine L.extract hF rfl rfl rfl rfl ?_
                refine L.extract hF rfl rfl rfl rfl ?_
                refine L.assign hF rfl rfl rfl ?_
                refine L.assign hF rfl rfl rfl ?_
                refine L.nil ?_
                refine WpC.seq ?_
                refine WpC.seq ?_
                refine WpC.regionL ?_
                refine L.move hF rfl rfl rfl ?_
                refine L.bin hF rfl rfl rfl rfl rfl rfl ?_
                refine L.move hF rfl rfl rfl ?_
                refine L.split (fun hc => ?_) (fun hc => ?_)
                · replace H := condT hc H
                  refine L.off hF rfl rfl ?_
                  refine L.off hF rfl rfl ?_
                  refine L.off hF rfl rfl ?_
                  refine L.pick hF rfl rfl rfl rfl ?_
                  refine L.nil ?_
                  refine WpC.cond rfl (fun _ => ?_) (fun hc => by cases hc)
                  refine WpC.seq ?_
                  refine WpC.regionL ?_
                  refine L.assign hF rfl rfl rfl ?_
                  refine L.assign hF rfl rfl rfl ?_
                  refine L.nil ?_
                  refine WpC.ret ?_
                  cases H
                  exact Leaves.ret rfl rfl rfl ⟨rfl, rfl⟩
                · replace H := condF hc H
                  refine L.move hF rfl rfl rfl ?_
                  obtain ⟨r108, hr108, H⟩ := bindS H
                  refine L.call [false, false, false] [] [] 7 hF rfl rfl rfl ent152 rfl rfl rfl rfl rfl (Fspec_l1In_gives k  r2.1 (1 : Int) (1000000 : Int) r108 hr108) rfl ?_
                  refine L.not hF rfl rfl rfl ?_
                  refine L.pick hF rfl rfl rfl rfl ?_
                  refine L.nil ?_
                  refine WpC.cond rfl (fun hc => ?_) (fun hc => ?_)
                  · replace H := condT hc H
                    refine WpC.seq ?_
                    refine WpC.regionL ?_
                    refine L.assign hF rfl rfl rfl ?_
                    refine L.assign hF rfl rfl rfl ?_
                    refine L.nil ?_
                    refine WpC.ret ?_
                    cases H
                    exact Leaves.ret rfl rfl rfl ⟨rfl, rfl⟩
                  · replace H := condF hc H
                    refine WpC.skip ?_
                    refine WpC.seq ?_
                    refine WpC.regionL ?_
                    refine L.move hF rfl rfl rfl ?_
                    refine L.bin hF rfl rfl rfl rfl rfl rfl ?_
                    refine L.move hF rfl rfl rfl ?_
                    refine L.bin hF rfl rfl rfl rfl rfl rfl ?_
                    refine L.move hF rfl rfl rfl ?_
                    refine L.bin hF rfl rfl rfl rfl rfl rfl ?_
                    refine L.assign hF rfl rfl rfl ?_
                    refine L.assign hF rfl rfl rfl ?_
                    refine L.nil ?_
                    refine WpC.ret ?_
                    cases H
                    exact Leaves.ret rfl rfl rfl ⟨rfl, rfl⟩
              · replace H := condF hc H
                refine WpC.seq ?_
                refine WpC.regionL ?_
                refine L.binB (a := b101) (b := (108 : UInt8)) hF rfl rfl rfl rfl rfl ?_
                refine L.assign hF rfl rfl rfl ?_
                refine L.nil ?_
                refine WpC.cond rfl (fun hc => ?_) (fun hc => ?_)
                · replace H := condT hc H
                  refine WpC.seq ?_
                  refine WpC.seq ?_
                  refine WpC.regionL ?_
                  refine L.move hF rfl rfl rfl ?_
                  refine L.bin hF rfl rfl rfl rfl rfl rfl ?_
                  refine L.nil ?_
                  refine WpC.cond rfl (fun hc => ?_) (fun hc => ?_)
                  · replace H := condT hc H
                    refine WpC.seq ?_
                    refine WpC.regionL ?_
                    refine L.assign hF rfl rfl rfl ?_
                    refine L.assign hF rfl rfl rfl ?_
                    refine L.nil ?_
                    refine WpC.ret ?_
                    cases H
                    exact Leaves.ret rfl rfl rfl ⟨rfl, rfl⟩
                  · replace H := condF hc H
                    refine WpC.skip ?_
                    refine WpC.seq ?_
                    refine WpC.regionL ?_
                    refine L.assign hF rfl rfl rfl ?_
                    refine L.nil ?_
                    refine WpC.seq ?_
                    refine WpC.seq ?_
                    refine WpC.regionL ?_
                    refine L.assign hF rfl rfl rfl ?_
                    refine L.nil ?_
                    refine WpC.block ?_
                    refine WpC.loopL (P := Try.prog) (fun n σ => ∃ v183 : List UInt8, ∃ v184 : Int, ∃ v185 : Int, ∃ v186 : Int, ∃ v187 : Int, ∃ v188 : Int, ∃ v189 : Int, n ≤ K ∧ Fspec_l2Term.l15 (Fspec_l2Term k) n v183 v184 v185 v186 v187 v188 v189 = some r ∧ σ = mkSt [(0, one (cS v183)), (1, one (cI v184)), (2, one (cI v185)), (8, one (cI v186)), (10, one (cI v187)), (13, one (cI v188)), (14, one (cI v189))] [] [] 0) k ⟨_, ⟨a0, a1, a2, r2.1, (IntKind.i64.wrap ((IntKind.i64.wrap (a1 + (1 : Int))) + r2.2)), (0 : Int), (0 : Int), by omega, H, rfl⟩, Le.mk [] hm rfl ⟨⟨_, rfl, rfl⟩, ⟨_, rfl, rfl⟩, ⟨_, rfl, rfl⟩, ⟨_, rfl, rfl⟩, ⟨_, rfl, rfl⟩, ⟨_, rfl, rfl⟩, ⟨_, rfl, rfl⟩, trivial⟩ trivial trivial⟩ ?_
                    clear H
                    rintro k15 _ ⟨v183, v184, v185, v186, v187, v188, v189, hk15, H, rfl⟩
                    cases k15 with
                    | zero => cases H
                    | succ k15 =>
                      rw [Fspec_l2Term.l15] at H
                      refine WpC.seq ?_
                      refine WpC.seq ?_
                      refine WpC.regionL ?_
                      refine L.move hF rfl rfl rfl ?_
                      refine L.move hF rfl rfl rfl ?_
                      refine L.bin hF rfl rfl rfl rfl rfl rfl ?_
                      refine L.nil ?_
                      refine WpC.cond rfl (fun hc => ?_) (fun hc => ?_)
                      · replace H := condT hc H
                        refine WpC.skip ?_
                        refine WpC.join (fun σ => ∃ kj16 : Nat, ∃ v191 : List UInt8, ∃ v192 : Int, ∃ v193 : Int, ∃ v194 : Int, ∃ v195 : Int, ∃ v196 : Int, ∃ v197 : Int, kj16 ≤ K ∧ Fspec_l2Term.j16 (Fspec_l2Term.l15 (Fspec_l2Term k) k15) kj16 v191 v192 v193 v194 v195 v196 v197 = some r ∧ σ = mkSt [(0, one (cS v191)), (1, one (cI v192)), (2, one (cI v193)), (8, one (cI v194)), (10, one (cI v195)), (13, one (cI v196)), (14, one (cI v197))] [] [] 0) ?_ ?_
                        · rintro _ ⟨kj16, v191, v192, v193, v194, v195, v196, v197, hkj16, H, rfl⟩
                          unfold Fspec_l2Term.j16 at H
                          refine WpC.regionL ?_
                          refine L.move hF rfl rfl rfl ?_
                          refine L.bin hF rfl rfl rfl rfl rfl rfl ?_
                          refine L.assign hF rfl rfl rfl ?_
                          refine L.nil ?_
                          exact ⟨k15, _, by omega, ⟨v191, v192, v193, v194, v195, v196, (IntKind.i64.wrap (v197 + (1 : Int))), by omega, H, rfl⟩, Le.mk [] hm rfl ⟨⟨_, rfl, rfl⟩, ⟨_, rfl, rfl⟩, ⟨_, rfl, rfl⟩, ⟨_, rfl, rfl⟩, ⟨_, rfl, rfl⟩, ⟨_, rfl, rfl⟩, ⟨_, rfl, rfl⟩, trivial⟩ trivial trivial⟩
                        · refine WpC.block ?_
                          refine WpC.seq ?_
                          refine WpC.regionL ?_
                          refine L.move hF rfl rfl rfl ?_
                          refine L.move hF rfl rfl rfl ?_
                          refine L.move hF rfl rfl rfl ?_
                          refine L.bin hF rfl rfl rfl rfl rfl rfl ?_
                          obtain ⟨r198, hr198, H⟩ := bindS H
                          refine L.call [false, false, false] [] [] 0 hF rfl rfl rfl ent230 rfl rfl rfl rfl rfl (ih  v183 v187 (IntKind.i64.wrap (v185 - (1 : Int))) r198 hr198) rfl ?_
                          refine L.move hF rfl rfl rfl ?_
                          refine L.extract hF rfl rfl rfl rfl ?_
                          refine L.extract hF rfl rfl rfl rfl ?_
                          refine L.assign hF rfl rfl rfl ?_
                          refine L.assign hF rfl rfl rfl ?_
                          refine L.nil ?_
                          refine WpC.seq ?_
                          refine WpC.seq ?_
                          refine WpC.regionL ?_
                          refine L.move hF rfl rfl rfl ?_
                          refine L.bin hF rfl rfl rfl rfl rfl rfl ?_
                          refine L.nil ?_
                          refine WpC.cond rfl (fun hc => ?_) (fun hc => ?_)
                          · replace H := condT hc H
                            refine WpC.seq ?_
                            refine WpC.regionL ?_
                            refine L.assign hF rfl rfl rfl ?_
                            refine L.assign hF rfl rfl rfl ?_
                            refine L.nil ?_
                            refine WpC.ret ?_
                            cases H
                            exact Leaves.ret rfl rfl rfl ⟨rfl, rfl⟩
                          · replace H := condF hc H
                            refine WpC.skip ?_
                            refine WpC.seq ?_
                            refine WpC.regionL ?_
                            refine L.move hF rfl rfl rfl ?_
                            refine L.move hF rfl rfl rfl ?_
                            refine L.bin hF rfl rfl rfl rfl rfl rfl ?_
                            refine L.assign hF rfl rfl rfl ?_
                            refine L.nil ?_
                            refine WpC.seq ?_
                            refine WpC.regionL ?_
                            refine L.move hF rfl rfl rfl ?_
                            refine L.move hF rfl rfl rfl ?_
                            refine L.bin hF rfl rfl rfl rfl rfl rfl ?_
                            refine L.nil ?_
                            refine WpC.cond rfl (fun hc => ?_) (fun hc => ?_)
                            · replace H := condT hc H
                              refine WpC.regionL ?_
                              refine L.move hF rfl rfl rfl ?_
                              refine L.assign hF rfl rfl rfl ?_
                              refine L.nil ?_
                              exact ⟨_, ⟨k15, v183, v184, v185, v186, (IntKind.i64.wrap (v187 + r198.1)), r198.2, v189, by omega, H, rfl⟩, Le.mk [] hm rfl ⟨⟨_, rfl, rfl⟩, ⟨_, rfl, rfl⟩, ⟨_, rfl, rfl⟩, ⟨_, rfl, rfl⟩, ⟨_, rfl, rfl⟩, ⟨_, rfl, rfl⟩, ⟨_, rfl, rfl⟩, trivial⟩ trivial trivial⟩
                            · replace H := condF hc H
                              refine WpC.skip ?_
                              exact ⟨_, ⟨k15, v183, v184, v185, v186, (IntKind.i64.wrap (v187 + r198.1)), v188, v189, by omega, H, rfl⟩, Le.mk [] hm rfl ⟨⟨_, rfl, rfl⟩, ⟨_, rfl, rfl⟩, ⟨_, rfl, rfl⟩, ⟨_, rfl, rfl⟩, ⟨_, rfl, rfl⟩, ⟨_, rfl, rfl⟩, ⟨_, rfl, rfl⟩, trivial⟩ trivial trivial⟩
                      · replace H := condF hc H
                        refine WpC.exit ?_
                        refine WpC.seq ?_
                        refine WpC.regionL ?_
                        refine L.move hF rfl rfl rfl ?_
                        refine L.move hF rfl rfl rfl ?_
                        refine L.bin hF rfl rfl rfl rfl rfl rfl ?_
                        refine L.move hF rfl rfl rfl ?_
                        refine L.bin hF rfl rfl rfl rfl rfl rfl ?_
                        refine L.assign hF rfl rfl rfl ?_
                        refine L.assign hF rfl rfl rfl ?_
                        refine L.nil ?_
                        refine WpC.ret ?_
                        cases H
                        exact Leaves.ret rfl rfl rfl ⟨rfl, rfl⟩
                · replace H := condF hc H
                  refine WpC.skip ?_
                  refine WpC.seq ?_
                  refine WpC.regionL ?_
                  refine L.assign hF rfl rfl rfl ?_
                  refine L.assign hF rfl rfl rfl ?_
                  refine L.nil ?_
                  refine WpC.ret ?_
                  cases H
                  exact Leaves.ret rfl rfl rfl ⟨rfl, rfl⟩
/-! ### Fspec_TermOk -/
def Fspec_TermOk (k : Nat) (a0 : List UInt8) : Option Bool := (Fspec_l2Term k a0 (0 : Int) (8 : Int)).bind fun r1 => cond (decide (r1.1 > (0 : Int))) (cond (r1.1 == (a0.length : Int)) (some (decide (r1.1 ≤ (900 : Int)))) (some false)) (some false)
theorem ent229 : Enters Try.prog 229 := ⟨Try.f229, Try.func229, rfl, by decide⟩
set_option maxHeartbeats 8000000 in
set_option maxRecDepth 100000 in
theorem Fspec_TermOk_gives (k : Nat) (a0 : List UInt8) (r : Bool) (H : Fspec_TermOk k a0 = some r) : Gives Try.prog 229 [V.one (cS a0)] [] [V.one (cL r)] [] := by
  refine Gives.intro Try.func229 rfl rfl rfl rfl ?_
  intro F hF hm
  unfold Fspec_TermOk at H
  obtain ⟨K, hK⟩ : ∃ K, k ≤ K := ⟨k, Nat.le_refl k⟩
  refine WpC.seq ?_
  refine WpC.regionL ?_
  refine L.assign hF rfl rfl rfl ?_
  refine L.nil ?_
  refine WpC.seq ?_
  refine WpC.regionL ?_
  refine L.move hF rfl rfl rfl ?_
  obtain ⟨r1, hr1, H⟩ := bindS H
  refine L.call [false, false, false] [] [] 1 hF rfl rfl rfl ent230 rfl rfl rfl rfl rfl (Fspec_l2Term_gives k  a0 (0 : Int) (8 : Int) r1 hr1) rfl ?_
  refine L.move hF rfl rfl rfl ?_
  refine L.extract hF rfl rfl rfl rfl ?_
  refine L.extract hF rfl rfl rfl rfl ?_
  refine L.assign hF rfl rfl rfl ?_
  refine L.assign hF rfl rfl rfl ?_
  refine L.nil ?_
  refine WpC.seq ?_
  refine WpC.regionL ?_
  refine L.move hF rfl rfl rfl ?_
  refine L.bin hF rfl rfl rfl rfl rfl rfl ?_
  refine L.move hF rfl rfl rfl ?_
  refine L.split (fun hc => ?_) (fun hc => ?_)
  · replace H := condT hc H
    refine L.move hF rfl rfl rfl ?_
    refine L.move hF rfl rfl rfl ?_
    refine L.lenS Try.underlying9 hF rfl rfl rfl ?_
    refine L.bin hF rfl rfl rfl rfl rfl rfl ?_
    refine L.pick hF rfl rfl rfl rfl ?_
    refine L.move hF rfl rfl rfl ?_
    refine L.split (fun hc => ?_) (fun hc => ?_)
    · replace H := condT hc H
      refine L.move hF rfl rfl rfl ?_
      refine L.bin hF rfl rfl rfl rfl rfl rfl ?_
      refine L.pick hF rfl rfl rfl rfl ?_
      refine L.assign hF rfl rfl rfl ?_
      refine L.nil ?_
      refine WpC.ret ?_
      cases H
      exact Leaves.ret rfl rfl rfl ⟨rfl, rfl⟩
    · replace H := condF hc H
      refine L.off hF rfl rfl ?_
      refine L.off hF rfl rfl ?_
      refine L.pick hF rfl rfl rfl rfl ?_
      refine L.assign hF rfl rfl rfl ?_
      refine L.nil ?_
      refine WpC.ret ?_
      cases H
      exact Leaves.ret rfl rfl rfl ⟨rfl, rfl⟩
  · replace H := condF hc H
    refine L.off hF rfl rfl ?_
    refine L.off hF rfl rfl ?_
    refine L.off hF rfl rfl ?_
    refine L.off hF rfl rfl ?_
    refine L.pick hF rfl rfl rfl rfl ?_
    refine L.move hF rfl rfl rfl ?_
    refine L.off hF rfl rfl ?_
    refine L.off hF rfl rfl ?_
    refine L.pick hF rfl rfl rfl rfl ?_
    refine L.assign hF rfl rfl rfl ?_
    refine L.nil ?_
    refine WpC.ret ?_
    cases H
    exact Leaves.ret rfl rfl rfl ⟨rfl, rfl⟩
/-! ### Fspec_Parts -/
def Fspec_Parts.l4 : Nat → (List UInt8) → (List (List UInt8)) → Int → Int → Int → Option (List (List UInt8) × Bool)
  | 0, _, _, _, _, _ => none
  | k4 + 1, v68, v69, v70, v71, v72 => cond (decide (v72 < v70)) ((Fspec_l2Term k4 v68 v71 (8 : Int)).bind fun r76 => (cut? v68 v71 (IntKind.i64.wrap (v71 + r76.1))).bind fun b77 => cond (decide ((2 * (v69.length + ([b77] : List (List UInt8)).length) + 192) * 16 ≤ 281474976710656)) ((Fspec_Parts.l4 k4) v68 (v69 ++ ([b77] : List (List UInt8))) v70 (IntKind.i64.wrap (v71 + r76.1)) (IntKind.i64.wrap (v72 + (1 : Int)))) none) (some (v69, true))
def Fspec_Parts.j2 (k : Nat) (v10 : List UInt8) (v11 : List (List UInt8)) (v12 : Bool) : Option (List (List UInt8) × Bool) := cond v12 (some (v11, false)) ((cut? v10 (1 : Int) (v10.length : Int)).bind fun b13 => (Fspec_ReadVar k b13).bind fun r14 => Fspec_Parts.l4 k v10 v11 r14.1 (IntKind.i64.wrap ((1 : Int) + r14.2)) (0 : Int))
def Fspec_Parts (k : Nat) (a0 : List UInt8) : Option (List (List UInt8) × Bool) := (Fspec_TermOk k a0).bind fun r79 => cond (!r79) (Fspec_Parts.j2 k a0 ([] : List (List UInt8)) true) ((at? a0 (0 : Int)).bind fun b80 => Fspec_Parts.j2 k a0 ([] : List (List UInt8)) (b80 != (108 : UInt8)))
theorem ent141 : Enters Try.prog 141 := ⟨Try.f141, Try.func141, rfl, by decide⟩
set_option maxHeartbeats 8000000 in
set_option maxRecDepth 100000 in
theorem Fspec_Parts_gives (k : Nat) (a0 : List UInt8) (r : List (List UInt8) × Bool) (H : Fspec_Parts k a0 = some r) : Gives Try.prog 141 [V.one (cS a0)] [] [V.one (Cell.ow 1 (List.map eS r.1)), V.one (cL r.2)] [] := by
  refine Gives.intro Try.func141 rfl rfl rfl rfl ?_
  intro F hF hm
  unfold Fspec_Parts at H
  obtain ⟨K, hK⟩ : ∃ K, k ≤ K := ⟨k, Nat.le_refl k⟩
  refine WpC.seq ?_
  refine WpC.regionL ?_
  refine L.assign hF rfl rfl rfl ?_
  refine L.assign hF rfl rfl rfl ?_
  refine L.nil ?_
  refine WpC.seq ?_
  refine WpC.regionL ?_
  refine L.buildSlice (e := eS) 1 ([] : List (List UInt8)) Try.underlying120 info9 rfl rfl rfl hF rfl rfl rfl rfl rfl rfl rfl rfl ?_
  refine L.assign hF rfl rfl rfl ?_
  refine L.nil ?_
  refine WpC.seq ?_
  refine WpC.join (fun σ => ∃ kj2 : Nat, ∃ v10 : List UInt8, ∃ v11 : List (List UInt8), ∃ v12 : Bool, kj2 ≤ K ∧ Fspec_Parts.j2 kj2 v10 v11 v12 = some r ∧ σ = mkSt [(0, one (cS v10)), (4, one (Cell.own 0)), (19, one (cL v12))] [(0, ⟨1, List.map eS v11⟩)] [] 1) ?_ ?_
  · rintro _ ⟨kj2, v10, v11, v12, hkj2, H, rfl⟩
    unfold Fspec_Parts.j2 at H
    refine WpC.cond rfl (fun hc => ?_) (fun hc => ?_)
    · replace H := condT hc H
      refine WpC.seq ?_
      refine WpC.regionL ?_
      refine L.move hF rfl rfl rfl ?_
      refine L.assign hF rfl rfl rfl ?_
      refine L.assign hF rfl rfl rfl ?_
      refine L.nil ?_
      refine WpC.ret ?_
      cases H
      exact Leaves.ret rfl rfl rfl ⟨rfl, rfl⟩
    · replace H := condF hc H
      refine WpC.skip ?_
      refine WpC.seq ?_
      refine WpC.regionL ?_
      refine L.move hF rfl rfl rfl ?_
      obtain ⟨b13, hb13, H⟩ := bindS H
      refine L.cutS Try.underlying9 hF rfl rfl rfl rfl rfl hb13 ?_
      obtain ⟨r14, hr14, H⟩ := bindS H
      refine L.call [false] [] [] 1 hF rfl rfl rfl ent216 rfl rfl rfl rfl rfl (Fspec_ReadVar_gives kj2  b13 r14 hr14) rfl ?_
      refine L.move hF rfl rfl rfl ?_
      refine L.extract hF rfl rfl rfl rfl ?_
      refine L.extract hF rfl rfl rfl rfl ?_
      refine L.assign hF rfl rfl rfl ?_
      refine L.assign hF rfl rfl rfl ?_
      refine L.nil ?_
      refine WpC.seq ?_
      refine WpC.regionL ?_
      refine L.move hF rfl rfl rfl ?_
      refine L.bin hF rfl rfl rfl rfl rfl rfl ?_
      refine L.assign hF rfl rfl rfl ?_
      refine L.nil ?_
      refine WpC.seq ?_
      refine WpC.seq ?_
      refine WpC.regionL ?_
      refine L.assign hF rfl rfl rfl ?_
      refine L.nil ?_
      refine WpC.block ?_
      refine WpC.loopL (P := Try.prog) (fun n σ => ∃ v68 : List UInt8, ∃ v69 : List (List UInt8), ∃ v70 : Int, ∃ v71 : Int, ∃ v72 : Int, n ≤ K ∧ Fspec_Parts.l4 n v68 v69 v70 v71 v72 = some r ∧ σ = mkSt [(0, one (cS v68)), (4, one (Cell.own 0)), (5, one (cI v70)), (7, one (cI v71)), (8, one (cI v72))] [(0, ⟨1, List.map eS v69⟩)] [] 1) kj2 ⟨_, ⟨v10, v11, r14.1, (IntKind.i64.wrap ((1 : Int) + r14.2)), (0 : Int), by omega, H, rfl⟩, Le.mk [(0, 0)] hm rfl ⟨⟨_, rfl, rfl⟩, ⟨_, rfl, rfl⟩, ⟨_, rfl, rfl⟩, ⟨_, rfl, rfl⟩, ⟨_, rfl, rfl⟩, trivial⟩ ⟨⟨_, rfl, rfl⟩, trivial⟩ trivial⟩ ?_
      clear H
      rintro k4 _ ⟨v68, v69, v70, v71, v72, hk4, H, rfl⟩
      cases k4 with
      | zero => cases H
      | succ k4 =>
        rw [Fspec_Parts.l4] at H
        refine WpC.seq ?_
        refine WpC.seq ?_
        refine WpC.regionL ?_
        refine L.move hF rfl rfl rfl ?_
        refine L.move hF rfl rfl rfl ?_
        refine L.bin hF rfl rfl rfl rfl rfl rfl ?_
        refine L.nil ?_
        refine WpC.cond rfl (fun hc => ?_) (fun hc => ?_)
        · replace H := condT hc H
          refine WpC.skip ?_
          refine WpC.seq ?_
          refine WpC.block ?_
          refine WpC.seq ?_
          refine WpC.regionL ?_
          refine L.move hF rfl rfl rfl ?_
          refine L.move hF rfl rfl rfl ?_
          obtain ⟨r76, hr76, H⟩ := bindS H
          refine L.call [false, false, false] [] [] 1 hF rfl rfl rfl ent230 rfl rfl rfl rfl rfl (Fspec_l2Term_gives k4  v68 v71 (8 : Int) r76 hr76) rfl ?_
          refine L.move hF rfl rfl rfl ?_
          refine L.extract hF rfl rfl rfl rfl ?_
          refine L.extract hF rfl rfl rfl rfl ?_
          refine L.assign hF rfl rfl rfl ?_
          refine L.assign hF rfl rfl rfl ?_
          refine L.nil ?_
          refine WpC.seq ?_
          refine WpC.regionL ?_
          refine L.move hF rfl rfl rfl ?_
          refine L.move hF rfl rfl rfl ?_
          refine L.move hF rfl rfl rfl ?_
          refine L.move hF rfl rfl rfl ?_
          refine L.move hF rfl rfl rfl ?_
          refine L.bin hF rfl rfl rfl rfl rfl rfl ?_
          obtain ⟨b77, hb77, H⟩ := bindS H
          refine L.cutS Try.underlying9 hF rfl rfl rfl rfl rfl hb77 ?_
          refine L.buildSlice (e := eS) 3 ([b77] : List (List UInt8)) Try.underlying120 info9 rfl rfl rfl hF rfl rfl rfl rfl rfl rfl rfl rfl ?_
          obtain ⟨h78, H⟩ := condG H
          refine L.append (xs := v69) (ys := ([b77] : List (List UInt8))) (e := eS) 4 Try.underlying120 info9 rfl rfl hF rfl rfl rfl rfl rfl rfl rfl rfl (fun _ => rfl) (fun _ _ h1 h2 => by cases h1; cases h2; rfl) ⟨_, Try.underlying120⟩ (of_decide_eq_true h78) rfl rfl ?_
          refine L.assign hF rfl rfl rfl ?_
          refine L.nil ?_
          refine WpC.regionL ?_
          refine L.move hF rfl rfl rfl ?_
          refine L.move hF rfl rfl rfl ?_
          refine L.bin hF rfl rfl rfl rfl rfl rfl ?_
          refine L.assign hF rfl rfl rfl ?_
          refine L.nil ?_
          refine WpC.regionL ?_
          refine L.move hF rfl rfl rfl ?_
          refine L.bin hF rfl rfl rfl rfl rfl rfl ?_
          refine L.assign hF rfl rfl rfl ?_
          refine L.nil ?_
          exact ⟨k4, _, by omega, ⟨v68, (v69 ++ ([b77] : List (List UInt8))), v70, (IntKind.i64.wrap (v71 + r76.1)), (IntKind.i64.wrap (v72 + (1 : Int))), by omega, H, rfl⟩, Le.mk [(0, 4)] hm rfl ⟨⟨_, rfl, rfl⟩, ⟨_, rfl, rfl⟩, ⟨_, rfl, rfl⟩, ⟨_, rfl, rfl⟩, ⟨_, rfl, rfl⟩, trivial⟩ ⟨⟨_, rfl, rfl⟩, trivial⟩ trivial⟩
        · replace H := condF hc H
          refine WpC.exit ?_
          refine WpC.seq ?_
          refine WpC.regionL ?_
          refine L.move hF rfl rfl rfl ?_
          refine L.assign hF rfl rfl rfl ?_
          refine L.assign hF rfl rfl rfl ?_
          refine L.nil ?_
          refine WpC.ret ?_
          cases H
          exact Leaves.ret rfl rfl rfl ⟨rfl, rfl⟩
  · refine WpC.regionL ?_
    refine L.move hF rfl rfl rfl ?_
    obtain ⟨r79, hr79, H⟩ := bindS H
    refine L.call [false] [] [] 2 hF rfl rfl rfl ent229 rfl rfl rfl rfl rfl (Fspec_TermOk_gives k  a0 r79 hr79) rfl ?_
    refine L.not hF rfl rfl rfl ?_
    refine L.move hF rfl rfl rfl ?_
    refine L.split (fun hc => ?_) (fun hc => ?_)
    · replace H := condT hc H
      refine L.off hF rfl rfl ?_
      refine L.off hF rfl rfl ?_
      refine L.off hF rfl rfl ?_
      refine L.pick hF rfl rfl rfl rfl ?_
      refine L.nil ?_
      exact ⟨_, ⟨k, a0, ([] : List (List UInt8)), true, by omega, H, rfl⟩, Le.mk [(0, 1)] hm rfl ⟨⟨_, rfl, rfl⟩, ⟨_, rfl, rfl⟩, ⟨_, rfl, rfl⟩, trivial⟩ ⟨⟨_, rfl, rfl⟩, trivial⟩ trivial⟩
    · replace H := condF hc H
      refine L.move hF rfl rfl rfl ?_
      obtain ⟨b80, hb80, H⟩ := bindS H
      refine L.idxS Try.underlying9 hF rfl rfl rfl rfl hb80 ?_
      refine L.binB (a := b80) (b := (108 : UInt8)) hF rfl rfl rfl rfl rfl ?_
      refine L.pick hF rfl rfl rfl rfl ?_
      refine L.nil ?_
      exact ⟨_, ⟨k, a0, ([] : List (List UInt8)), (b80 != (108 : UInt8)), by omega, H, rfl⟩, Le.mk [(0, 1)] hm rfl ⟨⟨_, rfl, rfl⟩, ⟨_, rfl, rfl⟩, ⟨_, rfl, rfl⟩, trivial⟩ ⟨⟨_, rfl, rfl⟩, trivial⟩ trivial⟩
/-! ### Fspec_l5Principal -/
def Fspec_l5Principal (k : Nat) (a0 : Int) : Option Bool := cond (decide (a0 ≥ (0 : Int))) (some (decide (a0 < (6 : Int)))) (some false)
theorem ent142 : Enters Try.prog 142 := ⟨Try.f142, Try.func142, rfl, by decide⟩
set_option maxHeartbeats 8000000 in
set_option maxRecDepth 100000 in
theorem Fspec_l5Principal_gives (k : Nat) (a0 : Int) (r : Bool) (H : Fspec_l5Principal k a0 = some r) : Gives Try.prog 142 [V.one (cI a0)] [] [V.one (cL r)] [] := by
  refine Gives.intro Try.func142 rfl rfl rfl rfl ?_
  intro F hF hm
  unfold Fspec_l5Principal at H
  obtain ⟨K, hK⟩ : ∃ K, k ≤ K := ⟨k, Nat.le_refl k⟩
  refine WpC.seq ?_
  refine WpC.regionL ?_
  refine L.assign hF rfl rfl rfl ?_
  refine L.nil ?_
  refine WpC.seq ?_
  refine WpC.regionL ?_
  refine L.move hF rfl rfl rfl ?_
  refine L.bin hF rfl rfl rfl rfl rfl rfl ?_
  refine L.move hF rfl rfl rfl ?_
  refine L.split (fun hc => ?_) (fun hc => ?_)
  · replace H := condT hc H
    refine L.move hF rfl rfl rfl ?_
    refine L.bin hF rfl rfl rfl rfl rfl rfl ?_
    refine L.pick hF rfl rfl rfl rfl ?_
    refine L.assign hF rfl rfl rfl ?_
    refine L.nil ?_
    refine WpC.ret ?_
    cases H
    exact Leaves.ret rfl rfl rfl ⟨rfl, rfl⟩
  · replace H := condF hc H
    refine L.off hF rfl rfl ?_
    refine L.off hF rfl rfl ?_
    refine L.pick hF rfl rfl rfl rfl ?_
    refine L.assign hF rfl rfl rfl ?_
    refine L.nil ?_
    refine WpC.ret ?_
    cases H
    exact Leaves.ret rfl rfl rfl ⟨rfl, rfl⟩
/-! ### Fspec_ReadAtom -/
def Fspec_ReadAtom (k : Nat) (a0 : List UInt8) : Option (List UInt8 × Bool) := (Fspec_TermOk k a0).bind fun r7 => cond (!r7) (some (([] : List UInt8), false)) ((at? a0 (0 : Int)).bind fun b8 => cond (b8 != (97 : UInt8)) (some (([] : List UInt8), false)) ((cut? a0 (1 : Int) (a0.length : Int)).bind fun b9 => (Fspec_ReadVar k b9).bind fun r10 => (cut? a0 (IntKind.i64.wrap ((1 : Int) + r10.2)) (a0.length : Int)).bind fun b11 => some (b11, true)))
theorem ent269 : Enters Try.prog 269 := ⟨Try.f269, Try.func269, rfl, by decide⟩
set_option maxHeartbeats 8000000 in
set_option maxRecDepth 100000 in
theorem Fspec_ReadAtom_gives (k : Nat) (a0 : List UInt8) (r : List UInt8 × Bool) (H : Fspec_ReadAtom k a0 = some r) : Gives Try.prog 269 [V.one (cS a0)] [] [V.one (cS r.1), V.one (cL r.2)] [] := by
  refine Gives.intro Try.func269 rfl rfl rfl rfl ?_
  intro F hF hm
  unfold Fspec_ReadAtom at H
  obtain ⟨K, hK⟩ : ∃ K, k ≤ K := ⟨k, Nat.le_refl k⟩
  refine WpC.seq ?_
  refine WpC.regionL ?_
  refine L.assign hF rfl rfl rfl ?_
  refine L.assign hF rfl rfl rfl ?_
  refine L.nil ?_
  refine WpC.seq ?_
  refine WpC.seq ?_
  refine WpC.regionL ?_
  refine L.move hF rfl rfl rfl ?_
  obtain ⟨r7, hr7, H⟩ := bindS H
  refine L.call [false] [] [] 1 hF rfl rfl rfl ent229 rfl rfl rfl rfl rfl (Fspec_TermOk_gives k  a0 r7 hr7) rfl ?_
  refine L.not hF rfl rfl rfl ?_
  refine L.move hF rfl rfl rfl ?_
  refine L.split (fun hc => ?_) (fun hc => ?_)
  · replace H := condT hc H
    refine L.off hF rfl rfl ?_
    refine L.off hF rfl rfl ?_
    refine L.off hF rfl rfl ?_
    refine L.pick hF rfl rfl rfl rfl ?_
    refine L.nil ?_
    refine WpC.cond rfl (fun _ => ?_) (fun hc => by cases hc)
    refine WpC.seq ?_
    refine WpC.regionL ?_
    refine L.assign hF rfl rfl rfl ?_
    refine L.assign hF rfl rfl rfl ?_
    refine L.nil ?_
    refine WpC.ret ?_
    cases H
    exact Leaves.ret rfl rfl rfl ⟨rfl, rfl⟩
  · replace H := condF hc H
    refine L.move hF rfl rfl rfl ?_
    obtain ⟨b8, hb8, H⟩ := bindS H
    refine L.idxS Try.underlying9 hF rfl rfl rfl rfl hb8 ?_
    refine L.binB (a := b8) (b := (97 : UInt8)) hF rfl rfl rfl rfl rfl ?_
    refine L.pick hF rfl rfl rfl rfl ?_
    refine L.nil ?_
    refine WpC.cond rfl (fun hc => ?_) (fun hc => ?_)
    · replace H := condT hc H
      refine WpC.seq ?_
      refine WpC.regionL ?_
      refine L.assign hF rfl rfl rfl ?_
      refine L.assign hF rfl rfl rfl ?_
      refine L.nil ?_
      refine WpC.ret ?_
      cases H
      exact Leaves.ret rfl rfl rfl ⟨rfl, rfl⟩
    · replace H := condF hc H
      refine WpC.skip ?_
      refine WpC.seq ?_
      refine WpC.regionL ?_
      refine L.move hF rfl rfl rfl ?_
      obtain ⟨b9, hb9, H⟩ := bindS H
      refine L.cutS Try.underlying9 hF rfl rfl rfl rfl rfl hb9 ?_
      obtain ⟨r10, hr10, H⟩ := bindS H
      refine L.call [false] [] [] 2 hF rfl rfl rfl ent216 rfl rfl rfl rfl rfl (Fspec_ReadVar_gives k  b9 r10 hr10) rfl ?_
      refine L.move hF rfl rfl rfl ?_
      refine L.extract hF rfl rfl rfl rfl ?_
      refine L.extract hF rfl rfl rfl rfl ?_
      refine L.assign hF rfl rfl rfl ?_
      refine L.assign hF rfl rfl rfl ?_
      refine L.nil ?_
      refine WpC.seq ?_
      refine WpC.regionL ?_
      refine L.move hF rfl rfl rfl ?_
      refine L.move hF rfl rfl rfl ?_
      refine L.bin hF rfl rfl rfl rfl rfl rfl ?_
      obtain ⟨b11, hb11, H⟩ := bindS H
      refine L.cutS Try.underlying9 hF rfl rfl rfl rfl rfl hb11 ?_
      refine L.assign hF rfl rfl rfl ?_
      refine L.assign hF rfl rfl rfl ?_
      refine L.nil ?_
      refine WpC.ret ?_
      cases H
      exact Leaves.ret rfl rfl rfl ⟨rfl, rfl⟩
/-! ### Fspec_ReadNum -/
def Fspec_ReadNum (k : Nat) (a0 : List UInt8) : Option (Int × Bool) := (Fspec_ReadAtom k a0).bind fun r1 => (Fspec_ReadVar k r1.1).bind fun r2 => cond (!r1.2) (some ((0 : Int), false)) (cond (r2.2 == (0 : Int)) (some ((0 : Int), false)) (cond (r2.2 != (r1.1.length : Int)) (some ((0 : Int), false)) (some (r2.1, true))))
theorem ent224 : Enters Try.prog 224 := ⟨Try.f224, Try.func224, rfl, by decide⟩
set_option maxHeartbeats 8000000 in
set_option maxRecDepth 100000 in
theorem Fspec_ReadNum_gives (k : Nat) (a0 : List UInt8) (r : Int × Bool) (H : Fspec_ReadNum k a0 = some r) : Gives Try.prog 224 [V.one (cS a0)] [] [V.one (cI r.1), V.one (cL r.2)] [] := by
  refine Gives.intro Try.func224 rfl rfl rfl rfl ?_
  intro F hF hm
  unfold Fspec_ReadNum at H
  obtain ⟨K, hK⟩ : ∃ K, k ≤ K := ⟨k, Nat.le_refl k⟩
  refine WpC.seq ?_
  refine WpC.regionL ?_
  refine L.assign hF rfl rfl rfl ?_
  refine L.assign hF rfl rfl rfl ?_
  refine L.nil ?_
  refine WpC.seq ?_
  refine WpC.regionL ?_
  refine L.move hF rfl rfl rfl ?_
  obtain ⟨r1, hr1, H⟩ := bindS H
  refine L.call [false] [] [] 1 hF rfl rfl rfl ent269 rfl rfl rfl rfl rfl (Fspec_ReadAtom_gives k  a0 r1 hr1) rfl ?_
  refine L.move hF rfl rfl rfl ?_
  refine L.extract hF rfl rfl rfl rfl ?_
  refine L.extract hF rfl rfl rfl rfl ?_
  refine L.assign hF rfl rfl rfl ?_
  refine L.assign hF rfl rfl rfl ?_
  refine L.nil ?_
  refine WpC.seq ?_
  refine WpC.regionL ?_
  refine L.move hF rfl rfl rfl ?_
  obtain ⟨r2, hr2, H⟩ := bindS H
  refine L.call [false] [] [] 3 hF rfl rfl rfl ent216 rfl rfl rfl rfl rfl (Fspec_ReadVar_gives k  r1.1 r2 hr2) rfl ?_
  refine L.move hF rfl rfl rfl ?_
  refine L.extract hF rfl rfl rfl rfl ?_
  refine L.extract hF rfl rfl rfl rfl ?_
  refine L.assign hF rfl rfl rfl ?_
  refine L.assign hF rfl rfl rfl ?_
  refine L.nil ?_
  refine WpC.seq ?_
  refine WpC.seq ?_
  refine WpC.regionL ?_
  refine L.move hF rfl rfl rfl ?_
  refine L.not hF rfl rfl rfl ?_
  refine L.move hF rfl rfl rfl ?_
  refine L.split (fun hc => ?_) (fun hc => ?_)
  · replace H := condT hc H
    refine L.off hF rfl rfl ?_
    refine L.off hF rfl rfl ?_
    refine L.pick hF rfl rfl rfl rfl ?_
    refine L.move hF rfl rfl rfl ?_
    refine L.off hF rfl rfl ?_
    refine L.off hF rfl rfl ?_
    refine L.off hF rfl rfl ?_
    refine L.off hF rfl rfl ?_
    refine L.pick hF rfl rfl rfl rfl ?_
    refine L.nil ?_
    refine WpC.cond rfl (fun _ => ?_) (fun hc => by cases hc)
    refine WpC.seq ?_
    refine WpC.regionL ?_
    refine L.assign hF rfl rfl rfl ?_
    refine L.assign hF rfl rfl rfl ?_
    refine L.nil ?_
    refine WpC.ret ?_
    cases H
    exact Leaves.ret rfl rfl rfl ⟨rfl, rfl⟩
  · replace H := condF hc H
    refine L.move hF rfl rfl rfl ?_
    refine L.bin hF rfl rfl rfl rfl rfl rfl ?_
    refine L.pick hF rfl rfl rfl rfl ?_
    refine L.move hF rfl rfl rfl ?_
    refine L.split (fun hc => ?_) (fun hc => ?_)
    · replace H := condT hc H
      refine L.off hF rfl rfl ?_
      refine L.off hF rfl rfl ?_
      refine L.off hF rfl rfl ?_
      refine L.off hF rfl rfl ?_
      refine L.pick hF rfl rfl rfl rfl ?_
      refine L.nil ?_
      refine WpC.cond rfl (fun _ => ?_) (fun hc => by cases hc)
      refine WpC.seq ?_
      refine WpC.regionL ?_
      refine L.assign hF rfl rfl rfl ?_
      refine L.assign hF rfl rfl rfl ?_
      refine L.nil ?_
      refine WpC.ret ?_
      cases H
      exact Leaves.ret rfl rfl rfl ⟨rfl, rfl⟩
    · replace H := condF hc H
      refine L.move hF rfl rfl rfl ?_
      refine L.move hF rfl rfl rfl ?_
      refine L.lenS Try.underlying9 hF rfl rfl rfl ?_
      refine L.bin hF rfl rfl rfl rfl rfl rfl ?_
      refine L.pick hF rfl rfl rfl rfl ?_
      refine L.nil ?_
      refine WpC.cond rfl (fun hc => ?_) (fun hc => ?_)
      · replace H := condT hc H
        refine WpC.seq ?_
        refine WpC.regionL ?_
        refine L.assign hF rfl rfl rfl ?_
        refine L.assign hF rfl rfl rfl ?_
        refine L.nil ?_
        refine WpC.ret ?_
        cases H
        exact Leaves.ret rfl rfl rfl ⟨rfl, rfl⟩
      · replace H := condF hc H
        refine WpC.skip ?_
        refine WpC.seq ?_
        refine WpC.regionL ?_
        refine L.move hF rfl rfl rfl ?_
        refine L.assign hF rfl rfl rfl ?_
        refine L.assign hF rfl rfl rfl ?_
        refine L.nil ?_
        refine WpC.ret ?_
        cases H
        exact Leaves.ret rfl rfl rfl ⟨rfl, rfl⟩
/-! ### Fspec_ReadNums -/
def Fspec_ReadNums.j14 (cl12 : (List Int) → (List (List UInt8)) → Bool → Int → Option (List Int × Bool)) (k : Nat) (v104 : List Int) (v105 : List (List UInt8)) (v106 : Bool) (v107 : Int) (v108 : Int) : Option (List Int × Bool) := cond (decide ((2 * (v104.length + ([v108] : List Int).length) + 192) * 8 ≤ 281474976710656)) (cl12 (v104 ++ ([v108] : List Int)) v105 v106 (IntKind.i64.wrap (v107 + (1 : Int)))) none
def Fspec_ReadNums.l12 : Nat → (List Int) → (List (List UInt8)) → Bool → Int → Option (List Int × Bool)
  | 0, _, _, _, _ => none
  | k12 + 1, v90, v91, v92, v93 => cond (decide (v93 < (v91.length : Int))) ((at? v91 v93).bind fun b102 => (Fspec_ReadNum k12 b102).bind fun r103 => cond v92 (Fspec_ReadNums.j14 (Fspec_ReadNums.l12 k12) k12 v90 v91 r103.2 v93 r103.1) (Fspec_ReadNums.j14 (Fspec_ReadNums.l12 k12) k12 v90 v91 false v93 r103.1)) (cond (!v92) (some (([] : List Int), false)) (some (v90, true)))
def Fspec_ReadNums (k : Nat) (a0 : List UInt8) : Option (List Int × Bool) := (Fspec_Parts k a0).bind fun r1 => Fspec_ReadNums.l12 k ([] : List Int) r1.1 r1.2 (0 : Int)
theorem ent134 : Enters Try.prog 134 := ⟨Try.f134, Try.func134, rfl, by decide⟩
set_option maxHeartbeats 8000000 in
set_option maxRecDepth 100000 in
theorem Fspec_ReadNums_gives (k : Nat) (a0 : List UInt8) (r : List Int × Bool) (H : Fspec_ReadNums k a0 = some r) : Gives Try.prog 134 [V.one (cS a0)] [] [V.one (Cell.ow 1 (List.map eI r.1)), V.one (cL r.2)] [] := by
  refine Gives.intro Try.func134 rfl rfl rfl rfl ?_
  intro F hF hm
  unfold Fspec_ReadNums at H
  obtain ⟨K, hK⟩ : ∃ K, k ≤ K := ⟨k, Nat.le_refl k⟩
  refine WpC.seq ?_
  refine WpC.regionL ?_
  refine L.assign hF rfl rfl rfl ?_
  refine L.assign hF rfl rfl rfl ?_
  refine L.nil ?_
  refine WpC.seq ?_
  refine WpC.regionL ?_
  refine L.buildSlice (e := eI) 1 ([] : List Int) Try.underlying24 info3 rfl rfl rfl hF rfl rfl rfl rfl rfl rfl rfl rfl ?_
  refine L.assign hF rfl rfl rfl ?_
  refine L.nil ?_
  refine WpC.seq ?_
  refine WpC.regionL ?_
  refine L.move hF rfl rfl rfl ?_
  obtain ⟨r1, hr1, H⟩ := bindS H
  refine L.call [false] [] [] 2 hF rfl rfl rfl ent141 rfl rfl rfl rfl rfl (Fspec_Parts_gives k  a0 r1 hr1) rfl ?_
  refine L.move hF rfl rfl rfl ?_
  refine L.extract hF rfl rfl rfl rfl ?_
  refine L.extract hF rfl rfl rfl rfl ?_
  refine L.assign hF rfl rfl rfl ?_
  refine L.assign hF rfl rfl rfl ?_
  refine L.nil ?_
  refine WpC.seq ?_
  refine WpC.seq ?_
  refine WpC.regionL ?_
  refine L.assign hF rfl rfl rfl ?_
  refine L.nil ?_
  refine WpC.block ?_
  refine WpC.loopL (P := Try.prog) (fun n σ => ∃ v90 : List Int, ∃ v91 : List (List UInt8), ∃ v92 : Bool, ∃ v93 : Int, n ≤ K ∧ Fspec_ReadNums.l12 n v90 v91 v92 v93 = some r ∧ σ = mkSt [(4, one (Cell.own 0)), (5, one (Cell.own 1)), (6, one (cL v92)), (7, one (cI v93))] [(0, ⟨1, List.map eI v90⟩), (1, ⟨1, List.map eS v91⟩)] [] 2) k ⟨_, ⟨([] : List Int), r1.1, r1.2, (0 : Int), by omega, H, rfl⟩, Le.mk [(0, 1), (1, 2)] hm rfl ⟨⟨_, rfl, rfl⟩, ⟨_, rfl, rfl⟩, ⟨_, rfl, rfl⟩, ⟨_, rfl, rfl⟩, trivial⟩ ⟨⟨_, rfl, rfl⟩, ⟨_, rfl, rfl⟩, trivial⟩ trivial⟩ ?_
  clear H
  rintro k12 _ ⟨v90, v91, v92, v93, hk12, H, rfl⟩
  cases k12 with
  | zero => cases H
  | succ k12 =>
    rw [Fspec_ReadNums.l12] at H
    refine WpC.seq ?_
    refine WpC.seq ?_
    refine WpC.regionL ?_
    refine L.move hF rfl rfl rfl ?_
    refine L.move hF rfl rfl rfl ?_
    refine L.lenR (xs := v91) (e := eS) Try.underlying120 hF rfl rfl rfl rfl ?_
    refine L.bin hF rfl rfl rfl rfl rfl rfl ?_
    refine L.nil ?_
    refine WpC.cond rfl (fun hc => ?_) (fun hc => ?_)
    · replace H := condT hc H
      refine WpC.skip ?_
      refine WpC.seq ?_
      refine WpC.block ?_
      refine WpC.seq ?_
      refine WpC.regionL ?_
      refine L.move hF rfl rfl rfl ?_
      refine L.move hF rfl rfl rfl ?_
      obtain ⟨b102, hb102, H⟩ := bindS H
      refine L.idxR (xs := v91) (e := eS) Try.underlying120 info9 hF rfl rfl rfl rfl rfl hb102 rfl rfl ?_
      refine L.loadEp (xs := v91) (e := eS) shape9 hF rfl rfl rfl rfl (at?_get hb102).2 rfl rfl ?_
      obtain ⟨r103, hr103, H⟩ := bindS H
      refine L.call [false] [] [] 2 hF rfl rfl rfl ent224 rfl rfl rfl rfl rfl (Fspec_ReadNum_gives k12  b102 r103 hr103) rfl ?_
      refine L.move hF rfl rfl rfl ?_
      refine L.extract hF rfl rfl rfl rfl ?_
      refine L.extract hF rfl rfl rfl rfl ?_
      refine L.assign hF rfl rfl rfl ?_
      refine L.assign hF rfl rfl rfl ?_
      refine L.nil ?_
      refine WpC.join (fun σ => ∃ kj14 : Nat, ∃ v104 : List Int, ∃ v105 : List (List UInt8), ∃ v106 : Bool, ∃ v107 : Int, ∃ v108 : Int, kj14 ≤ K ∧ Fspec_ReadNums.j14 (Fspec_ReadNums.l12 k12) kj14 v104 v105 v106 v107 v108 = some r ∧ σ = mkSt [(4, one (Cell.own 0)), (5, one (Cell.own 1)), (6, one (cL v106)), (7, one (cI v107)), (8, one (cI v108))] [(0, ⟨1, List.map eI v104⟩), (1, ⟨1, List.map eS v105⟩)] [] 2) ?_ ?_
      · rintro _ ⟨kj14, v104, v105, v106, v107, v108, hkj14, H, rfl⟩
        unfold Fspec_ReadNums.j14 at H
        refine WpC.regionL ?_
        refine L.move hF rfl rfl rfl ?_
        refine L.move hF rfl rfl rfl ?_
        refine L.buildSlice (e := eI) 2 ([v108] : List Int) Try.underlying24 info3 rfl rfl rfl hF rfl rfl rfl rfl rfl rfl rfl rfl ?_
        obtain ⟨h109, H⟩ := condG H
        refine L.append (xs := v104) (ys := ([v108] : List Int)) (e := eI) 3 Try.underlying24 info3 rfl rfl hF rfl rfl rfl rfl rfl rfl rfl rfl (fun _ => rfl) (fun _ _ h1 h2 => by cases h1; cases h2; rfl) ⟨_, Try.underlying24⟩ (of_decide_eq_true h109) rfl rfl ?_
        refine L.assign hF rfl rfl rfl ?_
        refine L.nil ?_
        refine WpC.regionL ?_
        refine L.move hF rfl rfl rfl ?_
        refine L.bin hF rfl rfl rfl rfl rfl rfl ?_
        refine L.assign hF rfl rfl rfl ?_
        refine L.nil ?_
        exact ⟨k12, _, by omega, ⟨(v104 ++ ([v108] : List Int)), v105, v106, (IntKind.i64.wrap (v107 + (1 : Int))), by omega, H, rfl⟩, Le.mk [(0, 3), (1, 1)] hm rfl ⟨⟨_, rfl, rfl⟩, ⟨_, rfl, rfl⟩, ⟨_, rfl, rfl⟩, ⟨_, rfl, rfl⟩, trivial⟩ ⟨⟨_, rfl, rfl⟩, ⟨_, rfl, rfl⟩, trivial⟩ trivial⟩
      · refine WpC.regionL ?_
        refine L.move hF rfl rfl rfl ?_
        refine L.move hF rfl rfl rfl ?_
        refine L.split (fun hc => ?_) (fun hc => ?_)
        · replace H := condT hc H
          refine L.move hF rfl rfl rfl ?_
          refine L.pick hF rfl rfl rfl rfl ?_
          refine L.assign hF rfl rfl rfl ?_
          refine L.nil ?_
          exact ⟨_, ⟨k12, v90, v91, r103.2, v93, r103.1, by omega, H, rfl⟩, Le.mk [(0, 0), (1, 1)] hm rfl ⟨⟨_, rfl, rfl⟩, ⟨_, rfl, rfl⟩, ⟨_, rfl, rfl⟩, ⟨_, rfl, rfl⟩, ⟨_, rfl, rfl⟩, trivial⟩ ⟨⟨_, rfl, rfl⟩, ⟨_, rfl, rfl⟩, trivial⟩ trivial⟩
        · replace H := condF hc H
          refine L.off hF rfl rfl ?_
          refine L.pick hF rfl rfl rfl rfl ?_
          refine L.assign hF rfl rfl rfl ?_
          refine L.nil ?_
          exact ⟨_, ⟨k12, v90, v91, false, v93, r103.1, by omega, H, rfl⟩, Le.mk [(0, 0), (1, 1)] hm rfl ⟨⟨_, rfl, rfl⟩, ⟨_, rfl, rfl⟩, ⟨_, rfl, rfl⟩, ⟨_, rfl, rfl⟩, ⟨_, rfl, rfl⟩, trivial⟩ ⟨⟨_, rfl, rfl⟩, ⟨_, rfl, rfl⟩, trivial⟩ trivial⟩
    · replace H := condF hc H
      refine WpC.exit ?_
      refine WpC.seq ?_
      refine WpC.seq ?_
      refine WpC.regionL ?_
      refine L.move hF rfl rfl rfl ?_
      refine L.not hF rfl rfl rfl ?_
      refine L.nil ?_
      refine WpC.cond rfl (fun hc => ?_) (fun hc => ?_)
      · replace H := condT hc H
        refine WpC.seq ?_
        refine WpC.regionL ?_
        refine L.buildSlice (e := eI) 2 ([] : List Int) Try.underlying24 info3 rfl rfl rfl hF rfl rfl rfl rfl rfl rfl rfl rfl ?_
        refine L.assign hF rfl rfl rfl ?_
        refine L.assign hF rfl rfl rfl ?_
        refine L.nil ?_
        refine WpC.ret ?_
        cases H
        exact Leaves.ret rfl rfl rfl ⟨rfl, rfl⟩
      · replace H := condF hc H
        refine WpC.skip ?_
        refine WpC.seq ?_
        refine WpC.regionL ?_
        refine L.move hF rfl rfl rfl ?_
        refine L.assign hF rfl rfl rfl ?_
        refine L.assign hF rfl rfl rfl ?_
        refine L.nil ?_
        refine WpC.ret ?_
        cases H
        exact Leaves.ret rfl rfl rfl ⟨rfl, rfl⟩
/-! ### Fspec_Open -/
def Fspec_Open (k : Nat) (a0 : List UInt8) (a1 : Int) : Option (List UInt8 × Bool) := (Fspec_TermOk k a0).bind fun r7 => cond (!r7) (some (([] : List UInt8), false)) ((at? a0 (0 : Int)).bind fun b8 => cond (b8 != (115 : UInt8)) (some (([] : List UInt8), false)) ((cut? a0 (1 : Int) (a0.length : Int)).bind fun b9 => (Fspec_ReadVar k b9).bind fun r10 => cond (r10.1 != a1) (some (([] : List UInt8), false)) ((cut? a0 (IntKind.i64.wrap ((1 : Int) + r10.2)) (a0.length : Int)).bind fun b11 => some (b11, true))))
theorem ent231 : Enters Try.prog 231 := ⟨Try.f231, Try.func231, rfl, by decide⟩
set_option maxHeartbeats 8000000 in
set_option maxRecDepth 100000 in
theorem Fspec_Open_gives (k : Nat) (a0 : List UInt8) (a1 : Int) (r : List UInt8 × Bool) (H : Fspec_Open k a0 a1 = some r) : Gives Try.prog 231 [V.one (cS a0), V.one (cI a1)] [] [V.one (cS r.1), V.one (cL r.2)] [] := by
  refine Gives.intro Try.func231 rfl rfl rfl rfl ?_
  intro F hF hm
  unfold Fspec_Open at H
  obtain ⟨K, hK⟩ : ∃ K, k ≤ K := ⟨k, Nat.le_refl k⟩
  refine WpC.seq ?_
  refine WpC.regionL ?_
  refine L.assign hF rfl rfl rfl ?_
  refine L.assign hF rfl rfl rfl ?_
  refine L.nil ?_
  refine WpC.seq ?_
  refine WpC.seq ?_
  refine WpC.regionL ?_
  refine L.move hF rfl rfl rfl ?_
  obtain ⟨r7, hr7, H⟩ := bindS H
  refine L.call [false] [] [] 2 hF rfl rfl rfl ent229 rfl rfl rfl rfl rfl (Fspec_TermOk_gives k  a0 r7 hr7) rfl ?_
  refine L.not hF rfl rfl rfl ?_
  refine L.move hF rfl rfl rfl ?_
  refine L.split (fun hc => ?_) (fun hc => ?_)
  · replace H := condT hc H
    refine L.off hF rfl rfl ?_
    refine L.off hF rfl rfl ?_
    refine L.off hF rfl rfl ?_
    refine L.pick hF rfl rfl rfl rfl ?_
    refine L.nil ?_
    refine WpC.cond rfl (fun _ => ?_) (fun hc => by cases hc)
    refine WpC.seq ?_
    refine WpC.regionL ?_
    refine L.assign hF rfl rfl rfl ?_
    refine L.assign hF rfl rfl rfl ?_
    refine L.nil ?_
    refine WpC.ret ?_
    cases H
    exact Leaves.ret rfl rfl rfl ⟨rfl, rfl⟩
  · replace H := condF hc H
    refine L.move hF rfl rfl rfl ?_
    obtain ⟨b8, hb8, H⟩ := bindS H
    refine L.idxS Try.underlying9 hF rfl rfl rfl rfl hb8 ?_
    refine L.binB (a := b8) (b := (115 : UInt8)) hF rfl rfl rfl rfl rfl ?_
    refine L.pick hF rfl rfl rfl rfl ?_
    refine L.nil ?_
    refine WpC.cond rfl (fun hc => ?_) (fun hc => ?_)
    · replace H := condT hc H
      refine WpC.seq ?_
      refine WpC.regionL ?_
      refine L.assign hF rfl rfl rfl ?_
      refine L.assign hF rfl rfl rfl ?_
      refine L.nil ?_
      refine WpC.ret ?_
      cases H
      exact Leaves.ret rfl rfl rfl ⟨rfl, rfl⟩
    · replace H := condF hc H
      refine WpC.skip ?_
      refine WpC.seq ?_
      refine WpC.regionL ?_
      refine L.move hF rfl rfl rfl ?_
      obtain ⟨b9, hb9, H⟩ := bindS H
      refine L.cutS Try.underlying9 hF rfl rfl rfl rfl rfl hb9 ?_
      obtain ⟨r10, hr10, H⟩ := bindS H
      refine L.call [false] [] [] 3 hF rfl rfl rfl ent216 rfl rfl rfl rfl rfl (Fspec_ReadVar_gives k  b9 r10 hr10) rfl ?_
      refine L.move hF rfl rfl rfl ?_
      refine L.extract hF rfl rfl rfl rfl ?_
      refine L.extract hF rfl rfl rfl rfl ?_
      refine L.assign hF rfl rfl rfl ?_
      refine L.assign hF rfl rfl rfl ?_
      refine L.nil ?_
      refine WpC.seq ?_
      refine WpC.seq ?_
      refine WpC.regionL ?_
      refine L.move hF rfl rfl rfl ?_
      refine L.move hF rfl rfl rfl ?_
      refine L.bin hF rfl rfl rfl rfl rfl rfl ?_
      refine L.nil ?_
      refine WpC.cond rfl (fun hc => ?_) (fun hc => ?_)
      · replace H := condT hc H
        refine WpC.seq ?_
        refine WpC.regionL ?_
        refine L.assign hF rfl rfl rfl ?_
        refine L.assign hF rfl rfl rfl ?_
        refine L.nil ?_
        refine WpC.ret ?_
        cases H
        exact Leaves.ret rfl rfl rfl ⟨rfl, rfl⟩
      · replace H := condF hc H
        refine WpC.skip ?_
        refine WpC.seq ?_
        refine WpC.regionL ?_
        refine L.move hF rfl rfl rfl ?_
        refine L.move hF rfl rfl rfl ?_
        refine L.bin hF rfl rfl rfl rfl rfl rfl ?_
        obtain ⟨b11, hb11, H⟩ := bindS H
        refine L.cutS Try.underlying9 hF rfl rfl rfl rfl rfl hb11 ?_
        refine L.assign hF rfl rfl rfl ?_
        refine L.assign hF rfl rfl rfl ?_
        refine L.nil ?_
        refine WpC.ret ?_
        cases H
        exact Leaves.ret rfl rfl rfl ⟨rfl, rfl⟩
/-! ### Fspec_ReadKey -/
def Fspec_ReadKey (k : Nat) (a0 : List UInt8) : Option (Int × Bool) := (Fspec_TermOk k a0).bind fun r7 => cond (!r7) (some ((0 : Int), false)) ((at? a0 (0 : Int)).bind fun b8 => cond (b8 != (107 : UInt8)) (some ((0 : Int), false)) ((cut? a0 (1 : Int) (a0.length : Int)).bind fun b9 => (Fspec_ReadVar k b9).bind fun r10 => some (r10.1, true)))
theorem ent232 : Enters Try.prog 232 := ⟨Try.f232, Try.func232, rfl, by decide⟩
set_option maxHeartbeats 8000000 in
set_option maxRecDepth 100000 in
theorem Fspec_ReadKey_gives (k : Nat) (a0 : List UInt8) (r : Int × Bool) (H : Fspec_ReadKey k a0 = some r) : Gives Try.prog 232 [V.one (cS a0)] [] [V.one (cI r.1), V.one (cL r.2)] [] := by
  refine Gives.intro Try.func232 rfl rfl rfl rfl ?_
  intro F hF hm
  unfold Fspec_ReadKey at H
  obtain ⟨K, hK⟩ : ∃ K, k ≤ K := ⟨k, Nat.le_refl k⟩
  refine WpC.seq ?_
  refine WpC.regionL ?_
  refine L.assign hF rfl rfl rfl ?_
  refine L.assign hF rfl rfl rfl ?_
  refine L.nil ?_
  refine WpC.seq ?_
  refine WpC.seq ?_
  refine WpC.regionL ?_
  refine L.move hF rfl rfl rfl ?_
  obtain ⟨r7, hr7, H⟩ := bindS H
  refine L.call [false] [] [] 1 hF rfl rfl rfl ent229 rfl rfl rfl rfl rfl (Fspec_TermOk_gives k  a0 r7 hr7) rfl ?_
  refine L.not hF rfl rfl rfl ?_
  refine L.move hF rfl rfl rfl ?_
  refine L.split (fun hc => ?_) (fun hc => ?_)
  · replace H := condT hc H
    refine L.off hF rfl rfl ?_
    refine L.off hF rfl rfl ?_
    refine L.off hF rfl rfl ?_
    refine L.pick hF rfl rfl rfl rfl ?_
    refine L.nil ?_
    refine WpC.cond rfl (fun _ => ?_) (fun hc => by cases hc)
    refine WpC.seq ?_
    refine WpC.regionL ?_
    refine L.assign hF rfl rfl rfl ?_
    refine L.assign hF rfl rfl rfl ?_
    refine L.nil ?_
    refine WpC.ret ?_
    cases H
    exact Leaves.ret rfl rfl rfl ⟨rfl, rfl⟩
  · replace H := condF hc H
    refine L.move hF rfl rfl rfl ?_
    obtain ⟨b8, hb8, H⟩ := bindS H
    refine L.idxS Try.underlying9 hF rfl rfl rfl rfl hb8 ?_
    refine L.binB (a := b8) (b := (107 : UInt8)) hF rfl rfl rfl rfl rfl ?_
    refine L.pick hF rfl rfl rfl rfl ?_
    refine L.nil ?_
    refine WpC.cond rfl (fun hc => ?_) (fun hc => ?_)
    · replace H := condT hc H
      refine WpC.seq ?_
      refine WpC.regionL ?_
      refine L.assign hF rfl rfl rfl ?_
      refine L.assign hF rfl rfl rfl ?_
      refine L.nil ?_
      refine WpC.ret ?_
      cases H
      exact Leaves.ret rfl rfl rfl ⟨rfl, rfl⟩
    · replace H := condF hc H
      refine WpC.skip ?_
      refine WpC.seq ?_
      refine WpC.regionL ?_
      refine L.move hF rfl rfl rfl ?_
      obtain ⟨b9, hb9, H⟩ := bindS H
      refine L.cutS Try.underlying9 hF rfl rfl rfl rfl rfl hb9 ?_
      obtain ⟨r10, hr10, H⟩ := bindS H
      refine L.call [false] [] [] 2 hF rfl rfl rfl ent216 rfl rfl rfl rfl rfl (Fspec_ReadVar_gives k  b9 r10 hr10) rfl ?_
      refine L.move hF rfl rfl rfl ?_
      refine L.extract hF rfl rfl rfl rfl ?_
      refine L.extract hF rfl rfl rfl rfl ?_
      refine L.assign hF rfl rfl rfl ?_
      refine L.assign hF rfl rfl rfl ?_
      refine L.nil ?_
      refine WpC.seq ?_
      refine WpC.regionL ?_
      refine L.move hF rfl rfl rfl ?_
      refine L.assign hF rfl rfl rfl ?_
      refine L.assign hF rfl rfl rfl ?_
      refine L.nil ?_
      refine WpC.ret ?_
      cases H
      exact Leaves.ret rfl rfl rfl ⟨rfl, rfl⟩
/-! ### Fspec_RestOk -/
def Fspec_RestOk (k : Nat) (a0 : Timpl_Rest) : Option Bool := (Fspec_l1In k a0.Servers (0 : Int) (7 : Int)).bind fun r4 => cond r4 ((Fspec_l1In k a0.Ops (0 : Int) (255 : Int)).bind fun r5 => cond r5 ((Fspec_l1In k a0.End (0 : Int) (100000 : Int)).bind fun r6 => some r6) (some false)) (some false)
theorem ent151 : Enters Try.prog 151 := ⟨Try.f151, Try.func151, rfl, by decide⟩
set_option maxHeartbeats 8000000 in
set_option maxRecDepth 100000 in
theorem Fspec_RestOk_gives (k : Nat) (a0 : Timpl_Rest) (r : Bool) (H : Fspec_RestOk k a0 = some r) : Gives Try.prog 151 [V.agg [cI a0.Servers, cI a0.Ops, cI a0.End]] [] [V.one (cL r)] [] := by
  refine Gives.intro Try.func151 rfl rfl rfl rfl ?_
  intro F hF hm
  unfold Fspec_RestOk at H
  obtain ⟨K, hK⟩ : ∃ K, k ≤ K := ⟨k, Nat.le_refl k⟩
  refine WpC.seq ?_
  refine WpC.regionL ?_
  refine L.box 3 hF rfl rfl rfl rfl ?_
  refine L.assign hF rfl rfl rfl ?_
  refine L.nil ?_
  refine WpC.seq ?_
  refine WpC.regionL ?_
  refine L.fieldAddr Try.underlying74 rfl info3 rfl hF rfl rfl rfl rfl rfl ?_
  refine L.loadPtr shape3 hF rfl rfl rfl rfl rfl rfl ?_
  obtain ⟨r4, hr4, H⟩ := bindS H
  refine L.call [false, false, false] [] [] 4 hF rfl rfl rfl ent152 rfl rfl rfl rfl rfl (Fspec_l1In_gives k  a0.Servers (0 : Int) (7 : Int) r4 hr4) rfl ?_
  refine L.move hF rfl rfl rfl ?_
  refine L.split (fun hc => ?_) (fun hc => ?_)
  · replace H := condT hc H
    refine L.fieldAddr Try.underlying74 rfl info3 rfl hF rfl rfl rfl rfl rfl ?_
    refine L.loadPtr shape3 hF rfl rfl rfl rfl rfl rfl ?_
    obtain ⟨r5, hr5, H⟩ := bindS H
    refine L.call [false, false, false] [] [] 5 hF rfl rfl rfl ent152 rfl rfl rfl rfl rfl (Fspec_l1In_gives k  a0.Ops (0 : Int) (255 : Int) r5 hr5) rfl ?_
    refine L.pick hF rfl rfl rfl rfl ?_
    refine L.move hF rfl rfl rfl ?_
    refine L.split (fun hc => ?_) (fun hc => ?_)
    · replace H := condT hc H
      refine L.fieldAddr Try.underlying74 rfl info3 rfl hF rfl rfl rfl rfl rfl ?_
      refine L.loadPtr shape3 hF rfl rfl rfl rfl rfl rfl ?_
      obtain ⟨r6, hr6, H⟩ := bindS H
      refine L.call [false, false, false] [] [] 6 hF rfl rfl rfl ent152 rfl rfl rfl rfl rfl (Fspec_l1In_gives k  a0.End (0 : Int) (100000 : Int) r6 hr6) rfl ?_
      refine L.pick hF rfl rfl rfl rfl ?_
      refine L.assign hF rfl rfl rfl ?_
      refine L.nil ?_
      refine WpC.ret ?_
      cases H
      exact Leaves.ret rfl rfl rfl ⟨rfl, rfl⟩
    · replace H := condF hc H
      refine L.off hF rfl rfl ?_
      refine L.off hF rfl rfl ?_
      refine L.off hF rfl rfl ?_
      refine L.pick hF rfl rfl rfl rfl ?_
      refine L.assign hF rfl rfl rfl ?_
      refine L.nil ?_
      refine WpC.ret ?_
      cases H
      exact Leaves.ret rfl rfl rfl ⟨rfl, rfl⟩
  · replace H := condF hc H
    refine L.off hF rfl rfl ?_
    refine L.off hF rfl rfl ?_
    refine L.off hF rfl rfl ?_
    refine L.pick hF rfl rfl rfl rfl ?_
    refine L.move hF rfl rfl rfl ?_
    refine L.off hF rfl rfl ?_
    refine L.off hF rfl rfl ?_
    refine L.off hF rfl rfl ?_
    refine L.pick hF rfl rfl rfl rfl ?_
    refine L.assign hF rfl rfl rfl ?_
    refine L.nil ?_
    refine WpC.ret ?_
    cases H
    exact Leaves.ret rfl rfl rfl ⟨rfl, rfl⟩
/-! ### Fspec_ReadRest -/
def Fspec_ReadRest.j2 (k : Nat) (v4 : List Int) (v5 : Bool) : Option (Timpl_Rest × Bool) := cond v5 (some ((⟨(0 : Int), (0 : Int), (0 : Int)⟩ : Timpl_Rest), false)) ((at? v4 (0 : Int)).bind fun b6 => (at? v4 (1 : Int)).bind fun b7 => (at? v4 (2 : Int)).bind fun b8 => (Fspec_RestOk k (⟨b6, b7, b8⟩ : Timpl_Rest)).bind fun r10 => cond (!r10) (some ((⟨(0 : Int), (0 : Int), (0 : Int)⟩ : Timpl_Rest), false)) (some ((⟨b6, b7, b8⟩ : Timpl_Rest), true)))
def Fspec_ReadRest (k : Nat) (a0 : List UInt8) : Option (Timpl_Rest × Bool) := (Fspec_ReadNums k a0).bind fun r1 => cond (!r1.2) (Fspec_ReadRest.j2 k r1.1 true) (Fspec_ReadRest.j2 k r1.1 ((r1.1.length : Int) != (3 : Int)))
theorem ent233 : Enters Try.prog 233 := ⟨Try.f233, Try.func233, rfl, by decide⟩
set_option maxHeartbeats 8000000 in
set_option maxRecDepth 100000 in
theorem Fspec_ReadRest_gives (k : Nat) (a0 : List UInt8) (r : Timpl_Rest × Bool) (H : Fspec_ReadRest k a0 = some r) : Gives Try.prog 233 [V.one (cS a0)] [] [V.agg [cI r.1.Servers, cI r.1.Ops, cI r.1.End], V.one (cL r.2)] [] := by
  refine Gives.intro Try.func233 rfl rfl rfl rfl ?_
  intro F hF hm
  unfold Fspec_ReadRest at H
  obtain ⟨K, hK⟩ : ∃ K, k ≤ K := ⟨k, Nat.le_refl k⟩
  refine WpC.seq ?_
  refine WpC.regionL ?_
  refine L.alloc 1 info74 rfl hF rfl rfl rfl rfl ?_
  refine L.assign hF rfl rfl rfl ?_
  refine L.nil ?_
  refine WpC.seq ?_
  refine WpC.regionL ?_
  refine L.move hF rfl rfl rfl ?_
  obtain ⟨r1, hr1, H⟩ := bindS H
  refine L.call [false] [] [] 2 hF rfl rfl rfl ent134 rfl rfl rfl rfl rfl (Fspec_ReadNums_gives k  a0 r1 hr1) rfl ?_
  refine L.move hF rfl rfl rfl ?_
  refine L.extract hF rfl rfl rfl rfl ?_
  refine L.extract hF rfl rfl rfl rfl ?_
  refine L.assign hF rfl rfl rfl ?_
  refine L.assign hF rfl rfl rfl ?_
  refine L.nil ?_
  refine WpC.seq ?_
  refine WpC.join (fun σ => ∃ kj2 : Nat, ∃ v4 : List Int, ∃ v5 : Bool, kj2 ≤ K ∧ Fspec_ReadRest.j2 kj2 v4 v5 = some r ∧ σ = mkSt [(2, one (Cell.ptr 0 0)), (4, one (Cell.own 1)), (18, one (cL v5))] [(1, ⟨1, List.map eI v4⟩)] [(0, [cI (0 : Int), cI (0 : Int), cI (0 : Int)])] 2) ?_ ?_
  · rintro _ ⟨kj2, v4, v5, hkj2, H, rfl⟩
    unfold Fspec_ReadRest.j2 at H
    refine WpC.cond rfl (fun hc => ?_) (fun hc => ?_)
    · replace H := condT hc H
      refine WpC.seq ?_
      refine WpC.regionL ?_
      refine L.buildF built74 hF rfl rfl rfl rfl ?_
      refine L.storePtr shape74 hF rfl rfl rfl rfl rfl rfl rfl ?_
      refine L.assign hF rfl rfl rfl ?_
      refine L.nil ?_
      refine WpC.ret ?_
      cases H
      exact Leaves.ret rfl rfl rfl ⟨rfl, rfl⟩
    · replace H := condF hc H
      refine WpC.skip ?_
      refine WpC.seq ?_
      obtain ⟨b6, hb6, H⟩ := bindS H
      obtain ⟨b7, hb7, H⟩ := bindS H
      obtain ⟨b8, hb8, H⟩ := bindS H
      refine A.begin mixed rfl rfl ?_
      intro W hI hO
      have n4095 : W 0 #[true, true, true, true, true, true, true, true, true, true, true, true] (mkSt [(2, one (Cell.ptr 0 0)), (6, one (Cell.ptr 1 0))] [] [(0, [cI (0 : Int), cI (0 : Int), cI (0 : Int)]), (1, [cI b6, cI b7, cI b8])] 2) := by
        refine hI _ _ _ (A.done (by kernel_rfl) ?_)
        refine WpC.seq ?_
        refine WpC.seq ?_
        refine WpC.regionL ?_
        refine L.loadPtr shape74 hF rfl rfl rfl rfl rfl rfl ?_
        obtain ⟨r10, hr10, H⟩ := bindS H
        refine L.call [false] [] [] 2 hF rfl rfl rfl ent151 rfl rfl rfl rfl rfl (Fspec_RestOk_gives kj2  (⟨b6, b7, b8⟩ : Timpl_Rest) r10 hr10) rfl ?_
        refine L.not hF rfl rfl rfl ?_
        refine L.nil ?_
        refine WpC.cond rfl (fun hc => ?_) (fun hc => ?_)
        · replace H := condT hc H
          refine WpC.seq ?_
          refine WpC.regionL ?_
          refine L.buildF built74 hF rfl rfl rfl rfl ?_
          refine L.storePtr shape74 hF rfl rfl rfl rfl rfl rfl rfl ?_
          refine L.assign hF rfl rfl rfl ?_
          refine L.nil ?_
          refine WpC.ret ?_
          cases H
          exact Leaves.ret rfl rfl rfl ⟨rfl, rfl⟩
        · replace H := condF hc H
          refine WpC.skip ?_
          refine WpC.seq ?_
          refine WpC.regionL ?_
          refine L.loadPtr shape74 hF rfl rfl rfl rfl rfl rfl ?_
          refine L.storePtr shape74 hF rfl rfl rfl rfl rfl rfl rfl ?_
          refine L.assign hF rfl rfl rfl ?_
          refine L.nil ?_
          refine WpC.ret ?_
          cases H
          exact Leaves.ret rfl rfl rfl ⟨rfl, rfl⟩
      have n2047 : W 1 #[true, true, true, true, true, true, true, true, true, true, true, false] (mkSt [(2, one (Cell.ptr 0 0)), (6, one (Cell.ptr 1 0)), (29, agg [cI b6, cI b7, cI b8])] [] [(0, [cI (0 : Int), cI (0 : Int), cI (0 : Int)]), (1, [cI (0 : Int), cI (0 : Int), cI (0 : Int)])] 2) := by
        refine hI _ _ _ ?_
        refine A.all [11] (by kernel_rfl) rfl ⟨⟨_, rfl, ?_⟩, trivial⟩
        · refine L.storePtr shape74 hF rfl rfl rfl rfl rfl rfl rfl ?_
          refine L.nil ?_
          exact A.on (hO _ _ _ n4095) (Le.mk [(0, 0), (1, 1)] hm rfl ⟨⟨_, rfl, rfl⟩, ⟨_, rfl, rfl⟩, trivial⟩ trivial ⟨⟨_, _, rfl, rfl, rfl⟩, ⟨_, _, rfl, rfl, rfl⟩, trivial⟩)
      have n1023 : W 2 #[true, true, true, true, true, true, true, true, true, true, false, false] (mkSt [(2, one (Cell.ptr 0 0)), (29, agg [cI b6, cI b7, cI b8])] [] [(0, [cI (0 : Int), cI (0 : Int), cI (0 : Int)])] 1) := by
        refine hI _ _ _ ?_
        refine A.all [10] (by kernel_rfl) rfl ⟨⟨_, rfl, ?_⟩, trivial⟩
        · refine L.alloc 1 info74 rfl hF rfl rfl rfl rfl ?_
          refine L.nil ?_
          exact A.on (hO _ _ _ n2047) (Le.mk [(0, 0), (1, 1)] hm rfl ⟨⟨_, rfl, rfl⟩, ⟨_, rfl, rfl⟩, ⟨_, rfl, rfl⟩, trivial⟩ trivial ⟨⟨_, _, rfl, rfl, rfl⟩, ⟨_, _, rfl, rfl, rfl⟩, trivial⟩)
      have n1535 : W 2 #[true, true, true, true, true, true, true, true, true, false, true, false] (mkSt [(2, one (Cell.ptr 0 0)), (6, one (Cell.ptr 1 0)), (22, one (cI b6)), (25, one (cI b7)), (28, one (cI b8))] [] [(0, [cI (0 : Int), cI (0 : Int), cI (0 : Int)]), (1, [cI (0 : Int), cI (0 : Int), cI (0 : Int)])] 2) := by
        refine hI _ _ _ ?_
        refine A.take 9 rfl (by kernel_rfl) (by kernel_rfl) (by kernel_rfl) rfl (Ca.build rfl (by rw [built74]; rfl)) (fun Q0 k0 => L.buildF built74 hF rfl rfl rfl rfl (L.nil k0)) ?_
        exact A.on (hO _ _ _ n2047) (Le.mk [(0, 0), (1, 1)] hm rfl ⟨⟨_, rfl, rfl⟩, ⟨_, rfl, rfl⟩, ⟨_, rfl, rfl⟩, trivial⟩ trivial ⟨⟨_, _, rfl, rfl, rfl⟩, ⟨_, _, rfl, rfl, rfl⟩, trivial⟩)
      have n511 : W 3 #[true, true, true, true, true, true, true, true, true, false, false, false] (mkSt [(2, one (Cell.ptr 0 0)), (22, one (cI b6)), (25, one (cI b7)), (28, one (cI b8))] [] [(0, [cI (0 : Int), cI (0 : Int), cI (0 : Int)])] 1) := by
        refine hI _ _ _ ?_
        refine A.take 9 rfl (by kernel_rfl) (by kernel_rfl) (by kernel_rfl) rfl (Ca.build rfl (by rw [built74]; rfl)) (fun Q0 k0 => L.buildF built74 hF rfl rfl rfl rfl (L.nil k0)) ?_
        exact A.on (hO _ _ _ n1023) (Le.mk [(0, 0)] hm rfl ⟨⟨_, rfl, rfl⟩, ⟨_, rfl, rfl⟩, trivial⟩ trivial ⟨⟨_, _, rfl, rfl, rfl⟩, trivial⟩)
      have n1531 : W 3 #[true, true, false, true, true, true, true, true, true, false, true, false] (mkSt [(2, one (Cell.ptr 0 0)), (6, one (Cell.ptr 1 0)), (21, one (Cell.ep 2 ((0 : Int).toNat) 0)), (25, one (cI b7)), (28, one (cI b8))] [(2, ⟨1, List.map eI v4⟩)] [(0, [cI (0 : Int), cI (0 : Int), cI (0 : Int)]), (1, [cI (0 : Int), cI (0 : Int), cI (0 : Int)])] 3) := by
        refine hI _ _ _ ?_
        refine A.all [2] (by kernel_rfl) rfl ⟨⟨_, rfl, ?_⟩, trivial⟩
        · refine L.loadEp (xs := v4) (e := eI) shape3 hF rfl rfl rfl rfl (at?_get hb6).2 rfl rfl ?_
          refine L.nil ?_
          exact A.on (hO _ _ _ n1535) (Le.mk [(0, 0), (1, 1)] hm rfl ⟨⟨_, rfl, rfl⟩, ⟨_, rfl, rfl⟩, ⟨_, rfl, rfl⟩, ⟨_, rfl, rfl⟩, ⟨_, rfl, rfl⟩, trivial⟩ trivial ⟨⟨_, _, rfl, rfl, rfl⟩, ⟨_, _, rfl, rfl, rfl⟩, trivial⟩)
      have n1503 : W 3 #[true, true, true, true, true, false, true, true, true, false, true, false] (mkSt [(2, one (Cell.ptr 0 0)), (6, one (Cell.ptr 1 0)), (22, one (cI b6)), (24, one (Cell.ep 2 ((1 : Int).toNat) 0)), (28, one (cI b8))] [(2, ⟨1, List.map eI v4⟩)] [(0, [cI (0 : Int), cI (0 : Int), cI (0 : Int)]), (1, [cI (0 : Int), cI (0 : Int), cI (0 : Int)])] 3) := by
        refine hI _ _ _ ?_
        refine A.all [5] (by kernel_rfl) rfl ⟨⟨_, rfl, ?_⟩, trivial⟩
        · refine L.loadEp (xs := v4) (e := eI) shape3 hF rfl rfl rfl rfl (at?_get hb7).2 rfl rfl ?_
          refine L.nil ?_
          exact A.on (hO _ _ _ n1535) (Le.mk [(0, 0), (1, 1)] hm rfl ⟨⟨_, rfl, rfl⟩, ⟨_, rfl, rfl⟩, ⟨_, rfl, rfl⟩, ⟨_, rfl, rfl⟩, ⟨_, rfl, rfl⟩, trivial⟩ trivial ⟨⟨_, _, rfl, rfl, rfl⟩, ⟨_, _, rfl, rfl, rfl⟩, trivial⟩)
      have n1279 : W 3 #[true, true, true, true, true, true, true, true, false, false, true, false] (mkSt [(2, one (Cell.ptr 0 0)), (6, one (Cell.ptr 1 0)), (22, one (cI b6)), (25, one (cI b7)), (27, one (Cell.ep 2 ((2 : Int).toNat) 0))] [(2, ⟨1, List.map eI v4⟩)] [(0, [cI (0 : Int), cI (0 : Int), cI (0 : Int)]), (1, [cI (0 : Int), cI (0 : Int), cI (0 : Int)])] 3) := by
        refine hI _ _ _ ?_
        refine A.all [8] (by kernel_rfl) rfl ⟨⟨_, rfl, ?_⟩, trivial⟩
        · refine L.loadEp (xs := v4) (e := eI) shape3 hF rfl rfl rfl rfl (at?_get hb8).2 rfl rfl ?_
          refine L.nil ?_
          exact A.on (hO _ _ _ n1535) (Le.mk [(0, 0), (1, 1)] hm rfl ⟨⟨_, rfl, rfl⟩, ⟨_, rfl, rfl⟩, ⟨_, rfl, rfl⟩, ⟨_, rfl, rfl⟩, ⟨_, rfl, rfl⟩, trivial⟩ trivial ⟨⟨_, _, rfl, rfl, rfl⟩, ⟨_, _, rfl, rfl, rfl⟩, trivial⟩)
      have n1247 : W 4 #[true, true, true, true, true, false, true, true, false, false, true, false] (mkSt [(2, one (Cell.ptr 0 0)), (6, one (Cell.ptr 1 0)), (22, one (cI b6)), (24, one (Cell.ep 2 ((1 : Int).toNat) 0)), (27, one (Cell.ep 2 ((2 : Int).toNat) 0))] [(2, ⟨1, List.map eI v4⟩)] [(0, [cI (0 : Int), cI (0 : Int), cI (0 : Int)]), (1, [cI (0 : Int), cI (0 : Int), cI (0 : Int)])] 3) := by
        refine hI _ _ _ ?_
        refine A.all [5, 8] (by kernel_rfl) rfl ⟨⟨_, rfl, ?_⟩, ⟨_, rfl, ?_⟩, trivial⟩
        · refine L.loadEp (xs := v4) (e := eI) shape3 hF rfl rfl rfl rfl (at?_get hb7).2 rfl rfl ?_
          refine L.nil ?_
          exact A.on (hO _ _ _ n1279) (Le.mk [(0, 0), (1, 1), (2, 2)] hm rfl ⟨⟨_, rfl, rfl⟩, ⟨_, rfl, rfl⟩, ⟨_, rfl, rfl⟩, ⟨_, rfl, rfl⟩, ⟨_, rfl, rfl⟩, trivial⟩ ⟨⟨_, rfl, rfl⟩, trivial⟩ ⟨⟨_, _, rfl, rfl, rfl⟩, ⟨_, _, rfl, rfl, rfl⟩, trivial⟩)
        · refine L.loadEp (xs := v4) (e := eI) shape3 hF rfl rfl rfl rfl (at?_get hb8).2 rfl rfl ?_
          refine L.nil ?_
          exact A.on (hO _ _ _ n1503) (Le.mk [(0, 0), (1, 1), (2, 2)] hm rfl ⟨⟨_, rfl, rfl⟩, ⟨_, rfl, rfl⟩, ⟨_, rfl, rfl⟩, ⟨_, rfl, rfl⟩, ⟨_, rfl, rfl⟩, trivial⟩ ⟨⟨_, rfl, rfl⟩, trivial⟩ ⟨⟨_, _, rfl, rfl, rfl⟩, ⟨_, _, rfl, rfl, rfl⟩, trivial⟩)
      have n1499 : W 4 #[true, true, false, true, true, false, true, true, true, false, true, false] (mkSt [(2, one (Cell.ptr 0 0)), (6, one (Cell.ptr 1 0)), (21, one (Cell.ep 2 ((0 : Int).toNat) 0)), (24, one (Cell.ep 2 ((1 : Int).toNat) 0)), (28, one (cI b8))] [(2, ⟨1, List.map eI v4⟩)] [(0, [cI (0 : Int), cI (0 : Int), cI (0 : Int)]), (1, [cI (0 : Int), cI (0 : Int), cI (0 : Int)])] 3) := by
        refine hI _ _ _ ?_
        refine A.all [2, 5] (by kernel_rfl) rfl ⟨⟨_, rfl, ?_⟩, ⟨_, rfl, ?_⟩, trivial⟩
        · refine L.loadEp (xs := v4) (e := eI) shape3 hF rfl rfl rfl rfl (at?_get hb6).2 rfl rfl ?_
          refine L.nil ?_
          exact A.on (hO _ _ _ n1503) (Le.mk [(0, 0), (1, 1), (2, 2)] hm rfl ⟨⟨_, rfl, rfl⟩, ⟨_, rfl, rfl⟩, ⟨_, rfl, rfl⟩, ⟨_, rfl, rfl⟩, ⟨_, rfl, rfl⟩, trivial⟩ ⟨⟨_, rfl, rfl⟩, trivial⟩ ⟨⟨_, _, rfl, rfl, rfl⟩, ⟨_, _, rfl, rfl, rfl⟩, trivial⟩)
        · refine L.loadEp (xs := v4) (e := eI) shape3 hF rfl rfl rfl rfl (at?_get hb7).2 rfl rfl ?_
          refine L.nil ?_
          exact A.on (hO _ _ _ n1531) (Le.mk [(0, 0), (1, 1), (2, 2)] hm rfl ⟨⟨_, rfl, rfl⟩, ⟨_, rfl, rfl⟩, ⟨_, rfl, rfl⟩, ⟨_, rfl, rfl⟩, ⟨_, rfl, rfl⟩, trivial⟩ ⟨⟨_, rfl, rfl⟩, trivial⟩ ⟨⟨_, _, rfl, rfl, rfl⟩, ⟨_, _, rfl, rfl, rfl⟩, trivial⟩)
      have n479 : W 4 #[true, true, true, true, true, false, true, true, true, false, false, false] (mkSt [(2, one (Cell.ptr 0 0)), (22, one (cI b6)), (24, one (Cell.ep 1 ((1 : Int).toNat) 0)), (28, one (cI b8))] [(1, ⟨1, List.map eI v4⟩)] [(0, [cI (0 : Int), cI (0 : Int), cI (0 : Int)])] 2) := by
        refine hI _ _ _ ?_
        refine A.all [5, 10] (by kernel_rfl) rfl ⟨⟨_, rfl, ?_⟩, ⟨_, rfl, ?_⟩, trivial⟩
        · refine L.loadEp (xs := v4) (e := eI) shape3 hF rfl rfl rfl rfl (at?_get hb7).2 rfl rfl ?_
          refine L.nil ?_
          exact A.on (hO _ _ _ n511) (Le.mk [(0, 0)] hm rfl ⟨⟨_, rfl, rfl⟩, ⟨_, rfl, rfl⟩, ⟨_, rfl, rfl⟩, ⟨_, rfl, rfl⟩, trivial⟩ trivial ⟨⟨_, _, rfl, rfl, rfl⟩, trivial⟩)
        · refine L.alloc 2 info74 rfl hF rfl rfl rfl rfl ?_
          refine L.nil ?_
          exact A.on (hO _ _ _ n1503) (Le.mk [(0, 0), (1, 2), (2, 1)] hm rfl ⟨⟨_, rfl, rfl⟩, ⟨_, rfl, rfl⟩, ⟨_, rfl, rfl⟩, ⟨_, rfl, rfl⟩, ⟨_, rfl, rfl⟩, trivial⟩ ⟨⟨_, rfl, rfl⟩, trivial⟩ ⟨⟨_, _, rfl, rfl, rfl⟩, ⟨_, _, rfl, rfl, rfl⟩, trivial⟩)
      have n507 : W 4 #[true, true, false, true, true, true, true, true, true, false, false, false] (mkSt [(2, one (Cell.ptr 0 0)), (21, one (Cell.ep 1 ((0 : Int).toNat) 0)), (25, one (cI b7)), (28, one (cI b8))] [(1, ⟨1, List.map eI v4⟩)] [(0, [cI (0 : Int), cI (0 : Int), cI (0 : Int)])] 2) := by
        refine hI _ _ _ ?_
        refine A.all [2, 10] (by kernel_rfl) rfl ⟨⟨_, rfl, ?_⟩, ⟨_, rfl, ?_⟩, trivial⟩
        · refine L.loadEp (xs := v4) (e := eI) shape3 hF rfl rfl rfl rfl (at?_get hb6).2 rfl rfl ?_
          refine L.nil ?_
          exact A.on (hO _ _ _ n511) (Le.mk [(0, 0)] hm rfl ⟨⟨_, rfl, rfl⟩, ⟨_, rfl, rfl⟩, ⟨_, rfl, rfl⟩, ⟨_, rfl, rfl⟩, trivial⟩ trivial ⟨⟨_, _, rfl, rfl, rfl⟩, trivial⟩)
        · refine L.alloc 2 info74 rfl hF rfl rfl rfl rfl ?_
          refine L.nil ?_
          exact A.on (hO _ _ _ n1531) (Le.mk [(0, 0), (1, 2), (2, 1)] hm rfl ⟨⟨_, rfl, rfl⟩, ⟨_, rfl, rfl⟩, ⟨_, rfl, rfl⟩, ⟨_, rfl, rfl⟩, ⟨_, rfl, rfl⟩, trivial⟩ ⟨⟨_, rfl, rfl⟩, trivial⟩ ⟨⟨_, _, rfl, rfl, rfl⟩, ⟨_, _, rfl, rfl, rfl⟩, trivial⟩)
      have n1275 : W 4 #[true, true, false, true, true, true, true, true, false, false, true, false] (mkSt [(2, one (Cell.ptr 0 0)), (6, one (Cell.ptr 1 0)), (21, one (Cell.ep 2 ((0 : Int).toNat) 0)), (25, one (cI b7)), (27, one (Cell.ep 2 ((2 : Int).toNat) 0))] [(2, ⟨1, List.map eI v4⟩)] [(0, [cI (0 : Int), cI (0 : Int), cI (0 : Int)]), (1, [cI (0 : Int), cI (0 : Int), cI (0 : Int)])] 3) := by
        refine hI _ _ _ ?_
        refine A.all [2, 8] (by kernel_rfl) rfl ⟨⟨_, rfl, ?_⟩, ⟨_, rfl, ?_⟩, trivial⟩
        · refine L.loadEp (xs := v4) (e := eI) shape3 hF rfl rfl rfl rfl (at?_get hb6).2 rfl rfl ?_
          refine L.nil ?_
          exact A.on (hO _ _ _ n1279) (Le.mk [(0, 0), (1, 1), (2, 2)] hm rfl ⟨⟨_, rfl, rfl⟩, ⟨_, rfl, rfl⟩, ⟨_, rfl, rfl⟩, ⟨_, rfl, rfl⟩, ⟨_, rfl, rfl⟩, trivial⟩ ⟨⟨_, rfl, rfl⟩, trivial⟩ ⟨⟨_, _, rfl, rfl, rfl⟩, ⟨_, _, rfl, rfl, rfl⟩, trivial⟩)
        · refine L.loadEp (xs := v4) (e := eI) shape3 hF rfl rfl rfl rfl (at?_get hb8).2 rfl rfl ?_
          refine L.nil ?_
          exact A.on (hO _ _ _ n1531) (Le.mk [(0, 0), (1, 1), (2, 2)] hm rfl ⟨⟨_, rfl, rfl⟩, ⟨_, rfl, rfl⟩, ⟨_, rfl, rfl⟩, ⟨_, rfl, rfl⟩, ⟨_, rfl, rfl⟩, trivial⟩ ⟨⟨_, rfl, rfl⟩, trivial⟩ ⟨⟨_, _, rfl, rfl, rfl⟩, ⟨_, _, rfl, rfl, rfl⟩, trivial⟩)
      have n255 : W 4 #[true, true, true, true, true, true, true, true, false, false, false, false] (mkSt [(2, one (Cell.ptr 0 0)), (22, one (cI b6)), (25, one (cI b7)), (27, one (Cell.ep 1 ((2 : Int).toNat) 0))] [(1, ⟨1, List.map eI v4⟩)] [(0, [cI (0 : Int), cI (0 : Int), cI (0 : Int)])] 2) := by
        refine hI _ _ _ ?_
        refine A.all [8, 10] (by kernel_rfl) rfl ⟨⟨_, rfl, ?_⟩, ⟨_, rfl, ?_⟩, trivial⟩
        · refine L.loadEp (xs := v4) (e := eI) shape3 hF rfl rfl rfl rfl (at?_get hb8).2 rfl rfl ?_
          refine L.nil ?_
          exact A.on (hO _ _ _ n511) (Le.mk [(0, 0)] hm rfl ⟨⟨_, rfl, rfl⟩, ⟨_, rfl, rfl⟩, ⟨_, rfl, rfl⟩, ⟨_, rfl, rfl⟩, trivial⟩ trivial ⟨⟨_, _, rfl, rfl, rfl⟩, trivial⟩)
        · refine L.alloc 2 info74 rfl hF rfl rfl rfl rfl ?_
          refine L.nil ?_
          exact A.on (hO _ _ _ n1279) (Le.mk [(0, 0), (1, 2), (2, 1)] hm rfl ⟨⟨_, rfl, rfl⟩, ⟨_, rfl, rfl⟩, ⟨_, rfl, rfl⟩, ⟨_, rfl, rfl⟩, ⟨_, rfl, rfl⟩, trivial⟩ ⟨⟨_, rfl, rfl⟩, trivial⟩ ⟨⟨_, _, rfl, rfl, rfl⟩, ⟨_, _, rfl, rfl, rfl⟩, trivial⟩)
      have n1243 : W 5 #[true, true, false, true, true, false, true, true, false, false, true, false] (mkSt [(2, one (Cell.ptr 0 0)), (6, one (Cell.ptr 1 0)), (21, one (Cell.ep 2 ((0 : Int).toNat) 0)), (24, one (Cell.ep 2 ((1 : Int).toNat) 0)), (27, one (Cell.ep 2 ((2 : Int).toNat) 0))] [(2, ⟨1, List.map eI v4⟩)] [(0, [cI (0 : Int), cI (0 : Int), cI (0 : Int)]), (1, [cI (0 : Int), cI (0 : Int), cI (0 : Int)])] 3) := by
        refine hI _ _ _ ?_
        refine A.all [2, 5, 8] (by kernel_rfl) rfl ⟨⟨_, rfl, ?_⟩, ⟨_, rfl, ?_⟩, ⟨_, rfl, ?_⟩, trivial⟩
        · refine L.loadEp (xs := v4) (e := eI) shape3 hF rfl rfl rfl rfl (at?_get hb6).2 rfl rfl ?_
          refine L.nil ?_
          exact A.on (hO _ _ _ n1247) (Le.mk [(0, 0), (1, 1), (2, 2)] hm rfl ⟨⟨_, rfl, rfl⟩, ⟨_, rfl, rfl⟩, ⟨_, rfl, rfl⟩, ⟨_, rfl, rfl⟩, ⟨_, rfl, rfl⟩, trivial⟩ ⟨⟨_, rfl, rfl⟩, trivial⟩ ⟨⟨_, _, rfl, rfl, rfl⟩, ⟨_, _, rfl, rfl, rfl⟩, trivial⟩)
        · refine L.loadEp (xs := v4) (e := eI) shape3 hF rfl rfl rfl rfl (at?_get hb7).2 rfl rfl ?_
          refine L.nil ?_
          exact A.on (hO _ _ _ n1275) (Le.mk [(0, 0), (1, 1), (2, 2)] hm rfl ⟨⟨_, rfl, rfl⟩, ⟨_, rfl, rfl⟩, ⟨_, rfl, rfl⟩, ⟨_, rfl, rfl⟩, ⟨_, rfl, rfl⟩, trivial⟩ ⟨⟨_, rfl, rfl⟩, trivial⟩ ⟨⟨_, _, rfl, rfl, rfl⟩, ⟨_, _, rfl, rfl, rfl⟩, trivial⟩)
        · refine L.loadEp (xs := v4) (e := eI) shape3 hF rfl rfl rfl rfl (at?_get hb8).2 rfl rfl ?_
          refine L.nil ?_
          exact A.on (hO _ _ _ n1499) (Le.mk [(0, 0), (1, 1), (2, 2)] hm rfl ⟨⟨_, rfl, rfl⟩, ⟨_, rfl, rfl⟩, ⟨_, rfl, rfl⟩, ⟨_, rfl, rfl⟩, ⟨_, rfl, rfl⟩, trivial⟩ ⟨⟨_, rfl, rfl⟩, trivial⟩ ⟨⟨_, _, rfl, rfl, rfl⟩, ⟨_, _, rfl, rfl, rfl⟩, trivial⟩)
      have n475 : W 5 #[true, true, false, true, true, false, true, true, true, false, false, false] (mkSt [(2, one (Cell.ptr 0 0)), (21, one (Cell.ep 1 ((0 : Int).toNat) 0)), (24, one (Cell.ep 1 ((1 : Int).toNat) 0)), (28, one (cI b8))] [(1, ⟨1, List.map eI v4⟩)] [(0, [cI (0 : Int), cI (0 : Int), cI (0 : Int)])] 2) := by
        refine hI _ _ _ ?_
        refine A.all [2, 5, 10] (by kernel_rfl) rfl ⟨⟨_, rfl, ?_⟩, ⟨_, rfl, ?_⟩, ⟨_, rfl, ?_⟩, trivial⟩
        · refine L.loadEp (xs := v4) (e := eI) shape3 hF rfl rfl rfl rfl (at?_get hb6).2 rfl rfl ?_
          refine L.nil ?_
          exact A.on (hO _ _ _ n479) (Le.mk [(0, 0), (1, 1)] hm rfl ⟨⟨_, rfl, rfl⟩, ⟨_, rfl, rfl⟩, ⟨_, rfl, rfl⟩, ⟨_, rfl, rfl⟩, trivial⟩ ⟨⟨_, rfl, rfl⟩, trivial⟩ ⟨⟨_, _, rfl, rfl, rfl⟩, trivial⟩)
        · refine L.loadEp (xs := v4) (e := eI) shape3 hF rfl rfl rfl rfl (at?_get hb7).2 rfl rfl ?_
          refine L.nil ?_
          exact A.on (hO _ _ _ n507) (Le.mk [(0, 0), (1, 1)] hm rfl ⟨⟨_, rfl, rfl⟩, ⟨_, rfl, rfl⟩, ⟨_, rfl, rfl⟩, ⟨_, rfl, rfl⟩, trivial⟩ ⟨⟨_, rfl, rfl⟩, trivial⟩ ⟨⟨_, _, rfl, rfl, rfl⟩, trivial⟩)
        · refine L.alloc 2 info74 rfl hF rfl rfl rfl rfl ?_
          refine L.nil ?_
          exact A.on (hO _ _ _ n1499) (Le.mk [(0, 0), (1, 2), (2, 1)] hm rfl ⟨⟨_, rfl, rfl⟩, ⟨_, rfl, rfl⟩, ⟨_, rfl, rfl⟩, ⟨_, rfl, rfl⟩, ⟨_, rfl, rfl⟩, trivial⟩ ⟨⟨_, rfl, rfl⟩, trivial⟩ ⟨⟨_, _, rfl, rfl, rfl⟩, ⟨_, _, rfl, rfl, rfl⟩, trivial⟩)
      have n223 : W 5 #[true, true, true, true, true, false, true, true, false, false, false, false] (mkSt [(2, one (Cell.ptr 0 0)), (22, one (cI b6)), (24, one (Cell.ep 1 ((1 : Int).toNat) 0)), (27, one (Cell.ep 1 ((2 : Int).toNat) 0))] [(1, ⟨1, List.map eI v4⟩)] [(0, [cI (0 : Int), cI (0 : Int), cI (0 : Int)])] 2) := by
        refine hI _ _ _ ?_
        refine A.all [5, 8, 10] (by kernel_rfl) rfl ⟨⟨_, rfl, ?_⟩, ⟨_, rfl, ?_⟩, ⟨_, rfl, ?_⟩, trivial⟩
        · refine L.loadEp (xs := v4) (e := eI) shape3 hF rfl rfl rfl rfl (at?_get hb7).2 rfl rfl ?_
          refine L.nil ?_
          exact A.on (hO _ _ _ n255) (Le.mk [(0, 0), (1, 1)] hm rfl ⟨⟨_, rfl, rfl⟩, ⟨_, rfl, rfl⟩, ⟨_, rfl, rfl⟩, ⟨_, rfl, rfl⟩, trivial⟩ ⟨⟨_, rfl, rfl⟩, trivial⟩ ⟨⟨_, _, rfl, rfl, rfl⟩, trivial⟩)
        · refine L.loadEp (xs := v4) (e := eI) shape3 hF rfl rfl rfl rfl (at?_get hb8).2 rfl rfl ?_
          refine L.nil ?_
          exact A.on (hO _ _ _ n479) (Le.mk [(0, 0), (1, 1)] hm rfl ⟨⟨_, rfl, rfl⟩, ⟨_, rfl, rfl⟩, ⟨_, rfl, rfl⟩, ⟨_, rfl, rfl⟩, trivial⟩ ⟨⟨_, rfl, rfl⟩, trivial⟩ ⟨⟨_, _, rfl, rfl, rfl⟩, trivial⟩)
        · refine L.alloc 2 info74 rfl hF rfl rfl rfl rfl ?_
          refine L.nil ?_
          exact A.on (hO _ _ _ n1247) (Le.mk [(0, 0), (1, 2), (2, 1)] hm rfl ⟨⟨_, rfl, rfl⟩, ⟨_, rfl, rfl⟩, ⟨_, rfl, rfl⟩, ⟨_, rfl, rfl⟩, ⟨_, rfl, rfl⟩, trivial⟩ ⟨⟨_, rfl, rfl⟩, trivial⟩ ⟨⟨_, _, rfl, rfl, rfl⟩, ⟨_, _, rfl, rfl, rfl⟩, trivial⟩)
      have n251 : W 5 #[true, true, false, true, true, true, true, true, false, false, false, false] (mkSt [(2, one (Cell.ptr 0 0)), (21, one (Cell.ep 1 ((0 : Int).toNat) 0)), (25, one (cI b7)), (27, one (Cell.ep 1 ((2 : Int).toNat) 0))] [(1, ⟨1, List.map eI v4⟩)] [(0, [cI (0 : Int), cI (0 : Int), cI (0 : Int)])] 2) := by
        refine hI _ _ _ ?_
        refine A.all [2, 8, 10] (by kernel_rfl) rfl ⟨⟨_, rfl, ?_⟩, ⟨_, rfl, ?_⟩, ⟨_, rfl, ?_⟩, trivial⟩
        · refine L.loadEp (xs := v4) (e := eI) shape3 hF rfl rfl rfl rfl (at?_get hb6).2 rfl rfl ?_
          refine L.nil ?_
          exact A.on (hO _ _ _ n255) (Le.mk [(0, 0), (1, 1)] hm rfl ⟨⟨_, rfl, rfl⟩, ⟨_, rfl, rfl⟩, ⟨_, rfl, rfl⟩, ⟨_, rfl, rfl⟩, trivial⟩ ⟨⟨_, rfl, rfl⟩, trivial⟩ ⟨⟨_, _, rfl, rfl, rfl⟩, trivial⟩)
        · refine L.loadEp (xs := v4) (e := eI) shape3 hF rfl rfl rfl rfl (at?_get hb8).2 rfl rfl ?_
          refine L.nil ?_
          exact A.on (hO _ _ _ n507) (Le.mk [(0, 0), (1, 1)] hm rfl ⟨⟨_, rfl, rfl⟩, ⟨_, rfl, rfl⟩, ⟨_, rfl, rfl⟩, ⟨_, rfl, rfl⟩, trivial⟩ ⟨⟨_, rfl, rfl⟩, trivial⟩ ⟨⟨_, _, rfl, rfl, rfl⟩, trivial⟩)
        · refine L.alloc 2 info74 rfl hF rfl rfl rfl rfl ?_
          refine L.nil ?_
          exact A.on (hO _ _ _ n1275) (Le.mk [(0, 0), (1, 2), (2, 1)] hm rfl ⟨⟨_, rfl, rfl⟩, ⟨_, rfl, rfl⟩, ⟨_, rfl, rfl⟩, ⟨_, rfl, rfl⟩, ⟨_, rfl, rfl⟩, trivial⟩ ⟨⟨_, rfl, rfl⟩, trivial⟩ ⟨⟨_, _, rfl, rfl, rfl⟩, ⟨_, _, rfl, rfl, rfl⟩, trivial⟩)
      have n219 : W 6 #[true, true, false, true, true, false, true, true, false, false, false, false] (mkSt [(2, one (Cell.ptr 0 0)), (21, one (Cell.ep 1 ((0 : Int).toNat) 0)), (24, one (Cell.ep 1 ((1 : Int).toNat) 0)), (27, one (Cell.ep 1 ((2 : Int).toNat) 0))] [(1, ⟨1, List.map eI v4⟩)] [(0, [cI (0 : Int), cI (0 : Int), cI (0 : Int)])] 2) := by
        refine hI _ _ _ ?_
        refine A.all [2, 5, 8, 10] (by kernel_rfl) rfl ⟨⟨_, rfl, ?_⟩, ⟨_, rfl, ?_⟩, ⟨_, rfl, ?_⟩, ⟨_, rfl, ?_⟩, trivial⟩
        · refine L.loadEp (xs := v4) (e := eI) shape3 hF rfl rfl rfl rfl (at?_get hb6).2 rfl rfl ?_
          refine L.nil ?_
          exact A.on (hO _ _ _ n223) (Le.mk [(0, 0), (1, 1)] hm rfl ⟨⟨_, rfl, rfl⟩, ⟨_, rfl, rfl⟩, ⟨_, rfl, rfl⟩, ⟨_, rfl, rfl⟩, trivial⟩ ⟨⟨_, rfl, rfl⟩, trivial⟩ ⟨⟨_, _, rfl, rfl, rfl⟩, trivial⟩)
        · refine L.loadEp (xs := v4) (e := eI) shape3 hF rfl rfl rfl rfl (at?_get hb7).2 rfl rfl ?_
          refine L.nil ?_
          exact A.on (hO _ _ _ n251) (Le.mk [(0, 0), (1, 1)] hm rfl ⟨⟨_, rfl, rfl⟩, ⟨_, rfl, rfl⟩, ⟨_, rfl, rfl⟩, ⟨_, rfl, rfl⟩, trivial⟩ ⟨⟨_, rfl, rfl⟩, trivial⟩ ⟨⟨_, _, rfl, rfl, rfl⟩, trivial⟩)
        · refine L.loadEp (xs := v4) (e := eI) shape3 hF rfl rfl rfl rfl (at?_get hb8).2 rfl rfl ?_
          refine L.nil ?_
          exact A.on (hO _ _ _ n475) (Le.mk [(0, 0), (1, 1)] hm rfl ⟨⟨_, rfl, rfl⟩, ⟨_, rfl, rfl⟩, ⟨_, rfl, rfl⟩, ⟨_, rfl, rfl⟩, trivial⟩ ⟨⟨_, rfl, rfl⟩, trivial⟩ ⟨⟨_, _, rfl, rfl, rfl⟩, trivial⟩)
        · refine L.alloc 2 info74 rfl hF rfl rfl rfl rfl ?_
          refine L.nil ?_
          exact A.on (hO _ _ _ n1243) (Le.mk [(0, 0), (1, 2), (2, 1)] hm rfl ⟨⟨_, rfl, rfl⟩, ⟨_, rfl, rfl⟩, ⟨_, rfl, rfl⟩, ⟨_, rfl, rfl⟩, ⟨_, rfl, rfl⟩, trivial⟩ ⟨⟨_, rfl, rfl⟩, trivial⟩ ⟨⟨_, _, rfl, rfl, rfl⟩, ⟨_, _, rfl, rfl, rfl⟩, trivial⟩)
      have n91 : W 7 #[true, true, false, true, true, false, true, false, false, false, false, false] (mkSt [(2, one (Cell.ptr 0 0)), (21, one (Cell.ep 1 ((0 : Int).toNat) 0)), (24, one (Cell.ep 1 ((1 : Int).toNat) 0)), (26, one (Cell.own 1))] [(1, ⟨1, List.map eI v4⟩)] [(0, [cI (0 : Int), cI (0 : Int), cI (0 : Int)])] 2) := by
        refine hI _ _ _ ?_
        refine A.take 7 rfl (by kernel_rfl) (by kernel_rfl) (by kernel_rfl) rfl (Ca.indexAddr) (fun Q0 k0 => L.idxR (xs := v4) (e := eI) Try.underlying24 info3 hF rfl rfl rfl rfl rfl hb8 rfl rfl (L.nil k0)) ?_
        exact A.on (hO _ _ _ n219) (Le.mk [(0, 0), (1, 1)] hm rfl ⟨⟨_, rfl, rfl⟩, ⟨_, rfl, rfl⟩, ⟨_, rfl, rfl⟩, ⟨_, rfl, rfl⟩, trivial⟩ ⟨⟨_, rfl, rfl⟩, trivial⟩ ⟨⟨_, _, rfl, rfl, rfl⟩, trivial⟩)
      have n27 : W 8 #[true, true, false, true, true, false, false, false, false, false, false, false] (mkSt [(2, one (Cell.ptr 0 0)), (4, one (Cell.own 1)), (21, one (Cell.ep 1 ((0 : Int).toNat) 0)), (24, one (Cell.ep 1 ((1 : Int).toNat) 0))] [(1, ⟨1, List.map eI v4⟩)] [(0, [cI (0 : Int), cI (0 : Int), cI (0 : Int)])] 2) := by
        refine hI _ _ _ ?_
        refine A.take 6 rfl (by kernel_rfl) (by kernel_rfl) (by kernel_rfl) rfl (Ca.move) (fun Q0 k0 => L.move hF rfl rfl rfl (L.nil k0)) ?_
        exact A.on (hO _ _ _ n91) (Le.mk [(0, 0), (1, 1)] hm rfl ⟨⟨_, rfl, rfl⟩, ⟨_, rfl, rfl⟩, ⟨_, rfl, rfl⟩, ⟨_, rfl, rfl⟩, trivial⟩ ⟨⟨_, rfl, rfl⟩, trivial⟩ ⟨⟨_, _, rfl, rfl, rfl⟩, trivial⟩)
      have n11 : W 9 #[true, true, false, true, false, false, false, false, false, false, false, false] (mkSt [(2, one (Cell.ptr 0 0)), (4, one (Cell.own 1)), (21, one (Cell.ep 1 ((0 : Int).toNat) 0)), (23, one (Cell.own 1))] [(1, ⟨1, List.map eI v4⟩)] [(0, [cI (0 : Int), cI (0 : Int), cI (0 : Int)])] 2) := by
        refine hI _ _ _ ?_
        refine A.take 4 rfl (by kernel_rfl) (by kernel_rfl) (by kernel_rfl) rfl (Ca.indexAddr) (fun Q0 k0 => L.idxR (xs := v4) (e := eI) Try.underlying24 info3 hF rfl rfl rfl rfl rfl hb7 rfl rfl (L.nil k0)) ?_
        exact A.on (hO _ _ _ n27) (Le.mk [(0, 0), (1, 1)] hm rfl ⟨⟨_, rfl, rfl⟩, ⟨_, rfl, rfl⟩, ⟨_, rfl, rfl⟩, ⟨_, rfl, rfl⟩, trivial⟩ ⟨⟨_, rfl, rfl⟩, trivial⟩ ⟨⟨_, _, rfl, rfl, rfl⟩, trivial⟩)
      have n3 : W 10 #[true, true, false, false, false, false, false, false, false, false, false, false] (mkSt [(2, one (Cell.ptr 0 0)), (4, one (Cell.own 1)), (21, one (Cell.ep 1 ((0 : Int).toNat) 0))] [(1, ⟨1, List.map eI v4⟩)] [(0, [cI (0 : Int), cI (0 : Int), cI (0 : Int)])] 2) := by
        refine hI _ _ _ ?_
        refine A.take 3 rfl (by kernel_rfl) (by kernel_rfl) (by kernel_rfl) rfl (Ca.move) (fun Q0 k0 => L.move hF rfl rfl rfl (L.nil k0)) ?_
        exact A.on (hO _ _ _ n11) (Le.mk [(0, 0), (1, 1)] hm rfl ⟨⟨_, rfl, rfl⟩, ⟨_, rfl, rfl⟩, ⟨_, rfl, rfl⟩, ⟨_, rfl, rfl⟩, trivial⟩ ⟨⟨_, rfl, rfl⟩, trivial⟩ ⟨⟨_, _, rfl, rfl, rfl⟩, trivial⟩)
      have n1 : W 11 #[true, false, false, false, false, false, false, false, false, false, false, false] (mkSt [(2, one (Cell.ptr 0 0)), (4, one (Cell.own 1)), (20, one (Cell.own 1))] [(1, ⟨1, List.map eI v4⟩)] [(0, [cI (0 : Int), cI (0 : Int), cI (0 : Int)])] 2) := by
        refine hI _ _ _ ?_
        refine A.take 1 rfl (by kernel_rfl) (by kernel_rfl) (by kernel_rfl) rfl (Ca.indexAddr) (fun Q0 k0 => L.idxR (xs := v4) (e := eI) Try.underlying24 info3 hF rfl rfl rfl rfl rfl hb6 rfl rfl (L.nil k0)) ?_
        exact A.on (hO _ _ _ n3) (Le.mk [(0, 0), (1, 1)] hm rfl ⟨⟨_, rfl, rfl⟩, ⟨_, rfl, rfl⟩, ⟨_, rfl, rfl⟩, trivial⟩ ⟨⟨_, rfl, rfl⟩, trivial⟩ ⟨⟨_, _, rfl, rfl, rfl⟩, trivial⟩)
      have n0 : W 12 #[false, false, false, false, false, false, false, false, false, false, false, false] (mkSt [(2, one (Cell.ptr 0 0)), (4, one (Cell.own 1))] [(1, ⟨1, List.map eI v4⟩)] [(0, [cI (0 : Int), cI (0 : Int), cI (0 : Int)])] 2) := by
        refine hI _ _ _ ?_
        refine A.take 0 rfl (by kernel_rfl) (by kernel_rfl) (by kernel_rfl) rfl (Ca.move) (fun Q0 k0 => L.move hF rfl rfl rfl (L.nil k0)) ?_
        exact A.on (hO _ _ _ n1) (Le.mk [(0, 0), (1, 1)] hm rfl ⟨⟨_, rfl, rfl⟩, ⟨_, rfl, rfl⟩, ⟨_, rfl, rfl⟩, trivial⟩ ⟨⟨_, rfl, rfl⟩, trivial⟩ ⟨⟨_, _, rfl, rfl, rfl⟩, trivial⟩)
      exact hI _ _ _ (A.on (hO _ _ _ n0) (Le.mk [(0, 0), (1, 1)] hm rfl ⟨⟨_, rfl, rfl⟩, ⟨_, rfl, rfl⟩, trivial⟩ ⟨⟨_, rfl, rfl⟩, trivial⟩ ⟨⟨_, _, rfl, rfl, rfl⟩, trivial⟩))
  · refine WpC.regionL ?_
    refine L.move hF rfl rfl rfl ?_
    refine L.not hF rfl rfl rfl ?_
    refine L.move hF rfl rfl rfl ?_
    refine L.split (fun hc => ?_) (fun hc => ?_)
    · replace H := condT hc H
      refine L.off hF rfl rfl ?_
      refine L.off hF rfl rfl ?_
      refine L.off hF rfl rfl ?_
      refine L.pick hF rfl rfl rfl rfl ?_
      refine L.nil ?_
      exact ⟨_, ⟨k, r1.1, true, by omega, H, rfl⟩, Le.mk [(0, 1), (1, 2)] hm rfl ⟨⟨_, rfl, rfl⟩, ⟨_, rfl, rfl⟩, ⟨_, rfl, rfl⟩, trivial⟩ ⟨⟨_, rfl, rfl⟩, trivial⟩ ⟨⟨_, _, rfl, rfl, rfl⟩, trivial⟩⟩
    · replace H := condF hc H
      refine L.move hF rfl rfl rfl ?_
      refine L.lenR (xs := r1.1) (e := eI) Try.underlying24 hF rfl rfl rfl rfl ?_
      refine L.bin hF rfl rfl rfl rfl rfl rfl ?_
      refine L.pick hF rfl rfl rfl rfl ?_
      refine L.nil ?_
      exact ⟨_, ⟨k, r1.1, ((r1.1.length : Int) != (3 : Int)), by omega, H, rfl⟩, Le.mk [(0, 1), (1, 2)] hm rfl ⟨⟨_, rfl, rfl⟩, ⟨_, rfl, rfl⟩, ⟨_, rfl, rfl⟩, trivial⟩ ⟨⟨_, rfl, rfl⟩, trivial⟩ ⟨⟨_, _, rfl, rfl, rfl⟩, trivial⟩⟩
/-! ### Fspec_l5Service -/
def Fspec_l5Service (k : Nat) (a0 : Int) : Option Bool := (Fspec_l1In k a0 (0 : Int) (2 : Int)).bind fun r3 => cond r3 (some true) ((Fspec_l1In k a0 (10 : Int) (12 : Int)).bind fun r4 => some r4)
theorem ent276 : Enters Try.prog 276 := ⟨Try.f276, Try.func276, rfl, by decide⟩
set_option maxHeartbeats 8000000 in
set_option maxRecDepth 100000 in
theorem Fspec_l5Service_gives (k : Nat) (a0 : Int) (r : Bool) (H : Fspec_l5Service k a0 = some r) : Gives Try.prog 276 [V.one (cI a0)] [] [V.one (cL r)] [] := by
  refine Gives.intro Try.func276 rfl rfl rfl rfl ?_
  intro F hF hm
  unfold Fspec_l5Service at H
  obtain ⟨K, hK⟩ : ∃ K, k ≤ K := ⟨k, Nat.le_refl k⟩
  refine WpC.seq ?_
  refine WpC.regionL ?_
  refine L.assign hF rfl rfl rfl ?_
  refine L.nil ?_
  refine WpC.seq ?_
  refine WpC.regionL ?_
  refine L.move hF rfl rfl rfl ?_
  obtain ⟨r3, hr3, H⟩ := bindS H
  refine L.call [false, false, false] [] [] 1 hF rfl rfl rfl ent152 rfl rfl rfl rfl rfl (Fspec_l1In_gives k  a0 (0 : Int) (2 : Int) r3 hr3) rfl ?_
  refine L.move hF rfl rfl rfl ?_
  refine L.split (fun hc => ?_) (fun hc => ?_)
  · replace H := condT hc H
    refine L.off hF rfl rfl ?_
    refine L.off hF rfl rfl ?_
    refine L.pick hF rfl rfl rfl rfl ?_
    refine L.assign hF rfl rfl rfl ?_
    refine L.nil ?_
    refine WpC.ret ?_
    cases H
    exact Leaves.ret rfl rfl rfl ⟨rfl, rfl⟩
  · replace H := condF hc H
    refine L.move hF rfl rfl rfl ?_
    obtain ⟨r4, hr4, H⟩ := bindS H
    refine L.call [false, false, false] [] [] 2 hF rfl rfl rfl ent152 rfl rfl rfl rfl rfl (Fspec_l1In_gives k  a0 (10 : Int) (12 : Int) r4 hr4) rfl ?_
    refine L.pick hF rfl rfl rfl rfl ?_
    refine L.assign hF rfl rfl rfl ?_
    refine L.nil ?_
    refine WpC.ret ?_
    cases H
    exact Leaves.ret rfl rfl rfl ⟨rfl, rfl⟩
/-! ### Fspec_l5GrantOk -/
def Fspec_l5GrantOk (k : Nat) (a0 : Timpl_Grant) : Option Bool := (Fspec_l1In k a0.Key (1 : Int) (1000000 : Int)).bind fun r5 => cond r5 ((Fspec_l5Service k a0.Service).bind fun r6 => cond r6 ((Fspec_l1In k a0.Nonce (0 : Int) (1000000 : Int)).bind fun r7 => cond r7 ((Fspec_RestOk k (⟨a0.Rest.Servers, a0.Rest.Ops, a0.Rest.End⟩ : Timpl_Rest)).bind fun r8 => some r8) (some false)) (some false)) (some false)
theorem ent234 : Enters Try.prog 234 := ⟨Try.f234, Try.func234, rfl, by decide⟩
set_option maxHeartbeats 8000000 in
set_option maxRecDepth 100000 in
theorem Fspec_l5GrantOk_gives (k : Nat) (a0 : Timpl_Grant) (r : Bool) (H : Fspec_l5GrantOk k a0 = some r) : Gives Try.prog 234 [V.agg [cI a0.Key, cI a0.Service, cI a0.Nonce, cI a0.Rest.Servers, cI a0.Rest.Ops, cI a0.Rest.End]] [] [V.one (cL r)] [] := by
  refine Gives.intro Try.func234 rfl rfl rfl rfl ?_
  intro F hF hm
  unfold Fspec_l5GrantOk at H
  obtain ⟨K, hK⟩ : ∃ K, k ≤ K := ⟨k, Nat.le_refl k⟩
  refine WpC.seq ?_
  refine WpC.regionL ?_
  refine L.box 6 hF rfl rfl rfl rfl ?_
  refine L.assign hF rfl rfl rfl ?_
  refine L.nil ?_
  refine WpC.seq ?_
  refine WpC.regionL ?_
  refine L.fieldAddr Try.underlying187 rfl info3 rfl hF rfl rfl rfl rfl rfl ?_
  refine L.loadPtr shape3 hF rfl rfl rfl rfl rfl rfl ?_
  obtain ⟨r5, hr5, H⟩ := bindS H
  refine L.call [false, false, false] [] [] 7 hF rfl rfl rfl ent152 rfl rfl rfl rfl rfl (Fspec_l1In_gives k  a0.Key (1 : Int) (1000000 : Int) r5 hr5) rfl ?_
  refine L.move hF rfl rfl rfl ?_
  refine L.split (fun hc => ?_) (fun hc => ?_)
  · replace H := condT hc H
    refine L.fieldAddr Try.underlying187 rfl info3 rfl hF rfl rfl rfl rfl rfl ?_
    refine L.loadPtr shape3 hF rfl rfl rfl rfl rfl rfl ?_
    obtain ⟨r6, hr6, H⟩ := bindS H
    refine L.call [false] [] [] 8 hF rfl rfl rfl ent276 rfl rfl rfl rfl rfl (Fspec_l5Service_gives k  a0.Service r6 hr6) rfl ?_
    refine L.pick hF rfl rfl rfl rfl ?_
    refine L.move hF rfl rfl rfl ?_
    refine L.split (fun hc => ?_) (fun hc => ?_)
    · replace H := condT hc H
      refine L.fieldAddr Try.underlying187 rfl info3 rfl hF rfl rfl rfl rfl rfl ?_
      refine L.loadPtr shape3 hF rfl rfl rfl rfl rfl rfl ?_
      obtain ⟨r7, hr7, H⟩ := bindS H
      refine L.call [false, false, false] [] [] 9 hF rfl rfl rfl ent152 rfl rfl rfl rfl rfl (Fspec_l1In_gives k  a0.Nonce (0 : Int) (1000000 : Int) r7 hr7) rfl ?_
      refine L.pick hF rfl rfl rfl rfl ?_
      refine L.move hF rfl rfl rfl ?_
      refine L.split (fun hc => ?_) (fun hc => ?_)
      · replace H := condT hc H
        refine L.fieldAddr Try.underlying187 rfl info74 rfl hF rfl rfl rfl rfl rfl ?_
        refine L.loadPtr shape74 hF rfl rfl rfl rfl rfl rfl ?_
        obtain ⟨r8, hr8, H⟩ := bindS H
        refine L.call [false] [] [] 10 hF rfl rfl rfl ent151 rfl rfl rfl rfl rfl (Fspec_RestOk_gives k  (⟨a0.Rest.Servers, a0.Rest.Ops, a0.Rest.End⟩ : Timpl_Rest) r8 hr8) rfl ?_
        refine L.pick hF rfl rfl rfl rfl ?_
        refine L.assign hF rfl rfl rfl ?_
        refine L.nil ?_
        refine WpC.ret ?_
        cases H
        exact Leaves.ret rfl rfl rfl ⟨rfl, rfl⟩
      · replace H := condF hc H
        refine L.off hF rfl rfl ?_
        refine L.off hF rfl rfl ?_
        refine L.off hF rfl rfl ?_
        refine L.pick hF rfl rfl rfl rfl ?_
        refine L.assign hF rfl rfl rfl ?_
        refine L.nil ?_
        refine WpC.ret ?_
        cases H
        exact Leaves.ret rfl rfl rfl ⟨rfl, rfl⟩
    · replace H := condF hc H
      refine L.off hF rfl rfl ?_
      refine L.off hF rfl rfl ?_
      refine L.off hF rfl rfl ?_
      refine L.pick hF rfl rfl rfl rfl ?_
      refine L.move hF rfl rfl rfl ?_
      refine L.off hF rfl rfl ?_
      refine L.off hF rfl rfl ?_
      refine L.off hF rfl rfl ?_
      refine L.pick hF rfl rfl rfl rfl ?_
      refine L.assign hF rfl rfl rfl ?_
      refine L.nil ?_
      refine WpC.ret ?_
      cases H
      exact Leaves.ret rfl rfl rfl ⟨rfl, rfl⟩
  · replace H := condF hc H
    refine L.off hF rfl rfl ?_
    refine L.off hF rfl rfl ?_
    refine L.off hF rfl rfl ?_
    refine L.pick hF rfl rfl rfl rfl ?_
    refine L.move hF rfl rfl rfl ?_
    refine L.off hF rfl rfl ?_
    refine L.off hF rfl rfl ?_
    refine L.off hF rfl rfl ?_
    refine L.pick hF rfl rfl rfl rfl ?_
    refine L.move hF rfl rfl rfl ?_
    refine L.off hF rfl rfl ?_
    refine L.off hF rfl rfl ?_
    refine L.off hF rfl rfl ?_
    refine L.pick hF rfl rfl rfl rfl ?_
    refine L.assign hF rfl rfl rfl ?_
    refine L.nil ?_
    refine WpC.ret ?_
    cases H
    exact Leaves.ret rfl rfl rfl ⟨rfl, rfl⟩
/-! ### Fspec_ReadGrant -/
def Fspec_ReadGrant.j2 (k : Nat) (v15 : Int) (v16 : List Int) (v17 : Bool) (v18 : Int) (v19 : Int) (v20 : Int) : Option (Timpl_Grant × Bool) := cond v17 (some ((⟨(0 : Int), (0 : Int), (0 : Int), (⟨(0 : Int), (0 : Int), (0 : Int)⟩ : Timpl_Rest)⟩ : Timpl_Grant), false)) ((at? v16 (0 : Int)).bind fun b21 => (at? v16 (1 : Int)).bind fun b22 => (Fspec_l5GrantOk k (⟨v15, b21, b22, (⟨v18, v19, v20⟩ : Timpl_Rest)⟩ : Timpl_Grant)).bind fun r24 => cond (!r24) (some ((⟨(0 : Int), (0 : Int), (0 : Int), (⟨(0 : Int), (0 : Int), (0 : Int)⟩ : Timpl_Rest)⟩ : Timpl_Grant), false)) (some ((⟨v15, b21, b22, (⟨v18, v19, v20⟩ : Timpl_Rest)⟩ : Timpl_Grant), true)))
def Fspec_ReadGrant (k : Nat) (a0 : List UInt8) (a1 : Int) : Option (Timpl_Grant × Bool) := (Fspec_Open k a0 a1).bind fun r1 => (Fspec_Parts k r1.1).bind fun r2 => cond ((r2.1.length : Int) != (3 : Int)) (some ((⟨(0 : Int), (0 : Int), (0 : Int), (⟨(0 : Int), (0 : Int), (0 : Int)⟩ : Timpl_Rest)⟩ : Timpl_Grant), false)) ((at? r2.1 (0 : Int)).bind fun b3 => (Fspec_ReadKey k b3).bind fun r4 => (at? r2.1 (1 : Int)).bind fun b5 => (Fspec_ReadNums k b5).bind fun r6 => (at? r2.1 (2 : Int)).bind fun b7 => (Fspec_ReadRest k b7).bind fun r8 => cond (!r4.2) (Fspec_ReadGrant.j2 k r4.1 r6.1 true r8.1.Servers r8.1.Ops r8.1.End) (cond (!r6.2) (Fspec_ReadGrant.j2 k r4.1 r6.1 true r8.1.Servers r8.1.Ops r8.1.End) (cond (!r8.2) (Fspec_ReadGrant.j2 k r4.1 r6.1 true r8.1.Servers r8.1.Ops r8.1.End) (Fspec_ReadGrant.j2 k r4.1 r6.1 ((r6.1.length : Int) != (2 : Int)) r8.1.Servers r8.1.Ops r8.1.End))))
theorem ent143 : Enters Try.prog 143 := ⟨Try.f143, Try.func143, rfl, by decide⟩
set_option maxHeartbeats 8000000 in
set_option maxRecDepth 100000 in
theorem Fspec_ReadGrant_gives (k : Nat) (a0 : List UInt8) (a1 : Int) (r : Timpl_Grant × Bool) (H : Fspec_ReadGrant k a0 a1 = some r) : Gives Try.prog 143 [V.one (cS a0), V.one (cI a1)] [] [V.agg [cI r.1.Key, cI r.1.Service, cI r.1.Nonce, cI r.1.Rest.Servers, cI r.1.Rest.Ops, cI r.1.Rest.End], V.one (cL r.2)] [] := by
  refine Gives.intro Try.func143 rfl rfl rfl rfl ?_
  intro F hF hm
  unfold Fspec_ReadGrant at H
  obtain ⟨K, hK⟩ : ∃ K, k ≤ K := ⟨k, Nat.le_refl k⟩
  refine WpC.seq ?_
  refine WpC.regionL ?_
  refine L.alloc 2 info187 rfl hF rfl rfl rfl rfl ?_
  refine L.assign hF rfl rfl rfl ?_
  refine L.nil ?_
  refine WpC.seq ?_
  refine WpC.regionL ?_
  refine L.move hF rfl rfl rfl ?_
  refine L.move hF rfl rfl rfl ?_
  obtain ⟨r1, hr1, H⟩ := bindS H
  refine L.call [false, false] [] [] 3 hF rfl rfl rfl ent231 rfl rfl rfl rfl rfl (Fspec_Open_gives k  a0 a1 r1 hr1) rfl ?_
  refine L.move hF rfl rfl rfl ?_
  refine L.extract hF rfl rfl rfl rfl ?_
  refine L.extract hF rfl rfl rfl rfl ?_
  refine L.assign hF rfl rfl rfl ?_
  refine L.assign hF rfl rfl rfl ?_
  refine L.nil ?_
  refine WpC.seq ?_
  refine WpC.regionL ?_
  refine L.move hF rfl rfl rfl ?_
  obtain ⟨r2, hr2, H⟩ := bindS H
  refine L.call [false] [] [] 5 hF rfl rfl rfl ent141 rfl rfl rfl rfl rfl (Fspec_Parts_gives k  r1.1 r2 hr2) rfl ?_
  refine L.move hF rfl rfl rfl ?_
  refine L.extract hF rfl rfl rfl rfl ?_
  refine L.extract hF rfl rfl rfl rfl ?_
  refine L.assign hF rfl rfl rfl ?_
  refine L.assign hF rfl rfl rfl ?_
  refine L.nil ?_
  refine WpC.seq ?_
  refine WpC.seq ?_
  refine WpC.regionL ?_
  refine L.move hF rfl rfl rfl ?_
  refine L.lenR (xs := r2.1) (e := eS) Try.underlying120 hF rfl rfl rfl rfl ?_
  refine L.bin hF rfl rfl rfl rfl rfl rfl ?_
  refine L.nil ?_
  refine WpC.cond rfl (fun hc => ?_) (fun hc => ?_)
  · replace H := condT hc H
    refine WpC.seq ?_
    refine WpC.regionL ?_
    refine L.buildF built187 hF rfl rfl rfl rfl ?_
    refine L.storePtr shape187 hF rfl rfl rfl rfl rfl rfl rfl ?_
    refine L.assign hF rfl rfl rfl ?_
    refine L.nil ?_
    refine WpC.ret ?_
    cases H
    exact Leaves.ret rfl rfl rfl ⟨rfl, rfl⟩
  · replace H := condF hc H
    refine WpC.skip ?_
    refine WpC.seq ?_
    refine WpC.regionL ?_
    refine L.move hF rfl rfl rfl ?_
    obtain ⟨b3, hb3, H⟩ := bindS H
    refine L.idxR (xs := r2.1) (e := eS) Try.underlying120 info9 hF rfl rfl rfl rfl rfl hb3 rfl rfl ?_
    refine L.loadEp (xs := r2.1) (e := eS) shape9 hF rfl rfl rfl rfl (at?_get hb3).2 rfl rfl ?_
    obtain ⟨r4, hr4, H⟩ := bindS H
    refine L.call [false] [] [] 7 hF rfl rfl rfl ent232 rfl rfl rfl rfl rfl (Fspec_ReadKey_gives k  b3 r4 hr4) rfl ?_
    refine L.move hF rfl rfl rfl ?_
    refine L.extract hF rfl rfl rfl rfl ?_
    refine L.extract hF rfl rfl rfl rfl ?_
    refine L.assign hF rfl rfl rfl ?_
    refine L.assign hF rfl rfl rfl ?_
    refine L.nil ?_
    refine WpC.seq ?_
    refine WpC.regionL ?_
    refine L.move hF rfl rfl rfl ?_
    obtain ⟨b5, hb5, H⟩ := bindS H
    refine L.idxR (xs := r2.1) (e := eS) Try.underlying120 info9 hF rfl rfl rfl rfl rfl hb5 rfl rfl ?_
    refine L.loadEp (xs := r2.1) (e := eS) shape9 hF rfl rfl rfl rfl (at?_get hb5).2 rfl rfl ?_
    obtain ⟨r6, hr6, H⟩ := bindS H
    refine L.call [false] [] [] 9 hF rfl rfl rfl ent134 rfl rfl rfl rfl rfl (Fspec_ReadNums_gives k  b5 r6 hr6) rfl ?_
    refine L.move hF rfl rfl rfl ?_
    refine L.extract hF rfl rfl rfl rfl ?_
    refine L.extract hF rfl rfl rfl rfl ?_
    refine L.assign hF rfl rfl rfl ?_
    refine L.assign hF rfl rfl rfl ?_
    refine L.nil ?_
    refine WpC.seq ?_
    refine WpC.regionL ?_
    refine L.move hF rfl rfl rfl ?_
    obtain ⟨b7, hb7, H⟩ := bindS H
    refine L.idxR (xs := r2.1) (e := eS) Try.underlying120 info9 hF rfl rfl rfl rfl rfl hb7 rfl rfl ?_
    refine L.loadEp (xs := r2.1) (e := eS) shape9 hF rfl rfl rfl rfl (at?_get hb7).2 rfl rfl ?_
    obtain ⟨r8, hr8, H⟩ := bindS H
    refine L.call [false] [] [] 11 hF rfl rfl rfl ent233 rfl rfl rfl rfl rfl (Fspec_ReadRest_gives k  b7 r8 hr8) rfl ?_
    refine L.move hF rfl rfl rfl ?_
    refine L.extract hF rfl rfl rfl rfl ?_
    refine L.extract hF rfl rfl rfl rfl ?_
    refine L.alloc 15 info74 rfl hF rfl rfl rfl rfl ?_
    refine L.storePtr shape74 hF rfl rfl rfl rfl rfl rfl rfl ?_
    refine L.assign hF rfl rfl rfl ?_
    refine L.nil ?_
    refine WpC.seq ?_
    refine WpC.join (fun σ => ∃ kj2 : Nat, ∃ v15 : Int, ∃ v16 : List Int, ∃ v17 : Bool, ∃ v18 : Int, ∃ v19 : Int, ∃ v20 : Int, kj2 ≤ K ∧ Fspec_ReadGrant.j2 kj2 v15 v16 v17 v18 v19 v20 = some r ∧ σ = mkSt [(4, one (Cell.ptr 0 0)), (10, one (cI v15)), (12, one (Cell.own 1)), (14, one (Cell.ptr 2 0)), (67, one (cL v17))] [(1, ⟨1, List.map eI v16⟩)] [(0, [cI (0 : Int), cI (0 : Int), cI (0 : Int), cI (0 : Int), cI (0 : Int), cI (0 : Int)]), (2, [cI v18, cI v19, cI v20])] 3) ?_ ?_
    · rintro _ ⟨kj2, v15, v16, v17, v18, v19, v20, hkj2, H, rfl⟩
      unfold Fspec_ReadGrant.j2 at H
      refine WpC.cond rfl (fun hc => ?_) (fun hc => ?_)
      · replace H := condT hc H
        refine WpC.seq ?_
        refine WpC.regionL ?_
        refine L.buildF built187 hF rfl rfl rfl rfl ?_
        refine L.storePtr shape187 hF rfl rfl rfl rfl rfl rfl rfl ?_
        refine L.assign hF rfl rfl rfl ?_
        refine L.nil ?_
        refine WpC.ret ?_
        cases H
        exact Leaves.ret rfl rfl rfl ⟨rfl, rfl⟩
      · replace H := condF hc H
        refine WpC.skip ?_
        refine WpC.seq ?_
        obtain ⟨b21, hb21, H⟩ := bindS H
        obtain ⟨b22, hb22, H⟩ := bindS H
        refine A.begin mixed rfl rfl ?_
        intro W hI hO
        have n2047 : W 0 #[true, true, true, true, true, true, true, true, true, true, true] (mkSt [(4, one (Cell.ptr 0 0)), (16, one (Cell.ptr 1 0))] [] [(0, [cI (0 : Int), cI (0 : Int), cI (0 : Int), cI (0 : Int), cI (0 : Int), cI (0 : Int)]), (1, [cI v15, cI b21, cI b22, cI v18, cI v19, cI v20])] 2) := by
          refine hI _ _ _ (A.done (by kernel_rfl) ?_)
          refine WpC.seq ?_
          refine WpC.seq ?_
          refine WpC.regionL ?_
          refine L.loadPtr shape187 hF rfl rfl rfl rfl rfl rfl ?_
          obtain ⟨r24, hr24, H⟩ := bindS H
          refine L.call [false] [] [] 2 hF rfl rfl rfl ent234 rfl rfl rfl rfl rfl (Fspec_l5GrantOk_gives kj2  (⟨v15, b21, b22, (⟨v18, v19, v20⟩ : Timpl_Rest)⟩ : Timpl_Grant) r24 hr24) rfl ?_
          refine L.not hF rfl rfl rfl ?_
          refine L.nil ?_
          refine WpC.cond rfl (fun hc => ?_) (fun hc => ?_)
          · replace H := condT hc H
            refine WpC.seq ?_
            refine WpC.regionL ?_
            refine L.buildF built187 hF rfl rfl rfl rfl ?_
            refine L.storePtr shape187 hF rfl rfl rfl rfl rfl rfl rfl ?_
            refine L.assign hF rfl rfl rfl ?_
            refine L.nil ?_
            refine WpC.ret ?_
            cases H
            exact Leaves.ret rfl rfl rfl ⟨rfl, rfl⟩
          · replace H := condF hc H
            refine WpC.skip ?_
            refine WpC.seq ?_
            refine WpC.regionL ?_
            refine L.loadPtr shape187 hF rfl rfl rfl rfl rfl rfl ?_
            refine L.storePtr shape187 hF rfl rfl rfl rfl rfl rfl rfl ?_
            refine L.assign hF rfl rfl rfl ?_
            refine L.nil ?_
            refine WpC.ret ?_
            cases H
            exact Leaves.ret rfl rfl rfl ⟨rfl, rfl⟩
        have n1023 : W 1 #[true, true, true, true, true, true, true, true, true, true, false] (mkSt [(4, one (Cell.ptr 0 0)), (16, one (Cell.ptr 1 0)), (77, agg [cI v15, cI b21, cI b22, cI v18, cI v19, cI v20])] [] [(0, [cI (0 : Int), cI (0 : Int), cI (0 : Int), cI (0 : Int), cI (0 : Int), cI (0 : Int)]), (1, [cI (0 : Int), cI (0 : Int), cI (0 : Int), cI (0 : Int), cI (0 : Int), cI (0 : Int)])] 2) := by
          refine hI _ _ _ ?_
          refine A.all [10] (by kernel_rfl) rfl ⟨⟨_, rfl, ?_⟩, trivial⟩
          · refine L.storePtr shape187 hF rfl rfl rfl rfl rfl rfl rfl ?_
            refine L.nil ?_
            exact A.on (hO _ _ _ n2047) (Le.mk [(0, 0), (1, 1)] hm rfl ⟨⟨_, rfl, rfl⟩, ⟨_, rfl, rfl⟩, trivial⟩ trivial ⟨⟨_, _, rfl, rfl, rfl⟩, ⟨_, _, rfl, rfl, rfl⟩, trivial⟩)
        have n511 : W 2 #[true, true, true, true, true, true, true, true, true, false, false] (mkSt [(4, one (Cell.ptr 0 0)), (77, agg [cI v15, cI b21, cI b22, cI v18, cI v19, cI v20])] [] [(0, [cI (0 : Int), cI (0 : Int), cI (0 : Int), cI (0 : Int), cI (0 : Int), cI (0 : Int)])] 1) := by
          refine hI _ _ _ ?_
          refine A.all [9] (by kernel_rfl) rfl ⟨⟨_, rfl, ?_⟩, trivial⟩
          · refine L.alloc 1 info187 rfl hF rfl rfl rfl rfl ?_
            refine L.nil ?_
            exact A.on (hO _ _ _ n1023) (Le.mk [(0, 0), (1, 1)] hm rfl ⟨⟨_, rfl, rfl⟩, ⟨_, rfl, rfl⟩, ⟨_, rfl, rfl⟩, trivial⟩ trivial ⟨⟨_, _, rfl, rfl, rfl⟩, ⟨_, _, rfl, rfl, rfl⟩, trivial⟩)
        have n767 : W 2 #[true, true, true, true, true, true, true, true, false, true, false] (mkSt [(4, one (Cell.ptr 0 0)), (16, one (Cell.ptr 1 0)), (69, one (cI v15)), (72, one (cI b21)), (75, one (cI b22)), (76, agg [cI v18, cI v19, cI v20])] [] [(0, [cI (0 : Int), cI (0 : Int), cI (0 : Int), cI (0 : Int), cI (0 : Int), cI (0 : Int)]), (1, [cI (0 : Int), cI (0 : Int), cI (0 : Int), cI (0 : Int), cI (0 : Int), cI (0 : Int)])] 2) := by
          refine hI _ _ _ ?_
          refine A.take 8 rfl (by kernel_rfl) (by kernel_rfl) (by kernel_rfl) rfl (Ca.build rfl (by rw [built187]; rfl)) (fun Q0 k0 => L.buildF built187 hF rfl rfl rfl rfl (L.nil k0)) ?_
          exact A.on (hO _ _ _ n1023) (Le.mk [(0, 0), (1, 1)] hm rfl ⟨⟨_, rfl, rfl⟩, ⟨_, rfl, rfl⟩, ⟨_, rfl, rfl⟩, trivial⟩ trivial ⟨⟨_, _, rfl, rfl, rfl⟩, ⟨_, _, rfl, rfl, rfl⟩, trivial⟩)
        have n639 : W 3 #[true, true, true, true, true, true, true, false, false, true, false] (mkSt [(4, one (Cell.ptr 0 0)), (14, one (Cell.ptr 1 0)), (16, one (Cell.ptr 2 0)), (69, one (cI v15)), (72, one (cI b21)), (75, one (cI b22))] [] [(0, [cI (0 : Int), cI (0 : Int), cI (0 : Int), cI (0 : Int), cI (0 : Int), cI (0 : Int)]), (1, [cI v18, cI v19, cI v20]), (2, [cI (0 : Int), cI (0 : Int), cI (0 : Int), cI (0 : Int), cI (0 : Int), cI (0 : Int)])] 3) := by
          refine hI _ _ _ ?_
          refine A.all [7] (by kernel_rfl) rfl ⟨⟨_, rfl, ?_⟩, trivial⟩
          · refine L.loadPtr shape74 hF rfl rfl rfl rfl rfl rfl ?_
            refine L.nil ?_
            exact A.on (hO _ _ _ n767) (Le.mk [(0, 0), (1, 2)] hm rfl ⟨⟨_, rfl, rfl⟩, ⟨_, rfl, rfl⟩, ⟨_, rfl, rfl⟩, ⟨_, rfl, rfl⟩, ⟨_, rfl, rfl⟩, ⟨_, rfl, rfl⟩, trivial⟩ trivial ⟨⟨_, _, rfl, rfl, rfl⟩, ⟨_, _, rfl, rfl, rfl⟩, trivial⟩)
        have n703 : W 3 #[true, true, true, true, true, true, false, true, false, true, false] (mkSt [(4, one (Cell.ptr 0 0)), (16, one (Cell.ptr 1 0)), (69, one (cI v15)), (72, one (cI b21)), (74, one (Cell.ep 2 ((1 : Int).toNat) 0)), (76, agg [cI v18, cI v19, cI v20])] [(2, ⟨1, List.map eI v16⟩)] [(0, [cI (0 : Int), cI (0 : Int), cI (0 : Int), cI (0 : Int), cI (0 : Int), cI (0 : Int)]), (1, [cI (0 : Int), cI (0 : Int), cI (0 : Int), cI (0 : Int), cI (0 : Int), cI (0 : Int)])] 3) := by
          refine hI _ _ _ ?_
          refine A.all [6] (by kernel_rfl) rfl ⟨⟨_, rfl, ?_⟩, trivial⟩
          · refine L.loadEp (xs := v16) (e := eI) shape3 hF rfl rfl rfl rfl (at?_get hb22).2 rfl rfl ?_
            refine L.nil ?_
            exact A.on (hO _ _ _ n767) (Le.mk [(0, 0), (1, 1)] hm rfl ⟨⟨_, rfl, rfl⟩, ⟨_, rfl, rfl⟩, ⟨_, rfl, rfl⟩, ⟨_, rfl, rfl⟩, ⟨_, rfl, rfl⟩, ⟨_, rfl, rfl⟩, trivial⟩ trivial ⟨⟨_, _, rfl, rfl, rfl⟩, ⟨_, _, rfl, rfl, rfl⟩, trivial⟩)
        have n759 : W 3 #[true, true, true, false, true, true, true, true, false, true, false] (mkSt [(4, one (Cell.ptr 0 0)), (16, one (Cell.ptr 1 0)), (69, one (cI v15)), (71, one (Cell.ep 2 ((0 : Int).toNat) 0)), (75, one (cI b22)), (76, agg [cI v18, cI v19, cI v20])] [(2, ⟨1, List.map eI v16⟩)] [(0, [cI (0 : Int), cI (0 : Int), cI (0 : Int), cI (0 : Int), cI (0 : Int), cI (0 : Int)]), (1, [cI (0 : Int), cI (0 : Int), cI (0 : Int), cI (0 : Int), cI (0 : Int), cI (0 : Int)])] 3) := by
          refine hI _ _ _ ?_
          refine A.all [3] (by kernel_rfl) rfl ⟨⟨_, rfl, ?_⟩, trivial⟩
          · refine L.loadEp (xs := v16) (e := eI) shape3 hF rfl rfl rfl rfl (at?_get hb21).2 rfl rfl ?_
            refine L.nil ?_
            exact A.on (hO _ _ _ n767) (Le.mk [(0, 0), (1, 1)] hm rfl ⟨⟨_, rfl, rfl⟩, ⟨_, rfl, rfl⟩, ⟨_, rfl, rfl⟩, ⟨_, rfl, rfl⟩, ⟨_, rfl, rfl⟩, ⟨_, rfl, rfl⟩, trivial⟩ trivial ⟨⟨_, _, rfl, rfl, rfl⟩, ⟨_, _, rfl, rfl, rfl⟩, trivial⟩)
        have n255 : W 3 #[true, true, true, true, true, true, true, true, false, false, false] (mkSt [(4, one (Cell.ptr 0 0)), (69, one (cI v15)), (72, one (cI b21)), (75, one (cI b22)), (76, agg [cI v18, cI v19, cI v20])] [] [(0, [cI (0 : Int), cI (0 : Int), cI (0 : Int), cI (0 : Int), cI (0 : Int), cI (0 : Int)])] 1) := by
          refine hI _ _ _ ?_
          refine A.take 8 rfl (by kernel_rfl) (by kernel_rfl) (by kernel_rfl) rfl (Ca.build rfl (by rw [built187]; rfl)) (fun Q0 k0 => L.buildF built187 hF rfl rfl rfl rfl (L.nil k0)) ?_
          exact A.on (hO _ _ _ n511) (Le.mk [(0, 0)] hm rfl ⟨⟨_, rfl, rfl⟩, ⟨_, rfl, rfl⟩, trivial⟩ trivial ⟨⟨_, _, rfl, rfl, rfl⟩, trivial⟩)
        have n191 : W 4 #[true, true, true, true, true, true, false, true, false, false, false] (mkSt [(4, one (Cell.ptr 0 0)), (69, one (cI v15)), (72, one (cI b21)), (74, one (Cell.ep 1 ((1 : Int).toNat) 0)), (76, agg [cI v18, cI v19, cI v20])] [(1, ⟨1, List.map eI v16⟩)] [(0, [cI (0 : Int), cI (0 : Int), cI (0 : Int), cI (0 : Int), cI (0 : Int), cI (0 : Int)])] 2) := by
          refine hI _ _ _ ?_
          refine A.all [6, 9] (by kernel_rfl) rfl ⟨⟨_, rfl, ?_⟩, ⟨_, rfl, ?_⟩, trivial⟩
          · refine L.loadEp (xs := v16) (e := eI) shape3 hF rfl rfl rfl rfl (at?_get hb22).2 rfl rfl ?_
            refine L.nil ?_
            exact A.on (hO _ _ _ n255) (Le.mk [(0, 0)] hm rfl ⟨⟨_, rfl, rfl⟩, ⟨_, rfl, rfl⟩, ⟨_, rfl, rfl⟩, ⟨_, rfl, rfl⟩, ⟨_, rfl, rfl⟩, trivial⟩ trivial ⟨⟨_, _, rfl, rfl, rfl⟩, trivial⟩)
          · refine L.alloc 2 info187 rfl hF rfl rfl rfl rfl ?_
            refine L.nil ?_
            exact A.on (hO _ _ _ n703) (Le.mk [(0, 0), (1, 2), (2, 1)] hm rfl ⟨⟨_, rfl, rfl⟩, ⟨_, rfl, rfl⟩, ⟨_, rfl, rfl⟩, ⟨_, rfl, rfl⟩, ⟨_, rfl, rfl⟩, ⟨_, rfl, rfl⟩, trivial⟩ ⟨⟨_, rfl, rfl⟩, trivial⟩ ⟨⟨_, _, rfl, rfl, rfl⟩, ⟨_, _, rfl, rfl, rfl⟩, trivial⟩)
        have n575 : W 4 #[true, true, true, true, true, true, false, false, false, true, false] (mkSt [(4, one (Cell.ptr 0 0)), (14, one (Cell.ptr 1 0)), (16, one (Cell.ptr 2 0)), (69, one (cI v15)), (72, one (cI b21)), (74, one (Cell.ep 3 ((1 : Int).toNat) 0))] [(3, ⟨1, List.map eI v16⟩)] [(0, [cI (0 : Int), cI (0 : Int), cI (0 : Int), cI (0 : Int), cI (0 : Int), cI (0 : Int)]), (1, [cI v18, cI v19, cI v20]), (2, [cI (0 : Int), cI (0 : Int), cI (0 : Int), cI (0 : Int), cI (0 : Int), cI (0 : Int)])] 4) := by
          refine hI _ _ _ ?_
          refine A.all [6, 7] (by kernel_rfl) rfl ⟨⟨_, rfl, ?_⟩, ⟨_, rfl, ?_⟩, trivial⟩
          · refine L.loadEp (xs := v16) (e := eI) shape3 hF rfl rfl rfl rfl (at?_get hb22).2 rfl rfl ?_
            refine L.nil ?_
            exact A.on (hO _ _ _ n639) (Le.mk [(0, 0), (1, 1), (2, 2)] hm rfl ⟨⟨_, rfl, rfl⟩, ⟨_, rfl, rfl⟩, ⟨_, rfl, rfl⟩, ⟨_, rfl, rfl⟩, ⟨_, rfl, rfl⟩, ⟨_, rfl, rfl⟩, trivial⟩ trivial ⟨⟨_, _, rfl, rfl, rfl⟩, ⟨_, _, rfl, rfl, rfl⟩, ⟨_, _, rfl, rfl, rfl⟩, trivial⟩)
          · refine L.loadPtr shape74 hF rfl rfl rfl rfl rfl rfl ?_
            refine L.nil ?_
            exact A.on (hO _ _ _ n703) (Le.mk [(0, 0), (1, 2), (2, 3)] hm rfl ⟨⟨_, rfl, rfl⟩, ⟨_, rfl, rfl⟩, ⟨_, rfl, rfl⟩, ⟨_, rfl, rfl⟩, ⟨_, rfl, rfl⟩, ⟨_, rfl, rfl⟩, trivial⟩ ⟨⟨_, rfl, rfl⟩, trivial⟩ ⟨⟨_, _, rfl, rfl, rfl⟩, ⟨_, _, rfl, rfl, rfl⟩, trivial⟩)
        have n247 : W 4 #[true, true, true, false, true, true, true, true, false, false, false] (mkSt [(4, one (Cell.ptr 0 0)), (69, one (cI v15)), (71, one (Cell.ep 1 ((0 : Int).toNat) 0)), (75, one (cI b22)), (76, agg [cI v18, cI v19, cI v20])] [(1, ⟨1, List.map eI v16⟩)] [(0, [cI (0 : Int), cI (0 : Int), cI (0 : Int), cI (0 : Int), cI (0 : Int), cI (0 : Int)])] 2) := by
          refine hI _ _ _ ?_
          refine A.all [3, 9] (by kernel_rfl) rfl ⟨⟨_, rfl, ?_⟩, ⟨_, rfl, ?_⟩, trivial⟩
          · refine L.loadEp (xs := v16) (e := eI) shape3 hF rfl rfl rfl rfl (at?_get hb21).2 rfl rfl ?_
            refine L.nil ?_
            exact A.on (hO _ _ _ n255) (Le.mk [(0, 0)] hm rfl ⟨⟨_, rfl, rfl⟩, ⟨_, rfl, rfl⟩, ⟨_, rfl, rfl⟩, ⟨_, rfl, rfl⟩, ⟨_, rfl, rfl⟩, trivial⟩ trivial ⟨⟨_, _, rfl, rfl, rfl⟩, trivial⟩)
          · refine L.alloc 2 info187 rfl hF rfl rfl rfl rfl ?_
            refine L.nil ?_
            exact A.on (hO _ _ _ n759) (Le.mk [(0, 0), (1, 2), (2, 1)] hm rfl ⟨⟨_, rfl, rfl⟩, ⟨_, rfl, rfl⟩, ⟨_, rfl, rfl⟩, ⟨_, rfl, rfl⟩, ⟨_, rfl, rfl⟩, ⟨_, rfl, rfl⟩, trivial⟩ ⟨⟨_, rfl, rfl⟩, trivial⟩ ⟨⟨_, _, rfl, rfl, rfl⟩, ⟨_, _, rfl, rfl, rfl⟩, trivial⟩)
        have n631 : W 4 #[true, true, true, false, true, true, true, false, false, true, false] (mkSt [(4, one (Cell.ptr 0 0)), (14, one (Cell.ptr 1 0)), (16, one (Cell.ptr 2 0)), (69, one (cI v15)), (71, one (Cell.ep 3 ((0 : Int).toNat) 0)), (75, one (cI b22))] [(3, ⟨1, List.map eI v16⟩)] [(0, [cI (0 : Int), cI (0 : Int), cI (0 : Int), cI (0 : Int), cI (0 : Int), cI (0 : Int)]), (1, [cI v18, cI v19, cI v20]), (2, [cI (0 : Int), cI (0 : Int), cI (0 : Int), cI (0 : Int), cI (0 : Int), cI (0 : Int)])] 4) := by
          refine hI _ _ _ ?_
          refine A.all [3, 7] (by kernel_rfl) rfl ⟨⟨_, rfl, ?_⟩, ⟨_, rfl, ?_⟩, trivial⟩
          · refine L.loadEp (xs := v16) (e := eI) shape3 hF rfl rfl rfl rfl (at?_get hb21).2 rfl rfl ?_
            refine L.nil ?_
            exact A.on (hO _ _ _ n639) (Le.mk [(0, 0), (1, 1), (2, 2)] hm rfl ⟨⟨_, rfl, rfl⟩, ⟨_, rfl, rfl⟩, ⟨_, rfl, rfl⟩, ⟨_, rfl, rfl⟩, ⟨_, rfl, rfl⟩, ⟨_, rfl, rfl⟩, trivial⟩ trivial ⟨⟨_, _, rfl, rfl, rfl⟩, ⟨_, _, rfl, rfl, rfl⟩, ⟨_, _, rfl, rfl, rfl⟩, trivial⟩)
          · refine L.loadPtr shape74 hF rfl rfl rfl rfl rfl rfl ?_
            refine L.nil ?_
            exact A.on (hO _ _ _ n759) (Le.mk [(0, 0), (1, 2), (2, 3)] hm rfl ⟨⟨_, rfl, rfl⟩, ⟨_, rfl, rfl⟩, ⟨_, rfl, rfl⟩, ⟨_, rfl, rfl⟩, ⟨_, rfl, rfl⟩, ⟨_, rfl, rfl⟩, trivial⟩ ⟨⟨_, rfl, rfl⟩, trivial⟩ ⟨⟨_, _, rfl, rfl, rfl⟩, ⟨_, _, rfl, rfl, rfl⟩, trivial⟩)
        have n695 : W 4 #[true, true, true, false, true, true, false, true, false, true, false] (mkSt [(4, one (Cell.ptr 0 0)), (16, one (Cell.ptr 1 0)), (69, one (cI v15)), (71, one (Cell.ep 2 ((0 : Int).toNat) 0)), (74, one (Cell.ep 2 ((1 : Int).toNat) 0)), (76, agg [cI v18, cI v19, cI v20])] [(2, ⟨1, List.map eI v16⟩)] [(0, [cI (0 : Int), cI (0 : Int), cI (0 : Int), cI (0 : Int), cI (0 : Int), cI (0 : Int)]), (1, [cI (0 : Int), cI (0 : Int), cI (0 : Int), cI (0 : Int), cI (0 : Int), cI (0 : Int)])] 3) := by
          refine hI _ _ _ ?_
          refine A.all [3, 6] (by kernel_rfl) rfl ⟨⟨_, rfl, ?_⟩, ⟨_, rfl, ?_⟩, trivial⟩
          · refine L.loadEp (xs := v16) (e := eI) shape3 hF rfl rfl rfl rfl (at?_get hb21).2 rfl rfl ?_
            refine L.nil ?_
            exact A.on (hO _ _ _ n703) (Le.mk [(0, 0), (1, 1), (2, 2)] hm rfl ⟨⟨_, rfl, rfl⟩, ⟨_, rfl, rfl⟩, ⟨_, rfl, rfl⟩, ⟨_, rfl, rfl⟩, ⟨_, rfl, rfl⟩, ⟨_, rfl, rfl⟩, trivial⟩ ⟨⟨_, rfl, rfl⟩, trivial⟩ ⟨⟨_, _, rfl, rfl, rfl⟩, ⟨_, _, rfl, rfl, rfl⟩, trivial⟩)
          · refine L.loadEp (xs := v16) (e := eI) shape3 hF rfl rfl rfl rfl (at?_get hb22).2 rfl rfl ?_
            refine L.nil ?_
            exact A.on (hO _ _ _ n759) (Le.mk [(0, 0), (1, 1), (2, 2)] hm rfl ⟨⟨_, rfl, rfl⟩, ⟨_, rfl, rfl⟩, ⟨_, rfl, rfl⟩, ⟨_, rfl, rfl⟩, ⟨_, rfl, rfl⟩, ⟨_, rfl, rfl⟩, trivial⟩ ⟨⟨_, rfl, rfl⟩, trivial⟩ ⟨⟨_, _, rfl, rfl, rfl⟩, ⟨_, _, rfl, rfl, rfl⟩, trivial⟩)
        have n127 : W 4 #[true, true, true, true, true, true, true, false, false, false, false] (mkSt [(4, one (Cell.ptr 0 0)), (14, one (Cell.ptr 1 0)), (69, one (cI v15)), (72, one (cI b21)), (75, one (cI b22))] [] [(0, [cI (0 : Int), cI (0 : Int), cI (0 : Int), cI (0 : Int), cI (0 : Int), cI (0 : Int)]), (1, [cI v18, cI v19, cI v20])] 2) := by
          refine hI _ _ _ ?_
          refine A.all [7, 9] (by kernel_rfl) rfl ⟨⟨_, rfl, ?_⟩, ⟨_, rfl, ?_⟩, trivial⟩
          · refine L.loadPtr shape74 hF rfl rfl rfl rfl rfl rfl ?_
            refine L.nil ?_
            exact A.on (hO _ _ _ n255) (Le.mk [(0, 0)] hm rfl ⟨⟨_, rfl, rfl⟩, ⟨_, rfl, rfl⟩, ⟨_, rfl, rfl⟩, ⟨_, rfl, rfl⟩, ⟨_, rfl, rfl⟩, trivial⟩ trivial ⟨⟨_, _, rfl, rfl, rfl⟩, trivial⟩)
          · refine L.alloc 2 info187 rfl hF rfl rfl rfl rfl ?_
            refine L.nil ?_
            exact A.on (hO _ _ _ n639) (Le.mk [(0, 0), (1, 1), (2, 2)] hm rfl ⟨⟨_, rfl, rfl⟩, ⟨_, rfl, rfl⟩, ⟨_, rfl, rfl⟩, ⟨_, rfl, rfl⟩, ⟨_, rfl, rfl⟩, ⟨_, rfl, rfl⟩, trivial⟩ trivial ⟨⟨_, _, rfl, rfl, rfl⟩, ⟨_, _, rfl, rfl, rfl⟩, ⟨_, _, rfl, rfl, rfl⟩, trivial⟩)
        have n119 : W 5 #[true, true, true, false, true, true, true, false, false, false, false] (mkSt [(4, one (Cell.ptr 0 0)), (14, one (Cell.ptr 1 0)), (69, one (cI v15)), (71, one (Cell.ep 2 ((0 : Int).toNat) 0)), (75, one (cI b22))] [(2, ⟨1, List.map eI v16⟩)] [(0, [cI (0 : Int), cI (0 : Int), cI (0 : Int), cI (0 : Int), cI (0 : Int), cI (0 : Int)]), (1, [cI v18, cI v19, cI v20])] 3) := by
          refine hI _ _ _ ?_
          refine A.all [3, 7, 9] (by kernel_rfl) rfl ⟨⟨_, rfl, ?_⟩, ⟨_, rfl, ?_⟩, ⟨_, rfl, ?_⟩, trivial⟩
          · refine L.loadEp (xs := v16) (e := eI) shape3 hF rfl rfl rfl rfl (at?_get hb21).2 rfl rfl ?_
            refine L.nil ?_
            exact A.on (hO _ _ _ n127) (Le.mk [(0, 0), (1, 1)] hm rfl ⟨⟨_, rfl, rfl⟩, ⟨_, rfl, rfl⟩, ⟨_, rfl, rfl⟩, ⟨_, rfl, rfl⟩, ⟨_, rfl, rfl⟩, trivial⟩ trivial ⟨⟨_, _, rfl, rfl, rfl⟩, ⟨_, _, rfl, rfl, rfl⟩, trivial⟩)
          · refine L.loadPtr shape74 hF rfl rfl rfl rfl rfl rfl ?_
            refine L.nil ?_
            exact A.on (hO _ _ _ n247) (Le.mk [(0, 0), (1, 2)] hm rfl ⟨⟨_, rfl, rfl⟩, ⟨_, rfl, rfl⟩, ⟨_, rfl, rfl⟩, ⟨_, rfl, rfl⟩, ⟨_, rfl, rfl⟩, trivial⟩ ⟨⟨_, rfl, rfl⟩, trivial⟩ ⟨⟨_, _, rfl, rfl, rfl⟩, trivial⟩)
          · refine L.alloc 3 info187 rfl hF rfl rfl rfl rfl ?_
            refine L.nil ?_
            exact A.on (hO _ _ _ n631) (Le.mk [(0, 0), (1, 1), (2, 3), (3, 2)] hm rfl ⟨⟨_, rfl, rfl⟩, ⟨_, rfl, rfl⟩, ⟨_, rfl, rfl⟩, ⟨_, rfl, rfl⟩, ⟨_, rfl, rfl⟩, ⟨_, rfl, rfl⟩, trivial⟩ ⟨⟨_, rfl, rfl⟩, trivial⟩ ⟨⟨_, _, rfl, rfl, rfl⟩, ⟨_, _, rfl, rfl, rfl⟩, ⟨_, _, rfl, rfl, rfl⟩, trivial⟩)
        have n183 : W 5 #[true, true, true, false, true, true, false, true, false, false, false] (mkSt [(4, one (Cell.ptr 0 0)), (69, one (cI v15)), (71, one (Cell.ep 1 ((0 : Int).toNat) 0)), (74, one (Cell.ep 1 ((1 : Int).toNat) 0)), (76, agg [cI v18, cI v19, cI v20])] [(1, ⟨1, List.map eI v16⟩)] [(0, [cI (0 : Int), cI (0 : Int), cI (0 : Int), cI (0 : Int), cI (0 : Int), cI (0 : Int)])] 2) := by
          refine hI _ _ _ ?_
          refine A.all [3, 6, 9] (by kernel_rfl) rfl ⟨⟨_, rfl, ?_⟩, ⟨_, rfl, ?_⟩, ⟨_, rfl, ?_⟩, trivial⟩
          · refine L.loadEp (xs := v16) (e := eI) shape3 hF rfl rfl rfl rfl (at?_get hb21).2 rfl rfl ?_
            refine L.nil ?_
            exact A.on (hO _ _ _ n191) (Le.mk [(0, 0), (1, 1)] hm rfl ⟨⟨_, rfl, rfl⟩, ⟨_, rfl, rfl⟩, ⟨_, rfl, rfl⟩, ⟨_, rfl, rfl⟩, ⟨_, rfl, rfl⟩, trivial⟩ ⟨⟨_, rfl, rfl⟩, trivial⟩ ⟨⟨_, _, rfl, rfl, rfl⟩, trivial⟩)
          · refine L.loadEp (xs := v16) (e := eI) shape3 hF rfl rfl rfl rfl (at?_get hb22).2 rfl rfl ?_
            refine L.nil ?_
            exact A.on (hO _ _ _ n247) (Le.mk [(0, 0), (1, 1)] hm rfl ⟨⟨_, rfl, rfl⟩, ⟨_, rfl, rfl⟩, ⟨_, rfl, rfl⟩, ⟨_, rfl, rfl⟩, ⟨_, rfl, rfl⟩, trivial⟩ ⟨⟨_, rfl, rfl⟩, trivial⟩ ⟨⟨_, _, rfl, rfl, rfl⟩, trivial⟩)
          · refine L.alloc 2 info187 rfl hF rfl rfl rfl rfl ?_
            refine L.nil ?_
            exact A.on (hO _ _ _ n695) (Le.mk [(0, 0), (1, 2), (2, 1)] hm rfl ⟨⟨_, rfl, rfl⟩, ⟨_, rfl, rfl⟩, ⟨_, rfl, rfl⟩, ⟨_, rfl, rfl⟩, ⟨_, rfl, rfl⟩, ⟨_, rfl, rfl⟩, trivial⟩ ⟨⟨_, rfl, rfl⟩, trivial⟩ ⟨⟨_, _, rfl, rfl, rfl⟩, ⟨_, _, rfl, rfl, rfl⟩, trivial⟩)
        have n567 : W 5 #[true, true, true, false, true, true, false, false, false, true, false] (mkSt [(4, one (Cell.ptr 0 0)), (14, one (Cell.ptr 1 0)), (16, one (Cell.ptr 2 0)), (69, one (cI v15)), (71, one (Cell.ep 3 ((0 : Int).toNat) 0)), (74, one (Cell.ep 3 ((1 : Int).toNat) 0))] [(3, ⟨1, List.map eI v16⟩)] [(0, [cI (0 : Int), cI (0 : Int), cI (0 : Int), cI (0 : Int), cI (0 : Int), cI (0 : Int)]), (1, [cI v18, cI v19, cI v20]), (2, [cI (0 : Int), cI (0 : Int), cI (0 : Int), cI (0 : Int), cI (0 : Int), cI (0 : Int)])] 4) := by
          refine hI _ _ _ ?_
          refine A.all [3, 6, 7] (by kernel_rfl) rfl ⟨⟨_, rfl, ?_⟩, ⟨_, rfl, ?_⟩, ⟨_, rfl, ?_⟩, trivial⟩
          · refine L.loadEp (xs := v16) (e := eI) shape3 hF rfl rfl rfl rfl (at?_get hb21).2 rfl rfl ?_
            refine L.nil ?_
            exact A.on (hO _ _ _ n575) (Le.mk [(0, 0), (1, 1), (2, 2), (3, 3)] hm rfl ⟨⟨_, rfl, rfl⟩, ⟨_, rfl, rfl⟩, ⟨_, rfl, rfl⟩, ⟨_, rfl, rfl⟩, ⟨_, rfl, rfl⟩, ⟨_, rfl, rfl⟩, trivial⟩ ⟨⟨_, rfl, rfl⟩, trivial⟩ ⟨⟨_, _, rfl, rfl, rfl⟩, ⟨_, _, rfl, rfl, rfl⟩, ⟨_, _, rfl, rfl, rfl⟩, trivial⟩)
          · refine L.loadEp (xs := v16) (e := eI) shape3 hF rfl rfl rfl rfl (at?_get hb22).2 rfl rfl ?_
            refine L.nil ?_
            exact A.on (hO _ _ _ n631) (Le.mk [(0, 0), (1, 1), (2, 2), (3, 3)] hm rfl ⟨⟨_, rfl, rfl⟩, ⟨_, rfl, rfl⟩, ⟨_, rfl, rfl⟩, ⟨_, rfl, rfl⟩, ⟨_, rfl, rfl⟩, ⟨_, rfl, rfl⟩, trivial⟩ ⟨⟨_, rfl, rfl⟩, trivial⟩ ⟨⟨_, _, rfl, rfl, rfl⟩, ⟨_, _, rfl, rfl, rfl⟩, ⟨_, _, rfl, rfl, rfl⟩, trivial⟩)
          · refine L.loadPtr shape74 hF rfl rfl rfl rfl rfl rfl ?_
            refine L.nil ?_
            exact A.on (hO _ _ _ n695) (Le.mk [(0, 0), (1, 2), (2, 3)] hm rfl ⟨⟨_, rfl, rfl⟩, ⟨_, rfl, rfl⟩, ⟨_, rfl, rfl⟩, ⟨_, rfl, rfl⟩, ⟨_, rfl, rfl⟩, ⟨_, rfl, rfl⟩, trivial⟩ ⟨⟨_, rfl, rfl⟩, trivial⟩ ⟨⟨_, _, rfl, rfl, rfl⟩, ⟨_, _, rfl, rfl, rfl⟩, trivial⟩)
        have n63 : W 5 #[true, true, true, true, true, true, false, false, false, false, false] (mkSt [(4, one (Cell.ptr 0 0)), (14, one (Cell.ptr 1 0)), (69, one (cI v15)), (72, one (cI b21)), (74, one (Cell.ep 2 ((1 : Int).toNat) 0))] [(2, ⟨1, List.map eI v16⟩)] [(0, [cI (0 : Int), cI (0 : Int), cI (0 : Int), cI (0 : Int), cI (0 : Int), cI (0 : Int)]), (1, [cI v18, cI v19, cI v20])] 3) := by
          refine hI _ _ _ ?_
          refine A.all [6, 7, 9] (by kernel_rfl) rfl ⟨⟨_, rfl, ?_⟩, ⟨_, rfl, ?_⟩, ⟨_, rfl, ?_⟩, trivial⟩
          · refine L.loadEp (xs := v16) (e := eI) shape3 hF rfl rfl rfl rfl (at?_get hb22).2 rfl rfl ?_
            refine L.nil ?_
            exact A.on (hO _ _ _ n127) (Le.mk [(0, 0), (1, 1)] hm rfl ⟨⟨_, rfl, rfl⟩, ⟨_, rfl, rfl⟩, ⟨_, rfl, rfl⟩, ⟨_, rfl, rfl⟩, ⟨_, rfl, rfl⟩, trivial⟩ trivial ⟨⟨_, _, rfl, rfl, rfl⟩, ⟨_, _, rfl, rfl, rfl⟩, trivial⟩)
          · refine L.loadPtr shape74 hF rfl rfl rfl rfl rfl rfl ?_
            refine L.nil ?_
            exact A.on (hO _ _ _ n191) (Le.mk [(0, 0), (1, 2)] hm rfl ⟨⟨_, rfl, rfl⟩, ⟨_, rfl, rfl⟩, ⟨_, rfl, rfl⟩, ⟨_, rfl, rfl⟩, ⟨_, rfl, rfl⟩, trivial⟩ ⟨⟨_, rfl, rfl⟩, trivial⟩ ⟨⟨_, _, rfl, rfl, rfl⟩, trivial⟩)
          · refine L.alloc 3 info187 rfl hF rfl rfl rfl rfl ?_
            refine L.nil ?_
            exact A.on (hO _ _ _ n575) (Le.mk [(0, 0), (1, 1), (2, 3), (3, 2)] hm rfl ⟨⟨_, rfl, rfl⟩, ⟨_, rfl, rfl⟩, ⟨_, rfl, rfl⟩, ⟨_, rfl, rfl⟩, ⟨_, rfl, rfl⟩, ⟨_, rfl, rfl⟩, trivial⟩ ⟨⟨_, rfl, rfl⟩, trivial⟩ ⟨⟨_, _, rfl, rfl, rfl⟩, ⟨_, _, rfl, rfl, rfl⟩, ⟨_, _, rfl, rfl, rfl⟩, trivial⟩)
        have n55 : W 6 #[true, true, true, false, true, true, false, false, false, false, false] (mkSt [(4, one (Cell.ptr 0 0)), (14, one (Cell.ptr 1 0)), (69, one (cI v15)), (71, one (Cell.ep 2 ((0 : Int).toNat) 0)), (74, one (Cell.ep 2 ((1 : Int).toNat) 0))] [(2, ⟨1, List.map eI v16⟩)] [(0, [cI (0 : Int), cI (0 : Int), cI (0 : Int), cI (0 : Int), cI (0 : Int), cI (0 : Int)]), (1, [cI v18, cI v19, cI v20])] 3) := by
          refine hI _ _ _ ?_
          refine A.all [3, 6, 7, 9] (by kernel_rfl) rfl ⟨⟨_, rfl, ?_⟩, ⟨_, rfl, ?_⟩, ⟨_, rfl, ?_⟩, ⟨_, rfl, ?_⟩, trivial⟩
          · refine L.loadEp (xs := v16) (e := eI) shape3 hF rfl rfl rfl rfl (at?_get hb21).2 rfl rfl ?_
            refine L.nil ?_
            exact A.on (hO _ _ _ n63) (Le.mk [(0, 0), (1, 1), (2, 2)] hm rfl ⟨⟨_, rfl, rfl⟩, ⟨_, rfl, rfl⟩, ⟨_, rfl, rfl⟩, ⟨_, rfl, rfl⟩, ⟨_, rfl, rfl⟩, trivial⟩ ⟨⟨_, rfl, rfl⟩, trivial⟩ ⟨⟨_, _, rfl, rfl, rfl⟩, ⟨_, _, rfl, rfl, rfl⟩, trivial⟩)
          · refine L.loadEp (xs := v16) (e := eI) shape3 hF rfl rfl rfl rfl (at?_get hb22).2 rfl rfl ?_
            refine L.nil ?_
            exact A.on (hO _ _ _ n119) (Le.mk [(0, 0), (1, 1), (2, 2)] hm rfl ⟨⟨_, rfl, rfl⟩, ⟨_, rfl, rfl⟩, ⟨_, rfl, rfl⟩, ⟨_, rfl, rfl⟩, ⟨_, rfl, rfl⟩, trivial⟩ ⟨⟨_, rfl, rfl⟩, trivial⟩ ⟨⟨_, _, rfl, rfl, rfl⟩, ⟨_, _, rfl, rfl, rfl⟩, trivial⟩)
          · refine L.loadPtr shape74 hF rfl rfl rfl rfl rfl rfl ?_
            refine L.nil ?_
            exact A.on (hO _ _ _ n183) (Le.mk [(0, 0), (1, 2)] hm rfl ⟨⟨_, rfl, rfl⟩, ⟨_, rfl, rfl⟩, ⟨_, rfl, rfl⟩, ⟨_, rfl, rfl⟩, ⟨_, rfl, rfl⟩, trivial⟩ ⟨⟨_, rfl, rfl⟩, trivial⟩ ⟨⟨_, _, rfl, rfl, rfl⟩, trivial⟩)
          · refine L.alloc 3 info187 rfl hF rfl rfl rfl rfl ?_
            refine L.nil ?_
            exact A.on (hO _ _ _ n567) (Le.mk [(0, 0), (1, 1), (2, 3), (3, 2)] hm rfl ⟨⟨_, rfl, rfl⟩, ⟨_, rfl, rfl⟩, ⟨_, rfl, rfl⟩, ⟨_, rfl, rfl⟩, ⟨_, rfl, rfl⟩, ⟨_, rfl, rfl⟩, trivial⟩ ⟨⟨_, rfl, rfl⟩, trivial⟩ ⟨⟨_, _, rfl, rfl, rfl⟩, ⟨_, _, rfl, rfl, rfl⟩, ⟨_, _, rfl, rfl, rfl⟩, trivial⟩)
        have n23 : W 7 #[true, true, true, false, true, false, false, false, false, false, false] (mkSt [(4, one (Cell.ptr 0 0)), (14, one (Cell.ptr 1 0)), (69, one (cI v15)), (71, one (Cell.ep 2 ((0 : Int).toNat) 0)), (73, one (Cell.own 2))] [(2, ⟨1, List.map eI v16⟩)] [(0, [cI (0 : Int), cI (0 : Int), cI (0 : Int), cI (0 : Int), cI (0 : Int), cI (0 : Int)]), (1, [cI v18, cI v19, cI v20])] 3) := by
          refine hI _ _ _ ?_
          refine A.take 5 rfl (by kernel_rfl) (by kernel_rfl) (by kernel_rfl) rfl (Ca.indexAddr) (fun Q0 k0 => L.idxR (xs := v16) (e := eI) Try.underlying24 info3 hF rfl rfl rfl rfl rfl hb22 rfl rfl (L.nil k0)) ?_
          exact A.on (hO _ _ _ n55) (Le.mk [(0, 0), (1, 1), (2, 2)] hm rfl ⟨⟨_, rfl, rfl⟩, ⟨_, rfl, rfl⟩, ⟨_, rfl, rfl⟩, ⟨_, rfl, rfl⟩, ⟨_, rfl, rfl⟩, trivial⟩ ⟨⟨_, rfl, rfl⟩, trivial⟩ ⟨⟨_, _, rfl, rfl, rfl⟩, ⟨_, _, rfl, rfl, rfl⟩, trivial⟩)
        have n7 : W 8 #[true, true, true, false, false, false, false, false, false, false, false] (mkSt [(4, one (Cell.ptr 0 0)), (12, one (Cell.own 1)), (14, one (Cell.ptr 2 0)), (69, one (cI v15)), (71, one (Cell.ep 1 ((0 : Int).toNat) 0))] [(1, ⟨1, List.map eI v16⟩)] [(0, [cI (0 : Int), cI (0 : Int), cI (0 : Int), cI (0 : Int), cI (0 : Int), cI (0 : Int)]), (2, [cI v18, cI v19, cI v20])] 3) := by
          refine hI _ _ _ ?_
          refine A.take 4 rfl (by kernel_rfl) (by kernel_rfl) (by kernel_rfl) rfl (Ca.move) (fun Q0 k0 => L.move hF rfl rfl rfl (L.nil k0)) ?_
          exact A.on (hO _ _ _ n23) (Le.mk [(0, 0), (1, 2), (2, 1)] hm rfl ⟨⟨_, rfl, rfl⟩, ⟨_, rfl, rfl⟩, ⟨_, rfl, rfl⟩, ⟨_, rfl, rfl⟩, ⟨_, rfl, rfl⟩, trivial⟩ ⟨⟨_, rfl, rfl⟩, trivial⟩ ⟨⟨_, _, rfl, rfl, rfl⟩, ⟨_, _, rfl, rfl, rfl⟩, trivial⟩)
        have n3 : W 9 #[true, true, false, false, false, false, false, false, false, false, false] (mkSt [(4, one (Cell.ptr 0 0)), (12, one (Cell.own 1)), (14, one (Cell.ptr 2 0)), (69, one (cI v15)), (70, one (Cell.own 1))] [(1, ⟨1, List.map eI v16⟩)] [(0, [cI (0 : Int), cI (0 : Int), cI (0 : Int), cI (0 : Int), cI (0 : Int), cI (0 : Int)]), (2, [cI v18, cI v19, cI v20])] 3) := by
          refine hI _ _ _ ?_
          refine A.take 2 rfl (by kernel_rfl) (by kernel_rfl) (by kernel_rfl) rfl (Ca.indexAddr) (fun Q0 k0 => L.idxR (xs := v16) (e := eI) Try.underlying24 info3 hF rfl rfl rfl rfl rfl hb21 rfl rfl (L.nil k0)) ?_
          exact A.on (hO _ _ _ n7) (Le.mk [(0, 0), (1, 1), (2, 2)] hm rfl ⟨⟨_, rfl, rfl⟩, ⟨_, rfl, rfl⟩, ⟨_, rfl, rfl⟩, ⟨_, rfl, rfl⟩, ⟨_, rfl, rfl⟩, trivial⟩ ⟨⟨_, rfl, rfl⟩, trivial⟩ ⟨⟨_, _, rfl, rfl, rfl⟩, ⟨_, _, rfl, rfl, rfl⟩, trivial⟩)
        have n1 : W 10 #[true, false, false, false, false, false, false, false, false, false, false] (mkSt [(4, one (Cell.ptr 0 0)), (12, one (Cell.own 1)), (14, one (Cell.ptr 2 0)), (69, one (cI v15))] [(1, ⟨1, List.map eI v16⟩)] [(0, [cI (0 : Int), cI (0 : Int), cI (0 : Int), cI (0 : Int), cI (0 : Int), cI (0 : Int)]), (2, [cI v18, cI v19, cI v20])] 3) := by
          refine hI _ _ _ ?_
          refine A.take 1 rfl (by kernel_rfl) (by kernel_rfl) (by kernel_rfl) rfl (Ca.move) (fun Q0 k0 => L.move hF rfl rfl rfl (L.nil k0)) ?_
          exact A.on (hO _ _ _ n3) (Le.mk [(0, 0), (1, 1), (2, 2)] hm rfl ⟨⟨_, rfl, rfl⟩, ⟨_, rfl, rfl⟩, ⟨_, rfl, rfl⟩, ⟨_, rfl, rfl⟩, ⟨_, rfl, rfl⟩, trivial⟩ ⟨⟨_, rfl, rfl⟩, trivial⟩ ⟨⟨_, _, rfl, rfl, rfl⟩, ⟨_, _, rfl, rfl, rfl⟩, trivial⟩)
        have n0 : W 11 #[false, false, false, false, false, false, false, false, false, false, false] (mkSt [(4, one (Cell.ptr 0 0)), (10, one (cI v15)), (12, one (Cell.own 1)), (14, one (Cell.ptr 2 0))] [(1, ⟨1, List.map eI v16⟩)] [(0, [cI (0 : Int), cI (0 : Int), cI (0 : Int), cI (0 : Int), cI (0 : Int), cI (0 : Int)]), (2, [cI v18, cI v19, cI v20])] 3) := by
          refine hI _ _ _ ?_
          refine A.take 0 rfl (by kernel_rfl) (by kernel_rfl) (by kernel_rfl) rfl (Ca.move) (fun Q0 k0 => L.move hF rfl rfl rfl (L.nil k0)) ?_
          exact A.on (hO _ _ _ n1) (Le.mk [(0, 0), (1, 1), (2, 2)] hm rfl ⟨⟨_, rfl, rfl⟩, ⟨_, rfl, rfl⟩, ⟨_, rfl, rfl⟩, ⟨_, rfl, rfl⟩, trivial⟩ ⟨⟨_, rfl, rfl⟩, trivial⟩ ⟨⟨_, _, rfl, rfl, rfl⟩, ⟨_, _, rfl, rfl, rfl⟩, trivial⟩)
        exact hI _ _ _ (A.on (hO _ _ _ n0) (Le.mk [(0, 0), (1, 1), (2, 2)] hm rfl ⟨⟨_, rfl, rfl⟩, ⟨_, rfl, rfl⟩, ⟨_, rfl, rfl⟩, ⟨_, rfl, rfl⟩, trivial⟩ ⟨⟨_, rfl, rfl⟩, trivial⟩ ⟨⟨_, _, rfl, rfl, rfl⟩, ⟨_, _, rfl, rfl, rfl⟩, trivial⟩))
    · refine WpC.regionL ?_
      refine L.move hF rfl rfl rfl ?_
      refine L.not hF rfl rfl rfl ?_
      refine L.move hF rfl rfl rfl ?_
      refine L.split (fun hc => ?_) (fun hc => ?_)
      · replace H := condT hc H
        refine L.off hF rfl rfl ?_
        refine L.off hF rfl rfl ?_
        refine L.pick hF rfl rfl rfl rfl ?_
        refine L.move hF rfl rfl rfl ?_
        refine L.off hF rfl rfl ?_
        refine L.off hF rfl rfl ?_
        refine L.pick hF rfl rfl rfl rfl ?_
        refine L.move hF rfl rfl rfl ?_
        refine L.off hF rfl rfl ?_
        refine L.off hF rfl rfl ?_
        refine L.off hF rfl rfl ?_
        refine L.pick hF rfl rfl rfl rfl ?_
        refine L.nil ?_
        exact ⟨_, ⟨k, r4.1, r6.1, true, r8.1.Servers, r8.1.Ops, r8.1.End, by omega, H, rfl⟩, Le.mk [(0, 2), (1, 9), (2, 15)] hm rfl ⟨⟨_, rfl, rfl⟩, ⟨_, rfl, rfl⟩, ⟨_, rfl, rfl⟩, ⟨_, rfl, rfl⟩, ⟨_, rfl, rfl⟩, trivial⟩ ⟨⟨_, rfl, rfl⟩, trivial⟩ ⟨⟨_, _, rfl, rfl, rfl⟩, ⟨_, _, rfl, rfl, rfl⟩, trivial⟩⟩
      · replace H := condF hc H
        refine L.move hF rfl rfl rfl ?_
        refine L.not hF rfl rfl rfl ?_
        refine L.pick hF rfl rfl rfl rfl ?_
        refine L.move hF rfl rfl rfl ?_
        refine L.split (fun hc => ?_) (fun hc => ?_)
        · replace H := condT hc H
          refine L.off hF rfl rfl ?_
          refine L.off hF rfl rfl ?_
          refine L.pick hF rfl rfl rfl rfl ?_
          refine L.move hF rfl rfl rfl ?_
          refine L.off hF rfl rfl ?_
          refine L.off hF rfl rfl ?_
          refine L.off hF rfl rfl ?_
          refine L.pick hF rfl rfl rfl rfl ?_
          refine L.nil ?_
          exact ⟨_, ⟨k, r4.1, r6.1, true, r8.1.Servers, r8.1.Ops, r8.1.End, by omega, H, rfl⟩, Le.mk [(0, 2), (1, 9), (2, 15)] hm rfl ⟨⟨_, rfl, rfl⟩, ⟨_, rfl, rfl⟩, ⟨_, rfl, rfl⟩, ⟨_, rfl, rfl⟩, ⟨_, rfl, rfl⟩, trivial⟩ ⟨⟨_, rfl, rfl⟩, trivial⟩ ⟨⟨_, _, rfl, rfl, rfl⟩, ⟨_, _, rfl, rfl, rfl⟩, trivial⟩⟩
        · replace H := condF hc H
          refine L.move hF rfl rfl rfl ?_
          refine L.not hF rfl rfl rfl ?_
          refine L.pick hF rfl rfl rfl rfl ?_
          refine L.move hF rfl rfl rfl ?_
          refine L.split (fun hc => ?_) (fun hc => ?_)
          · replace H := condT hc H
            refine L.off hF rfl rfl ?_
            refine L.off hF rfl rfl ?_
            refine L.off hF rfl rfl ?_
            refine L.pick hF rfl rfl rfl rfl ?_
            refine L.nil ?_
            exact ⟨_, ⟨k, r4.1, r6.1, true, r8.1.Servers, r8.1.Ops, r8.1.End, by omega, H, rfl⟩, Le.mk [(0, 2), (1, 9), (2, 15)] hm rfl ⟨⟨_, rfl, rfl⟩, ⟨_, rfl, rfl⟩, ⟨_, rfl, rfl⟩, ⟨_, rfl, rfl⟩, ⟨_, rfl, rfl⟩, trivial⟩ ⟨⟨_, rfl, rfl⟩, trivial⟩ ⟨⟨_, _, rfl, rfl, rfl⟩, ⟨_, _, rfl, rfl, rfl⟩, trivial⟩⟩
          · replace H := condF hc H
            refine L.move hF rfl rfl rfl ?_
            refine L.lenR (xs := r6.1) (e := eI) Try.underlying24 hF rfl rfl rfl rfl ?_
            refine L.bin hF rfl rfl rfl rfl rfl rfl ?_
            refine L.pick hF rfl rfl rfl rfl ?_
            refine L.nil ?_
            exact ⟨_, ⟨k, r4.1, r6.1, ((r6.1.length : Int) != (2 : Int)), r8.1.Servers, r8.1.Ops, r8.1.End, by omega, H, rfl⟩, Le.mk [(0, 2), (1, 9), (2, 15)] hm rfl ⟨⟨_, rfl, rfl⟩, ⟨_, rfl, rfl⟩, ⟨_, rfl, rfl⟩, ⟨_, rfl, rfl⟩, ⟨_, rfl, rfl⟩, trivial⟩ ⟨⟨_, rfl, rfl⟩, trivial⟩ ⟨⟨_, _, rfl, rfl, rfl⟩, ⟨_, _, rfl, rfl, rfl⟩, trivial⟩⟩
/-! ### Fspec_TakeReply -/
def Fspec_TakeReply.j4 (k : Nat) (v40 : Int) (v41 : Int) (v42 : List (List UInt8)) (v43 : Bool) (v44 : Int) (v45 : Int) (v46 : Int) (v47 : Int) (v48 : Int) (v49 : Int) : Option (Timpl_Cred × Bool) := cond v43 (some ((⟨(0 : Int), (0 : Int), (0 : Int), (0 : Int), (⟨(0 : Int), (0 : Int), (0 : Int)⟩ : Timpl_Rest), ([] : List UInt8)⟩ : Timpl_Cred), false)) ((at? v42 (1 : Int)).bind fun b50 => some ((⟨v40, v41, v45, v44, (⟨v47, v48, v49⟩ : Timpl_Rest), b50⟩ : Timpl_Cred), true))
def Fspec_TakeReply.j2 (k : Nat) (v14 : Int) (v15 : Int) (v16 : Int) (v17 : Int) (v18 : List (List UInt8)) (v19 : Bool) : Option (Timpl_Cred × Bool) := cond v19 (some ((⟨(0 : Int), (0 : Int), (0 : Int), (0 : Int), (⟨(0 : Int), (0 : Int), (0 : Int)⟩ : Timpl_Rest), ([] : List UInt8)⟩ : Timpl_Cred), false)) ((at? v18 (0 : Int)).bind fun b20 => (Fspec_ReadNums k b20).bind fun r21 => (at? v18 (2 : Int)).bind fun b22 => (Fspec_ReadGrant k b22 v16).bind fun r23 => cond (!r21.2) (Fspec_TakeReply.j4 k v14 v15 v18 true r23.1.Key r23.1.Service r23.1.Nonce r23.1.Rest.Servers r23.1.Rest.Ops r23.1.Rest.End) (cond (!r23.2) (Fspec_TakeReply.j4 k v14 v15 v18 true r23.1.Key r23.1.Service r23.1.Nonce r23.1.Rest.Servers r23.1.Rest.Ops r23.1.Rest.End) (cond ((r21.1.length : Int) != (2 : Int)) (Fspec_TakeReply.j4 k v14 v15 v18 true r23.1.Key r23.1.Service r23.1.Nonce r23.1.Rest.Servers r23.1.Rest.Ops r23.1.Rest.End) ((at? r21.1 (0 : Int)).bind fun b51 => cond (b51 != (3 : Int)) (Fspec_TakeReply.j4 k v14 v15 v18 true r23.1.Key r23.1.Service r23.1.Nonce r23.1.Rest.Servers r23.1.Rest.Ops r23.1.Rest.End) ((at? r21.1 (1 : Int)).bind fun b52 => cond (b52 != v17) (Fspec_TakeReply.j4 k v14 v15 v18 true r23.1.Key r23.1.Service r23.1.Nonce r23.1.Rest.Servers r23.1.Rest.Ops r23.1.Rest.End) (Fspec_TakeReply.j4 k v14 v15 v18 (r23.1.Nonce != v17) r23.1.Key r23.1.Service r23.1.Nonce r23.1.Rest.Servers r23.1.Rest.Ops r23.1.Rest.End))))))
def Fspec_TakeReply (k : Nat) (a0 : Int) (a1 : Int) (a2 : Int) (a3 : Int) (a4 : List UInt8) : Option (Timpl_Cred × Bool) := (Fspec_Parts k a4).bind fun r1 => (Fspec_l5Principal k a0).bind fun r53 => cond (!r53) (Fspec_TakeReply.j2 k a0 a1 a2 a3 r1.1 true) ((Fspec_l5Principal k a1).bind fun r54 => cond (!r54) (Fspec_TakeReply.j2 k a0 a1 a2 a3 r1.1 true) (Fspec_TakeReply.j2 k a0 a1 a2 a3 r1.1 ((r1.1.length : Int) != (3 : Int))))
theorem ent66 : Enters Try.prog 66 := ⟨Try.f66, Try.func66, rfl, by decide⟩
set_option maxHeartbeats 8000000 in
set_option maxRecDepth 100000 in
theorem Fspec_TakeReply_gives (k : Nat) (a0 : Int) (a1 : Int) (a2 : Int) (a3 : Int) (a4 : List UInt8) (r : Timpl_Cred × Bool) (H : Fspec_TakeReply k a0 a1 a2 a3 a4 = some r) : Gives Try.prog 66 [V.one (cI a0), V.one (cI a1), V.one (cI a2), V.one (cI a3), V.one (cS a4)] [] [V.agg [cI r.1.Owner, cI r.1.Client, cI r.1.Service, cI r.1.Key, cI r.1.Rest.Servers, cI r.1.Rest.Ops, cI r.1.Rest.End, cS r.1.Ticket], V.one (cL r.2)] [] := by
  refine Gives.intro Try.func66 rfl rfl rfl rfl ?_
  intro F hF hm
  unfold Fspec_TakeReply at H
  obtain ⟨K, hK⟩ : ∃ K, k ≤ K := ⟨k, Nat.le_refl k⟩
  refine WpC.seq ?_
  refine WpC.regionL ?_
  refine L.alloc 5 info76 rfl hF rfl rfl rfl rfl ?_
  refine L.assign hF rfl rfl rfl ?_
  refine L.nil ?_
  refine WpC.seq ?_
  refine WpC.regionL ?_
  refine L.move hF rfl rfl rfl ?_
  obtain ⟨r1, hr1, H⟩ := bindS H
  refine L.call [false] [] [] 6 hF rfl rfl rfl ent141 rfl rfl rfl rfl rfl (Fspec_Parts_gives k  a4 r1 hr1) rfl ?_
  refine L.move hF rfl rfl rfl ?_
  refine L.extract hF rfl rfl rfl rfl ?_
  refine L.extract hF rfl rfl rfl rfl ?_
  refine L.assign hF rfl rfl rfl ?_
  refine L.assign hF rfl rfl rfl ?_
  refine L.nil ?_
  refine WpC.seq ?_
  refine WpC.join (fun σ => ∃ kj2 : Nat, ∃ v14 : Int, ∃ v15 : Int, ∃ v16 : Int, ∃ v17 : Int, ∃ v18 : List (List UInt8), ∃ v19 : Bool, kj2 ≤ K ∧ Fspec_TakeReply.j2 kj2 v14 v15 v16 v17 v18 v19 = some r ∧ σ = mkSt [(0, one (cI v14)), (1, one (cI v15)), (2, one (cI v16)), (3, one (cI v17)), (10, one (Cell.ptr 0 0)), (12, one (Cell.own 1)), (35, one (cL v19))] [(1, ⟨1, List.map eS v18⟩)] [(0, [cI (0 : Int), cI (0 : Int), cI (0 : Int), cI (0 : Int), cI (0 : Int), cI (0 : Int), cI (0 : Int), cS ([] : List UInt8)])] 2) ?_ ?_
  · rintro _ ⟨kj2, v14, v15, v16, v17, v18, v19, hkj2, H, rfl⟩
    unfold Fspec_TakeReply.j2 at H
    refine WpC.cond rfl (fun hc => ?_) (fun hc => ?_)
    · replace H := condT hc H
      refine WpC.seq ?_
      refine WpC.regionL ?_
      refine L.buildF built76 hF rfl rfl rfl rfl ?_
      refine L.storePtr shape76 hF rfl rfl rfl rfl rfl rfl rfl ?_
      refine L.assign hF rfl rfl rfl ?_
      refine L.nil ?_
      refine WpC.ret ?_
      cases H
      exact Leaves.ret rfl rfl rfl ⟨rfl, rfl⟩
    · replace H := condF hc H
      refine WpC.skip ?_
      refine WpC.seq ?_
      refine WpC.regionL ?_
      refine L.move hF rfl rfl rfl ?_
      obtain ⟨b20, hb20, H⟩ := bindS H
      refine L.idxR (xs := v18) (e := eS) Try.underlying120 info9 hF rfl rfl rfl rfl rfl hb20 rfl rfl ?_
      refine L.loadEp (xs := v18) (e := eS) shape9 hF rfl rfl rfl rfl (at?_get hb20).2 rfl rfl ?_
      obtain ⟨r21, hr21, H⟩ := bindS H
      refine L.call [false] [] [] 2 hF rfl rfl rfl ent134 rfl rfl rfl rfl rfl (Fspec_ReadNums_gives kj2  b20 r21 hr21) rfl ?_
      refine L.move hF rfl rfl rfl ?_
      refine L.extract hF rfl rfl rfl rfl ?_
      refine L.extract hF rfl rfl rfl rfl ?_
      refine L.assign hF rfl rfl rfl ?_
      refine L.assign hF rfl rfl rfl ?_
      refine L.nil ?_
      refine WpC.seq ?_
      refine WpC.regionL ?_
      refine L.move hF rfl rfl rfl ?_
      obtain ⟨b22, hb22, H⟩ := bindS H
      refine L.idxR (xs := v18) (e := eS) Try.underlying120 info9 hF rfl rfl rfl rfl rfl hb22 rfl rfl ?_
      refine L.loadEp (xs := v18) (e := eS) shape9 hF rfl rfl rfl rfl (at?_get hb22).2 rfl rfl ?_
      refine L.move hF rfl rfl rfl ?_
      obtain ⟨r23, hr23, H⟩ := bindS H
      refine L.call [false, false] [] [] 4 hF rfl rfl rfl ent143 rfl rfl rfl rfl rfl (Fspec_ReadGrant_gives kj2  b22 v16 r23 hr23) rfl ?_
      refine L.move hF rfl rfl rfl ?_
      refine L.extract hF rfl rfl rfl rfl ?_
      refine L.extract hF rfl rfl rfl rfl ?_
      refine L.alloc 11 info187 rfl hF rfl rfl rfl rfl ?_
      refine L.storePtr shape187 hF rfl rfl rfl rfl rfl rfl rfl ?_
      refine L.assign hF rfl rfl rfl ?_
      refine L.nil ?_
      refine WpC.seq ?_
      refine WpC.join (fun σ => ∃ kj4 : Nat, ∃ v40 : Int, ∃ v41 : Int, ∃ v42 : List (List UInt8), ∃ v43 : Bool, ∃ v44 : Int, ∃ v45 : Int, ∃ v46 : Int, ∃ v47 : Int, ∃ v48 : Int, ∃ v49 : Int, kj4 ≤ K ∧ Fspec_TakeReply.j4 kj4 v40 v41 v42 v43 v44 v45 v46 v47 v48 v49 = some r ∧ σ = mkSt [(0, one (cI v40)), (1, one (cI v41)), (10, one (Cell.ptr 0 0)), (12, one (Cell.own 1)), (16, one (Cell.ptr 2 0)), (81, one (cL v43))] [(1, ⟨1, List.map eS v42⟩)] [(0, [cI (0 : Int), cI (0 : Int), cI (0 : Int), cI (0 : Int), cI (0 : Int), cI (0 : Int), cI (0 : Int), cS ([] : List UInt8)]), (2, [cI v44, cI v45, cI v46, cI v47, cI v48, cI v49])] 3) ?_ ?_
      · rintro _ ⟨kj4, v40, v41, v42, v43, v44, v45, v46, v47, v48, v49, hkj4, H, rfl⟩
        unfold Fspec_TakeReply.j4 at H
        refine WpC.cond rfl (fun hc => ?_) (fun hc => ?_)
        · replace H := condT hc H
          refine WpC.seq ?_
          refine WpC.regionL ?_
          refine L.buildF built76 hF rfl rfl rfl rfl ?_
          refine L.storePtr shape76 hF rfl rfl rfl rfl rfl rfl rfl ?_
          refine L.assign hF rfl rfl rfl ?_
          refine L.nil ?_
          refine WpC.ret ?_
          cases H
          exact Leaves.ret rfl rfl rfl ⟨rfl, rfl⟩
        · replace H := condF hc H
          refine WpC.skip ?_
          refine WpC.seq ?_
          obtain ⟨b50, hb50, H⟩ := bindS H
          refine A.begin mixed rfl rfl ?_
          intro W hI hO
          have n16383 : W 0 #[true, true, true, true, true, true, true, true, true, true, true, true, true, true] (mkSt [(10, one (Cell.ptr 0 0)), (11, one (cL true))] [] [(0, [cI v40, cI v41, cI v45, cI v44, cI v47, cI v48, cI v49, cS b50])] 1) := by
            refine hI _ _ _ (A.done (by kernel_rfl) ?_)
            refine WpC.ret ?_
            cases H
            exact Leaves.ret rfl rfl rfl ⟨rfl, rfl⟩
          have n8191 : W 1 #[true, true, true, true, true, true, true, true, true, true, true, true, true, false] (mkSt [(10, one (Cell.ptr 0 0))] [] [(0, [cI v40, cI v41, cI v45, cI v44, cI v47, cI v48, cI v49, cS b50])] 1) := by
            refine hI _ _ _ ?_
            refine A.take 13 rfl (by kernel_rfl) (by kernel_rfl) (by kernel_rfl) rfl (Ca.assign) (fun Q0 k0 => L.assign hF rfl rfl rfl (L.nil k0)) ?_
            exact A.on (hO _ _ _ n16383) (Le.mk [(0, 0)] hm rfl ⟨⟨_, rfl, rfl⟩, ⟨_, rfl, rfl⟩, trivial⟩ trivial ⟨⟨_, _, rfl, rfl, rfl⟩, trivial⟩)
          have n4095 : W 2 #[true, true, true, true, true, true, true, true, true, true, true, true, false, false] (mkSt [(10, one (Cell.ptr 0 0)), (94, agg [cI v40, cI v41, cI v45, cI v44, cI v47, cI v48, cI v49, cS b50])] [] [(0, [cI (0 : Int), cI (0 : Int), cI (0 : Int), cI (0 : Int), cI (0 : Int), cI (0 : Int), cI (0 : Int), cS ([] : List UInt8)])] 1) := by
            refine hI _ _ _ ?_
            refine A.all [12] (by kernel_rfl) rfl ⟨⟨_, rfl, ?_⟩, trivial⟩
            · refine L.storePtr shape76 hF rfl rfl rfl rfl rfl rfl rfl ?_
              refine L.nil ?_
              exact A.on (hO _ _ _ n8191) (Le.mk [(0, 0)] hm rfl ⟨⟨_, rfl, rfl⟩, trivial⟩ trivial ⟨⟨_, _, rfl, rfl, rfl⟩, trivial⟩)
          have n2047 : W 3 #[true, true, true, true, true, true, true, true, true, true, true, false, false, false] (mkSt [(10, one (Cell.ptr 0 0)), (83, one (cI v40)), (84, one (cI v41)), (86, one (cI v45)), (88, one (cI v44)), (90, agg [cI v47, cI v48, cI v49]), (93, one (cS b50))] [] [(0, [cI (0 : Int), cI (0 : Int), cI (0 : Int), cI (0 : Int), cI (0 : Int), cI (0 : Int), cI (0 : Int), cS ([] : List UInt8)])] 1) := by
            refine hI _ _ _ ?_
            refine A.take 11 rfl (by kernel_rfl) (by kernel_rfl) (by kernel_rfl) rfl (Ca.build rfl (by rw [built76]; rfl)) (fun Q0 k0 => L.buildF built76 hF rfl rfl rfl rfl (L.nil k0)) ?_
            exact A.on (hO _ _ _ n4095) (Le.mk [(0, 0)] hm rfl ⟨⟨_, rfl, rfl⟩, ⟨_, rfl, rfl⟩, trivial⟩ trivial ⟨⟨_, _, rfl, rfl, rfl⟩, trivial⟩)
          have n2039 : W 4 #[true, true, true, false, true, true, true, true, true, true, true, false, false, false] (mkSt [(10, one (Cell.ptr 0 0)), (83, one (cI v40)), (84, one (cI v41)), (85, one (Cell.ptr 1 1)), (88, one (cI v44)), (90, agg [cI v47, cI v48, cI v49]), (93, one (cS b50))] [] [(0, [cI (0 : Int), cI (0 : Int), cI (0 : Int), cI (0 : Int), cI (0 : Int), cI (0 : Int), cI (0 : Int), cS ([] : List UInt8)]), (1, [cI v44, cI v45, cI v46, cI v47, cI v48, cI v49])] 2) := by
            refine hI _ _ _ ?_
            refine A.all [3] (by kernel_rfl) rfl ⟨⟨_, rfl, ?_⟩, trivial⟩
            · refine L.loadPtr shape3 hF rfl rfl rfl rfl rfl rfl ?_
              refine L.nil ?_
              exact A.on (hO _ _ _ n2047) (Le.mk [(0, 0)] hm rfl ⟨⟨_, rfl, rfl⟩, ⟨_, rfl, rfl⟩, ⟨_, rfl, rfl⟩, ⟨_, rfl, rfl⟩, ⟨_, rfl, rfl⟩, ⟨_, rfl, rfl⟩, ⟨_, rfl, rfl⟩, trivial⟩ trivial ⟨⟨_, _, rfl, rfl, rfl⟩, trivial⟩)
          have n1919 : W 4 #[true, true, true, true, true, true, true, false, true, true, true, false, false, false] (mkSt [(10, one (Cell.ptr 0 0)), (83, one (cI v40)), (84, one (cI v41)), (86, one (cI v45)), (88, one (cI v44)), (89, one (Cell.ptr 1 3)), (93, one (cS b50))] [] [(0, [cI (0 : Int), cI (0 : Int), cI (0 : Int), cI (0 : Int), cI (0 : Int), cI (0 : Int), cI (0 : Int), cS ([] : List UInt8)]), (1, [cI v44, cI v45, cI v46, cI v47, cI v48, cI v49])] 2) := by
            refine hI _ _ _ ?_
            refine A.all [7] (by kernel_rfl) rfl ⟨⟨_, rfl, ?_⟩, trivial⟩
            · refine L.loadPtr shape74 hF rfl rfl rfl rfl rfl rfl ?_
              refine L.nil ?_
              exact A.on (hO _ _ _ n2047) (Le.mk [(0, 0)] hm rfl ⟨⟨_, rfl, rfl⟩, ⟨_, rfl, rfl⟩, ⟨_, rfl, rfl⟩, ⟨_, rfl, rfl⟩, ⟨_, rfl, rfl⟩, ⟨_, rfl, rfl⟩, ⟨_, rfl, rfl⟩, trivial⟩ trivial ⟨⟨_, _, rfl, rfl, rfl⟩, trivial⟩)
          have n1023 : W 4 #[true, true, true, true, true, true, true, true, true, true, false, false, false, false] (mkSt [(10, one (Cell.ptr 0 0)), (83, one (cI v40)), (84, one (cI v41)), (86, one (cI v45)), (88, one (cI v44)), (90, agg [cI v47, cI v48, cI v49]), (92, one (Cell.ep 1 ((1 : Int).toNat) 0))] [(1, ⟨1, List.map eS v42⟩)] [(0, [cI (0 : Int), cI (0 : Int), cI (0 : Int), cI (0 : Int), cI (0 : Int), cI (0 : Int), cI (0 : Int), cS ([] : List UInt8)])] 2) := by
            refine hI _ _ _ ?_
            refine A.all [10] (by kernel_rfl) rfl ⟨⟨_, rfl, ?_⟩, trivial⟩
            · refine L.loadEp (xs := v42) (e := eS) shape9 hF rfl rfl rfl rfl (at?_get hb50).2 rfl rfl ?_
              refine L.nil ?_
              exact A.on (hO _ _ _ n2047) (Le.mk [(0, 0)] hm rfl ⟨⟨_, rfl, rfl⟩, ⟨_, rfl, rfl⟩, ⟨_, rfl, rfl⟩, ⟨_, rfl, rfl⟩, ⟨_, rfl, rfl⟩, ⟨_, rfl, rfl⟩, ⟨_, rfl, rfl⟩, trivial⟩ trivial ⟨⟨_, _, rfl, rfl, rfl⟩, trivial⟩)
          have n2015 : W 4 #[true, true, true, true, true, false, true, true, true, true, true, false, false, false] (mkSt [(10, one (Cell.ptr 0 0)), (83, one (cI v40)), (84, one (cI v41)), (86, one (cI v45)), (87, one (Cell.ptr 1 0)), (90, agg [cI v47, cI v48, cI v49]), (93, one (cS b50))] [] [(0, [cI (0 : Int), cI (0 : Int), cI (0 : Int), cI (0 : Int), cI (0 : Int), cI (0 : Int), cI (0 : Int), cS ([] : List UInt8)]), (1, [cI v44, cI v45, cI v46, cI v47, cI v48, cI v49])] 2) := by
            refine hI _ _ _ ?_
            refine A.all [5] (by kernel_rfl) rfl ⟨⟨_, rfl, ?_⟩, trivial⟩
            · refine L.loadPtr shape3 hF rfl rfl rfl rfl rfl rfl ?_
              refine L.nil ?_
              exact A.on (hO _ _ _ n2047) (Le.mk [(0, 0)] hm rfl ⟨⟨_, rfl, rfl⟩, ⟨_, rfl, rfl⟩, ⟨_, rfl, rfl⟩, ⟨_, rfl, rfl⟩, ⟨_, rfl, rfl⟩, ⟨_, rfl, rfl⟩, ⟨_, rfl, rfl⟩, trivial⟩ trivial ⟨⟨_, _, rfl, rfl, rfl⟩, trivial⟩)
          have n2007 : W 5 #[true, true, true, false, true, false, true, true, true, true, true, false, false, false] (mkSt [(10, one (Cell.ptr 0 0)), (83, one (cI v40)), (84, one (cI v41)), (85, one (Cell.ptr 1 1)), (87, one (Cell.ptr 1 0)), (90, agg [cI v47, cI v48, cI v49]), (93, one (cS b50))] [] [(0, [cI (0 : Int), cI (0 : Int), cI (0 : Int), cI (0 : Int), cI (0 : Int), cI (0 : Int), cI (0 : Int), cS ([] : List UInt8)]), (1, [cI v44, cI v45, cI v46, cI v47, cI v48, cI v49])] 2) := by
            refine hI _ _ _ ?_
            refine A.all [3, 5] (by kernel_rfl) rfl ⟨⟨_, rfl, ?_⟩, ⟨_, rfl, ?_⟩, trivial⟩
            · refine L.loadPtr shape3 hF rfl rfl rfl rfl rfl rfl ?_
              refine L.nil ?_
              exact A.on (hO _ _ _ n2015) (Le.mk [(0, 0), (1, 1)] hm rfl ⟨⟨_, rfl, rfl⟩, ⟨_, rfl, rfl⟩, ⟨_, rfl, rfl⟩, ⟨_, rfl, rfl⟩, ⟨_, rfl, rfl⟩, ⟨_, rfl, rfl⟩, ⟨_, rfl, rfl⟩, trivial⟩ trivial ⟨⟨_, _, rfl, rfl, rfl⟩, ⟨_, _, rfl, rfl, rfl⟩, trivial⟩)
            · refine L.loadPtr shape3 hF rfl rfl rfl rfl rfl rfl ?_
              refine L.nil ?_
              exact A.on (hO _ _ _ n2039) (Le.mk [(0, 0), (1, 1)] hm rfl ⟨⟨_, rfl, rfl⟩, ⟨_, rfl, rfl⟩, ⟨_, rfl, rfl⟩, ⟨_, rfl, rfl⟩, ⟨_, rfl, rfl⟩, ⟨_, rfl, rfl⟩, ⟨_, rfl, rfl⟩, trivial⟩ trivial ⟨⟨_, _, rfl, rfl, rfl⟩, ⟨_, _, rfl, rfl, rfl⟩, trivial⟩)
          have n1887 : W 5 #[true, true, true, true, true, false, true, false, true, true, true, false, false, false] (mkSt [(10, one (Cell.ptr 0 0)), (83, one (cI v40)), (84, one (cI v41)), (86, one (cI v45)), (87, one (Cell.ptr 1 0)), (89, one (Cell.ptr 1 3)), (93, one (cS b50))] [] [(0, [cI (0 : Int), cI (0 : Int), cI (0 : Int), cI (0 : Int), cI (0 : Int), cI (0 : Int), cI (0 : Int), cS ([] : List UInt8)]), (1, [cI v44, cI v45, cI v46, cI v47, cI v48, cI v49])] 2) := by
            refine hI _ _ _ ?_
            refine A.all [5, 7] (by kernel_rfl) rfl ⟨⟨_, rfl, ?_⟩, ⟨_, rfl, ?_⟩, trivial⟩
            · refine L.loadPtr shape3 hF rfl rfl rfl rfl rfl rfl ?_
              refine L.nil ?_
              exact A.on (hO _ _ _ n1919) (Le.mk [(0, 0), (1, 1)] hm rfl ⟨⟨_, rfl, rfl⟩, ⟨_, rfl, rfl⟩, ⟨_, rfl, rfl⟩, ⟨_, rfl, rfl⟩, ⟨_, rfl, rfl⟩, ⟨_, rfl, rfl⟩, ⟨_, rfl, rfl⟩, trivial⟩ trivial ⟨⟨_, _, rfl, rfl, rfl⟩, ⟨_, _, rfl, rfl, rfl⟩, trivial⟩)
            · refine L.loadPtr shape74 hF rfl rfl rfl rfl rfl rfl ?_
              refine L.nil ?_
              exact A.on (hO _ _ _ n2015) (Le.mk [(0, 0), (1, 1)] hm rfl ⟨⟨_, rfl, rfl⟩, ⟨_, rfl, rfl⟩, ⟨_, rfl, rfl⟩, ⟨_, rfl, rfl⟩, ⟨_, rfl, rfl⟩, ⟨_, rfl, rfl⟩, ⟨_, rfl, rfl⟩, trivial⟩ trivial ⟨⟨_, _, rfl, rfl, rfl⟩, ⟨_, _, rfl, rfl, rfl⟩, trivial⟩)
          have n991 : W 5 #[true, true, true, true, true, false, true, true, true, true, false, false, false, false] (mkSt [(10, one (Cell.ptr 0 0)), (83, one (cI v40)), (84, one (cI v41)), (86, one (cI v45)), (87, one (Cell.ptr 1 0)), (90, agg [cI v47, cI v48, cI v49]), (92, one (Cell.ep 2 ((1 : Int).toNat) 0))] [(2, ⟨1, List.map eS v42⟩)] [(0, [cI (0 : Int), cI (0 : Int), cI (0 : Int), cI (0 : Int), cI (0 : Int), cI (0 : Int), cI (0 : Int), cS ([] : List UInt8)]), (1, [cI v44, cI v45, cI v46, cI v47, cI v48, cI v49])] 3) := by
            refine hI _ _ _ ?_
            refine A.all [5, 10] (by kernel_rfl) rfl ⟨⟨_, rfl, ?_⟩, ⟨_, rfl, ?_⟩, trivial⟩
            · refine L.loadPtr shape3 hF rfl rfl rfl rfl rfl rfl ?_
              refine L.nil ?_
              exact A.on (hO _ _ _ n1023) (Le.mk [(0, 0), (1, 2)] hm rfl ⟨⟨_, rfl, rfl⟩, ⟨_, rfl, rfl⟩, ⟨_, rfl, rfl⟩, ⟨_, rfl, rfl⟩, ⟨_, rfl, rfl⟩, ⟨_, rfl, rfl⟩, ⟨_, rfl, rfl⟩, trivial⟩ ⟨⟨_, rfl, rfl⟩, trivial⟩ ⟨⟨_, _, rfl, rfl, rfl⟩, trivial⟩)
            · refine L.loadEp (xs := v42) (e := eS) shape9 hF rfl rfl rfl rfl (at?_get hb50).2 rfl rfl ?_
              refine L.nil ?_
              exact A.on (hO _ _ _ n2015) (Le.mk [(0, 0), (1, 1)] hm rfl ⟨⟨_, rfl, rfl⟩, ⟨_, rfl, rfl⟩, ⟨_, rfl, rfl⟩, ⟨_, rfl, rfl⟩, ⟨_, rfl, rfl⟩, ⟨_, rfl, rfl⟩, ⟨_, rfl, rfl⟩, trivial⟩ trivial ⟨⟨_, _, rfl, rfl, rfl⟩, ⟨_, _, rfl, rfl, rfl⟩, trivial⟩)
          have n1015 : W 5 #[true, true, true, false, true, true, true, true, true, true, false, false, false, false] (mkSt [(10, one (Cell.ptr 0 0)), (83, one (cI v40)), (84, one (cI v41)), (85, one (Cell.ptr 1 1)), (88, one (cI v44)), (90, agg [cI v47, cI v48, cI v49]), (92, one (Cell.ep 2 ((1 : Int).toNat) 0))] [(2, ⟨1, List.map eS v42⟩)] [(0, [cI (0 : Int), cI (0 : Int), cI (0 : Int), cI (0 : Int), cI (0 : Int), cI (0 : Int), cI (0 : Int), cS ([] : List UInt8)]), (1, [cI v44, cI v45, cI v46, cI v47, cI v48, cI v49])] 3) := by
            refine hI _ _ _ ?_
            refine A.all [3, 10] (by kernel_rfl) rfl ⟨⟨_, rfl, ?_⟩, ⟨_, rfl, ?_⟩, trivial⟩
            · refine L.loadPtr shape3 hF rfl rfl rfl rfl rfl rfl ?_
              refine L.nil ?_
              exact A.on (hO _ _ _ n1023) (Le.mk [(0, 0), (1, 2)] hm rfl ⟨⟨_, rfl, rfl⟩, ⟨_, rfl, rfl⟩, ⟨_, rfl, rfl⟩, ⟨_, rfl, rfl⟩, ⟨_, rfl, rfl⟩, ⟨_, rfl, rfl⟩, ⟨_, rfl, rfl⟩, trivial⟩ ⟨⟨_, rfl, rfl⟩, trivial⟩ ⟨⟨_, _, rfl, rfl, rfl⟩, trivial⟩)
            · refine L.loadEp (xs := v42) (e := eS) shape9 hF rfl rfl rfl rfl (at?_get hb50).2 rfl rfl ?_
              refine L.nil ?_
              exact A.on (hO _ _ _ n2039) (Le.mk [(0, 0), (1, 1)] hm rfl ⟨⟨_, rfl, rfl⟩, ⟨_, rfl, rfl⟩, ⟨_, rfl, rfl⟩, ⟨_, rfl, rfl⟩, ⟨_, rfl, rfl⟩, ⟨_, rfl, rfl⟩, ⟨_, rfl, rfl⟩, trivial⟩ trivial ⟨⟨_, _, rfl, rfl, rfl⟩, ⟨_, _, rfl, rfl, rfl⟩, trivial⟩)
          have n1911 : W 5 #[true, true, true, false, true, true, true, false, true, true, true, false, false, false] (mkSt [(10, one (Cell.ptr 0 0)), (83, one (cI v40)), (84, one (cI v41)), (85, one (Cell.ptr 1 1)), (88, one (cI v44)), (89, one (Cell.ptr 1 3)), (93, one (cS b50))] [] [(0, [cI (0 : Int), cI (0 : Int), cI (0 : Int), cI (0 : Int), cI (0 : Int), cI (0 : Int), cI (0 : Int), cS ([] : List UInt8)]), (1, [cI v44, cI v45, cI v46, cI v47, cI v48, cI v49])] 2) := by
            refine hI _ _ _ ?_
            refine A.all [3, 7] (by kernel_rfl) rfl ⟨⟨_, rfl, ?_⟩, ⟨_, rfl, ?_⟩, trivial⟩
            · refine L.loadPtr shape3 hF rfl rfl rfl rfl rfl rfl ?_
              refine L.nil ?_
              exact A.on (hO _ _ _ n1919) (Le.mk [(0, 0), (1, 1)] hm rfl ⟨⟨_, rfl, rfl⟩, ⟨_, rfl, rfl⟩, ⟨_, rfl, rfl⟩, ⟨_, rfl, rfl⟩, ⟨_, rfl, rfl⟩, ⟨_, rfl, rfl⟩, ⟨_, rfl, rfl⟩, trivial⟩ trivial ⟨⟨_, _, rfl, rfl, rfl⟩, ⟨_, _, rfl, rfl, rfl⟩, trivial⟩)
            · refine L.loadPtr shape74 hF rfl rfl rfl rfl rfl rfl ?_
              refine L.nil ?_
              exact A.on (hO _ _ _ n2039) (Le.mk [(0, 0), (1, 1)] hm rfl ⟨⟨_, rfl, rfl⟩, ⟨_, rfl, rfl⟩, ⟨_, rfl, rfl⟩, ⟨_, rfl, rfl⟩, ⟨_, rfl, rfl⟩, ⟨_, rfl, rfl⟩, ⟨_, rfl, rfl⟩, trivial⟩ trivial ⟨⟨_, _, rfl, rfl, rfl⟩, ⟨_, _, rfl, rfl, rfl⟩, trivial⟩)
          have n895 : W 5 #[true, true, true, true, true, true, true, false, true, true, false, false, false, false] (mkSt [(10, one (Cell.ptr 0 0)), (83, one (cI v40)), (84, one (cI v41)), (86, one (cI v45)), (88, one (cI v44)), (89, one (Cell.ptr 1 3)), (92, one (Cell.ep 2 ((1 : Int).toNat) 0))] [(2, ⟨1, List.map eS v42⟩)] [(0, [cI (0 : Int), cI (0 : Int), cI (0 : Int), cI (0 : Int), cI (0 : Int), cI (0 : Int), cI (0 : Int), cS ([] : List UInt8)]), (1, [cI v44, cI v45, cI v46, cI v47, cI v48, cI v49])] 3) := by
            refine hI _ _ _ ?_
            refine A.all [7, 10] (by kernel_rfl) rfl ⟨⟨_, rfl, ?_⟩, ⟨_, rfl, ?_⟩, trivial⟩
            · refine L.loadPtr shape74 hF rfl rfl rfl rfl rfl rfl ?_
              refine L.nil ?_
              exact A.on (hO _ _ _ n1023) (Le.mk [(0, 0), (1, 2)] hm rfl ⟨⟨_, rfl, rfl⟩, ⟨_, rfl, rfl⟩, ⟨_, rfl, rfl⟩, ⟨_, rfl, rfl⟩, ⟨_, rfl, rfl⟩, ⟨_, rfl, rfl⟩, ⟨_, rfl, rfl⟩, trivial⟩ ⟨⟨_, rfl, rfl⟩, trivial⟩ ⟨⟨_, _, rfl, rfl, rfl⟩, trivial⟩)
            · refine L.loadEp (xs := v42) (e := eS) shape9 hF rfl rfl rfl rfl (at?_get hb50).2 rfl rfl ?_
              refine L.nil ?_
              exact A.on (hO _ _ _ n1919) (Le.mk [(0, 0), (1, 1)] hm rfl ⟨⟨_, rfl, rfl⟩, ⟨_, rfl, rfl⟩, ⟨_, rfl, rfl⟩, ⟨_, rfl, rfl⟩, ⟨_, rfl, rfl⟩, ⟨_, rfl, rfl⟩, ⟨_, rfl, rfl⟩, trivial⟩ trivial ⟨⟨_, _, rfl, rfl, rfl⟩, ⟨_, _, rfl, rfl, rfl⟩, trivial⟩)
          have n1879 : W 6 #[true, true, true, false, true, false, true, false, true, true, true, false, false, false] (mkSt [(10, one (Cell.ptr 0 0)), (83, one (cI v40)), (84, one (cI v41)), (85, one (Cell.ptr 1 1)), (87, one (Cell.ptr 1 0)), (89, one (Cell.ptr 1 3)), (93, one (cS b50))] [] [(0, [cI (0 : Int), cI (0 : Int), cI (0 : Int), cI (0 : Int), cI (0 : Int), cI (0 : Int), cI (0 : Int), cS ([] : List UInt8)]), (1, [cI v44, cI v45, cI v46, cI v47, cI v48, cI v49])] 2) := by
            refine hI _ _ _ ?_
            refine A.all [3, 5, 7] (by kernel_rfl) rfl ⟨⟨_, rfl, ?_⟩, ⟨_, rfl, ?_⟩, ⟨_, rfl, ?_⟩, trivial⟩
            · refine L.loadPtr shape3 hF rfl rfl rfl rfl rfl rfl ?_
              refine L.nil ?_
              exact A.on (hO _ _ _ n1887) (Le.mk [(0, 0), (1, 1)] hm rfl ⟨⟨_, rfl, rfl⟩, ⟨_, rfl, rfl⟩, ⟨_, rfl, rfl⟩, ⟨_, rfl, rfl⟩, ⟨_, rfl, rfl⟩, ⟨_, rfl, rfl⟩, ⟨_, rfl, rfl⟩, trivial⟩ trivial ⟨⟨_, _, rfl, rfl, rfl⟩, ⟨_, _, rfl, rfl, rfl⟩, trivial⟩)
            · refine L.loadPtr shape3 hF rfl rfl rfl rfl rfl rfl ?_
              refine L.nil ?_
              exact A.on (hO _ _ _ n1911) (Le.mk [(0, 0), (1, 1)] hm rfl ⟨⟨_, rfl, rfl⟩, ⟨_, rfl, rfl⟩, ⟨_, rfl, rfl⟩, ⟨_, rfl, rfl⟩, ⟨_, rfl, rfl⟩, ⟨_, rfl, rfl⟩, ⟨_, rfl, rfl⟩, trivial⟩ trivial ⟨⟨_, _, rfl, rfl, rfl⟩, ⟨_, _, rfl, rfl, rfl⟩, trivial⟩)
            · refine L.loadPtr shape74 hF rfl rfl rfl rfl rfl rfl ?_
              refine L.nil ?_
              exact A.on (hO _ _ _ n2007) (Le.mk [(0, 0), (1, 1)] hm rfl ⟨⟨_, rfl, rfl⟩, ⟨_, rfl, rfl⟩, ⟨_, rfl, rfl⟩, ⟨_, rfl, rfl⟩, ⟨_, rfl, rfl⟩, ⟨_, rfl, rfl⟩, ⟨_, rfl, rfl⟩, trivial⟩ trivial ⟨⟨_, _, rfl, rfl, rfl⟩, ⟨_, _, rfl, rfl, rfl⟩, trivial⟩)
          have n983 : W 6 #[true, true, true, false, true, false, true, true, true, true, false, false, false, false] (mkSt [(10, one (Cell.ptr 0 0)), (83, one (cI v40)), (84, one (cI v41)), (85, one (Cell.ptr 1 1)), (87, one (Cell.ptr 1 0)), (90, agg [cI v47, cI v48, cI v49]), (92, one (Cell.ep 2 ((1 : Int).toNat) 0))] [(2, ⟨1, List.map eS v42⟩)] [(0, [cI (0 : Int), cI (0 : Int), cI (0 : Int), cI (0 : Int), cI (0 : Int), cI (0 : Int), cI (0 : Int), cS ([] : List UInt8)]), (1, [cI v44, cI v45, cI v46, cI v47, cI v48, cI v49])] 3) := by
            refine hI _ _ _ ?_
            refine A.all [3, 5, 10] (by kernel_rfl) rfl ⟨⟨_, rfl, ?_⟩, ⟨_, rfl, ?_⟩, ⟨_, rfl, ?_⟩, trivial⟩
            · refine L.loadPtr shape3 hF rfl rfl rfl rfl rfl rfl ?_
              refine L.nil ?_
              exact A.on (hO _ _ _ n991) (Le.mk [(0, 0), (1, 1), (2, 2)] hm rfl ⟨⟨_, rfl, rfl⟩, ⟨_, rfl, rfl⟩, ⟨_, rfl, rfl⟩, ⟨_, rfl, rfl⟩, ⟨_, rfl, rfl⟩, ⟨_, rfl, rfl⟩, ⟨_, rfl, rfl⟩, trivial⟩ ⟨⟨_, rfl, rfl⟩, trivial⟩ ⟨⟨_, _, rfl, rfl, rfl⟩, ⟨_, _, rfl, rfl, rfl⟩, trivial⟩)
            · refine L.loadPtr shape3 hF rfl rfl rfl rfl rfl rfl ?_
              refine L.nil ?_
              exact A.on (hO _ _ _ n1015) (Le.mk [(0, 0), (1, 1), (2, 2)] hm rfl ⟨⟨_, rfl, rfl⟩, ⟨_, rfl, rfl⟩, ⟨_, rfl, rfl⟩, ⟨_, rfl, rfl⟩, ⟨_, rfl, rfl⟩, ⟨_, rfl, rfl⟩, ⟨_, rfl, rfl⟩, trivial⟩ ⟨⟨_, rfl, rfl⟩, trivial⟩ ⟨⟨_, _, rfl, rfl, rfl⟩, ⟨_, _, rfl, rfl, rfl⟩, trivial⟩)
            · refine L.loadEp (xs := v42) (e := eS) shape9 hF rfl rfl rfl rfl (at?_get hb50).2 rfl rfl ?_
              refine L.nil ?_
              exact A.on (hO _ _ _ n2007) (Le.mk [(0, 0), (1, 1)] hm rfl ⟨⟨_, rfl, rfl⟩, ⟨_, rfl, rfl⟩, ⟨_, rfl, rfl⟩, ⟨_, rfl, rfl⟩, ⟨_, rfl, rfl⟩, ⟨_, rfl, rfl⟩, ⟨_, rfl, rfl⟩, trivial⟩ trivial ⟨⟨_, _, rfl, rfl, rfl⟩, ⟨_, _, rfl, rfl, rfl⟩, trivial⟩)
          have n863 : W 6 #[true, true, true, true, true, false, true, false, true, true, false, false, false, false] (mkSt [(10, one (Cell.ptr 0 0)), (83, one (cI v40)), (84, one (cI v41)), (86, one (cI v45)), (87, one (Cell.ptr 1 0)), (89, one (Cell.ptr 1 3)), (92, one (Cell.ep 2 ((1 : Int).toNat) 0))] [(2, ⟨1, List.map eS v42⟩)] [(0, [cI (0 : Int), cI (0 : Int), cI (0 : Int), cI (0 : Int), cI (0 : Int), cI (0 : Int), cI (0 : Int), cS ([] : List UInt8)]), (1, [cI v44, cI v45, cI v46, cI v47, cI v48, cI v49])] 3) := by
            refine hI _ _ _ ?_
            refine A.all [5, 7, 10] (by kernel_rfl) rfl ⟨⟨_, rfl, ?_⟩, ⟨_, rfl, ?_⟩, ⟨_, rfl, ?_⟩, trivial⟩
            · refine L.loadPtr shape3 hF rfl rfl rfl rfl rfl rfl ?_
              refine L.nil ?_
              exact A.on (hO _ _ _ n895) (Le.mk [(0, 0), (1, 1), (2, 2)] hm rfl ⟨⟨_, rfl, rfl⟩, ⟨_, rfl, rfl⟩, ⟨_, rfl, rfl⟩, ⟨_, rfl, rfl⟩, ⟨_, rfl, rfl⟩, ⟨_, rfl, rfl⟩, ⟨_, rfl, rfl⟩, trivial⟩ ⟨⟨_, rfl, rfl⟩, trivial⟩ ⟨⟨_, _, rfl, rfl, rfl⟩, ⟨_, _, rfl, rfl, rfl⟩, trivial⟩)
            · refine L.loadPtr shape74 hF rfl rfl rfl rfl rfl rfl ?_
              refine L.nil ?_
              exact A.on (hO _ _ _ n991) (Le.mk [(0, 0), (1, 1), (2, 2)] hm rfl ⟨⟨_, rfl, rfl⟩, ⟨_, rfl, rfl⟩, ⟨_, rfl, rfl⟩, ⟨_, rfl, rfl⟩, ⟨_, rfl, rfl⟩, ⟨_, rfl, rfl⟩, ⟨_, rfl, rfl⟩, trivial⟩ ⟨⟨_, rfl, rfl⟩, trivial⟩ ⟨⟨_, _, rfl, rfl, rfl⟩, ⟨_, _, rfl, rfl, rfl⟩, trivial⟩)
            · refine L.loadEp (xs := v42) (e := eS) shape9 hF rfl rfl rfl rfl (at?_get hb50).2 rfl rfl ?_
              refine L.nil ?_
              exact A.on (hO _ _ _ n1887) (Le.mk [(0, 0), (1, 1)] hm rfl ⟨⟨_, rfl, rfl⟩, ⟨_, rfl, rfl⟩, ⟨_, rfl, rfl⟩, ⟨_, rfl, rfl⟩, ⟨_, rfl, rfl⟩, ⟨_, rfl, rfl⟩, ⟨_, rfl, rfl⟩, trivial⟩ trivial ⟨⟨_, _, rfl, rfl, rfl⟩, ⟨_, _, rfl, rfl, rfl⟩, trivial⟩)
          have n887 : W 6 #[true, true, true, false, true, true, true, false, true, true, false, false, false, false] (mkSt [(10, one (Cell.ptr 0 0)), (83, one (cI v40)), (84, one (cI v41)), (85, one (Cell.ptr 1 1)), (88, one (cI v44)), (89, one (Cell.ptr 1 3)), (92, one (Cell.ep 2 ((1 : Int).toNat) 0))] [(2, ⟨1, List.map eS v42⟩)] [(0, [cI (0 : Int), cI (0 : Int), cI (0 : Int), cI (0 : Int), cI (0 : Int), cI (0 : Int), cI (0 : Int), cS ([] : List UInt8)]), (1, [cI v44, cI v45, cI v46, cI v47, cI v48, cI v49])] 3) := by
            refine hI _ _ _ ?_
            refine A.all [3, 7, 10] (by kernel_rfl) rfl ⟨⟨_, rfl, ?_⟩, ⟨_, rfl, ?_⟩, ⟨_, rfl, ?_⟩, trivial⟩
            · refine L.loadPtr shape3 hF rfl rfl rfl rfl rfl rfl ?_
              refine L.nil ?_
              exact A.on (hO _ _ _ n895) (Le.mk [(0, 0), (1, 1), (2, 2)] hm rfl ⟨⟨_, rfl, rfl⟩, ⟨_, rfl, rfl⟩, ⟨_, rfl, rfl⟩, ⟨_, rfl, rfl⟩, ⟨_, rfl, rfl⟩, ⟨_, rfl, rfl⟩, ⟨_, rfl, rfl⟩, trivial⟩ ⟨⟨_, rfl, rfl⟩, trivial⟩ ⟨⟨_, _, rfl, rfl, rfl⟩, ⟨_, _, rfl, rfl, rfl⟩, trivial⟩)
            · refine L.loadPtr shape74 hF rfl rfl rfl rfl rfl rfl ?_
              refine L.nil ?_
              exact A.on (hO _ _ _ n1015) (Le.mk [(0, 0), (1, 1), (2, 2)] hm rfl ⟨⟨_, rfl, rfl⟩, ⟨_, rfl, rfl⟩, ⟨_, rfl, rfl⟩, ⟨_, rfl, rfl⟩, ⟨_, rfl, rfl⟩, ⟨_, rfl, rfl⟩, ⟨_, rfl, rfl⟩, trivial⟩ ⟨⟨_, rfl, rfl⟩, trivial⟩ ⟨⟨_, _, rfl, rfl, rfl⟩, ⟨_, _, rfl, rfl, rfl⟩, trivial⟩)
            · refine L.loadEp (xs := v42) (e := eS) shape9 hF rfl rfl rfl rfl (at?_get hb50).2 rfl rfl ?_
              refine L.nil ?_
              exact A.on (hO _ _ _ n1911) (Le.mk [(0, 0), (1, 1)] hm rfl ⟨⟨_, rfl, rfl⟩, ⟨_, rfl, rfl⟩, ⟨_, rfl, rfl⟩, ⟨_, rfl, rfl⟩, ⟨_, rfl, rfl⟩, ⟨_, rfl, rfl⟩, ⟨_, rfl, rfl⟩, trivial⟩ trivial ⟨⟨_, _, rfl, rfl, rfl⟩, ⟨_, _, rfl, rfl, rfl⟩, trivial⟩)
          have n855 : W 7 #[true, true, true, false, true, false, true, false, true, true, false, false, false, false] (mkSt [(10, one (Cell.ptr 0 0)), (83, one (cI v40)), (84, one (cI v41)), (85, one (Cell.ptr 1 1)), (87, one (Cell.ptr 1 0)), (89, one (Cell.ptr 1 3)), (92, one (Cell.ep 2 ((1 : Int).toNat) 0))] [(2, ⟨1, List.map eS v42⟩)] [(0, [cI (0 : Int), cI (0 : Int), cI (0 : Int), cI (0 : Int), cI (0 : Int), cI (0 : Int), cI (0 : Int), cS ([] : List UInt8)]), (1, [cI v44, cI v45, cI v46, cI v47, cI v48, cI v49])] 3) := by
            refine hI _ _ _ ?_
            refine A.all [3, 5, 7, 10] (by kernel_rfl) rfl ⟨⟨_, rfl, ?_⟩, ⟨_, rfl, ?_⟩, ⟨_, rfl, ?_⟩, ⟨_, rfl, ?_⟩, trivial⟩
            · refine L.loadPtr shape3 hF rfl rfl rfl rfl rfl rfl ?_
              refine L.nil ?_
              exact A.on (hO _ _ _ n863) (Le.mk [(0, 0), (1, 1), (2, 2)] hm rfl ⟨⟨_, rfl, rfl⟩, ⟨_, rfl, rfl⟩, ⟨_, rfl, rfl⟩, ⟨_, rfl, rfl⟩, ⟨_, rfl, rfl⟩, ⟨_, rfl, rfl⟩, ⟨_, rfl, rfl⟩, trivial⟩ ⟨⟨_, rfl, rfl⟩, trivial⟩ ⟨⟨_, _, rfl, rfl, rfl⟩, ⟨_, _, rfl, rfl, rfl⟩, trivial⟩)
            · refine L.loadPtr shape3 hF rfl rfl rfl rfl rfl rfl ?_
              refine L.nil ?_
              exact A.on (hO _ _ _ n887) (Le.mk [(0, 0), (1, 1), (2, 2)] hm rfl ⟨⟨_, rfl, rfl⟩, ⟨_, rfl, rfl⟩, ⟨_, rfl, rfl⟩, ⟨_, rfl, rfl⟩, ⟨_, rfl, rfl⟩, ⟨_, rfl, rfl⟩, ⟨_, rfl, rfl⟩, trivial⟩ ⟨⟨_, rfl, rfl⟩, trivial⟩ ⟨⟨_, _, rfl, rfl, rfl⟩, ⟨_, _, rfl, rfl, rfl⟩, trivial⟩)
            · refine L.loadPtr shape74 hF rfl rfl rfl rfl rfl rfl ?_
              refine L.nil ?_
              exact A.on (hO _ _ _ n983) (Le.mk [(0, 0), (1, 1), (2, 2)] hm rfl ⟨⟨_, rfl, rfl⟩, ⟨_, rfl, rfl⟩, ⟨_, rfl, rfl⟩, ⟨_, rfl, rfl⟩, ⟨_, rfl, rfl⟩, ⟨_, rfl, rfl⟩, ⟨_, rfl, rfl⟩, trivial⟩ ⟨⟨_, rfl, rfl⟩, trivial⟩ ⟨⟨_, _, rfl, rfl, rfl⟩, ⟨_, _, rfl, rfl, rfl⟩, trivial⟩)
            · refine L.loadEp (xs := v42) (e := eS) shape9 hF rfl rfl rfl rfl (at?_get hb50).2 rfl rfl ?_
              refine L.nil ?_
              exact A.on (hO _ _ _ n1879) (Le.mk [(0, 0), (1, 1)] hm rfl ⟨⟨_, rfl, rfl⟩, ⟨_, rfl, rfl⟩, ⟨_, rfl, rfl⟩, ⟨_, rfl, rfl⟩, ⟨_, rfl, rfl⟩, ⟨_, rfl, rfl⟩, ⟨_, rfl, rfl⟩, trivial⟩ trivial ⟨⟨_, _, rfl, rfl, rfl⟩, ⟨_, _, rfl, rfl, rfl⟩, trivial⟩)
          have n343 : W 8 #[true, true, true, false, true, false, true, false, true, false, false, false, false, false] (mkSt [(10, one (Cell.ptr 0 0)), (83, one (cI v40)), (84, one (cI v41)), (85, one (Cell.ptr 1 1)), (87, one (Cell.ptr 1 0)), (89, one (Cell.ptr 1 3)), (91, one (Cell.own 2))] [(2, ⟨1, List.map eS v42⟩)] [(0, [cI (0 : Int), cI (0 : Int), cI (0 : Int), cI (0 : Int), cI (0 : Int), cI (0 : Int), cI (0 : Int), cS ([] : List UInt8)]), (1, [cI v44, cI v45, cI v46, cI v47, cI v48, cI v49])] 3) := by
            refine hI _ _ _ ?_
            refine A.take 9 rfl (by kernel_rfl) (by kernel_rfl) (by kernel_rfl) rfl (Ca.indexAddr) (fun Q0 k0 => L.idxR (xs := v42) (e := eS) Try.underlying120 info9 hF rfl rfl rfl rfl rfl hb50 rfl rfl (L.nil k0)) ?_
            exact A.on (hO _ _ _ n855) (Le.mk [(0, 0), (1, 1), (2, 2)] hm rfl ⟨⟨_, rfl, rfl⟩, ⟨_, rfl, rfl⟩, ⟨_, rfl, rfl⟩, ⟨_, rfl, rfl⟩, ⟨_, rfl, rfl⟩, ⟨_, rfl, rfl⟩, ⟨_, rfl, rfl⟩, trivial⟩ ⟨⟨_, rfl, rfl⟩, trivial⟩ ⟨⟨_, _, rfl, rfl, rfl⟩, ⟨_, _, rfl, rfl, rfl⟩, trivial⟩)
          have n87 : W 9 #[true, true, true, false, true, false, true, false, false, false, false, false, false, false] (mkSt [(10, one (Cell.ptr 0 0)), (12, one (Cell.own 1)), (83, one (cI v40)), (84, one (cI v41)), (85, one (Cell.ptr 2 1)), (87, one (Cell.ptr 2 0)), (89, one (Cell.ptr 2 3))] [(1, ⟨1, List.map eS v42⟩)] [(0, [cI (0 : Int), cI (0 : Int), cI (0 : Int), cI (0 : Int), cI (0 : Int), cI (0 : Int), cI (0 : Int), cS ([] : List UInt8)]), (2, [cI v44, cI v45, cI v46, cI v47, cI v48, cI v49])] 3) := by
            refine hI _ _ _ ?_
            refine A.take 8 rfl (by kernel_rfl) (by kernel_rfl) (by kernel_rfl) rfl (Ca.move) (fun Q0 k0 => L.move hF rfl rfl rfl (L.nil k0)) ?_
            exact A.on (hO _ _ _ n343) (Le.mk [(0, 0), (1, 2), (2, 1)] hm rfl ⟨⟨_, rfl, rfl⟩, ⟨_, rfl, rfl⟩, ⟨_, rfl, rfl⟩, ⟨_, rfl, rfl⟩, ⟨_, rfl, rfl⟩, ⟨_, rfl, rfl⟩, ⟨_, rfl, rfl⟩, trivial⟩ ⟨⟨_, rfl, rfl⟩, trivial⟩ ⟨⟨_, _, rfl, rfl, rfl⟩, ⟨_, _, rfl, rfl, rfl⟩, trivial⟩)
          have n23 : W 10 #[true, true, true, false, true, false, false, false, false, false, false, false, false, false] (mkSt [(10, one (Cell.ptr 0 0)), (12, one (Cell.own 1)), (16, one (Cell.ptr 2 0)), (83, one (cI v40)), (84, one (cI v41)), (85, one (Cell.ptr 2 1)), (87, one (Cell.ptr 2 0))] [(1, ⟨1, List.map eS v42⟩)] [(0, [cI (0 : Int), cI (0 : Int), cI (0 : Int), cI (0 : Int), cI (0 : Int), cI (0 : Int), cI (0 : Int), cS ([] : List UInt8)]), (2, [cI v44, cI v45, cI v46, cI v47, cI v48, cI v49])] 3) := by
            refine hI _ _ _ ?_
            refine A.take 6 rfl (by kernel_rfl) (by kernel_rfl) (by kernel_rfl) rfl (Ca.fieldAddr Try.underlying187 rfl info74 rfl) (fun Q0 k0 => L.fieldAddr Try.underlying187 rfl info74 rfl hF rfl rfl rfl rfl rfl (L.nil k0)) ?_
            exact A.on (hO _ _ _ n87) (Le.mk [(0, 0), (1, 1), (2, 2)] hm rfl ⟨⟨_, rfl, rfl⟩, ⟨_, rfl, rfl⟩, ⟨_, rfl, rfl⟩, ⟨_, rfl, rfl⟩, ⟨_, rfl, rfl⟩, ⟨_, rfl, rfl⟩, ⟨_, rfl, rfl⟩, trivial⟩ ⟨⟨_, rfl, rfl⟩, trivial⟩ ⟨⟨_, _, rfl, rfl, rfl⟩, ⟨_, _, rfl, rfl, rfl⟩, trivial⟩)
          have n7 : W 11 #[true, true, true, false, false, false, false, false, false, false, false, false, false, false] (mkSt [(10, one (Cell.ptr 0 0)), (12, one (Cell.own 1)), (16, one (Cell.ptr 2 0)), (83, one (cI v40)), (84, one (cI v41)), (85, one (Cell.ptr 2 1))] [(1, ⟨1, List.map eS v42⟩)] [(0, [cI (0 : Int), cI (0 : Int), cI (0 : Int), cI (0 : Int), cI (0 : Int), cI (0 : Int), cI (0 : Int), cS ([] : List UInt8)]), (2, [cI v44, cI v45, cI v46, cI v47, cI v48, cI v49])] 3) := by
            refine hI _ _ _ ?_
            refine A.take 4 rfl (by kernel_rfl) (by kernel_rfl) (by kernel_rfl) rfl (Ca.fieldAddr Try.underlying187 rfl info3 rfl) (fun Q0 k0 => L.fieldAddr Try.underlying187 rfl info3 rfl hF rfl rfl rfl rfl rfl (L.nil k0)) ?_
            exact A.on (hO _ _ _ n23) (Le.mk [(0, 0), (1, 1), (2, 2)] hm rfl ⟨⟨_, rfl, rfl⟩, ⟨_, rfl, rfl⟩, ⟨_, rfl, rfl⟩, ⟨_, rfl, rfl⟩, ⟨_, rfl, rfl⟩, ⟨_, rfl, rfl⟩, ⟨_, rfl, rfl⟩, trivial⟩ ⟨⟨_, rfl, rfl⟩, trivial⟩ ⟨⟨_, _, rfl, rfl, rfl⟩, ⟨_, _, rfl, rfl, rfl⟩, trivial⟩)
          have n3 : W 12 #[true, true, false, false, false, false, false, false, false, false, false, false, false, false] (mkSt [(10, one (Cell.ptr 0 0)), (12, one (Cell.own 1)), (16, one (Cell.ptr 2 0)), (83, one (cI v40)), (84, one (cI v41))] [(1, ⟨1, List.map eS v42⟩)] [(0, [cI (0 : Int), cI (0 : Int), cI (0 : Int), cI (0 : Int), cI (0 : Int), cI (0 : Int), cI (0 : Int), cS ([] : List UInt8)]), (2, [cI v44, cI v45, cI v46, cI v47, cI v48, cI v49])] 3) := by
            refine hI _ _ _ ?_
            refine A.take 2 rfl (by kernel_rfl) (by kernel_rfl) (by kernel_rfl) rfl (Ca.fieldAddr Try.underlying187 rfl info3 rfl) (fun Q0 k0 => L.fieldAddr Try.underlying187 rfl info3 rfl hF rfl rfl rfl rfl rfl (L.nil k0)) ?_
            exact A.on (hO _ _ _ n7) (Le.mk [(0, 0), (1, 1), (2, 2)] hm rfl ⟨⟨_, rfl, rfl⟩, ⟨_, rfl, rfl⟩, ⟨_, rfl, rfl⟩, ⟨_, rfl, rfl⟩, ⟨_, rfl, rfl⟩, ⟨_, rfl, rfl⟩, trivial⟩ ⟨⟨_, rfl, rfl⟩, trivial⟩ ⟨⟨_, _, rfl, rfl, rfl⟩, ⟨_, _, rfl, rfl, rfl⟩, trivial⟩)
          have n1 : W 13 #[true, false, false, false, false, false, false, false, false, false, false, false, false, false] (mkSt [(1, one (cI v41)), (10, one (Cell.ptr 0 0)), (12, one (Cell.own 1)), (16, one (Cell.ptr 2 0)), (83, one (cI v40))] [(1, ⟨1, List.map eS v42⟩)] [(0, [cI (0 : Int), cI (0 : Int), cI (0 : Int), cI (0 : Int), cI (0 : Int), cI (0 : Int), cI (0 : Int), cS ([] : List UInt8)]), (2, [cI v44, cI v45, cI v46, cI v47, cI v48, cI v49])] 3) := by
            refine hI _ _ _ ?_
            refine A.take 1 rfl (by kernel_rfl) (by kernel_rfl) (by kernel_rfl) rfl (Ca.move) (fun Q0 k0 => L.move hF rfl rfl rfl (L.nil k0)) ?_
            exact A.on (hO _ _ _ n3) (Le.mk [(0, 0), (1, 1), (2, 2)] hm rfl ⟨⟨_, rfl, rfl⟩, ⟨_, rfl, rfl⟩, ⟨_, rfl, rfl⟩, ⟨_, rfl, rfl⟩, ⟨_, rfl, rfl⟩, trivial⟩ ⟨⟨_, rfl, rfl⟩, trivial⟩ ⟨⟨_, _, rfl, rfl, rfl⟩, ⟨_, _, rfl, rfl, rfl⟩, trivial⟩)
          have n0 : W 14 #[false, false, false, false, false, false, false, false, false, false, false, false, false, false] (mkSt [(0, one (cI v40)), (1, one (cI v41)), (10, one (Cell.ptr 0 0)), (12, one (Cell.own 1)), (16, one (Cell.ptr 2 0))] [(1, ⟨1, List.map eS v42⟩)] [(0, [cI (0 : Int), cI (0 : Int), cI (0 : Int), cI (0 : Int), cI (0 : Int), cI (0 : Int), cI (0 : Int), cS ([] : List UInt8)]), (2, [cI v44, cI v45, cI v46, cI v47, cI v48, cI v49])] 3) := by
            refine hI _ _ _ ?_
            refine A.take 0 rfl (by kernel_rfl) (by kernel_rfl) (by kernel_rfl) rfl (Ca.move) (fun Q0 k0 => L.move hF rfl rfl rfl (L.nil k0)) ?_
            exact A.on (hO _ _ _ n1) (Le.mk [(0, 0), (1, 1), (2, 2)] hm rfl ⟨⟨_, rfl, rfl⟩, ⟨_, rfl, rfl⟩, ⟨_, rfl, rfl⟩, ⟨_, rfl, rfl⟩, ⟨_, rfl, rfl⟩, trivial⟩ ⟨⟨_, rfl, rfl⟩, trivial⟩ ⟨⟨_, _, rfl, rfl, rfl⟩, ⟨_, _, rfl, rfl, rfl⟩, trivial⟩)
          exact hI _ _ _ (A.on (hO _ _ _ n0) (Le.mk [(0, 0), (1, 1), (2, 2)] hm rfl ⟨⟨_, rfl, rfl⟩, ⟨_, rfl, rfl⟩, ⟨_, rfl, rfl⟩, ⟨_, rfl, rfl⟩, ⟨_, rfl, rfl⟩, trivial⟩ ⟨⟨_, rfl, rfl⟩, trivial⟩ ⟨⟨_, _, rfl, rfl, rfl⟩, ⟨_, _, rfl, rfl, rfl⟩, trivial⟩))
      · refine WpC.regionL ?_
        refine L.move hF rfl rfl rfl ?_
        refine L.not hF rfl rfl rfl ?_
        refine L.move hF rfl rfl rfl ?_
        refine L.split (fun hc => ?_) (fun hc => ?_)
        · replace H := condT hc H
          refine L.off hF rfl rfl ?_
          refine L.off hF rfl rfl ?_
          refine L.pick hF rfl rfl rfl rfl ?_
          refine L.move hF rfl rfl rfl ?_
          refine L.off hF rfl rfl ?_
          refine L.off hF rfl rfl ?_
          refine L.off hF rfl rfl ?_
          refine L.pick hF rfl rfl rfl rfl ?_
          refine L.move hF rfl rfl rfl ?_
          refine L.off hF rfl rfl ?_
          refine L.off hF rfl rfl ?_
          refine L.off hF rfl rfl ?_
          refine L.off hF rfl rfl ?_
          refine L.pick hF rfl rfl rfl rfl ?_
          refine L.move hF rfl rfl rfl ?_
          refine L.off hF rfl rfl ?_
          refine L.off hF rfl rfl ?_
          refine L.off hF rfl rfl ?_
          refine L.off hF rfl rfl ?_
          refine L.off hF rfl rfl ?_
          refine L.pick hF rfl rfl rfl rfl ?_
          refine L.move hF rfl rfl rfl ?_
          refine L.off hF rfl rfl ?_
          refine L.off hF rfl rfl ?_
          refine L.off hF rfl rfl ?_
          refine L.off hF rfl rfl ?_
          refine L.pick hF rfl rfl rfl rfl ?_
          refine L.nil ?_
          exact ⟨_, ⟨kj2, v14, v15, v18, true, r23.1.Key, r23.1.Service, r23.1.Nonce, r23.1.Rest.Servers, r23.1.Rest.Ops, r23.1.Rest.End, by omega, H, rfl⟩, Le.mk [(0, 0), (1, 1), (2, 11)] hm rfl ⟨⟨_, rfl, rfl⟩, ⟨_, rfl, rfl⟩, ⟨_, rfl, rfl⟩, ⟨_, rfl, rfl⟩, ⟨_, rfl, rfl⟩, ⟨_, rfl, rfl⟩, trivial⟩ ⟨⟨_, rfl, rfl⟩, trivial⟩ ⟨⟨_, _, rfl, rfl, rfl⟩, ⟨_, _, rfl, rfl, rfl⟩, trivial⟩⟩
        · replace H := condF hc H
          refine L.move hF rfl rfl rfl ?_
          refine L.not hF rfl rfl rfl ?_
          refine L.pick hF rfl rfl rfl rfl ?_
          refine L.move hF rfl rfl rfl ?_
          refine L.split (fun hc => ?_) (fun hc => ?_)
          · replace H := condT hc H
            refine L.off hF rfl rfl ?_
            refine L.off hF rfl rfl ?_
            refine L.off hF rfl rfl ?_
            refine L.pick hF rfl rfl rfl rfl ?_
            refine L.move hF rfl rfl rfl ?_
            refine L.off hF rfl rfl ?_
            refine L.off hF rfl rfl ?_
            refine L.off hF rfl rfl ?_
            refine L.off hF rfl rfl ?_
            refine L.pick hF rfl rfl rfl rfl ?_
            refine L.move hF rfl rfl rfl ?_
            refine L.off hF rfl rfl ?_
            refine L.off hF rfl rfl ?_
            refine L.off hF rfl rfl ?_
            refine L.off hF rfl rfl ?_
            refine L.off hF rfl rfl ?_
            refine L.pick hF rfl rfl rfl rfl ?_
            refine L.move hF rfl rfl rfl ?_
            refine L.off hF rfl rfl ?_
            refine L.off hF rfl rfl ?_
            refine L.off hF rfl rfl ?_
            refine L.off hF rfl rfl ?_
            refine L.pick hF rfl rfl rfl rfl ?_
            refine L.nil ?_
            exact ⟨_, ⟨kj2, v14, v15, v18, true, r23.1.Key, r23.1.Service, r23.1.Nonce, r23.1.Rest.Servers, r23.1.Rest.Ops, r23.1.Rest.End, by omega, H, rfl⟩, Le.mk [(0, 0), (1, 1), (2, 11)] hm rfl ⟨⟨_, rfl, rfl⟩, ⟨_, rfl, rfl⟩, ⟨_, rfl, rfl⟩, ⟨_, rfl, rfl⟩, ⟨_, rfl, rfl⟩, ⟨_, rfl, rfl⟩, trivial⟩ ⟨⟨_, rfl, rfl⟩, trivial⟩ ⟨⟨_, _, rfl, rfl, rfl⟩, ⟨_, _, rfl, rfl, rfl⟩, trivial⟩⟩
          · replace H := condF hc H
            refine L.move hF rfl rfl rfl ?_
            refine L.lenR (xs := r21.1) (e := eI) Try.underlying24 hF rfl rfl rfl rfl ?_
            refine L.bin hF rfl rfl rfl rfl rfl rfl ?_
            refine L.pick hF rfl rfl rfl rfl ?_
            refine L.move hF rfl rfl rfl ?_
            refine L.split (fun hc => ?_) (fun hc => ?_)
            · replace H := condT hc H
              refine L.off hF rfl rfl ?_
              refine L.off hF rfl rfl ?_
              refine L.off hF rfl rfl ?_
              refine L.off hF rfl rfl ?_
              refine L.pick hF rfl rfl rfl rfl ?_
              refine L.move hF rfl rfl rfl ?_
              refine L.off hF rfl rfl ?_
              refine L.off hF rfl rfl ?_
              refine L.off hF rfl rfl ?_
              refine L.off hF rfl rfl ?_
              refine L.off hF rfl rfl ?_
              refine L.pick hF rfl rfl rfl rfl ?_
              refine L.move hF rfl rfl rfl ?_
              refine L.off hF rfl rfl ?_
              refine L.off hF rfl rfl ?_
              refine L.off hF rfl rfl ?_
              refine L.off hF rfl rfl ?_
              refine L.pick hF rfl rfl rfl rfl ?_
              refine L.nil ?_
              exact ⟨_, ⟨kj2, v14, v15, v18, true, r23.1.Key, r23.1.Service, r23.1.Nonce, r23.1.Rest.Servers, r23.1.Rest.Ops, r23.1.Rest.End, by omega, H, rfl⟩, Le.mk [(0, 0), (1, 1), (2, 11)] hm rfl ⟨⟨_, rfl, rfl⟩, ⟨_, rfl, rfl⟩, ⟨_, rfl, rfl⟩, ⟨_, rfl, rfl⟩, ⟨_, rfl, rfl⟩, ⟨_, rfl, rfl⟩, trivial⟩ ⟨⟨_, rfl, rfl⟩, trivial⟩ ⟨⟨_, _, rfl, rfl, rfl⟩, ⟨_, _, rfl, rfl, rfl⟩, trivial⟩⟩
            · replace H := condF hc H
              refine L.move hF rfl rfl rfl ?_
              obtain ⟨b51, hb51, H⟩ := bindS H
              refine L.idxR (xs := r21.1) (e := eI) Try.underlying24 info3 hF rfl rfl rfl rfl rfl hb51 rfl rfl ?_
              refine L.loadEp (xs := r21.1) (e := eI) shape3 hF rfl rfl rfl rfl (at?_get hb51).2 rfl rfl ?_
              refine L.bin hF rfl rfl rfl rfl rfl rfl ?_
              refine L.pick hF rfl rfl rfl rfl ?_
              refine L.move hF rfl rfl rfl ?_
              refine L.split (fun hc => ?_) (fun hc => ?_)
              · replace H := condT hc H
                refine L.off hF rfl rfl ?_
                refine L.off hF rfl rfl ?_
                refine L.off hF rfl rfl ?_
                refine L.off hF rfl rfl ?_
                refine L.off hF rfl rfl ?_
                refine L.pick hF rfl rfl rfl rfl ?_
                refine L.move hF rfl rfl rfl ?_
                refine L.off hF rfl rfl ?_
                refine L.off hF rfl rfl ?_
                refine L.off hF rfl rfl ?_
                refine L.off hF rfl rfl ?_
                refine L.pick hF rfl rfl rfl rfl ?_
                refine L.nil ?_
                exact ⟨_, ⟨kj2, v14, v15, v18, true, r23.1.Key, r23.1.Service, r23.1.Nonce, r23.1.Rest.Servers, r23.1.Rest.Ops, r23.1.Rest.End, by omega, H, rfl⟩, Le.mk [(0, 0), (1, 1), (2, 11)] hm rfl ⟨⟨_, rfl, rfl⟩, ⟨_, rfl, rfl⟩, ⟨_, rfl, rfl⟩, ⟨_, rfl, rfl⟩, ⟨_, rfl, rfl⟩, ⟨_, rfl, rfl⟩, trivial⟩ ⟨⟨_, rfl, rfl⟩, trivial⟩ ⟨⟨_, _, rfl, rfl, rfl⟩, ⟨_, _, rfl, rfl, rfl⟩, trivial⟩⟩
              · replace H := condF hc H
                refine L.move hF rfl rfl rfl ?_
                obtain ⟨b52, hb52, H⟩ := bindS H
                refine L.idxR (xs := r21.1) (e := eI) Try.underlying24 info3 hF rfl rfl rfl rfl rfl hb52 rfl rfl ?_
                refine L.loadEp (xs := r21.1) (e := eI) shape3 hF rfl rfl rfl rfl (at?_get hb52).2 rfl rfl ?_
                refine L.move hF rfl rfl rfl ?_
                refine L.bin hF rfl rfl rfl rfl rfl rfl ?_
                refine L.pick hF rfl rfl rfl rfl ?_
                refine L.move hF rfl rfl rfl ?_
                refine L.split (fun hc => ?_) (fun hc => ?_)
                · replace H := condT hc H
                  refine L.off hF rfl rfl ?_
                  refine L.off hF rfl rfl ?_
                  refine L.off hF rfl rfl ?_
                  refine L.off hF rfl rfl ?_
                  refine L.pick hF rfl rfl rfl rfl ?_
                  refine L.nil ?_
                  exact ⟨_, ⟨kj2, v14, v15, v18, true, r23.1.Key, r23.1.Service, r23.1.Nonce, r23.1.Rest.Servers, r23.1.Rest.Ops, r23.1.Rest.End, by omega, H, rfl⟩, Le.mk [(0, 0), (1, 1), (2, 11)] hm rfl ⟨⟨_, rfl, rfl⟩, ⟨_, rfl, rfl⟩, ⟨_, rfl, rfl⟩, ⟨_, rfl, rfl⟩, ⟨_, rfl, rfl⟩, ⟨_, rfl, rfl⟩, trivial⟩ ⟨⟨_, rfl, rfl⟩, trivial⟩ ⟨⟨_, _, rfl, rfl, rfl⟩, ⟨_, _, rfl, rfl, rfl⟩, trivial⟩⟩
                · replace H := condF hc H
                  refine L.fieldAddr Try.underlying187 rfl info3 rfl hF rfl rfl rfl rfl rfl ?_
                  refine L.loadPtr shape3 hF rfl rfl rfl rfl rfl rfl ?_
                  refine L.move hF rfl rfl rfl ?_
                  refine L.bin hF rfl rfl rfl rfl rfl rfl ?_
                  refine L.pick hF rfl rfl rfl rfl ?_
                  refine L.nil ?_
                  exact ⟨_, ⟨kj2, v14, v15, v18, (r23.1.Nonce != v17), r23.1.Key, r23.1.Service, r23.1.Nonce, r23.1.Rest.Servers, r23.1.Rest.Ops, r23.1.Rest.End, by omega, H, rfl⟩, Le.mk [(0, 0), (1, 1), (2, 11)] hm rfl ⟨⟨_, rfl, rfl⟩, ⟨_, rfl, rfl⟩, ⟨_, rfl, rfl⟩, ⟨_, rfl, rfl⟩, ⟨_, rfl, rfl⟩, ⟨_, rfl, rfl⟩, trivial⟩ ⟨⟨_, rfl, rfl⟩, trivial⟩ ⟨⟨_, _, rfl, rfl, rfl⟩, ⟨_, _, rfl, rfl, rfl⟩, trivial⟩⟩
  · refine WpC.regionL ?_
    refine L.move hF rfl rfl rfl ?_
    obtain ⟨r53, hr53, H⟩ := bindS H
    refine L.call [false] [] [] 8 hF rfl rfl rfl ent142 rfl rfl rfl rfl rfl (Fspec_l5Principal_gives k  a0 r53 hr53) rfl ?_
    refine L.not hF rfl rfl rfl ?_
    refine L.move hF rfl rfl rfl ?_
    refine L.split (fun hc => ?_) (fun hc => ?_)
    · replace H := condT hc H
      refine L.off hF rfl rfl ?_
      refine L.off hF rfl rfl ?_
      refine L.off hF rfl rfl ?_
      refine L.pick hF rfl rfl rfl rfl ?_
      refine L.move hF rfl rfl rfl ?_
      refine L.off hF rfl rfl ?_
      refine L.off hF rfl rfl ?_
      refine L.off hF rfl rfl ?_
      refine L.pick hF rfl rfl rfl rfl ?_
      refine L.nil ?_
      exact ⟨_, ⟨k, a0, a1, a2, a3, r1.1, true, by omega, H, rfl⟩, Le.mk [(0, 5), (1, 6)] hm rfl ⟨⟨_, rfl, rfl⟩, ⟨_, rfl, rfl⟩, ⟨_, rfl, rfl⟩, ⟨_, rfl, rfl⟩, ⟨_, rfl, rfl⟩, ⟨_, rfl, rfl⟩, ⟨_, rfl, rfl⟩, trivial⟩ ⟨⟨_, rfl, rfl⟩, trivial⟩ ⟨⟨_, _, rfl, rfl, rfl⟩, trivial⟩⟩
    · replace H := condF hc H
      refine L.move hF rfl rfl rfl ?_
      obtain ⟨r54, hr54, H⟩ := bindS H
      refine L.call [false] [] [] 9 hF rfl rfl rfl ent142 rfl rfl rfl rfl rfl (Fspec_l5Principal_gives k  a1 r54 hr54) rfl ?_
      refine L.not hF rfl rfl rfl ?_
      refine L.pick hF rfl rfl rfl rfl ?_
      refine L.move hF rfl rfl rfl ?_
      refine L.split (fun hc => ?_) (fun hc => ?_)
      · replace H := condT hc H
        refine L.off hF rfl rfl ?_
        refine L.off hF rfl rfl ?_
        refine L.off hF rfl rfl ?_
        refine L.pick hF rfl rfl rfl rfl ?_
        refine L.nil ?_
        exact ⟨_, ⟨k, a0, a1, a2, a3, r1.1, true, by omega, H, rfl⟩, Le.mk [(0, 5), (1, 6)] hm rfl ⟨⟨_, rfl, rfl⟩, ⟨_, rfl, rfl⟩, ⟨_, rfl, rfl⟩, ⟨_, rfl, rfl⟩, ⟨_, rfl, rfl⟩, ⟨_, rfl, rfl⟩, ⟨_, rfl, rfl⟩, trivial⟩ ⟨⟨_, rfl, rfl⟩, trivial⟩ ⟨⟨_, _, rfl, rfl, rfl⟩, trivial⟩⟩
      · replace H := condF hc H
        refine L.move hF rfl rfl rfl ?_
        refine L.lenR (xs := r1.1) (e := eS) Try.underlying120 hF rfl rfl rfl rfl ?_
        refine L.bin hF rfl rfl rfl rfl rfl rfl ?_
        refine L.pick hF rfl rfl rfl rfl ?_
        refine L.nil ?_
        exact ⟨_, ⟨k, a0, a1, a2, a3, r1.1, ((r1.1.length : Int) != (3 : Int)), by omega, H, rfl⟩, Le.mk [(0, 5), (1, 6)] hm rfl ⟨⟨_, rfl, rfl⟩, ⟨_, rfl, rfl⟩, ⟨_, rfl, rfl⟩, ⟨_, rfl, rfl⟩, ⟨_, rfl, rfl⟩, ⟨_, rfl, rfl⟩, ⟨_, rfl, rfl⟩, trivial⟩ ⟨⟨_, rfl, rfl⟩, trivial⟩ ⟨⟨_, _, rfl, rfl, rfl⟩, trivial⟩⟩
/-! ### Fimpl_within -/
def Fimpl_within (k : Nat) (a0 : Int) (a1 : Int) (a2 : Int) : Option Bool := cond (decide (a0 ≥ a1)) (some (decide (a0 ≤ a2))) (some false)
theorem ent113 : Enters Try.prog 113 := ⟨Try.f113, Try.func113, rfl, by decide⟩
set_option maxHeartbeats 8000000 in
set_option maxRecDepth 100000 in
theorem Fimpl_within_gives (k : Nat) (a0 : Int) (a1 : Int) (a2 : Int) (r : Bool) (H : Fimpl_within k a0 a1 a2 = some r) : Gives Try.prog 113 [V.one (cI a0), V.one (cI a1), V.one (cI a2)] [] [V.one (cL r)] [] := by
  refine Gives.intro Try.func113 rfl rfl rfl rfl ?_
  intro F hF hm
  unfold Fimpl_within at H
  obtain ⟨K, hK⟩ : ∃ K, k ≤ K := ⟨k, Nat.le_refl k⟩
  refine WpC.seq ?_
  refine WpC.regionL ?_
  refine L.assign hF rfl rfl rfl ?_
  refine L.nil ?_
  refine WpC.seq ?_
  refine WpC.regionL ?_
  refine L.move hF rfl rfl rfl ?_
  refine L.move hF rfl rfl rfl ?_
  refine L.bin hF rfl rfl rfl rfl rfl rfl ?_
  refine L.move hF rfl rfl rfl ?_
  refine L.split (fun hc => ?_) (fun hc => ?_)
  · replace H := condT hc H
    refine L.move hF rfl rfl rfl ?_
    refine L.move hF rfl rfl rfl ?_
    refine L.bin hF rfl rfl rfl rfl rfl rfl ?_
    refine L.pick hF rfl rfl rfl rfl ?_
    refine L.assign hF rfl rfl rfl ?_
    refine L.nil ?_
    refine WpC.ret ?_
    cases H
    exact Leaves.ret rfl rfl rfl ⟨rfl, rfl⟩
  · replace H := condF hc H
    refine L.off hF rfl rfl ?_
    refine L.off hF rfl rfl ?_
    refine L.off hF rfl rfl ?_
    refine L.pick hF rfl rfl rfl rfl ?_
    refine L.assign hF rfl rfl rfl ?_
    refine L.nil ?_
    refine WpC.ret ?_
    cases H
    exact Leaves.ret rfl rfl rfl ⟨rfl, rfl⟩
end Go.Proofs.Ytcolcmjcjpikcaa.M
