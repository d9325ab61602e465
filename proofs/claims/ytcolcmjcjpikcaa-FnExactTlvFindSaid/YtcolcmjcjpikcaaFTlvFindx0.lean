import Derived.Test.YtcolcmjcjpikcaaMgZc
import Derived.Test.YtcolcmjcjpikcaaProg
namespace Go.Proofs.Ytcolcmjcjpikcaa.M
open Go Go.MG
set_option linter.unusedVariables false
set_option linter.unusedSimpArgs false
structure Timpl_Tlv where
  Tag : Int
  Leaf : Bool
  Data : List UInt8
  Kids : List Int
def eTimpl_Tlv (x : Timpl_Tlv) : List Cell := [cI x.Tag, cL x.Leaf, cS x.Data, Cell.sl true (List.map eI x.Kids)]
structure Tlaws_Tlv where
  Tag : Int
  Leaf : Bool
  Data : List UInt8
  Kids : List Int
def eTlaws_Tlv (x : Tlaws_Tlv) : List Cell := [cI x.Tag, cL x.Leaf, cS x.Data, Cell.sl true (List.map eI x.Kids)]
structure Tspec_l14R where
  s : List UInt8
  out : List Timpl_Tlv
  begun : Int
  code : Int
def eTspec_l14R (x : Tspec_l14R) : List Cell := [cS x.s, Cell.sl true (List.map eTimpl_Tlv x.out), cI x.begun, cI x.code]
theorem mixed : Try.prog.follows .mixedOrders = true := by kernel_rfl
theorem shape3 : MG.shape Try.prog 3 = some (false, 1) := by kernel_rfl
theorem shape4 : MG.shape Try.prog 4 = some (false, 1) := by kernel_rfl
theorem shape9 : MG.shape Try.prog 9 = some (false, 1) := by kernel_rfl
theorem shape24 : MG.shape Try.prog 24 = some (false, 1) := by kernel_rfl
theorem shape33 : MG.shape Try.prog 33 = some (false, 1) := by kernel_rfl
theorem shape63 : MG.shape Try.prog 63 = some (true, 4) := by kernel_rfl
theorem shape141 : MG.shape Try.prog 141 = some (true, 4) := by kernel_rfl
theorem shape152 : MG.shape Try.prog 152 = some (true, 4) := by kernel_rfl
theorem info3 : Try.prog.info? 3 = some Try.t3 := by kernel_rfl
theorem info4 : Try.prog.info? 4 = some Try.t4 := by kernel_rfl
theorem info5 : Try.prog.info? 5 = some Try.t5 := by kernel_rfl
theorem info9 : Try.prog.info? 9 = some Try.t9 := by kernel_rfl
theorem info24 : Try.prog.info? 24 = some Try.t24 := by kernel_rfl
theorem info33 : Try.prog.info? 33 = some Try.t33 := by kernel_rfl
theorem info63 : Try.prog.info? 63 = some Try.t63 := by kernel_rfl
theorem info141 : Try.prog.info? 141 = some Try.t141 := by kernel_rfl
theorem info152 : Try.prog.info? 152 = some Try.t152 := by kernel_rfl
theorem built63 : builtA Try.prog 63 = fillA (fun x => ([(0, 1), (1, 1), (2, 1), (3, 1)] : List (Nat × Nat))[x]?) [cI (0 : Int), cL false, cS ([] : List UInt8), Cell.nil] := by kernel_rfl
theorem built141 : builtA Try.prog 141 = fillA (fun x => ([(0, 1), (1, 1), (2, 1), (3, 1)] : List (Nat × Nat))[x]?) [cS ([] : List UInt8), Cell.nil, cI (0 : Int), cI (0 : Int)] := by kernel_rfl
abbrev bx (a b c d : Int) : List Cell := [cI a, cI b, cI c, cI d]
theorem S3 {π : Nat → Option Nat} {σ : St} {t0 t1 t2 : Nat} {s0 u0 s1 u1 s2 u2 : Slot} (h0 : renS π s0 = some u0) (g0 : σ.slots t0 = some u0) (h1 : renS π s1 = some u1) (g1 : σ.slots t1 = some u1) (h2 : renS π s2 = some u2) (g2 : σ.slots t2 = some u2) : SlotsOk π σ [(t0, s0), (t1, s1), (t2, s2)] := ⟨⟨_, h0, g0⟩, ⟨_, h1, g1⟩, ⟨_, h2, g2⟩, trivial⟩
theorem S4 {π : Nat → Option Nat} {σ : St} {t0 t1 t2 t3 : Nat} {s0 u0 s1 u1 s2 u2 s3 u3 : Slot} (h0 : renS π s0 = some u0) (g0 : σ.slots t0 = some u0) (h1 : renS π s1 = some u1) (g1 : σ.slots t1 = some u1) (h2 : renS π s2 = some u2) (g2 : σ.slots t2 = some u2) (h3 : renS π s3 = some u3) (g3 : σ.slots t3 = some u3) : SlotsOk π σ [(t0, s0), (t1, s1), (t2, s2), (t3, s3)] := ⟨⟨_, h0, g0⟩, ⟨_, h1, g1⟩, ⟨_, h2, g2⟩, ⟨_, h3, g3⟩, trivial⟩
theorem S5 {π : Nat → Option Nat} {σ : St} {t0 t1 t2 t3 t4 : Nat} {s0 u0 s1 u1 s2 u2 s3 u3 s4 u4 : Slot} (h0 : renS π s0 = some u0) (g0 : σ.slots t0 = some u0) (h1 : renS π s1 = some u1) (g1 : σ.slots t1 = some u1) (h2 : renS π s2 = some u2) (g2 : σ.slots t2 = some u2) (h3 : renS π s3 = some u3) (g3 : σ.slots t3 = some u3) (h4 : renS π s4 = some u4) (g4 : σ.slots t4 = some u4) : SlotsOk π σ [(t0, s0), (t1, s1), (t2, s2), (t3, s3), (t4, s4)] := ⟨⟨_, h0, g0⟩, ⟨_, h1, g1⟩, ⟨_, h2, g2⟩, ⟨_, h3, g3⟩, ⟨_, h4, g4⟩, trivial⟩
theorem S6 {π : Nat → Option Nat} {σ : St} {t0 t1 t2 t3 t4 t5 : Nat} {s0 u0 s1 u1 s2 u2 s3 u3 s4 u4 s5 u5 : Slot} (h0 : renS π s0 = some u0) (g0 : σ.slots t0 = some u0) (h1 : renS π s1 = some u1) (g1 : σ.slots t1 = some u1) (h2 : renS π s2 = some u2) (g2 : σ.slots t2 = some u2) (h3 : renS π s3 = some u3) (g3 : σ.slots t3 = some u3) (h4 : renS π s4 = some u4) (g4 : σ.slots t4 = some u4) (h5 : renS π s5 = some u5) (g5 : σ.slots t5 = some u5) : SlotsOk π σ [(t0, s0), (t1, s1), (t2, s2), (t3, s3), (t4, s4), (t5, s5)] := ⟨⟨_, h0, g0⟩, ⟨_, h1, g1⟩, ⟨_, h2, g2⟩, ⟨_, h3, g3⟩, ⟨_, h4, g4⟩, ⟨_, h5, g5⟩, trivial⟩
theorem S7 {π : Nat → Option Nat} {σ : St} {t0 t1 t2 t3 t4 t5 t6 : Nat} {s0 u0 s1 u1 s2 u2 s3 u3 s4 u4 s5 u5 s6 u6 : Slot} (h0 : renS π s0 = some u0) (g0 : σ.slots t0 = some u0) (h1 : renS π s1 = some u1) (g1 : σ.slots t1 = some u1) (h2 : renS π s2 = some u2) (g2 : σ.slots t2 = some u2) (h3 : renS π s3 = some u3) (g3 : σ.slots t3 = some u3) (h4 : renS π s4 = some u4) (g4 : σ.slots t4 = some u4) (h5 : renS π s5 = some u5) (g5 : σ.slots t5 = some u5) (h6 : renS π s6 = some u6) (g6 : σ.slots t6 = some u6) : SlotsOk π σ [(t0, s0), (t1, s1), (t2, s2), (t3, s3), (t4, s4), (t5, s5), (t6, s6)] := ⟨⟨_, h0, g0⟩, ⟨_, h1, g1⟩, ⟨_, h2, g2⟩, ⟨_, h3, g3⟩, ⟨_, h4, g4⟩, ⟨_, h5, g5⟩, ⟨_, h6, g6⟩, trivial⟩
theorem S8 {π : Nat → Option Nat} {σ : St} {t0 t1 t2 t3 t4 t5 t6 t7 : Nat} {s0 u0 s1 u1 s2 u2 s3 u3 s4 u4 s5 u5 s6 u6 s7 u7 : Slot} (h0 : renS π s0 = some u0) (g0 : σ.slots t0 = some u0) (h1 : renS π s1 = some u1) (g1 : σ.slots t1 = some u1) (h2 : renS π s2 = some u2) (g2 : σ.slots t2 = some u2) (h3 : renS π s3 = some u3) (g3 : σ.slots t3 = some u3) (h4 : renS π s4 = some u4) (g4 : σ.slots t4 = some u4) (h5 : renS π s5 = some u5) (g5 : σ.slots t5 = some u5) (h6 : renS π s6 = some u6) (g6 : σ.slots t6 = some u6) (h7 : renS π s7 = some u7) (g7 : σ.slots t7 = some u7) : SlotsOk π σ [(t0, s0), (t1, s1), (t2, s2), (t3, s3), (t4, s4), (t5, s5), (t6, s6), (t7, s7)] := ⟨⟨_, h0, g0⟩, ⟨_, h1, g1⟩, ⟨_, h2, g2⟩, ⟨_, h3, g3⟩, ⟨_, h4, g4⟩, ⟨_, h5, g5⟩, ⟨_, h6, g6⟩, ⟨_, h7, g7⟩, trivial⟩
theorem S9 {π : Nat → Option Nat} {σ : St} {t0 t1 t2 t3 t4 t5 t6 t7 t8 : Nat} {s0 u0 s1 u1 s2 u2 s3 u3 s4 u4 s5 u5 s6 u6 s7 u7 s8 u8 : Slot} (h0 : renS π s0 = some u0) (g0 : σ.slots t0 = some u0) (h1 : renS π s1 = some u1) (g1 : σ.slots t1 = some u1) (h2 : renS π s2 = some u2) (g2 : σ.slots t2 = some u2) (h3 : renS π s3 = some u3) (g3 : σ.slots t3 = some u3) (h4 : renS π s4 = some u4) (g4 : σ.slots t4 = some u4) (h5 : renS π s5 = some u5) (g5 : σ.slots t5 = some u5) (h6 : renS π s6 = some u6) (g6 : σ.slots t6 = some u6) (h7 : renS π s7 = some u7) (g7 : σ.slots t7 = some u7) (h8 : renS π s8 = some u8) (g8 : σ.slots t8 = some u8) : SlotsOk π σ [(t0, s0), (t1, s1), (t2, s2), (t3, s3), (t4, s4), (t5, s5), (t6, s6), (t7, s7), (t8, s8)] := ⟨⟨_, h0, g0⟩, ⟨_, h1, g1⟩, ⟨_, h2, g2⟩, ⟨_, h3, g3⟩, ⟨_, h4, g4⟩, ⟨_, h5, g5⟩, ⟨_, h6, g6⟩, ⟨_, h7, g7⟩, ⟨_, h8, g8⟩, trivial⟩
theorem S10 {π : Nat → Option Nat} {σ : St} {t0 t1 t2 t3 t4 t5 t6 t7 t8 t9 : Nat} {s0 u0 s1 u1 s2 u2 s3 u3 s4 u4 s5 u5 s6 u6 s7 u7 s8 u8 s9 u9 : Slot} (h0 : renS π s0 = some u0) (g0 : σ.slots t0 = some u0) (h1 : renS π s1 = some u1) (g1 : σ.slots t1 = some u1) (h2 : renS π s2 = some u2) (g2 : σ.slots t2 = some u2) (h3 : renS π s3 = some u3) (g3 : σ.slots t3 = some u3) (h4 : renS π s4 = some u4) (g4 : σ.slots t4 = some u4) (h5 : renS π s5 = some u5) (g5 : σ.slots t5 = some u5) (h6 : renS π s6 = some u6) (g6 : σ.slots t6 = some u6) (h7 : renS π s7 = some u7) (g7 : σ.slots t7 = some u7) (h8 : renS π s8 = some u8) (g8 : σ.slots t8 = some u8) (h9 : renS π s9 = some u9) (g9 : σ.slots t9 = some u9) : SlotsOk π σ [(t0, s0), (t1, s1), (t2, s2), (t3, s3), (t4, s4), (t5, s5), (t6, s6), (t7, s7), (t8, s8), (t9, s9)] := ⟨⟨_, h0, g0⟩, ⟨_, h1, g1⟩, ⟨_, h2, g2⟩, ⟨_, h3, g3⟩, ⟨_, h4, g4⟩, ⟨_, h5, g5⟩, ⟨_, h6, g6⟩, ⟨_, h7, g7⟩, ⟨_, h8, g8⟩, ⟨_, h9, g9⟩, trivial⟩
theorem S11 {π : Nat → Option Nat} {σ : St} {t0 t1 t2 t3 t4 t5 t6 t7 t8 t9 t10 : Nat} {s0 u0 s1 u1 s2 u2 s3 u3 s4 u4 s5 u5 s6 u6 s7 u7 s8 u8 s9 u9 s10 u10 : Slot} (h0 : renS π s0 = some u0) (g0 : σ.slots t0 = some u0) (h1 : renS π s1 = some u1) (g1 : σ.slots t1 = some u1) (h2 : renS π s2 = some u2) (g2 : σ.slots t2 = some u2) (h3 : renS π s3 = some u3) (g3 : σ.slots t3 = some u3) (h4 : renS π s4 = some u4) (g4 : σ.slots t4 = some u4) (h5 : renS π s5 = some u5) (g5 : σ.slots t5 = some u5) (h6 : renS π s6 = some u6) (g6 : σ.slots t6 = some u6) (h7 : renS π s7 = some u7) (g7 : σ.slots t7 = some u7) (h8 : renS π s8 = some u8) (g8 : σ.slots t8 = some u8) (h9 : renS π s9 = some u9) (g9 : σ.slots t9 = some u9) (h10 : renS π s10 = some u10) (g10 : σ.slots t10 = some u10) : SlotsOk π σ [(t0, s0), (t1, s1), (t2, s2), (t3, s3), (t4, s4), (t5, s5), (t6, s6), (t7, s7), (t8, s8), (t9, s9), (t10, s10)] := ⟨⟨_, h0, g0⟩, ⟨_, h1, g1⟩, ⟨_, h2, g2⟩, ⟨_, h3, g3⟩, ⟨_, h4, g4⟩, ⟨_, h5, g5⟩, ⟨_, h6, g6⟩, ⟨_, h7, g7⟩, ⟨_, h8, g8⟩, ⟨_, h9, g9⟩, ⟨_, h10, g10⟩, trivial⟩
theorem S12 {π : Nat → Option Nat} {σ : St} {t0 t1 t2 t3 t4 t5 t6 t7 t8 t9 t10 t11 : Nat} {s0 u0 s1 u1 s2 u2 s3 u3 s4 u4 s5 u5 s6 u6 s7 u7 s8 u8 s9 u9 s10 u10 s11 u11 : Slot} (h0 : renS π s0 = some u0) (g0 : σ.slots t0 = some u0) (h1 : renS π s1 = some u1) (g1 : σ.slots t1 = some u1) (h2 : renS π s2 = some u2) (g2 : σ.slots t2 = some u2) (h3 : renS π s3 = some u3) (g3 : σ.slots t3 = some u3) (h4 : renS π s4 = some u4) (g4 : σ.slots t4 = some u4) (h5 : renS π s5 = some u5) (g5 : σ.slots t5 = some u5) (h6 : renS π s6 = some u6) (g6 : σ.slots t6 = some u6) (h7 : renS π s7 = some u7) (g7 : σ.slots t7 = some u7) (h8 : renS π s8 = some u8) (g8 : σ.slots t8 = some u8) (h9 : renS π s9 = some u9) (g9 : σ.slots t9 = some u9) (h10 : renS π s10 = some u10) (g10 : σ.slots t10 = some u10) (h11 : renS π s11 = some u11) (g11 : σ.slots t11 = some u11) : SlotsOk π σ [(t0, s0), (t1, s1), (t2, s2), (t3, s3), (t4, s4), (t5, s5), (t6, s6), (t7, s7), (t8, s8), (t9, s9), (t10, s10), (t11, s11)] := ⟨⟨_, h0, g0⟩, ⟨_, h1, g1⟩, ⟨_, h2, g2⟩, ⟨_, h3, g3⟩, ⟨_, h4, g4⟩, ⟨_, h5, g5⟩, ⟨_, h6, g6⟩, ⟨_, h7, g7⟩, ⟨_, h8, g8⟩, ⟨_, h9, g9⟩, ⟨_, h10, g10⟩, ⟨_, h11, g11⟩, trivial⟩
theorem S13 {π : Nat → Option Nat} {σ : St} {t0 t1 t2 t3 t4 t5 t6 t7 t8 t9 t10 t11 t12 : Nat} {s0 u0 s1 u1 s2 u2 s3 u3 s4 u4 s5 u5 s6 u6 s7 u7 s8 u8 s9 u9 s10 u10 s11 u11 s12 u12 : Slot} (h0 : renS π s0 = some u0) (g0 : σ.slots t0 = some u0) (h1 : renS π s1 = some u1) (g1 : σ.slots t1 = some u1) (h2 : renS π s2 = some u2) (g2 : σ.slots t2 = some u2) (h3 : renS π s3 = some u3) (g3 : σ.slots t3 = some u3) (h4 : renS π s4 = some u4) (g4 : σ.slots t4 = some u4) (h5 : renS π s5 = some u5) (g5 : σ.slots t5 = some u5) (h6 : renS π s6 = some u6) (g6 : σ.slots t6 = some u6) (h7 : renS π s7 = some u7) (g7 : σ.slots t7 = some u7) (h8 : renS π s8 = some u8) (g8 : σ.slots t8 = some u8) (h9 : renS π s9 = some u9) (g9 : σ.slots t9 = some u9) (h10 : renS π s10 = some u10) (g10 : σ.slots t10 = some u10) (h11 : renS π s11 = some u11) (g11 : σ.slots t11 = some u11) (h12 : renS π s12 = some u12) (g12 : σ.slots t12 = some u12) : SlotsOk π σ [(t0, s0), (t1, s1), (t2, s2), (t3, s3), (t4, s4), (t5, s5), (t6, s6), (t7, s7), (t8, s8), (t9, s9), (t10, s10), (t11, s11), (t12, s12)] := ⟨⟨_, h0, g0⟩, ⟨_, h1, g1⟩, ⟨_, h2, g2⟩, ⟨_, h3, g3⟩, ⟨_, h4, g4⟩, ⟨_, h5, g5⟩, ⟨_, h6, g6⟩, ⟨_, h7, g7⟩, ⟨_, h8, g8⟩, ⟨_, h9, g9⟩, ⟨_, h10, g10⟩, ⟨_, h11, g11⟩, ⟨_, h12, g12⟩, trivial⟩
theorem S14 {π : Nat → Option Nat} {σ : St} {t0 t1 t2 t3 t4 t5 t6 t7 t8 t9 t10 t11 t12 t13 : Nat} {s0 u0 s1 u1 s2 u2 s3 u3 s4 u4 s5 u5 s6 u6 s7 u7 s8 u8 s9 u9 s10 u10 s11 u11 s12 u12 s13 u13 : Slot} (h0 : renS π s0 = some u0) (g0 : σ.slots t0 = some u0) (h1 : renS π s1 = some u1) (g1 : σ.slots t1 = some u1) (h2 : renS π s2 = some u2) (g2 : σ.slots t2 = some u2) (h3 : renS π s3 = some u3) (g3 : σ.slots t3 = some u3) (h4 : renS π s4 = some u4) (g4 : σ.slots t4 = some u4) (h5 : renS π s5 = some u5) (g5 : σ.slots t5 = some u5) (h6 : renS π s6 = some u6) (g6 : σ.slots t6 = some u6) (h7 : renS π s7 = some u7) (g7 : σ.slots t7 = some u7) (h8 : renS π s8 = some u8) (g8 : σ.slots t8 = some u8) (h9 : renS π s9 = some u9) (g9 : σ.slots t9 = some u9) (h10 : renS π s10 = some u10) (g10 : σ.slots t10 = some u10) (h11 : renS π s11 = some u11) (g11 : σ.slots t11 = some u11) (h12 : renS π s12 = some u12) (g12 : σ.slots t12 = some u12) (h13 : renS π s13 = some u13) (g13 : σ.slots t13 = some u13) : SlotsOk π σ [(t0, s0), (t1, s1), (t2, s2), (t3, s3), (t4, s4), (t5, s5), (t6, s6), (t7, s7), (t8, s8), (t9, s9), (t10, s10), (t11, s11), (t12, s12), (t13, s13)] := ⟨⟨_, h0, g0⟩, ⟨_, h1, g1⟩, ⟨_, h2, g2⟩, ⟨_, h3, g3⟩, ⟨_, h4, g4⟩, ⟨_, h5, g5⟩, ⟨_, h6, g6⟩, ⟨_, h7, g7⟩, ⟨_, h8, g8⟩, ⟨_, h9, g9⟩, ⟨_, h10, g10⟩, ⟨_, h11, g11⟩, ⟨_, h12, g12⟩, ⟨_, h13, g13⟩, trivial⟩
theorem B2 {π : Nat → Option Nat} {σ : St} {k0 q0 k1 q1 : Nat} {c0 d0 c1 d1 : List Cell} (h0 : π k0 = some q0) (g0 : renCs π c0 = some d0) (e0 : σ.H.boxes q0 = some d0) (h1 : π k1 = some q1) (g1 : renCs π c1 = some d1) (e1 : σ.H.boxes q1 = some d1) : BoxesOk π σ [(k0, c0), (k1, c1)] := ⟨⟨_, _, h0, g0, e0⟩, ⟨_, _, h1, g1, e1⟩, trivial⟩
theorem B3 {π : Nat → Option Nat} {σ : St} {k0 q0 k1 q1 k2 q2 : Nat} {c0 d0 c1 d1 c2 d2 : List Cell} (h0 : π k0 = some q0) (g0 : renCs π c0 = some d0) (e0 : σ.H.boxes q0 = some d0) (h1 : π k1 = some q1) (g1 : renCs π c1 = some d1) (e1 : σ.H.boxes q1 = some d1) (h2 : π k2 = some q2) (g2 : renCs π c2 = some d2) (e2 : σ.H.boxes q2 = some d2) : BoxesOk π σ [(k0, c0), (k1, c1), (k2, c2)] := ⟨⟨_, _, h0, g0, e0⟩, ⟨_, _, h1, g1, e1⟩, ⟨_, _, h2, g2, e2⟩, trivial⟩
theorem B4 {π : Nat → Option Nat} {σ : St} {k0 q0 k1 q1 k2 q2 k3 q3 : Nat} {c0 d0 c1 d1 c2 d2 c3 d3 : List Cell} (h0 : π k0 = some q0) (g0 : renCs π c0 = some d0) (e0 : σ.H.boxes q0 = some d0) (h1 : π k1 = some q1) (g1 : renCs π c1 = some d1) (e1 : σ.H.boxes q1 = some d1) (h2 : π k2 = some q2) (g2 : renCs π c2 = some d2) (e2 : σ.H.boxes q2 = some d2) (h3 : π k3 = some q3) (g3 : renCs π c3 = some d3) (e3 : σ.H.boxes q3 = some d3) : BoxesOk π σ [(k0, c0), (k1, c1), (k2, c2), (k3, c3)] := ⟨⟨_, _, h0, g0, e0⟩, ⟨_, _, h1, g1, e1⟩, ⟨_, _, h2, g2, e2⟩, ⟨_, _, h3, g3, e3⟩, trivial⟩
theorem B5 {π : Nat → Option Nat} {σ : St} {k0 q0 k1 q1 k2 q2 k3 q3 k4 q4 : Nat} {c0 d0 c1 d1 c2 d2 c3 d3 c4 d4 : List Cell} (h0 : π k0 = some q0) (g0 : renCs π c0 = some d0) (e0 : σ.H.boxes q0 = some d0) (h1 : π k1 = some q1) (g1 : renCs π c1 = some d1) (e1 : σ.H.boxes q1 = some d1) (h2 : π k2 = some q2) (g2 : renCs π c2 = some d2) (e2 : σ.H.boxes q2 = some d2) (h3 : π k3 = some q3) (g3 : renCs π c3 = some d3) (e3 : σ.H.boxes q3 = some d3) (h4 : π k4 = some q4) (g4 : renCs π c4 = some d4) (e4 : σ.H.boxes q4 = some d4) : BoxesOk π σ [(k0, c0), (k1, c1), (k2, c2), (k3, c3), (k4, c4)] := ⟨⟨_, _, h0, g0, e0⟩, ⟨_, _, h1, g1, e1⟩, ⟨_, _, h2, g2, e2⟩, ⟨_, _, h3, g3, e3⟩, ⟨_, _, h4, g4, e4⟩, trivial⟩
theorem B6 {π : Nat → Option Nat} {σ : St} {k0 q0 k1 q1 k2 q2 k3 q3 k4 q4 k5 q5 : Nat} {c0 d0 c1 d1 c2 d2 c3 d3 c4 d4 c5 d5 : List Cell} (h0 : π k0 = some q0) (g0 : renCs π c0 = some d0) (e0 : σ.H.boxes q0 = some d0) (h1 : π k1 = some q1) (g1 : renCs π c1 = some d1) (e1 : σ.H.boxes q1 = some d1) (h2 : π k2 = some q2) (g2 : renCs π c2 = some d2) (e2 : σ.H.boxes q2 = some d2) (h3 : π k3 = some q3) (g3 : renCs π c3 = some d3) (e3 : σ.H.boxes q3 = some d3) (h4 : π k4 = some q4) (g4 : renCs π c4 = some d4) (e4 : σ.H.boxes q4 = some d4) (h5 : π k5 = some q5) (g5 : renCs π c5 = some d5) (e5 : σ.H.boxes q5 = some d5) : BoxesOk π σ [(k0, c0), (k1, c1), (k2, c2), (k3, c3), (k4, c4), (k5, c5)] := ⟨⟨_, _, h0, g0, e0⟩, ⟨_, _, h1, g1, e1⟩, ⟨_, _, h2, g2, e2⟩, ⟨_, _, h3, g3, e3⟩, ⟨_, _, h4, g4, e4⟩, ⟨_, _, h5, g5, e5⟩, trivial⟩
/-! ### Flaws_szIntS -/
def Flaws_szIntS (k : Nat) (a0 : List Int) (a1 : Int) : Option Int := cond (decide ((IntKind.i64.wrap (a1 - (a0.length : Int))) < (0 : Int))) (some (-1 : Int)) (some (IntKind.i64.wrap (a1 - (a0.length : Int))))
theorem ent148 : Enters Try.prog 148 := ⟨Try.f148, Try.func148, rfl, by decide⟩
set_option maxHeartbeats 8000000 in
set_option maxRecDepth 100000 in
theorem Flaws_szIntS_gives (k : Nat) (g0 : Bool) (a0 : List Int) (a1 : Int) (r : Int) (H : Flaws_szIntS k a0 a1 = some r) : Gives Try.prog 148 [V.one (Cell.sl g0 (List.map eI a0)), V.one (cI a1)] [] [V.one (cI r)] [] := by
  refine Gives.intro Try.func148 rfl rfl rfl rfl ?_
  intro F hF hm
  unfold Flaws_szIntS at H
  obtain ⟨K, hK⟩ : ∃ K, k ≤ K := ⟨k, Nat.le_refl k⟩
  refine WpC.seq ?_
  refine WpC.regionL ?_
  refine L.assign hF rfl rfl rfl ?_
  refine L.nil ?_
  refine WpC.seq ?_
  refine WpC.regionL ?_
  refine L.move hF rfl rfl rfl ?_
  refine L.move hF rfl rfl rfl ?_
  refine L.lenR (xs := a0) (e := eI) Try.underlying24 hF rfl rfl rfl rfl ?_
  refine L.bin hF rfl rfl rfl rfl rfl rfl ?_
  refine L.assign hF rfl rfl rfl ?_
  refine L.nil ?_
  refine WpC.seq ?_
  refine WpC.seq ?_
  refine WpC.regionL ?_
  refine L.move hF rfl rfl rfl ?_
  refine L.bin hF rfl rfl rfl rfl rfl rfl ?_
  refine L.nil ?_
  refine WpC.cond rfl (fun hc => ?_) (fun hc => ?_)
  · replace H := condT hc H
    refine WpC.seq ?_
    refine WpC.regionL ?_
    refine L.assign hF rfl rfl rfl ?_
    refine L.nil ?_
    refine WpC.ret ?_
    cases H
    exact Leaves.ret rfl rfl rfl ⟨rfl, rfl⟩
  · replace H := condF hc H
    refine WpC.skip ?_
    refine WpC.seq ?_
    refine WpC.regionL ?_
    refine L.move hF rfl rfl rfl ?_
    refine L.assign hF rfl rfl rfl ?_
    refine L.nil ?_
    refine WpC.ret ?_
    cases H
    exact Leaves.ret rfl rfl rfl ⟨rfl, rfl⟩
/-! ### Flaws_szTlv -/
def Flaws_szTlv (k : Nat) (a0 : Tlaws_Tlv) (a1 : Int) : Option Int := cond (decide ((IntKind.i64.wrap (a1 - (a0.Data.length : Int))) < (0 : Int))) (some (-1 : Int)) ((Flaws_szIntS k a0.Kids (IntKind.i64.wrap (a1 - (a0.Data.length : Int)))).bind fun r1 => cond (decide (r1 < (0 : Int))) (some (-1 : Int)) (some r1))
theorem ent108 : Enters Try.prog 108 := ⟨Try.f108, Try.func108, rfl, by decide⟩
set_option maxHeartbeats 8000000 in
set_option maxRecDepth 100000 in
theorem Flaws_szTlv_gives (k : Nat) (g0 : Bool) (a0 : Tlaws_Tlv) (a1 : Int) (r : Int) (H : Flaws_szTlv k a0 a1 = some r) : Gives Try.prog 108 [V.agg [cI a0.Tag, cL a0.Leaf, cS a0.Data, Cell.sl g0 (List.map eI a0.Kids)], V.one (cI a1)] [] [V.one (cI r)] [] := by
  refine Gives.intro Try.func108 rfl rfl rfl rfl ?_
  intro F hF hm
  unfold Flaws_szTlv at H
  obtain ⟨K, hK⟩ : ∃ K, k ≤ K := ⟨k, Nat.le_refl k⟩
  refine WpC.seq ?_
  refine WpC.regionL ?_
  refine L.box 5 hF rfl rfl rfl rfl ?_
  refine L.assign hF rfl rfl rfl ?_
  refine L.nil ?_
  refine WpC.seq ?_
  refine WpC.regionL ?_
  refine L.move hF rfl rfl rfl ?_
  refine L.fieldAddr Try.underlying152 rfl info9 rfl hF rfl rfl rfl rfl rfl ?_
  refine L.loadPtr shape9 hF rfl rfl rfl rfl rfl rfl ?_
  refine L.lenS Try.underlying9 hF rfl rfl rfl ?_
  refine L.bin hF rfl rfl rfl rfl rfl rfl ?_
  refine L.assign hF rfl rfl rfl ?_
  refine L.nil ?_
  refine WpC.seq ?_
  refine WpC.seq ?_
  refine WpC.regionL ?_
  refine L.move hF rfl rfl rfl ?_
  refine L.bin hF rfl rfl rfl rfl rfl rfl ?_
  refine L.nil ?_
  refine WpC.cond rfl (fun hc => ?_) (fun hc => ?_)
  · replace H := condT hc H
    refine WpC.seq ?_
    refine WpC.regionL ?_
    refine L.assign hF rfl rfl rfl ?_
    refine L.nil ?_
    refine WpC.ret ?_
    cases H
    exact Leaves.ret rfl rfl rfl ⟨rfl, rfl⟩
  · replace H := condF hc H
    refine WpC.skip ?_
    refine WpC.seq ?_
    refine WpC.regionL ?_
    refine L.fieldAddr Try.underlying152 rfl info24 rfl hF rfl rfl rfl rfl rfl ?_
    refine L.loadPtr shape24 hF rfl rfl rfl rfl rfl rfl ?_
    refine L.move hF rfl rfl rfl ?_
    obtain ⟨r1, hr1, H⟩ := bindS H
    refine L.call [false, false] [] [] 6 hF rfl rfl rfl ent148 rfl rfl rfl rfl rfl (Flaws_szIntS_gives k g0 a0.Kids (IntKind.i64.wrap (a1 - (a0.Data.length : Int))) r1 hr1) rfl ?_
    refine L.assign hF rfl rfl rfl ?_
    refine L.nil ?_
    refine WpC.seq ?_
    refine WpC.seq ?_
    refine WpC.regionL ?_
    refine L.move hF rfl rfl rfl ?_
    refine L.bin hF rfl rfl rfl rfl rfl rfl ?_
    refine L.nil ?_
    refine WpC.cond rfl (fun hc => ?_) (fun hc => ?_)
    · replace H := condT hc H
      refine WpC.seq ?_
      refine WpC.regionL ?_
      refine L.assign hF rfl rfl rfl ?_
      refine L.nil ?_
      refine WpC.ret ?_
      cases H
      exact Leaves.ret rfl rfl rfl ⟨rfl, rfl⟩
    · replace H := condF hc H
      refine WpC.skip ?_
      refine WpC.seq ?_
      refine WpC.regionL ?_
      refine L.move hF rfl rfl rfl ?_
      refine L.assign hF rfl rfl rfl ?_
      refine L.nil ?_
      refine WpC.ret ?_
      cases H
      exact Leaves.ret rfl rfl rfl ⟨rfl, rfl⟩
/-! ### Flaws_szTlvS -/
def Flaws_szTlvS.l2 : Nat → (List Tlaws_Tlv) → Int → Int → Option Int
  | 0, _, _, _ => none
  | k2 + 1, v34, v35, v36 => cond (decide (v36 < (v34.length : Int))) ((at? v34 v36).bind fun b39 => (Flaws_szTlv k2 b39 v35).bind fun r40 => cond (decide (r40 < (0 : Int))) (some (-1 : Int)) ((Flaws_szTlvS.l2 k2) v34 r40 (IntKind.i64.wrap (v36 + (1 : Int))))) (some v35)
def Flaws_szTlvS (k : Nat) (a0 : List Tlaws_Tlv) (a1 : Int) : Option Int := cond (decide ((IntKind.i64.wrap (a1 - (a0.length : Int))) < (0 : Int))) (some (-1 : Int)) (Flaws_szTlvS.l2 k a0 (IntKind.i64.wrap (a1 - (a0.length : Int))) (0 : Int))
theorem ent36 : Enters Try.prog 36 := ⟨Try.f36, Try.func36, rfl, by decide⟩
set_option maxHeartbeats 8000000 in
set_option maxRecDepth 100000 in
theorem Flaws_szTlvS_gives (k : Nat) (g0 : Bool) (a0 : List Tlaws_Tlv) (a1 : Int) (r : Int) (H : Flaws_szTlvS k a0 a1 = some r) : Gives Try.prog 36 [V.one (Cell.sl g0 (List.map eTlaws_Tlv a0)), V.one (cI a1)] [] [V.one (cI r)] [] := by
  refine Gives.intro Try.func36 rfl rfl rfl rfl ?_
  intro F hF hm
  unfold Flaws_szTlvS at H
  obtain ⟨K, hK⟩ : ∃ K, k ≤ K := ⟨k, Nat.le_refl k⟩
  refine WpC.seq ?_
  refine WpC.regionL ?_
  refine L.assign hF rfl rfl rfl ?_
  refine L.nil ?_
  refine WpC.seq ?_
  refine WpC.regionL ?_
  refine L.move hF rfl rfl rfl ?_
  refine L.move hF rfl rfl rfl ?_
  refine L.lenR (xs := a0) (e := eTlaws_Tlv) Try.underlying39 hF rfl rfl rfl rfl ?_
  refine L.bin hF rfl rfl rfl rfl rfl rfl ?_
  refine L.assign hF rfl rfl rfl ?_
  refine L.nil ?_
  refine WpC.seq ?_
  refine WpC.seq ?_
  refine WpC.regionL ?_
  refine L.move hF rfl rfl rfl ?_
  refine L.bin hF rfl rfl rfl rfl rfl rfl ?_
  refine L.nil ?_
  refine WpC.cond rfl (fun hc => ?_) (fun hc => ?_)
  · replace H := condT hc H
    refine WpC.seq ?_
    refine WpC.regionL ?_
    refine L.assign hF rfl rfl rfl ?_
    refine L.nil ?_
    refine WpC.ret ?_
    cases H
    exact Leaves.ret rfl rfl rfl ⟨rfl, rfl⟩
  · replace H := condF hc H
    refine WpC.skip ?_
    refine WpC.seq ?_
    refine WpC.seq ?_
    refine WpC.regionL ?_
    refine L.assign hF rfl rfl rfl ?_
    refine L.nil ?_
    refine WpC.block ?_
    refine WpC.loopL (P := Try.prog) (fun n σ => ∃ v34 : List Tlaws_Tlv, ∃ v35 : Int, ∃ v36 : Int, n ≤ K ∧ Flaws_szTlvS.l2 n v34 v35 v36 = some r ∧ σ = mkSt [(0, one (Cell.sl g0 (List.map eTlaws_Tlv v34))), (1, one (cI v35)), (5, one (cI v36))] [] [] 0) k ⟨_, ⟨a0, (IntKind.i64.wrap (a1 - (a0.length : Int))), (0 : Int), by omega, H, rfl⟩, Le.mk [] hm rfl ⟨⟨_, rfl, rfl⟩, ⟨_, rfl, rfl⟩, ⟨_, rfl, rfl⟩, trivial⟩ trivial trivial⟩ ?_
    clear H
    rintro k2 _ ⟨v34, v35, v36, hk2, H, rfl⟩
    cases k2 with
    | zero => cases H
    | succ k2 =>
      rw [Flaws_szTlvS.l2] at H
      refine WpC.seq ?_
      refine WpC.seq ?_
      refine WpC.regionL ?_
      refine L.move hF rfl rfl rfl ?_
      refine L.move hF rfl rfl rfl ?_
      refine L.lenR (xs := v34) (e := eTlaws_Tlv) Try.underlying39 hF rfl rfl rfl rfl ?_
      refine L.bin hF rfl rfl rfl rfl rfl rfl ?_
      refine L.nil ?_
      refine WpC.cond rfl (fun hc => ?_) (fun hc => ?_)
      · replace H := condT hc H
        refine WpC.skip ?_
        refine WpC.seq ?_
        refine WpC.block ?_
        refine WpC.seq ?_
        refine WpC.regionL ?_
        refine L.move hF rfl rfl rfl ?_
        refine L.move hF rfl rfl rfl ?_
        obtain ⟨b39, hb39, H⟩ := bindS H
        refine L.idxR (xs := v34) (e := eTlaws_Tlv) Try.underlying39 info152 hF rfl rfl rfl rfl rfl hb39 rfl rfl ?_
        refine L.loadPe shape152 hF rfl rfl rfl rfl rfl ?_
        refine L.move hF rfl rfl rfl ?_
        obtain ⟨r40, hr40, H⟩ := bindS H
        refine L.call [false, false] [] [] 0 hF rfl rfl rfl ent108 rfl rfl rfl rfl rfl (Flaws_szTlv_gives k2 true b39 v35 r40 hr40) rfl ?_
        refine L.assign hF rfl rfl rfl ?_
        refine L.nil ?_
        refine WpC.seq ?_
        refine WpC.regionL ?_
        refine L.move hF rfl rfl rfl ?_
        refine L.bin hF rfl rfl rfl rfl rfl rfl ?_
        refine L.nil ?_
        refine WpC.cond rfl (fun hc => ?_) (fun hc => ?_)
        · replace H := condT hc H
          refine WpC.seq ?_
          refine WpC.regionL ?_
          refine L.assign hF rfl rfl rfl ?_
          refine L.nil ?_
          refine WpC.ret ?_
          cases H
          exact Leaves.ret rfl rfl rfl ⟨rfl, rfl⟩
        · replace H := condF hc H
          refine WpC.skip ?_
          refine WpC.regionL ?_
          refine L.move hF rfl rfl rfl ?_
          refine L.bin hF rfl rfl rfl rfl rfl rfl ?_
          refine L.assign hF rfl rfl rfl ?_
          refine L.nil ?_
          exact ⟨k2, _, by omega, ⟨v34, r40, (IntKind.i64.wrap (v36 + (1 : Int))), by omega, H, rfl⟩, Le.mk [] hm rfl ⟨⟨_, rfl, rfl⟩, ⟨_, rfl, rfl⟩, ⟨_, rfl, rfl⟩, trivial⟩ trivial trivial⟩
      · replace H := condF hc H
        refine WpC.exit ?_
        refine WpC.seq ?_
        refine WpC.regionL ?_
        refine L.move hF rfl rfl rfl ?_
        refine L.assign hF rfl rfl rfl ?_
        refine L.nil ?_
        refine WpC.ret ?_
        cases H
        exact Leaves.ret rfl rfl rfl ⟨rfl, rfl⟩
/-! ### Flaws_toIntS -/
def Flaws_toIntS.l2 : Nat → (List Int) → (List Int) → Int → Option (List Int)
  | 0, _, _, _ => none
  | k2 + 1, v35, v36, v37 => cond (decide (v37 < (v35.length : Int))) ((at? v35 v37).bind fun b40 => (at? v36 v37).bind fun b41 => (Flaws_toIntS.l2 k2) v35 (v36.set v37.toNat b40) (IntKind.i64.wrap (v37 + (1 : Int)))) (some v36)
def Flaws_toIntS (k : Nat) (a0 : List Int) : Option (List Int) := cond (decide (0 ≤ (a0.length : Int) ∧ (a0.length : Int) ≤ (a0.length : Int) ∧ 8 * (a0.length : Int) ≤ 281474976710656 ∧ (a0.length : Int) ≤ 9223372036854775807)) (Flaws_toIntS.l2 k a0 (List.replicate (a0.length : Int).toNat (0 : Int)) (0 : Int)) none
theorem ent54 : Enters Try.prog 54 := ⟨Try.f54, Try.func54, rfl, by decide⟩
set_option maxHeartbeats 8000000 in
set_option maxRecDepth 100000 in
theorem Flaws_toIntS_gives (k : Nat) (g0 : Bool) (a0 : List Int) (r : List Int) (H : Flaws_toIntS k a0 = some r) : Gives Try.prog 54 [V.one (Cell.sl g0 (List.map eI a0))] [] [V.one (Cell.ow 1 (List.map eI r))] [] := by
  refine Gives.intro Try.func54 rfl rfl rfl rfl ?_
  intro F hF hm
  unfold Flaws_toIntS at H
  obtain ⟨K, hK⟩ : ∃ K, k ≤ K := ⟨k, Nat.le_refl k⟩
  refine WpC.seq ?_
  refine WpC.regionL ?_
  refine L.assign hF rfl rfl rfl ?_
  refine L.nil ?_
  refine WpC.seq ?_
  refine WpC.regionL ?_
  refine L.move hF rfl rfl rfl ?_
  refine L.lenR (xs := a0) (e := eI) Try.underlying24 hF rfl rfl rfl rfl ?_
  obtain ⟨h1, H⟩ := condG H
  refine L.makeSlice (e := eI) 1 (0 : Int) Try.underlying24 info3 rfl rfl rfl hF rfl rfl rfl rfl (of_decide_eq_true h1) rfl rfl ?_
  refine L.assign hF rfl rfl rfl ?_
  refine L.nil ?_
  refine WpC.seq ?_
  refine WpC.seq ?_
  refine WpC.regionL ?_
  refine L.assign hF rfl rfl rfl ?_
  refine L.nil ?_
  refine WpC.block ?_
  refine WpC.loopL (P := Try.prog) (fun n σ => ∃ v35 : List Int, ∃ v36 : List Int, ∃ v37 : Int, n ≤ K ∧ Flaws_toIntS.l2 n v35 v36 v37 = some r ∧ σ = mkSt [(0, one (Cell.sl g0 (List.map eI v35))), (3, one (Cell.own 0)), (4, one (cI v37))] [(0, ⟨1, List.map eI v36⟩)] [] 1) k ⟨_, ⟨a0, (List.replicate (a0.length : Int).toNat (0 : Int)), (0 : Int), by omega, H, rfl⟩, Le.mk [(0, 1)] hm rfl ⟨⟨_, rfl, rfl⟩, ⟨_, rfl, rfl⟩, ⟨_, rfl, rfl⟩, trivial⟩ ⟨⟨_, rfl, rfl⟩, trivial⟩ trivial⟩ ?_
  clear H
  rintro k2 _ ⟨v35, v36, v37, hk2, H, rfl⟩
  cases k2 with
  | zero => cases H
  | succ k2 =>
    rw [Flaws_toIntS.l2] at H
    refine WpC.seq ?_
    refine WpC.seq ?_
    refine WpC.regionL ?_
    refine L.move hF rfl rfl rfl ?_
    refine L.move hF rfl rfl rfl ?_
    refine L.lenR (xs := v35) (e := eI) Try.underlying24 hF rfl rfl rfl rfl ?_
    refine L.bin hF rfl rfl rfl rfl rfl rfl ?_
    refine L.nil ?_
    refine WpC.cond rfl (fun hc => ?_) (fun hc => ?_)
    · replace H := condT hc H
      refine WpC.skip ?_
      refine WpC.seq ?_
      refine WpC.block ?_
      refine WpC.regionL ?_
      refine L.move hF rfl rfl rfl ?_
      refine L.move hF rfl rfl rfl ?_
      refine L.move hF rfl rfl rfl ?_
      refine L.move hF rfl rfl rfl ?_
      obtain ⟨b40, hb40, H⟩ := bindS H
      refine L.idxR (xs := v35) (e := eI) Try.underlying24 info3 hF rfl rfl rfl rfl rfl hb40 rfl rfl ?_
      refine L.loadPe shape3 hF rfl rfl rfl rfl rfl ?_
      obtain ⟨b41, hb41, H⟩ := bindS H
      refine L.idxR (xs := v36) (e := eI) Try.underlying24 info3 hF rfl rfl rfl rfl rfl hb41 rfl rfl ?_
      refine L.storeEp (xs := v36) (e := eI) (a' := b40) shape3 hF rfl rfl rfl rfl rfl rfl rfl (at?_get hb41).2 rfl rfl ?_
      refine L.nil ?_
      refine WpC.regionL ?_
      refine L.move hF rfl rfl rfl ?_
      refine L.bin hF rfl rfl rfl rfl rfl rfl ?_
      refine L.assign hF rfl rfl rfl ?_
      refine L.nil ?_
      exact ⟨k2, _, by omega, ⟨v35, (v36.set v37.toNat b40), (IntKind.i64.wrap (v37 + (1 : Int))), by omega, H, rfl⟩, Le.mk [(0, 0)] hm rfl ⟨⟨_, rfl, rfl⟩, ⟨_, rfl, rfl⟩, ⟨_, rfl, rfl⟩, trivial⟩ ⟨⟨_, rfl, rfl⟩, trivial⟩ trivial⟩
    · replace H := condF hc H
      refine WpC.exit ?_
      refine WpC.seq ?_
      refine WpC.regionL ?_
      refine L.move hF rfl rfl rfl ?_
      refine L.assign hF rfl rfl rfl ?_
      refine L.nil ?_
      refine WpC.ret ?_
      cases H
      exact Leaves.ret rfl rfl rfl ⟨rfl, rfl⟩
/-! ### Flaws_toTlv -/
def Flaws_toTlv (k : Nat) (a0 : Tlaws_Tlv) : Option Timpl_Tlv := (Flaws_toIntS k a0.Kids).bind fun r1 => some (⟨a0.Tag, a0.Leaf, a0.Data, r1⟩ : Timpl_Tlv)
theorem ent112 : Enters Try.prog 112 := ⟨Try.f112, Try.func112, rfl, by decide⟩
set_option maxHeartbeats 8000000 in
set_option maxRecDepth 100000 in
theorem Flaws_toTlv_gives (k : Nat) (g0 : Bool) (a0 : Tlaws_Tlv) (r : Timpl_Tlv) (H : Flaws_toTlv k a0 = some r) : Gives Try.prog 112 [V.agg [cI a0.Tag, cL a0.Leaf, cS a0.Data, Cell.sl g0 (List.map eI a0.Kids)]] [] [V.agg [cI r.Tag, cL r.Leaf, cS r.Data, Cell.ow 1 (List.map eI r.Kids)]] [] := by
  refine Gives.intro Try.func112 rfl rfl rfl rfl ?_
  intro F hF hm
  unfold Flaws_toTlv at H
  obtain ⟨K, hK⟩ : ∃ K, k ≤ K := ⟨k, Nat.le_refl k⟩
  refine WpC.seq ?_
  refine WpC.regionL ?_
  refine L.box 4 hF rfl rfl rfl rfl ?_
  refine L.alloc 5 info63 rfl hF rfl rfl rfl rfl ?_
  refine L.nil ?_
  refine WpC.seq ?_
  refine WpC.regionL ?_
  refine L.alloc 6 info63 rfl hF rfl rfl rfl rfl ?_
  refine L.nil ?_
  refine WpC.seq ?_
  refine WpC.regionL ?_
  refine L.fieldAddr Try.underlying152 rfl info3 rfl hF rfl rfl rfl rfl rfl ?_
  refine L.loadPtr shape3 hF rfl rfl rfl rfl rfl rfl ?_
  refine L.fieldAddr Try.underlying63 rfl info3 rfl hF rfl rfl rfl rfl rfl ?_
  refine L.storePtr shape3 hF rfl rfl rfl rfl rfl rfl rfl ?_
  refine L.nil ?_
  refine WpC.seq ?_
  refine WpC.regionL ?_
  refine L.fieldAddr Try.underlying152 rfl info4 rfl hF rfl rfl rfl rfl rfl ?_
  refine L.loadPtr shape4 hF rfl rfl rfl rfl rfl rfl ?_
  refine L.fieldAddr Try.underlying63 rfl info4 rfl hF rfl rfl rfl rfl rfl ?_
  refine L.storePtr shape4 hF rfl rfl rfl rfl rfl rfl rfl ?_
  refine L.nil ?_
  refine WpC.seq ?_
  refine WpC.regionL ?_
  refine L.fieldAddr Try.underlying152 rfl info9 rfl hF rfl rfl rfl rfl rfl ?_
  refine L.loadPtr shape9 hF rfl rfl rfl rfl rfl rfl ?_
  refine L.fieldAddr Try.underlying63 rfl info9 rfl hF rfl rfl rfl rfl rfl ?_
  refine L.storePtr shape9 hF rfl rfl rfl rfl rfl rfl rfl ?_
  refine L.nil ?_
  refine WpC.seq ?_
  refine WpC.regionL ?_
  refine L.fieldAddr Try.underlying152 rfl info24 rfl hF rfl rfl rfl rfl rfl ?_
  refine L.loadPtr shape24 hF rfl rfl rfl rfl rfl rfl ?_
  obtain ⟨r1, hr1, H⟩ := bindS H
  refine L.call [false] [] [] 7 hF rfl rfl rfl ent54 rfl rfl rfl rfl rfl (Flaws_toIntS_gives k g0 a0.Kids r1 hr1) rfl ?_
  refine L.fieldAddr Try.underlying63 rfl info24 rfl hF rfl rfl rfl rfl rfl ?_
  refine L.storePtr shape24 hF rfl rfl rfl rfl rfl rfl rfl ?_
  refine L.nil ?_
  refine WpC.seq ?_
  refine WpC.regionL ?_
  refine L.loadPtr shape63 hF rfl rfl rfl rfl rfl rfl ?_
  refine L.storePtr shape63 hF rfl rfl rfl rfl rfl rfl rfl ?_
  refine L.nil ?_
  refine WpC.ret ?_
  cases H
  exact Leaves.ret rfl rfl rfl ⟨rfl, rfl⟩
/-! ### Flaws_toTlvS -/
def Flaws_toTlvS.l2 : Nat → (List Tlaws_Tlv) → (List Timpl_Tlv) → Int → Option (List Timpl_Tlv)
  | 0, _, _, _ => none
  | k2 + 1, v45, v46, v47 => cond (decide (v47 < (v45.length : Int))) ((at? v45 v47).bind fun b51 => (Flaws_toTlv k2 b51).bind fun r52 => (at? v46 v47).bind fun b53 => (Flaws_toTlvS.l2 k2) v45 (v46.set v47.toNat r52) (IntKind.i64.wrap (v47 + (1 : Int)))) (some v46)
def Flaws_toTlvS (k : Nat) (a0 : List Tlaws_Tlv) : Option (List Timpl_Tlv) := cond (decide (0 ≤ (a0.length : Int) ∧ (a0.length : Int) ≤ (a0.length : Int) ∧ 56 * (a0.length : Int) ≤ 281474976710656 ∧ (a0.length : Int) ≤ 9223372036854775807)) (Flaws_toTlvS.l2 k a0 (List.replicate (a0.length : Int).toNat (⟨(0 : Int), false, ([] : List UInt8), []⟩ : Timpl_Tlv)) (0 : Int)) none
theorem ent38 : Enters Try.prog 38 := ⟨Try.f38, Try.func38, rfl, by decide⟩
set_option maxHeartbeats 8000000 in
set_option maxRecDepth 100000 in
theorem Flaws_toTlvS_gives (k : Nat) (g0 : Bool) (a0 : List Tlaws_Tlv) (r : List Timpl_Tlv) (H : Flaws_toTlvS k a0 = some r) : Gives Try.prog 38 [V.one (Cell.sl g0 (List.map eTlaws_Tlv a0))] [] [V.one (Cell.ow 4 (List.map eTimpl_Tlv r))] [] := by
  refine Gives.intro Try.func38 rfl rfl rfl rfl ?_
  intro F hF hm
  unfold Flaws_toTlvS at H
  obtain ⟨K, hK⟩ : ∃ K, k ≤ K := ⟨k, Nat.le_refl k⟩
  refine WpC.seq ?_
  refine WpC.regionL ?_
  refine L.assign hF rfl rfl rfl ?_
  refine L.nil ?_
  refine WpC.seq ?_
  refine WpC.regionL ?_
  refine L.move hF rfl rfl rfl ?_
  refine L.lenR (xs := a0) (e := eTlaws_Tlv) Try.underlying39 hF rfl rfl rfl rfl ?_
  obtain ⟨h1, H⟩ := condG H
  refine L.makeSliceN (e := eTimpl_Tlv) 1 (⟨(0 : Int), false, ([] : List UInt8), []⟩ : Timpl_Tlv) Try.underlying33 info63 rfl rfl rfl hF rfl rfl rfl rfl (of_decide_eq_true h1) rfl rfl ⟨rfl, rfl⟩ ?_
  refine L.assign hF rfl rfl rfl ?_
  refine L.nil ?_
  refine WpC.seq ?_
  refine WpC.seq ?_
  refine WpC.regionL ?_
  refine L.assign hF rfl rfl rfl ?_
  refine L.nil ?_
  refine WpC.block ?_
  refine WpC.loopL (P := Try.prog) (fun n σ => ∃ v45 : List Tlaws_Tlv, ∃ v46 : List Timpl_Tlv, ∃ v47 : Int, n ≤ K ∧ Flaws_toTlvS.l2 n v45 v46 v47 = some r ∧ σ = mkSt [(0, one (Cell.sl g0 (List.map eTlaws_Tlv v45))), (3, one (Cell.own 0)), (4, one (cI v47))] [(0, ⟨4, List.map eTimpl_Tlv v46⟩)] [] 1) k ⟨_, ⟨a0, (List.replicate (a0.length : Int).toNat (⟨(0 : Int), false, ([] : List UInt8), []⟩ : Timpl_Tlv)), (0 : Int), by omega, H, rfl⟩, Le.mk [(0, 1)] hm rfl ⟨⟨_, rfl, rfl⟩, ⟨_, rfl, rfl⟩, ⟨_, rfl, rfl⟩, trivial⟩ ⟨⟨_, rfl, rfl⟩, trivial⟩ trivial⟩ ?_
  clear H
  rintro k2 _ ⟨v45, v46, v47, hk2, H, rfl⟩
  cases k2 with
  | zero => cases H
  | succ k2 =>
    rw [Flaws_toTlvS.l2] at H
    refine WpC.seq ?_
    refine WpC.seq ?_
    refine WpC.regionL ?_
    refine L.move hF rfl rfl rfl ?_
    refine L.move hF rfl rfl rfl ?_
    refine L.lenR (xs := v45) (e := eTlaws_Tlv) Try.underlying39 hF rfl rfl rfl rfl ?_
    refine L.bin hF rfl rfl rfl rfl rfl rfl ?_
    refine L.nil ?_
    refine WpC.cond rfl (fun hc => ?_) (fun hc => ?_)
    · replace H := condT hc H
      refine WpC.skip ?_
      refine WpC.seq ?_
      refine WpC.block ?_
      refine WpC.regionL ?_
      refine L.move hF rfl rfl rfl ?_
      refine L.move hF rfl rfl rfl ?_
      refine L.move hF rfl rfl rfl ?_
      refine L.move hF rfl rfl rfl ?_
      obtain ⟨b51, hb51, H⟩ := bindS H
      refine L.idxR (xs := v45) (e := eTlaws_Tlv) Try.underlying39 info152 hF rfl rfl rfl rfl rfl hb51 rfl rfl ?_
      refine L.loadPe shape152 hF rfl rfl rfl rfl rfl ?_
      obtain ⟨r52, hr52, H⟩ := bindS H
      refine L.call [false] [] [] 1 hF rfl rfl rfl ent112 rfl rfl rfl rfl rfl (Flaws_toTlv_gives k2 true b51 r52 hr52) rfl ?_
      obtain ⟨b53, hb53, H⟩ := bindS H
      refine L.idxR (xs := v46) (e := eTimpl_Tlv) Try.underlying33 info63 hF rfl rfl rfl rfl rfl hb53 rfl rfl ?_
      refine L.storeEp (xs := v46) (e := eTimpl_Tlv) (a' := r52) shape63 hF rfl rfl rfl rfl rfl rfl rfl (at?_get hb53).2 rfl rfl ?_
      refine L.nil ?_
      refine WpC.regionL ?_
      refine L.move hF rfl rfl rfl ?_
      refine L.bin hF rfl rfl rfl rfl rfl rfl ?_
      refine L.assign hF rfl rfl rfl ?_
      refine L.nil ?_
      exact ⟨k2, _, by omega, ⟨v45, (v46.set v47.toNat r52), (IntKind.i64.wrap (v47 + (1 : Int))), by omega, H, rfl⟩, Le.mk [(0, 0)] hm rfl ⟨⟨_, rfl, rfl⟩, ⟨_, rfl, rfl⟩, ⟨_, rfl, rfl⟩, trivial⟩ ⟨⟨_, rfl, rfl⟩, trivial⟩ trivial⟩
    · replace H := condF hc H
      refine WpC.exit ?_
      refine WpC.seq ?_
      refine WpC.regionL ?_
      refine L.move hF rfl rfl rfl ?_
      refine L.assign hF rfl rfl rfl ?_
      refine L.nil ?_
      refine WpC.ret ?_
      cases H
      exact Leaves.ret rfl rfl rfl ⟨rfl, rfl⟩
/-! ### Fspec_l1In -/
def Fspec_l1In (k : Nat) (a0 : Int) (a1 : Int) (a2 : Int) : Option Bool := cond (decide (a0 ≥ a1)) (some (decide (a0 ≤ a2))) (some false)
theorem ent152 : Enters Try.prog 152 := ⟨Try.f152, Try.func152, rfl, by decide⟩
set_option maxHeartbeats 8000000 in
set_option maxRecDepth 100000 in
theorem Fspec_l1In_gives (k : Nat) (a0 : Int) (a1 : Int) (a2 : Int) (r : Bool) (H : Fspec_l1In k a0 a1 a2 = some r) : Gives Try.prog 152 [V.one (cI a0), V.one (cI a1), V.one (cI a2)] [] [V.one (cL r)] [] := by
  refine Gives.intro Try.func152 rfl rfl rfl rfl ?_
  intro F hF hm
  unfold Fspec_l1In at H
  obtain ⟨K, hK⟩ : ∃ K, k ≤ K := ⟨k, Nat.le_refl k⟩
  refine WpC.seq ?_
  refine WpC.regionL ?_
  refine L.assign hF rfl rfl rfl ?_
  refine L.nil ?_
  refine WpC.seq ?_
  refine WpC.regionL ?_
  refine L.move hF rfl rfl rfl ?_
  refine L.move hF rfl rfl rfl ?_
  refine L.bin hF rfl rfl rfl rfl rfl rfl ?_
  refine L.move hF rfl rfl rfl ?_
  refine L.split (fun hc => ?_) (fun hc => ?_)
  · replace H := condT hc H
    refine L.move hF rfl rfl rfl ?_
    refine L.move hF rfl rfl rfl ?_
    refine L.bin hF rfl rfl rfl rfl rfl rfl ?_
    refine L.pick hF rfl rfl rfl rfl ?_
    refine L.assign hF rfl rfl rfl ?_
    refine L.nil ?_
    refine WpC.ret ?_
    cases H
    exact Leaves.ret rfl rfl rfl ⟨rfl, rfl⟩
  · replace H := condF hc H
    refine L.off hF rfl rfl ?_
    refine L.off hF rfl rfl ?_
    refine L.off hF rfl rfl ?_
    refine L.pick hF rfl rfl rfl rfl ?_
    refine L.assign hF rfl rfl rfl ?_
    refine L.nil ?_
    refine WpC.ret ?_
    cases H
    exact Leaves.ret rfl rfl rfl ⟨rfl, rfl⟩
/-! ### Fspec_l14Tree -/
def Fspec_l14Tree.l26 (cl22 : (List Timpl_Tlv) → (List Int) → Int → Option Bool) : Nat → (List Timpl_Tlv) → (List Int) → Int → Int → Bool → Bool → Bool → Bool → Bool → Bool → Int → (List UInt8) → (List Int) → Option Bool
  | 0, _, _, _, _, _, _, _, _, _, _, _, _, _ => none
  | k26 + 1, v1489, v1490, v1491, v1492, v1493, v1494, v1495, v1496, v1497, v1498, v1499, v1500, v1501 => cond (decide (v1492 < (v1501.length : Int))) ((at? v1501 v1492).bind fun b1520 => cond (decide (b1520 < (0 : Int))) (some false) ((at? v1501 v1492).bind fun b1521 => cond (decide (b1521 ≥ v1491)) (some false) ((at? v1501 v1492).bind fun b1522 => (at? v1501 v1492).bind fun b1523 => (at? v1490 b1523).bind fun b1524 => (at? v1490 b1522).bind fun b1525 => (Fspec_l14Tree.l26 cl22 k26) v1489 (v1490.set b1522.toNat (IntKind.i64.wrap (b1524 + (1 : Int)))) v1491 (IntKind.i64.wrap (v1492 + (1 : Int))) v1493 v1494 v1495 v1496 v1497 v1498 v1499 v1500 v1501))) (cl22 v1489 v1490 (IntKind.i64.wrap (v1491 + (1 : Int))))
def Fspec_l14Tree.j25 (cl22 : (List Timpl_Tlv) → (List Int) → Int → Option Bool) (k : Nat) (v1404 : List Timpl_Tlv) (v1405 : List Int) (v1406 : Int) (v1407 : Bool) (v1408 : Bool) (v1409 : Bool) (v1410 : Bool) (v1411 : Bool) (v1412 : Bool) (v1413 : Int) (v1414 : List UInt8) (v1415 : List Int) : Option Bool := Fspec_l14Tree.l26 cl22 k v1404 v1405 v1406 (0 : Int) v1407 v1408 v1409 v1410 v1411 v1412 v1413 v1414 v1415
def Fspec_l14Tree.l28 : Nat → (List Int) → Int → Option Bool
  | 0, _, _ => none
  | k28 + 1, v1546, v1547 => cond (decide (v1547 < (IntKind.i64.wrap ((v1546.length : Int) - (1 : Int))))) ((at? v1546 v1547).bind fun b1549 => cond (b1549 != (1 : Int)) (some false) ((Fspec_l14Tree.l28 k28) v1546 (IntKind.i64.wrap (v1547 + (1 : Int))))) (some true)
def Fspec_l14Tree.l22 : Nat → (List Timpl_Tlv) → (List Int) → Int → Option Bool
  | 0, _, _, _ => none
  | k22 + 1, v1271, v1272, v1273 => cond (decide (v1273 < (v1271.length : Int))) ((at? v1271 v1273).bind fun b1401 => (Fspec_l1In k22 b1401.Tag (1 : Int) (100 : Int)).bind fun r1527 => cond (!r1527) (some false) (cond b1401.Leaf (cond (decide ((b1401.Kids.length : Int) > (0 : Int))) (some false) (cond (!b1401.Leaf) (cond (b1401.Data != ([] : List UInt8)) (some false) (Fspec_l14Tree.j25 (Fspec_l14Tree.l22 k22) k22 v1271 v1272 v1273 b1401.Leaf true (decide ((b1401.Kids.length : Int) > (0 : Int))) (!b1401.Leaf) true (b1401.Data != ([] : List UInt8)) b1401.Tag b1401.Data b1401.Kids)) (Fspec_l14Tree.j25 (Fspec_l14Tree.l22 k22) k22 v1271 v1272 v1273 b1401.Leaf true (decide ((b1401.Kids.length : Int) > (0 : Int))) (!b1401.Leaf) false false b1401.Tag b1401.Data b1401.Kids))) (cond (!b1401.Leaf) (cond (b1401.Data != ([] : List UInt8)) (some false) (Fspec_l14Tree.j25 (Fspec_l14Tree.l22 k22) k22 v1271 v1272 v1273 b1401.Leaf false false (!b1401.Leaf) true (b1401.Data != ([] : List UInt8)) b1401.Tag b1401.Data b1401.Kids)) (Fspec_l14Tree.j25 (Fspec_l14Tree.l22 k22) k22 v1271 v1272 v1273 b1401.Leaf false false (!b1401.Leaf) false false b1401.Tag b1401.Data b1401.Kids)))) (Fspec_l14Tree.l28 k22 v1272 (0 : Int))
def Fspec_l14Tree (k : Nat) (a0 : List Timpl_Tlv) : Option Bool := (Fspec_l1In k (a0.length : Int) (1 : Int) (60 : Int)).bind fun r2 => cond (!r2) (some false) (cond (decide (0 ≤ (a0.length : Int) ∧ (a0.length : Int) ≤ (a0.length : Int) ∧ 8 * (a0.length : Int) ≤ 281474976710656 ∧ (a0.length : Int) ≤ 9223372036854775807)) (Fspec_l14Tree.l22 k a0 (List.replicate (a0.length : Int).toNat (0 : Int)) (0 : Int)) none)
theorem ent109 : Enters Try.prog 109 := ⟨Try.f109, Try.func109, rfl, by decide⟩
set_option maxHeartbeats 8000000 in
set_option maxRecDepth 100000 in
theorem Fspec_l14Tree_gives (k : Nat) (g0 : Bool) (a0 : List Timpl_Tlv) (r : Bool) (H : Fspec_l14Tree k a0 = some r) : Gives Try.prog 109 [V.one (Cell.sl g0 (List.map eTimpl_Tlv a0))] [] [V.one (cL r)] [] := by
  refine Gives.intro Try.func109 rfl rfl rfl rfl ?_
  intro F hF hm
  unfold Fspec_l14Tree at H
  obtain ⟨K, hK⟩ : ∃ K, k ≤ K := ⟨k, Nat.le_refl k⟩
  refine WpC.seq ?_
  refine WpC.regionL ?_
  refine L.assign hF rfl rfl rfl ?_
  refine L.nil ?_
  refine WpC.seq ?_
  refine WpC.seq ?_
  refine WpC.regionL ?_
  refine L.move hF rfl rfl rfl ?_
  refine L.lenR (xs := a0) (e := eTimpl_Tlv) Try.underlying33 hF rfl rfl rfl rfl ?_
  obtain ⟨r2, hr2, H⟩ := bindS H
  refine L.call [false, false, false] [] [] 1 hF rfl rfl rfl ent152 rfl rfl rfl rfl rfl (Fspec_l1In_gives k  (a0.length : Int) (1 : Int) (60 : Int) r2 hr2) rfl ?_
  refine L.not hF rfl rfl rfl ?_
  refine L.nil ?_
  refine WpC.cond rfl (fun hc => ?_) (fun hc => ?_)
  · replace H := condT hc H
    refine WpC.seq ?_
    refine WpC.regionL ?_
    refine L.assign hF rfl rfl rfl ?_
    refine L.nil ?_
    refine WpC.ret ?_
    cases H
    exact Leaves.ret rfl rfl rfl ⟨rfl, rfl⟩
  · replace H := condF hc H
    refine WpC.skip ?_
    refine WpC.seq ?_
    refine WpC.regionL ?_
    refine L.move hF rfl rfl rfl ?_
    refine L.lenR (xs := a0) (e := eTimpl_Tlv) Try.underlying33 hF rfl rfl rfl rfl ?_
    obtain ⟨h3, H⟩ := condG H
    refine L.makeSlice (e := eI) 2 (0 : Int) Try.underlying24 info3 rfl rfl rfl hF rfl rfl rfl rfl (of_decide_eq_true h3) rfl rfl ?_
    refine L.assign hF rfl rfl rfl ?_
    refine L.nil ?_
    refine WpC.seq ?_
    refine WpC.seq ?_
    refine WpC.regionL ?_
    refine L.assign hF rfl rfl rfl ?_
    refine L.nil ?_
    refine WpC.block ?_
    refine WpC.loopL (P := Try.prog) (fun n σ => ∃ v1271 : List Timpl_Tlv, ∃ v1272 : List Int, ∃ v1273 : Int, n ≤ K ∧ Fspec_l14Tree.l22 n v1271 v1272 v1273 = some r ∧ σ = mkSt [(0, one (Cell.sl g0 (List.map eTimpl_Tlv v1271))), (3, one (Cell.own 0)), (4, one (cI v1273))] [(0, ⟨1, List.map eI v1272⟩)] [] 1) k ⟨_, ⟨a0, (List.replicate (a0.length : Int).toNat (0 : Int)), (0 : Int), by omega, H, rfl⟩, Le.mk [(0, 2)] hm rfl ⟨⟨_, rfl, rfl⟩, ⟨_, rfl, rfl⟩, ⟨_, rfl, rfl⟩, trivial⟩ ⟨⟨_, rfl, rfl⟩, trivial⟩ trivial⟩ ?_
    clear H
    rintro k22 _ ⟨v1271, v1272, v1273, hk22, H, rfl⟩
    cases k22 with
    | zero => cases H
    | succ k22 =>
      rw [Fspec_l14Tree.l22] at H
      refine WpC.seq ?_
      refine WpC.seq ?_
      refine WpC.regionL ?_
      refine L.move hF rfl rfl rfl ?_
      refine L.move hF rfl rfl rfl ?_
      refine L.lenR (xs := v1271) (e := eTimpl_Tlv) Try.underlying33 hF rfl rfl rfl rfl ?_
      refine L.bin hF rfl rfl rfl rfl rfl rfl ?_
      refine L.nil ?_
      refine WpC.cond rfl (fun hc => ?_) (fun hc => ?_)
      · replace H := condT hc H
        refine WpC.skip ?_
        refine WpC.seq ?_
        refine WpC.block ?_
        refine WpC.seq ?_
        refine WpC.regionL ?_
        refine L.move hF rfl rfl rfl ?_
        refine L.move hF rfl rfl rfl ?_
        obtain ⟨b1401, hb1401, H⟩ := bindS H
        refine L.idxR (xs := v1271) (e := eTimpl_Tlv) Try.underlying33 info63 hF rfl rfl rfl rfl rfl hb1401 rfl rfl ?_
        refine L.loadPe shape63 hF rfl rfl rfl rfl rfl ?_
        refine L.alloc 1 info63 rfl hF rfl rfl rfl rfl ?_
        refine L.storePtr shape63 hF rfl rfl rfl rfl rfl rfl rfl ?_
        refine L.nil ?_
        refine WpC.join (fun σ => ∃ kj25 : Nat, ∃ v1404 : List Timpl_Tlv, ∃ v1405 : List Int, ∃ v1406 : Int, ∃ v1407 : Bool, ∃ v1408 : Bool, ∃ v1409 : Bool, ∃ v1410 : Bool, ∃ v1411 : Bool, ∃ v1412 : Bool, ∃ v1413 : Int, ∃ v1414 : List UInt8, ∃ v1415 : List Int, kj25 ≤ K ∧ Fspec_l14Tree.j25 (Fspec_l14Tree.l22 k22) kj25 v1404 v1405 v1406 v1407 v1408 v1409 v1410 v1411 v1412 v1413 v1414 v1415 = some r ∧ σ = mkSt [(0, one (Cell.sl g0 (List.map eTimpl_Tlv v1404))), (3, one (Cell.own 0)), (4, one (cI v1406)), (5, one (Cell.ptr 1 0)), (30, one (Cell.ptr 1 1)), (31, one (cL v1407)), (32, one (cL v1408)), (37, one (cL v1409)), (40, one (Cell.ptr 1 1)), (41, one (cL v1407)), (42, one (cL v1410)), (43, one (cL v1411)), (47, one (cL v1412))] [(0, ⟨1, List.map eI v1405⟩)] [(1, [cI v1413, cL v1407, cS v1414, Cell.sl true (List.map eI v1415)])] 2) ?_ ?_
        · rintro _ ⟨kj25, v1404, v1405, v1406, v1407, v1408, v1409, v1410, v1411, v1412, v1413, v1414, v1415, hkj25, H, rfl⟩
          unfold Fspec_l14Tree.j25 at H
          refine WpC.seq ?_
          refine WpC.regionL ?_
          refine L.assign hF rfl rfl rfl ?_
          refine L.nil ?_
          refine WpC.block ?_
          refine WpC.loopL (P := Try.prog) (fun n σ => ∃ v1489 : List Timpl_Tlv, ∃ v1490 : List Int, ∃ v1491 : Int, ∃ v1492 : Int, ∃ v1493 : Bool, ∃ v1494 : Bool, ∃ v1495 : Bool, ∃ v1496 : Bool, ∃ v1497 : Bool, ∃ v1498 : Bool, ∃ v1499 : Int, ∃ v1500 : List UInt8, ∃ v1501 : List Int, n ≤ K ∧ Fspec_l14Tree.l26 (Fspec_l14Tree.l22 k22) n v1489 v1490 v1491 v1492 v1493 v1494 v1495 v1496 v1497 v1498 v1499 v1500 v1501 = some r ∧ σ = mkSt [(0, one (Cell.sl g0 (List.map eTimpl_Tlv v1489))), (3, one (Cell.own 0)), (4, one (cI v1491)), (5, one (Cell.ptr 1 0)), (6, one (cI v1492)), (30, one (Cell.ptr 1 1)), (31, one (cL v1493)), (32, one (cL v1494)), (37, one (cL v1495)), (40, one (Cell.ptr 1 1)), (41, one (cL v1493)), (42, one (cL v1496)), (43, one (cL v1497)), (47, one (cL v1498))] [(0, ⟨1, List.map eI v1490⟩)] [(1, [cI v1499, cL v1493, cS v1500, Cell.sl true (List.map eI v1501)])] 2) kj25 ⟨_, ⟨v1404, v1405, v1406, (0 : Int), v1407, v1408, v1409, v1410, v1411, v1412, v1413, v1414, v1415, by omega, H, rfl⟩, Le.mk [(0, 0), (1, 1)] hm rfl ⟨⟨_, rfl, rfl⟩, ⟨_, rfl, rfl⟩, ⟨_, rfl, rfl⟩, ⟨_, rfl, rfl⟩, ⟨_, rfl, rfl⟩, ⟨_, rfl, rfl⟩, ⟨_, rfl, rfl⟩, ⟨_, rfl, rfl⟩, ⟨_, rfl, rfl⟩, ⟨_, rfl, rfl⟩, ⟨_, rfl, rfl⟩, ⟨_, rfl, rfl⟩, ⟨_, rfl, rfl⟩, ⟨_, rfl, rfl⟩, trivial⟩ ⟨⟨_, rfl, rfl⟩, trivial⟩ ⟨⟨_, _, rfl, rfl, rfl⟩, trivial⟩⟩ ?_
          clear H
          rintro k26 _ ⟨v1489, v1490, v1491, v1492, v1493, v1494, v1495, v1496, v1497, v1498, v1499, v1500, v1501, hk26, H, rfl⟩
          cases k26 with
          | zero => cases H
          | succ k26 =>
            rw [Fspec_l14Tree.l26] at H
            refine WpC.seq ?_
            refine WpC.seq ?_
            refine WpC.regionL ?_
            refine L.move hF rfl rfl rfl ?_
            refine L.fieldAddr Try.underlying63 rfl info24 rfl hF rfl rfl rfl rfl rfl ?_
            refine L.loadPtr shape24 hF rfl rfl rfl rfl rfl rfl ?_
            refine L.lenR (xs := v1501) (e := eI) Try.underlying24 hF rfl rfl rfl rfl ?_
            refine L.bin hF rfl rfl rfl rfl rfl rfl ?_
            refine L.nil ?_
            refine WpC.cond rfl (fun hc => ?_) (fun hc => ?_)
            · replace H := condT hc H
              refine WpC.skip ?_
              refine WpC.seq ?_
              refine WpC.block ?_
              refine WpC.seq ?_
              refine WpC.seq ?_
              refine WpC.regionL ?_
              refine L.fieldAddr Try.underlying63 rfl info24 rfl hF rfl rfl rfl rfl rfl ?_
              refine L.loadPtr shape24 hF rfl rfl rfl rfl rfl rfl ?_
              refine L.move hF rfl rfl rfl ?_
              obtain ⟨b1520, hb1520, H⟩ := bindS H
              refine L.idxR (xs := v1501) (e := eI) Try.underlying24 info3 hF rfl rfl rfl rfl rfl hb1520 rfl rfl ?_
              refine L.loadPe shape3 hF rfl rfl rfl rfl rfl ?_
              refine L.bin hF rfl rfl rfl rfl rfl rfl ?_
              refine L.move hF rfl rfl rfl ?_
              refine L.split (fun hc => ?_) (fun hc => ?_)
              · replace H := condT hc H
                refine L.off hF rfl rfl ?_
                refine L.off hF rfl rfl ?_
                refine L.off hF rfl rfl ?_
                refine L.off hF rfl rfl ?_
                refine L.off hF rfl rfl ?_
                refine L.off hF rfl rfl ?_
                refine L.off hF rfl rfl ?_
                refine L.pick hF rfl rfl rfl rfl ?_
                refine L.nil ?_
                refine WpC.cond rfl (fun _ => ?_) (fun hc => by cases hc)
                refine WpC.seq ?_
                refine WpC.regionL ?_
                refine L.assign hF rfl rfl rfl ?_
                refine L.nil ?_
                refine WpC.ret ?_
                cases H
                exact Leaves.ret rfl rfl rfl ⟨rfl, rfl⟩
              · replace H := condF hc H
                refine L.fieldAddr Try.underlying63 rfl info24 rfl hF rfl rfl rfl rfl rfl ?_
                refine L.loadPtr shape24 hF rfl rfl rfl rfl rfl rfl ?_
                refine L.move hF rfl rfl rfl ?_
                obtain ⟨b1521, hb1521, H⟩ := bindS H
                refine L.idxR (xs := v1501) (e := eI) Try.underlying24 info3 hF rfl rfl rfl rfl rfl hb1521 rfl rfl ?_
                refine L.loadPe shape3 hF rfl rfl rfl rfl rfl ?_
                refine L.move hF rfl rfl rfl ?_
                refine L.bin hF rfl rfl rfl rfl rfl rfl ?_
                refine L.pick hF rfl rfl rfl rfl ?_
                refine L.nil ?_
                refine WpC.cond rfl (fun hc => ?_) (fun hc => ?_)
                · replace H := condT hc H
                  refine WpC.seq ?_
                  refine WpC.regionL ?_
                  refine L.assign hF rfl rfl rfl ?_
                  refine L.nil ?_
                  refine WpC.ret ?_
                  cases H
                  exact Leaves.ret rfl rfl rfl ⟨rfl, rfl⟩
                · replace H := condF hc H
                  refine WpC.skip ?_
                  obtain ⟨b1522, hb1522, H⟩ := bindS H
                  obtain ⟨b1523, hb1523, H⟩ := bindS H
                  obtain ⟨b1524, hb1524, H⟩ := bindS H
                  obtain ⟨b1525, hb1525, H⟩ := bindS H
                  refine A.begin mixed rfl rfl ?_
                  intro W hI hO
                  have n131071 : W 0 #[true, true, true, true, true, true, true, true, true, true, true, true, true, true, true, true, true] (mkSt [(0, one (Cell.sl g0 (List.map eTimpl_Tlv v1489))), (3, one (Cell.own 0)), (4, one (cI v1491)), (5, one (Cell.ptr 1 0)), (6, one (cI v1492)), (30, one (Cell.ptr 1 1)), (31, one (cL v1493)), (32, one (cL v1494)), (37, one (cL v1495)), (40, one (Cell.ptr 1 1)), (41, one (cL v1493)), (42, one (cL v1496)), (43, one (cL v1497)), (47, one (cL v1498)), (63, one (Cell.ptr 1 3)), (64, one (Cell.sl true (List.map eI v1501))), (65, one (cI v1492)), (66, one (Cell.pe true (eI b1521) 0)), (67, one (cI b1521)), (68, one (cI v1491)), (69, one (cL (decide (b1521 ≥ v1491))))] [(0, ⟨1, List.map eI (v1490.set b1522.toNat (IntKind.i64.wrap (b1524 + (1 : Int))))⟩)] [(1, [cI v1499, cL v1493, cS v1500, Cell.sl true (List.map eI v1501)])] 2) := by
                    refine hI _ _ _ (A.done (by kernel_rfl) ?_)
                    refine WpC.regionL ?_
                    refine L.move hF rfl rfl rfl ?_
                    refine L.bin hF rfl rfl rfl rfl rfl rfl ?_
                    refine L.assign hF rfl rfl rfl ?_
                    refine L.nil ?_
                    exact ⟨k26, _, by omega, ⟨v1489, (v1490.set b1522.toNat (IntKind.i64.wrap (b1524 + (1 : Int)))), v1491, (IntKind.i64.wrap (v1492 + (1 : Int))), v1493, v1494, v1495, v1496, v1497, v1498, v1499, v1500, v1501, by omega, H, rfl⟩, Le.mk [(0, 0), (1, 1)] hm rfl ⟨⟨_, rfl, rfl⟩, ⟨_, rfl, rfl⟩, ⟨_, rfl, rfl⟩, ⟨_, rfl, rfl⟩, ⟨_, rfl, rfl⟩, ⟨_, rfl, rfl⟩, ⟨_, rfl, rfl⟩, ⟨_, rfl, rfl⟩, ⟨_, rfl, rfl⟩, ⟨_, rfl, rfl⟩, ⟨_, rfl, rfl⟩, ⟨_, rfl, rfl⟩, ⟨_, rfl, rfl⟩, ⟨_, rfl, rfl⟩, trivial⟩ ⟨⟨_, rfl, rfl⟩, trivial⟩ ⟨⟨_, _, rfl, rfl, rfl⟩, trivial⟩⟩
                  have n65535 : W 1 #[true, true, true, true, true, true, true, true, true, true, true, true, true, true, true, true, false] (mkSt [(0, one (Cell.sl g0 (List.map eTimpl_Tlv v1489))), (3, one (Cell.own 0)), (4, one (cI v1491)), (5, one (Cell.ptr 1 0)), (6, one (cI v1492)), (30, one (Cell.ptr 1 1)), (31, one (cL v1493)), (32, one (cL v1494)), (37, one (cL v1495)), (40, one (Cell.ptr 1 1)), (41, one (cL v1493)), (42, one (cL v1496)), (43, one (cL v1497)), (47, one (cL v1498)), (63, one (Cell.ptr 1 3)), (64, one (Cell.sl true (List.map eI v1501))), (65, one (cI v1492)), (66, one (Cell.pe true (eI b1521) 0)), (67, one (cI b1521)), (68, one (cI v1491)), (69, one (cL (decide (b1521 ≥ v1491)))), (85, one (cI (IntKind.i64.wrap (b1524 + (1 : Int))))), (86, one (Cell.ep 0 b1522.toNat 0))] [(0, ⟨1, List.map eI v1490⟩)] [(1, [cI v1499, cL v1493, cS v1500, Cell.sl true (List.map eI v1501)])] 2) := by
                    refine hI _ _ _ ?_
                    refine A.all [16] (by kernel_rfl) rfl ⟨⟨_, rfl, ?_⟩, trivial⟩
                    · refine L.storeEp (xs := v1490) (e := eI) (a' := (IntKind.i64.wrap (b1524 + (1 : Int)))) shape3 hF rfl rfl rfl rfl rfl rfl rfl (at?_get hb1525).2 rfl rfl ?_
                      refine L.nil ?_
                      exact A.on (hO _ _ _ n131071) (Le.mk [(0, 0), (1, 1)] hm rfl ⟨⟨_, rfl, rfl⟩, ⟨_, rfl, rfl⟩, ⟨_, rfl, rfl⟩, ⟨_, rfl, rfl⟩, ⟨_, rfl, rfl⟩, ⟨_, rfl, rfl⟩, ⟨_, rfl, rfl⟩, ⟨_, rfl, rfl⟩, ⟨_, rfl, rfl⟩, ⟨_, rfl, rfl⟩, ⟨_, rfl, rfl⟩, ⟨_, rfl, rfl⟩, ⟨_, rfl, rfl⟩, ⟨_, rfl, rfl⟩, ⟨_, rfl, rfl⟩, ⟨_, rfl, rfl⟩, ⟨_, rfl, rfl⟩, ⟨_, rfl, rfl⟩, ⟨_, rfl, rfl⟩, ⟨_, rfl, rfl⟩, ⟨_, rfl, rfl⟩, trivial⟩ ⟨⟨_, rfl, rfl⟩, trivial⟩ ⟨⟨_, _, rfl, rfl, rfl⟩, trivial⟩)
                  have n32767 : W 2 #[true, true, true, true, true, true, true, true, true, true, true, true, true, true, true, false, false] (mkSt [(0, one (Cell.sl g0 (List.map eTimpl_Tlv v1489))), (3, one (Cell.own 0)), (4, one (cI v1491)), (5, one (Cell.ptr 1 0)), (6, one (cI v1492)), (30, one (Cell.ptr 1 1)), (31, one (cL v1493)), (32, one (cL v1494)), (37, one (cL v1495)), (40, one (Cell.ptr 1 1)), (41, one (cL v1493)), (42, one (cL v1496)), (43, one (cL v1497)), (47, one (cL v1498)), (63, one (Cell.ptr 1 3)), (64, one (Cell.sl true (List.map eI v1501))), (65, one (cI v1492)), (66, one (Cell.pe true (eI b1521) 0)), (67, one (cI b1521)), (68, one (cI v1491)), (69, one (cL (decide (b1521 ≥ v1491)))), (71, one (Cell.own 0)), (76, one (cI b1522)), (85, one (cI (IntKind.i64.wrap (b1524 + (1 : Int)))))] [(0, ⟨1, List.map eI v1490⟩)] [(1, [cI v1499, cL v1493, cS v1500, Cell.sl true (List.map eI v1501)])] 2) := by
                    refine hI _ _ _ ?_
                    refine A.take 15 rfl (by kernel_rfl) (by kernel_rfl) (by kernel_rfl) rfl (Ca.indexAddr) (fun Q0 k0 => L.idxR (xs := v1490) (e := eI) Try.underlying24 info3 hF rfl rfl rfl rfl rfl hb1525 rfl rfl (L.nil k0)) ?_
                    exact A.on (hO _ _ _ n65535) (Le.mk [(0, 0), (1, 1)] hm rfl ⟨⟨_, rfl, rfl⟩, ⟨_, rfl, rfl⟩, ⟨_, rfl, rfl⟩, ⟨_, rfl, rfl⟩, ⟨_, rfl, rfl⟩, ⟨_, rfl, rfl⟩, ⟨_, rfl, rfl⟩, ⟨_, rfl, rfl⟩, ⟨_, rfl, rfl⟩, ⟨_, rfl, rfl⟩, ⟨_, rfl, rfl⟩, ⟨_, rfl, rfl⟩, ⟨_, rfl, rfl⟩, ⟨_, rfl, rfl⟩, ⟨_, rfl, rfl⟩, ⟨_, rfl, rfl⟩, ⟨_, rfl, rfl⟩, ⟨_, rfl, rfl⟩, ⟨_, rfl, rfl⟩, ⟨_, rfl, rfl⟩, ⟨_, rfl, rfl⟩, ⟨_, rfl, rfl⟩, ⟨_, rfl, rfl⟩, trivial⟩ ⟨⟨_, rfl, rfl⟩, trivial⟩ ⟨⟨_, _, rfl, rfl, rfl⟩, trivial⟩)
                  have n16383 : W 3 #[true, true, true, true, true, true, true, true, true, true, true, true, true, true, false, false, false] (mkSt [(0, one (Cell.sl g0 (List.map eTimpl_Tlv v1489))), (3, one (Cell.own 0)), (4, one (cI v1491)), (5, one (Cell.ptr 1 0)), (6, one (cI v1492)), (30, one (Cell.ptr 1 1)), (31, one (cL v1493)), (32, one (cL v1494)), (37, one (cL v1495)), (40, one (Cell.ptr 1 1)), (41, one (cL v1493)), (42, one (cL v1496)), (43, one (cL v1497)), (47, one (cL v1498)), (63, one (Cell.ptr 1 3)), (64, one (Cell.sl true (List.map eI v1501))), (65, one (cI v1492)), (66, one (Cell.pe true (eI b1521) 0)), (67, one (cI b1521)), (68, one (cI v1491)), (69, one (cL (decide (b1521 ≥ v1491)))), (71, one (Cell.own 0)), (76, one (cI b1522)), (84, one (cI b1524))] [(0, ⟨1, List.map eI v1490⟩)] [(1, [cI v1499, cL v1493, cS v1500, Cell.sl true (List.map eI v1501)])] 2) := by
                    refine hI _ _ _ ?_
                    refine A.take 14 rfl (by kernel_rfl) (by kernel_rfl) (by kernel_rfl) rfl (Ca.bin rfl rfl (calm_int _ _ _ _ _ _ _ _)) (fun Q0 k0 => L.bin hF rfl rfl rfl rfl rfl rfl (L.nil k0)) ?_
                    exact A.on (hO _ _ _ n32767) (Le.mk [(0, 0), (1, 1)] hm rfl ⟨⟨_, rfl, rfl⟩, ⟨_, rfl, rfl⟩, ⟨_, rfl, rfl⟩, ⟨_, rfl, rfl⟩, ⟨_, rfl, rfl⟩, ⟨_, rfl, rfl⟩, ⟨_, rfl, rfl⟩, ⟨_, rfl, rfl⟩, ⟨_, rfl, rfl⟩, ⟨_, rfl, rfl⟩, ⟨_, rfl, rfl⟩, ⟨_, rfl, rfl⟩, ⟨_, rfl, rfl⟩, ⟨_, rfl, rfl⟩, ⟨_, rfl, rfl⟩, ⟨_, rfl, rfl⟩, ⟨_, rfl, rfl⟩, ⟨_, rfl, rfl⟩, ⟨_, rfl, rfl⟩, ⟨_, rfl, rfl⟩, ⟨_, rfl, rfl⟩, ⟨_, rfl, rfl⟩, ⟨_, rfl, rfl⟩, ⟨_, rfl, rfl⟩, trivial⟩ ⟨⟨_, rfl, rfl⟩, trivial⟩ ⟨⟨_, _, rfl, rfl, rfl⟩, trivial⟩)
                  have n32735 : W 3 #[true, true, true, true, true, false, true, true, true, true, true, true, true, true, true, false, false] (mkSt [(0, one (Cell.sl g0 (List.map eTimpl_Tlv v1489))), (3, one (Cell.own 0)), (4, one (cI v1491)), (5, one (Cell.ptr 1 0)), (6, one (cI v1492)), (30, one (Cell.ptr 1 1)), (31, one (cL v1493)), (32, one (cL v1494)), (37, one (cL v1495)), (40, one (Cell.ptr 1 1)), (41, one (cL v1493)), (42, one (cL v1496)), (43, one (cL v1497)), (47, one (cL v1498)), (63, one (Cell.ptr 1 3)), (64, one (Cell.sl true (List.map eI v1501))), (65, one (cI v1492)), (66, one (Cell.pe true (eI b1521) 0)), (67, one (cI b1521)), (68, one (cI v1491)), (69, one (cL (decide (b1521 ≥ v1491)))), (71, one (Cell.own 0)), (75, one (Cell.pe true (eI b1522) 0)), (85, one (cI (IntKind.i64.wrap (b1524 + (1 : Int)))))] [(0, ⟨1, List.map eI v1490⟩)] [(1, [cI v1499, cL v1493, cS v1500, Cell.sl true (List.map eI v1501)])] 2) := by
                    refine hI _ _ _ ?_
                    refine A.all [5] (by kernel_rfl) rfl ⟨⟨_, rfl, ?_⟩, trivial⟩
                    · refine L.loadPe shape3 hF rfl rfl rfl rfl rfl ?_
                      refine L.nil ?_
                      exact A.on (hO _ _ _ n32767) (Le.mk [(0, 0), (1, 1)] hm rfl ⟨⟨_, rfl, rfl⟩, ⟨_, rfl, rfl⟩, ⟨_, rfl, rfl⟩, ⟨_, rfl, rfl⟩, ⟨_, rfl, rfl⟩, ⟨_, rfl, rfl⟩, ⟨_, rfl, rfl⟩, ⟨_, rfl, rfl⟩, ⟨_, rfl, rfl⟩, ⟨_, rfl, rfl⟩, ⟨_, rfl, rfl⟩, ⟨_, rfl, rfl⟩, ⟨_, rfl, rfl⟩, ⟨_, rfl, rfl⟩, ⟨_, rfl, rfl⟩, ⟨_, rfl, rfl⟩, ⟨_, rfl, rfl⟩, ⟨_, rfl, rfl⟩, ⟨_, rfl, rfl⟩, ⟨_, rfl, rfl⟩, ⟨_, rfl, rfl⟩, ⟨_, rfl, rfl⟩, ⟨_, rfl, rfl⟩, ⟨_, rfl, rfl⟩, trivial⟩ ⟨⟨_, rfl, rfl⟩, trivial⟩ ⟨⟨_, _, rfl, rfl, rfl⟩, trivial⟩)
                  have n32719 : W 4 #[true, true, true, true, false, false, true, true, true, true, true, true, true, true, true, false, false] (mkSt [(0, one (Cell.sl g0 (List.map eTimpl_Tlv v1489))), (3, one (Cell.own 0)), (4, one (cI v1491)), (5, one (Cell.ptr 1 0)), (6, one (cI v1492)), (30, one (Cell.ptr 1 1)), (31, one (cL v1493)), (32, one (cL v1494)), (37, one (cL v1495)), (40, one (Cell.ptr 1 1)), (41, one (cL v1493)), (42, one (cL v1496)), (43, one (cL v1497)), (47, one (cL v1498)), (63, one (Cell.ptr 1 3)), (64, one (Cell.sl true (List.map eI v1501))), (65, one (cI v1492)), (66, one (Cell.pe true (eI b1521) 0)), (67, one (cI b1521)), (68, one (cI v1491)), (69, one (cL (decide (b1521 ≥ v1491)))), (71, one (Cell.own 0)), (73, one (Cell.sl true (List.map eI v1501))), (74, one (cI v1492)), (85, one (cI (IntKind.i64.wrap (b1524 + (1 : Int)))))] [(0, ⟨1, List.map eI v1490⟩)] [(1, [cI v1499, cL v1493, cS v1500, Cell.sl true (List.map eI v1501)])] 2) := by
                    refine hI _ _ _ ?_
                    refine A.take 4 rfl (by kernel_rfl) (by kernel_rfl) (by kernel_rfl) rfl (Ca.indexAddr) (fun Q0 k0 => L.idxR (xs := v1501) (e := eI) Try.underlying24 info3 hF rfl rfl rfl rfl rfl hb1522 rfl rfl (L.nil k0)) ?_
                    exact A.on (hO _ _ _ n32735) (Le.mk [(0, 0), (1, 1)] hm rfl ⟨⟨_, rfl, rfl⟩, ⟨_, rfl, rfl⟩, ⟨_, rfl, rfl⟩, ⟨_, rfl, rfl⟩, ⟨_, rfl, rfl⟩, ⟨_, rfl, rfl⟩, ⟨_, rfl, rfl⟩, ⟨_, rfl, rfl⟩, ⟨_, rfl, rfl⟩, ⟨_, rfl, rfl⟩, ⟨_, rfl, rfl⟩, ⟨_, rfl, rfl⟩, ⟨_, rfl, rfl⟩, ⟨_, rfl, rfl⟩, ⟨_, rfl, rfl⟩, ⟨_, rfl, rfl⟩, ⟨_, rfl, rfl⟩, ⟨_, rfl, rfl⟩, ⟨_, rfl, rfl⟩, ⟨_, rfl, rfl⟩, ⟨_, rfl, rfl⟩, ⟨_, rfl, rfl⟩, ⟨_, rfl, rfl⟩, ⟨_, rfl, rfl⟩, trivial⟩ ⟨⟨_, rfl, rfl⟩, trivial⟩ ⟨⟨_, _, rfl, rfl, rfl⟩, trivial⟩)
                  have n16351 : W 4 #[true, true, true, true, true, false, true, true, true, true, true, true, true, true, false, false, false] (mkSt [(0, one (Cell.sl g0 (List.map eTimpl_Tlv v1489))), (3, one (Cell.own 0)), (4, one (cI v1491)), (5, one (Cell.ptr 1 0)), (6, one (cI v1492)), (30, one (Cell.ptr 1 1)), (31, one (cL v1493)), (32, one (cL v1494)), (37, one (cL v1495)), (40, one (Cell.ptr 1 1)), (41, one (cL v1493)), (42, one (cL v1496)), (43, one (cL v1497)), (47, one (cL v1498)), (63, one (Cell.ptr 1 3)), (64, one (Cell.sl true (List.map eI v1501))), (65, one (cI v1492)), (66, one (Cell.pe true (eI b1521) 0)), (67, one (cI b1521)), (68, one (cI v1491)), (69, one (cL (decide (b1521 ≥ v1491)))), (71, one (Cell.own 0)), (75, one (Cell.pe true (eI b1522) 0)), (84, one (cI b1524))] [(0, ⟨1, List.map eI v1490⟩)] [(1, [cI v1499, cL v1493, cS v1500, Cell.sl true (List.map eI v1501)])] 2) := by
                    refine hI _ _ _ ?_
                    refine A.take 14 rfl (by kernel_rfl) (by kernel_rfl) (by kernel_rfl) rfl (Ca.bin rfl rfl (calm_int _ _ _ _ _ _ _ _)) (fun Q0 k0 => L.bin hF rfl rfl rfl rfl rfl rfl (L.nil k0)) ?_
                    exact A.on (hO _ _ _ n32735) (Le.mk [(0, 0), (1, 1)] hm rfl ⟨⟨_, rfl, rfl⟩, ⟨_, rfl, rfl⟩, ⟨_, rfl, rfl⟩, ⟨_, rfl, rfl⟩, ⟨_, rfl, rfl⟩, ⟨_, rfl, rfl⟩, ⟨_, rfl, rfl⟩, ⟨_, rfl, rfl⟩, ⟨_, rfl, rfl⟩, ⟨_, rfl, rfl⟩, ⟨_, rfl, rfl⟩, ⟨_, rfl, rfl⟩, ⟨_, rfl, rfl⟩, ⟨_, rfl, rfl⟩, ⟨_, rfl, rfl⟩, ⟨_, rfl, rfl⟩, ⟨_, rfl, rfl⟩, ⟨_, rfl, rfl⟩, ⟨_, rfl, rfl⟩, ⟨_, rfl, rfl⟩, ⟨_, rfl, rfl⟩, ⟨_, rfl, rfl⟩, ⟨_, rfl, rfl⟩, ⟨_, rfl, rfl⟩, trivial⟩ ⟨⟨_, rfl, rfl⟩, trivial⟩ ⟨⟨_, _, rfl, rfl, rfl⟩, trivial⟩)
                  have n8191 : W 4 #[true, true, true, true, true, true, true, true, true, true, true, true, true, false, false, false, false] (mkSt [(0, one (Cell.sl g0 (List.map eTimpl_Tlv v1489))), (3, one (Cell.own 0)), (4, one (cI v1491)), (5, one (Cell.ptr 1 0)), (6, one (cI v1492)), (30, one (Cell.ptr 1 1)), (31, one (cL v1493)), (32, one (cL v1494)), (37, one (cL v1495)), (40, one (Cell.ptr 1 1)), (41, one (cL v1493)), (42, one (cL v1496)), (43, one (cL v1497)), (47, one (cL v1498)), (63, one (Cell.ptr 1 3)), (64, one (Cell.sl true (List.map eI v1501))), (65, one (cI v1492)), (66, one (Cell.pe true (eI b1521) 0)), (67, one (cI b1521)), (68, one (cI v1491)), (69, one (cL (decide (b1521 ≥ v1491)))), (71, one (Cell.own 0)), (76, one (cI b1522)), (83, one (Cell.ep 0 b1523.toNat 0))] [(0, ⟨1, List.map eI v1490⟩)] [(1, [cI v1499, cL v1493, cS v1500, Cell.sl true (List.map eI v1501)])] 2) := by
                    refine hI _ _ _ ?_
                    refine A.all [13] (by kernel_rfl) rfl ⟨⟨_, rfl, ?_⟩, trivial⟩
                    · refine L.loadEp (xs := v1490) (e := eI) shape3 hF rfl rfl rfl rfl (at?_get hb1524).2 rfl rfl ?_
                      refine L.nil ?_
                      exact A.on (hO _ _ _ n16383) (Le.mk [(0, 0), (1, 1)] hm rfl ⟨⟨_, rfl, rfl⟩, ⟨_, rfl, rfl⟩, ⟨_, rfl, rfl⟩, ⟨_, rfl, rfl⟩, ⟨_, rfl, rfl⟩, ⟨_, rfl, rfl⟩, ⟨_, rfl, rfl⟩, ⟨_, rfl, rfl⟩, ⟨_, rfl, rfl⟩, ⟨_, rfl, rfl⟩, ⟨_, rfl, rfl⟩, ⟨_, rfl, rfl⟩, ⟨_, rfl, rfl⟩, ⟨_, rfl, rfl⟩, ⟨_, rfl, rfl⟩, ⟨_, rfl, rfl⟩, ⟨_, rfl, rfl⟩, ⟨_, rfl, rfl⟩, ⟨_, rfl, rfl⟩, ⟨_, rfl, rfl⟩, ⟨_, rfl, rfl⟩, ⟨_, rfl, rfl⟩, ⟨_, rfl, rfl⟩, ⟨_, rfl, rfl⟩, trivial⟩ ⟨⟨_, rfl, rfl⟩, trivial⟩ ⟨⟨_, _, rfl, rfl, rfl⟩, trivial⟩)
                  have n8159 : W 5 #[true, true, true, true, true, false, true, true, true, true, true, true, true, false, false, false, false] (mkSt [(0, one (Cell.sl g0 (List.map eTimpl_Tlv v1489))), (3, one (Cell.own 0)), (4, one (cI v1491)), (5, one (Cell.ptr 1 0)), (6, one (cI v1492)), (30, one (Cell.ptr 1 1)), (31, one (cL v1493)), (32, one (cL v1494)), (37, one (cL v1495)), (40, one (Cell.ptr 1 1)), (41, one (cL v1493)), (42, one (cL v1496)), (43, one (cL v1497)), (47, one (cL v1498)), (63, one (Cell.ptr 1 3)), (64, one (Cell.sl true (List.map eI v1501))), (65, one (cI v1492)), (66, one (Cell.pe true (eI b1521) 0)), (67, one (cI b1521)), (68, one (cI v1491)), (69, one (cL (decide (b1521 ≥ v1491)))), (71, one (Cell.own 0)), (75, one (Cell.pe true (eI b1522) 0)), (83, one (Cell.ep 0 b1523.toNat 0))] [(0, ⟨1, List.map eI v1490⟩)] [(1, [cI v1499, cL v1493, cS v1500, Cell.sl true (List.map eI v1501)])] 2) := by
                    refine hI _ _ _ ?_
                    refine A.all [5, 13] (by kernel_rfl) rfl ⟨⟨_, rfl, ?_⟩, ⟨_, rfl, ?_⟩, trivial⟩
                    · refine L.loadPe shape3 hF rfl rfl rfl rfl rfl ?_
                      refine L.nil ?_
                      exact A.on (hO _ _ _ n8191) (Le.mk [(0, 0), (1, 1)] hm rfl ⟨⟨_, rfl, rfl⟩, ⟨_, rfl, rfl⟩, ⟨_, rfl, rfl⟩, ⟨_, rfl, rfl⟩, ⟨_, rfl, rfl⟩, ⟨_, rfl, rfl⟩, ⟨_, rfl, rfl⟩, ⟨_, rfl, rfl⟩, ⟨_, rfl, rfl⟩, ⟨_, rfl, rfl⟩, ⟨_, rfl, rfl⟩, ⟨_, rfl, rfl⟩, ⟨_, rfl, rfl⟩, ⟨_, rfl, rfl⟩, ⟨_, rfl, rfl⟩, ⟨_, rfl, rfl⟩, ⟨_, rfl, rfl⟩, ⟨_, rfl, rfl⟩, ⟨_, rfl, rfl⟩, ⟨_, rfl, rfl⟩, ⟨_, rfl, rfl⟩, ⟨_, rfl, rfl⟩, ⟨_, rfl, rfl⟩, ⟨_, rfl, rfl⟩, trivial⟩ ⟨⟨_, rfl, rfl⟩, trivial⟩ ⟨⟨_, _, rfl, rfl, rfl⟩, trivial⟩)
                    · refine L.loadEp (xs := v1490) (e := eI) shape3 hF rfl rfl rfl rfl (at?_get hb1524).2 rfl rfl ?_
                      refine L.nil ?_
                      exact A.on (hO _ _ _ n16351) (Le.mk [(0, 0), (1, 1)] hm rfl ⟨⟨_, rfl, rfl⟩, ⟨_, rfl, rfl⟩, ⟨_, rfl, rfl⟩, ⟨_, rfl, rfl⟩, ⟨_, rfl, rfl⟩, ⟨_, rfl, rfl⟩, ⟨_, rfl, rfl⟩, ⟨_, rfl, rfl⟩, ⟨_, rfl, rfl⟩, ⟨_, rfl, rfl⟩, ⟨_, rfl, rfl⟩, ⟨_, rfl, rfl⟩, ⟨_, rfl, rfl⟩, ⟨_, rfl, rfl⟩, ⟨_, rfl, rfl⟩, ⟨_, rfl, rfl⟩, ⟨_, rfl, rfl⟩, ⟨_, rfl, rfl⟩, ⟨_, rfl, rfl⟩, ⟨_, rfl, rfl⟩, ⟨_, rfl, rfl⟩, ⟨_, rfl, rfl⟩, ⟨_, rfl, rfl⟩, ⟨_, rfl, rfl⟩, trivial⟩ ⟨⟨_, rfl, rfl⟩, trivial⟩ ⟨⟨_, _, rfl, rfl, rfl⟩, trivial⟩)
                  have n4095 : W 5 #[true, true, true, true, true, true, true, true, true, true, true, true, false, false, false, false, false] (mkSt [(0, one (Cell.sl g0 (List.map eTimpl_Tlv v1489))), (3, one (Cell.own 0)), (4, one (cI v1491)), (5, one (Cell.ptr 1 0)), (6, one (cI v1492)), (30, one (Cell.ptr 1 1)), (31, one (cL v1493)), (32, one (cL v1494)), (37, one (cL v1495)), (40, one (Cell.ptr 1 1)), (41, one (cL v1493)), (42, one (cL v1496)), (43, one (cL v1497)), (47, one (cL v1498)), (63, one (Cell.ptr 1 3)), (64, one (Cell.sl true (List.map eI v1501))), (65, one (cI v1492)), (66, one (Cell.pe true (eI b1521) 0)), (67, one (cI b1521)), (68, one (cI v1491)), (69, one (cL (decide (b1521 ≥ v1491)))), (71, one (Cell.own 0)), (76, one (cI b1522)), (77, one (Cell.own 0)), (82, one (cI b1523))] [(0, ⟨1, List.map eI v1490⟩)] [(1, [cI v1499, cL v1493, cS v1500, Cell.sl true (List.map eI v1501)])] 2) := by
                    refine hI _ _ _ ?_
                    refine A.take 12 rfl (by kernel_rfl) (by kernel_rfl) (by kernel_rfl) rfl (Ca.indexAddr) (fun Q0 k0 => L.idxR (xs := v1490) (e := eI) Try.underlying24 info3 hF rfl rfl rfl rfl rfl hb1524 rfl rfl (L.nil k0)) ?_
                    exact A.on (hO _ _ _ n8191) (Le.mk [(0, 0), (1, 1)] hm rfl ⟨⟨_, rfl, rfl⟩, ⟨_, rfl, rfl⟩, ⟨_, rfl, rfl⟩, ⟨_, rfl, rfl⟩, ⟨_, rfl, rfl⟩, ⟨_, rfl, rfl⟩, ⟨_, rfl, rfl⟩, ⟨_, rfl, rfl⟩, ⟨_, rfl, rfl⟩, ⟨_, rfl, rfl⟩, ⟨_, rfl, rfl⟩, ⟨_, rfl, rfl⟩, ⟨_, rfl, rfl⟩, ⟨_, rfl, rfl⟩, ⟨_, rfl, rfl⟩, ⟨_, rfl, rfl⟩, ⟨_, rfl, rfl⟩, ⟨_, rfl, rfl⟩, ⟨_, rfl, rfl⟩, ⟨_, rfl, rfl⟩, ⟨_, rfl, rfl⟩, ⟨_, rfl, rfl⟩, ⟨_, rfl, rfl⟩, ⟨_, rfl, rfl⟩, trivial⟩ ⟨⟨_, rfl, rfl⟩, trivial⟩ ⟨⟨_, _, rfl, rfl, rfl⟩, trivial⟩)
                  have n32715 : W 5 #[true, true, false, true, false, false, true, true, true, true, true, true, true, true, true, false, false] (mkSt [(0, one (Cell.sl g0 (List.map eTimpl_Tlv v1489))), (3, one (Cell.own 0)), (4, one (cI v1491)), (5, one (Cell.ptr 1 0)), (6, one (cI v1492)), (30, one (Cell.ptr 1 1)), (31, one (cL v1493)), (32, one (cL v1494)), (37, one (cL v1495)), (40, one (Cell.ptr 1 1)), (41, one (cL v1493)), (42, one (cL v1496)), (43, one (cL v1497)), (47, one (cL v1498)), (63, one (Cell.ptr 1 3)), (64, one (Cell.sl true (List.map eI v1501))), (65, one (cI v1492)), (66, one (Cell.pe true (eI b1521) 0)), (67, one (cI b1521)), (68, one (cI v1491)), (69, one (cL (decide (b1521 ≥ v1491)))), (71, one (Cell.own 0)), (72, one (Cell.ptr 1 3)), (74, one (cI v1492)), (85, one (cI (IntKind.i64.wrap (b1524 + (1 : Int)))))] [(0, ⟨1, List.map eI v1490⟩)] [(1, [cI v1499, cL v1493, cS v1500, Cell.sl true (List.map eI v1501)])] 2) := by
                    refine hI _ _ _ ?_
                    refine A.all [2] (by kernel_rfl) rfl ⟨⟨_, rfl, ?_⟩, trivial⟩
                    · refine L.loadPtr shape24 hF rfl rfl rfl rfl rfl rfl ?_
                      refine L.nil ?_
                      exact A.on (hO _ _ _ n32719) (Le.mk [(0, 0), (1, 1)] hm rfl ⟨⟨_, rfl, rfl⟩, ⟨_, rfl, rfl⟩, ⟨_, rfl, rfl⟩, ⟨_, rfl, rfl⟩, ⟨_, rfl, rfl⟩, ⟨_, rfl, rfl⟩, ⟨_, rfl, rfl⟩, ⟨_, rfl, rfl⟩, ⟨_, rfl, rfl⟩, ⟨_, rfl, rfl⟩, ⟨_, rfl, rfl⟩, ⟨_, rfl, rfl⟩, ⟨_, rfl, rfl⟩, ⟨_, rfl, rfl⟩, ⟨_, rfl, rfl⟩, ⟨_, rfl, rfl⟩, ⟨_, rfl, rfl⟩, ⟨_, rfl, rfl⟩, ⟨_, rfl, rfl⟩, ⟨_, rfl, rfl⟩, ⟨_, rfl, rfl⟩, ⟨_, rfl, rfl⟩, ⟨_, rfl, rfl⟩, ⟨_, rfl, rfl⟩, ⟨_, rfl, rfl⟩, trivial⟩ ⟨⟨_, rfl, rfl⟩, trivial⟩ ⟨⟨_, _, rfl, rfl, rfl⟩, trivial⟩)
                  have n2047 : W 6 #[true, true, true, true, true, true, true, true, true, true, true, false, false, false, false, false, false] (mkSt [(0, one (Cell.sl g0 (List.map eTimpl_Tlv v1489))), (3, one (Cell.own 0)), (4, one (cI v1491)), (5, one (Cell.ptr 1 0)), (6, one (cI v1492)), (30, one (Cell.ptr 1 1)), (31, one (cL v1493)), (32, one (cL v1494)), (37, one (cL v1495)), (40, one (Cell.ptr 1 1)), (41, one (cL v1493)), (42, one (cL v1496)), (43, one (cL v1497)), (47, one (cL v1498)), (63, one (Cell.ptr 1 3)), (64, one (Cell.sl true (List.map eI v1501))), (65, one (cI v1492)), (66, one (Cell.pe true (eI b1521) 0)), (67, one (cI b1521)), (68, one (cI v1491)), (69, one (cL (decide (b1521 ≥ v1491)))), (71, one (Cell.own 0)), (76, one (cI b1522)), (77, one (Cell.own 0)), (81, one (Cell.pe true (eI b1523) 0))] [(0, ⟨1, List.map eI v1490⟩)] [(1, [cI v1499, cL v1493, cS v1500, Cell.sl true (List.map eI v1501)])] 2) := by
                    refine hI _ _ _ ?_
                    refine A.all [11] (by kernel_rfl) rfl ⟨⟨_, rfl, ?_⟩, trivial⟩
                    · refine L.loadPe shape3 hF rfl rfl rfl rfl rfl ?_
                      refine L.nil ?_
                      exact A.on (hO _ _ _ n4095) (Le.mk [(0, 0), (1, 1)] hm rfl ⟨⟨_, rfl, rfl⟩, ⟨_, rfl, rfl⟩, ⟨_, rfl, rfl⟩, ⟨_, rfl, rfl⟩, ⟨_, rfl, rfl⟩, ⟨_, rfl, rfl⟩, ⟨_, rfl, rfl⟩, ⟨_, rfl, rfl⟩, ⟨_, rfl, rfl⟩, ⟨_, rfl, rfl⟩, ⟨_, rfl, rfl⟩, ⟨_, rfl, rfl⟩, ⟨_, rfl, rfl⟩, ⟨_, rfl, rfl⟩, ⟨_, rfl, rfl⟩, ⟨_, rfl, rfl⟩, ⟨_, rfl, rfl⟩, ⟨_, rfl, rfl⟩, ⟨_, rfl, rfl⟩, ⟨_, rfl, rfl⟩, ⟨_, rfl, rfl⟩, ⟨_, rfl, rfl⟩, ⟨_, rfl, rfl⟩, ⟨_, rfl, rfl⟩, ⟨_, rfl, rfl⟩, trivial⟩ ⟨⟨_, rfl, rfl⟩, trivial⟩ ⟨⟨_, _, rfl, rfl, rfl⟩, trivial⟩)
                  have n8143 : W 6 #[true, true, true, true, false, false, true, true, true, true, true, true, true, false, false, false, false] (mkSt [(0, one (Cell.sl g0 (List.map eTimpl_Tlv v1489))), (3, one (Cell.own 0)), (4, one (cI v1491)), (5, one (Cell.ptr 1 0)), (6, one (cI v1492)), (30, one (Cell.ptr 1 1)), (31, one (cL v1493)), (32, one (cL v1494)), (37, one (cL v1495)), (40, one (Cell.ptr 1 1)), (41, one (cL v1493)), (42, one (cL v1496)), (43, one (cL v1497)), (47, one (cL v1498)), (63, one (Cell.ptr 1 3)), (64, one (Cell.sl true (List.map eI v1501))), (65, one (cI v1492)), (66, one (Cell.pe true (eI b1521) 0)), (67, one (cI b1521)), (68, one (cI v1491)), (69, one (cL (decide (b1521 ≥ v1491)))), (71, one (Cell.own 0)), (73, one (Cell.sl true (List.map eI v1501))), (74, one (cI v1492)), (83, one (Cell.ep 0 b1523.toNat 0))] [(0, ⟨1, List.map eI v1490⟩)] [(1, [cI v1499, cL v1493, cS v1500, Cell.sl true (List.map eI v1501)])] 2) := by
                    refine hI _ _ _ ?_
                    refine A.take 4 rfl (by kernel_rfl) (by kernel_rfl) (by kernel_rfl) rfl (Ca.indexAddr) (fun Q0 k0 => L.idxR (xs := v1501) (e := eI) Try.underlying24 info3 hF rfl rfl rfl rfl rfl hb1522 rfl rfl (L.nil k0)) ?_
                    exact A.on (hO _ _ _ n8159) (Le.mk [(0, 0), (1, 1)] hm rfl ⟨⟨_, rfl, rfl⟩, ⟨_, rfl, rfl⟩, ⟨_, rfl, rfl⟩, ⟨_, rfl, rfl⟩, ⟨_, rfl, rfl⟩, ⟨_, rfl, rfl⟩, ⟨_, rfl, rfl⟩, ⟨_, rfl, rfl⟩, ⟨_, rfl, rfl⟩, ⟨_, rfl, rfl⟩, ⟨_, rfl, rfl⟩, ⟨_, rfl, rfl⟩, ⟨_, rfl, rfl⟩, ⟨_, rfl, rfl⟩, ⟨_, rfl, rfl⟩, ⟨_, rfl, rfl⟩, ⟨_, rfl, rfl⟩, ⟨_, rfl, rfl⟩, ⟨_, rfl, rfl⟩, ⟨_, rfl, rfl⟩, ⟨_, rfl, rfl⟩, ⟨_, rfl, rfl⟩, ⟨_, rfl, rfl⟩, ⟨_, rfl, rfl⟩, trivial⟩ ⟨⟨_, rfl, rfl⟩, trivial⟩ ⟨⟨_, _, rfl, rfl, rfl⟩, trivial⟩)
                  have n4063 : W 6 #[true, true, true, true, true, false, true, true, true, true, true, true, false, false, false, false, false] (mkSt [(0, one (Cell.sl g0 (List.map eTimpl_Tlv v1489))), (3, one (Cell.own 0)), (4, one (cI v1491)), (5, one (Cell.ptr 1 0)), (6, one (cI v1492)), (30, one (Cell.ptr 1 1)), (31, one (cL v1493)), (32, one (cL v1494)), (37, one (cL v1495)), (40, one (Cell.ptr 1 1)), (41, one (cL v1493)), (42, one (cL v1496)), (43, one (cL v1497)), (47, one (cL v1498)), (63, one (Cell.ptr 1 3)), (64, one (Cell.sl true (List.map eI v1501))), (65, one (cI v1492)), (66, one (Cell.pe true (eI b1521) 0)), (67, one (cI b1521)), (68, one (cI v1491)), (69, one (cL (decide (b1521 ≥ v1491)))), (71, one (Cell.own 0)), (75, one (Cell.pe true (eI b1522) 0)), (77, one (Cell.own 0)), (82, one (cI b1523))] [(0, ⟨1, List.map eI v1490⟩)] [(1, [cI v1499, cL v1493, cS v1500, Cell.sl true (List.map eI v1501)])] 2) := by
                    refine hI _ _ _ ?_
                    refine A.take 12 rfl (by kernel_rfl) (by kernel_rfl) (by kernel_rfl) rfl (Ca.indexAddr) (fun Q0 k0 => L.idxR (xs := v1490) (e := eI) Try.underlying24 info3 hF rfl rfl rfl rfl rfl hb1524 rfl rfl (L.nil k0)) ?_
                    exact A.on (hO _ _ _ n8159) (Le.mk [(0, 0), (1, 1)] hm rfl ⟨⟨_, rfl, rfl⟩, ⟨_, rfl, rfl⟩, ⟨_, rfl, rfl⟩, ⟨_, rfl, rfl⟩, ⟨_, rfl, rfl⟩, ⟨_, rfl, rfl⟩, ⟨_, rfl, rfl⟩, ⟨_, rfl, rfl⟩, ⟨_, rfl, rfl⟩, ⟨_, rfl, rfl⟩, ⟨_, rfl, rfl⟩, ⟨_, rfl, rfl⟩, ⟨_, rfl, rfl⟩, ⟨_, rfl, rfl⟩, ⟨_, rfl, rfl⟩, ⟨_, rfl, rfl⟩, ⟨_, rfl, rfl⟩, ⟨_, rfl, rfl⟩, ⟨_, rfl, rfl⟩, ⟨_, rfl, rfl⟩, ⟨_, rfl, rfl⟩, ⟨_, rfl, rfl⟩, ⟨_, rfl, rfl⟩, ⟨_, rfl, rfl⟩, trivial⟩ ⟨⟨_, rfl, rfl⟩, trivial⟩ ⟨⟨_, _, rfl, rfl, rfl⟩, trivial⟩)
                  have n16331 : W 6 #[true, true, false, true, false, false, true, true, true, true, true, true, true, true, false, false, false] (mkSt [(0, one (Cell.sl g0 (List.map eTimpl_Tlv v1489))), (3, one (Cell.own 0)), (4, one (cI v1491)), (5, one (Cell.ptr 1 0)), (6, one (cI v1492)), (30, one (Cell.ptr 1 1)), (31, one (cL v1493)), (32, one (cL v1494)), (37, one (cL v1495)), (40, one (Cell.ptr 1 1)), (41, one (cL v1493)), (42, one (cL v1496)), (43, one (cL v1497)), (47, one (cL v1498)), (63, one (Cell.ptr 1 3)), (64, one (Cell.sl true (List.map eI v1501))), (65, one (cI v1492)), (66, one (Cell.pe true (eI b1521) 0)), (67, one (cI b1521)), (68, one (cI v1491)), (69, one (cL (decide (b1521 ≥ v1491)))), (71, one (Cell.own 0)), (72, one (Cell.ptr 1 3)), (74, one (cI v1492)), (84, one (cI b1524))] [(0, ⟨1, List.map eI v1490⟩)] [(1, [cI v1499, cL v1493, cS v1500, Cell.sl true (List.map eI v1501)])] 2) := by
                    refine hI _ _ _ ?_
                    refine A.take 14 rfl (by kernel_rfl) (by kernel_rfl) (by kernel_rfl) rfl (Ca.bin rfl rfl (calm_int _ _ _ _ _ _ _ _)) (fun Q0 k0 => L.bin hF rfl rfl rfl rfl rfl rfl (L.nil k0)) ?_
                    exact A.on (hO _ _ _ n32715) (Le.mk [(0, 0), (1, 1)] hm rfl ⟨⟨_, rfl, rfl⟩, ⟨_, rfl, rfl⟩, ⟨_, rfl, rfl⟩, ⟨_, rfl, rfl⟩, ⟨_, rfl, rfl⟩, ⟨_, rfl, rfl⟩, ⟨_, rfl, rfl⟩, ⟨_, rfl, rfl⟩, ⟨_, rfl, rfl⟩, ⟨_, rfl, rfl⟩, ⟨_, rfl, rfl⟩, ⟨_, rfl, rfl⟩, ⟨_, rfl, rfl⟩, ⟨_, rfl, rfl⟩, ⟨_, rfl, rfl⟩, ⟨_, rfl, rfl⟩, ⟨_, rfl, rfl⟩, ⟨_, rfl, rfl⟩, ⟨_, rfl, rfl⟩, ⟨_, rfl, rfl⟩, ⟨_, rfl, rfl⟩, ⟨_, rfl, rfl⟩, ⟨_, rfl, rfl⟩, ⟨_, rfl, rfl⟩, ⟨_, rfl, rfl⟩, trivial⟩ ⟨⟨_, rfl, rfl⟩, trivial⟩ ⟨⟨_, _, rfl, rfl, rfl⟩, trivial⟩)
                  have n1023 : W 7 #[true, true, true, true, true, true, true, true, true, true, false, false, false, false, false, false, false] (mkSt [(0, one (Cell.sl g0 (List.map eTimpl_Tlv v1489))), (3, one (Cell.own 0)), (4, one (cI v1491)), (5, one (Cell.ptr 1 0)), (6, one (cI v1492)), (30, one (Cell.ptr 1 1)), (31, one (cL v1493)), (32, one (cL v1494)), (37, one (cL v1495)), (40, one (Cell.ptr 1 1)), (41, one (cL v1493)), (42, one (cL v1496)), (43, one (cL v1497)), (47, one (cL v1498)), (63, one (Cell.ptr 1 3)), (64, one (Cell.sl true (List.map eI v1501))), (65, one (cI v1492)), (66, one (Cell.pe true (eI b1521) 0)), (67, one (cI b1521)), (68, one (cI v1491)), (69, one (cL (decide (b1521 ≥ v1491)))), (71, one (Cell.own 0)), (76, one (cI b1522)), (77, one (Cell.own 0)), (79, one (Cell.sl true (List.map eI v1501))), (80, one (cI v1492))] [(0, ⟨1, List.map eI v1490⟩)] [(1, [cI v1499, cL v1493, cS v1500, Cell.sl true (List.map eI v1501)])] 2) := by
                    refine hI _ _ _ ?_
                    refine A.take 10 rfl (by kernel_rfl) (by kernel_rfl) (by kernel_rfl) rfl (Ca.indexAddr) (fun Q0 k0 => L.idxR (xs := v1501) (e := eI) Try.underlying24 info3 hF rfl rfl rfl rfl rfl hb1523 rfl rfl (L.nil k0)) ?_
                    exact A.on (hO _ _ _ n2047) (Le.mk [(0, 0), (1, 1)] hm rfl ⟨⟨_, rfl, rfl⟩, ⟨_, rfl, rfl⟩, ⟨_, rfl, rfl⟩, ⟨_, rfl, rfl⟩, ⟨_, rfl, rfl⟩, ⟨_, rfl, rfl⟩, ⟨_, rfl, rfl⟩, ⟨_, rfl, rfl⟩, ⟨_, rfl, rfl⟩, ⟨_, rfl, rfl⟩, ⟨_, rfl, rfl⟩, ⟨_, rfl, rfl⟩, ⟨_, rfl, rfl⟩, ⟨_, rfl, rfl⟩, ⟨_, rfl, rfl⟩, ⟨_, rfl, rfl⟩, ⟨_, rfl, rfl⟩, ⟨_, rfl, rfl⟩, ⟨_, rfl, rfl⟩, ⟨_, rfl, rfl⟩, ⟨_, rfl, rfl⟩, ⟨_, rfl, rfl⟩, ⟨_, rfl, rfl⟩, ⟨_, rfl, rfl⟩, ⟨_, rfl, rfl⟩, trivial⟩ ⟨⟨_, rfl, rfl⟩, trivial⟩ ⟨⟨_, _, rfl, rfl, rfl⟩, trivial⟩)
                  have n8139 : W 7 #[true, true, false, true, false, false, true, true, true, true, true, true, true, false, false, false, false] (mkSt [(0, one (Cell.sl g0 (List.map eTimpl_Tlv v1489))), (3, one (Cell.own 0)), (4, one (cI v1491)), (5, one (Cell.ptr 1 0)), (6, one (cI v1492)), (30, one (Cell.ptr 1 1)), (31, one (cL v1493)), (32, one (cL v1494)), (37, one (cL v1495)), (40, one (Cell.ptr 1 1)), (41, one (cL v1493)), (42, one (cL v1496)), (43, one (cL v1497)), (47, one (cL v1498)), (63, one (Cell.ptr 1 3)), (64, one (Cell.sl true (List.map eI v1501))), (65, one (cI v1492)), (66, one (Cell.pe true (eI b1521) 0)), (67, one (cI b1521)), (68, one (cI v1491)), (69, one (cL (decide (b1521 ≥ v1491)))), (71, one (Cell.own 0)), (72, one (Cell.ptr 1 3)), (74, one (cI v1492)), (83, one (Cell.ep 0 b1523.toNat 0))] [(0, ⟨1, List.map eI v1490⟩)] [(1, [cI v1499, cL v1493, cS v1500, Cell.sl true (List.map eI v1501)])] 2) := by
                    refine hI _ _ _ ?_
                    refine A.all [2, 13] (by kernel_rfl) rfl ⟨⟨_, rfl, ?_⟩, ⟨_, rfl, ?_⟩, trivial⟩
                    · refine L.loadPtr shape24 hF rfl rfl rfl rfl rfl rfl ?_
                      refine L.nil ?_
                      exact A.on (hO _ _ _ n8143) (Le.mk [(0, 0), (1, 1)] hm rfl ⟨⟨_, rfl, rfl⟩, ⟨_, rfl, rfl⟩, ⟨_, rfl, rfl⟩, ⟨_, rfl, rfl⟩, ⟨_, rfl, rfl⟩, ⟨_, rfl, rfl⟩, ⟨_, rfl, rfl⟩, ⟨_, rfl, rfl⟩, ⟨_, rfl, rfl⟩, ⟨_, rfl, rfl⟩, ⟨_, rfl, rfl⟩, ⟨_, rfl, rfl⟩, ⟨_, rfl, rfl⟩, ⟨_, rfl, rfl⟩, ⟨_, rfl, rfl⟩, ⟨_, rfl, rfl⟩, ⟨_, rfl, rfl⟩, ⟨_, rfl, rfl⟩, ⟨_, rfl, rfl⟩, ⟨_, rfl, rfl⟩, ⟨_, rfl, rfl⟩, ⟨_, rfl, rfl⟩, ⟨_, rfl, rfl⟩, ⟨_, rfl, rfl⟩, ⟨_, rfl, rfl⟩, trivial⟩ ⟨⟨_, rfl, rfl⟩, trivial⟩ ⟨⟨_, _, rfl, rfl, rfl⟩, trivial⟩)
                    · refine L.loadEp (xs := v1490) (e := eI) shape3 hF rfl rfl rfl rfl (at?_get hb1524).2 rfl rfl ?_
                      refine L.nil ?_
                      exact A.on (hO _ _ _ n16331) (Le.mk [(0, 0), (1, 1)] hm rfl ⟨⟨_, rfl, rfl⟩, ⟨_, rfl, rfl⟩, ⟨_, rfl, rfl⟩, ⟨_, rfl, rfl⟩, ⟨_, rfl, rfl⟩, ⟨_, rfl, rfl⟩, ⟨_, rfl, rfl⟩, ⟨_, rfl, rfl⟩, ⟨_, rfl, rfl⟩, ⟨_, rfl, rfl⟩, ⟨_, rfl, rfl⟩, ⟨_, rfl, rfl⟩, ⟨_, rfl, rfl⟩, ⟨_, rfl, rfl⟩, ⟨_, rfl, rfl⟩, ⟨_, rfl, rfl⟩, ⟨_, rfl, rfl⟩, ⟨_, rfl, rfl⟩, ⟨_, rfl, rfl⟩, ⟨_, rfl, rfl⟩, ⟨_, rfl, rfl⟩, ⟨_, rfl, rfl⟩, ⟨_, rfl, rfl⟩, ⟨_, rfl, rfl⟩, ⟨_, rfl, rfl⟩, trivial⟩ ⟨⟨_, rfl, rfl⟩, trivial⟩ ⟨⟨_, _, rfl, rfl, rfl⟩, trivial⟩)
                  have n2015 : W 7 #[true, true, true, true, true, false, true, true, true, true, true, false, false, false, false, false, false] (mkSt [(0, one (Cell.sl g0 (List.map eTimpl_Tlv v1489))), (3, one (Cell.own 0)), (4, one (cI v1491)), (5, one (Cell.ptr 1 0)), (6, one (cI v1492)), (30, one (Cell.ptr 1 1)), (31, one (cL v1493)), (32, one (cL v1494)), (37, one (cL v1495)), (40, one (Cell.ptr 1 1)), (41, one (cL v1493)), (42, one (cL v1496)), (43, one (cL v1497)), (47, one (cL v1498)), (63, one (Cell.ptr 1 3)), (64, one (Cell.sl true (List.map eI v1501))), (65, one (cI v1492)), (66, one (Cell.pe true (eI b1521) 0)), (67, one (cI b1521)), (68, one (cI v1491)), (69, one (cL (decide (b1521 ≥ v1491)))), (71, one (Cell.own 0)), (75, one (Cell.pe true (eI b1522) 0)), (77, one (Cell.own 0)), (81, one (Cell.pe true (eI b1523) 0))] [(0, ⟨1, List.map eI v1490⟩)] [(1, [cI v1499, cL v1493, cS v1500, Cell.sl true (List.map eI v1501)])] 2) := by
                    refine hI _ _ _ ?_
                    refine A.all [5, 11] (by kernel_rfl) rfl ⟨⟨_, rfl, ?_⟩, ⟨_, rfl, ?_⟩, trivial⟩
                    · refine L.loadPe shape3 hF rfl rfl rfl rfl rfl ?_
                      refine L.nil ?_
                      exact A.on (hO _ _ _ n2047) (Le.mk [(0, 0), (1, 1)] hm rfl ⟨⟨_, rfl, rfl⟩, ⟨_, rfl, rfl⟩, ⟨_, rfl, rfl⟩, ⟨_, rfl, rfl⟩, ⟨_, rfl, rfl⟩, ⟨_, rfl, rfl⟩, ⟨_, rfl, rfl⟩, ⟨_, rfl, rfl⟩, ⟨_, rfl, rfl⟩, ⟨_, rfl, rfl⟩, ⟨_, rfl, rfl⟩, ⟨_, rfl, rfl⟩, ⟨_, rfl, rfl⟩, ⟨_, rfl, rfl⟩, ⟨_, rfl, rfl⟩, ⟨_, rfl, rfl⟩, ⟨_, rfl, rfl⟩, ⟨_, rfl, rfl⟩, ⟨_, rfl, rfl⟩, ⟨_, rfl, rfl⟩, ⟨_, rfl, rfl⟩, ⟨_, rfl, rfl⟩, ⟨_, rfl, rfl⟩, ⟨_, rfl, rfl⟩, ⟨_, rfl, rfl⟩, trivial⟩ ⟨⟨_, rfl, rfl⟩, trivial⟩ ⟨⟨_, _, rfl, rfl, rfl⟩, trivial⟩)
                    · refine L.loadPe shape3 hF rfl rfl rfl rfl rfl ?_
                      refine L.nil ?_
                      exact A.on (hO _ _ _ n4063) (Le.mk [(0, 0), (1, 1)] hm rfl ⟨⟨_, rfl, rfl⟩, ⟨_, rfl, rfl⟩, ⟨_, rfl, rfl⟩, ⟨_, rfl, rfl⟩, ⟨_, rfl, rfl⟩, ⟨_, rfl, rfl⟩, ⟨_, rfl, rfl⟩, ⟨_, rfl, rfl⟩, ⟨_, rfl, rfl⟩, ⟨_, rfl, rfl⟩, ⟨_, rfl, rfl⟩, ⟨_, rfl, rfl⟩, ⟨_, rfl, rfl⟩, ⟨_, rfl, rfl⟩, ⟨_, rfl, rfl⟩, ⟨_, rfl, rfl⟩, ⟨_, rfl, rfl⟩, ⟨_, rfl, rfl⟩, ⟨_, rfl, rfl⟩, ⟨_, rfl, rfl⟩, ⟨_, rfl, rfl⟩, ⟨_, rfl, rfl⟩, ⟨_, rfl, rfl⟩, ⟨_, rfl, rfl⟩, ⟨_, rfl, rfl⟩, trivial⟩ ⟨⟨_, rfl, rfl⟩, trivial⟩ ⟨⟨_, _, rfl, rfl, rfl⟩, trivial⟩)
                  have n767 : W 8 #[true, true, true, true, true, true, true, true, false, true, false, false, false, false, false, false, false] (mkSt [(0, one (Cell.sl g0 (List.map eTimpl_Tlv v1489))), (3, one (Cell.own 0)), (4, one (cI v1491)), (5, one (Cell.ptr 1 0)), (6, one (cI v1492)), (30, one (Cell.ptr 1 1)), (31, one (cL v1493)), (32, one (cL v1494)), (37, one (cL v1495)), (40, one (Cell.ptr 1 1)), (41, one (cL v1493)), (42, one (cL v1496)), (43, one (cL v1497)), (47, one (cL v1498)), (63, one (Cell.ptr 1 3)), (64, one (Cell.sl true (List.map eI v1501))), (65, one (cI v1492)), (66, one (Cell.pe true (eI b1521) 0)), (67, one (cI b1521)), (68, one (cI v1491)), (69, one (cL (decide (b1521 ≥ v1491)))), (71, one (Cell.own 0)), (76, one (cI b1522)), (77, one (Cell.own 0)), (78, one (Cell.ptr 1 3)), (80, one (cI v1492))] [(0, ⟨1, List.map eI v1490⟩)] [(1, [cI v1499, cL v1493, cS v1500, Cell.sl true (List.map eI v1501)])] 2) := by
                    refine hI _ _ _ ?_
                    refine A.all [8] (by kernel_rfl) rfl ⟨⟨_, rfl, ?_⟩, trivial⟩
                    · refine L.loadPtr shape24 hF rfl rfl rfl rfl rfl rfl ?_
                      refine L.nil ?_
                      exact A.on (hO _ _ _ n1023) (Le.mk [(0, 0), (1, 1)] hm rfl ⟨⟨_, rfl, rfl⟩, ⟨_, rfl, rfl⟩, ⟨_, rfl, rfl⟩, ⟨_, rfl, rfl⟩, ⟨_, rfl, rfl⟩, ⟨_, rfl, rfl⟩, ⟨_, rfl, rfl⟩, ⟨_, rfl, rfl⟩, ⟨_, rfl, rfl⟩, ⟨_, rfl, rfl⟩, ⟨_, rfl, rfl⟩, ⟨_, rfl, rfl⟩, ⟨_, rfl, rfl⟩, ⟨_, rfl, rfl⟩, ⟨_, rfl, rfl⟩, ⟨_, rfl, rfl⟩, ⟨_, rfl, rfl⟩, ⟨_, rfl, rfl⟩, ⟨_, rfl, rfl⟩, ⟨_, rfl, rfl⟩, ⟨_, rfl, rfl⟩, ⟨_, rfl, rfl⟩, ⟨_, rfl, rfl⟩, ⟨_, rfl, rfl⟩, ⟨_, rfl, rfl⟩, ⟨_, rfl, rfl⟩, trivial⟩ ⟨⟨_, rfl, rfl⟩, trivial⟩ ⟨⟨_, _, rfl, rfl, rfl⟩, trivial⟩)
                  have n1999 : W 8 #[true, true, true, true, false, false, true, true, true, true, true, false, false, false, false, false, false] (mkSt [(0, one (Cell.sl g0 (List.map eTimpl_Tlv v1489))), (3, one (Cell.own 0)), (4, one (cI v1491)), (5, one (Cell.ptr 1 0)), (6, one (cI v1492)), (30, one (Cell.ptr 1 1)), (31, one (cL v1493)), (32, one (cL v1494)), (37, one (cL v1495)), (40, one (Cell.ptr 1 1)), (41, one (cL v1493)), (42, one (cL v1496)), (43, one (cL v1497)), (47, one (cL v1498)), (63, one (Cell.ptr 1 3)), (64, one (Cell.sl true (List.map eI v1501))), (65, one (cI v1492)), (66, one (Cell.pe true (eI b1521) 0)), (67, one (cI b1521)), (68, one (cI v1491)), (69, one (cL (decide (b1521 ≥ v1491)))), (71, one (Cell.own 0)), (73, one (Cell.sl true (List.map eI v1501))), (74, one (cI v1492)), (77, one (Cell.own 0)), (81, one (Cell.pe true (eI b1523) 0))] [(0, ⟨1, List.map eI v1490⟩)] [(1, [cI v1499, cL v1493, cS v1500, Cell.sl true (List.map eI v1501)])] 2) := by
                    refine hI _ _ _ ?_
                    refine A.take 4 rfl (by kernel_rfl) (by kernel_rfl) (by kernel_rfl) rfl (Ca.indexAddr) (fun Q0 k0 => L.idxR (xs := v1501) (e := eI) Try.underlying24 info3 hF rfl rfl rfl rfl rfl hb1522 rfl rfl (L.nil k0)) ?_
                    exact A.on (hO _ _ _ n2015) (Le.mk [(0, 0), (1, 1)] hm rfl ⟨⟨_, rfl, rfl⟩, ⟨_, rfl, rfl⟩, ⟨_, rfl, rfl⟩, ⟨_, rfl, rfl⟩, ⟨_, rfl, rfl⟩, ⟨_, rfl, rfl⟩, ⟨_, rfl, rfl⟩, ⟨_, rfl, rfl⟩, ⟨_, rfl, rfl⟩, ⟨_, rfl, rfl⟩, ⟨_, rfl, rfl⟩, ⟨_, rfl, rfl⟩, ⟨_, rfl, rfl⟩, ⟨_, rfl, rfl⟩, ⟨_, rfl, rfl⟩, ⟨_, rfl, rfl⟩, ⟨_, rfl, rfl⟩, ⟨_, rfl, rfl⟩, ⟨_, rfl, rfl⟩, ⟨_, rfl, rfl⟩, ⟨_, rfl, rfl⟩, ⟨_, rfl, rfl⟩, ⟨_, rfl, rfl⟩, ⟨_, rfl, rfl⟩, ⟨_, rfl, rfl⟩, trivial⟩ ⟨⟨_, rfl, rfl⟩, trivial⟩ ⟨⟨_, _, rfl, rfl, rfl⟩, trivial⟩)
                  have n4043 : W 8 #[true, true, false, true, false, false, true, true, true, true, true, true, false, false, false, false, false] (mkSt [(0, one (Cell.sl g0 (List.map eTimpl_Tlv v1489))), (3, one (Cell.own 0)), (4, one (cI v1491)), (5, one (Cell.ptr 1 0)), (6, one (cI v1492)), (30, one (Cell.ptr 1 1)), (31, one (cL v1493)), (32, one (cL v1494)), (37, one (cL v1495)), (40, one (Cell.ptr 1 1)), (41, one (cL v1493)), (42, one (cL v1496)), (43, one (cL v1497)), (47, one (cL v1498)), (63, one (Cell.ptr 1 3)), (64, one (Cell.sl true (List.map eI v1501))), (65, one (cI v1492)), (66, one (Cell.pe true (eI b1521) 0)), (67, one (cI b1521)), (68, one (cI v1491)), (69, one (cL (decide (b1521 ≥ v1491)))), (71, one (Cell.own 0)), (72, one (Cell.ptr 1 3)), (74, one (cI v1492)), (77, one (Cell.own 0)), (82, one (cI b1523))] [(0, ⟨1, List.map eI v1490⟩)] [(1, [cI v1499, cL v1493, cS v1500, Cell.sl true (List.map eI v1501)])] 2) := by
                    refine hI _ _ _ ?_
                    refine A.take 12 rfl (by kernel_rfl) (by kernel_rfl) (by kernel_rfl) rfl (Ca.indexAddr) (fun Q0 k0 => L.idxR (xs := v1490) (e := eI) Try.underlying24 info3 hF rfl rfl rfl rfl rfl hb1524 rfl rfl (L.nil k0)) ?_
                    exact A.on (hO _ _ _ n8139) (Le.mk [(0, 0), (1, 1)] hm rfl ⟨⟨_, rfl, rfl⟩, ⟨_, rfl, rfl⟩, ⟨_, rfl, rfl⟩, ⟨_, rfl, rfl⟩, ⟨_, rfl, rfl⟩, ⟨_, rfl, rfl⟩, ⟨_, rfl, rfl⟩, ⟨_, rfl, rfl⟩, ⟨_, rfl, rfl⟩, ⟨_, rfl, rfl⟩, ⟨_, rfl, rfl⟩, ⟨_, rfl, rfl⟩, ⟨_, rfl, rfl⟩, ⟨_, rfl, rfl⟩, ⟨_, rfl, rfl⟩, ⟨_, rfl, rfl⟩, ⟨_, rfl, rfl⟩, ⟨_, rfl, rfl⟩, ⟨_, rfl, rfl⟩, ⟨_, rfl, rfl⟩, ⟨_, rfl, rfl⟩, ⟨_, rfl, rfl⟩, ⟨_, rfl, rfl⟩, ⟨_, rfl, rfl⟩, ⟨_, rfl, rfl⟩, trivial⟩ ⟨⟨_, rfl, rfl⟩, trivial⟩ ⟨⟨_, _, rfl, rfl, rfl⟩, trivial⟩)
                  have n991 : W 8 #[true, true, true, true, true, false, true, true, true, true, false, false, false, false, false, false, false] (mkSt [(0, one (Cell.sl g0 (List.map eTimpl_Tlv v1489))), (3, one (Cell.own 0)), (4, one (cI v1491)), (5, one (Cell.ptr 1 0)), (6, one (cI v1492)), (30, one (Cell.ptr 1 1)), (31, one (cL v1493)), (32, one (cL v1494)), (37, one (cL v1495)), (40, one (Cell.ptr 1 1)), (41, one (cL v1493)), (42, one (cL v1496)), (43, one (cL v1497)), (47, one (cL v1498)), (63, one (Cell.ptr 1 3)), (64, one (Cell.sl true (List.map eI v1501))), (65, one (cI v1492)), (66, one (Cell.pe true (eI b1521) 0)), (67, one (cI b1521)), (68, one (cI v1491)), (69, one (cL (decide (b1521 ≥ v1491)))), (71, one (Cell.own 0)), (75, one (Cell.pe true (eI b1522) 0)), (77, one (Cell.own 0)), (79, one (Cell.sl true (List.map eI v1501))), (80, one (cI v1492))] [(0, ⟨1, List.map eI v1490⟩)] [(1, [cI v1499, cL v1493, cS v1500, Cell.sl true (List.map eI v1501)])] 2) := by
                    refine hI _ _ _ ?_
                    refine A.take 10 rfl (by kernel_rfl) (by kernel_rfl) (by kernel_rfl) rfl (Ca.indexAddr) (fun Q0 k0 => L.idxR (xs := v1501) (e := eI) Try.underlying24 info3 hF rfl rfl rfl rfl rfl hb1523 rfl rfl (L.nil k0)) ?_
                    exact A.on (hO _ _ _ n2015) (Le.mk [(0, 0), (1, 1)] hm rfl ⟨⟨_, rfl, rfl⟩, ⟨_, rfl, rfl⟩, ⟨_, rfl, rfl⟩, ⟨_, rfl, rfl⟩, ⟨_, rfl, rfl⟩, ⟨_, rfl, rfl⟩, ⟨_, rfl, rfl⟩, ⟨_, rfl, rfl⟩, ⟨_, rfl, rfl⟩, ⟨_, rfl, rfl⟩, ⟨_, rfl, rfl⟩, ⟨_, rfl, rfl⟩, ⟨_, rfl, rfl⟩, ⟨_, rfl, rfl⟩, ⟨_, rfl, rfl⟩, ⟨_, rfl, rfl⟩, ⟨_, rfl, rfl⟩, ⟨_, rfl, rfl⟩, ⟨_, rfl, rfl⟩, ⟨_, rfl, rfl⟩, ⟨_, rfl, rfl⟩, ⟨_, rfl, rfl⟩, ⟨_, rfl, rfl⟩, ⟨_, rfl, rfl⟩, ⟨_, rfl, rfl⟩, trivial⟩ ⟨⟨_, rfl, rfl⟩, trivial⟩ ⟨⟨_, _, rfl, rfl, rfl⟩, trivial⟩)
                  have n1995 : W 9 #[true, true, false, true, false, false, true, true, true, true, true, false, false, false, false, false, false] (mkSt [(0, one (Cell.sl g0 (List.map eTimpl_Tlv v1489))), (3, one (Cell.own 0)), (4, one (cI v1491)), (5, one (Cell.ptr 1 0)), (6, one (cI v1492)), (30, one (Cell.ptr 1 1)), (31, one (cL v1493)), (32, one (cL v1494)), (37, one (cL v1495)), (40, one (Cell.ptr 1 1)), (41, one (cL v1493)), (42, one (cL v1496)), (43, one (cL v1497)), (47, one (cL v1498)), (63, one (Cell.ptr 1 3)), (64, one (Cell.sl true (List.map eI v1501))), (65, one (cI v1492)), (66, one (Cell.pe true (eI b1521) 0)), (67, one (cI b1521)), (68, one (cI v1491)), (69, one (cL (decide (b1521 ≥ v1491)))), (71, one (Cell.own 0)), (72, one (Cell.ptr 1 3)), (74, one (cI v1492)), (77, one (Cell.own 0)), (81, one (Cell.pe true (eI b1523) 0))] [(0, ⟨1, List.map eI v1490⟩)] [(1, [cI v1499, cL v1493, cS v1500, Cell.sl true (List.map eI v1501)])] 2) := by
                    refine hI _ _ _ ?_
                    refine A.all [2, 11] (by kernel_rfl) rfl ⟨⟨_, rfl, ?_⟩, ⟨_, rfl, ?_⟩, trivial⟩
                    · refine L.loadPtr shape24 hF rfl rfl rfl rfl rfl rfl ?_
                      refine L.nil ?_
                      exact A.on (hO _ _ _ n1999) (Le.mk [(0, 0), (1, 1)] hm rfl ⟨⟨_, rfl, rfl⟩, ⟨_, rfl, rfl⟩, ⟨_, rfl, rfl⟩, ⟨_, rfl, rfl⟩, ⟨_, rfl, rfl⟩, ⟨_, rfl, rfl⟩, ⟨_, rfl, rfl⟩, ⟨_, rfl, rfl⟩, ⟨_, rfl, rfl⟩, ⟨_, rfl, rfl⟩, ⟨_, rfl, rfl⟩, ⟨_, rfl, rfl⟩, ⟨_, rfl, rfl⟩, ⟨_, rfl, rfl⟩, ⟨_, rfl, rfl⟩, ⟨_, rfl, rfl⟩, ⟨_, rfl, rfl⟩, ⟨_, rfl, rfl⟩, ⟨_, rfl, rfl⟩, ⟨_, rfl, rfl⟩, ⟨_, rfl, rfl⟩, ⟨_, rfl, rfl⟩, ⟨_, rfl, rfl⟩, ⟨_, rfl, rfl⟩, ⟨_, rfl, rfl⟩, ⟨_, rfl, rfl⟩, trivial⟩ ⟨⟨_, rfl, rfl⟩, trivial⟩ ⟨⟨_, _, rfl, rfl, rfl⟩, trivial⟩)
                    · refine L.loadPe shape3 hF rfl rfl rfl rfl rfl ?_
                      refine L.nil ?_
                      exact A.on (hO _ _ _ n4043) (Le.mk [(0, 0), (1, 1)] hm rfl ⟨⟨_, rfl, rfl⟩, ⟨_, rfl, rfl⟩, ⟨_, rfl, rfl⟩, ⟨_, rfl, rfl⟩, ⟨_, rfl, rfl⟩, ⟨_, rfl, rfl⟩, ⟨_, rfl, rfl⟩, ⟨_, rfl, rfl⟩, ⟨_, rfl, rfl⟩, ⟨_, rfl, rfl⟩, ⟨_, rfl, rfl⟩, ⟨_, rfl, rfl⟩, ⟨_, rfl, rfl⟩, ⟨_, rfl, rfl⟩, ⟨_, rfl, rfl⟩, ⟨_, rfl, rfl⟩, ⟨_, rfl, rfl⟩, ⟨_, rfl, rfl⟩, ⟨_, rfl, rfl⟩, ⟨_, rfl, rfl⟩, ⟨_, rfl, rfl⟩, ⟨_, rfl, rfl⟩, ⟨_, rfl, rfl⟩, ⟨_, rfl, rfl⟩, ⟨_, rfl, rfl⟩, ⟨_, rfl, rfl⟩, trivial⟩ ⟨⟨_, rfl, rfl⟩, trivial⟩ ⟨⟨_, _, rfl, rfl, rfl⟩, trivial⟩)
                  have n735 : W 9 #[true, true, true, true, true, false, true, true, false, true, false, false, false, false, false, false, false] (mkSt [(0, one (Cell.sl g0 (List.map eTimpl_Tlv v1489))), (3, one (Cell.own 0)), (4, one (cI v1491)), (5, one (Cell.ptr 1 0)), (6, one (cI v1492)), (30, one (Cell.ptr 1 1)), (31, one (cL v1493)), (32, one (cL v1494)), (37, one (cL v1495)), (40, one (Cell.ptr 1 1)), (41, one (cL v1493)), (42, one (cL v1496)), (43, one (cL v1497)), (47, one (cL v1498)), (63, one (Cell.ptr 1 3)), (64, one (Cell.sl true (List.map eI v1501))), (65, one (cI v1492)), (66, one (Cell.pe true (eI b1521) 0)), (67, one (cI b1521)), (68, one (cI v1491)), (69, one (cL (decide (b1521 ≥ v1491)))), (71, one (Cell.own 0)), (75, one (Cell.pe true (eI b1522) 0)), (77, one (Cell.own 0)), (78, one (Cell.ptr 1 3)), (80, one (cI v1492))] [(0, ⟨1, List.map eI v1490⟩)] [(1, [cI v1499, cL v1493, cS v1500, Cell.sl true (List.map eI v1501)])] 2) := by
                    refine hI _ _ _ ?_
                    refine A.all [5, 8] (by kernel_rfl) rfl ⟨⟨_, rfl, ?_⟩, ⟨_, rfl, ?_⟩, trivial⟩
                    · refine L.loadPe shape3 hF rfl rfl rfl rfl rfl ?_
                      refine L.nil ?_
                      exact A.on (hO _ _ _ n767) (Le.mk [(0, 0), (1, 1)] hm rfl ⟨⟨_, rfl, rfl⟩, ⟨_, rfl, rfl⟩, ⟨_, rfl, rfl⟩, ⟨_, rfl, rfl⟩, ⟨_, rfl, rfl⟩, ⟨_, rfl, rfl⟩, ⟨_, rfl, rfl⟩, ⟨_, rfl, rfl⟩, ⟨_, rfl, rfl⟩, ⟨_, rfl, rfl⟩, ⟨_, rfl, rfl⟩, ⟨_, rfl, rfl⟩, ⟨_, rfl, rfl⟩, ⟨_, rfl, rfl⟩, ⟨_, rfl, rfl⟩, ⟨_, rfl, rfl⟩, ⟨_, rfl, rfl⟩, ⟨_, rfl, rfl⟩, ⟨_, rfl, rfl⟩, ⟨_, rfl, rfl⟩, ⟨_, rfl, rfl⟩, ⟨_, rfl, rfl⟩, ⟨_, rfl, rfl⟩, ⟨_, rfl, rfl⟩, ⟨_, rfl, rfl⟩, ⟨_, rfl, rfl⟩, trivial⟩ ⟨⟨_, rfl, rfl⟩, trivial⟩ ⟨⟨_, _, rfl, rfl, rfl⟩, trivial⟩)
                    · refine L.loadPtr shape24 hF rfl rfl rfl rfl rfl rfl ?_
                      refine L.nil ?_
                      exact A.on (hO _ _ _ n991) (Le.mk [(0, 0), (1, 1)] hm rfl ⟨⟨_, rfl, rfl⟩, ⟨_, rfl, rfl⟩, ⟨_, rfl, rfl⟩, ⟨_, rfl, rfl⟩, ⟨_, rfl, rfl⟩, ⟨_, rfl, rfl⟩, ⟨_, rfl, rfl⟩, ⟨_, rfl, rfl⟩, ⟨_, rfl, rfl⟩, ⟨_, rfl, rfl⟩, ⟨_, rfl, rfl⟩, ⟨_, rfl, rfl⟩, ⟨_, rfl, rfl⟩, ⟨_, rfl, rfl⟩, ⟨_, rfl, rfl⟩, ⟨_, rfl, rfl⟩, ⟨_, rfl, rfl⟩, ⟨_, rfl, rfl⟩, ⟨_, rfl, rfl⟩, ⟨_, rfl, rfl⟩, ⟨_, rfl, rfl⟩, ⟨_, rfl, rfl⟩, ⟨_, rfl, rfl⟩, ⟨_, rfl, rfl⟩, ⟨_, rfl, rfl⟩, ⟨_, rfl, rfl⟩, trivial⟩ ⟨⟨_, rfl, rfl⟩, trivial⟩ ⟨⟨_, _, rfl, rfl, rfl⟩, trivial⟩)
                  have n971 : W 10 #[true, true, false, true, false, false, true, true, true, true, false, false, false, false, false, false, false] (mkSt [(0, one (Cell.sl g0 (List.map eTimpl_Tlv v1489))), (3, one (Cell.own 0)), (4, one (cI v1491)), (5, one (Cell.ptr 1 0)), (6, one (cI v1492)), (30, one (Cell.ptr 1 1)), (31, one (cL v1493)), (32, one (cL v1494)), (37, one (cL v1495)), (40, one (Cell.ptr 1 1)), (41, one (cL v1493)), (42, one (cL v1496)), (43, one (cL v1497)), (47, one (cL v1498)), (63, one (Cell.ptr 1 3)), (64, one (Cell.sl true (List.map eI v1501))), (65, one (cI v1492)), (66, one (Cell.pe true (eI b1521) 0)), (67, one (cI b1521)), (68, one (cI v1491)), (69, one (cL (decide (b1521 ≥ v1491)))), (71, one (Cell.own 0)), (72, one (Cell.ptr 1 3)), (74, one (cI v1492)), (77, one (Cell.own 0)), (79, one (Cell.sl true (List.map eI v1501))), (80, one (cI v1492))] [(0, ⟨1, List.map eI v1490⟩)] [(1, [cI v1499, cL v1493, cS v1500, Cell.sl true (List.map eI v1501)])] 2) := by
                    refine hI _ _ _ ?_
                    refine A.take 10 rfl (by kernel_rfl) (by kernel_rfl) (by kernel_rfl) rfl (Ca.indexAddr) (fun Q0 k0 => L.idxR (xs := v1501) (e := eI) Try.underlying24 info3 hF rfl rfl rfl rfl rfl hb1523 rfl rfl (L.nil k0)) ?_
                    exact A.on (hO _ _ _ n1995) (Le.mk [(0, 0), (1, 1)] hm rfl ⟨⟨_, rfl, rfl⟩, ⟨_, rfl, rfl⟩, ⟨_, rfl, rfl⟩, ⟨_, rfl, rfl⟩, ⟨_, rfl, rfl⟩, ⟨_, rfl, rfl⟩, ⟨_, rfl, rfl⟩, ⟨_, rfl, rfl⟩, ⟨_, rfl, rfl⟩, ⟨_, rfl, rfl⟩, ⟨_, rfl, rfl⟩, ⟨_, rfl, rfl⟩, ⟨_, rfl, rfl⟩, ⟨_, rfl, rfl⟩, ⟨_, rfl, rfl⟩, ⟨_, rfl, rfl⟩, ⟨_, rfl, rfl⟩, ⟨_, rfl, rfl⟩, ⟨_, rfl, rfl⟩, ⟨_, rfl, rfl⟩, ⟨_, rfl, rfl⟩, ⟨_, rfl, rfl⟩, ⟨_, rfl, rfl⟩, ⟨_, rfl, rfl⟩, ⟨_, rfl, rfl⟩, ⟨_, rfl, rfl⟩, trivial⟩ ⟨⟨_, rfl, rfl⟩, trivial⟩ ⟨⟨_, _, rfl, rfl, rfl⟩, trivial⟩)
                  have n719 : W 10 #[true, true, true, true, false, false, true, true, false, true, false, false, false, false, false, false, false] (mkSt [(0, one (Cell.sl g0 (List.map eTimpl_Tlv v1489))), (3, one (Cell.own 0)), (4, one (cI v1491)), (5, one (Cell.ptr 1 0)), (6, one (cI v1492)), (30, one (Cell.ptr 1 1)), (31, one (cL v1493)), (32, one (cL v1494)), (37, one (cL v1495)), (40, one (Cell.ptr 1 1)), (41, one (cL v1493)), (42, one (cL v1496)), (43, one (cL v1497)), (47, one (cL v1498)), (63, one (Cell.ptr 1 3)), (64, one (Cell.sl true (List.map eI v1501))), (65, one (cI v1492)), (66, one (Cell.pe true (eI b1521) 0)), (67, one (cI b1521)), (68, one (cI v1491)), (69, one (cL (decide (b1521 ≥ v1491)))), (71, one (Cell.own 0)), (73, one (Cell.sl true (List.map eI v1501))), (74, one (cI v1492)), (77, one (Cell.own 0)), (78, one (Cell.ptr 1 3)), (80, one (cI v1492))] [(0, ⟨1, List.map eI v1490⟩)] [(1, [cI v1499, cL v1493, cS v1500, Cell.sl true (List.map eI v1501)])] 2) := by
                    refine hI _ _ _ ?_
                    refine A.take 4 rfl (by kernel_rfl) (by kernel_rfl) (by kernel_rfl) rfl (Ca.indexAddr) (fun Q0 k0 => L.idxR (xs := v1501) (e := eI) Try.underlying24 info3 hF rfl rfl rfl rfl rfl hb1522 rfl rfl (L.nil k0)) ?_
                    exact A.on (hO _ _ _ n735) (Le.mk [(0, 0), (1, 1)] hm rfl ⟨⟨_, rfl, rfl⟩, ⟨_, rfl, rfl⟩, ⟨_, rfl, rfl⟩, ⟨_, rfl, rfl⟩, ⟨_, rfl, rfl⟩, ⟨_, rfl, rfl⟩, ⟨_, rfl, rfl⟩, ⟨_, rfl, rfl⟩, ⟨_, rfl, rfl⟩, ⟨_, rfl, rfl⟩, ⟨_, rfl, rfl⟩, ⟨_, rfl, rfl⟩, ⟨_, rfl, rfl⟩, ⟨_, rfl, rfl⟩, ⟨_, rfl, rfl⟩, ⟨_, rfl, rfl⟩, ⟨_, rfl, rfl⟩, ⟨_, rfl, rfl⟩, ⟨_, rfl, rfl⟩, ⟨_, rfl, rfl⟩, ⟨_, rfl, rfl⟩, ⟨_, rfl, rfl⟩, ⟨_, rfl, rfl⟩, ⟨_, rfl, rfl⟩, ⟨_, rfl, rfl⟩, ⟨_, rfl, rfl⟩, trivial⟩ ⟨⟨_, rfl, rfl⟩, trivial⟩ ⟨⟨_, _, rfl, rfl, rfl⟩, trivial⟩)
                  have n715 : W 11 #[true, true, false, true, false, false, true, true, false, true, false, false, false, false, false, false, false] (mkSt [(0, one (Cell.sl g0 (List.map eTimpl_Tlv v1489))), (3, one (Cell.own 0)), (4, one (cI v1491)), (5, one (Cell.ptr 1 0)), (6, one (cI v1492)), (30, one (Cell.ptr 1 1)), (31, one (cL v1493)), (32, one (cL v1494)), (37, one (cL v1495)), (40, one (Cell.ptr 1 1)), (41, one (cL v1493)), (42, one (cL v1496)), (43, one (cL v1497)), (47, one (cL v1498)), (63, one (Cell.ptr 1 3)), (64, one (Cell.sl true (List.map eI v1501))), (65, one (cI v1492)), (66, one (Cell.pe true (eI b1521) 0)), (67, one (cI b1521)), (68, one (cI v1491)), (69, one (cL (decide (b1521 ≥ v1491)))), (71, one (Cell.own 0)), (72, one (Cell.ptr 1 3)), (74, one (cI v1492)), (77, one (Cell.own 0)), (78, one (Cell.ptr 1 3)), (80, one (cI v1492))] [(0, ⟨1, List.map eI v1490⟩)] [(1, [cI v1499, cL v1493, cS v1500, Cell.sl true (List.map eI v1501)])] 2) := by
                    refine hI _ _ _ ?_
                    refine A.all [2, 8] (by kernel_rfl) rfl ⟨⟨_, rfl, ?_⟩, ⟨_, rfl, ?_⟩, trivial⟩
                    · refine L.loadPtr shape24 hF rfl rfl rfl rfl rfl rfl ?_
                      refine L.nil ?_
                      exact A.on (hO _ _ _ n719) (Le.mk [(0, 0), (1, 1)] hm rfl ⟨⟨_, rfl, rfl⟩, ⟨_, rfl, rfl⟩, ⟨_, rfl, rfl⟩, ⟨_, rfl, rfl⟩, ⟨_, rfl, rfl⟩, ⟨_, rfl, rfl⟩, ⟨_, rfl, rfl⟩, ⟨_, rfl, rfl⟩, ⟨_, rfl, rfl⟩, ⟨_, rfl, rfl⟩, ⟨_, rfl, rfl⟩, ⟨_, rfl, rfl⟩, ⟨_, rfl, rfl⟩, ⟨_, rfl, rfl⟩, ⟨_, rfl, rfl⟩, ⟨_, rfl, rfl⟩, ⟨_, rfl, rfl⟩, ⟨_, rfl, rfl⟩, ⟨_, rfl, rfl⟩, ⟨_, rfl, rfl⟩, ⟨_, rfl, rfl⟩, ⟨_, rfl, rfl⟩, ⟨_, rfl, rfl⟩, ⟨_, rfl, rfl⟩, ⟨_, rfl, rfl⟩, ⟨_, rfl, rfl⟩, ⟨_, rfl, rfl⟩, trivial⟩ ⟨⟨_, rfl, rfl⟩, trivial⟩ ⟨⟨_, _, rfl, rfl, rfl⟩, trivial⟩)
                    · refine L.loadPtr shape24 hF rfl rfl rfl rfl rfl rfl ?_
                      refine L.nil ?_
                      exact A.on (hO _ _ _ n971) (Le.mk [(0, 0), (1, 1)] hm rfl ⟨⟨_, rfl, rfl⟩, ⟨_, rfl, rfl⟩, ⟨_, rfl, rfl⟩, ⟨_, rfl, rfl⟩, ⟨_, rfl, rfl⟩, ⟨_, rfl, rfl⟩, ⟨_, rfl, rfl⟩, ⟨_, rfl, rfl⟩, ⟨_, rfl, rfl⟩, ⟨_, rfl, rfl⟩, ⟨_, rfl, rfl⟩, ⟨_, rfl, rfl⟩, ⟨_, rfl, rfl⟩, ⟨_, rfl, rfl⟩, ⟨_, rfl, rfl⟩, ⟨_, rfl, rfl⟩, ⟨_, rfl, rfl⟩, ⟨_, rfl, rfl⟩, ⟨_, rfl, rfl⟩, ⟨_, rfl, rfl⟩, ⟨_, rfl, rfl⟩, ⟨_, rfl, rfl⟩, ⟨_, rfl, rfl⟩, ⟨_, rfl, rfl⟩, ⟨_, rfl, rfl⟩, ⟨_, rfl, rfl⟩, ⟨_, rfl, rfl⟩, trivial⟩ ⟨⟨_, rfl, rfl⟩, trivial⟩ ⟨⟨_, _, rfl, rfl, rfl⟩, trivial⟩)
                  have n203 : W 12 #[true, true, false, true, false, false, true, true, false, false, false, false, false, false, false, false, false] (mkSt [(0, one (Cell.sl g0 (List.map eTimpl_Tlv v1489))), (3, one (Cell.own 0)), (4, one (cI v1491)), (5, one (Cell.ptr 1 0)), (6, one (cI v1492)), (30, one (Cell.ptr 1 1)), (31, one (cL v1493)), (32, one (cL v1494)), (37, one (cL v1495)), (40, one (Cell.ptr 1 1)), (41, one (cL v1493)), (42, one (cL v1496)), (43, one (cL v1497)), (47, one (cL v1498)), (63, one (Cell.ptr 1 3)), (64, one (Cell.sl true (List.map eI v1501))), (65, one (cI v1492)), (66, one (Cell.pe true (eI b1521) 0)), (67, one (cI b1521)), (68, one (cI v1491)), (69, one (cL (decide (b1521 ≥ v1491)))), (71, one (Cell.own 0)), (72, one (Cell.ptr 1 3)), (74, one (cI v1492)), (77, one (Cell.own 0)), (78, one (Cell.ptr 1 3))] [(0, ⟨1, List.map eI v1490⟩)] [(1, [cI v1499, cL v1493, cS v1500, Cell.sl true (List.map eI v1501)])] 2) := by
                    refine hI _ _ _ ?_
                    refine A.take 9 rfl (by kernel_rfl) (by kernel_rfl) (by kernel_rfl) rfl (Ca.move) (fun Q0 k0 => L.move hF rfl rfl rfl (L.nil k0)) ?_
                    exact A.on (hO _ _ _ n715) (Le.mk [(0, 0), (1, 1)] hm rfl ⟨⟨_, rfl, rfl⟩, ⟨_, rfl, rfl⟩, ⟨_, rfl, rfl⟩, ⟨_, rfl, rfl⟩, ⟨_, rfl, rfl⟩, ⟨_, rfl, rfl⟩, ⟨_, rfl, rfl⟩, ⟨_, rfl, rfl⟩, ⟨_, rfl, rfl⟩, ⟨_, rfl, rfl⟩, ⟨_, rfl, rfl⟩, ⟨_, rfl, rfl⟩, ⟨_, rfl, rfl⟩, ⟨_, rfl, rfl⟩, ⟨_, rfl, rfl⟩, ⟨_, rfl, rfl⟩, ⟨_, rfl, rfl⟩, ⟨_, rfl, rfl⟩, ⟨_, rfl, rfl⟩, ⟨_, rfl, rfl⟩, ⟨_, rfl, rfl⟩, ⟨_, rfl, rfl⟩, ⟨_, rfl, rfl⟩, ⟨_, rfl, rfl⟩, ⟨_, rfl, rfl⟩, ⟨_, rfl, rfl⟩, ⟨_, rfl, rfl⟩, trivial⟩ ⟨⟨_, rfl, rfl⟩, trivial⟩ ⟨⟨_, _, rfl, rfl, rfl⟩, trivial⟩)
                  have n75 : W 13 #[true, true, false, true, false, false, true, false, false, false, false, false, false, false, false, false, false] (mkSt [(0, one (Cell.sl g0 (List.map eTimpl_Tlv v1489))), (3, one (Cell.own 0)), (4, one (cI v1491)), (5, one (Cell.ptr 1 0)), (6, one (cI v1492)), (30, one (Cell.ptr 1 1)), (31, one (cL v1493)), (32, one (cL v1494)), (37, one (cL v1495)), (40, one (Cell.ptr 1 1)), (41, one (cL v1493)), (42, one (cL v1496)), (43, one (cL v1497)), (47, one (cL v1498)), (63, one (Cell.ptr 1 3)), (64, one (Cell.sl true (List.map eI v1501))), (65, one (cI v1492)), (66, one (Cell.pe true (eI b1521) 0)), (67, one (cI b1521)), (68, one (cI v1491)), (69, one (cL (decide (b1521 ≥ v1491)))), (71, one (Cell.own 0)), (72, one (Cell.ptr 1 3)), (74, one (cI v1492)), (77, one (Cell.own 0))] [(0, ⟨1, List.map eI v1490⟩)] [(1, [cI v1499, cL v1493, cS v1500, Cell.sl true (List.map eI v1501)])] 2) := by
                    refine hI _ _ _ ?_
                    refine A.take 7 rfl (by kernel_rfl) (by kernel_rfl) (by kernel_rfl) rfl (Ca.fieldAddr Try.underlying63 rfl info24 rfl) (fun Q0 k0 => L.fieldAddr Try.underlying63 rfl info24 rfl hF rfl rfl rfl rfl rfl (L.nil k0)) ?_
                    exact A.on (hO _ _ _ n203) (Le.mk [(0, 0), (1, 1)] hm rfl ⟨⟨_, rfl, rfl⟩, ⟨_, rfl, rfl⟩, ⟨_, rfl, rfl⟩, ⟨_, rfl, rfl⟩, ⟨_, rfl, rfl⟩, ⟨_, rfl, rfl⟩, ⟨_, rfl, rfl⟩, ⟨_, rfl, rfl⟩, ⟨_, rfl, rfl⟩, ⟨_, rfl, rfl⟩, ⟨_, rfl, rfl⟩, ⟨_, rfl, rfl⟩, ⟨_, rfl, rfl⟩, ⟨_, rfl, rfl⟩, ⟨_, rfl, rfl⟩, ⟨_, rfl, rfl⟩, ⟨_, rfl, rfl⟩, ⟨_, rfl, rfl⟩, ⟨_, rfl, rfl⟩, ⟨_, rfl, rfl⟩, ⟨_, rfl, rfl⟩, ⟨_, rfl, rfl⟩, ⟨_, rfl, rfl⟩, ⟨_, rfl, rfl⟩, ⟨_, rfl, rfl⟩, ⟨_, rfl, rfl⟩, trivial⟩ ⟨⟨_, rfl, rfl⟩, trivial⟩ ⟨⟨_, _, rfl, rfl, rfl⟩, trivial⟩)
                  have n11 : W 14 #[true, true, false, true, false, false, false, false, false, false, false, false, false, false, false, false, false] (mkSt [(0, one (Cell.sl g0 (List.map eTimpl_Tlv v1489))), (3, one (Cell.own 0)), (4, one (cI v1491)), (5, one (Cell.ptr 1 0)), (6, one (cI v1492)), (30, one (Cell.ptr 1 1)), (31, one (cL v1493)), (32, one (cL v1494)), (37, one (cL v1495)), (40, one (Cell.ptr 1 1)), (41, one (cL v1493)), (42, one (cL v1496)), (43, one (cL v1497)), (47, one (cL v1498)), (63, one (Cell.ptr 1 3)), (64, one (Cell.sl true (List.map eI v1501))), (65, one (cI v1492)), (66, one (Cell.pe true (eI b1521) 0)), (67, one (cI b1521)), (68, one (cI v1491)), (69, one (cL (decide (b1521 ≥ v1491)))), (71, one (Cell.own 0)), (72, one (Cell.ptr 1 3)), (74, one (cI v1492))] [(0, ⟨1, List.map eI v1490⟩)] [(1, [cI v1499, cL v1493, cS v1500, Cell.sl true (List.map eI v1501)])] 2) := by
                    refine hI _ _ _ ?_
                    refine A.take 6 rfl (by kernel_rfl) (by kernel_rfl) (by kernel_rfl) rfl (Ca.move) (fun Q0 k0 => L.move hF rfl rfl rfl (L.nil k0)) ?_
                    exact A.on (hO _ _ _ n75) (Le.mk [(0, 0), (1, 1)] hm rfl ⟨⟨_, rfl, rfl⟩, ⟨_, rfl, rfl⟩, ⟨_, rfl, rfl⟩, ⟨_, rfl, rfl⟩, ⟨_, rfl, rfl⟩, ⟨_, rfl, rfl⟩, ⟨_, rfl, rfl⟩, ⟨_, rfl, rfl⟩, ⟨_, rfl, rfl⟩, ⟨_, rfl, rfl⟩, ⟨_, rfl, rfl⟩, ⟨_, rfl, rfl⟩, ⟨_, rfl, rfl⟩, ⟨_, rfl, rfl⟩, ⟨_, rfl, rfl⟩, ⟨_, rfl, rfl⟩, ⟨_, rfl, rfl⟩, ⟨_, rfl, rfl⟩, ⟨_, rfl, rfl⟩, ⟨_, rfl, rfl⟩, ⟨_, rfl, rfl⟩, ⟨_, rfl, rfl⟩, ⟨_, rfl, rfl⟩, ⟨_, rfl, rfl⟩, ⟨_, rfl, rfl⟩, trivial⟩ ⟨⟨_, rfl, rfl⟩, trivial⟩ ⟨⟨_, _, rfl, rfl, rfl⟩, trivial⟩)
                  have n3 : W 15 #[true, true, false, false, false, false, false, false, false, false, false, false, false, false, false, false, false] (mkSt [(0, one (Cell.sl g0 (List.map eTimpl_Tlv v1489))), (3, one (Cell.own 0)), (4, one (cI v1491)), (5, one (Cell.ptr 1 0)), (6, one (cI v1492)), (30, one (Cell.ptr 1 1)), (31, one (cL v1493)), (32, one (cL v1494)), (37, one (cL v1495)), (40, one (Cell.ptr 1 1)), (41, one (cL v1493)), (42, one (cL v1496)), (43, one (cL v1497)), (47, one (cL v1498)), (63, one (Cell.ptr 1 3)), (64, one (Cell.sl true (List.map eI v1501))), (65, one (cI v1492)), (66, one (Cell.pe true (eI b1521) 0)), (67, one (cI b1521)), (68, one (cI v1491)), (69, one (cL (decide (b1521 ≥ v1491)))), (71, one (Cell.own 0)), (72, one (Cell.ptr 1 3))] [(0, ⟨1, List.map eI v1490⟩)] [(1, [cI v1499, cL v1493, cS v1500, Cell.sl true (List.map eI v1501)])] 2) := by
                    refine hI _ _ _ ?_
                    refine A.take 3 rfl (by kernel_rfl) (by kernel_rfl) (by kernel_rfl) rfl (Ca.move) (fun Q0 k0 => L.move hF rfl rfl rfl (L.nil k0)) ?_
                    exact A.on (hO _ _ _ n11) (Le.mk [(0, 0), (1, 1)] hm rfl ⟨⟨_, rfl, rfl⟩, ⟨_, rfl, rfl⟩, ⟨_, rfl, rfl⟩, ⟨_, rfl, rfl⟩, ⟨_, rfl, rfl⟩, ⟨_, rfl, rfl⟩, ⟨_, rfl, rfl⟩, ⟨_, rfl, rfl⟩, ⟨_, rfl, rfl⟩, ⟨_, rfl, rfl⟩, ⟨_, rfl, rfl⟩, ⟨_, rfl, rfl⟩, ⟨_, rfl, rfl⟩, ⟨_, rfl, rfl⟩, ⟨_, rfl, rfl⟩, ⟨_, rfl, rfl⟩, ⟨_, rfl, rfl⟩, ⟨_, rfl, rfl⟩, ⟨_, rfl, rfl⟩, ⟨_, rfl, rfl⟩, ⟨_, rfl, rfl⟩, ⟨_, rfl, rfl⟩, ⟨_, rfl, rfl⟩, ⟨_, rfl, rfl⟩, trivial⟩ ⟨⟨_, rfl, rfl⟩, trivial⟩ ⟨⟨_, _, rfl, rfl, rfl⟩, trivial⟩)
                  have n1 : W 16 #[true, false, false, false, false, false, false, false, false, false, false, false, false, false, false, false, false] (mkSt [(0, one (Cell.sl g0 (List.map eTimpl_Tlv v1489))), (3, one (Cell.own 0)), (4, one (cI v1491)), (5, one (Cell.ptr 1 0)), (6, one (cI v1492)), (30, one (Cell.ptr 1 1)), (31, one (cL v1493)), (32, one (cL v1494)), (37, one (cL v1495)), (40, one (Cell.ptr 1 1)), (41, one (cL v1493)), (42, one (cL v1496)), (43, one (cL v1497)), (47, one (cL v1498)), (63, one (Cell.ptr 1 3)), (64, one (Cell.sl true (List.map eI v1501))), (65, one (cI v1492)), (66, one (Cell.pe true (eI b1521) 0)), (67, one (cI b1521)), (68, one (cI v1491)), (69, one (cL (decide (b1521 ≥ v1491)))), (71, one (Cell.own 0))] [(0, ⟨1, List.map eI v1490⟩)] [(1, [cI v1499, cL v1493, cS v1500, Cell.sl true (List.map eI v1501)])] 2) := by
                    refine hI _ _ _ ?_
                    refine A.take 1 rfl (by kernel_rfl) (by kernel_rfl) (by kernel_rfl) rfl (Ca.fieldAddr Try.underlying63 rfl info24 rfl) (fun Q0 k0 => L.fieldAddr Try.underlying63 rfl info24 rfl hF rfl rfl rfl rfl rfl (L.nil k0)) ?_
                    exact A.on (hO _ _ _ n3) (Le.mk [(0, 0), (1, 1)] hm rfl ⟨⟨_, rfl, rfl⟩, ⟨_, rfl, rfl⟩, ⟨_, rfl, rfl⟩, ⟨_, rfl, rfl⟩, ⟨_, rfl, rfl⟩, ⟨_, rfl, rfl⟩, ⟨_, rfl, rfl⟩, ⟨_, rfl, rfl⟩, ⟨_, rfl, rfl⟩, ⟨_, rfl, rfl⟩, ⟨_, rfl, rfl⟩, ⟨_, rfl, rfl⟩, ⟨_, rfl, rfl⟩, ⟨_, rfl, rfl⟩, ⟨_, rfl, rfl⟩, ⟨_, rfl, rfl⟩, ⟨_, rfl, rfl⟩, ⟨_, rfl, rfl⟩, ⟨_, rfl, rfl⟩, ⟨_, rfl, rfl⟩, ⟨_, rfl, rfl⟩, ⟨_, rfl, rfl⟩, ⟨_, rfl, rfl⟩, trivial⟩ ⟨⟨_, rfl, rfl⟩, trivial⟩ ⟨⟨_, _, rfl, rfl, rfl⟩, trivial⟩)
                  have n0 : W 17 #[false, false, false, false, false, false, false, false, false, false, false, false, false, false, false, false, false] (mkSt [(0, one (Cell.sl g0 (List.map eTimpl_Tlv v1489))), (3, one (Cell.own 0)), (4, one (cI v1491)), (5, one (Cell.ptr 1 0)), (6, one (cI v1492)), (30, one (Cell.ptr 1 1)), (31, one (cL v1493)), (32, one (cL v1494)), (37, one (cL v1495)), (40, one (Cell.ptr 1 1)), (41, one (cL v1493)), (42, one (cL v1496)), (43, one (cL v1497)), (47, one (cL v1498)), (63, one (Cell.ptr 1 3)), (64, one (Cell.sl true (List.map eI v1501))), (65, one (cI v1492)), (66, one (Cell.pe true (eI b1521) 0)), (67, one (cI b1521)), (68, one (cI v1491)), (69, one (cL (decide (b1521 ≥ v1491))))] [(0, ⟨1, List.map eI v1490⟩)] [(1, [cI v1499, cL v1493, cS v1500, Cell.sl true (List.map eI v1501)])] 2) := by
                    refine hI _ _ _ ?_
                    refine A.take 0 rfl (by kernel_rfl) (by kernel_rfl) (by kernel_rfl) rfl (Ca.move) (fun Q0 k0 => L.move hF rfl rfl rfl (L.nil k0)) ?_
                    exact A.on (hO _ _ _ n1) (Le.mk [(0, 0), (1, 1)] hm rfl ⟨⟨_, rfl, rfl⟩, ⟨_, rfl, rfl⟩, ⟨_, rfl, rfl⟩, ⟨_, rfl, rfl⟩, ⟨_, rfl, rfl⟩, ⟨_, rfl, rfl⟩, ⟨_, rfl, rfl⟩, ⟨_, rfl, rfl⟩, ⟨_, rfl, rfl⟩, ⟨_, rfl, rfl⟩, ⟨_, rfl, rfl⟩, ⟨_, rfl, rfl⟩, ⟨_, rfl, rfl⟩, ⟨_, rfl, rfl⟩, ⟨_, rfl, rfl⟩, ⟨_, rfl, rfl⟩, ⟨_, rfl, rfl⟩, ⟨_, rfl, rfl⟩, ⟨_, rfl, rfl⟩, ⟨_, rfl, rfl⟩, ⟨_, rfl, rfl⟩, ⟨_, rfl, rfl⟩, trivial⟩ ⟨⟨_, rfl, rfl⟩, trivial⟩ ⟨⟨_, _, rfl, rfl, rfl⟩, trivial⟩)
                  exact hI _ _ _ (A.on (hO _ _ _ n0) (Le.mk [(0, 0), (1, 1)] hm rfl ⟨⟨_, rfl, rfl⟩, ⟨_, rfl, rfl⟩, ⟨_, rfl, rfl⟩, ⟨_, rfl, rfl⟩, ⟨_, rfl, rfl⟩, ⟨_, rfl, rfl⟩, ⟨_, rfl, rfl⟩, ⟨_, rfl, rfl⟩, ⟨_, rfl, rfl⟩, ⟨_, rfl, rfl⟩, ⟨_, rfl, rfl⟩, ⟨_, rfl, rfl⟩, ⟨_, rfl, rfl⟩, ⟨_, rfl, rfl⟩, ⟨_, rfl, rfl⟩, ⟨_, rfl, rfl⟩, ⟨_, rfl, rfl⟩, ⟨_, rfl, rfl⟩, ⟨_, rfl, rfl⟩, ⟨_, rfl, rfl⟩, ⟨_, rfl, rfl⟩, trivial⟩ ⟨⟨_, rfl, rfl⟩, trivial⟩ ⟨⟨_, _, rfl, rfl, rfl⟩, trivial⟩))
            · replace H := condF hc H
              refine WpC.exit ?_
              refine WpC.regionL ?_
              refine L.move hF rfl rfl rfl ?_
              refine L.bin hF rfl rfl rfl rfl rfl rfl ?_
              refine L.assign hF rfl rfl rfl ?_
              refine L.nil ?_
              exact ⟨k22, _, by omega, ⟨v1489, v1490, (IntKind.i64.wrap (v1491 + (1 : Int))), by omega, H, rfl⟩, Le.mk [(0, 0)] hm rfl ⟨⟨_, rfl, rfl⟩, ⟨_, rfl, rfl⟩, ⟨_, rfl, rfl⟩, trivial⟩ ⟨⟨_, rfl, rfl⟩, trivial⟩ trivial⟩
        · refine WpC.seq ?_
          refine WpC.regionL ?_
          refine L.fieldAddr Try.underlying63 rfl info3 rfl hF rfl rfl rfl rfl rfl ?_
          refine L.loadPtr shape3 hF rfl rfl rfl rfl rfl rfl ?_
          obtain ⟨r1527, hr1527, H⟩ := bindS H
          refine L.call [false, false, false] [] [] 2 hF rfl rfl rfl ent152 rfl rfl rfl rfl rfl (Fspec_l1In_gives k22  b1401.Tag (1 : Int) (100 : Int) r1527 hr1527) rfl ?_
          refine L.not hF rfl rfl rfl ?_
          refine L.move hF rfl rfl rfl ?_
          refine L.split (fun hc => ?_) (fun hc => ?_)
          · replace H := condT hc H
            refine L.off hF rfl rfl ?_
            refine L.off hF rfl rfl ?_
            refine L.off hF rfl rfl ?_
            refine L.off hF rfl rfl ?_
            refine L.off hF rfl rfl ?_
            refine L.off hF rfl rfl ?_
            refine L.off hF rfl rfl ?_
            refine L.off hF rfl rfl ?_
            refine L.pick hF rfl rfl rfl rfl ?_
            refine L.move hF rfl rfl rfl ?_
            refine L.off hF rfl rfl ?_
            refine L.off hF rfl rfl ?_
            refine L.off hF rfl rfl ?_
            refine L.off hF rfl rfl ?_
            refine L.off hF rfl rfl ?_
            refine L.off hF rfl rfl ?_
            refine L.off hF rfl rfl ?_
            refine L.off hF rfl rfl ?_
            refine L.pick hF rfl rfl rfl rfl ?_
            refine L.nil ?_
            refine WpC.cond rfl (fun _ => ?_) (fun hc => by cases hc)
            refine WpC.seq ?_
            refine WpC.regionL ?_
            refine L.assign hF rfl rfl rfl ?_
            refine L.nil ?_
            refine WpC.ret ?_
            cases H
            exact Leaves.ret rfl rfl rfl ⟨rfl, rfl⟩
          · replace H := condF hc H
            refine L.fieldAddr Try.underlying63 rfl info4 rfl hF rfl rfl rfl rfl rfl ?_
            refine L.loadPtr shape4 hF rfl rfl rfl rfl rfl rfl ?_
            refine L.move hF rfl rfl rfl ?_
            refine L.split (fun hc => ?_) (fun hc => ?_)
            · replace H := condT hc H
              refine L.fieldAddr Try.underlying63 rfl info24 rfl hF rfl rfl rfl rfl rfl ?_
              refine L.loadPtr shape24 hF rfl rfl rfl rfl rfl rfl ?_
              refine L.lenR (xs := b1401.Kids) (e := eI) Try.underlying24 hF rfl rfl rfl rfl ?_
              refine L.bin hF rfl rfl rfl rfl rfl rfl ?_
              refine L.pick hF rfl rfl rfl rfl ?_
              refine L.pick hF rfl rfl rfl rfl ?_
              refine L.move hF rfl rfl rfl ?_
              refine L.split (fun hc => ?_) (fun hc => ?_)
              · replace H := condT hc H
                refine L.off hF rfl rfl ?_
                refine L.off hF rfl rfl ?_
                refine L.off hF rfl rfl ?_
                refine L.off hF rfl rfl ?_
                refine L.off hF rfl rfl ?_
                refine L.off hF rfl rfl ?_
                refine L.off hF rfl rfl ?_
                refine L.off hF rfl rfl ?_
                refine L.pick hF rfl rfl rfl rfl ?_
                refine L.nil ?_
                refine WpC.cond rfl (fun _ => ?_) (fun hc => by cases hc)
                refine WpC.seq ?_
                refine WpC.regionL ?_
                refine L.assign hF rfl rfl rfl ?_
                refine L.nil ?_
                refine WpC.ret ?_
                cases H
                exact Leaves.ret rfl rfl rfl ⟨rfl, rfl⟩
              · replace H := condF hc H
                refine L.fieldAddr Try.underlying63 rfl info4 rfl hF rfl rfl rfl rfl rfl ?_
                refine L.loadPtr shape4 hF rfl rfl rfl rfl rfl rfl ?_
                refine L.not hF rfl rfl rfl ?_
                refine L.move hF rfl rfl rfl ?_
                refine L.split (fun hc => ?_) (fun hc => ?_)
                · replace H := condT hc H
                  refine L.fieldAddr Try.underlying63 rfl info9 rfl hF rfl rfl rfl rfl rfl ?_
                  refine L.loadPtr shape9 hF rfl rfl rfl rfl rfl rfl ?_
                  refine L.binS hF rfl rfl rfl rfl rfl ?_
                  refine L.pick hF rfl rfl rfl rfl ?_
                  refine L.pick hF rfl rfl rfl rfl ?_
                  refine L.nil ?_
                  refine WpC.cond rfl (fun hc => ?_) (fun hc => ?_)
                  · replace H := condT hc H
                    refine WpC.seq ?_
                    refine WpC.regionL ?_
                    refine L.assign hF rfl rfl rfl ?_
                    refine L.nil ?_
                    refine WpC.ret ?_
                    cases H
                    exact Leaves.ret rfl rfl rfl ⟨rfl, rfl⟩
                  · replace H := condF hc H
                    refine WpC.skip ?_
                    exact ⟨_, ⟨k22, v1271, v1272, v1273, b1401.Leaf, true, (decide ((b1401.Kids.length : Int) > (0 : Int))), (!b1401.Leaf), true, (b1401.Data != ([] : List UInt8)), b1401.Tag, b1401.Data, b1401.Kids, by omega, H, rfl⟩, Le.mk [(0, 0), (1, 1)] hm rfl ⟨⟨_, rfl, rfl⟩, ⟨_, rfl, rfl⟩, ⟨_, rfl, rfl⟩, ⟨_, rfl, rfl⟩, ⟨_, rfl, rfl⟩, ⟨_, rfl, rfl⟩, ⟨_, rfl, rfl⟩, ⟨_, rfl, rfl⟩, ⟨_, rfl, rfl⟩, ⟨_, rfl, rfl⟩, ⟨_, rfl, rfl⟩, ⟨_, rfl, rfl⟩, ⟨_, rfl, rfl⟩, trivial⟩ ⟨⟨_, rfl, rfl⟩, trivial⟩ ⟨⟨_, _, rfl, rfl, rfl⟩, trivial⟩⟩
                · replace H := condF hc H
                  refine L.off hF rfl rfl ?_
                  refine L.off hF rfl rfl ?_
                  refine L.off hF rfl rfl ?_
                  refine L.pick hF rfl rfl rfl rfl ?_
                  refine L.pick hF rfl rfl rfl rfl ?_
                  refine L.nil ?_
                  refine WpC.cond rfl (fun hc => by cases hc) (fun _ => ?_)
                  refine WpC.skip ?_
                  exact ⟨_, ⟨k22, v1271, v1272, v1273, b1401.Leaf, true, (decide ((b1401.Kids.length : Int) > (0 : Int))), (!b1401.Leaf), false, false, b1401.Tag, b1401.Data, b1401.Kids, by omega, H, rfl⟩, Le.mk [(0, 0), (1, 1)] hm rfl ⟨⟨_, rfl, rfl⟩, ⟨_, rfl, rfl⟩, ⟨_, rfl, rfl⟩, ⟨_, rfl, rfl⟩, ⟨_, rfl, rfl⟩, ⟨_, rfl, rfl⟩, ⟨_, rfl, rfl⟩, ⟨_, rfl, rfl⟩, ⟨_, rfl, rfl⟩, ⟨_, rfl, rfl⟩, ⟨_, rfl, rfl⟩, ⟨_, rfl, rfl⟩, ⟨_, rfl, rfl⟩, trivial⟩ ⟨⟨_, rfl, rfl⟩, trivial⟩ ⟨⟨_, _, rfl, rfl, rfl⟩, trivial⟩⟩
            · replace H := condF hc H
              refine L.off hF rfl rfl ?_
              refine L.off hF rfl rfl ?_
              refine L.off hF rfl rfl ?_
              refine L.off hF rfl rfl ?_
              refine L.pick hF rfl rfl rfl rfl ?_
              refine L.pick hF rfl rfl rfl rfl ?_
              refine L.move hF rfl rfl rfl ?_
              refine L.fieldAddr Try.underlying63 rfl info4 rfl hF rfl rfl rfl rfl rfl ?_
              refine L.loadPtr shape4 hF rfl rfl rfl rfl rfl rfl ?_
              refine L.not hF rfl rfl rfl ?_
              refine L.move hF rfl rfl rfl ?_
              refine L.split (fun hc => ?_) (fun hc => ?_)
              · replace H := condT hc H
                refine L.fieldAddr Try.underlying63 rfl info9 rfl hF rfl rfl rfl rfl rfl ?_
                refine L.loadPtr shape9 hF rfl rfl rfl rfl rfl rfl ?_
                refine L.binS hF rfl rfl rfl rfl rfl ?_
                refine L.pick hF rfl rfl rfl rfl ?_
                refine L.pick hF rfl rfl rfl rfl ?_
                refine L.nil ?_
                refine WpC.cond rfl (fun hc => ?_) (fun hc => ?_)
                · replace H := condT hc H
                  refine WpC.seq ?_
                  refine WpC.regionL ?_
                  refine L.assign hF rfl rfl rfl ?_
                  refine L.nil ?_
                  refine WpC.ret ?_
                  cases H
                  exact Leaves.ret rfl rfl rfl ⟨rfl, rfl⟩
                · replace H := condF hc H
                  refine WpC.skip ?_
                  exact ⟨_, ⟨k22, v1271, v1272, v1273, b1401.Leaf, false, false, (!b1401.Leaf), true, (b1401.Data != ([] : List UInt8)), b1401.Tag, b1401.Data, b1401.Kids, by omega, H, rfl⟩, Le.mk [(0, 0), (1, 1)] hm rfl ⟨⟨_, rfl, rfl⟩, ⟨_, rfl, rfl⟩, ⟨_, rfl, rfl⟩, ⟨_, rfl, rfl⟩, ⟨_, rfl, rfl⟩, ⟨_, rfl, rfl⟩, ⟨_, rfl, rfl⟩, ⟨_, rfl, rfl⟩, ⟨_, rfl, rfl⟩, ⟨_, rfl, rfl⟩, ⟨_, rfl, rfl⟩, ⟨_, rfl, rfl⟩, ⟨_, rfl, rfl⟩, trivial⟩ ⟨⟨_, rfl, rfl⟩, trivial⟩ ⟨⟨_, _, rfl, rfl, rfl⟩, trivial⟩⟩
              · replace H := condF hc H
                refine L.off hF rfl rfl ?_
                refine L.off hF rfl rfl ?_
                refine L.off hF rfl rfl ?_
                refine L.pick hF rfl rfl rfl rfl ?_
                refine L.pick hF rfl rfl rfl rfl ?_
                refine L.nil ?_
                refine WpC.cond rfl (fun hc => by cases hc) (fun _ => ?_)
                refine WpC.skip ?_
                exact ⟨_, ⟨k22, v1271, v1272, v1273, b1401.Leaf, false, false, (!b1401.Leaf), false, false, b1401.Tag, b1401.Data, b1401.Kids, by omega, H, rfl⟩, Le.mk [(0, 0), (1, 1)] hm rfl ⟨⟨_, rfl, rfl⟩, ⟨_, rfl, rfl⟩, ⟨_, rfl, rfl⟩, ⟨_, rfl, rfl⟩, ⟨_, rfl, rfl⟩, ⟨_, rfl, rfl⟩, ⟨_, rfl, rfl⟩, ⟨_, rfl, rfl⟩, ⟨_, rfl, rfl⟩, ⟨_, rfl, rfl⟩, ⟨_, rfl, rfl⟩, ⟨_, rfl, rfl⟩, ⟨_, rfl, rfl⟩, trivial⟩ ⟨⟨_, rfl, rfl⟩, trivial⟩ ⟨⟨_, _, rfl, rfl, rfl⟩, trivial⟩⟩
      · replace H := condF hc H
        refine WpC.exit ?_
        refine WpC.seq ?_
        refine WpC.seq ?_
        refine WpC.regionL ?_
        refine L.assign hF rfl rfl rfl ?_
        refine L.nil ?_
        refine WpC.block ?_
        refine WpC.loopL (P := Try.prog) (fun n σ => ∃ v1546 : List Int, ∃ v1547 : Int, n ≤ K ∧ Fspec_l14Tree.l28 n v1546 v1547 = some r ∧ σ = mkSt [(3, one (Cell.own 0)), (7, one (cI v1547))] [(0, ⟨1, List.map eI v1546⟩)] [] 1) k22 ⟨_, ⟨v1272, (0 : Int), by omega, H, rfl⟩, Le.mk [(0, 0)] hm rfl ⟨⟨_, rfl, rfl⟩, ⟨_, rfl, rfl⟩, trivial⟩ ⟨⟨_, rfl, rfl⟩, trivial⟩ trivial⟩ ?_
        clear H
        rintro k28 _ ⟨v1546, v1547, hk28, H, rfl⟩
        cases k28 with
        | zero => cases H
        | succ k28 =>
          rw [Fspec_l14Tree.l28] at H
          refine WpC.seq ?_
          refine WpC.seq ?_
          refine WpC.regionL ?_
          refine L.move hF rfl rfl rfl ?_
          refine L.move hF rfl rfl rfl ?_
          refine L.lenR (xs := v1546) (e := eI) Try.underlying24 hF rfl rfl rfl rfl ?_
          refine L.bin hF rfl rfl rfl rfl rfl rfl ?_
          refine L.bin hF rfl rfl rfl rfl rfl rfl ?_
          refine L.nil ?_
          refine WpC.cond rfl (fun hc => ?_) (fun hc => ?_)
          · replace H := condT hc H
            refine WpC.skip ?_
            refine WpC.seq ?_
            refine WpC.block ?_
            refine WpC.seq ?_
            refine WpC.regionL ?_
            refine L.move hF rfl rfl rfl ?_
            refine L.move hF rfl rfl rfl ?_
            obtain ⟨b1549, hb1549, H⟩ := bindS H
            refine L.idxR (xs := v1546) (e := eI) Try.underlying24 info3 hF rfl rfl rfl rfl rfl hb1549 rfl rfl ?_
            refine L.loadEp (xs := v1546) (e := eI) shape3 hF rfl rfl rfl rfl (at?_get hb1549).2 rfl rfl ?_
            refine L.bin hF rfl rfl rfl rfl rfl rfl ?_
            refine L.nil ?_
            refine WpC.cond rfl (fun hc => ?_) (fun hc => ?_)
            · replace H := condT hc H
              refine WpC.seq ?_
              refine WpC.regionL ?_
              refine L.assign hF rfl rfl rfl ?_
              refine L.nil ?_
              refine WpC.ret ?_
              cases H
              exact Leaves.ret rfl rfl rfl ⟨rfl, rfl⟩
            · replace H := condF hc H
              refine WpC.skip ?_
              refine WpC.regionL ?_
              refine L.move hF rfl rfl rfl ?_
              refine L.bin hF rfl rfl rfl rfl rfl rfl ?_
              refine L.assign hF rfl rfl rfl ?_
              refine L.nil ?_
              exact ⟨k28, _, by omega, ⟨v1546, (IntKind.i64.wrap (v1547 + (1 : Int))), by omega, H, rfl⟩, Le.mk [(0, 0)] hm rfl ⟨⟨_, rfl, rfl⟩, ⟨_, rfl, rfl⟩, trivial⟩ ⟨⟨_, rfl, rfl⟩, trivial⟩ trivial⟩
          · replace H := condF hc H
            refine WpC.exit ?_
            refine WpC.seq ?_
            refine WpC.regionL ?_
            refine L.assign hF rfl rfl rfl ?_
            refine L.nil ?_
            refine WpC.ret ?_
            cases H
            exact Leaves.ret rfl rfl rfl ⟨rfl, rfl⟩
/-! ### Fspec_Var -/
def Fspec_Var.l2 : Nat → Int → (List UInt8) → Option (List UInt8)
  | 0, _, _ => none
  | k2 + 1, v16, v17 => cond (decide (v16 ≥ (128 : Int))) (cond (decide ((2 * (v17.length + ([(ofI (IntKind.i64.wrap ((128 : Int) + (Int.tmod v16 (128 : Int)))))] : List UInt8).length) + 192) * 1 ≤ 281474976710656)) ((Fspec_Var.l2 k2) (IntKind.i64.wrap (Int.tdiv v16 (128 : Int))) (v17 ++ ([(ofI (IntKind.i64.wrap ((128 : Int) + (Int.tmod v16 (128 : Int)))))] : List UInt8))) none) (cond (decide ((2 * (v17.length + ([(ofI v16)] : List UInt8).length) + 192) * 1 ≤ 281474976710656)) (some (v17 ++ ([(ofI v16)] : List UInt8))) none)
def Fspec_Var (k : Nat) (a0 : Int) : Option (List UInt8) := (Fspec_l1In k a0 (0 : Int) (562949953421311 : Int)).bind fun r2 => cond (!r2) (some ([] : List UInt8)) (Fspec_Var.l2 k a0 ([] : List UInt8))
theorem ent128 : Enters Try.prog 128 := ⟨Try.f128, Try.func128, rfl, by decide⟩
set_option maxHeartbeats 8000000 in
set_option maxRecDepth 100000 in
theorem Fspec_Var_gives (k : Nat) (a0 : Int) (r : List UInt8) (H : Fspec_Var k a0 = some r) : Gives Try.prog 128 [V.one (cI a0)] [] [V.one (cS r)] [] := by
  refine Gives.intro Try.func128 rfl rfl rfl rfl ?_
  intro F hF hm
  unfold Fspec_Var at H
  obtain ⟨K, hK⟩ : ∃ K, k ≤ K := ⟨k, Nat.le_refl k⟩
  refine WpC.seq ?_
  refine WpC.regionL ?_
  refine L.assign hF rfl rfl rfl ?_
  refine L.nil ?_
  refine WpC.seq ?_
  refine WpC.seq ?_
  refine WpC.regionL ?_
  refine L.move hF rfl rfl rfl ?_
  obtain ⟨r2, hr2, H⟩ := bindS H
  refine L.call [false, false, false] [] [] 1 hF rfl rfl rfl ent152 rfl rfl rfl rfl rfl (Fspec_l1In_gives k  a0 (0 : Int) (562949953421311 : Int) r2 hr2) rfl ?_
  refine L.not hF rfl rfl rfl ?_
  refine L.nil ?_
  refine WpC.cond rfl (fun hc => ?_) (fun hc => ?_)
  · replace H := condT hc H
    refine WpC.seq ?_
    refine WpC.regionL ?_
    refine L.assign hF rfl rfl rfl ?_
    refine L.nil ?_
    refine WpC.ret ?_
    cases H
    exact Leaves.ret rfl rfl rfl ⟨rfl, rfl⟩
  · replace H := condF hc H
    refine WpC.skip ?_
    refine WpC.seq ?_
    refine WpC.regionL ?_
    refine L.buildSlice (e := eB) 2 ([] : List UInt8) Try.underlying50 info5 rfl rfl rfl hF rfl rfl rfl rfl rfl rfl rfl rfl ?_
    refine L.assign hF rfl rfl rfl ?_
    refine L.nil ?_
    refine WpC.seq ?_
    refine WpC.block ?_
    refine WpC.loopL (P := Try.prog) (fun n σ => ∃ v16 : Int, ∃ v17 : List UInt8, n ≤ K ∧ Fspec_Var.l2 n v16 v17 = some r ∧ σ = mkSt [(0, one (cI v16)), (3, one (Cell.own 0))] [(0, ⟨1, List.map eB v17⟩)] [] 1) k ⟨_, ⟨a0, ([] : List UInt8), by omega, H, rfl⟩, Le.mk [(0, 2)] hm rfl ⟨⟨_, rfl, rfl⟩, ⟨_, rfl, rfl⟩, trivial⟩ ⟨⟨_, rfl, rfl⟩, trivial⟩ trivial⟩ ?_
    clear H
    rintro k2 _ ⟨v16, v17, hk2, H, rfl⟩
    cases k2 with
    | zero => cases H
    | succ k2 =>
      rw [Fspec_Var.l2] at H
      refine WpC.seq ?_
      refine WpC.seq ?_
      refine WpC.regionL ?_
      refine L.move hF rfl rfl rfl ?_
      refine L.bin hF rfl rfl rfl rfl rfl rfl ?_
      refine L.nil ?_
      refine WpC.cond rfl (fun hc => ?_) (fun hc => ?_)
      · replace H := condT hc H
        refine WpC.skip ?_
        refine WpC.block ?_
        refine WpC.seq ?_
        refine WpC.regionL ?_
        refine L.move hF rfl rfl rfl ?_
        refine L.move hF rfl rfl rfl ?_
        refine L.rem hF rfl rfl rfl rfl (by decide) ?_
        refine L.bin hF rfl rfl rfl rfl rfl rfl ?_
        refine L.toB Try.underlying3 Try.underlying5 hF rfl rfl rfl ?_
        refine L.buildSlice (e := eB) 1 ([(ofI (IntKind.i64.wrap ((128 : Int) + (Int.tmod v16 (128 : Int)))))] : List UInt8) Try.underlying50 info5 rfl rfl rfl hF rfl rfl rfl rfl rfl rfl rfl rfl ?_
        obtain ⟨h18, H⟩ := condG H
        refine L.append (xs := v17) (ys := ([(ofI (IntKind.i64.wrap ((128 : Int) + (Int.tmod v16 (128 : Int)))))] : List UInt8)) (e := eB) 2 Try.underlying50 info5 rfl rfl hF rfl rfl rfl rfl rfl rfl rfl rfl (fun _ => rfl) (fun _ _ h1 h2 => by cases h1; cases h2; rfl) ⟨_, Try.underlying50⟩ (of_decide_eq_true h18) rfl rfl ?_
        refine L.assign hF rfl rfl rfl ?_
        refine L.nil ?_
        refine WpC.regionL ?_
        refine L.move hF rfl rfl rfl ?_
        refine L.quo hF rfl rfl rfl rfl (by decide) ?_
        refine L.assign hF rfl rfl rfl ?_
        refine L.nil ?_
        exact ⟨k2, _, by omega, ⟨(IntKind.i64.wrap (Int.tdiv v16 (128 : Int))), (v17 ++ ([(ofI (IntKind.i64.wrap ((128 : Int) + (Int.tmod v16 (128 : Int)))))] : List UInt8)), by omega, H, rfl⟩, Le.mk [(0, 2)] hm rfl ⟨⟨_, rfl, rfl⟩, ⟨_, rfl, rfl⟩, trivial⟩ ⟨⟨_, rfl, rfl⟩, trivial⟩ trivial⟩
      · replace H := condF hc H
        refine WpC.exit ?_
        refine WpC.seq ?_
        refine WpC.regionL ?_
        refine L.move hF rfl rfl rfl ?_
        refine L.move hF rfl rfl rfl ?_
        refine L.toB Try.underlying3 Try.underlying5 hF rfl rfl rfl ?_
        refine L.buildSlice (e := eB) 1 ([(ofI v16)] : List UInt8) Try.underlying50 info5 rfl rfl rfl hF rfl rfl rfl rfl rfl rfl rfl rfl ?_
        obtain ⟨h19, H⟩ := condG H
        refine L.append (xs := v17) (ys := ([(ofI v16)] : List UInt8)) (e := eB) 2 Try.underlying50 info5 rfl rfl hF rfl rfl rfl rfl rfl rfl rfl rfl (fun _ => rfl) (fun _ _ h1 h2 => by cases h1; cases h2; rfl) ⟨_, Try.underlying50⟩ (of_decide_eq_true h19) rfl rfl ?_
        refine L.b2s (xs := (v17 ++ ([(ofI v16)] : List UInt8))) Try.underlying50 Try.underlying5 Try.underlying9 hF rfl rfl rfl rfl ?_
        refine L.assign hF rfl rfl rfl ?_
        refine L.nil ?_
        refine WpC.ret ?_
        cases H
        exact Leaves.ret rfl rfl rfl ⟨rfl, rfl⟩
/-! ### Fspec_l14Show -/
def Fspec_l14Show.l2 (cREC : (List Timpl_Tlv) → Int → Option (List UInt8)) : Nat → (List Timpl_Tlv) → (List UInt8) → Int → Int → Bool → (List UInt8) → (List Int) → Option (List UInt8)
  | 0, _, _, _, _, _, _, _ => none
  | k2 + 1, v69, v70, v71, v72, v73, v74, v75 => cond (decide (v71 < (v75.length : Int))) ((at? v75 v71).bind fun b79 => (cREC v69 b79).bind fun r80 => cond (decide (v70.length + r80.length ≤ 9223372036854775807)) ((Fspec_l14Show.l2 cREC k2) v69 (v70 ++ r80) (IntKind.i64.wrap (v71 + (1 : Int))) v72 v73 v74 v75) none) ((Fspec_Var k2 (v70.length : Int)).bind fun r82 => cond (decide (([(ofI (IntKind.i64.wrap (v72 + (128 : Int))))] : List UInt8).length + r82.length ≤ 9223372036854775807)) (cond (decide ((([(ofI (IntKind.i64.wrap (v72 + (128 : Int))))] : List UInt8) ++ r82).length + v70.length ≤ 9223372036854775807)) (some ((([(ofI (IntKind.i64.wrap (v72 + (128 : Int))))] : List UInt8) ++ r82) ++ v70)) none) none)
def Fspec_l14Show : Nat → (List Timpl_Tlv) → Int → Option (List UInt8)
  | 0, _, _ => none
  | k + 1, a0, a1 => (at? a0 a1).bind fun b1 => cond b1.Leaf ((Fspec_Var k (b1.Data.length : Int)).bind fun r5 => cond (decide (([(ofI b1.Tag)] : List UInt8).length + r5.length ≤ 9223372036854775807)) (cond (decide ((([(ofI b1.Tag)] : List UInt8) ++ r5).length + b1.Data.length ≤ 9223372036854775807)) (some ((([(ofI b1.Tag)] : List UInt8) ++ r5) ++ b1.Data)) none) none) (Fspec_l14Show.l2 (Fspec_l14Show k) k a0 ([] : List UInt8) (0 : Int) b1.Tag b1.Leaf b1.Data b1.Kids)
theorem ent110 : Enters Try.prog 110 := ⟨Try.f110, Try.func110, rfl, by decide⟩
set_option maxHeartbeats 8000000 in
set_option maxRecDepth 100000 in
theorem Fspec_l14Show_gives : ∀ (k : Nat) (g0 : Bool) (a0 : List Timpl_Tlv) (a1 : Int) (r : List UInt8) (H : Fspec_l14Show k a0 a1 = some r), Gives Try.prog 110 [V.one (Cell.sl g0 (List.map eTimpl_Tlv a0)), V.one (cI a1)] [] [V.one (cS r)] [] := by
  intro k
  induction k with
  | zero => intros; rename_i H; cases H
  | succ k ih =>
    intro g0 a0 a1 r H
    refine Gives.intro Try.func110 rfl rfl rfl rfl ?_
    intro F hF hm
    rw [Fspec_l14Show] at H
    obtain ⟨K, hK⟩ : ∃ K, k ≤ K := ⟨k, Nat.le_refl k⟩
    refine WpC.seq ?_
    refine WpC.regionL ?_
    refine L.assign hF rfl rfl rfl ?_
    refine L.nil ?_
    refine WpC.seq ?_
    refine WpC.regionL ?_
    refine L.move hF rfl rfl rfl ?_
    refine L.move hF rfl rfl rfl ?_
    obtain ⟨b1, hb1, H⟩ := bindS H
    refine L.idxR (xs := a0) (e := eTimpl_Tlv) Try.underlying33 info63 hF rfl rfl rfl rfl rfl hb1 rfl rfl ?_
    refine L.loadPe shape63 hF rfl rfl rfl rfl rfl ?_
    refine L.alloc 2 info63 rfl hF rfl rfl rfl rfl ?_
    refine L.storePtr shape63 hF rfl rfl rfl rfl rfl rfl rfl ?_
    refine L.nil ?_
    refine WpC.seq ?_
    refine WpC.seq ?_
    refine WpC.regionL ?_
    refine L.fieldAddr Try.underlying63 rfl info4 rfl hF rfl rfl rfl rfl rfl ?_
    refine L.loadPtr shape4 hF rfl rfl rfl rfl rfl rfl ?_
    refine L.nil ?_
    refine WpC.cond rfl (fun hc => ?_) (fun hc => ?_)
    · replace H := condT hc H
      refine WpC.seq ?_
      obtain ⟨r5, hr5, H⟩ := bindS H
      obtain ⟨h6, H⟩ := condG H
      obtain ⟨h7, H⟩ := condG H
      refine A.begin mixed rfl rfl ?_
      intro W hI hO
      have n16383 : W 0 #[true, true, true, true, true, true, true, true, true, true, true, true, true, true] (mkSt [(4, one (cS ((([(ofI b1.Tag)] : List UInt8) ++ r5) ++ b1.Data)))] [] [] 0) := by
        refine hI _ _ _ (A.done (by kernel_rfl) ?_)
        refine WpC.ret ?_
        cases H
        exact Leaves.ret rfl rfl rfl ⟨rfl, rfl⟩
      have n8191 : W 1 #[true, true, true, true, true, true, true, true, true, true, true, true, true, false] (mkSt [(4, one (cS ([] : List UInt8))), (26, one (cS ((([(ofI b1.Tag)] : List UInt8) ++ r5) ++ b1.Data)))] [] [] 0) := by
        refine hI _ _ _ ?_
        refine A.take 13 rfl (by kernel_rfl) (by kernel_rfl) (by kernel_rfl) rfl (Ca.assign) (fun Q0 k0 => L.assign hF rfl rfl rfl (L.nil k0)) ?_
        exact A.on (hO _ _ _ n16383) (Le.mk [] hm rfl ⟨⟨_, rfl, rfl⟩, trivial⟩ trivial trivial)
      have n4095 : W 2 #[true, true, true, true, true, true, true, true, true, true, true, true, false, false] (mkSt [(4, one (cS ([] : List UInt8))), (23, one (cS (([(ofI b1.Tag)] : List UInt8) ++ r5))), (25, one (cS b1.Data))] [] [] 0) := by
        refine hI _ _ _ ?_
        refine A.take 12 rfl (by kernel_rfl) (by kernel_rfl) (by kernel_rfl) rfl (Ca.bin rfl rfl (calm_str _ _ _ _ _ _)) (fun Q0 k0 => L.catS hF rfl rfl rfl rfl (of_decide_eq_true h7) (L.nil k0)) ?_
        exact A.on (hO _ _ _ n8191) (Le.mk [] hm rfl ⟨⟨_, rfl, rfl⟩, ⟨_, rfl, rfl⟩, trivial⟩ trivial trivial)
      have n2047 : W 3 #[true, true, true, true, true, true, true, true, true, true, true, false, false, false] (mkSt [(4, one (cS ([] : List UInt8))), (23, one (cS (([(ofI b1.Tag)] : List UInt8) ++ r5))), (24, one (Cell.ptr 0 2))] [] [(0, [cI b1.Tag, cL b1.Leaf, cS b1.Data, Cell.sl true (List.map eI b1.Kids)])] 1) := by
        refine hI _ _ _ ?_
        refine A.all [11] (by kernel_rfl) rfl ⟨⟨_, rfl, ?_⟩, trivial⟩
        · refine L.loadPtr shape9 hF rfl rfl rfl rfl rfl rfl ?_
          refine L.nil ?_
          exact A.on (hO _ _ _ n4095) (Le.mk [] hm rfl ⟨⟨_, rfl, rfl⟩, ⟨_, rfl, rfl⟩, ⟨_, rfl, rfl⟩, trivial⟩ trivial trivial)
      have n3583 : W 3 #[true, true, true, true, true, true, true, true, true, false, true, true, false, false] (mkSt [(4, one (cS ([] : List UInt8))), (18, one (cS ([(ofI b1.Tag)] : List UInt8))), (22, one (cS r5)), (25, one (cS b1.Data))] [] [] 0) := by
        refine hI _ _ _ ?_
        refine A.take 9 rfl (by kernel_rfl) (by kernel_rfl) (by kernel_rfl) rfl (Ca.bin rfl rfl (calm_str _ _ _ _ _ _)) (fun Q0 k0 => L.catS hF rfl rfl rfl rfl (of_decide_eq_true h6) (L.nil k0)) ?_
        exact A.on (hO _ _ _ n4095) (Le.mk [] hm rfl ⟨⟨_, rfl, rfl⟩, ⟨_, rfl, rfl⟩, ⟨_, rfl, rfl⟩, trivial⟩ trivial trivial)
      have n1535 : W 4 #[true, true, true, true, true, true, true, true, true, false, true, false, false, false] (mkSt [(4, one (cS ([] : List UInt8))), (18, one (cS ([(ofI b1.Tag)] : List UInt8))), (22, one (cS r5)), (24, one (Cell.ptr 0 2))] [] [(0, [cI b1.Tag, cL b1.Leaf, cS b1.Data, Cell.sl true (List.map eI b1.Kids)])] 1) := by
        refine hI _ _ _ ?_
        refine A.take 9 rfl (by kernel_rfl) (by kernel_rfl) (by kernel_rfl) rfl (Ca.bin rfl rfl (calm_str _ _ _ _ _ _)) (fun Q0 k0 => L.catS hF rfl rfl rfl rfl (of_decide_eq_true h6) (L.nil k0)) ?_
        exact A.on (hO _ _ _ n2047) (Le.mk [(0, 0)] hm rfl ⟨⟨_, rfl, rfl⟩, ⟨_, rfl, rfl⟩, ⟨_, rfl, rfl⟩, trivial⟩ trivial ⟨⟨_, _, rfl, rfl, rfl⟩, trivial⟩)
      have n3327 : W 4 #[true, true, true, true, true, true, true, true, false, false, true, true, false, false] (mkSt [(4, one (cS ([] : List UInt8))), (18, one (cS ([(ofI b1.Tag)] : List UInt8))), (21, one (cI (b1.Data.length : Int))), (25, one (cS b1.Data))] [] [] 0) := by
        refine hI _ _ _ ?_
        refine A.all [8] (by kernel_rfl) rfl ⟨⟨_, rfl, ?_⟩, trivial⟩
        · refine L.call [false] [] [] 0 hF rfl rfl rfl ent128 rfl rfl rfl rfl rfl (Fspec_Var_gives k  (b1.Data.length : Int) r5 hr5) rfl ?_
          refine L.nil ?_
          exact A.on (hO _ _ _ n3583) (Le.mk [] hm rfl ⟨⟨_, rfl, rfl⟩, ⟨_, rfl, rfl⟩, ⟨_, rfl, rfl⟩, ⟨_, rfl, rfl⟩, trivial⟩ trivial trivial)
      have n3567 : W 4 #[true, true, true, true, false, true, true, true, true, false, true, true, false, false] (mkSt [(4, one (cS ([] : List UInt8))), (17, one (Cell.own 0)), (22, one (cS r5)), (25, one (cS b1.Data))] [(0, ⟨1, List.map eB ([(ofI b1.Tag)] : List UInt8)⟩)] [] 1) := by
        refine hI _ _ _ ?_
        refine A.all [4] (by kernel_rfl) rfl ⟨⟨_, rfl, ?_⟩, trivial⟩
        · refine L.b2s (xs := ([(ofI b1.Tag)] : List UInt8)) Try.underlying50 Try.underlying5 Try.underlying9 hF rfl rfl rfl rfl ?_
          refine L.nil ?_
          exact A.on (hO _ _ _ n3583) (Le.mk [] hm rfl ⟨⟨_, rfl, rfl⟩, ⟨_, rfl, rfl⟩, ⟨_, rfl, rfl⟩, ⟨_, rfl, rfl⟩, trivial⟩ trivial trivial)
      have n1279 : W 5 #[true, true, true, true, true, true, true, true, false, false, true, false, false, false] (mkSt [(4, one (cS ([] : List UInt8))), (18, one (cS ([(ofI b1.Tag)] : List UInt8))), (21, one (cI (b1.Data.length : Int))), (24, one (Cell.ptr 0 2))] [] [(0, [cI b1.Tag, cL b1.Leaf, cS b1.Data, Cell.sl true (List.map eI b1.Kids)])] 1) := by
        refine hI _ _ _ ?_
        refine A.all [8, 11] (by kernel_rfl) rfl ⟨⟨_, rfl, ?_⟩, ⟨_, rfl, ?_⟩, trivial⟩
        · refine L.call [false] [] [] 1 hF rfl rfl rfl ent128 rfl rfl rfl rfl rfl (Fspec_Var_gives k  (b1.Data.length : Int) r5 hr5) rfl ?_
          refine L.nil ?_
          exact A.on (hO _ _ _ n1535) (Le.mk [(0, 0)] hm rfl ⟨⟨_, rfl, rfl⟩, ⟨_, rfl, rfl⟩, ⟨_, rfl, rfl⟩, ⟨_, rfl, rfl⟩, trivial⟩ trivial ⟨⟨_, _, rfl, rfl, rfl⟩, trivial⟩)
        · refine L.loadPtr shape9 hF rfl rfl rfl rfl rfl rfl ?_
          refine L.nil ?_
          exact A.on (hO _ _ _ n3327) (Le.mk [] hm rfl ⟨⟨_, rfl, rfl⟩, ⟨_, rfl, rfl⟩, ⟨_, rfl, rfl⟩, ⟨_, rfl, rfl⟩, trivial⟩ trivial trivial)
      have n3199 : W 5 #[true, true, true, true, true, true, true, false, false, false, true, true, false, false] (mkSt [(4, one (cS ([] : List UInt8))), (18, one (cS ([(ofI b1.Tag)] : List UInt8))), (20, one (cS b1.Data)), (25, one (cS b1.Data))] [] [] 0) := by
        refine hI _ _ _ ?_
        refine A.take 7 rfl (by kernel_rfl) (by kernel_rfl) (by kernel_rfl) rfl (Ca.lenS Try.underlying9 rfl) (fun Q0 k0 => L.lenS Try.underlying9 hF rfl rfl rfl (L.nil k0)) ?_
        exact A.on (hO _ _ _ n3327) (Le.mk [] hm rfl ⟨⟨_, rfl, rfl⟩, ⟨_, rfl, rfl⟩, ⟨_, rfl, rfl⟩, ⟨_, rfl, rfl⟩, trivial⟩ trivial trivial)
      have n3559 : W 5 #[true, true, true, false, false, true, true, true, true, false, true, true, false, false] (mkSt [(4, one (cS ([] : List UInt8))), (16, one (cU (ofI b1.Tag))), (22, one (cS r5)), (25, one (cS b1.Data))] [] [] 0) := by
        refine hI _ _ _ ?_
        refine A.all [3] (by kernel_rfl) rfl ⟨⟨_, rfl, ?_⟩, trivial⟩
        · refine L.buildSlice (e := eB) 0 ([(ofI b1.Tag)] : List UInt8) Try.underlying50 info5 rfl rfl rfl hF rfl rfl rfl rfl rfl rfl rfl rfl ?_
          refine L.nil ?_
          exact A.on (hO _ _ _ n3567) (Le.mk [(0, 0)] hm rfl ⟨⟨_, rfl, rfl⟩, ⟨_, rfl, rfl⟩, ⟨_, rfl, rfl⟩, ⟨_, rfl, rfl⟩, trivial⟩ ⟨⟨_, rfl, rfl⟩, trivial⟩ trivial)
      have n3311 : W 5 #[true, true, true, true, false, true, true, true, false, false, true, true, false, false] (mkSt [(4, one (cS ([] : List UInt8))), (17, one (Cell.own 0)), (21, one (cI (b1.Data.length : Int))), (25, one (cS b1.Data))] [(0, ⟨1, List.map eB ([(ofI b1.Tag)] : List UInt8)⟩)] [] 1) := by
        refine hI _ _ _ ?_
        refine A.all [4, 8] (by kernel_rfl) rfl ⟨⟨_, rfl, ?_⟩, ⟨_, rfl, ?_⟩, trivial⟩
        · refine L.b2s (xs := ([(ofI b1.Tag)] : List UInt8)) Try.underlying50 Try.underlying5 Try.underlying9 hF rfl rfl rfl rfl ?_
          refine L.nil ?_
          exact A.on (hO _ _ _ n3327) (Le.mk [] hm rfl ⟨⟨_, rfl, rfl⟩, ⟨_, rfl, rfl⟩, ⟨_, rfl, rfl⟩, ⟨_, rfl, rfl⟩, trivial⟩ trivial trivial)
        · refine L.call [false] [] [] 1 hF rfl rfl rfl ent128 rfl rfl rfl rfl rfl (Fspec_Var_gives k  (b1.Data.length : Int) r5 hr5) rfl ?_
          refine L.nil ?_
          exact A.on (hO _ _ _ n3567) (Le.mk [(0, 0)] hm rfl ⟨⟨_, rfl, rfl⟩, ⟨_, rfl, rfl⟩, ⟨_, rfl, rfl⟩, ⟨_, rfl, rfl⟩, trivial⟩ ⟨⟨_, rfl, rfl⟩, trivial⟩ trivial)
      have n1519 : W 5 #[true, true, true, true, false, true, true, true, true, false, true, false, false, false] (mkSt [(4, one (cS ([] : List UInt8))), (17, one (Cell.own 0)), (22, one (cS r5)), (24, one (Cell.ptr 1 2))] [(0, ⟨1, List.map eB ([(ofI b1.Tag)] : List UInt8)⟩)] [(1, [cI b1.Tag, cL b1.Leaf, cS b1.Data, Cell.sl true (List.map eI b1.Kids)])] 2) := by
        refine hI _ _ _ ?_
        refine A.all [4, 11] (by kernel_rfl) rfl ⟨⟨_, rfl, ?_⟩, ⟨_, rfl, ?_⟩, trivial⟩
        · refine L.b2s (xs := ([(ofI b1.Tag)] : List UInt8)) Try.underlying50 Try.underlying5 Try.underlying9 hF rfl rfl rfl rfl ?_
          refine L.nil ?_
          exact A.on (hO _ _ _ n1535) (Le.mk [(0, 1)] hm rfl ⟨⟨_, rfl, rfl⟩, ⟨_, rfl, rfl⟩, ⟨_, rfl, rfl⟩, ⟨_, rfl, rfl⟩, trivial⟩ trivial ⟨⟨_, _, rfl, rfl, rfl⟩, trivial⟩)
        · refine L.loadPtr shape9 hF rfl rfl rfl rfl rfl rfl ?_
          refine L.nil ?_
          exact A.on (hO _ _ _ n3567) (Le.mk [(0, 0)] hm rfl ⟨⟨_, rfl, rfl⟩, ⟨_, rfl, rfl⟩, ⟨_, rfl, rfl⟩, ⟨_, rfl, rfl⟩, trivial⟩ ⟨⟨_, rfl, rfl⟩, trivial⟩ trivial)
      have n1151 : W 6 #[true, true, true, true, true, true, true, false, false, false, true, false, false, false] (mkSt [(4, one (cS ([] : List UInt8))), (18, one (cS ([(ofI b1.Tag)] : List UInt8))), (20, one (cS b1.Data)), (24, one (Cell.ptr 0 2))] [] [(0, [cI b1.Tag, cL b1.Leaf, cS b1.Data, Cell.sl true (List.map eI b1.Kids)])] 1) := by
        refine hI _ _ _ ?_
        refine A.take 7 rfl (by kernel_rfl) (by kernel_rfl) (by kernel_rfl) rfl (Ca.lenS Try.underlying9 rfl) (fun Q0 k0 => L.lenS Try.underlying9 hF rfl rfl rfl (L.nil k0)) ?_
        exact A.on (hO _ _ _ n1279) (Le.mk [(0, 0)] hm rfl ⟨⟨_, rfl, rfl⟩, ⟨_, rfl, rfl⟩, ⟨_, rfl, rfl⟩, ⟨_, rfl, rfl⟩, trivial⟩ trivial ⟨⟨_, _, rfl, rfl, rfl⟩, trivial⟩)
      have n3135 : W 6 #[true, true, true, true, true, true, false, false, false, false, true, true, false, false] (mkSt [(4, one (cS ([] : List UInt8))), (18, one (cS ([(ofI b1.Tag)] : List UInt8))), (19, one (Cell.ptr 0 2)), (25, one (cS b1.Data))] [] [(0, [cI b1.Tag, cL b1.Leaf, cS b1.Data, Cell.sl true (List.map eI b1.Kids)])] 1) := by
        refine hI _ _ _ ?_
        refine A.all [6] (by kernel_rfl) rfl ⟨⟨_, rfl, ?_⟩, trivial⟩
        · refine L.loadPtr shape9 hF rfl rfl rfl rfl rfl rfl ?_
          refine L.nil ?_
          exact A.on (hO _ _ _ n3199) (Le.mk [] hm rfl ⟨⟨_, rfl, rfl⟩, ⟨_, rfl, rfl⟩, ⟨_, rfl, rfl⟩, ⟨_, rfl, rfl⟩, trivial⟩ trivial trivial)
      have n3555 : W 6 #[true, true, false, false, false, true, true, true, true, false, true, true, false, false] (mkSt [(4, one (cS ([] : List UInt8))), (15, one (cI b1.Tag)), (22, one (cS r5)), (25, one (cS b1.Data))] [] [] 0) := by
        refine hI _ _ _ ?_
        refine A.take 2 rfl (by kernel_rfl) (by kernel_rfl) (by kernel_rfl) rfl (Ca.conv Try.underlying3 Try.underlying5 rfl) (fun Q0 k0 => L.toB Try.underlying3 Try.underlying5 hF rfl rfl rfl (L.nil k0)) ?_
        exact A.on (hO _ _ _ n3559) (Le.mk [] hm rfl ⟨⟨_, rfl, rfl⟩, ⟨_, rfl, rfl⟩, ⟨_, rfl, rfl⟩, ⟨_, rfl, rfl⟩, trivial⟩ trivial trivial)
      have n3303 : W 6 #[true, true, true, false, false, true, true, true, false, false, true, true, false, false] (mkSt [(4, one (cS ([] : List UInt8))), (16, one (cU (ofI b1.Tag))), (21, one (cI (b1.Data.length : Int))), (25, one (cS b1.Data))] [] [] 0) := by
        refine hI _ _ _ ?_
        refine A.all [3, 8] (by kernel_rfl) rfl ⟨⟨_, rfl, ?_⟩, ⟨_, rfl, ?_⟩, trivial⟩
        · refine L.buildSlice (e := eB) 0 ([(ofI b1.Tag)] : List UInt8) Try.underlying50 info5 rfl rfl rfl hF rfl rfl rfl rfl rfl rfl rfl rfl ?_
          refine L.nil ?_
          exact A.on (hO _ _ _ n3311) (Le.mk [(0, 0)] hm rfl ⟨⟨_, rfl, rfl⟩, ⟨_, rfl, rfl⟩, ⟨_, rfl, rfl⟩, ⟨_, rfl, rfl⟩, trivial⟩ ⟨⟨_, rfl, rfl⟩, trivial⟩ trivial)
        · refine L.call [false] [] [] 0 hF rfl rfl rfl ent128 rfl rfl rfl rfl rfl (Fspec_Var_gives k  (b1.Data.length : Int) r5 hr5) rfl ?_
          refine L.nil ?_
          exact A.on (hO _ _ _ n3559) (Le.mk [] hm rfl ⟨⟨_, rfl, rfl⟩, ⟨_, rfl, rfl⟩, ⟨_, rfl, rfl⟩, ⟨_, rfl, rfl⟩, trivial⟩ trivial trivial)
      have n1511 : W 6 #[true, true, true, false, false, true, true, true, true, false, true, false, false, false] (mkSt [(4, one (cS ([] : List UInt8))), (16, one (cU (ofI b1.Tag))), (22, one (cS r5)), (24, one (Cell.ptr 0 2))] [] [(0, [cI b1.Tag, cL b1.Leaf, cS b1.Data, Cell.sl true (List.map eI b1.Kids)])] 1) := by
        refine hI _ _ _ ?_
        refine A.all [3, 11] (by kernel_rfl) rfl ⟨⟨_, rfl, ?_⟩, ⟨_, rfl, ?_⟩, trivial⟩
        · refine L.buildSlice (e := eB) 1 ([(ofI b1.Tag)] : List UInt8) Try.underlying50 info5 rfl rfl rfl hF rfl rfl rfl rfl rfl rfl rfl rfl ?_
          refine L.nil ?_
          exact A.on (hO _ _ _ n1519) (Le.mk [(0, 1), (1, 0)] hm rfl ⟨⟨_, rfl, rfl⟩, ⟨_, rfl, rfl⟩, ⟨_, rfl, rfl⟩, ⟨_, rfl, rfl⟩, trivial⟩ ⟨⟨_, rfl, rfl⟩, trivial⟩ ⟨⟨_, _, rfl, rfl, rfl⟩, trivial⟩)
        · refine L.loadPtr shape9 hF rfl rfl rfl rfl rfl rfl ?_
          refine L.nil ?_
          exact A.on (hO _ _ _ n3559) (Le.mk [] hm rfl ⟨⟨_, rfl, rfl⟩, ⟨_, rfl, rfl⟩, ⟨_, rfl, rfl⟩, ⟨_, rfl, rfl⟩, trivial⟩ trivial trivial)
      have n3183 : W 6 #[true, true, true, true, false, true, true, false, false, false, true, true, false, false] (mkSt [(4, one (cS ([] : List UInt8))), (17, one (Cell.own 0)), (20, one (cS b1.Data)), (25, one (cS b1.Data))] [(0, ⟨1, List.map eB ([(ofI b1.Tag)] : List UInt8)⟩)] [] 1) := by
        refine hI _ _ _ ?_
        refine A.take 7 rfl (by kernel_rfl) (by kernel_rfl) (by kernel_rfl) rfl (Ca.lenS Try.underlying9 rfl) (fun Q0 k0 => L.lenS Try.underlying9 hF rfl rfl rfl (L.nil k0)) ?_
        exact A.on (hO _ _ _ n3311) (Le.mk [(0, 0)] hm rfl ⟨⟨_, rfl, rfl⟩, ⟨_, rfl, rfl⟩, ⟨_, rfl, rfl⟩, ⟨_, rfl, rfl⟩, trivial⟩ ⟨⟨_, rfl, rfl⟩, trivial⟩ trivial)
      have n1263 : W 6 #[true, true, true, true, false, true, true, true, false, false, true, false, false, false] (mkSt [(4, one (cS ([] : List UInt8))), (17, one (Cell.own 0)), (21, one (cI (b1.Data.length : Int))), (24, one (Cell.ptr 1 2))] [(0, ⟨1, List.map eB ([(ofI b1.Tag)] : List UInt8)⟩)] [(1, [cI b1.Tag, cL b1.Leaf, cS b1.Data, Cell.sl true (List.map eI b1.Kids)])] 2) := by
        refine hI _ _ _ ?_
        refine A.all [4, 8, 11] (by kernel_rfl) rfl ⟨⟨_, rfl, ?_⟩, ⟨_, rfl, ?_⟩, ⟨_, rfl, ?_⟩, trivial⟩
        · refine L.b2s (xs := ([(ofI b1.Tag)] : List UInt8)) Try.underlying50 Try.underlying5 Try.underlying9 hF rfl rfl rfl rfl ?_
          refine L.nil ?_
          exact A.on (hO _ _ _ n1279) (Le.mk [(0, 1)] hm rfl ⟨⟨_, rfl, rfl⟩, ⟨_, rfl, rfl⟩, ⟨_, rfl, rfl⟩, ⟨_, rfl, rfl⟩, trivial⟩ trivial ⟨⟨_, _, rfl, rfl, rfl⟩, trivial⟩)
        · refine L.call [false] [] [] 2 hF rfl rfl rfl ent128 rfl rfl rfl rfl rfl (Fspec_Var_gives k  (b1.Data.length : Int) r5 hr5) rfl ?_
          refine L.nil ?_
          exact A.on (hO _ _ _ n1519) (Le.mk [(0, 0), (1, 1)] hm rfl ⟨⟨_, rfl, rfl⟩, ⟨_, rfl, rfl⟩, ⟨_, rfl, rfl⟩, ⟨_, rfl, rfl⟩, trivial⟩ ⟨⟨_, rfl, rfl⟩, trivial⟩ ⟨⟨_, _, rfl, rfl, rfl⟩, trivial⟩)
        · refine L.loadPtr shape9 hF rfl rfl rfl rfl rfl rfl ?_
          refine L.nil ?_
          exact A.on (hO _ _ _ n3311) (Le.mk [(0, 0)] hm rfl ⟨⟨_, rfl, rfl⟩, ⟨_, rfl, rfl⟩, ⟨_, rfl, rfl⟩, ⟨_, rfl, rfl⟩, trivial⟩ ⟨⟨_, rfl, rfl⟩, trivial⟩ trivial)
      have n1507 : W 7 #[true, true, false, false, false, true, true, true, true, false, true, false, false, false] (mkSt [(4, one (cS ([] : List UInt8))), (15, one (cI b1.Tag)), (22, one (cS r5)), (24, one (Cell.ptr 0 2))] [] [(0, [cI b1.Tag, cL b1.Leaf, cS b1.Data, Cell.sl true (List.map eI b1.Kids)])] 1) := by
        refine hI _ _ _ ?_
        refine A.take 2 rfl (by kernel_rfl) (by kernel_rfl) (by kernel_rfl) rfl (Ca.conv Try.underlying3 Try.underlying5 rfl) (fun Q0 k0 => L.toB Try.underlying3 Try.underlying5 hF rfl rfl rfl (L.nil k0)) ?_
        exact A.on (hO _ _ _ n1511) (Le.mk [(0, 0)] hm rfl ⟨⟨_, rfl, rfl⟩, ⟨_, rfl, rfl⟩, ⟨_, rfl, rfl⟩, ⟨_, rfl, rfl⟩, trivial⟩ trivial ⟨⟨_, _, rfl, rfl, rfl⟩, trivial⟩)
      have n3119 : W 7 #[true, true, true, true, false, true, false, false, false, false, true, true, false, false] (mkSt [(4, one (cS ([] : List UInt8))), (17, one (Cell.own 0)), (19, one (Cell.ptr 1 2)), (25, one (cS b1.Data))] [(0, ⟨1, List.map eB ([(ofI b1.Tag)] : List UInt8)⟩)] [(1, [cI b1.Tag, cL b1.Leaf, cS b1.Data, Cell.sl true (List.map eI b1.Kids)])] 2) := by
        refine hI _ _ _ ?_
        refine A.all [4, 6] (by kernel_rfl) rfl ⟨⟨_, rfl, ?_⟩, ⟨_, rfl, ?_⟩, trivial⟩
        · refine L.b2s (xs := ([(ofI b1.Tag)] : List UInt8)) Try.underlying50 Try.underlying5 Try.underlying9 hF rfl rfl rfl rfl ?_
          refine L.nil ?_
          exact A.on (hO _ _ _ n3135) (Le.mk [(0, 1)] hm rfl ⟨⟨_, rfl, rfl⟩, ⟨_, rfl, rfl⟩, ⟨_, rfl, rfl⟩, ⟨_, rfl, rfl⟩, trivial⟩ trivial ⟨⟨_, _, rfl, rfl, rfl⟩, trivial⟩)
        · refine L.loadPtr shape9 hF rfl rfl rfl rfl rfl rfl ?_
          refine L.nil ?_
          exact A.on (hO _ _ _ n3183) (Le.mk [(0, 0)] hm rfl ⟨⟨_, rfl, rfl⟩, ⟨_, rfl, rfl⟩, ⟨_, rfl, rfl⟩, ⟨_, rfl, rfl⟩, trivial⟩ ⟨⟨_, rfl, rfl⟩, trivial⟩ trivial)
      have n1087 : W 7 #[true, true, true, true, true, true, false, false, false, false, true, false, false, false] (mkSt [(4, one (cS ([] : List UInt8))), (18, one (cS ([(ofI b1.Tag)] : List UInt8))), (19, one (Cell.ptr 0 2)), (24, one (Cell.ptr 0 2))] [] [(0, [cI b1.Tag, cL b1.Leaf, cS b1.Data, Cell.sl true (List.map eI b1.Kids)])] 1) := by
        refine hI _ _ _ ?_
        refine A.all [6, 11] (by kernel_rfl) rfl ⟨⟨_, rfl, ?_⟩, ⟨_, rfl, ?_⟩, trivial⟩
        · refine L.loadPtr shape9 hF rfl rfl rfl rfl rfl rfl ?_
          refine L.nil ?_
          exact A.on (hO _ _ _ n1151) (Le.mk [(0, 0)] hm rfl ⟨⟨_, rfl, rfl⟩, ⟨_, rfl, rfl⟩, ⟨_, rfl, rfl⟩, ⟨_, rfl, rfl⟩, trivial⟩ trivial ⟨⟨_, _, rfl, rfl, rfl⟩, trivial⟩)
        · refine L.loadPtr shape9 hF rfl rfl rfl rfl rfl rfl ?_
          refine L.nil ?_
          exact A.on (hO _ _ _ n3135) (Le.mk [(0, 0)] hm rfl ⟨⟨_, rfl, rfl⟩, ⟨_, rfl, rfl⟩, ⟨_, rfl, rfl⟩, ⟨_, rfl, rfl⟩, trivial⟩ trivial ⟨⟨_, _, rfl, rfl, rfl⟩, trivial⟩)
      have n3299 : W 7 #[true, true, false, false, false, true, true, true, false, false, true, true, false, false] (mkSt [(4, one (cS ([] : List UInt8))), (15, one (cI b1.Tag)), (21, one (cI (b1.Data.length : Int))), (25, one (cS b1.Data))] [] [] 0) := by
        refine hI _ _ _ ?_
        refine A.take 2 rfl (by kernel_rfl) (by kernel_rfl) (by kernel_rfl) rfl (Ca.conv Try.underlying3 Try.underlying5 rfl) (fun Q0 k0 => L.toB Try.underlying3 Try.underlying5 hF rfl rfl rfl (L.nil k0)) ?_
        exact A.on (hO _ _ _ n3303) (Le.mk [] hm rfl ⟨⟨_, rfl, rfl⟩, ⟨_, rfl, rfl⟩, ⟨_, rfl, rfl⟩, ⟨_, rfl, rfl⟩, trivial⟩ trivial trivial)
      have n3553 : W 7 #[true, false, false, false, false, true, true, true, true, false, true, true, false, false] (mkSt [(4, one (cS ([] : List UInt8))), (14, one (Cell.ptr 0 0)), (22, one (cS r5)), (25, one (cS b1.Data))] [] [(0, [cI b1.Tag, cL b1.Leaf, cS b1.Data, Cell.sl true (List.map eI b1.Kids)])] 1) := by
        refine hI _ _ _ ?_
        refine A.all [1] (by kernel_rfl) rfl ⟨⟨_, rfl, ?_⟩, trivial⟩
        · refine L.loadPtr shape3 hF rfl rfl rfl rfl rfl rfl ?_
          refine L.nil ?_
          exact A.on (hO _ _ _ n3555) (Le.mk [] hm rfl ⟨⟨_, rfl, rfl⟩, ⟨_, rfl, rfl⟩, ⟨_, rfl, rfl⟩, ⟨_, rfl, rfl⟩, trivial⟩ trivial trivial)
      have n3175 : W 7 #[true, true, true, false, false, true, true, false, false, false, true, true, false, false] (mkSt [(4, one (cS ([] : List UInt8))), (16, one (cU (ofI b1.Tag))), (20, one (cS b1.Data)), (25, one (cS b1.Data))] [] [] 0) := by
        refine hI _ _ _ ?_
        refine A.take 7 rfl (by kernel_rfl) (by kernel_rfl) (by kernel_rfl) rfl (Ca.lenS Try.underlying9 rfl) (fun Q0 k0 => L.lenS Try.underlying9 hF rfl rfl rfl (L.nil k0)) ?_
        exact A.on (hO _ _ _ n3303) (Le.mk [] hm rfl ⟨⟨_, rfl, rfl⟩, ⟨_, rfl, rfl⟩, ⟨_, rfl, rfl⟩, ⟨_, rfl, rfl⟩, trivial⟩ trivial trivial)
      have n1255 : W 7 #[true, true, true, false, false, true, true, true, false, false, true, false, false, false] (mkSt [(4, one (cS ([] : List UInt8))), (16, one (cU (ofI b1.Tag))), (21, one (cI (b1.Data.length : Int))), (24, one (Cell.ptr 0 2))] [] [(0, [cI b1.Tag, cL b1.Leaf, cS b1.Data, Cell.sl true (List.map eI b1.Kids)])] 1) := by
        refine hI _ _ _ ?_
        refine A.all [3, 8, 11] (by kernel_rfl) rfl ⟨⟨_, rfl, ?_⟩, ⟨_, rfl, ?_⟩, ⟨_, rfl, ?_⟩, trivial⟩
        · refine L.buildSlice (e := eB) 1 ([(ofI b1.Tag)] : List UInt8) Try.underlying50 info5 rfl rfl rfl hF rfl rfl rfl rfl rfl rfl rfl rfl ?_
          refine L.nil ?_
          exact A.on (hO _ _ _ n1263) (Le.mk [(0, 1), (1, 0)] hm rfl ⟨⟨_, rfl, rfl⟩, ⟨_, rfl, rfl⟩, ⟨_, rfl, rfl⟩, ⟨_, rfl, rfl⟩, trivial⟩ ⟨⟨_, rfl, rfl⟩, trivial⟩ ⟨⟨_, _, rfl, rfl, rfl⟩, trivial⟩)
        · refine L.call [false] [] [] 1 hF rfl rfl rfl ent128 rfl rfl rfl rfl rfl (Fspec_Var_gives k  (b1.Data.length : Int) r5 hr5) rfl ?_
          refine L.nil ?_
          exact A.on (hO _ _ _ n1511) (Le.mk [(0, 0)] hm rfl ⟨⟨_, rfl, rfl⟩, ⟨_, rfl, rfl⟩, ⟨_, rfl, rfl⟩, ⟨_, rfl, rfl⟩, trivial⟩ trivial ⟨⟨_, _, rfl, rfl, rfl⟩, trivial⟩)
        · refine L.loadPtr shape9 hF rfl rfl rfl rfl rfl rfl ?_
          refine L.nil ?_
          exact A.on (hO _ _ _ n3303) (Le.mk [] hm rfl ⟨⟨_, rfl, rfl⟩, ⟨_, rfl, rfl⟩, ⟨_, rfl, rfl⟩, ⟨_, rfl, rfl⟩, trivial⟩ trivial trivial)
      have n1135 : W 7 #[true, true, true, true, false, true, true, false, false, false, true, false, false, false] (mkSt [(4, one (cS ([] : List UInt8))), (17, one (Cell.own 0)), (20, one (cS b1.Data)), (24, one (Cell.ptr 1 2))] [(0, ⟨1, List.map eB ([(ofI b1.Tag)] : List UInt8)⟩)] [(1, [cI b1.Tag, cL b1.Leaf, cS b1.Data, Cell.sl true (List.map eI b1.Kids)])] 2) := by
        refine hI _ _ _ ?_
        refine A.take 7 rfl (by kernel_rfl) (by kernel_rfl) (by kernel_rfl) rfl (Ca.lenS Try.underlying9 rfl) (fun Q0 k0 => L.lenS Try.underlying9 hF rfl rfl rfl (L.nil k0)) ?_
        exact A.on (hO _ _ _ n1263) (Le.mk [(0, 0), (1, 1)] hm rfl ⟨⟨_, rfl, rfl⟩, ⟨_, rfl, rfl⟩, ⟨_, rfl, rfl⟩, ⟨_, rfl, rfl⟩, trivial⟩ ⟨⟨_, rfl, rfl⟩, trivial⟩ ⟨⟨_, _, rfl, rfl, rfl⟩, trivial⟩)
      have n1505 : W 8 #[true, false, false, false, false, true, true, true, true, false, true, false, false, false] (mkSt [(4, one (cS ([] : List UInt8))), (14, one (Cell.ptr 0 0)), (22, one (cS r5)), (24, one (Cell.ptr 0 2))] [] [(0, [cI b1.Tag, cL b1.Leaf, cS b1.Data, Cell.sl true (List.map eI b1.Kids)])] 1) := by
        refine hI _ _ _ ?_
        refine A.all [1, 11] (by kernel_rfl) rfl ⟨⟨_, rfl, ?_⟩, ⟨_, rfl, ?_⟩, trivial⟩
        · refine L.loadPtr shape3 hF rfl rfl rfl rfl rfl rfl ?_
          refine L.nil ?_
          exact A.on (hO _ _ _ n1507) (Le.mk [(0, 0)] hm rfl ⟨⟨_, rfl, rfl⟩, ⟨_, rfl, rfl⟩, ⟨_, rfl, rfl⟩, ⟨_, rfl, rfl⟩, trivial⟩ trivial ⟨⟨_, _, rfl, rfl, rfl⟩, trivial⟩)
        · refine L.loadPtr shape9 hF rfl rfl rfl rfl rfl rfl ?_
          refine L.nil ?_
          exact A.on (hO _ _ _ n3553) (Le.mk [(0, 0)] hm rfl ⟨⟨_, rfl, rfl⟩, ⟨_, rfl, rfl⟩, ⟨_, rfl, rfl⟩, ⟨_, rfl, rfl⟩, trivial⟩ trivial ⟨⟨_, _, rfl, rfl, rfl⟩, trivial⟩)
      have n1251 : W 8 #[true, true, false, false, false, true, true, true, false, false, true, false, false, false] (mkSt [(4, one (cS ([] : List UInt8))), (15, one (cI b1.Tag)), (21, one (cI (b1.Data.length : Int))), (24, one (Cell.ptr 0 2))] [] [(0, [cI b1.Tag, cL b1.Leaf, cS b1.Data, Cell.sl true (List.map eI b1.Kids)])] 1) := by
        refine hI _ _ _ ?_
        refine A.take 2 rfl (by kernel_rfl) (by kernel_rfl) (by kernel_rfl) rfl (Ca.conv Try.underlying3 Try.underlying5 rfl) (fun Q0 k0 => L.toB Try.underlying3 Try.underlying5 hF rfl rfl rfl (L.nil k0)) ?_
        exact A.on (hO _ _ _ n1255) (Le.mk [(0, 0)] hm rfl ⟨⟨_, rfl, rfl⟩, ⟨_, rfl, rfl⟩, ⟨_, rfl, rfl⟩, ⟨_, rfl, rfl⟩, trivial⟩ trivial ⟨⟨_, _, rfl, rfl, rfl⟩, trivial⟩)
      have n3111 : W 8 #[true, true, true, false, false, true, false, false, false, false, true, true, false, false] (mkSt [(4, one (cS ([] : List UInt8))), (16, one (cU (ofI b1.Tag))), (19, one (Cell.ptr 0 2)), (25, one (cS b1.Data))] [] [(0, [cI b1.Tag, cL b1.Leaf, cS b1.Data, Cell.sl true (List.map eI b1.Kids)])] 1) := by
        refine hI _ _ _ ?_
        refine A.all [3, 6] (by kernel_rfl) rfl ⟨⟨_, rfl, ?_⟩, ⟨_, rfl, ?_⟩, trivial⟩
        · refine L.buildSlice (e := eB) 1 ([(ofI b1.Tag)] : List UInt8) Try.underlying50 info5 rfl rfl rfl hF rfl rfl rfl rfl rfl rfl rfl rfl ?_
          refine L.nil ?_
          exact A.on (hO _ _ _ n3119) (Le.mk [(0, 1), (1, 0)] hm rfl ⟨⟨_, rfl, rfl⟩, ⟨_, rfl, rfl⟩, ⟨_, rfl, rfl⟩, ⟨_, rfl, rfl⟩, trivial⟩ ⟨⟨_, rfl, rfl⟩, trivial⟩ ⟨⟨_, _, rfl, rfl, rfl⟩, trivial⟩)
        · refine L.loadPtr shape9 hF rfl rfl rfl rfl rfl rfl ?_
          refine L.nil ?_
          exact A.on (hO _ _ _ n3175) (Le.mk [] hm rfl ⟨⟨_, rfl, rfl⟩, ⟨_, rfl, rfl⟩, ⟨_, rfl, rfl⟩, ⟨_, rfl, rfl⟩, trivial⟩ trivial trivial)
      have n1127 : W 8 #[true, true, true, false, false, true, true, false, false, false, true, false, false, false] (mkSt [(4, one (cS ([] : List UInt8))), (16, one (cU (ofI b1.Tag))), (20, one (cS b1.Data)), (24, one (Cell.ptr 0 2))] [] [(0, [cI b1.Tag, cL b1.Leaf, cS b1.Data, Cell.sl true (List.map eI b1.Kids)])] 1) := by
        refine hI _ _ _ ?_
        refine A.take 7 rfl (by kernel_rfl) (by kernel_rfl) (by kernel_rfl) rfl (Ca.lenS Try.underlying9 rfl) (fun Q0 k0 => L.lenS Try.underlying9 hF rfl rfl rfl (L.nil k0)) ?_
        exact A.on (hO _ _ _ n1255) (Le.mk [(0, 0)] hm rfl ⟨⟨_, rfl, rfl⟩, ⟨_, rfl, rfl⟩, ⟨_, rfl, rfl⟩, ⟨_, rfl, rfl⟩, trivial⟩ trivial ⟨⟨_, _, rfl, rfl, rfl⟩, trivial⟩)
      have n1071 : W 8 #[true, true, true, true, false, true, false, false, false, false, true, false, false, false] (mkSt [(4, one (cS ([] : List UInt8))), (17, one (Cell.own 0)), (19, one (Cell.ptr 1 2)), (24, one (Cell.ptr 1 2))] [(0, ⟨1, List.map eB ([(ofI b1.Tag)] : List UInt8)⟩)] [(1, [cI b1.Tag, cL b1.Leaf, cS b1.Data, Cell.sl true (List.map eI b1.Kids)])] 2) := by
        refine hI _ _ _ ?_
        refine A.all [4, 6, 11] (by kernel_rfl) rfl ⟨⟨_, rfl, ?_⟩, ⟨_, rfl, ?_⟩, ⟨_, rfl, ?_⟩, trivial⟩
        · refine L.b2s (xs := ([(ofI b1.Tag)] : List UInt8)) Try.underlying50 Try.underlying5 Try.underlying9 hF rfl rfl rfl rfl ?_
          refine L.nil ?_
          exact A.on (hO _ _ _ n1087) (Le.mk [(0, 1)] hm rfl ⟨⟨_, rfl, rfl⟩, ⟨_, rfl, rfl⟩, ⟨_, rfl, rfl⟩, ⟨_, rfl, rfl⟩, trivial⟩ trivial ⟨⟨_, _, rfl, rfl, rfl⟩, trivial⟩)
        · refine L.loadPtr shape9 hF rfl rfl rfl rfl rfl rfl ?_
          refine L.nil ?_
          exact A.on (hO _ _ _ n1135) (Le.mk [(0, 0), (1, 1)] hm rfl ⟨⟨_, rfl, rfl⟩, ⟨_, rfl, rfl⟩, ⟨_, rfl, rfl⟩, ⟨_, rfl, rfl⟩, trivial⟩ ⟨⟨_, rfl, rfl⟩, trivial⟩ ⟨⟨_, _, rfl, rfl, rfl⟩, trivial⟩)
        · refine L.loadPtr shape9 hF rfl rfl rfl rfl rfl rfl ?_
          refine L.nil ?_
          exact A.on (hO _ _ _ n3119) (Le.mk [(0, 0), (1, 1)] hm rfl ⟨⟨_, rfl, rfl⟩, ⟨_, rfl, rfl⟩, ⟨_, rfl, rfl⟩, ⟨_, rfl, rfl⟩, trivial⟩ ⟨⟨_, rfl, rfl⟩, trivial⟩ ⟨⟨_, _, rfl, rfl, rfl⟩, trivial⟩)
      have n3297 : W 8 #[true, false, false, false, false, true, true, true, false, false, true, true, false, false] (mkSt [(4, one (cS ([] : List UInt8))), (14, one (Cell.ptr 0 0)), (21, one (cI (b1.Data.length : Int))), (25, one (cS b1.Data))] [] [(0, [cI b1.Tag, cL b1.Leaf, cS b1.Data, Cell.sl true (List.map eI b1.Kids)])] 1) := by
        refine hI _ _ _ ?_
        refine A.all [1, 8] (by kernel_rfl) rfl ⟨⟨_, rfl, ?_⟩, ⟨_, rfl, ?_⟩, trivial⟩
        · refine L.loadPtr shape3 hF rfl rfl rfl rfl rfl rfl ?_
          refine L.nil ?_
          exact A.on (hO _ _ _ n3299) (Le.mk [] hm rfl ⟨⟨_, rfl, rfl⟩, ⟨_, rfl, rfl⟩, ⟨_, rfl, rfl⟩, ⟨_, rfl, rfl⟩, trivial⟩ trivial trivial)
        · refine L.call [false] [] [] 1 hF rfl rfl rfl ent128 rfl rfl rfl rfl rfl (Fspec_Var_gives k  (b1.Data.length : Int) r5 hr5) rfl ?_
          refine L.nil ?_
          exact A.on (hO _ _ _ n3553) (Le.mk [(0, 0)] hm rfl ⟨⟨_, rfl, rfl⟩, ⟨_, rfl, rfl⟩, ⟨_, rfl, rfl⟩, ⟨_, rfl, rfl⟩, trivial⟩ trivial ⟨⟨_, _, rfl, rfl, rfl⟩, trivial⟩)
      have n1249 : W 9 #[true, false, false, false, false, true, true, true, false, false, true, false, false, false] (mkSt [(4, one (cS ([] : List UInt8))), (14, one (Cell.ptr 0 0)), (21, one (cI (b1.Data.length : Int))), (24, one (Cell.ptr 0 2))] [] [(0, [cI b1.Tag, cL b1.Leaf, cS b1.Data, Cell.sl true (List.map eI b1.Kids)])] 1) := by
        refine hI _ _ _ ?_
        refine A.all [1, 8, 11] (by kernel_rfl) rfl ⟨⟨_, rfl, ?_⟩, ⟨_, rfl, ?_⟩, ⟨_, rfl, ?_⟩, trivial⟩
        · refine L.loadPtr shape3 hF rfl rfl rfl rfl rfl rfl ?_
          refine L.nil ?_
          exact A.on (hO _ _ _ n1251) (Le.mk [(0, 0)] hm rfl ⟨⟨_, rfl, rfl⟩, ⟨_, rfl, rfl⟩, ⟨_, rfl, rfl⟩, ⟨_, rfl, rfl⟩, trivial⟩ trivial ⟨⟨_, _, rfl, rfl, rfl⟩, trivial⟩)
        · refine L.call [false] [] [] 1 hF rfl rfl rfl ent128 rfl rfl rfl rfl rfl (Fspec_Var_gives k  (b1.Data.length : Int) r5 hr5) rfl ?_
          refine L.nil ?_
          exact A.on (hO _ _ _ n1505) (Le.mk [(0, 0)] hm rfl ⟨⟨_, rfl, rfl⟩, ⟨_, rfl, rfl⟩, ⟨_, rfl, rfl⟩, ⟨_, rfl, rfl⟩, trivial⟩ trivial ⟨⟨_, _, rfl, rfl, rfl⟩, trivial⟩)
        · refine L.loadPtr shape9 hF rfl rfl rfl rfl rfl rfl ?_
          refine L.nil ?_
          exact A.on (hO _ _ _ n3297) (Le.mk [(0, 0)] hm rfl ⟨⟨_, rfl, rfl⟩, ⟨_, rfl, rfl⟩, ⟨_, rfl, rfl⟩, ⟨_, rfl, rfl⟩, trivial⟩ trivial ⟨⟨_, _, rfl, rfl, rfl⟩, trivial⟩)
      have n3107 : W 9 #[true, true, false, false, false, true, false, false, false, false, true, true, false, false] (mkSt [(4, one (cS ([] : List UInt8))), (15, one (cI b1.Tag)), (19, one (Cell.ptr 0 2)), (25, one (cS b1.Data))] [] [(0, [cI b1.Tag, cL b1.Leaf, cS b1.Data, Cell.sl true (List.map eI b1.Kids)])] 1) := by
        refine hI _ _ _ ?_
        refine A.take 2 rfl (by kernel_rfl) (by kernel_rfl) (by kernel_rfl) rfl (Ca.conv Try.underlying3 Try.underlying5 rfl) (fun Q0 k0 => L.toB Try.underlying3 Try.underlying5 hF rfl rfl rfl (L.nil k0)) ?_
        exact A.on (hO _ _ _ n3111) (Le.mk [(0, 0)] hm rfl ⟨⟨_, rfl, rfl⟩, ⟨_, rfl, rfl⟩, ⟨_, rfl, rfl⟩, ⟨_, rfl, rfl⟩, trivial⟩ trivial ⟨⟨_, _, rfl, rfl, rfl⟩, trivial⟩)
      have n1063 : W 9 #[true, true, true, false, false, true, false, false, false, false, true, false, false, false] (mkSt [(4, one (cS ([] : List UInt8))), (16, one (cU (ofI b1.Tag))), (19, one (Cell.ptr 0 2)), (24, one (Cell.ptr 0 2))] [] [(0, [cI b1.Tag, cL b1.Leaf, cS b1.Data, Cell.sl true (List.map eI b1.Kids)])] 1) := by
        refine hI _ _ _ ?_
        refine A.all [3, 6, 11] (by kernel_rfl) rfl ⟨⟨_, rfl, ?_⟩, ⟨_, rfl, ?_⟩, ⟨_, rfl, ?_⟩, trivial⟩
        · refine L.buildSlice (e := eB) 1 ([(ofI b1.Tag)] : List UInt8) Try.underlying50 info5 rfl rfl rfl hF rfl rfl rfl rfl rfl rfl rfl rfl ?_
          refine L.nil ?_
          exact A.on (hO _ _ _ n1071) (Le.mk [(0, 1), (1, 0)] hm rfl ⟨⟨_, rfl, rfl⟩, ⟨_, rfl, rfl⟩, ⟨_, rfl, rfl⟩, ⟨_, rfl, rfl⟩, trivial⟩ ⟨⟨_, rfl, rfl⟩, trivial⟩ ⟨⟨_, _, rfl, rfl, rfl⟩, trivial⟩)
        · refine L.loadPtr shape9 hF rfl rfl rfl rfl rfl rfl ?_
          refine L.nil ?_
          exact A.on (hO _ _ _ n1127) (Le.mk [(0, 0)] hm rfl ⟨⟨_, rfl, rfl⟩, ⟨_, rfl, rfl⟩, ⟨_, rfl, rfl⟩, ⟨_, rfl, rfl⟩, trivial⟩ trivial ⟨⟨_, _, rfl, rfl, rfl⟩, trivial⟩)
        · refine L.loadPtr shape9 hF rfl rfl rfl rfl rfl rfl ?_
          refine L.nil ?_
          exact A.on (hO _ _ _ n3111) (Le.mk [(0, 0)] hm rfl ⟨⟨_, rfl, rfl⟩, ⟨_, rfl, rfl⟩, ⟨_, rfl, rfl⟩, ⟨_, rfl, rfl⟩, trivial⟩ trivial ⟨⟨_, _, rfl, rfl, rfl⟩, trivial⟩)
      have n3169 : W 9 #[true, false, false, false, false, true, true, false, false, false, true, true, false, false] (mkSt [(4, one (cS ([] : List UInt8))), (14, one (Cell.ptr 0 0)), (20, one (cS b1.Data)), (25, one (cS b1.Data))] [] [(0, [cI b1.Tag, cL b1.Leaf, cS b1.Data, Cell.sl true (List.map eI b1.Kids)])] 1) := by
        refine hI _ _ _ ?_
        refine A.take 7 rfl (by kernel_rfl) (by kernel_rfl) (by kernel_rfl) rfl (Ca.lenS Try.underlying9 rfl) (fun Q0 k0 => L.lenS Try.underlying9 hF rfl rfl rfl (L.nil k0)) ?_
        exact A.on (hO _ _ _ n3297) (Le.mk [(0, 0)] hm rfl ⟨⟨_, rfl, rfl⟩, ⟨_, rfl, rfl⟩, ⟨_, rfl, rfl⟩, ⟨_, rfl, rfl⟩, trivial⟩ trivial ⟨⟨_, _, rfl, rfl, rfl⟩, trivial⟩)
      have n1059 : W 10 #[true, true, false, false, false, true, false, false, false, false, true, false, false, false] (mkSt [(4, one (cS ([] : List UInt8))), (15, one (cI b1.Tag)), (19, one (Cell.ptr 0 2)), (24, one (Cell.ptr 0 2))] [] [(0, [cI b1.Tag, cL b1.Leaf, cS b1.Data, Cell.sl true (List.map eI b1.Kids)])] 1) := by
        refine hI _ _ _ ?_
        refine A.take 2 rfl (by kernel_rfl) (by kernel_rfl) (by kernel_rfl) rfl (Ca.conv Try.underlying3 Try.underlying5 rfl) (fun Q0 k0 => L.toB Try.underlying3 Try.underlying5 hF rfl rfl rfl (L.nil k0)) ?_
        exact A.on (hO _ _ _ n1063) (Le.mk [(0, 0)] hm rfl ⟨⟨_, rfl, rfl⟩, ⟨_, rfl, rfl⟩, ⟨_, rfl, rfl⟩, ⟨_, rfl, rfl⟩, trivial⟩ trivial ⟨⟨_, _, rfl, rfl, rfl⟩, trivial⟩)
      have n3105 : W 10 #[true, false, false, false, false, true, false, false, false, false, true, true, false, false] (mkSt [(4, one (cS ([] : List UInt8))), (14, one (Cell.ptr 0 0)), (19, one (Cell.ptr 0 2)), (25, one (cS b1.Data))] [] [(0, [cI b1.Tag, cL b1.Leaf, cS b1.Data, Cell.sl true (List.map eI b1.Kids)])] 1) := by
        refine hI _ _ _ ?_
        refine A.all [1, 6] (by kernel_rfl) rfl ⟨⟨_, rfl, ?_⟩, ⟨_, rfl, ?_⟩, trivial⟩
        · refine L.loadPtr shape3 hF rfl rfl rfl rfl rfl rfl ?_
          refine L.nil ?_
          exact A.on (hO _ _ _ n3107) (Le.mk [(0, 0)] hm rfl ⟨⟨_, rfl, rfl⟩, ⟨_, rfl, rfl⟩, ⟨_, rfl, rfl⟩, ⟨_, rfl, rfl⟩, trivial⟩ trivial ⟨⟨_, _, rfl, rfl, rfl⟩, trivial⟩)
        · refine L.loadPtr shape9 hF rfl rfl rfl rfl rfl rfl ?_
          refine L.nil ?_
          exact A.on (hO _ _ _ n3169) (Le.mk [(0, 0)] hm rfl ⟨⟨_, rfl, rfl⟩, ⟨_, rfl, rfl⟩, ⟨_, rfl, rfl⟩, ⟨_, rfl, rfl⟩, trivial⟩ trivial ⟨⟨_, _, rfl, rfl, rfl⟩, trivial⟩)
      have n1121 : W 10 #[true, false, false, false, false, true, true, false, false, false, true, false, false, false] (mkSt [(4, one (cS ([] : List UInt8))), (14, one (Cell.ptr 0 0)), (20, one (cS b1.Data)), (24, one (Cell.ptr 0 2))] [] [(0, [cI b1.Tag, cL b1.Leaf, cS b1.Data, Cell.sl true (List.map eI b1.Kids)])] 1) := by
        refine hI _ _ _ ?_
        refine A.take 7 rfl (by kernel_rfl) (by kernel_rfl) (by kernel_rfl) rfl (Ca.lenS Try.underlying9 rfl) (fun Q0 k0 => L.lenS Try.underlying9 hF rfl rfl rfl (L.nil k0)) ?_
        exact A.on (hO _ _ _ n1249) (Le.mk [(0, 0)] hm rfl ⟨⟨_, rfl, rfl⟩, ⟨_, rfl, rfl⟩, ⟨_, rfl, rfl⟩, ⟨_, rfl, rfl⟩, trivial⟩ trivial ⟨⟨_, _, rfl, rfl, rfl⟩, trivial⟩)
      have n1057 : W 11 #[true, false, false, false, false, true, false, false, false, false, true, false, false, false] (mkSt [(4, one (cS ([] : List UInt8))), (14, one (Cell.ptr 0 0)), (19, one (Cell.ptr 0 2)), (24, one (Cell.ptr 0 2))] [] [(0, [cI b1.Tag, cL b1.Leaf, cS b1.Data, Cell.sl true (List.map eI b1.Kids)])] 1) := by
        refine hI _ _ _ ?_
        refine A.all [1, 6, 11] (by kernel_rfl) rfl ⟨⟨_, rfl, ?_⟩, ⟨_, rfl, ?_⟩, ⟨_, rfl, ?_⟩, trivial⟩
        · refine L.loadPtr shape3 hF rfl rfl rfl rfl rfl rfl ?_
          refine L.nil ?_
          exact A.on (hO _ _ _ n1059) (Le.mk [(0, 0)] hm rfl ⟨⟨_, rfl, rfl⟩, ⟨_, rfl, rfl⟩, ⟨_, rfl, rfl⟩, ⟨_, rfl, rfl⟩, trivial⟩ trivial ⟨⟨_, _, rfl, rfl, rfl⟩, trivial⟩)
        · refine L.loadPtr shape9 hF rfl rfl rfl rfl rfl rfl ?_
          refine L.nil ?_
          exact A.on (hO _ _ _ n1121) (Le.mk [(0, 0)] hm rfl ⟨⟨_, rfl, rfl⟩, ⟨_, rfl, rfl⟩, ⟨_, rfl, rfl⟩, ⟨_, rfl, rfl⟩, trivial⟩ trivial ⟨⟨_, _, rfl, rfl, rfl⟩, trivial⟩)
        · refine L.loadPtr shape9 hF rfl rfl rfl rfl rfl rfl ?_
          refine L.nil ?_
          exact A.on (hO _ _ _ n3105) (Le.mk [(0, 0)] hm rfl ⟨⟨_, rfl, rfl⟩, ⟨_, rfl, rfl⟩, ⟨_, rfl, rfl⟩, ⟨_, rfl, rfl⟩, trivial⟩ trivial ⟨⟨_, _, rfl, rfl, rfl⟩, trivial⟩)
      have n33 : W 12 #[true, false, false, false, false, true, false, false, false, false, false, false, false, false] (mkSt [(4, one (cS ([] : List UInt8))), (5, one (Cell.ptr 0 0)), (14, one (Cell.ptr 0 0)), (19, one (Cell.ptr 0 2))] [] [(0, [cI b1.Tag, cL b1.Leaf, cS b1.Data, Cell.sl true (List.map eI b1.Kids)])] 1) := by
        refine hI _ _ _ ?_
        refine A.take 10 rfl (by kernel_rfl) (by kernel_rfl) (by kernel_rfl) rfl (Ca.fieldAddr Try.underlying63 rfl info9 rfl) (fun Q0 k0 => L.fieldAddr Try.underlying63 rfl info9 rfl hF rfl rfl rfl rfl rfl (L.nil k0)) ?_
        exact A.on (hO _ _ _ n1057) (Le.mk [(0, 0)] hm rfl ⟨⟨_, rfl, rfl⟩, ⟨_, rfl, rfl⟩, ⟨_, rfl, rfl⟩, ⟨_, rfl, rfl⟩, trivial⟩ trivial ⟨⟨_, _, rfl, rfl, rfl⟩, trivial⟩)
      have n1 : W 13 #[true, false, false, false, false, false, false, false, false, false, false, false, false, false] (mkSt [(4, one (cS ([] : List UInt8))), (5, one (Cell.ptr 0 0)), (14, one (Cell.ptr 0 0))] [] [(0, [cI b1.Tag, cL b1.Leaf, cS b1.Data, Cell.sl true (List.map eI b1.Kids)])] 1) := by
        refine hI _ _ _ ?_
        refine A.take 5 rfl (by kernel_rfl) (by kernel_rfl) (by kernel_rfl) rfl (Ca.fieldAddr Try.underlying63 rfl info9 rfl) (fun Q0 k0 => L.fieldAddr Try.underlying63 rfl info9 rfl hF rfl rfl rfl rfl rfl (L.nil k0)) ?_
        exact A.on (hO _ _ _ n33) (Le.mk [(0, 0)] hm rfl ⟨⟨_, rfl, rfl⟩, ⟨_, rfl, rfl⟩, ⟨_, rfl, rfl⟩, ⟨_, rfl, rfl⟩, trivial⟩ trivial ⟨⟨_, _, rfl, rfl, rfl⟩, trivial⟩)
      have n0 : W 14 #[false, false, false, false, false, false, false, false, false, false, false, false, false, false] (mkSt [(4, one (cS ([] : List UInt8))), (5, one (Cell.ptr 0 0))] [] [(0, [cI b1.Tag, cL b1.Leaf, cS b1.Data, Cell.sl true (List.map eI b1.Kids)])] 1) := by
        refine hI _ _ _ ?_
        refine A.take 0 rfl (by kernel_rfl) (by kernel_rfl) (by kernel_rfl) rfl (Ca.fieldAddr Try.underlying63 rfl info3 rfl) (fun Q0 k0 => L.fieldAddr Try.underlying63 rfl info3 rfl hF rfl rfl rfl rfl rfl (L.nil k0)) ?_
        exact A.on (hO _ _ _ n1) (Le.mk [(0, 0)] hm rfl ⟨⟨_, rfl, rfl⟩, ⟨_, rfl, rfl⟩, ⟨_, rfl, rfl⟩, trivial⟩ trivial ⟨⟨_, _, rfl, rfl, rfl⟩, trivial⟩)
      exact hI _ _ _ (A.on (hO _ _ _ n0) (Le.mk [(0, 2)] hm rfl ⟨⟨_, rfl, rfl⟩, ⟨_, rfl, rfl⟩, trivial⟩ trivial ⟨⟨_, _, rfl, rfl, rfl⟩, trivial⟩))
    · replace H := condF hc H
      refine WpC.skip ?_
      refine WpC.seq ?_
      refine WpC.regionL ?_
      refine L.assign hF rfl rfl rfl ?_
      refine L.nil ?_
      refine WpC.seq ?_
      refine WpC.seq ?_
      refine WpC.regionL ?_
      refine L.assign hF rfl rfl rfl ?_
      refine L.nil ?_
      refine WpC.block ?_
      refine WpC.loopL (P := Try.prog) (fun n σ => ∃ v69 : List Timpl_Tlv, ∃ v70 : List UInt8, ∃ v71 : Int, ∃ v72 : Int, ∃ v73 : Bool, ∃ v74 : List UInt8, ∃ v75 : List Int, n ≤ K ∧ Fspec_l14Show.l2 (Fspec_l14Show k) n v69 v70 v71 v72 v73 v74 v75 = some r ∧ σ = mkSt [(0, one (Cell.sl g0 (List.map eTimpl_Tlv v69))), (5, one (Cell.ptr 0 0)), (6, one (cS v70)), (7, one (cI v71))] [] [(0, [cI v72, cL v73, cS v74, Cell.sl true (List.map eI v75)])] 1) k ⟨_, ⟨a0, ([] : List UInt8), (0 : Int), b1.Tag, b1.Leaf, b1.Data, b1.Kids, by omega, H, rfl⟩, Le.mk [(0, 2)] hm rfl ⟨⟨_, rfl, rfl⟩, ⟨_, rfl, rfl⟩, ⟨_, rfl, rfl⟩, ⟨_, rfl, rfl⟩, trivial⟩ trivial ⟨⟨_, _, rfl, rfl, rfl⟩, trivial⟩⟩ ?_
      clear H
      rintro k2 _ ⟨v69, v70, v71, v72, v73, v74, v75, hk2, H, rfl⟩
      cases k2 with
      | zero => cases H
      | succ k2 =>
        rw [Fspec_l14Show.l2] at H
        refine WpC.seq ?_
        refine WpC.seq ?_
        refine WpC.regionL ?_
        refine L.move hF rfl rfl rfl ?_
        refine L.fieldAddr Try.underlying63 rfl info24 rfl hF rfl rfl rfl rfl rfl ?_
        refine L.loadPtr shape24 hF rfl rfl rfl rfl rfl rfl ?_
        refine L.lenR (xs := v75) (e := eI) Try.underlying24 hF rfl rfl rfl rfl ?_
        refine L.bin hF rfl rfl rfl rfl rfl rfl ?_
        refine L.nil ?_
        refine WpC.cond rfl (fun hc => ?_) (fun hc => ?_)
        · replace H := condT hc H
          refine WpC.skip ?_
          refine WpC.seq ?_
          refine WpC.block ?_
          refine WpC.regionL ?_
          refine L.move hF rfl rfl rfl ?_
          refine L.move hF rfl rfl rfl ?_
          refine L.fieldAddr Try.underlying63 rfl info24 rfl hF rfl rfl rfl rfl rfl ?_
          refine L.loadPtr shape24 hF rfl rfl rfl rfl rfl rfl ?_
          refine L.move hF rfl rfl rfl ?_
          obtain ⟨b79, hb79, H⟩ := bindS H
          refine L.idxR (xs := v75) (e := eI) Try.underlying24 info3 hF rfl rfl rfl rfl rfl hb79 rfl rfl ?_
          refine L.loadPe shape3 hF rfl rfl rfl rfl rfl ?_
          obtain ⟨r80, hr80, H⟩ := bindS H
          refine L.call [false, false] [] [] 1 hF rfl rfl rfl ent110 rfl rfl rfl rfl rfl (ih g0 v69 b79 r80 hr80) rfl ?_
          obtain ⟨h81, H⟩ := condG H
          refine L.catS hF rfl rfl rfl rfl (of_decide_eq_true h81) ?_
          refine L.assign hF rfl rfl rfl ?_
          refine L.nil ?_
          refine WpC.regionL ?_
          refine L.move hF rfl rfl rfl ?_
          refine L.bin hF rfl rfl rfl rfl rfl rfl ?_
          refine L.assign hF rfl rfl rfl ?_
          refine L.nil ?_
          exact ⟨k2, _, by omega, ⟨v69, (v70 ++ r80), (IntKind.i64.wrap (v71 + (1 : Int))), v72, v73, v74, v75, by omega, H, rfl⟩, Le.mk [(0, 0)] hm rfl ⟨⟨_, rfl, rfl⟩, ⟨_, rfl, rfl⟩, ⟨_, rfl, rfl⟩, ⟨_, rfl, rfl⟩, trivial⟩ trivial ⟨⟨_, _, rfl, rfl, rfl⟩, trivial⟩⟩
        · replace H := condF hc H
          refine WpC.exit ?_
          refine WpC.seq ?_
          obtain ⟨r82, hr82, H⟩ := bindS H
          obtain ⟨h83, H⟩ := condG H
          obtain ⟨h84, H⟩ := condG H
          refine A.begin mixed rfl rfl ?_
          intro W hI hO
          have n8191 : W 0 #[true, true, true, true, true, true, true, true, true, true, true, true, true] (mkSt [(4, one (cS ((([(ofI (IntKind.i64.wrap (v72 + (128 : Int))))] : List UInt8) ++ r82) ++ v70)))] [] [] 0) := by
            refine hI _ _ _ (A.done (by kernel_rfl) ?_)
            refine WpC.ret ?_
            cases H
            exact Leaves.ret rfl rfl rfl ⟨rfl, rfl⟩
          have n4095 : W 1 #[true, true, true, true, true, true, true, true, true, true, true, true, false] (mkSt [(54, one (cS ((([(ofI (IntKind.i64.wrap (v72 + (128 : Int))))] : List UInt8) ++ r82) ++ v70)))] [] [] 0) := by
            refine hI _ _ _ ?_
            refine A.take 12 rfl (by kernel_rfl) (by kernel_rfl) (by kernel_rfl) rfl (Ca.assign) (fun Q0 k0 => L.assign hF rfl rfl rfl (L.nil k0)) ?_
            exact A.on (hO _ _ _ n8191) (Le.mk [] hm rfl ⟨⟨_, rfl, rfl⟩, trivial⟩ trivial trivial)
          have n2047 : W 2 #[true, true, true, true, true, true, true, true, true, true, true, false, false] (mkSt [(52, one (cS (([(ofI (IntKind.i64.wrap (v72 + (128 : Int))))] : List UInt8) ++ r82))), (53, one (cS v70))] [] [] 0) := by
            refine hI _ _ _ ?_
            refine A.take 11 rfl (by kernel_rfl) (by kernel_rfl) (by kernel_rfl) rfl (Ca.bin rfl rfl (calm_str _ _ _ _ _ _)) (fun Q0 k0 => L.catS hF rfl rfl rfl rfl (of_decide_eq_true h84) (L.nil k0)) ?_
            exact A.on (hO _ _ _ n4095) (Le.mk [] hm rfl ⟨⟨_, rfl, rfl⟩, trivial⟩ trivial trivial)
          have n1535 : W 3 #[true, true, true, true, true, true, true, true, true, false, true, false, false] (mkSt [(48, one (cS ([(ofI (IntKind.i64.wrap (v72 + (128 : Int))))] : List UInt8))), (51, one (cS r82)), (53, one (cS v70))] [] [] 0) := by
            refine hI _ _ _ ?_
            refine A.take 9 rfl (by kernel_rfl) (by kernel_rfl) (by kernel_rfl) rfl (Ca.bin rfl rfl (calm_str _ _ _ _ _ _)) (fun Q0 k0 => L.catS hF rfl rfl rfl rfl (of_decide_eq_true h83) (L.nil k0)) ?_
            exact A.on (hO _ _ _ n2047) (Le.mk [] hm rfl ⟨⟨_, rfl, rfl⟩, ⟨_, rfl, rfl⟩, trivial⟩ trivial trivial)
          have n1503 : W 4 #[true, true, true, true, true, false, true, true, true, false, true, false, false] (mkSt [(47, one (Cell.own 0)), (51, one (cS r82)), (53, one (cS v70))] [(0, ⟨1, List.map eB ([(ofI (IntKind.i64.wrap (v72 + (128 : Int))))] : List UInt8)⟩)] [] 1) := by
            refine hI _ _ _ ?_
            refine A.all [5] (by kernel_rfl) rfl ⟨⟨_, rfl, ?_⟩, trivial⟩
            · refine L.b2s (xs := ([(ofI (IntKind.i64.wrap (v72 + (128 : Int))))] : List UInt8)) Try.underlying50 Try.underlying5 Try.underlying9 hF rfl rfl rfl rfl ?_
              refine L.nil ?_
              exact A.on (hO _ _ _ n1535) (Le.mk [] hm rfl ⟨⟨_, rfl, rfl⟩, ⟨_, rfl, rfl⟩, ⟨_, rfl, rfl⟩, trivial⟩ trivial trivial)
          have n1279 : W 4 #[true, true, true, true, true, true, true, true, false, false, true, false, false] (mkSt [(48, one (cS ([(ofI (IntKind.i64.wrap (v72 + (128 : Int))))] : List UInt8))), (50, one (cI (v70.length : Int))), (53, one (cS v70))] [] [] 0) := by
            refine hI _ _ _ ?_
            refine A.all [8] (by kernel_rfl) rfl ⟨⟨_, rfl, ?_⟩, trivial⟩
            · refine L.call [false] [] [] 0 hF rfl rfl rfl ent128 rfl rfl rfl rfl rfl (Fspec_Var_gives k2  (v70.length : Int) r82 hr82) rfl ?_
              refine L.nil ?_
              exact A.on (hO _ _ _ n1535) (Le.mk [] hm rfl ⟨⟨_, rfl, rfl⟩, ⟨_, rfl, rfl⟩, ⟨_, rfl, rfl⟩, trivial⟩ trivial trivial)
          have n1487 : W 5 #[true, true, true, true, false, false, true, true, true, false, true, false, false] (mkSt [(46, one (cU (ofI (IntKind.i64.wrap (v72 + (128 : Int)))))), (51, one (cS r82)), (53, one (cS v70))] [] [] 0) := by
            refine hI _ _ _ ?_
            refine A.all [4] (by kernel_rfl) rfl ⟨⟨_, rfl, ?_⟩, trivial⟩
            · refine L.buildSlice (e := eB) 0 ([(ofI (IntKind.i64.wrap (v72 + (128 : Int))))] : List UInt8) Try.underlying50 info5 rfl rfl rfl hF rfl rfl rfl rfl rfl rfl rfl rfl ?_
              refine L.nil ?_
              exact A.on (hO _ _ _ n1503) (Le.mk [(0, 0)] hm rfl ⟨⟨_, rfl, rfl⟩, ⟨_, rfl, rfl⟩, ⟨_, rfl, rfl⟩, trivial⟩ ⟨⟨_, rfl, rfl⟩, trivial⟩ trivial)
          have n1247 : W 5 #[true, true, true, true, true, false, true, true, false, false, true, false, false] (mkSt [(47, one (Cell.own 0)), (50, one (cI (v70.length : Int))), (53, one (cS v70))] [(0, ⟨1, List.map eB ([(ofI (IntKind.i64.wrap (v72 + (128 : Int))))] : List UInt8)⟩)] [] 1) := by
            refine hI _ _ _ ?_
            refine A.all [5, 8] (by kernel_rfl) rfl ⟨⟨_, rfl, ?_⟩, ⟨_, rfl, ?_⟩, trivial⟩
            · refine L.b2s (xs := ([(ofI (IntKind.i64.wrap (v72 + (128 : Int))))] : List UInt8)) Try.underlying50 Try.underlying5 Try.underlying9 hF rfl rfl rfl rfl ?_
              refine L.nil ?_
              exact A.on (hO _ _ _ n1279) (Le.mk [] hm rfl ⟨⟨_, rfl, rfl⟩, ⟨_, rfl, rfl⟩, ⟨_, rfl, rfl⟩, trivial⟩ trivial trivial)
            · refine L.call [false] [] [] 1 hF rfl rfl rfl ent128 rfl rfl rfl rfl rfl (Fspec_Var_gives k2  (v70.length : Int) r82 hr82) rfl ?_
              refine L.nil ?_
              exact A.on (hO _ _ _ n1503) (Le.mk [(0, 0)] hm rfl ⟨⟨_, rfl, rfl⟩, ⟨_, rfl, rfl⟩, ⟨_, rfl, rfl⟩, trivial⟩ ⟨⟨_, rfl, rfl⟩, trivial⟩ trivial)
          have n1479 : W 6 #[true, true, true, false, false, false, true, true, true, false, true, false, false] (mkSt [(45, one (cI (IntKind.i64.wrap (v72 + (128 : Int))))), (51, one (cS r82)), (53, one (cS v70))] [] [] 0) := by
            refine hI _ _ _ ?_
            refine A.take 3 rfl (by kernel_rfl) (by kernel_rfl) (by kernel_rfl) rfl (Ca.conv Try.underlying3 Try.underlying5 rfl) (fun Q0 k0 => L.toB Try.underlying3 Try.underlying5 hF rfl rfl rfl (L.nil k0)) ?_
            exact A.on (hO _ _ _ n1487) (Le.mk [] hm rfl ⟨⟨_, rfl, rfl⟩, ⟨_, rfl, rfl⟩, ⟨_, rfl, rfl⟩, trivial⟩ trivial trivial)
          have n1231 : W 6 #[true, true, true, true, false, false, true, true, false, false, true, false, false] (mkSt [(46, one (cU (ofI (IntKind.i64.wrap (v72 + (128 : Int)))))), (50, one (cI (v70.length : Int))), (53, one (cS v70))] [] [] 0) := by
            refine hI _ _ _ ?_
            refine A.all [4, 8] (by kernel_rfl) rfl ⟨⟨_, rfl, ?_⟩, ⟨_, rfl, ?_⟩, trivial⟩
            · refine L.buildSlice (e := eB) 0 ([(ofI (IntKind.i64.wrap (v72 + (128 : Int))))] : List UInt8) Try.underlying50 info5 rfl rfl rfl hF rfl rfl rfl rfl rfl rfl rfl rfl ?_
              refine L.nil ?_
              exact A.on (hO _ _ _ n1247) (Le.mk [(0, 0)] hm rfl ⟨⟨_, rfl, rfl⟩, ⟨_, rfl, rfl⟩, ⟨_, rfl, rfl⟩, trivial⟩ ⟨⟨_, rfl, rfl⟩, trivial⟩ trivial)
            · refine L.call [false] [] [] 0 hF rfl rfl rfl ent128 rfl rfl rfl rfl rfl (Fspec_Var_gives k2  (v70.length : Int) r82 hr82) rfl ?_
              refine L.nil ?_
              exact A.on (hO _ _ _ n1487) (Le.mk [] hm rfl ⟨⟨_, rfl, rfl⟩, ⟨_, rfl, rfl⟩, ⟨_, rfl, rfl⟩, trivial⟩ trivial trivial)
          have n1475 : W 7 #[true, true, false, false, false, false, true, true, true, false, true, false, false] (mkSt [(44, one (cI v72)), (51, one (cS r82)), (53, one (cS v70))] [] [] 0) := by
            refine hI _ _ _ ?_
            refine A.take 2 rfl (by kernel_rfl) (by kernel_rfl) (by kernel_rfl) rfl (Ca.bin rfl rfl (calm_int _ _ _ _ _ _ _ _)) (fun Q0 k0 => L.bin hF rfl rfl rfl rfl rfl rfl (L.nil k0)) ?_
            exact A.on (hO _ _ _ n1479) (Le.mk [] hm rfl ⟨⟨_, rfl, rfl⟩, ⟨_, rfl, rfl⟩, ⟨_, rfl, rfl⟩, trivial⟩ trivial trivial)
          have n1223 : W 7 #[true, true, true, false, false, false, true, true, false, false, true, false, false] (mkSt [(45, one (cI (IntKind.i64.wrap (v72 + (128 : Int))))), (50, one (cI (v70.length : Int))), (53, one (cS v70))] [] [] 0) := by
            refine hI _ _ _ ?_
            refine A.take 3 rfl (by kernel_rfl) (by kernel_rfl) (by kernel_rfl) rfl (Ca.conv Try.underlying3 Try.underlying5 rfl) (fun Q0 k0 => L.toB Try.underlying3 Try.underlying5 hF rfl rfl rfl (L.nil k0)) ?_
            exact A.on (hO _ _ _ n1231) (Le.mk [] hm rfl ⟨⟨_, rfl, rfl⟩, ⟨_, rfl, rfl⟩, ⟨_, rfl, rfl⟩, trivial⟩ trivial trivial)
          have n1219 : W 8 #[true, true, false, false, false, false, true, true, false, false, true, false, false] (mkSt [(44, one (cI v72)), (50, one (cI (v70.length : Int))), (53, one (cS v70))] [] [] 0) := by
            refine hI _ _ _ ?_
            refine A.take 2 rfl (by kernel_rfl) (by kernel_rfl) (by kernel_rfl) rfl (Ca.bin rfl rfl (calm_int _ _ _ _ _ _ _ _)) (fun Q0 k0 => L.bin hF rfl rfl rfl rfl rfl rfl (L.nil k0)) ?_
            exact A.on (hO _ _ _ n1223) (Le.mk [] hm rfl ⟨⟨_, rfl, rfl⟩, ⟨_, rfl, rfl⟩, ⟨_, rfl, rfl⟩, trivial⟩ trivial trivial)
          have n1473 : W 8 #[true, false, false, false, false, false, true, true, true, false, true, false, false] (mkSt [(43, one (Cell.ptr 0 0)), (51, one (cS r82)), (53, one (cS v70))] [] [(0, [cI v72, cL v73, cS v74, Cell.sl true (List.map eI v75)])] 1) := by
            refine hI _ _ _ ?_
            refine A.all [1] (by kernel_rfl) rfl ⟨⟨_, rfl, ?_⟩, trivial⟩
            · refine L.loadPtr shape3 hF rfl rfl rfl rfl rfl rfl ?_
              refine L.nil ?_
              exact A.on (hO _ _ _ n1475) (Le.mk [] hm rfl ⟨⟨_, rfl, rfl⟩, ⟨_, rfl, rfl⟩, ⟨_, rfl, rfl⟩, trivial⟩ trivial trivial)
          have n1217 : W 9 #[true, false, false, false, false, false, true, true, false, false, true, false, false] (mkSt [(43, one (Cell.ptr 0 0)), (50, one (cI (v70.length : Int))), (53, one (cS v70))] [] [(0, [cI v72, cL v73, cS v74, Cell.sl true (List.map eI v75)])] 1) := by
            refine hI _ _ _ ?_
            refine A.all [1, 8] (by kernel_rfl) rfl ⟨⟨_, rfl, ?_⟩, ⟨_, rfl, ?_⟩, trivial⟩
            · refine L.loadPtr shape3 hF rfl rfl rfl rfl rfl rfl ?_
              refine L.nil ?_
              exact A.on (hO _ _ _ n1219) (Le.mk [] hm rfl ⟨⟨_, rfl, rfl⟩, ⟨_, rfl, rfl⟩, ⟨_, rfl, rfl⟩, trivial⟩ trivial trivial)
            · refine L.call [false] [] [] 1 hF rfl rfl rfl ent128 rfl rfl rfl rfl rfl (Fspec_Var_gives k2  (v70.length : Int) r82 hr82) rfl ?_
              refine L.nil ?_
              exact A.on (hO _ _ _ n1473) (Le.mk [(0, 0)] hm rfl ⟨⟨_, rfl, rfl⟩, ⟨_, rfl, rfl⟩, ⟨_, rfl, rfl⟩, trivial⟩ trivial ⟨⟨_, _, rfl, rfl, rfl⟩, trivial⟩)
          have n193 : W 10 #[true, false, false, false, false, false, true, true, false, false, false, false, false] (mkSt [(6, one (cS v70)), (43, one (Cell.ptr 0 0)), (50, one (cI (v70.length : Int)))] [] [(0, [cI v72, cL v73, cS v74, Cell.sl true (List.map eI v75)])] 1) := by
            refine hI _ _ _ ?_
            refine A.take 10 rfl (by kernel_rfl) (by kernel_rfl) (by kernel_rfl) rfl (Ca.move) (fun Q0 k0 => L.move hF rfl rfl rfl (L.nil k0)) ?_
            exact A.on (hO _ _ _ n1217) (Le.mk [(0, 0)] hm rfl ⟨⟨_, rfl, rfl⟩, ⟨_, rfl, rfl⟩, ⟨_, rfl, rfl⟩, trivial⟩ trivial ⟨⟨_, _, rfl, rfl, rfl⟩, trivial⟩)
          have n65 : W 11 #[true, false, false, false, false, false, true, false, false, false, false, false, false] (mkSt [(6, one (cS v70)), (43, one (Cell.ptr 0 0)), (49, one (cS v70))] [] [(0, [cI v72, cL v73, cS v74, Cell.sl true (List.map eI v75)])] 1) := by
            refine hI _ _ _ ?_
            refine A.take 7 rfl (by kernel_rfl) (by kernel_rfl) (by kernel_rfl) rfl (Ca.lenS Try.underlying9 rfl) (fun Q0 k0 => L.lenS Try.underlying9 hF rfl rfl rfl (L.nil k0)) ?_
            exact A.on (hO _ _ _ n193) (Le.mk [(0, 0)] hm rfl ⟨⟨_, rfl, rfl⟩, ⟨_, rfl, rfl⟩, ⟨_, rfl, rfl⟩, trivial⟩ trivial ⟨⟨_, _, rfl, rfl, rfl⟩, trivial⟩)
          have n1 : W 12 #[true, false, false, false, false, false, false, false, false, false, false, false, false] (mkSt [(6, one (cS v70)), (43, one (Cell.ptr 0 0))] [] [(0, [cI v72, cL v73, cS v74, Cell.sl true (List.map eI v75)])] 1) := by
            refine hI _ _ _ ?_
            refine A.take 6 rfl (by kernel_rfl) (by kernel_rfl) (by kernel_rfl) rfl (Ca.move) (fun Q0 k0 => L.move hF rfl rfl rfl (L.nil k0)) ?_
            exact A.on (hO _ _ _ n65) (Le.mk [(0, 0)] hm rfl ⟨⟨_, rfl, rfl⟩, ⟨_, rfl, rfl⟩, ⟨_, rfl, rfl⟩, trivial⟩ trivial ⟨⟨_, _, rfl, rfl, rfl⟩, trivial⟩)
          have n0 : W 13 #[false, false, false, false, false, false, false, false, false, false, false, false, false] (mkSt [(5, one (Cell.ptr 0 0)), (6, one (cS v70))] [] [(0, [cI v72, cL v73, cS v74, Cell.sl true (List.map eI v75)])] 1) := by
            refine hI _ _ _ ?_
            refine A.take 0 rfl (by kernel_rfl) (by kernel_rfl) (by kernel_rfl) rfl (Ca.fieldAddr Try.underlying63 rfl info3 rfl) (fun Q0 k0 => L.fieldAddr Try.underlying63 rfl info3 rfl hF rfl rfl rfl rfl rfl (L.nil k0)) ?_
            exact A.on (hO _ _ _ n1) (Le.mk [(0, 0)] hm rfl ⟨⟨_, rfl, rfl⟩, ⟨_, rfl, rfl⟩, trivial⟩ trivial ⟨⟨_, _, rfl, rfl, rfl⟩, trivial⟩)
          exact hI _ _ _ (A.on (hO _ _ _ n0) (Le.mk [(0, 0)] hm rfl ⟨⟨_, rfl, rfl⟩, ⟨_, rfl, rfl⟩, trivial⟩ trivial ⟨⟨_, _, rfl, rfl, rfl⟩, trivial⟩))
/-! ### Fspec_ReadVar -/
def Fspec_ReadVar.l26 (cl22 : (List UInt8) → Int → Option (Int × Int)) : Nat → (List UInt8) → Int → Int → Int → Int → Bool → Option (Int × Int)
  | 0, _, _, _, _, _, _ => none
  | k26 + 1, v553, v554, v555, v556, v557, v558 => cond (decide (v556 ≥ (0 : Int))) ((at? v553 v556).bind fun b560 => (Fspec_ReadVar.l26 cl22 k26) v553 v554 (IntKind.i64.wrap ((IntKind.i64.wrap (v555 * (128 : Int))) + (Int.tmod (b560.toNat : Int) (128 : Int)))) (IntKind.i64.wrap (v556 - (1 : Int))) v557 v558) ((Fspec_Var k26 v555).bind fun r561 => (cut? v553 (0 : Int) v554).bind fun b562 => cond (r561 == b562) (some (v555, v554)) (cl22 v553 (IntKind.i64.wrap (v554 + (1 : Int)))))
def Fspec_ReadVar.l22 : Nat → (List UInt8) → Int → Option (Int × Int)
  | 0, _, _ => none
  | k22 + 1, v465, v466 => cond (decide (v466 ≤ (7 : Int))) (cond (decide (v466 ≤ (v465.length : Int))) (Fspec_ReadVar.l26 (Fspec_ReadVar.l22 k22) k22 v465 v466 (0 : Int) (IntKind.i64.wrap (v466 - (1 : Int))) (v465.length : Int) (decide (v466 ≤ (v465.length : Int)))) (some ((0 : Int), (0 : Int)))) (some ((0 : Int), (0 : Int)))
def Fspec_ReadVar (k : Nat) (a0 : List UInt8) : Option (Int × Int) := Fspec_ReadVar.l22 k a0 (1 : Int)
theorem ent216 : Enters Try.prog 216 := ⟨Try.f216, Try.func216, rfl, by decide⟩
set_option maxHeartbeats 8000000 in
set_option maxRecDepth 100000 in
theorem Fspec_ReadVar_gives (k : Nat) (a0 : List UInt8) (r : Int × Int) (H : Fspec_ReadVar k a0 = some r) : Gives Try.prog 216 [V.one (cS a0)] [] [V.one (cI r.1), V.one (cI r.2)] [] := by
  refine Gives.intro Try.func216 rfl rfl rfl rfl ?_
  intro F hF hm
  unfold Fspec_ReadVar at H
  obtain ⟨K, hK⟩ : ∃ K, k ≤ K := ⟨k, Nat.le_refl k⟩
  refine WpC.seq ?_
  refine WpC.regionL ?_
  refine L.assign hF rfl rfl rfl ?_
  refine L.assign hF rfl rfl rfl ?_
  refine L.nil ?_
  refine WpC.seq ?_
  refine WpC.seq ?_
  refine WpC.regionL ?_
  refine L.assign hF rfl rfl rfl ?_
  refine L.nil ?_
  refine WpC.block ?_
  refine WpC.loopL (P := Try.prog) (fun n σ => ∃ v465 : List UInt8, ∃ v466 : Int, n ≤ K ∧ Fspec_ReadVar.l22 n v465 v466 = some r ∧ σ = mkSt [(0, one (cS v465)), (4, one (cI v466))] [] [] 0) k ⟨_, ⟨a0, (1 : Int), by omega, H, rfl⟩, Le.mk [] hm rfl ⟨⟨_, rfl, rfl⟩, ⟨_, rfl, rfl⟩, trivial⟩ trivial trivial⟩ ?_
  clear H
  rintro k22 _ ⟨v465, v466, hk22, H, rfl⟩
  cases k22 with
  | zero => cases H
  | succ k22 =>
    rw [Fspec_ReadVar.l22] at H
    refine WpC.seq ?_
    refine WpC.seq ?_
    refine WpC.regionL ?_
    refine L.move hF rfl rfl rfl ?_
    refine L.bin hF rfl rfl rfl rfl rfl rfl ?_
    refine L.move hF rfl rfl rfl ?_
    refine L.split (fun hc => ?_) (fun hc => ?_)
    · replace H := condT hc H
      refine L.move hF rfl rfl rfl ?_
      refine L.move hF rfl rfl rfl ?_
      refine L.lenS Try.underlying9 hF rfl rfl rfl ?_
      refine L.bin hF rfl rfl rfl rfl rfl rfl ?_
      refine L.pick hF rfl rfl rfl rfl ?_
      refine L.nil ?_
      refine WpC.cond rfl (fun hc => ?_) (fun hc => ?_)
      · replace H := condT hc H
        refine WpC.skip ?_
        refine WpC.seq ?_
        refine WpC.block ?_
        refine WpC.seq ?_
        refine WpC.regionL ?_
        refine L.assign hF rfl rfl rfl ?_
        refine L.nil ?_
        refine WpC.seq ?_
        refine WpC.seq ?_
        refine WpC.regionL ?_
        refine L.move hF rfl rfl rfl ?_
        refine L.bin hF rfl rfl rfl rfl rfl rfl ?_
        refine L.assign hF rfl rfl rfl ?_
        refine L.nil ?_
        refine WpC.block ?_
        refine WpC.loopL (P := Try.prog) (fun n σ => ∃ v553 : List UInt8, ∃ v554 : Int, ∃ v555 : Int, ∃ v556 : Int, ∃ v557 : Int, ∃ v558 : Bool, n ≤ K ∧ Fspec_ReadVar.l26 (Fspec_ReadVar.l22 k22) n v553 v554 v555 v556 v557 v558 = some r ∧ σ = mkSt [(0, one (cS v553)), (4, one (cI v554)), (5, one (cI v555)), (6, one (cI v556)), (10, one (cI v554)), (11, one (cS v553)), (12, one (cI v557)), (13, one (cL v558))] [] [] 0) k22 ⟨_, ⟨v465, v466, (0 : Int), (IntKind.i64.wrap (v466 - (1 : Int))), (v465.length : Int), (decide (v466 ≤ (v465.length : Int))), by omega, H, rfl⟩, Le.mk [] hm rfl ⟨⟨_, rfl, rfl⟩, ⟨_, rfl, rfl⟩, ⟨_, rfl, rfl⟩, ⟨_, rfl, rfl⟩, ⟨_, rfl, rfl⟩, ⟨_, rfl, rfl⟩, ⟨_, rfl, rfl⟩, ⟨_, rfl, rfl⟩, trivial⟩ trivial trivial⟩ ?_
        clear H
        rintro k26 _ ⟨v553, v554, v555, v556, v557, v558, hk26, H, rfl⟩
        cases k26 with
        | zero => cases H
        | succ k26 =>
          rw [Fspec_ReadVar.l26] at H
          refine WpC.seq ?_
          refine WpC.seq ?_
          refine WpC.regionL ?_
          refine L.move hF rfl rfl rfl ?_
          refine L.bin hF rfl rfl rfl rfl rfl rfl ?_
          refine L.nil ?_
          refine WpC.cond rfl (fun hc => ?_) (fun hc => ?_)
          · replace H := condT hc H
            refine WpC.skip ?_
            refine WpC.seq ?_
            refine WpC.block ?_
            refine WpC.regionL ?_
            refine L.move hF rfl rfl rfl ?_
            refine L.bin hF rfl rfl rfl rfl rfl rfl ?_
            refine L.move hF rfl rfl rfl ?_
            refine L.move hF rfl rfl rfl ?_
            obtain ⟨b560, hb560, H⟩ := bindS H
            refine L.idxS Try.underlying9 hF rfl rfl rfl rfl hb560 ?_
            refine L.ofB Try.underlying5 Try.underlying3 hF rfl rfl rfl ?_
            refine L.rem hF rfl rfl rfl rfl (by decide) ?_
            refine L.bin hF rfl rfl rfl rfl rfl rfl ?_
            refine L.assign hF rfl rfl rfl ?_
            refine L.nil ?_
            refine WpC.regionL ?_
            refine L.move hF rfl rfl rfl ?_
            refine L.bin hF rfl rfl rfl rfl rfl rfl ?_
            refine L.assign hF rfl rfl rfl ?_
            refine L.nil ?_
            exact ⟨k26, _, by omega, ⟨v553, v554, (IntKind.i64.wrap ((IntKind.i64.wrap (v555 * (128 : Int))) + (Int.tmod (b560.toNat : Int) (128 : Int)))), (IntKind.i64.wrap (v556 - (1 : Int))), v557, v558, by omega, H, rfl⟩, Le.mk [] hm rfl ⟨⟨_, rfl, rfl⟩, ⟨_, rfl, rfl⟩, ⟨_, rfl, rfl⟩, ⟨_, rfl, rfl⟩, ⟨_, rfl, rfl⟩, ⟨_, rfl, rfl⟩, ⟨_, rfl, rfl⟩, ⟨_, rfl, rfl⟩, trivial⟩ trivial trivial⟩
          · replace H := condF hc H
            refine WpC.exit ?_
            refine WpC.seq ?_
            obtain ⟨r561, hr561, H⟩ := bindS H
            obtain ⟨b562, hb562, H⟩ := bindS H
            refine A.begin mixed rfl rfl ?_
            intro W hI hO
            have n63 : W 0 #[true, true, true, true, true, true] (mkSt [(0, one (cS v553)), (4, one (cI v554)), (5, one (cI v555)), (10, one (cI v554)), (11, one (cS v553)), (12, one (cI v557)), (13, one (cL v558)), (36, one (cL (r561 == b562)))] [] [] 0) := by
              refine hI _ _ _ (A.done (by kernel_rfl) ?_)
              refine WpC.cond rfl (fun hc => ?_) (fun hc => ?_)
              · replace H := condT hc H
                refine WpC.seq ?_
                refine WpC.regionL ?_
                refine L.move hF rfl rfl rfl ?_
                refine L.move hF rfl rfl rfl ?_
                refine L.assign hF rfl rfl rfl ?_
                refine L.assign hF rfl rfl rfl ?_
                refine L.nil ?_
                refine WpC.ret ?_
                cases H
                exact Leaves.ret rfl rfl rfl ⟨rfl, rfl⟩
              · replace H := condF hc H
                refine WpC.skip ?_
                refine WpC.regionL ?_
                refine L.move hF rfl rfl rfl ?_
                refine L.bin hF rfl rfl rfl rfl rfl rfl ?_
                refine L.assign hF rfl rfl rfl ?_
                refine L.nil ?_
                exact ⟨k22, _, by omega, ⟨v553, (IntKind.i64.wrap (v554 + (1 : Int))), by omega, H, rfl⟩, Le.mk [] hm rfl ⟨⟨_, rfl, rfl⟩, ⟨_, rfl, rfl⟩, trivial⟩ trivial trivial⟩
            have n31 : W 1 #[true, true, true, true, true, false] (mkSt [(0, one (cS v553)), (4, one (cI v554)), (5, one (cI v555)), (10, one (cI v554)), (11, one (cS v553)), (12, one (cI v557)), (13, one (cL v558)), (32, one (cS r561)), (35, one (cS b562))] [] [] 0) := by
              refine hI _ _ _ ?_
              refine A.take 5 rfl (by kernel_rfl) (by kernel_rfl) (by kernel_rfl) rfl (Ca.bin rfl rfl (calm_str _ _ _ _ _ _)) (fun Q0 k0 => L.binS hF rfl rfl rfl rfl rfl (L.nil k0)) ?_
              exact A.on (hO _ _ _ n63) (Le.mk [] hm rfl ⟨⟨_, rfl, rfl⟩, ⟨_, rfl, rfl⟩, ⟨_, rfl, rfl⟩, ⟨_, rfl, rfl⟩, ⟨_, rfl, rfl⟩, ⟨_, rfl, rfl⟩, ⟨_, rfl, rfl⟩, ⟨_, rfl, rfl⟩, trivial⟩ trivial trivial)
            have n29 : W 2 #[true, false, true, true, true, false] (mkSt [(0, one (cS v553)), (4, one (cI v554)), (5, one (cI v555)), (10, one (cI v554)), (11, one (cS v553)), (12, one (cI v557)), (13, one (cL v558)), (31, one (cI v555)), (35, one (cS b562))] [] [] 0) := by
              refine hI _ _ _ ?_
              refine A.all [1] (by kernel_rfl) rfl ⟨⟨_, rfl, ?_⟩, trivial⟩
              · refine L.call [false] [] [] 0 hF rfl rfl rfl ent128 rfl rfl rfl rfl rfl (Fspec_Var_gives k26  v555 r561 hr561) rfl ?_
                refine L.nil ?_
                exact A.on (hO _ _ _ n31) (Le.mk [] hm rfl ⟨⟨_, rfl, rfl⟩, ⟨_, rfl, rfl⟩, ⟨_, rfl, rfl⟩, ⟨_, rfl, rfl⟩, ⟨_, rfl, rfl⟩, ⟨_, rfl, rfl⟩, ⟨_, rfl, rfl⟩, ⟨_, rfl, rfl⟩, ⟨_, rfl, rfl⟩, trivial⟩ trivial trivial)
            have n13 : W 3 #[true, false, true, true, false, false] (mkSt [(0, one (cS v553)), (4, one (cI v554)), (5, one (cI v555)), (10, one (cI v554)), (11, one (cS v553)), (12, one (cI v557)), (13, one (cL v558)), (31, one (cI v555)), (33, one (cS v553)), (34, one (cI v554))] [] [] 0) := by
              refine hI _ _ _ ?_
              refine A.take 4 rfl (by kernel_rfl) (by kernel_rfl) (by kernel_rfl) rfl (Ca.slice) (fun Q0 k0 => L.cutS Try.underlying9 hF rfl rfl rfl rfl rfl hb562 (L.nil k0)) ?_
              exact A.on (hO _ _ _ n29) (Le.mk [] hm rfl ⟨⟨_, rfl, rfl⟩, ⟨_, rfl, rfl⟩, ⟨_, rfl, rfl⟩, ⟨_, rfl, rfl⟩, ⟨_, rfl, rfl⟩, ⟨_, rfl, rfl⟩, ⟨_, rfl, rfl⟩, ⟨_, rfl, rfl⟩, ⟨_, rfl, rfl⟩, trivial⟩ trivial trivial)
            have n5 : W 4 #[true, false, true, false, false, false] (mkSt [(0, one (cS v553)), (4, one (cI v554)), (5, one (cI v555)), (10, one (cI v554)), (11, one (cS v553)), (12, one (cI v557)), (13, one (cL v558)), (31, one (cI v555)), (33, one (cS v553))] [] [] 0) := by
              refine hI _ _ _ ?_
              refine A.take 3 rfl (by kernel_rfl) (by kernel_rfl) (by kernel_rfl) rfl (Ca.move) (fun Q0 k0 => L.move hF rfl rfl rfl (L.nil k0)) ?_
              exact A.on (hO _ _ _ n13) (Le.mk [] hm rfl ⟨⟨_, rfl, rfl⟩, ⟨_, rfl, rfl⟩, ⟨_, rfl, rfl⟩, ⟨_, rfl, rfl⟩, ⟨_, rfl, rfl⟩, ⟨_, rfl, rfl⟩, ⟨_, rfl, rfl⟩, ⟨_, rfl, rfl⟩, ⟨_, rfl, rfl⟩, ⟨_, rfl, rfl⟩, trivial⟩ trivial trivial)
            have n1 : W 5 #[true, false, false, false, false, false] (mkSt [(0, one (cS v553)), (4, one (cI v554)), (5, one (cI v555)), (10, one (cI v554)), (11, one (cS v553)), (12, one (cI v557)), (13, one (cL v558)), (31, one (cI v555))] [] [] 0) := by
              refine hI _ _ _ ?_
              refine A.take 2 rfl (by kernel_rfl) (by kernel_rfl) (by kernel_rfl) rfl (Ca.move) (fun Q0 k0 => L.move hF rfl rfl rfl (L.nil k0)) ?_
              exact A.on (hO _ _ _ n5) (Le.mk [] hm rfl ⟨⟨_, rfl, rfl⟩, ⟨_, rfl, rfl⟩, ⟨_, rfl, rfl⟩, ⟨_, rfl, rfl⟩, ⟨_, rfl, rfl⟩, ⟨_, rfl, rfl⟩, ⟨_, rfl, rfl⟩, ⟨_, rfl, rfl⟩, ⟨_, rfl, rfl⟩, trivial⟩ trivial trivial)
            have n0 : W 6 #[false, false, false, false, false, false] (mkSt [(0, one (cS v553)), (4, one (cI v554)), (5, one (cI v555)), (10, one (cI v554)), (11, one (cS v553)), (12, one (cI v557)), (13, one (cL v558))] [] [] 0) := by
              refine hI _ _ _ ?_
              refine A.take 0 rfl (by kernel_rfl) (by kernel_rfl) (by kernel_rfl) rfl (Ca.move) (fun Q0 k0 => L.move hF rfl rfl rfl (L.nil k0)) ?_
              exact A.on (hO _ _ _ n1) (Le.mk [] hm rfl ⟨⟨_, rfl, rfl⟩, ⟨_, rfl, rfl⟩, ⟨_, rfl, rfl⟩, ⟨_, rfl, rfl⟩, ⟨_, rfl, rfl⟩, ⟨_, rfl, rfl⟩, ⟨_, rfl, rfl⟩, ⟨_, rfl, rfl⟩, trivial⟩ trivial trivial)
            exact hI _ _ _ (A.on (hO _ _ _ n0) (Le.mk [] hm rfl ⟨⟨_, rfl, rfl⟩, ⟨_, rfl, rfl⟩, ⟨_, rfl, rfl⟩, ⟨_, rfl, rfl⟩, ⟨_, rfl, rfl⟩, ⟨_, rfl, rfl⟩, ⟨_, rfl, rfl⟩, trivial⟩ trivial trivial))
      · replace H := condF hc H
        refine WpC.exit ?_
        refine WpC.seq ?_
        refine WpC.regionL ?_
        refine L.assign hF rfl rfl rfl ?_
        refine L.assign hF rfl rfl rfl ?_
        refine L.nil ?_
        refine WpC.ret ?_
        cases H
        exact Leaves.ret rfl rfl rfl ⟨rfl, rfl⟩
    · replace H := condF hc H
      refine L.off hF rfl rfl ?_
      refine L.off hF rfl rfl ?_
      refine L.off hF rfl rfl ?_
      refine L.off hF rfl rfl ?_
      refine L.pick hF rfl rfl rfl rfl ?_
      refine L.nil ?_
      refine WpC.cond rfl (fun hc => by cases hc) (fun _ => ?_)
      refine WpC.exit ?_
      refine WpC.seq ?_
      refine WpC.regionL ?_
      refine L.assign hF rfl rfl rfl ?_
      refine L.assign hF rfl rfl rfl ?_
      refine L.nil ?_
      refine WpC.ret ?_
      cases H
      exact Leaves.ret rfl rfl rfl ⟨rfl, rfl⟩
end Go.Proofs.Ytcolcmjcjpikcaa.M
