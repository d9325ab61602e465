import Derived.Test.YtgjbgakcfcomdaaKNewWorld1
import Derived.Test.YtgjbgakcfcomdaaProg
namespace Go.Proofs.Ytgjbgakcfcomdaa.M
open Go Go.MG
set_option linter.unusedVariables false
set_option linter.unusedSimpArgs false
structure Tlaws_Pair where
  A : Int
  B : Int
def eTlaws_Pair (x : Tlaws_Pair) : List Cell := [cI x.A, cI x.B]
structure Tlaws_Config where
  UserRealm : List Int
  ServiceRealm : List Int
  Links : List Tlaws_Pair
  Proxy : List Tlaws_Pair
  Skew : Int
def eTlaws_Config (x : Tlaws_Config) : List Cell := [Cell.sl true (List.map eI x.UserRealm), Cell.sl true (List.map eI x.ServiceRealm), Cell.sl true (List.map eTlaws_Pair x.Links), Cell.sl true (List.map eTlaws_Pair x.Proxy), cI x.Skew]
def bTlaws_Config (g0 : Bool) (g1 : Bool) (g2 : Bool) (g3 : Bool) (x : Tlaws_Config) : List Cell := [Cell.sl g0 (List.map eI x.UserRealm), Cell.sl g1 (List.map eI x.ServiceRealm), Cell.sl g2 (List.map eTlaws_Pair x.Links), Cell.sl g3 (List.map eTlaws_Pair x.Proxy), cI x.Skew]
structure Timpl_Pair where
  A : Int
  B : Int
def eTimpl_Pair (x : Timpl_Pair) : List Cell := [cI x.A, cI x.B]
structure Timpl_Config where
  UserRealm : List Int
  ServiceRealm : List Int
  Links : List Timpl_Pair
  Proxy : List Timpl_Pair
  Skew : Int
def eTimpl_Config (x : Timpl_Config) : List Cell := [Cell.ow 1 (List.map eI x.UserRealm), Cell.ow 1 (List.map eI x.ServiceRealm), Cell.ow 2 (List.map eTimpl_Pair x.Links), Cell.ow 2 (List.map eTimpl_Pair x.Proxy), cI x.Skew]
def bTimpl_Config (g0 : Bool) (g1 : Bool) (g2 : Bool) (g3 : Bool) (x : Timpl_Config) : List Cell := [Cell.sl g0 (List.map eI x.UserRealm), Cell.sl g1 (List.map eI x.ServiceRealm), Cell.sl g2 (List.map eTimpl_Pair x.Links), Cell.sl g3 (List.map eTimpl_Pair x.Proxy), cI x.Skew]
structure Timpl_Known where
  Terms : List (List UInt8)
  Keys : List Int
def eTimpl_Known (x : Timpl_Known) : List Cell := [Cell.ow 1 (List.map eS x.Terms), Cell.ow 1 (List.map eI x.Keys)]
structure Timpl_Wait where
  On : Bool
  Nonce : Int
  Key : Int
  Client : Int
def eTimpl_Wait (x : Timpl_Wait) : List Cell := [cL x.On, cI x.Nonce, cI x.Key, cI x.Client]
def bTimpl_Wait (x : Timpl_Wait) : List Cell := [cL x.On, cI x.Nonce, cI x.Key, cI x.Client]
structure Timpl_Rest where
  Servers : Int
  Ops : Int
  End : Int
def eTimpl_Rest (x : Timpl_Rest) : List Cell := [cI x.Servers, cI x.Ops, cI x.End]
structure Timpl_Cred where
  Owner : Int
  Client : Int
  Service : Int
  Key : Int
  Rest : Timpl_Rest
  Ticket : List UInt8
def eTimpl_Cred (x : Timpl_Cred) : List Cell := [cI x.Owner, cI x.Client, cI x.Service, cI x.Key, cI x.Rest.Servers, cI x.Rest.Ops, cI x.Rest.End, cS x.Ticket]
def bTimpl_Cred (x : Timpl_Cred) : List Cell := [cI x.Owner, cI x.Client, cI x.Service, cI x.Key, cI x.Rest.Servers, cI x.Rest.Ops, cI x.Rest.End, cS x.Ticket]
structure Timpl_Auth where
  Client : Int
  Time : Int
  Seq : Int
def eTimpl_Auth (x : Timpl_Auth) : List Cell := [cI x.Client, cI x.Time, cI x.Seq]
def bTimpl_Auth (x : Timpl_Auth) : List Cell := [cI x.Client, cI x.Time, cI x.Seq]
structure Timpl_Cache where
  Quiet : Int
  Seen : List Timpl_Auth
def eTimpl_Cache (x : Timpl_Cache) : List Cell := [cI x.Quiet, Cell.ow 3 (List.map eTimpl_Auth x.Seen)]
structure Timpl_Event where
  Kind : Int
  Realm : Int
  By : Int
  Client : Int
  Service : Int
  Key : Int
  Parent : Int
  Evid : Int
  Rest : Timpl_Rest
def eTimpl_Event (x : Timpl_Event) : List Cell := [cI x.Kind, cI x.Realm, cI x.By, cI x.Client, cI x.Service, cI x.Key, cI x.Parent, cI x.Evid, cI x.Rest.Servers, cI x.Rest.Ops, cI x.Rest.End]
def bTimpl_Event (x : Timpl_Event) : List Cell := [cI x.Kind, cI x.Realm, cI x.By, cI x.Client, cI x.Service, cI x.Key, cI x.Parent, cI x.Evid, cI x.Rest.Servers, cI x.Rest.Ops, cI x.Rest.End]
structure Timpl_Accept where
  Server : Int
  Client : Int
  Key : Int
  Op : Int
  Now : Int
  Auth : Timpl_Auth
  Rest : Timpl_Rest
  Path : List Int
  Via : List Int
  Leaks : Int
  Ticket : List UInt8
def eTimpl_Accept (x : Timpl_Accept) : List Cell := [cI x.Server, cI x.Client, cI x.Key, cI x.Op, cI x.Now, cI x.Auth.Client, cI x.Auth.Time, cI x.Auth.Seq, cI x.Rest.Servers, cI x.Rest.Ops, cI x.Rest.End, Cell.ow 1 (List.map eI x.Path), Cell.ow 1 (List.map eI x.Via), cI x.Leaks, cS x.Ticket]
def bTimpl_Accept (g0 : Bool) (g1 : Bool) (x : Timpl_Accept) : List Cell := [cI x.Server, cI x.Client, cI x.Key, cI x.Op, cI x.Now, cI x.Auth.Client, cI x.Auth.Time, cI x.Auth.Seq, cI x.Rest.Servers, cI x.Rest.Ops, cI x.Rest.End, Cell.sl g0 (List.map eI x.Path), Cell.sl g1 (List.map eI x.Via), cI x.Leaks, cS x.Ticket]
structure Timpl_World where
  Config : Timpl_Config
  Now : Int
  Fresh : Int
  Net : List (List UInt8)
  Known : Timpl_Known
  Waits : List Timpl_Wait
  Creds : List Timpl_Cred
  Caches : List Timpl_Cache
  Log : List Timpl_Event
  Accepts : List Timpl_Accept
  Leaked : List Int
def eTimpl_World (x : Timpl_World) : List Cell := [Cell.ow 1 (List.map eI x.Config.UserRealm), Cell.ow 1 (List.map eI x.Config.ServiceRealm), Cell.ow 2 (List.map eTimpl_Pair x.Config.Links), Cell.ow 2 (List.map eTimpl_Pair x.Config.Proxy), cI x.Config.Skew, cI x.Now, cI x.Fresh, Cell.ow 1 (List.map eS x.Net), Cell.ow 1 (List.map eS x.Known.Terms), Cell.ow 1 (List.map eI x.Known.Keys), Cell.ow 4 (List.map eTimpl_Wait x.Waits), Cell.ow 8 (List.map eTimpl_Cred x.Creds), Cell.ow 2 (List.map eTimpl_Cache x.Caches), Cell.ow 11 (List.map eTimpl_Event x.Log), Cell.ow 15 (List.map eTimpl_Accept x.Accepts), Cell.ow 1 (List.map eI x.Leaked)]
def bTimpl_World (g0 : Bool) (g1 : Bool) (g2 : Bool) (g3 : Bool) (g4 : Bool) (g5 : Bool) (g6 : Bool) (g7 : Bool) (g8 : Bool) (g9 : Bool) (g10 : Bool) (g11 : Bool) (g12 : Bool) (x : Timpl_World) : List Cell := [Cell.sl g0 (List.map eI x.Config.UserRealm), Cell.sl g1 (List.map eI x.Config.ServiceRealm), Cell.sl g2 (List.map eTimpl_Pair x.Config.Links), Cell.sl g3 (List.map eTimpl_Pair x.Config.Proxy), cI x.Config.Skew, cI x.Now, cI x.Fresh, Cell.sl g4 (List.map eS x.Net), Cell.sl g5 (List.map eS x.Known.Terms), Cell.sl g6 (List.map eI x.Known.Keys), Cell.sl g7 (List.map eTimpl_Wait x.Waits), Cell.sl g8 (List.map eTimpl_Cred x.Creds), Cell.sl g9 (List.map eTimpl_Cache x.Caches), Cell.sl g10 (List.map eTimpl_Event x.Log), Cell.sl g11 (List.map eTimpl_Accept x.Accepts), Cell.sl g12 (List.map eI x.Leaked)]
theorem mixed : Try.prog.follows .mixedOrders = true := by kernel_rfl
theorem shape3 : MG.shape Try.prog 3 = some (false, 1) := by kernel_rfl
theorem shape4 : MG.shape Try.prog 4 = some (false, 1) := by kernel_rfl
theorem shape9 : MG.shape Try.prog 9 = some (false, 1) := by kernel_rfl
theorem shape39 : MG.shape Try.prog 39 = some (false, 1) := by kernel_rfl
theorem shape56 : MG.shape Try.prog 56 = some (false, 1) := by kernel_rfl
theorem shape58 : MG.shape Try.prog 58 = some (true, 5) := by kernel_rfl
theorem shape60 : MG.shape Try.prog 60 = some (false, 1) := by kernel_rfl
theorem shape62 : MG.shape Try.prog 62 = some (true, 5) := by kernel_rfl
theorem shape63 : MG.shape Try.prog 63 = some (false, 1) := by kernel_rfl
theorem shape65 : MG.shape Try.prog 65 = some (true, 2) := by kernel_rfl
theorem shape66 : MG.shape Try.prog 66 = some (false, 1) := by kernel_rfl
theorem shape67 : MG.shape Try.prog 67 = some (false, 1) := by kernel_rfl
theorem shape68 : MG.shape Try.prog 68 = some (false, 1) := by kernel_rfl
theorem shape69 : MG.shape Try.prog 69 = some (false, 1) := by kernel_rfl
theorem shape70 : MG.shape Try.prog 70 = some (false, 1) := by kernel_rfl
theorem shape72 : MG.shape Try.prog 72 = some (true, 16) := by kernel_rfl
theorem shape128 : MG.shape Try.prog 128 = some (false, 1) := by kernel_rfl
theorem shape130 : MG.shape Try.prog 130 = some (true, 2) := by kernel_rfl
theorem shape164 : MG.shape Try.prog 164 = some (true, 2) := by kernel_rfl
theorem shape166 : MG.shape Try.prog 166 = some (true, 2) := by kernel_rfl
theorem shape172 : MG.shape Try.prog 172 = some (true, 4) := by kernel_rfl
theorem shape175 : MG.shape Try.prog 175 = some (true, 3) := by kernel_rfl
theorem shape177 : MG.shape Try.prog 177 = some (true, 8) := by kernel_rfl
theorem shape181 : MG.shape Try.prog 181 = some (true, 11) := by kernel_rfl
theorem shape184 : MG.shape Try.prog 184 = some (true, 3) := by kernel_rfl
theorem shape186 : MG.shape Try.prog 186 = some (true, 15) := by kernel_rfl
theorem info3 : Try.prog.info? 3 = some Try.t3 := by kernel_rfl
theorem info4 : Try.prog.info? 4 = some Try.t4 := by kernel_rfl
theorem info5 : Try.prog.info? 5 = some Try.t5 := by kernel_rfl
theorem info9 : Try.prog.info? 9 = some Try.t9 := by kernel_rfl
theorem info39 : Try.prog.info? 39 = some Try.t39 := by kernel_rfl
theorem info56 : Try.prog.info? 56 = some Try.t56 := by kernel_rfl
theorem info60 : Try.prog.info? 60 = some Try.t60 := by kernel_rfl
theorem info62 : Try.prog.info? 62 = some Try.t62 := by kernel_rfl
theorem info63 : Try.prog.info? 63 = some Try.t63 := by kernel_rfl
theorem info65 : Try.prog.info? 65 = some Try.t65 := by kernel_rfl
theorem info66 : Try.prog.info? 66 = some Try.t66 := by kernel_rfl
theorem info67 : Try.prog.info? 67 = some Try.t67 := by kernel_rfl
theorem info68 : Try.prog.info? 68 = some Try.t68 := by kernel_rfl
theorem info69 : Try.prog.info? 69 = some Try.t69 := by kernel_rfl
theorem info70 : Try.prog.info? 70 = some Try.t70 := by kernel_rfl
theorem info72 : Try.prog.info? 72 = some Try.t72 := by kernel_rfl
theorem info128 : Try.prog.info? 128 = some Try.t128 := by kernel_rfl
theorem info130 : Try.prog.info? 130 = some Try.t130 := by kernel_rfl
theorem info164 : Try.prog.info? 164 = some Try.t164 := by kernel_rfl
theorem info166 : Try.prog.info? 166 = some Try.t166 := by kernel_rfl
theorem info172 : Try.prog.info? 172 = some Try.t172 := by kernel_rfl
theorem info175 : Try.prog.info? 175 = some Try.t175 := by kernel_rfl
theorem info177 : Try.prog.info? 177 = some Try.t177 := by kernel_rfl
theorem info181 : Try.prog.info? 181 = some Try.t181 := by kernel_rfl
theorem info184 : Try.prog.info? 184 = some Try.t184 := by kernel_rfl
theorem info186 : Try.prog.info? 186 = some Try.t186 := by kernel_rfl
theorem built62 : builtA Try.prog 62 = fillA (fun x => ([(0, 1), (1, 1), (2, 1), (3, 1), (4, 1)] : List (Nat × Nat))[x]?) [Cell.nil, Cell.nil, Cell.nil, Cell.nil, cI (0 : Int)] := by kernel_rfl
theorem built72 : builtA Try.prog 72 = fillA (fun x => ([(0, 5), (5, 1), (6, 1), (7, 1), (8, 2), (10, 1), (11, 1), (12, 1), (13, 1), (14, 1), (15, 1)] : List (Nat × Nat))[x]?) [Cell.nil, Cell.nil, Cell.nil, Cell.nil, cI (0 : Int), cI (0 : Int), cI (0 : Int), Cell.nil, Cell.nil, Cell.nil, Cell.nil, Cell.nil, Cell.nil, Cell.nil, Cell.nil, Cell.nil] := by kernel_rfl
theorem built130 : builtA Try.prog 130 = fillA (fun x => ([(0, 1), (1, 1)] : List (Nat × Nat))[x]?) [cI (0 : Int), Cell.nil] := by kernel_rfl
abbrev bx (a b c d : Int) : List Cell := [cI a, cI b, cI c, cI d]
theorem Sa1 {π : Nat → Option Nat} {σ : St} {t0 : Nat} {s0 u0 : Slot} {l : List (Nat × Slot)} (k : SlotsOk π σ l) (h0 : renS π s0 = some u0 := by exact rfl) (g0 : σ.slots t0 = some u0 := by exact rfl) : SlotsOk π σ ((t0, s0) :: l) := ⟨⟨_, h0, g0⟩, k⟩
theorem Ra1 {π : Nat → Option Nat} {σ : St} {t0 q0 : Nat} {s0 : Row} {l : List (Nat × Row)} (k : RowsOk π σ l) (h0 : π t0 = some q0 := by exact rfl) (g0 : σ.H.rows q0 = some s0 := by exact rfl) : RowsOk π σ ((t0, s0) :: l) := ⟨⟨_, h0, g0⟩, k⟩
theorem Ba1 {π : Nat → Option Nat} {σ : St} {t0 q0 : Nat} {c0 d0 : List Cell} {l : List (Nat × List Cell)} (k : BoxesOk π σ l) (h0 : π t0 = some q0 := by exact rfl) (g0 : renCs π c0 = some d0 := by exact rfl) (e0 : σ.H.boxes q0 = some d0 := by exact rfl) : BoxesOk π σ ((t0, c0) :: l) := ⟨⟨_, _, h0, g0, e0⟩, k⟩
theorem Sa2 {π : Nat → Option Nat} {σ : St} {t0 t1 : Nat} {s0 u0 s1 u1 : Slot} {l : List (Nat × Slot)} (k : SlotsOk π σ l) (h0 : renS π s0 = some u0 := by exact rfl) (g0 : σ.slots t0 = some u0 := by exact rfl) (h1 : renS π s1 = some u1 := by exact rfl) (g1 : σ.slots t1 = some u1 := by exact rfl) : SlotsOk π σ ((t0, s0) :: (t1, s1) :: l) := ⟨⟨_, h0, g0⟩, ⟨_, h1, g1⟩, k⟩
theorem Ra2 {π : Nat → Option Nat} {σ : St} {t0 q0 t1 q1 : Nat} {s0 s1 : Row} {l : List (Nat × Row)} (k : RowsOk π σ l) (h0 : π t0 = some q0 := by exact rfl) (g0 : σ.H.rows q0 = some s0 := by exact rfl) (h1 : π t1 = some q1 := by exact rfl) (g1 : σ.H.rows q1 = some s1 := by exact rfl) : RowsOk π σ ((t0, s0) :: (t1, s1) :: l) := ⟨⟨_, h0, g0⟩, ⟨_, h1, g1⟩, k⟩
theorem Ba2 {π : Nat → Option Nat} {σ : St} {t0 q0 t1 q1 : Nat} {c0 d0 c1 d1 : List Cell} {l : List (Nat × List Cell)} (k : BoxesOk π σ l) (h0 : π t0 = some q0 := by exact rfl) (g0 : renCs π c0 = some d0 := by exact rfl) (e0 : σ.H.boxes q0 = some d0 := by exact rfl) (h1 : π t1 = some q1 := by exact rfl) (g1 : renCs π c1 = some d1 := by exact rfl) (e1 : σ.H.boxes q1 = some d1 := by exact rfl) : BoxesOk π σ ((t0, c0) :: (t1, c1) :: l) := ⟨⟨_, _, h0, g0, e0⟩, ⟨_, _, h1, g1, e1⟩, k⟩
theorem Sa4 {π : Nat → Option Nat} {σ : St} {t0 t1 t2 t3 : Nat} {s0 u0 s1 u1 s2 u2 s3 u3 : Slot} {l : List (Nat × Slot)} (k : SlotsOk π σ l) (h0 : renS π s0 = some u0 := by exact rfl) (g0 : σ.slots t0 = some u0 := by exact rfl) (h1 : renS π s1 = some u1 := by exact rfl) (g1 : σ.slots t1 = some u1 := by exact rfl) (h2 : renS π s2 = some u2 := by exact rfl) (g2 : σ.slots t2 = some u2 := by exact rfl) (h3 : renS π s3 = some u3 := by exact rfl) (g3 : σ.slots t3 = some u3 := by exact rfl) : SlotsOk π σ ((t0, s0) :: (t1, s1) :: (t2, s2) :: (t3, s3) :: l) := ⟨⟨_, h0, g0⟩, ⟨_, h1, g1⟩, ⟨_, h2, g2⟩, ⟨_, h3, g3⟩, k⟩
theorem Ra4 {π : Nat → Option Nat} {σ : St} {t0 q0 t1 q1 t2 q2 t3 q3 : Nat} {s0 s1 s2 s3 : Row} {l : List (Nat × Row)} (k : RowsOk π σ l) (h0 : π t0 = some q0 := by exact rfl) (g0 : σ.H.rows q0 = some s0 := by exact rfl) (h1 : π t1 = some q1 := by exact rfl) (g1 : σ.H.rows q1 = some s1 := by exact rfl) (h2 : π t2 = some q2 := by exact rfl) (g2 : σ.H.rows q2 = some s2 := by exact rfl) (h3 : π t3 = some q3 := by exact rfl) (g3 : σ.H.rows q3 = some s3 := by exact rfl) : RowsOk π σ ((t0, s0) :: (t1, s1) :: (t2, s2) :: (t3, s3) :: l) := ⟨⟨_, h0, g0⟩, ⟨_, h1, g1⟩, ⟨_, h2, g2⟩, ⟨_, h3, g3⟩, k⟩
theorem Ba4 {π : Nat → Option Nat} {σ : St} {t0 q0 t1 q1 t2 q2 t3 q3 : Nat} {c0 d0 c1 d1 c2 d2 c3 d3 : List Cell} {l : List (Nat × List Cell)} (k : BoxesOk π σ l) (h0 : π t0 = some q0 := by exact rfl) (g0 : renCs π c0 = some d0 := by exact rfl) (e0 : σ.H.boxes q0 = some d0 := by exact rfl) (h1 : π t1 = some q1 := by exact rfl) (g1 : renCs π c1 = some d1 := by exact rfl) (e1 : σ.H.boxes q1 = some d1 := by exact rfl) (h2 : π t2 = some q2 := by exact rfl) (g2 : renCs π c2 = some d2 := by exact rfl) (e2 : σ.H.boxes q2 = some d2 := by exact rfl) (h3 : π t3 = some q3 := by exact rfl) (g3 : renCs π c3 = some d3 := by exact rfl) (e3 : σ.H.boxes q3 = some d3 := by exact rfl) : BoxesOk π σ ((t0, c0) :: (t1, c1) :: (t2, c2) :: (t3, c3) :: l) := ⟨⟨_, _, h0, g0, e0⟩, ⟨_, _, h1, g1, e1⟩, ⟨_, _, h2, g2, e2⟩, ⟨_, _, h3, g3, e3⟩, k⟩
theorem Sa8 {π : Nat → Option Nat} {σ : St} {t0 t1 t2 t3 t4 t5 t6 t7 : Nat} {s0 u0 s1 u1 s2 u2 s3 u3 s4 u4 s5 u5 s6 u6 s7 u7 : Slot} {l : List (Nat × Slot)} (k : SlotsOk π σ l) (h0 : renS π s0 = some u0 := by exact rfl) (g0 : σ.slots t0 = some u0 := by exact rfl) (h1 : renS π s1 = some u1 := by exact rfl) (g1 : σ.slots t1 = some u1 := by exact rfl) (h2 : renS π s2 = some u2 := by exact rfl) (g2 : σ.slots t2 = some u2 := by exact rfl) (h3 : renS π s3 = some u3 := by exact rfl) (g3 : σ.slots t3 = some u3 := by exact rfl) (h4 : renS π s4 = some u4 := by exact rfl) (g4 : σ.slots t4 = some u4 := by exact rfl) (h5 : renS π s5 = some u5 := by exact rfl) (g5 : σ.slots t5 = some u5 := by exact rfl) (h6 : renS π s6 = some u6 := by exact rfl) (g6 : σ.slots t6 = some u6 := by exact rfl) (h7 : renS π s7 = some u7 := by exact rfl) (g7 : σ.slots t7 = some u7 := by exact rfl) : SlotsOk π σ ((t0, s0) :: (t1, s1) :: (t2, s2) :: (t3, s3) :: (t4, s4) :: (t5, s5) :: (t6, s6) :: (t7, s7) :: l) := ⟨⟨_, h0, g0⟩, ⟨_, h1, g1⟩, ⟨_, h2, g2⟩, ⟨_, h3, g3⟩, ⟨_, h4, g4⟩, ⟨_, h5, g5⟩, ⟨_, h6, g6⟩, ⟨_, h7, g7⟩, k⟩
theorem Ra8 {π : Nat → Option Nat} {σ : St} {t0 q0 t1 q1 t2 q2 t3 q3 t4 q4 t5 q5 t6 q6 t7 q7 : Nat} {s0 s1 s2 s3 s4 s5 s6 s7 : Row} {l : List (Nat × Row)} (k : RowsOk π σ l) (h0 : π t0 = some q0 := by exact rfl) (g0 : σ.H.rows q0 = some s0 := by exact rfl) (h1 : π t1 = some q1 := by exact rfl) (g1 : σ.H.rows q1 = some s1 := by exact rfl) (h2 : π t2 = some q2 := by exact rfl) (g2 : σ.H.rows q2 = some s2 := by exact rfl) (h3 : π t3 = some q3 := by exact rfl) (g3 : σ.H.rows q3 = some s3 := by exact rfl) (h4 : π t4 = some q4 := by exact rfl) (g4 : σ.H.rows q4 = some s4 := by exact rfl) (h5 : π t5 = some q5 := by exact rfl) (g5 : σ.H.rows q5 = some s5 := by exact rfl) (h6 : π t6 = some q6 := by exact rfl) (g6 : σ.H.rows q6 = some s6 := by exact rfl) (h7 : π t7 = some q7 := by exact rfl) (g7 : σ.H.rows q7 = some s7 := by exact rfl) : RowsOk π σ ((t0, s0) :: (t1, s1) :: (t2, s2) :: (t3, s3) :: (t4, s4) :: (t5, s5) :: (t6, s6) :: (t7, s7) :: l) := ⟨⟨_, h0, g0⟩, ⟨_, h1, g1⟩, ⟨_, h2, g2⟩, ⟨_, h3, g3⟩, ⟨_, h4, g4⟩, ⟨_, h5, g5⟩, ⟨_, h6, g6⟩, ⟨_, h7, g7⟩, k⟩
theorem Ba8 {π : Nat → Option Nat} {σ : St} {t0 q0 t1 q1 t2 q2 t3 q3 t4 q4 t5 q5 t6 q6 t7 q7 : Nat} {c0 d0 c1 d1 c2 d2 c3 d3 c4 d4 c5 d5 c6 d6 c7 d7 : List Cell} {l : List (Nat × List Cell)} (k : BoxesOk π σ l) (h0 : π t0 = some q0 := by exact rfl) (g0 : renCs π c0 = some d0 := by exact rfl) (e0 : σ.H.boxes q0 = some d0 := by exact rfl) (h1 : π t1 = some q1 := by exact rfl) (g1 : renCs π c1 = some d1 := by exact rfl) (e1 : σ.H.boxes q1 = some d1 := by exact rfl) (h2 : π t2 = some q2 := by exact rfl) (g2 : renCs π c2 = some d2 := by exact rfl) (e2 : σ.H.boxes q2 = some d2 := by exact rfl) (h3 : π t3 = some q3 := by exact rfl) (g3 : renCs π c3 = some d3 := by exact rfl) (e3 : σ.H.boxes q3 = some d3 := by exact rfl) (h4 : π t4 = some q4 := by exact rfl) (g4 : renCs π c4 = some d4 := by exact rfl) (e4 : σ.H.boxes q4 = some d4 := by exact rfl) (h5 : π t5 = some q5 := by exact rfl) (g5 : renCs π c5 = some d5 := by exact rfl) (e5 : σ.H.boxes q5 = some d5 := by exact rfl) (h6 : π t6 = some q6 := by exact rfl) (g6 : renCs π c6 = some d6 := by exact rfl) (e6 : σ.H.boxes q6 = some d6 := by exact rfl) (h7 : π t7 = some q7 := by exact rfl) (g7 : renCs π c7 = some d7 := by exact rfl) (e7 : σ.H.boxes q7 = some d7 := by exact rfl) : BoxesOk π σ ((t0, c0) :: (t1, c1) :: (t2, c2) :: (t3, c3) :: (t4, c4) :: (t5, c5) :: (t6, c6) :: (t7, c7) :: l) := ⟨⟨_, _, h0, g0, e0⟩, ⟨_, _, h1, g1, e1⟩, ⟨_, _, h2, g2, e2⟩, ⟨_, _, h3, g3, e3⟩, ⟨_, _, h4, g4, e4⟩, ⟨_, _, h5, g5, e5⟩, ⟨_, _, h6, g6, e6⟩, ⟨_, _, h7, g7, e7⟩, k⟩
theorem Atk {P : Program} {F : Fix} {ops : Array Oper} {Q : St → Prop} {fuel : Nat} {listed : Array Bool} {sl : Nat → Option Slot} {H : Heap} {σ1 : St} {o : Oper} (i : Nat) (ho : ops[i]? = some o) (hc : CalmAt P F sl H o) (hL : ∀ Q0 : St → Prop, Q0 σ1 → WpL P F ops Q0 [o] ⟨sl, H⟩) (k : WpA P F ops Q fuel (listed.setIfInBounds i true) σ1) (hs : Region.noSelect ops = true := by kernel_rfl) (hf : Region.free .any ops listed i = true := by kernel_rfl) (hr : (Region.ready .any ops listed).contains i = true := by kernel_rfl) (hv : kindV o.op = true := by exact rfl) : WpA P F ops Q (fuel + 1) listed ⟨sl, H⟩ := A.take i ho hs hf hr hv hc hL k
theorem Aof {P : Program} {F : Fix} {ops : Array Oper} {Q : St → Prop} {fuel : Nat} {listed : Array Bool} {sl : Nat → Option Slot} {H : Heap} {o : Oper} {N : Nat} (i : Nat) (ho : ops[i]? = some o) (hn : F.n = N) (k : WpA P F ops Q fuel (listed.setIfInBounds i true) ⟨setD sl o.dst (some (.tup [])), H⟩) (hs : Region.noSelect ops = true := by kernel_rfl) (hf : Region.free .any ops listed i = true := by kernel_rfl) (hr : (Region.ready .any ops listed).contains i = true := by kernel_rfl) (hv : kindV o.op = true := by exact rfl) (hg : guardOf ops sl o = some false := by exact rfl) (hd : dstB N o.dst = true := by exact rfl) : WpA P F ops Q (fuel + 1) listed ⟨sl, H⟩ := A.off i ho hs hf hr hv hn hg hd k
/-! ### Flaws_szIntS -/
def Flaws_szIntS (k : Nat) (a0 : List Int) (a1 : Int) : Option Int := cond (decide ((IntKind.i64.wrap (a1 - (a0.length : Int))) < (0 : Int))) (some (-1 : Int)) (some (IntKind.i64.wrap (a1 - (a0.length : Int))))
theorem ent86 : MG.Enters Try.prog 86 := ⟨Try.f86, Try.func86, rfl, by decide⟩
set_option maxHeartbeats 8000000 in
set_option maxRecDepth 100000 in
theorem Flaws_szIntS_gives (k : Nat) (g0 : Bool) (a0 : List Int) (a1 : Int) (r : Int) (H : Flaws_szIntS k a0 a1 = some r) : Gives Try.prog 86 [V.one (Cell.sl g0 (List.map eI a0)), V.one (cI a1)] [] [V.one (cI r)] [] := by
 refine Gives.intro Try.func86 rfl rfl rfl rfl ?_
 intro F hF hm
 unfold Flaws_szIntS at H
 obtain ⟨K, hK⟩ : ∃ K, k ≤ K := ⟨k, Nat.le_refl k⟩
 refine WpC.seq (WpC.regionL ?_)
 refine L.assign hF rfl rfl rfl (L.nil ?_)
 refine WpC.seq (WpC.regionL ?_)
 refine L.move hF rfl rfl rfl ?_
 refine L.move hF rfl rfl rfl ?_
 refine L.lenR (xs := a0) (e := eI) Try.underlying39 hF rfl rfl rfl rfl ?_
 refine L.bin hF rfl rfl rfl rfl rfl rfl ?_
 refine L.assign hF rfl rfl rfl (L.nil ?_)
 refine WpC.seq (WpC.seq (WpC.regionL ?_))
 refine L.move hF rfl rfl rfl ?_
 refine L.bin hF rfl rfl rfl rfl rfl rfl (L.nil ?_)
 refine WpC.cond rfl (fun hc => ?_) (fun hc => ?_)
 ·replace H := condT hc H
  refine WpC.seq (WpC.regionL ?_)
  refine L.assign hF rfl rfl rfl (L.nil ?_)
  refine WpC.ret ?_
  cases H
  exact Leaves.ret rfl rfl rfl ⟨rfl, rfl⟩
 ·replace H := condF hc H
  refine WpC.skip (WpC.seq (WpC.regionL ?_))
  refine L.move hF rfl rfl rfl ?_
  refine L.assign hF rfl rfl rfl (L.nil ?_)
  refine WpC.ret ?_
  cases H
  exact Leaves.ret rfl rfl rfl ⟨rfl, rfl⟩
/-! ### Flaws_szPairS -/
def Flaws_szPairS (k : Nat) (a0 : List Tlaws_Pair) (a1 : Int) : Option Int := cond (decide ((IntKind.i64.wrap (a1 - (a0.length : Int))) < (0 : Int))) (some (-1 : Int)) (some (IntKind.i64.wrap (a1 - (a0.length : Int))))
theorem ent87 : MG.Enters Try.prog 87 := ⟨Try.f87, Try.func87, rfl, by decide⟩
set_option maxHeartbeats 8000000 in
set_option maxRecDepth 100000 in
theorem Flaws_szPairS_gives (k : Nat) (g0 : Bool) (a0 : List Tlaws_Pair) (a1 : Int) (r : Int) (H : Flaws_szPairS k a0 a1 = some r) : Gives Try.prog 87 [V.one (Cell.sl g0 (List.map eTlaws_Pair a0)), V.one (cI a1)] [] [V.one (cI r)] [] := by
 refine Gives.intro Try.func87 rfl rfl rfl rfl ?_
 intro F hF hm
 unfold Flaws_szPairS at H
 obtain ⟨K, hK⟩ : ∃ K, k ≤ K := ⟨k, Nat.le_refl k⟩
 refine WpC.seq (WpC.regionL ?_)
 refine L.assign hF rfl rfl rfl (L.nil ?_)
 refine WpC.seq (WpC.regionL ?_)
 refine L.move hF rfl rfl rfl ?_
 refine L.move hF rfl rfl rfl ?_
 refine L.lenR (xs := a0) (e := eTlaws_Pair) Try.underlying56 hF rfl rfl rfl rfl ?_
 refine L.bin hF rfl rfl rfl rfl rfl rfl ?_
 refine L.assign hF rfl rfl rfl (L.nil ?_)
 refine WpC.seq (WpC.seq (WpC.regionL ?_))
 refine L.move hF rfl rfl rfl ?_
 refine L.bin hF rfl rfl rfl rfl rfl rfl (L.nil ?_)
 refine WpC.cond rfl (fun hc => ?_) (fun hc => ?_)
 ·replace H := condT hc H
  refine WpC.seq (WpC.regionL ?_)
  refine L.assign hF rfl rfl rfl (L.nil ?_)
  refine WpC.ret ?_
  cases H
  exact Leaves.ret rfl rfl rfl ⟨rfl, rfl⟩
 ·replace H := condF hc H
  refine WpC.skip (WpC.seq (WpC.regionL ?_))
  refine L.move hF rfl rfl rfl ?_
  refine L.assign hF rfl rfl rfl (L.nil ?_)
  refine WpC.ret ?_
  cases H
  exact Leaves.ret rfl rfl rfl ⟨rfl, rfl⟩
/-! ### Flaws_szConfig -/
def Flaws_szConfig (k : Nat) (a0 : Tlaws_Config) (a1 : Int) : Option Int := (Flaws_szIntS k a0.UserRealm a1).bind fun r1 => cond (decide (r1 < (0 : Int))) (some (-1 : Int)) ((Flaws_szIntS k a0.ServiceRealm r1).bind fun r2 => cond (decide (r2 < (0 : Int))) (some (-1 : Int)) ((Flaws_szPairS k a0.Links r2).bind fun r3 => cond (decide (r3 < (0 : Int))) (some (-1 : Int)) ((Flaws_szPairS k a0.Proxy r3).bind fun r4 => cond (decide (r4 < (0 : Int))) (some (-1 : Int)) (some r4))))
theorem ent42 : MG.Enters Try.prog 42 := ⟨Try.f42, Try.func42, rfl, by decide⟩
set_option maxHeartbeats 8000000 in
set_option maxRecDepth 100000 in
theorem Flaws_szConfig_gives (k : Nat) (g0 : Bool) (g1 : Bool) (g2 : Bool) (g3 : Bool) (a0 : Tlaws_Config) (a1 : Int) (r : Int) (H : Flaws_szConfig k a0 a1 = some r) : Gives Try.prog 42 [V.agg [Cell.sl g0 (List.map eI a0.UserRealm), Cell.sl g1 (List.map eI a0.ServiceRealm), Cell.sl g2 (List.map eTlaws_Pair a0.Links), Cell.sl g3 (List.map eTlaws_Pair a0.Proxy), cI a0.Skew], V.one (cI a1)] [] [V.one (cI r)] [] := by
 refine Gives.intro Try.func42 rfl rfl rfl rfl ?_
 intro F hF hm
 unfold Flaws_szConfig at H
 obtain ⟨K, hK⟩ : ∃ K, k ≤ K := ⟨k, Nat.le_refl k⟩
 refine WpC.seq (WpC.regionL ?_)
 refine L.box 6 hF rfl rfl rfl rfl ?_
 refine L.assign hF rfl rfl rfl (L.nil ?_)
 refine WpC.seq (WpC.regionL ?_)
 refine L.fieldAddr Try.underlying58 rfl info39 rfl hF rfl rfl rfl rfl rfl ?_
 refine L.loadPtr shape39 hF rfl rfl rfl rfl rfl rfl ?_
 refine L.move hF rfl rfl rfl ?_
 obtain ⟨r1, hr1, H⟩ := bindS H
 refine L.call [false, false] [] [] 7 hF rfl rfl rfl ent86 rfl rfl rfl rfl rfl (Flaws_szIntS_gives k g0 a0.UserRealm a1 r1 hr1) rfl ?_
 refine L.assign hF rfl rfl rfl (L.nil ?_)
 refine WpC.seq (WpC.seq (WpC.regionL ?_))
 refine L.move hF rfl rfl rfl ?_
 refine L.bin hF rfl rfl rfl rfl rfl rfl (L.nil ?_)
 refine WpC.cond rfl (fun hc => ?_) (fun hc => ?_)
 ·replace H := condT hc H
  refine WpC.seq (WpC.regionL ?_)
  refine L.assign hF rfl rfl rfl (L.nil ?_)
  refine WpC.ret ?_
  cases H
  exact Leaves.ret rfl rfl rfl ⟨rfl, rfl⟩
 ·replace H := condF hc H
  refine WpC.skip (WpC.seq (WpC.regionL ?_))
  refine L.fieldAddr Try.underlying58 rfl info39 rfl hF rfl rfl rfl rfl rfl ?_
  refine L.loadPtr shape39 hF rfl rfl rfl rfl rfl rfl ?_
  refine L.move hF rfl rfl rfl ?_
  obtain ⟨r2, hr2, H⟩ := bindS H
  refine L.call [false, false] [] [] 8 hF rfl rfl rfl ent86 rfl rfl rfl rfl rfl (Flaws_szIntS_gives k g1 a0.ServiceRealm r1 r2 hr2) rfl ?_
  refine L.assign hF rfl rfl rfl (L.nil ?_)
  refine WpC.seq (WpC.seq (WpC.regionL ?_))
  refine L.move hF rfl rfl rfl ?_
  refine L.bin hF rfl rfl rfl rfl rfl rfl (L.nil ?_)
  refine WpC.cond rfl (fun hc => ?_) (fun hc => ?_)
  ·replace H := condT hc H
   refine WpC.seq (WpC.regionL ?_)
   refine L.assign hF rfl rfl rfl (L.nil ?_)
   refine WpC.ret ?_
   cases H
   exact Leaves.ret rfl rfl rfl ⟨rfl, rfl⟩
  ·replace H := condF hc H
   refine WpC.skip (WpC.seq (WpC.regionL ?_))
   refine L.fieldAddr Try.underlying58 rfl info56 rfl hF rfl rfl rfl rfl rfl ?_
   refine L.loadPtr shape56 hF rfl rfl rfl rfl rfl rfl ?_
   refine L.move hF rfl rfl rfl ?_
   obtain ⟨r3, hr3, H⟩ := bindS H
   refine L.call [false, false] [] [] 9 hF rfl rfl rfl ent87 rfl rfl rfl rfl rfl (Flaws_szPairS_gives k g2 a0.Links r2 r3 hr3) rfl ?_
   refine L.assign hF rfl rfl rfl (L.nil ?_)
   refine WpC.seq (WpC.seq (WpC.regionL ?_))
   refine L.move hF rfl rfl rfl ?_
   refine L.bin hF rfl rfl rfl rfl rfl rfl (L.nil ?_)
   refine WpC.cond rfl (fun hc => ?_) (fun hc => ?_)
   ·replace H := condT hc H
    refine WpC.seq (WpC.regionL ?_)
    refine L.assign hF rfl rfl rfl (L.nil ?_)
    refine WpC.ret ?_
    cases H
    exact Leaves.ret rfl rfl rfl ⟨rfl, rfl⟩
   ·replace H := condF hc H
    refine WpC.skip (WpC.seq (WpC.regionL ?_))
    refine L.fieldAddr Try.underlying58 rfl info56 rfl hF rfl rfl rfl rfl rfl ?_
    refine L.loadPtr shape56 hF rfl rfl rfl rfl rfl rfl ?_
    refine L.move hF rfl rfl rfl ?_
    obtain ⟨r4, hr4, H⟩ := bindS H
    refine L.call [false, false] [] [] 10 hF rfl rfl rfl ent87 rfl rfl rfl rfl rfl (Flaws_szPairS_gives k g3 a0.Proxy r3 r4 hr4) rfl ?_
    refine L.assign hF rfl rfl rfl (L.nil ?_)
    refine WpC.seq (WpC.seq (WpC.regionL ?_))
    refine L.move hF rfl rfl rfl ?_
    refine L.bin hF rfl rfl rfl rfl rfl rfl (L.nil ?_)
    refine WpC.cond rfl (fun hc => ?_) (fun hc => ?_)
    ·replace H := condT hc H
     refine WpC.seq (WpC.regionL ?_)
     refine L.assign hF rfl rfl rfl (L.nil ?_)
     refine WpC.ret ?_
     cases H
     exact Leaves.ret rfl rfl rfl ⟨rfl, rfl⟩
    ·replace H := condF hc H
     refine WpC.skip (WpC.seq (WpC.regionL ?_))
     refine L.move hF rfl rfl rfl ?_
     refine L.assign hF rfl rfl rfl (L.nil ?_)
     refine WpC.ret ?_
     cases H
     exact Leaves.ret rfl rfl rfl ⟨rfl, rfl⟩
/-! ### Flaws_toIntS -/
def Flaws_toIntS.l2 : Nat → (List Int) → (List Int) → Int → Option (List Int)
 | 0, _, _, _ => none
 | k2 + 1, v35, v36, v37 => cond (decide (v37 < (v35.length : Int))) ((at? v35 v37).bind fun b40 => (at? v36 v37).bind fun b41 => (Flaws_toIntS.l2 k2) v35 (v36.set v37.toNat b40) (IntKind.i64.wrap (v37 + (1 : Int)))) (some v36)
def Flaws_toIntS (k : Nat) (a0 : List Int) : Option (List Int) := cond (decide (0 ≤ (a0.length : Int) ∧ (a0.length : Int) ≤ (a0.length : Int) ∧ 8 * (a0.length : Int) ≤ 281474976710656 ∧ (a0.length : Int) ≤ 9223372036854775807)) (Flaws_toIntS.l2 k a0 (List.replicate (a0.length : Int).toNat (0 : Int)) (0 : Int)) none
theorem ent91 : MG.Enters Try.prog 91 := ⟨Try.f91, Try.func91, rfl, by decide⟩
set_option maxHeartbeats 8000000 in
set_option maxRecDepth 100000 in
theorem Flaws_toIntS_gives (k : Nat) (g0 : Bool) (a0 : List Int) (r : List Int) (H : Flaws_toIntS k a0 = some r) : Gives Try.prog 91 [V.one (Cell.sl g0 (List.map eI a0))] [] [V.one (Cell.ow 1 (List.map eI r))] [] := by
 refine Gives.intro Try.func91 rfl rfl rfl rfl ?_
 intro F hF hm
 unfold Flaws_toIntS at H
 obtain ⟨K, hK⟩ : ∃ K, k ≤ K := ⟨k, Nat.le_refl k⟩
 refine WpC.seq (WpC.regionL ?_)
 refine L.assign hF rfl rfl rfl (L.nil ?_)
 refine WpC.seq (WpC.regionL ?_)
 refine L.move hF rfl rfl rfl ?_
 refine L.lenR (xs := a0) (e := eI) Try.underlying39 hF rfl rfl rfl rfl ?_
 obtain ⟨h1, H⟩ := condG H
 refine L.makeSlice (e := eI) 1 (0 : Int) Try.underlying39 info3 rfl rfl rfl hF rfl rfl rfl rfl (of_decide_eq_true h1) rfl rfl ?_
 refine L.assign hF rfl rfl rfl (L.nil ?_)
 refine WpC.seq (WpC.seq (WpC.regionL ?_))
 refine L.assign hF rfl rfl rfl (L.nil ?_)
 refine WpC.block ?_
 refine WpC.loopL (P := Try.prog) (fun n σ => ∃ v35 : List Int, ∃ v36 : List Int, ∃ v37 : Int, n ≤ K ∧ Flaws_toIntS.l2 n v35 v36 v37 = some r ∧ σ = mkSt [(0, one (Cell.sl g0 (List.map eI v35))), (3, one (Cell.own 0)), (4, one (cI v37))] [(0, ⟨1, List.map eI v36⟩)] [] 1) k ⟨_, ⟨a0, (List.replicate (a0.length : Int).toNat (0 : Int)), (0 : Int), by omega, H, rfl⟩, Le.mk [(0, 1)] hm rfl (Sa2 (Sa1 trivial)) (Ra1 trivial) trivial⟩ ?_
 clear H
 rintro k2 _ ⟨v35, v36, v37, hk2, H, rfl⟩
 cases k2 with
 | zero => cases H
 | succ k2 =>
  rw [Flaws_toIntS.l2] at H
  refine WpC.seq (WpC.seq (WpC.regionL ?_))
  refine L.move hF rfl rfl rfl ?_
  refine L.move hF rfl rfl rfl ?_
  refine L.lenR (xs := v35) (e := eI) Try.underlying39 hF rfl rfl rfl rfl ?_
  refine L.bin hF rfl rfl rfl rfl rfl rfl (L.nil ?_)
  refine WpC.cond rfl (fun hc => ?_) (fun hc => ?_)
  ·replace H := condT hc H
   refine WpC.skip (WpC.seq (WpC.block (WpC.regionL ?_)))
   refine L.move hF rfl rfl rfl ?_
   refine L.move hF rfl rfl rfl ?_
   refine L.move hF rfl rfl rfl ?_
   refine L.move hF rfl rfl rfl ?_
   obtain ⟨b40, hb40, H⟩ := bindS H
   refine L.idxR (xs := v35) (e := eI) Try.underlying39 info3 hF rfl rfl rfl rfl rfl hb40 rfl rfl ?_
   refine L.loadPe shape3 hF rfl rfl rfl rfl rfl ?_
   obtain ⟨b41, hb41, H⟩ := bindS H
   refine L.idxR (xs := v36) (e := eI) Try.underlying39 info3 hF rfl rfl rfl rfl rfl hb41 rfl rfl ?_
   refine L.storeEp (xs := v36) (e := eI) (a' := b40) shape3 hF rfl rfl rfl rfl rfl rfl rfl (at?_get hb41).2 rfl rfl ?_
   refine L.nil ?_
   refine WpC.regionL ?_
   refine L.move hF rfl rfl rfl ?_
   refine L.bin hF rfl rfl rfl rfl rfl rfl ?_
   refine L.assign hF rfl rfl rfl (L.nil ?_)
   exact ⟨k2, _, by omega, ⟨v35, (v36.set v37.toNat b40), (IntKind.i64.wrap (v37 + (1 : Int))), by omega, H, rfl⟩, Le.mk [(0, 0)] hm rfl (Sa2 (Sa1 trivial)) (Ra1 trivial) trivial⟩
  ·replace H := condF hc H
   refine WpC.exit (WpC.seq (WpC.regionL ?_))
   refine L.move hF rfl rfl rfl ?_
   refine L.assign hF rfl rfl rfl (L.nil ?_)
   refine WpC.ret ?_
   cases H
   exact Leaves.ret rfl rfl rfl ⟨rfl, rfl⟩
/-! ### Flaws_toPair -/
def Flaws_toPair (k : Nat) (a0 : Tlaws_Pair) : Option Timpl_Pair := some (⟨a0.A, a0.B⟩ : Timpl_Pair)
theorem ent136 : MG.Enters Try.prog 136 := ⟨Try.f136, Try.func136, rfl, by decide⟩
set_option maxHeartbeats 8000000 in
set_option maxRecDepth 100000 in
theorem Flaws_toPair_gives (k : Nat) (a0 : Tlaws_Pair) (r : Timpl_Pair) (H : Flaws_toPair k a0 = some r) : Gives Try.prog 136 [V.agg [cI a0.A, cI a0.B]] [] [V.agg [cI r.A, cI r.B]] [] := by
 refine Gives.intro Try.func136 rfl rfl rfl rfl ?_
 intro F hF hm
 unfold Flaws_toPair at H
 obtain ⟨K, hK⟩ : ∃ K, k ≤ K := ⟨k, Nat.le_refl k⟩
 refine WpC.seq (WpC.regionL ?_)
 refine L.box 2 hF rfl rfl rfl rfl ?_
 refine L.alloc 3 info164 rfl hF rfl rfl rfl rfl (L.nil ?_)
 refine WpC.seq (WpC.regionL ?_)
 refine L.alloc 4 info164 rfl hF rfl rfl rfl rfl (L.nil ?_)
 refine WpC.seq (WpC.regionL ?_)
 refine L.fieldAddr Try.underlying166 rfl info3 rfl hF rfl rfl rfl rfl rfl ?_
 refine L.loadPtr shape3 hF rfl rfl rfl rfl rfl rfl ?_
 refine L.fieldAddr Try.underlying164 rfl info3 rfl hF rfl rfl rfl rfl rfl ?_
 refine L.storePtr shape3 hF rfl rfl rfl rfl rfl rfl rfl (L.nil ?_)
 refine WpC.seq (WpC.regionL ?_)
 refine L.fieldAddr Try.underlying166 rfl info3 rfl hF rfl rfl rfl rfl rfl ?_
 refine L.loadPtr shape3 hF rfl rfl rfl rfl rfl rfl ?_
 refine L.fieldAddr Try.underlying164 rfl info3 rfl hF rfl rfl rfl rfl rfl ?_
 refine L.storePtr shape3 hF rfl rfl rfl rfl rfl rfl rfl (L.nil ?_)
 refine WpC.seq (WpC.regionL ?_)
 refine L.loadPtr shape164 hF rfl rfl rfl rfl rfl rfl ?_
 refine L.storePtr shape164 hF rfl rfl rfl rfl rfl rfl rfl (L.nil ?_)
 refine WpC.ret ?_
 cases H
 exact Leaves.ret rfl rfl rfl ⟨rfl, rfl⟩
/-! ### Flaws_toPairS -/
def Flaws_toPairS.l2 : Nat → (List Tlaws_Pair) → (List Timpl_Pair) → Int → Option (List Timpl_Pair)
 | 0, _, _, _ => none
 | k2 + 1, v45, v46, v47 => cond (decide (v47 < (v45.length : Int))) ((at? v45 v47).bind fun b51 => (Flaws_toPair k2 b51).bind fun r52 => (at? v46 v47).bind fun b53 => (Flaws_toPairS.l2 k2) v45 (v46.set v47.toNat r52) (IntKind.i64.wrap (v47 + (1 : Int)))) (some v46)
def Flaws_toPairS (k : Nat) (a0 : List Tlaws_Pair) : Option (List Timpl_Pair) := cond (decide (0 ≤ (a0.length : Int) ∧ (a0.length : Int) ≤ (a0.length : Int) ∧ 16 * (a0.length : Int) ≤ 281474976710656 ∧ (a0.length : Int) ≤ 9223372036854775807)) (Flaws_toPairS.l2 k a0 (List.replicate (a0.length : Int).toNat (⟨(0 : Int), (0 : Int)⟩ : Timpl_Pair)) (0 : Int)) none
theorem ent92 : MG.Enters Try.prog 92 := ⟨Try.f92, Try.func92, rfl, by decide⟩
set_option maxHeartbeats 8000000 in
set_option maxRecDepth 100000 in
theorem Flaws_toPairS_gives (k : Nat) (g0 : Bool) (a0 : List Tlaws_Pair) (r : List Timpl_Pair) (H : Flaws_toPairS k a0 = some r) : Gives Try.prog 92 [V.one (Cell.sl g0 (List.map eTlaws_Pair a0))] [] [V.one (Cell.ow 2 (List.map eTimpl_Pair r))] [] := by
 refine Gives.intro Try.func92 rfl rfl rfl rfl ?_
 intro F hF hm
 unfold Flaws_toPairS at H
 obtain ⟨K, hK⟩ : ∃ K, k ≤ K := ⟨k, Nat.le_refl k⟩
 refine WpC.seq (WpC.regionL ?_)
 refine L.assign hF rfl rfl rfl (L.nil ?_)
 refine WpC.seq (WpC.regionL ?_)
 refine L.move hF rfl rfl rfl ?_
 refine L.lenR (xs := a0) (e := eTlaws_Pair) Try.underlying56 hF rfl rfl rfl rfl ?_
 obtain ⟨h1, H⟩ := condG H
 refine L.makeSlice (e := eTimpl_Pair) 1 (⟨(0 : Int), (0 : Int)⟩ : Timpl_Pair) Try.underlying60 info164 rfl rfl rfl hF rfl rfl rfl rfl (of_decide_eq_true h1) rfl rfl ?_
 refine L.assign hF rfl rfl rfl (L.nil ?_)
 refine WpC.seq (WpC.seq (WpC.regionL ?_))
 refine L.assign hF rfl rfl rfl (L.nil ?_)
 refine WpC.block ?_
 refine WpC.loopL (P := Try.prog) (fun n σ => ∃ v45 : List Tlaws_Pair, ∃ v46 : List Timpl_Pair, ∃ v47 : Int, n ≤ K ∧ Flaws_toPairS.l2 n v45 v46 v47 = some r ∧ σ = mkSt [(0, one (Cell.sl g0 (List.map eTlaws_Pair v45))), (3, one (Cell.own 0)), (4, one (cI v47))] [(0, ⟨2, List.map eTimpl_Pair v46⟩)] [] 1) k ⟨_, ⟨a0, (List.replicate (a0.length : Int).toNat (⟨(0 : Int), (0 : Int)⟩ : Timpl_Pair)), (0 : Int), by omega, H, rfl⟩, Le.mk [(0, 1)] hm rfl (Sa2 (Sa1 trivial)) (Ra1 trivial) trivial⟩ ?_
 clear H
 rintro k2 _ ⟨v45, v46, v47, hk2, H, rfl⟩
 cases k2 with
 | zero => cases H
 | succ k2 =>
  rw [Flaws_toPairS.l2] at H
  refine WpC.seq (WpC.seq (WpC.regionL ?_))
  refine L.move hF rfl rfl rfl ?_
  refine L.move hF rfl rfl rfl ?_
  refine L.lenR (xs := v45) (e := eTlaws_Pair) Try.underlying56 hF rfl rfl rfl rfl ?_
  refine L.bin hF rfl rfl rfl rfl rfl rfl (L.nil ?_)
  refine WpC.cond rfl (fun hc => ?_) (fun hc => ?_)
  ·replace H := condT hc H
   refine WpC.skip (WpC.seq (WpC.block (WpC.regionL ?_)))
   refine L.move hF rfl rfl rfl ?_
   refine L.move hF rfl rfl rfl ?_
   refine L.move hF rfl rfl rfl ?_
   refine L.move hF rfl rfl rfl ?_
   obtain ⟨b51, hb51, H⟩ := bindS H
   refine L.idxR (xs := v45) (e := eTlaws_Pair) Try.underlying56 info166 hF rfl rfl rfl rfl rfl hb51 rfl rfl ?_
   refine L.loadPe shape166 hF rfl rfl rfl rfl rfl ?_
   obtain ⟨r52, hr52, H⟩ := bindS H
   refine L.call [false] [] [] 1 hF rfl rfl rfl ent136 rfl rfl rfl rfl rfl (Flaws_toPair_gives k2  b51 r52 hr52) rfl ?_
   obtain ⟨b53, hb53, H⟩ := bindS H
   refine L.idxR (xs := v46) (e := eTimpl_Pair) Try.underlying60 info164 hF rfl rfl rfl rfl rfl hb53 rfl rfl ?_
   refine L.storeEp (xs := v46) (e := eTimpl_Pair) (a' := r52) shape164 hF rfl rfl rfl rfl rfl rfl rfl (at?_get hb53).2 rfl rfl ?_
   refine L.nil ?_
   refine WpC.regionL ?_
   refine L.move hF rfl rfl rfl ?_
   refine L.bin hF rfl rfl rfl rfl rfl rfl ?_
   refine L.assign hF rfl rfl rfl (L.nil ?_)
   exact ⟨k2, _, by omega, ⟨v45, (v46.set v47.toNat r52), (IntKind.i64.wrap (v47 + (1 : Int))), by omega, H, rfl⟩, Le.mk [(0, 0)] hm rfl (Sa2 (Sa1 trivial)) (Ra1 trivial) trivial⟩
  ·replace H := condF hc H
   refine WpC.exit (WpC.seq (WpC.regionL ?_))
   refine L.move hF rfl rfl rfl ?_
   refine L.assign hF rfl rfl rfl (L.nil ?_)
   refine WpC.ret ?_
   cases H
   exact Leaves.ret rfl rfl rfl ⟨rfl, rfl⟩
/-! ### Flaws_toConfig -/
def Flaws_toConfig (k : Nat) (a0 : Tlaws_Config) : Option Timpl_Config := (Flaws_toIntS k a0.UserRealm).bind fun r1 => (Flaws_toIntS k a0.ServiceRealm).bind fun r2 => (Flaws_toPairS k a0.Links).bind fun r3 => (Flaws_toPairS k a0.Proxy).bind fun r4 => some (⟨r1, r2, r3, r4, a0.Skew⟩ : Timpl_Config)
theorem ent44 : MG.Enters Try.prog 44 := ⟨Try.f44, Try.func44, rfl, by decide⟩
set_option maxHeartbeats 8000000 in
set_option maxRecDepth 100000 in
theorem Flaws_toConfig_gives (k : Nat) (g0 : Bool) (g1 : Bool) (g2 : Bool) (g3 : Bool) (a0 : Tlaws_Config) (r : Timpl_Config) (H : Flaws_toConfig k a0 = some r) : Gives Try.prog 44 [V.agg [Cell.sl g0 (List.map eI a0.UserRealm), Cell.sl g1 (List.map eI a0.ServiceRealm), Cell.sl g2 (List.map eTlaws_Pair a0.Links), Cell.sl g3 (List.map eTlaws_Pair a0.Proxy), cI a0.Skew]] [] [V.agg [Cell.ow 1 (List.map eI r.UserRealm), Cell.ow 1 (List.map eI r.ServiceRealm), Cell.ow 2 (List.map eTimpl_Pair r.Links), Cell.ow 2 (List.map eTimpl_Pair r.Proxy), cI r.Skew]] [] := by
 refine Gives.intro Try.func44 rfl rfl rfl rfl ?_
 intro F hF hm
 unfold Flaws_toConfig at H
 obtain ⟨K, hK⟩ : ∃ K, k ≤ K := ⟨k, Nat.le_refl k⟩
 refine WpC.seq (WpC.regionL ?_)
 refine L.box 5 hF rfl rfl rfl rfl ?_
 refine L.alloc 6 info62 rfl hF rfl rfl rfl rfl ?_
 refine L.le (τ := mkSt [(1, one (Cell.ptr 0 0)), (2, one (Cell.ptr 1 0))] [] [(0, (bTlaws_Config g0 g1 g2 g3 a0)), (1, [Cell.nil, Cell.nil, Cell.nil, Cell.nil, cI (0 : Int)])] 2) (Le.mk [(0, 5), (1, 6)] hm rfl (Sa2 trivial) trivial (Ba2 trivial)) (L.nil ?_)
 refine WpC.seq (WpC.regionL ?_)
 refine L.alloc 2 info62 rfl hF rfl rfl rfl rfl ?_
 refine L.le (τ := mkSt [(1, one (Cell.ptr 0 0)), (2, one (Cell.ptr 1 0)), (3, one (Cell.ptr 2 0))] [] [(0, (bTlaws_Config g0 g1 g2 g3 a0)), (1, [Cell.nil, Cell.nil, Cell.nil, Cell.nil, cI (0 : Int)]), (2, [Cell.nil, Cell.nil, Cell.nil, Cell.nil, cI (0 : Int)])] 3) (Le.mk [(0, 0), (1, 1), (2, 2)] hm rfl (Sa2 (Sa1 trivial)) trivial (Ba2 (Ba1 trivial))) (L.nil ?_)
 refine WpC.seq (WpC.regionL ?_)
 refine L.fieldAddr Try.underlying58 rfl info39 rfl hF rfl rfl rfl rfl rfl ?_
 refine L.loadPtr shape39 hF rfl rfl rfl rfl rfl rfl ?_
 obtain ⟨r1, hr1, H⟩ := bindS H
 refine L.call [false] [] [] 3 hF rfl rfl rfl ent91 rfl rfl rfl rfl rfl (Flaws_toIntS_gives k g0 a0.UserRealm r1 hr1) rfl ?_
 refine L.fieldAddr Try.underlying62 rfl info39 rfl hF rfl rfl rfl rfl rfl ?_
 refine L.storePtr shape39 hF rfl rfl rfl rfl rfl rfl rfl ?_
 refine L.le (τ := mkSt [(1, one (Cell.ptr 0 0)), (2, one (Cell.ptr 1 0)), (3, one (Cell.ptr 2 0))] [(3, ⟨1, List.map eI r1⟩)] [(0, (bTlaws_Config g0 g1 g2 g3 a0)), (1, [Cell.nil, Cell.nil, Cell.nil, Cell.nil, cI (0 : Int)]), (2, [Cell.own 3, Cell.nil, Cell.nil, Cell.nil, cI (0 : Int)])] 4) (Le.mk [(0, 0), (1, 1), (2, 2), (3, 3)] hm rfl (Sa2 (Sa1 trivial)) (Ra1 trivial) (Ba2 (Ba1 trivial))) (L.nil ?_)
 refine WpC.seq (WpC.regionL ?_)
 refine L.fieldAddr Try.underlying58 rfl info39 rfl hF rfl rfl rfl rfl rfl ?_
 refine L.loadPtr shape39 hF rfl rfl rfl rfl rfl rfl ?_
 obtain ⟨r2, hr2, H⟩ := bindS H
 refine L.call [false] [] [] 4 hF rfl rfl rfl ent91 rfl rfl rfl rfl rfl (Flaws_toIntS_gives k g1 a0.ServiceRealm r2 hr2) rfl ?_
 refine L.fieldAddr Try.underlying62 rfl info39 rfl hF rfl rfl rfl rfl rfl ?_
 refine L.storePtr shape39 hF rfl rfl rfl rfl rfl rfl rfl ?_
 refine L.le (τ := mkSt [(1, one (Cell.ptr 0 0)), (2, one (Cell.ptr 1 0)), (3, one (Cell.ptr 2 0))] [(3, ⟨1, List.map eI r1⟩), (4, ⟨1, List.map eI r2⟩)] [(0, (bTlaws_Config g0 g1 g2 g3 a0)), (1, [Cell.nil, Cell.nil, Cell.nil, Cell.nil, cI (0 : Int)]), (2, [Cell.own 3, Cell.own 4, Cell.nil, Cell.nil, cI (0 : Int)])] 5) (Le.mk [(0, 0), (1, 1), (2, 2), (3, 3), (4, 4)] hm rfl (Sa2 (Sa1 trivial)) (Ra2 trivial) (Ba2 (Ba1 trivial))) (L.nil ?_)
 refine WpC.seq (WpC.regionL ?_)
 refine L.fieldAddr Try.underlying58 rfl info56 rfl hF rfl rfl rfl rfl rfl ?_
 refine L.loadPtr shape56 hF rfl rfl rfl rfl rfl rfl ?_
 obtain ⟨r3, hr3, H⟩ := bindS H
 refine L.call [false] [] [] 5 hF rfl rfl rfl ent92 rfl rfl rfl rfl rfl (Flaws_toPairS_gives k g2 a0.Links r3 hr3) rfl ?_
 refine L.fieldAddr Try.underlying62 rfl info60 rfl hF rfl rfl rfl rfl rfl ?_
 refine L.storePtr shape60 hF rfl rfl rfl rfl rfl rfl rfl ?_
 refine L.le (τ := mkSt [(1, one (Cell.ptr 0 0)), (2, one (Cell.ptr 1 0)), (3, one (Cell.ptr 2 0))] [(3, ⟨1, List.map eI r1⟩), (4, ⟨1, List.map eI r2⟩), (5, ⟨2, List.map eTimpl_Pair r3⟩)] [(0, (bTlaws_Config g0 g1 g2 g3 a0)), (1, [Cell.nil, Cell.nil, Cell.nil, Cell.nil, cI (0 : Int)]), (2, [Cell.own 3, Cell.own 4, Cell.own 5, Cell.nil, cI (0 : Int)])] 6) (Le.mk [(0, 0), (1, 1), (2, 2), (3, 3), (4, 4), (5, 5)] hm rfl (Sa2 (Sa1 trivial)) (Ra2 (Ra1 trivial)) (Ba2 (Ba1 trivial))) (L.nil ?_)
 refine WpC.seq (WpC.regionL ?_)
 refine L.fieldAddr Try.underlying58 rfl info56 rfl hF rfl rfl rfl rfl rfl ?_
 refine L.loadPtr shape56 hF rfl rfl rfl rfl rfl rfl ?_
 obtain ⟨r4, hr4, H⟩ := bindS H
 refine L.call [false] [] [] 6 hF rfl rfl rfl ent92 rfl rfl rfl rfl rfl (Flaws_toPairS_gives k g3 a0.Proxy r4 hr4) rfl ?_
 refine L.fieldAddr Try.underlying62 rfl info60 rfl hF rfl rfl rfl rfl rfl ?_
 refine L.storePtr shape60 hF rfl rfl rfl rfl rfl rfl rfl ?_
 refine L.le (τ := mkSt [(1, one (Cell.ptr 0 0)), (2, one (Cell.ptr 1 0)), (3, one (Cell.ptr 2 0))] [(3, ⟨1, List.map eI r1⟩), (4, ⟨1, List.map eI r2⟩), (5, ⟨2, List.map eTimpl_Pair r3⟩), (6, ⟨2, List.map eTimpl_Pair r4⟩)] [(0, (bTlaws_Config g0 g1 g2 g3 a0)), (1, [Cell.nil, Cell.nil, Cell.nil, Cell.nil, cI (0 : Int)]), (2, [Cell.own 3, Cell.own 4, Cell.own 5, Cell.own 6, cI (0 : Int)])] 7) (Le.mk [(0, 0), (1, 1), (2, 2), (3, 3), (4, 4), (5, 5), (6, 6)] hm rfl (Sa2 (Sa1 trivial)) (Ra4 trivial) (Ba2 (Ba1 trivial))) (L.nil ?_)
 refine WpC.seq (WpC.regionL ?_)
 refine L.fieldAddr Try.underlying58 rfl info3 rfl hF rfl rfl rfl rfl rfl ?_
 refine L.loadPtr shape3 hF rfl rfl rfl rfl rfl rfl ?_
 refine L.fieldAddr Try.underlying62 rfl info3 rfl hF rfl rfl rfl rfl rfl ?_
 refine L.storePtr shape3 hF rfl rfl rfl rfl rfl rfl rfl ?_
 refine L.le (τ := mkSt [(2, one (Cell.ptr 0 0)), (3, one (Cell.ptr 1 0))] [(2, ⟨1, List.map eI r1⟩), (3, ⟨1, List.map eI r2⟩), (4, ⟨2, List.map eTimpl_Pair r3⟩), (5, ⟨2, List.map eTimpl_Pair r4⟩)] [(0, [Cell.nil, Cell.nil, Cell.nil, Cell.nil, cI (0 : Int)]), (1, [Cell.own 2, Cell.own 3, Cell.own 4, Cell.own 5, cI a0.Skew])] 6) (Le.mk [(0, 1), (1, 2), (2, 3), (3, 4), (4, 5), (5, 6)] hm rfl (Sa2 trivial) (Ra4 trivial) (Ba2 trivial)) (L.nil ?_)
 refine WpC.seq (WpC.regionL ?_)
 refine L.loadPtr shape62 hF rfl rfl rfl rfl rfl rfl ?_
 refine L.storePtr shape62 hF rfl rfl rfl rfl rfl rfl rfl ?_
 refine L.le (τ := mkSt [(2, one (Cell.ptr 0 0))] [(1, ⟨1, List.map eI r1⟩), (2, ⟨1, List.map eI r2⟩), (3, ⟨2, List.map eTimpl_Pair r3⟩), (4, ⟨2, List.map eTimpl_Pair r4⟩)] [(0, [Cell.own 1, Cell.own 2, Cell.own 3, Cell.own 4, cI a0.Skew])] 5) (Le.mk [(0, 0), (1, 2), (2, 3), (3, 4), (4, 5)] hm rfl (Sa1 trivial) (Ra4 trivial) (Ba1 trivial)) (L.nil ?_)
 refine WpC.ret ?_
 cases H
 exact Leaves.ret rfl rfl rfl ⟨rfl, rfl⟩
/-! ### Fspec_l5All -/
def Fspec_l5All.l2 : Nat → (List Int) → Int → Int → Option Bool
 | 0, _, _, _ => none
 | k2 + 1, v54, v55, v56 => cond (decide (v56 < (v54.length : Int))) ((at? v54 v56).bind fun b63 => cond (decide (b63 < (0 : Int))) (some false) ((at? v54 v56).bind fun b64 => cond (decide (b64 ≥ v55)) (some false) ((Fspec_l5All.l2 k2) v54 v55 (IntKind.i64.wrap (v56 + (1 : Int)))))) (some true)
def Fspec_l5All (k : Nat) (a0 : List Int) (a1 : Int) (a2 : Int) : Option Bool := cond (decide ((a0.length : Int) > a1)) (some false) (Fspec_l5All.l2 k a0 a2 (0 : Int))
theorem ent134 : MG.Enters Try.prog 134 := ⟨Try.f134, Try.func134, rfl, by decide⟩
set_option maxHeartbeats 8000000 in
set_option maxRecDepth 100000 in
theorem Fspec_l5All_gives (k : Nat) (g0 : Bool) (a0 : List Int) (a1 : Int) (a2 : Int) (r : Bool) (H : Fspec_l5All k a0 a1 a2 = some r) : Gives Try.prog 134 [V.one (Cell.sl g0 (List.map eI a0)), V.one (cI a1), V.one (cI a2)] [] [V.one (cL r)] [] := by
 refine Gives.intro Try.func134 rfl rfl rfl rfl ?_
 intro F hF hm
 unfold Fspec_l5All at H
 obtain ⟨K, hK⟩ : ∃ K, k ≤ K := ⟨k, Nat.le_refl k⟩
 refine WpC.seq (WpC.regionL ?_)
 refine L.assign hF rfl rfl rfl (L.nil ?_)
 refine WpC.seq (WpC.seq (WpC.regionL ?_))
 refine L.move hF rfl rfl rfl ?_
 refine L.lenR (xs := a0) (e := eI) Try.underlying39 hF rfl rfl rfl rfl ?_
 refine L.move hF rfl rfl rfl ?_
 refine L.bin hF rfl rfl rfl rfl rfl rfl (L.nil ?_)
 refine WpC.cond rfl (fun hc => ?_) (fun hc => ?_)
 ·replace H := condT hc H
  refine WpC.seq (WpC.regionL ?_)
  refine L.assign hF rfl rfl rfl (L.nil ?_)
  refine WpC.ret ?_
  cases H
  exact Leaves.ret rfl rfl rfl ⟨rfl, rfl⟩
 ·replace H := condF hc H
  refine WpC.skip (WpC.seq (WpC.seq (WpC.regionL ?_)))
  refine L.assign hF rfl rfl rfl (L.nil ?_)
  refine WpC.block ?_
  refine WpC.loopL (P := Try.prog) (fun n σ => ∃ v54 : List Int, ∃ v55 : Int, ∃ v56 : Int, n ≤ K ∧ Fspec_l5All.l2 n v54 v55 v56 = some r ∧ σ = mkSt [(0, one (Cell.sl g0 (List.map eI v54))), (2, one (cI v55)), (7, one (cI v56))] [] [] 0) k ⟨_, ⟨a0, a2, (0 : Int), by omega, H, rfl⟩, Le.mk [] hm rfl (Sa2 (Sa1 trivial)) trivial trivial⟩ ?_
  clear H
  rintro k2 _ ⟨v54, v55, v56, hk2, H, rfl⟩
  cases k2 with
  | zero => cases H
  | succ k2 =>
   rw [Fspec_l5All.l2] at H
   refine WpC.seq (WpC.seq (WpC.regionL ?_))
   refine L.move hF rfl rfl rfl ?_
   refine L.move hF rfl rfl rfl ?_
   refine L.lenR (xs := v54) (e := eI) Try.underlying39 hF rfl rfl rfl rfl ?_
   refine L.bin hF rfl rfl rfl rfl rfl rfl (L.nil ?_)
   refine WpC.cond rfl (fun hc => ?_) (fun hc => ?_)
   ·replace H := condT hc H
    refine WpC.skip (WpC.seq (WpC.block (WpC.seq (WpC.regionL ?_))))
    refine L.move hF rfl rfl rfl ?_
    refine L.move hF rfl rfl rfl ?_
    obtain ⟨b63, hb63, H⟩ := bindS H
    refine L.idxR (xs := v54) (e := eI) Try.underlying39 info3 hF rfl rfl rfl rfl rfl hb63 rfl rfl ?_
    refine L.loadPe shape3 hF rfl rfl rfl rfl rfl ?_
    refine L.bin hF rfl rfl rfl rfl rfl rfl ?_
    refine L.move hF rfl rfl rfl ?_
    refine L.split (fun hc => ?_) (fun hc => ?_)
    ·replace H := condT hc H
     refine L.off hF rfl rfl ?_
     refine L.off hF rfl rfl ?_
     refine L.off hF rfl rfl ?_
     refine L.off hF rfl rfl ?_
     refine L.off hF rfl rfl ?_
     refine L.off hF rfl rfl ?_
     refine L.pick hF rfl rfl rfl rfl (L.nil ?_)
     refine WpC.cond rfl (fun _ => ?_) (fun hc => by cases hc)
     refine WpC.seq (WpC.regionL ?_)
     refine L.assign hF rfl rfl rfl (L.nil ?_)
     refine WpC.ret ?_
     cases H
     exact Leaves.ret rfl rfl rfl ⟨rfl, rfl⟩
    ·replace H := condF hc H
     refine L.move hF rfl rfl rfl ?_
     refine L.move hF rfl rfl rfl ?_
     obtain ⟨b64, hb64, H⟩ := bindS H
     refine L.idxR (xs := v54) (e := eI) Try.underlying39 info3 hF rfl rfl rfl rfl rfl hb64 rfl rfl ?_
     refine L.loadPe shape3 hF rfl rfl rfl rfl rfl ?_
     refine L.move hF rfl rfl rfl ?_
     refine L.bin hF rfl rfl rfl rfl rfl rfl ?_
     refine L.pick hF rfl rfl rfl rfl (L.nil ?_)
     refine WpC.cond rfl (fun hc => ?_) (fun hc => ?_)
     ·replace H := condT hc H
      refine WpC.seq (WpC.regionL ?_)
      refine L.assign hF rfl rfl rfl (L.nil ?_)
      refine WpC.ret ?_
      cases H
      exact Leaves.ret rfl rfl rfl ⟨rfl, rfl⟩
     ·replace H := condF hc H
      refine WpC.skip (WpC.regionL ?_)
      refine L.move hF rfl rfl rfl ?_
      refine L.bin hF rfl rfl rfl rfl rfl rfl ?_
      refine L.assign hF rfl rfl rfl (L.nil ?_)
      exact ⟨k2, _, by omega, ⟨v54, v55, (IntKind.i64.wrap (v56 + (1 : Int))), by omega, H, rfl⟩, Le.mk [] hm rfl (Sa2 (Sa1 trivial)) trivial trivial⟩
   ·replace H := condF hc H
    refine WpC.exit (WpC.seq (WpC.regionL ?_))
    refine L.assign hF rfl rfl rfl (L.nil ?_)
    refine WpC.ret ?_
    cases H
    exact Leaves.ret rfl rfl rfl ⟨rfl, rfl⟩
/-! ### Fspec_l6Has -/
def Fspec_l6Has.l2 : Nat → (List Timpl_Pair) → Int → Timpl_Pair → Option Bool
 | 0, _, _, _ => none
 | k2 + 1, v24, v25, v26 => cond (decide (v25 < (v24.length : Int))) ((at? v24 v25).bind fun b28 => cond ((b28.A == v26.A) && ((b28.B == v26.B) && true)) (some true) ((Fspec_l6Has.l2 k2) v24 (IntKind.i64.wrap (v25 + (1 : Int))) v26)) (some false)
def Fspec_l6Has (k : Nat) (a0 : List Timpl_Pair) (a1 : Timpl_Pair) : Option Bool := Fspec_l6Has.l2 k a0 (0 : Int) a1
theorem ent159 : MG.Enters Try.prog 159 := ⟨Try.f159, Try.func159, rfl, by decide⟩
set_option maxHeartbeats 8000000 in
set_option maxRecDepth 100000 in
theorem Fspec_l6Has_gives (k : Nat) (g0 : Bool) (a0 : List Timpl_Pair) (a1 : Timpl_Pair) (r : Bool) (H : Fspec_l6Has k a0 a1 = some r) : Gives Try.prog 159 [V.one (Cell.sl g0 (List.map eTimpl_Pair a0)), V.agg [cI a1.A, cI a1.B]] [] [V.one (cL r)] [] := by
 refine Gives.intro Try.func159 rfl rfl rfl rfl ?_
 intro F hF hm
 unfold Fspec_l6Has at H
 obtain ⟨K, hK⟩ : ∃ K, k ≤ K := ⟨k, Nat.le_refl k⟩
 refine WpC.seq (WpC.regionL ?_)
 refine L.box 3 hF rfl rfl rfl rfl ?_
 refine L.assign hF rfl rfl rfl (L.nil ?_)
 refine WpC.seq (WpC.seq (WpC.regionL ?_))
 refine L.assign hF rfl rfl rfl (L.nil ?_)
 refine WpC.block ?_
 refine WpC.loopL (P := Try.prog) (fun n σ => ∃ v24 : List Timpl_Pair, ∃ v25 : Int, ∃ v26 : Timpl_Pair, n ≤ K ∧ Fspec_l6Has.l2 n v24 v25 v26 = some r ∧ σ = mkSt [(0, one (Cell.sl g0 (List.map eTimpl_Pair v24))), (3, one (Cell.ptr 0 0)), (5, one (cI v25))] [] [(0, [cI v26.A, cI v26.B])] 1) k ⟨_, ⟨a0, (0 : Int), a1, by omega, H, rfl⟩, Le.mk [(0, 3)] hm rfl (Sa2 (Sa1 trivial)) trivial (Ba1 trivial)⟩ ?_
 clear H
 rintro k2 _ ⟨v24, v25, v26, hk2, H, rfl⟩
 cases k2 with
 | zero => cases H
 | succ k2 =>
  rw [Fspec_l6Has.l2] at H
  refine WpC.seq (WpC.seq (WpC.regionL ?_))
  refine L.move hF rfl rfl rfl ?_
  refine L.move hF rfl rfl rfl ?_
  refine L.lenR (xs := v24) (e := eTimpl_Pair) Try.underlying60 hF rfl rfl rfl rfl ?_
  refine L.bin hF rfl rfl rfl rfl rfl rfl (L.nil ?_)
  refine WpC.cond rfl (fun hc => ?_) (fun hc => ?_)
  ·replace H := condT hc H
   refine WpC.skip (WpC.seq (WpC.block (WpC.seq ?_)))
   refine S.begin mixed (by kernel_rfl) ?_
   refine S.st 0 rfl rfl ((Ca.move).quiet) (fun Q0 k0 => L.move hF rfl rfl rfl (L.nil k0)) ?_
   refine S.st 1 rfl rfl ((Ca.move).quiet) (fun Q0 k0 => L.move hF rfl rfl rfl (L.nil k0)) ?_
   obtain ⟨b28, hb28, H⟩ := bindS H
   refine S.st 2 rfl rfl ((Ca.indexAddr).quiet) (fun Q0 k0 => L.idxR (xs := v24) (e := eTimpl_Pair) Try.underlying60 info164 hF rfl rfl rfl rfl rfl hb28 rfl rfl (L.nil k0)) ?_
   refine S.st 3 rfl rfl (Qu.load) (fun Q0 k0 => L.loadPe shape164 hF rfl rfl rfl rfl rfl (L.nil k0)) ?_
   refine S.st 4 rfl rfl (Qu.load) (fun Q0 k0 => L.loadPtr shape164 hF rfl rfl rfl rfl rfl rfl (L.nil k0)) ?_
   refine S.st 5 rfl rfl ((Ca.eqA (r := ((b28.A == v26.A) && ((b28.B == v26.B) && true))) rfl rfl rfl rfl (by kernel_rfl) (by kernel_rfl)).quiet) (fun Q0 k0 => L.eqA (r := ((b28.A == v26.A) && ((b28.B == v26.B) && true))) hF rfl rfl rfl rfl rfl rfl (by kernel_rfl) (by kernel_rfl) (L.nil k0)) ?_
   refine S.nil ?_
   refine WpC.cond rfl (fun hc => ?_) (fun hc => ?_)
   ·replace H := condT hc H
    refine WpC.seq (WpC.regionL ?_)
    refine L.assign hF rfl rfl rfl (L.nil ?_)
    refine WpC.ret ?_
    cases H
    exact Leaves.ret rfl rfl rfl ⟨rfl, rfl⟩
   ·replace H := condF hc H
    refine WpC.skip (WpC.regionL ?_)
    refine L.move hF rfl rfl rfl ?_
    refine L.bin hF rfl rfl rfl rfl rfl rfl ?_
    refine L.assign hF rfl rfl rfl (L.nil ?_)
    exact ⟨k2, _, by omega, ⟨v24, (IntKind.i64.wrap (v25 + (1 : Int))), v26, by omega, H, rfl⟩, Le.mk [(0, 0)] hm rfl (Sa2 (Sa1 trivial)) trivial (Ba1 trivial)⟩
  ·replace H := condF hc H
   refine WpC.exit (WpC.seq (WpC.regionL ?_))
   refine L.assign hF rfl rfl rfl (L.nil ?_)
   refine WpC.ret ?_
   cases H
   exact Leaves.ret rfl rfl rfl ⟨rfl, rfl⟩
/-! ### Fspec_l6Pairs -/
def Fspec_l6Pairs.j8 (cl7 : (List Timpl_Pair) → Int → Bool → Int → Option Bool) (k : Nat) (v140 : List Timpl_Pair) (v141 : Int) (v142 : Bool) (v143 : Int) : Option Bool := cl7 v140 v141 v142 (IntKind.i64.wrap (v143 + (1 : Int)))
def Fspec_l6Pairs.l7 : Nat → (List Timpl_Pair) → Int → Bool → Int → Option Bool
 | 0, _, _, _, _ => none
 | k7 + 1, v127, v128, v129, v130 => cond (decide (v130 < (v127.length : Int))) ((at? v127 v130).bind fun b144 => cond (decide (b144.A < (0 : Int))) (some false) (cond (decide (b144.A ≥ v128)) (some false) (cond (decide (b144.B < (0 : Int))) (some false) (cond (decide (b144.B ≥ v128)) (some false) (cond v129 (cond (b144.A == b144.B) (some false) ((part? v127 (0 : Int) v130).bind fun b155 => (Fspec_l6Has k7 b155 b144).bind fun r156 => cond r156 (some false) (Fspec_l6Pairs.j8 (Fspec_l6Pairs.l7 k7) k7 v127 v128 v129 v130))) ((part? v127 (0 : Int) v130).bind fun b157 => (Fspec_l6Has k7 b157 b144).bind fun r158 => cond r158 (some false) (Fspec_l6Pairs.j8 (Fspec_l6Pairs.l7 k7) k7 v127 v128 v129 v130))))))) (some true)
def Fspec_l6Pairs (k : Nat) (a0 : List Timpl_Pair) (a1 : Int) (a2 : Bool) : Option Bool := cond (decide ((a0.length : Int) > (6 : Int))) (some false) (Fspec_l6Pairs.l7 k a0 a1 a2 (0 : Int))
theorem ent135 : MG.Enters Try.prog 135 := ⟨Try.f135, Try.func135, rfl, by decide⟩
set_option maxHeartbeats 8000000 in
set_option maxRecDepth 100000 in
theorem Fspec_l6Pairs_gives (k : Nat) (g0 : Bool) (a0 : List Timpl_Pair) (a1 : Int) (a2 : Bool) (r : Bool) (H : Fspec_l6Pairs k a0 a1 a2 = some r) : Gives Try.prog 135 [V.one (Cell.sl g0 (List.map eTimpl_Pair a0)), V.one (cI a1), V.one (cL a2)] [] [V.one (cL r)] [] := by
 refine Gives.intro Try.func135 rfl rfl rfl rfl ?_
 intro F hF hm
 unfold Fspec_l6Pairs at H
 obtain ⟨K, hK⟩ : ∃ K, k ≤ K := ⟨k, Nat.le_refl k⟩
 refine WpC.seq (WpC.regionL ?_)
 refine L.assign hF rfl rfl rfl (L.nil ?_)
 refine WpC.seq (WpC.seq (WpC.regionL ?_))
 refine L.move hF rfl rfl rfl ?_
 refine L.lenR (xs := a0) (e := eTimpl_Pair) Try.underlying60 hF rfl rfl rfl rfl ?_
 refine L.bin hF rfl rfl rfl rfl rfl rfl (L.nil ?_)
 refine WpC.cond rfl (fun hc => ?_) (fun hc => ?_)
 ·replace H := condT hc H
  refine WpC.seq (WpC.regionL ?_)
  refine L.assign hF rfl rfl rfl (L.nil ?_)
  refine WpC.ret ?_
  cases H
  exact Leaves.ret rfl rfl rfl ⟨rfl, rfl⟩
 ·replace H := condF hc H
  refine WpC.skip (WpC.seq (WpC.seq (WpC.regionL ?_)))
  refine L.assign hF rfl rfl rfl (L.nil ?_)
  refine WpC.block ?_
  refine WpC.loopL (P := Try.prog) (fun n σ => ∃ v127 : List Timpl_Pair, ∃ v128 : Int, ∃ v129 : Bool, ∃ v130 : Int, n ≤ K ∧ Fspec_l6Pairs.l7 n v127 v128 v129 v130 = some r ∧ σ = mkSt [(0, one (Cell.sl g0 (List.map eTimpl_Pair v127))), (1, one (cI v128)), (2, one (cL v129)), (7, one (cI v130))] [] [] 0) k ⟨_, ⟨a0, a1, a2, (0 : Int), by omega, H, rfl⟩, Le.mk [] hm rfl (Sa4 trivial) trivial trivial⟩ ?_
  clear H
  rintro k7 _ ⟨v127, v128, v129, v130, hk7, H, rfl⟩
  cases k7 with
  | zero => cases H
  | succ k7 =>
   rw [Fspec_l6Pairs.l7] at H
   refine WpC.seq (WpC.seq (WpC.regionL ?_))
   refine L.move hF rfl rfl rfl ?_
   refine L.move hF rfl rfl rfl ?_
   refine L.lenR (xs := v127) (e := eTimpl_Pair) Try.underlying60 hF rfl rfl rfl rfl ?_
   refine L.bin hF rfl rfl rfl rfl rfl rfl (L.nil ?_)
   refine WpC.cond rfl (fun hc => ?_) (fun hc => ?_)
   ·replace H := condT hc H
    refine WpC.skip ?_
    refine WpC.join (fun σ => ∃ kj8 : Nat, ∃ v140 : List Timpl_Pair, ∃ v141 : Int, ∃ v142 : Bool, ∃ v143 : Int, kj8 ≤ K ∧ Fspec_l6Pairs.j8 (Fspec_l6Pairs.l7 k7) kj8 v140 v141 v142 v143 = some r ∧ σ = mkSt [(0, one (Cell.sl g0 (List.map eTimpl_Pair v140))), (1, one (cI v141)), (2, one (cL v142)), (7, one (cI v143))] [] [] 0) ?_ ?_
    ·rintro _ ⟨kj8, v140, v141, v142, v143, hkj8, H, rfl⟩
     unfold Fspec_l6Pairs.j8 at H
     refine WpC.regionL ?_
     refine L.move hF rfl rfl rfl ?_
     refine L.bin hF rfl rfl rfl rfl rfl rfl ?_
     refine L.assign hF rfl rfl rfl (L.nil ?_)
     exact ⟨k7, _, by omega, ⟨v140, v141, v142, (IntKind.i64.wrap (v143 + (1 : Int))), by omega, H, rfl⟩, Le.mk [] hm rfl (Sa4 trivial) trivial trivial⟩
    ·refine WpC.block (WpC.seq (WpC.regionL ?_))
     refine L.move hF rfl rfl rfl ?_
     refine L.move hF rfl rfl rfl ?_
     obtain ⟨b144, hb144, H⟩ := bindS H
     refine L.idxR (xs := v127) (e := eTimpl_Pair) Try.underlying60 info164 hF rfl rfl rfl rfl rfl hb144 rfl rfl ?_
     refine L.loadPe shape164 hF rfl rfl rfl rfl rfl ?_
     refine L.alloc 0 info164 rfl hF rfl rfl rfl rfl ?_
     refine L.storePtr shape164 hF rfl rfl rfl rfl rfl rfl rfl (L.nil ?_)
     refine WpC.seq ?_
     rcases Bool.eq_false_or_eq_true ((decide (b144.A < (0 : Int)))) with hc149 | hc149
     ·replace H := condT hc149 H
      refine A.begin mixed rfl rfl ?_
      intro W hI hO
      refine hI _ _ _ ?_
      refine Atk 0 rfl (Ca.fieldAddr Try.underlying164 rfl info3 rfl) (fun Q0 k0 => L.fieldAddr Try.underlying164 rfl info3 rfl hF rfl rfl rfl rfl rfl (L.nil k0)) ?_
      refine A.all [1] (by kernel_rfl) rfl ⟨⟨_, rfl, ?_⟩, trivial⟩
      refine L.loadPtr shape3 hF rfl rfl rfl rfl rfl rfl (L.nil ?_)
      refine Atk 2 rfl (Ca.bin rfl rfl (calm_int _ _ _ _ _ _ _ _)) (fun Q0 k0 => L.bin hF rfl rfl rfl rfl rfl rfl (L.nil k0)) ?_
      refine Atk 3 rfl (Ca.move) (fun Q0 k0 => L.move hF rfl rfl rfl (L.nil k0)) ?_
      refine A.le (τ := mkSt [(0, one (Cell.sl g0 (List.map eTimpl_Pair v127))), (1, one (cI v128)), (2, one (cL v129)), (7, one (cI v130)), (8, one (Cell.ptr 0 0)), (25, one (cL true))] [] [(0, [cI b144.A, cI b144.B])] 1) (Le.mk [(0, 0)] hm rfl (Sa4 (Sa1 (Sa1 trivial rfl (congrArg (fun b => some (one (cL b))) hc149)))) trivial (Ba1 trivial)) ?_
      refine Aof 4 rfl hF ?_
      refine Aof 5 rfl hF ?_
      refine Aof 6 rfl hF ?_
      refine Aof 7 rfl hF ?_
      refine Atk 8 rfl (Ca.pick) (fun Q0 k0 => L.pick hF rfl rfl rfl rfl (L.nil k0)) ?_
      refine Atk 9 rfl (Ca.move) (fun Q0 k0 => L.move hF rfl rfl rfl (L.nil k0)) ?_
      refine Aof 10 rfl hF ?_
      refine Aof 11 rfl hF ?_
      refine Aof 12 rfl hF ?_
      refine Atk 13 rfl (Ca.pick) (fun Q0 k0 => L.pick hF rfl rfl rfl rfl (L.nil k0)) ?_
      refine A.le (τ := mkSt [(0, one (Cell.sl g0 (List.map eTimpl_Pair v127))), (1, one (cI v128)), (2, one (cL v129)), (7, one (cI v130)), (8, one (Cell.ptr 0 0)), (35, one (cL true))] [] [(0, [cI b144.A, cI b144.B])] 1) (Le.mk [(0, 0)] hm rfl (Sa4 (Sa2 trivial)) trivial (Ba1 trivial)) ?_
      refine Atk 14 rfl (Ca.move) (fun Q0 k0 => L.move hF rfl rfl rfl (L.nil k0)) ?_
      refine Aof 15 rfl hF ?_
      refine Aof 16 rfl hF ?_
      refine Aof 17 rfl hF ?_
      refine Aof 18 rfl hF ?_
      refine Atk 19 rfl (Ca.pick) (fun Q0 k0 => L.pick hF rfl rfl rfl rfl (L.nil k0)) ?_
      refine Atk 20 rfl (Ca.move) (fun Q0 k0 => L.move hF rfl rfl rfl (L.nil k0)) ?_
      refine Aof 21 rfl hF ?_
      refine Aof 22 rfl hF ?_
      refine Aof 23 rfl hF ?_
      refine A.le (τ := mkSt [(0, one (Cell.sl g0 (List.map eTimpl_Pair v127))), (1, one (cI v128)), (2, one (cL v129)), (7, one (cI v130)), (8, one (Cell.ptr 0 0)), (42, one (cL true)), (44, Slot.tup []), (45, Slot.tup [])] [] [(0, [cI b144.A, cI b144.B])] 1) (Le.mk [(0, 0)] hm rfl (Sa8 trivial) trivial (Ba1 trivial)) ?_
      refine Aof 24 rfl hF ?_
      refine Aof 25 rfl hF ?_
      refine Aof 26 rfl hF ?_
      refine Aof 27 rfl hF ?_
      refine Aof 28 rfl hF ?_
      refine Atk 29 rfl (Ca.pick) (fun Q0 k0 => L.pick hF rfl rfl rfl rfl (L.nil k0)) ?_
      refine Atk 30 rfl (Ca.move) (fun Q0 k0 => L.move hF rfl rfl rfl (L.nil k0)) ?_
      refine Aof 31 rfl hF ?_
      refine Aof 32 rfl hF ?_
      refine Aof 33 rfl hF ?_
      refine A.le (τ := mkSt [(0, one (Cell.sl g0 (List.map eTimpl_Pair v127))), (1, one (cI v128)), (2, one (cL v129)), (7, one (cI v130)), (8, one (Cell.ptr 0 0)), (52, one (cL true)), (55, Slot.tup [])] [] [(0, [cI b144.A, cI b144.B])] 1) (Le.mk [(0, 0)] hm rfl (Sa4 (Sa2 (Sa1 trivial))) trivial (Ba1 trivial)) ?_
      refine Aof 34 rfl hF ?_
      refine A.all [35] (by kernel_rfl) rfl ⟨⟨_, rfl, ?_⟩, trivial⟩
      refine L.off hF rfl rfl (L.nil ?_)
      refine Atk 36 rfl (Ca.pick) (fun Q0 k0 => L.pick hF rfl rfl rfl rfl (L.nil k0)) ?_
      refine A.le (τ := mkSt [(0, one (Cell.sl g0 (List.map eTimpl_Pair v127))), (1, one (cI v128)), (2, one (cL v129)), (7, one (cI v130)), (58, one (cL true))] [] [] 0) (Le.mk [] hm rfl (Sa4 (Sa1 trivial)) trivial trivial) ?_
      refine A.done (by kernel_rfl) ?_
      refine WpC.cond rfl (fun _ => ?_) (fun hc => by cases hc)
      refine WpC.seq (WpC.regionL ?_)
      refine L.assign hF rfl rfl rfl (L.nil ?_)
      refine WpC.ret ?_
      cases H
      exact Leaves.ret rfl rfl rfl ⟨rfl, rfl⟩
     ·replace H := condF hc149 H
      rcases Bool.eq_false_or_eq_true ((decide (b144.A ≥ v128))) with hc150 | hc150
      ·replace H := condT hc150 H
       refine A.begin mixed rfl rfl ?_
       intro W hI hO
       refine hI _ _ _ ?_
       refine Atk 0 rfl (Ca.fieldAddr Try.underlying164 rfl info3 rfl) (fun Q0 k0 => L.fieldAddr Try.underlying164 rfl info3 rfl hF rfl rfl rfl rfl rfl (L.nil k0)) ?_
       refine A.all [1] (by kernel_rfl) rfl ⟨⟨_, rfl, ?_⟩, trivial⟩
       refine L.loadPtr shape3 hF rfl rfl rfl rfl rfl rfl (L.nil ?_)
       refine Atk 2 rfl (Ca.bin rfl rfl (calm_int _ _ _ _ _ _ _ _)) (fun Q0 k0 => L.bin hF rfl rfl rfl rfl rfl rfl (L.nil k0)) ?_
       refine Atk 3 rfl (Ca.move) (fun Q0 k0 => L.move hF rfl rfl rfl (L.nil k0)) ?_
       refine A.le (τ := mkSt [(0, one (Cell.sl g0 (List.map eTimpl_Pair v127))), (1, one (cI v128)), (2, one (cL v129)), (7, one (cI v130)), (8, one (Cell.ptr 0 0)), (25, one (cL false))] [] [(0, [cI b144.A, cI b144.B])] 1) (Le.mk [(0, 0)] hm rfl (Sa4 (Sa1 (Sa1 trivial rfl (congrArg (fun b => some (one (cL b))) hc149)))) trivial (Ba1 trivial)) ?_
       refine Atk 4 rfl (Ca.fieldAddr Try.underlying164 rfl info3 rfl) (fun Q0 k0 => L.fieldAddr Try.underlying164 rfl info3 rfl hF rfl rfl rfl rfl rfl (L.nil k0)) ?_
       refine Atk 6 rfl (Ca.move) (fun Q0 k0 => L.move hF rfl rfl rfl (L.nil k0)) ?_
       refine A.all [5] (by kernel_rfl) rfl ⟨⟨_, rfl, ?_⟩, trivial⟩
       refine L.loadPtr shape3 hF rfl rfl rfl rfl rfl rfl (L.nil ?_)
       refine Atk 7 rfl (Ca.bin rfl rfl (calm_int _ _ _ _ _ _ _ _)) (fun Q0 k0 => L.bin hF rfl rfl rfl rfl rfl rfl (L.nil k0)) ?_
       refine Atk 8 rfl (Ca.pick) (fun Q0 k0 => L.pick hF rfl rfl rfl rfl (L.nil k0)) ?_
       refine Atk 9 rfl (Ca.move) (fun Q0 k0 => L.move hF rfl rfl rfl (L.nil k0)) ?_
       refine A.le (τ := mkSt [(0, one (Cell.sl g0 (List.map eTimpl_Pair v127))), (1, one (cI v128)), (2, one (cL v129)), (7, one (cI v130)), (8, one (Cell.ptr 0 0)), (31, one (cL true))] [] [(0, [cI b144.A, cI b144.B])] 1) (Le.mk [(0, 0)] hm rfl (Sa4 (Sa1 (Sa1 trivial rfl (congrArg (fun b => some (one (cL b))) hc150)))) trivial (Ba1 trivial)) ?_
       refine Aof 10 rfl hF ?_
       refine Aof 11 rfl hF ?_
       refine Aof 12 rfl hF ?_
       refine Atk 13 rfl (Ca.pick) (fun Q0 k0 => L.pick hF rfl rfl rfl rfl (L.nil k0)) ?_
       refine Atk 14 rfl (Ca.move) (fun Q0 k0 => L.move hF rfl rfl rfl (L.nil k0)) ?_
       refine Aof 15 rfl hF ?_
       refine Aof 16 rfl hF ?_
       refine Aof 17 rfl hF ?_
       refine Aof 18 rfl hF ?_
       refine Atk 19 rfl (Ca.pick) (fun Q0 k0 => L.pick hF rfl rfl rfl rfl (L.nil k0)) ?_
       refine A.le (τ := mkSt [(0, one (Cell.sl g0 (List.map eTimpl_Pair v127))), (1, one (cI v128)), (2, one (cL v129)), (7, one (cI v130)), (8, one (Cell.ptr 0 0)), (41, one (cL true))] [] [(0, [cI b144.A, cI b144.B])] 1) (Le.mk [(0, 0)] hm rfl (Sa4 (Sa2 trivial)) trivial (Ba1 trivial)) ?_
       refine Atk 20 rfl (Ca.move) (fun Q0 k0 => L.move hF rfl rfl rfl (L.nil k0)) ?_
       refine Aof 21 rfl hF ?_
       refine Aof 22 rfl hF ?_
       refine Aof 23 rfl hF ?_
       refine Aof 24 rfl hF ?_
       refine Aof 25 rfl hF ?_
       refine Aof 26 rfl hF ?_
       refine Aof 27 rfl hF ?_
       refine Aof 28 rfl hF ?_
       refine Atk 29 rfl (Ca.pick) (fun Q0 k0 => L.pick hF rfl rfl rfl rfl (L.nil k0)) ?_
       refine A.le (τ := mkSt [(0, one (Cell.sl g0 (List.map eTimpl_Pair v127))), (1, one (cI v128)), (2, one (cL v129)), (7, one (cI v130)), (8, one (Cell.ptr 0 0)), (51, one (cL true))] [] [(0, [cI b144.A, cI b144.B])] 1) (Le.mk [(0, 0)] hm rfl (Sa4 (Sa2 trivial)) trivial (Ba1 trivial)) ?_
       refine Atk 30 rfl (Ca.move) (fun Q0 k0 => L.move hF rfl rfl rfl (L.nil k0)) ?_
       refine Aof 31 rfl hF ?_
       refine Aof 32 rfl hF ?_
       refine Aof 33 rfl hF ?_
       refine Aof 34 rfl hF ?_
       refine A.all [35] (by kernel_rfl) rfl ⟨⟨_, rfl, ?_⟩, trivial⟩
       refine L.off hF rfl rfl (L.nil ?_)
       refine Atk 36 rfl (Ca.pick) (fun Q0 k0 => L.pick hF rfl rfl rfl rfl (L.nil k0)) ?_
       refine A.le (τ := mkSt [(0, one (Cell.sl g0 (List.map eTimpl_Pair v127))), (1, one (cI v128)), (2, one (cL v129)), (7, one (cI v130)), (58, one (cL true))] [] [] 0) (Le.mk [] hm rfl (Sa4 (Sa1 trivial)) trivial trivial) ?_
       refine A.done (by kernel_rfl) ?_
       refine WpC.cond rfl (fun _ => ?_) (fun hc => by cases hc)
       refine WpC.seq (WpC.regionL ?_)
       refine L.assign hF rfl rfl rfl (L.nil ?_)
       refine WpC.ret ?_
       cases H
       exact Leaves.ret rfl rfl rfl ⟨rfl, rfl⟩
      ·replace H := condF hc150 H
       rcases Bool.eq_false_or_eq_true ((decide (b144.B < (0 : Int)))) with hc151 | hc151
       ·replace H := condT hc151 H
        refine A.begin mixed rfl rfl ?_
        intro W hI hO
        refine hI _ _ _ ?_
        refine Atk 0 rfl (Ca.fieldAddr Try.underlying164 rfl info3 rfl) (fun Q0 k0 => L.fieldAddr Try.underlying164 rfl info3 rfl hF rfl rfl rfl rfl rfl (L.nil k0)) ?_
        refine A.all [1] (by kernel_rfl) rfl ⟨⟨_, rfl, ?_⟩, trivial⟩
        refine L.loadPtr shape3 hF rfl rfl rfl rfl rfl rfl (L.nil ?_)
        refine Atk 2 rfl (Ca.bin rfl rfl (calm_int _ _ _ _ _ _ _ _)) (fun Q0 k0 => L.bin hF rfl rfl rfl rfl rfl rfl (L.nil k0)) ?_
        refine Atk 3 rfl (Ca.move) (fun Q0 k0 => L.move hF rfl rfl rfl (L.nil k0)) ?_
        refine A.le (τ := mkSt [(0, one (Cell.sl g0 (List.map eTimpl_Pair v127))), (1, one (cI v128)), (2, one (cL v129)), (7, one (cI v130)), (8, one (Cell.ptr 0 0)), (25, one (cL false))] [] [(0, [cI b144.A, cI b144.B])] 1) (Le.mk [(0, 0)] hm rfl (Sa4 (Sa1 (Sa1 trivial rfl (congrArg (fun b => some (one (cL b))) hc149)))) trivial (Ba1 trivial)) ?_
        refine Atk 4 rfl (Ca.fieldAddr Try.underlying164 rfl info3 rfl) (fun Q0 k0 => L.fieldAddr Try.underlying164 rfl info3 rfl hF rfl rfl rfl rfl rfl (L.nil k0)) ?_
        refine Atk 6 rfl (Ca.move) (fun Q0 k0 => L.move hF rfl rfl rfl (L.nil k0)) ?_
        refine A.all [5] (by kernel_rfl) rfl ⟨⟨_, rfl, ?_⟩, trivial⟩
        refine L.loadPtr shape3 hF rfl rfl rfl rfl rfl rfl (L.nil ?_)
        refine Atk 7 rfl (Ca.bin rfl rfl (calm_int _ _ _ _ _ _ _ _)) (fun Q0 k0 => L.bin hF rfl rfl rfl rfl rfl rfl (L.nil k0)) ?_
        refine Atk 8 rfl (Ca.pick) (fun Q0 k0 => L.pick hF rfl rfl rfl rfl (L.nil k0)) ?_
        refine Atk 9 rfl (Ca.move) (fun Q0 k0 => L.move hF rfl rfl rfl (L.nil k0)) ?_
        refine A.le (τ := mkSt [(0, one (Cell.sl g0 (List.map eTimpl_Pair v127))), (1, one (cI v128)), (2, one (cL v129)), (7, one (cI v130)), (8, one (Cell.ptr 0 0)), (31, one (cL false))] [] [(0, [cI b144.A, cI b144.B])] 1) (Le.mk [(0, 0)] hm rfl (Sa4 (Sa1 (Sa1 trivial rfl (congrArg (fun b => some (one (cL b))) hc150)))) trivial (Ba1 trivial)) ?_
        refine Atk 10 rfl (Ca.fieldAddr Try.underlying164 rfl info3 rfl) (fun Q0 k0 => L.fieldAddr Try.underlying164 rfl info3 rfl hF rfl rfl rfl rfl rfl (L.nil k0)) ?_
        refine A.all [11] (by kernel_rfl) rfl ⟨⟨_, rfl, ?_⟩, trivial⟩
        refine L.loadPtr shape3 hF rfl rfl rfl rfl rfl rfl (L.nil ?_)
        refine Atk 12 rfl (Ca.bin rfl rfl (calm_int _ _ _ _ _ _ _ _)) (fun Q0 k0 => L.bin hF rfl rfl rfl rfl rfl rfl (L.nil k0)) ?_
        refine Atk 13 rfl (Ca.pick) (fun Q0 k0 => L.pick hF rfl rfl rfl rfl (L.nil k0)) ?_
        refine Atk 14 rfl (Ca.move) (fun Q0 k0 => L.move hF rfl rfl rfl (L.nil k0)) ?_
        refine A.le (τ := mkSt [(0, one (Cell.sl g0 (List.map eTimpl_Pair v127))), (1, one (cI v128)), (2, one (cL v129)), (7, one (cI v130)), (8, one (Cell.ptr 0 0)), (36, one (cL true))] [] [(0, [cI b144.A, cI b144.B])] 1) (Le.mk [(0, 0)] hm rfl (Sa4 (Sa1 (Sa1 trivial rfl (congrArg (fun b => some (one (cL b))) hc151)))) trivial (Ba1 trivial)) ?_
        refine Aof 15 rfl hF ?_
        refine Aof 16 rfl hF ?_
        refine Aof 17 rfl hF ?_
        refine Aof 18 rfl hF ?_
        refine Atk 19 rfl (Ca.pick) (fun Q0 k0 => L.pick hF rfl rfl rfl rfl (L.nil k0)) ?_
        refine Atk 20 rfl (Ca.move) (fun Q0 k0 => L.move hF rfl rfl rfl (L.nil k0)) ?_
        refine Aof 21 rfl hF ?_
        refine Aof 22 rfl hF ?_
        refine Aof 23 rfl hF ?_
        refine Aof 24 rfl hF ?_
        refine A.le (τ := mkSt [(0, one (Cell.sl g0 (List.map eTimpl_Pair v127))), (1, one (cI v128)), (2, one (cL v129)), (7, one (cI v130)), (8, one (Cell.ptr 0 0)), (42, one (cL true)), (44, Slot.tup []), (46, Slot.tup [])] [] [(0, [cI b144.A, cI b144.B])] 1) (Le.mk [(0, 0)] hm rfl (Sa8 trivial) trivial (Ba1 trivial)) ?_
        refine Aof 25 rfl hF ?_
        refine Aof 26 rfl hF ?_
        refine Aof 27 rfl hF ?_
        refine Aof 28 rfl hF ?_
        refine Atk 29 rfl (Ca.pick) (fun Q0 k0 => L.pick hF rfl rfl rfl rfl (L.nil k0)) ?_
        refine Atk 30 rfl (Ca.move) (fun Q0 k0 => L.move hF rfl rfl rfl (L.nil k0)) ?_
        refine Aof 31 rfl hF ?_
        refine Aof 32 rfl hF ?_
        refine Aof 33 rfl hF ?_
        refine Aof 34 rfl hF ?_
        refine A.le (τ := mkSt [(0, one (Cell.sl g0 (List.map eTimpl_Pair v127))), (1, one (cI v128)), (2, one (cL v129)), (7, one (cI v130)), (52, one (cL true)), (55, Slot.tup []), (56, Slot.tup [])] [] [] 0) (Le.mk [] hm rfl (Sa4 (Sa2 (Sa1 trivial))) trivial trivial) ?_
        refine A.all [35] (by kernel_rfl) rfl ⟨⟨_, rfl, ?_⟩, trivial⟩
        refine L.off hF rfl rfl (L.nil ?_)
        refine Atk 36 rfl (Ca.pick) (fun Q0 k0 => L.pick hF rfl rfl rfl rfl (L.nil k0)) ?_
        refine A.le (τ := mkSt [(0, one (Cell.sl g0 (List.map eTimpl_Pair v127))), (1, one (cI v128)), (2, one (cL v129)), (7, one (cI v130)), (58, one (cL true))] [] [] 0) (Le.mk [] hm rfl (Sa4 (Sa1 trivial)) trivial trivial) ?_
        refine A.done (by kernel_rfl) ?_
        refine WpC.cond rfl (fun _ => ?_) (fun hc => by cases hc)
        refine WpC.seq (WpC.regionL ?_)
        refine L.assign hF rfl rfl rfl (L.nil ?_)
        refine WpC.ret ?_
        cases H
        exact Leaves.ret rfl rfl rfl ⟨rfl, rfl⟩
       ·replace H := condF hc151 H
        rcases Bool.eq_false_or_eq_true ((decide (b144.B ≥ v128))) with hc152 | hc152
        ·replace H := condT hc152 H
         refine A.begin mixed rfl rfl ?_
         intro W hI hO
         refine hI _ _ _ ?_
         refine Atk 0 rfl (Ca.fieldAddr Try.underlying164 rfl info3 rfl) (fun Q0 k0 => L.fieldAddr Try.underlying164 rfl info3 rfl hF rfl rfl rfl rfl rfl (L.nil k0)) ?_
         refine A.all [1] (by kernel_rfl) rfl ⟨⟨_, rfl, ?_⟩, trivial⟩
         refine L.loadPtr shape3 hF rfl rfl rfl rfl rfl rfl (L.nil ?_)
         refine Atk 2 rfl (Ca.bin rfl rfl (calm_int _ _ _ _ _ _ _ _)) (fun Q0 k0 => L.bin hF rfl rfl rfl rfl rfl rfl (L.nil k0)) ?_
         refine Atk 3 rfl (Ca.move) (fun Q0 k0 => L.move hF rfl rfl rfl (L.nil k0)) ?_
         refine A.le (τ := mkSt [(0, one (Cell.sl g0 (List.map eTimpl_Pair v127))), (1, one (cI v128)), (2, one (cL v129)), (7, one (cI v130)), (8, one (Cell.ptr 0 0)), (25, one (cL false))] [] [(0, [cI b144.A, cI b144.B])] 1) (Le.mk [(0, 0)] hm rfl (Sa4 (Sa1 (Sa1 trivial rfl (congrArg (fun b => some (one (cL b))) hc149)))) trivial (Ba1 trivial)) ?_
         refine Atk 4 rfl (Ca.fieldAddr Try.underlying164 rfl info3 rfl) (fun Q0 k0 => L.fieldAddr Try.underlying164 rfl info3 rfl hF rfl rfl rfl rfl rfl (L.nil k0)) ?_
         refine Atk 6 rfl (Ca.move) (fun Q0 k0 => L.move hF rfl rfl rfl (L.nil k0)) ?_
         refine A.all [5] (by kernel_rfl) rfl ⟨⟨_, rfl, ?_⟩, trivial⟩
         refine L.loadPtr shape3 hF rfl rfl rfl rfl rfl rfl (L.nil ?_)
         refine Atk 7 rfl (Ca.bin rfl rfl (calm_int _ _ _ _ _ _ _ _)) (fun Q0 k0 => L.bin hF rfl rfl rfl rfl rfl rfl (L.nil k0)) ?_
         refine Atk 8 rfl (Ca.pick) (fun Q0 k0 => L.pick hF rfl rfl rfl rfl (L.nil k0)) ?_
         refine Atk 9 rfl (Ca.move) (fun Q0 k0 => L.move hF rfl rfl rfl (L.nil k0)) ?_
         refine A.le (τ := mkSt [(0, one (Cell.sl g0 (List.map eTimpl_Pair v127))), (1, one (cI v128)), (2, one (cL v129)), (7, one (cI v130)), (8, one (Cell.ptr 0 0)), (31, one (cL false))] [] [(0, [cI b144.A, cI b144.B])] 1) (Le.mk [(0, 0)] hm rfl (Sa4 (Sa1 (Sa1 trivial rfl (congrArg (fun b => some (one (cL b))) hc150)))) trivial (Ba1 trivial)) ?_
         refine Atk 10 rfl (Ca.fieldAddr Try.underlying164 rfl info3 rfl) (fun Q0 k0 => L.fieldAddr Try.underlying164 rfl info3 rfl hF rfl rfl rfl rfl rfl (L.nil k0)) ?_
         refine A.all [11] (by kernel_rfl) rfl ⟨⟨_, rfl, ?_⟩, trivial⟩
         refine L.loadPtr shape3 hF rfl rfl rfl rfl rfl rfl (L.nil ?_)
         refine Atk 12 rfl (Ca.bin rfl rfl (calm_int _ _ _ _ _ _ _ _)) (fun Q0 k0 => L.bin hF rfl rfl rfl rfl rfl rfl (L.nil k0)) ?_
         refine Atk 13 rfl (Ca.pick) (fun Q0 k0 => L.pick hF rfl rfl rfl rfl (L.nil k0)) ?_
         refine Atk 14 rfl (Ca.move) (fun Q0 k0 => L.move hF rfl rfl rfl (L.nil k0)) ?_
         refine A.le (τ := mkSt [(0, one (Cell.sl g0 (List.map eTimpl_Pair v127))), (1, one (cI v128)), (2, one (cL v129)), (7, one (cI v130)), (8, one (Cell.ptr 0 0)), (36, one (cL false))] [] [(0, [cI b144.A, cI b144.B])] 1) (Le.mk [(0, 0)] hm rfl (Sa4 (Sa1 (Sa1 trivial rfl (congrArg (fun b => some (one (cL b))) hc151)))) trivial (Ba1 trivial)) ?_
         refine Atk 15 rfl (Ca.fieldAddr Try.underlying164 rfl info3 rfl) (fun Q0 k0 => L.fieldAddr Try.underlying164 rfl info3 rfl hF rfl rfl rfl rfl rfl (L.nil k0)) ?_
         refine Atk 17 rfl (Ca.move) (fun Q0 k0 => L.move hF rfl rfl rfl (L.nil k0)) ?_
         refine A.all [16] (by kernel_rfl) rfl ⟨⟨_, rfl, ?_⟩, trivial⟩
         refine L.loadPtr shape3 hF rfl rfl rfl rfl rfl rfl (L.nil ?_)
         refine Atk 18 rfl (Ca.bin rfl rfl (calm_int _ _ _ _ _ _ _ _)) (fun Q0 k0 => L.bin hF rfl rfl rfl rfl rfl rfl (L.nil k0)) ?_
         refine Atk 19 rfl (Ca.pick) (fun Q0 k0 => L.pick hF rfl rfl rfl rfl (L.nil k0)) ?_
         refine Atk 20 rfl (Ca.move) (fun Q0 k0 => L.move hF rfl rfl rfl (L.nil k0)) ?_
         refine A.le (τ := mkSt [(0, one (Cell.sl g0 (List.map eTimpl_Pair v127))), (1, one (cI v128)), (2, one (cL v129)), (7, one (cI v130)), (8, one (Cell.ptr 0 0)), (42, one (cL true))] [] [(0, [cI b144.A, cI b144.B])] 1) (Le.mk [(0, 0)] hm rfl (Sa4 (Sa1 (Sa1 trivial rfl (congrArg (fun b => some (one (cL b))) hc152)))) trivial (Ba1 trivial)) ?_
         refine Aof 21 rfl hF ?_
         refine Aof 22 rfl hF ?_
         refine Aof 23 rfl hF ?_
         refine Aof 24 rfl hF ?_
         refine Aof 25 rfl hF ?_
         refine Aof 26 rfl hF ?_
         refine Aof 27 rfl hF ?_
         refine Aof 28 rfl hF ?_
         refine Atk 29 rfl (Ca.pick) (fun Q0 k0 => L.pick hF rfl rfl rfl rfl (L.nil k0)) ?_
         refine Atk 30 rfl (Ca.move) (fun Q0 k0 => L.move hF rfl rfl rfl (L.nil k0)) ?_
         refine A.le (τ := mkSt [(0, one (Cell.sl g0 (List.map eTimpl_Pair v127))), (1, one (cI v128)), (2, one (cL v129)), (7, one (cI v130)), (8, one (Cell.ptr 0 0)), (52, one (cL true))] [] [(0, [cI b144.A, cI b144.B])] 1) (Le.mk [(0, 0)] hm rfl (Sa4 (Sa2 trivial)) trivial (Ba1 trivial)) ?_
         refine Aof 31 rfl hF ?_
         refine Aof 32 rfl hF ?_
         refine Aof 33 rfl hF ?_
         refine Aof 34 rfl hF ?_
         refine A.all [35] (by kernel_rfl) rfl ⟨⟨_, rfl, ?_⟩, trivial⟩
         refine L.off hF rfl rfl (L.nil ?_)
         refine Atk 36 rfl (Ca.pick) (fun Q0 k0 => L.pick hF rfl rfl rfl rfl (L.nil k0)) ?_
         refine A.le (τ := mkSt [(0, one (Cell.sl g0 (List.map eTimpl_Pair v127))), (1, one (cI v128)), (2, one (cL v129)), (7, one (cI v130)), (58, one (cL true))] [] [] 0) (Le.mk [] hm rfl (Sa4 (Sa1 trivial)) trivial trivial) ?_
         refine A.done (by kernel_rfl) ?_
         refine WpC.cond rfl (fun _ => ?_) (fun hc => by cases hc)
         refine WpC.seq (WpC.regionL ?_)
         refine L.assign hF rfl rfl rfl (L.nil ?_)
         refine WpC.ret ?_
         cases H
         exact Leaves.ret rfl rfl rfl ⟨rfl, rfl⟩
        ·replace H := condF hc152 H
         rcases Bool.eq_false_or_eq_true (v129) with hc153 | hc153
         ·replace H := condT hc153 H
          rcases Bool.eq_false_or_eq_true ((b144.A == b144.B)) with hc154 | hc154
          ·replace H := condT hc154 H
           refine A.begin mixed rfl rfl ?_
           intro W hI hO
           have n134217727 : W 10 #[true, true, true, true, true, true, true, true, true, true, true, true, true, true, true, true, true, true, true, true, true, true, true, true, true, true, true, false, false, false, false, false, false, false, false, false, false] (mkSt [(0, one (Cell.sl g0 (List.map eTimpl_Pair v127))), (1, one (cI v128)), (2, one (cL v129)), (7, one (cI v130)), (8, one (Cell.ptr 0 0)), (42, one (cL false)), (44, one (cL true)), (46, one (cI b144.A)), (48, one (cI b144.B))] [] [(0, [cI b144.A, cI b144.B])] 1) := by
            refine hI _ _ _ ?_
            refine Atk 27 rfl (Ca.bin rfl rfl (calm_int _ _ _ _ _ _ _ _)) (fun Q0 k0 => L.bin hF rfl rfl rfl rfl rfl rfl (L.nil k0)) ?_
            refine Atk 28 rfl (Ca.pick) (fun Q0 k0 => L.pick hF rfl rfl rfl rfl (L.nil k0)) ?_
            refine Atk 29 rfl (Ca.pick) (fun Q0 k0 => L.pick hF rfl rfl rfl rfl (L.nil k0)) ?_
            refine Atk 30 rfl (Ca.move) (fun Q0 k0 => L.move hF rfl rfl rfl (L.nil k0)) ?_
            refine A.le (τ := mkSt [(0, one (Cell.sl g0 (List.map eTimpl_Pair v127))), (1, one (cI v128)), (2, one (cL v129)), (7, one (cI v130)), (8, one (Cell.ptr 0 0)), (52, one (cL true))] [] [(0, [cI b144.A, cI b144.B])] 1) (Le.mk [(0, 0)] hm rfl (Sa4 (Sa1 (Sa1 trivial rfl (congrArg (fun b => some (one (cL b))) hc154)))) trivial (Ba1 trivial)) ?_
            refine Aof 31 rfl hF ?_
            refine Aof 32 rfl hF ?_
            refine Aof 33 rfl hF ?_
            refine Aof 34 rfl hF ?_
            refine A.all [35] (by kernel_rfl) rfl ⟨⟨_, rfl, ?_⟩, trivial⟩
            refine L.off hF rfl rfl (L.nil ?_)
            refine Atk 36 rfl (Ca.pick) (fun Q0 k0 => L.pick hF rfl rfl rfl rfl (L.nil k0)) ?_
            refine A.le (τ := mkSt [(0, one (Cell.sl g0 (List.map eTimpl_Pair v127))), (1, one (cI v128)), (2, one (cL v129)), (7, one (cI v130)), (58, one (cL true))] [] [] 0) (Le.mk [] hm rfl (Sa4 (Sa1 trivial)) trivial trivial) ?_
            refine A.done (by kernel_rfl) ?_
            refine WpC.cond rfl (fun _ => ?_) (fun hc => by cases hc)
            refine WpC.seq (WpC.regionL ?_)
            refine L.assign hF rfl rfl rfl (L.nil ?_)
            refine WpC.ret ?_
            cases H
            exact Leaves.ret rfl rfl rfl ⟨rfl, rfl⟩
           refine hI _ _ _ ?_
           refine Atk 0 rfl (Ca.fieldAddr Try.underlying164 rfl info3 rfl) (fun Q0 k0 => L.fieldAddr Try.underlying164 rfl info3 rfl hF rfl rfl rfl rfl rfl (L.nil k0)) ?_
           refine A.all [1] (by kernel_rfl) rfl ⟨⟨_, rfl, ?_⟩, trivial⟩
           refine L.loadPtr shape3 hF rfl rfl rfl rfl rfl rfl (L.nil ?_)
           refine Atk 2 rfl (Ca.bin rfl rfl (calm_int _ _ _ _ _ _ _ _)) (fun Q0 k0 => L.bin hF rfl rfl rfl rfl rfl rfl (L.nil k0)) ?_
           refine Atk 3 rfl (Ca.move) (fun Q0 k0 => L.move hF rfl rfl rfl (L.nil k0)) ?_
           refine A.le (τ := mkSt [(0, one (Cell.sl g0 (List.map eTimpl_Pair v127))), (1, one (cI v128)), (2, one (cL v129)), (7, one (cI v130)), (8, one (Cell.ptr 0 0)), (25, one (cL false))] [] [(0, [cI b144.A, cI b144.B])] 1) (Le.mk [(0, 0)] hm rfl (Sa4 (Sa1 (Sa1 trivial rfl (congrArg (fun b => some (one (cL b))) hc149)))) trivial (Ba1 trivial)) ?_
           refine Atk 4 rfl (Ca.fieldAddr Try.underlying164 rfl info3 rfl) (fun Q0 k0 => L.fieldAddr Try.underlying164 rfl info3 rfl hF rfl rfl rfl rfl rfl (L.nil k0)) ?_
           refine Atk 6 rfl (Ca.move) (fun Q0 k0 => L.move hF rfl rfl rfl (L.nil k0)) ?_
           refine A.all [5] (by kernel_rfl) rfl ⟨⟨_, rfl, ?_⟩, trivial⟩
           refine L.loadPtr shape3 hF rfl rfl rfl rfl rfl rfl (L.nil ?_)
           refine Atk 7 rfl (Ca.bin rfl rfl (calm_int _ _ _ _ _ _ _ _)) (fun Q0 k0 => L.bin hF rfl rfl rfl rfl rfl rfl (L.nil k0)) ?_
           refine Atk 8 rfl (Ca.pick) (fun Q0 k0 => L.pick hF rfl rfl rfl rfl (L.nil k0)) ?_
           refine Atk 9 rfl (Ca.move) (fun Q0 k0 => L.move hF rfl rfl rfl (L.nil k0)) ?_
           refine A.le (τ := mkSt [(0, one (Cell.sl g0 (List.map eTimpl_Pair v127))), (1, one (cI v128)), (2, one (cL v129)), (7, one (cI v130)), (8, one (Cell.ptr 0 0)), (31, one (cL false))] [] [(0, [cI b144.A, cI b144.B])] 1) (Le.mk [(0, 0)] hm rfl (Sa4 (Sa1 (Sa1 trivial rfl (congrArg (fun b => some (one (cL b))) hc150)))) trivial (Ba1 trivial)) ?_
           refine Atk 10 rfl (Ca.fieldAddr Try.underlying164 rfl info3 rfl) (fun Q0 k0 => L.fieldAddr Try.underlying164 rfl info3 rfl hF rfl rfl rfl rfl rfl (L.nil k0)) ?_
           refine A.all [11] (by kernel_rfl) rfl ⟨⟨_, rfl, ?_⟩, trivial⟩
           refine L.loadPtr shape3 hF rfl rfl rfl rfl rfl rfl (L.nil ?_)
           refine Atk 12 rfl (Ca.bin rfl rfl (calm_int _ _ _ _ _ _ _ _)) (fun Q0 k0 => L.bin hF rfl rfl rfl rfl rfl rfl (L.nil k0)) ?_
           refine Atk 13 rfl (Ca.pick) (fun Q0 k0 => L.pick hF rfl rfl rfl rfl (L.nil k0)) ?_
           refine Atk 14 rfl (Ca.move) (fun Q0 k0 => L.move hF rfl rfl rfl (L.nil k0)) ?_
           refine A.le (τ := mkSt [(0, one (Cell.sl g0 (List.map eTimpl_Pair v127))), (1, one (cI v128)), (2, one (cL v129)), (7, one (cI v130)), (8, one (Cell.ptr 0 0)), (36, one (cL false))] [] [(0, [cI b144.A, cI b144.B])] 1) (Le.mk [(0, 0)] hm rfl (Sa4 (Sa1 (Sa1 trivial rfl (congrArg (fun b => some (one (cL b))) hc151)))) trivial (Ba1 trivial)) ?_
           refine Atk 15 rfl (Ca.fieldAddr Try.underlying164 rfl info3 rfl) (fun Q0 k0 => L.fieldAddr Try.underlying164 rfl info3 rfl hF rfl rfl rfl rfl rfl (L.nil k0)) ?_
           refine Atk 17 rfl (Ca.move) (fun Q0 k0 => L.move hF rfl rfl rfl (L.nil k0)) ?_
           refine A.all [16] (by kernel_rfl) rfl ⟨⟨_, rfl, ?_⟩, trivial⟩
           refine L.loadPtr shape3 hF rfl rfl rfl rfl rfl rfl (L.nil ?_)
           refine Atk 18 rfl (Ca.bin rfl rfl (calm_int _ _ _ _ _ _ _ _)) (fun Q0 k0 => L.bin hF rfl rfl rfl rfl rfl rfl (L.nil k0)) ?_
           refine Atk 19 rfl (Ca.pick) (fun Q0 k0 => L.pick hF rfl rfl rfl rfl (L.nil k0)) ?_
           refine Atk 20 rfl (Ca.move) (fun Q0 k0 => L.move hF rfl rfl rfl (L.nil k0)) ?_
           refine A.le (τ := mkSt [(0, one (Cell.sl g0 (List.map eTimpl_Pair v127))), (1, one (cI v128)), (2, one (cL v129)), (7, one (cI v130)), (8, one (Cell.ptr 0 0)), (42, one (cL false))] [] [(0, [cI b144.A, cI b144.B])] 1) (Le.mk [(0, 0)] hm rfl (Sa4 (Sa1 (Sa1 trivial rfl (congrArg (fun b => some (one (cL b))) hc152)))) trivial (Ba1 trivial)) ?_
           refine Atk 21 rfl (Ca.move) (fun Q0 k0 => L.move hF rfl rfl rfl (L.nil k0)) ?_
           refine Atk 22 rfl (Ca.move) (fun Q0 k0 => L.move hF rfl rfl rfl (L.nil k0)) ?_
           refine A.le (τ := mkSt [(0, one (Cell.sl g0 (List.map eTimpl_Pair v127))), (1, one (cI v128)), (2, one (cL v129)), (7, one (cI v130)), (8, one (Cell.ptr 0 0)), (42, one (cL false)), (44, one (cL true))] [] [(0, [cI b144.A, cI b144.B])] 1) (Le.mk [(0, 0)] hm rfl (Sa4 (Sa2 (Sa1 trivial rfl (congrArg (fun b => some (one (cL b))) hc153)))) trivial (Ba1 trivial)) ?_
           refine Atk 23 rfl (Ca.fieldAddr Try.underlying164 rfl info3 rfl) (fun Q0 k0 => L.fieldAddr Try.underlying164 rfl info3 rfl hF rfl rfl rfl rfl rfl (L.nil k0)) ?_
           refine Atk 25 rfl (Ca.fieldAddr Try.underlying164 rfl info3 rfl) (fun Q0 k0 => L.fieldAddr Try.underlying164 rfl info3 rfl hF rfl rfl rfl rfl rfl (L.nil k0)) ?_
           refine A.all [24, 26] (by kernel_rfl) rfl ⟨⟨_, rfl, ?_⟩, ⟨_, rfl, ?_⟩, trivial⟩
           ·refine L.loadPtr shape3 hF rfl rfl rfl rfl rfl rfl (L.nil ?_)
            refine A.all [26] (by kernel_rfl) rfl ⟨⟨_, rfl, ?_⟩, trivial⟩
            refine L.loadPtr shape3 hF rfl rfl rfl rfl rfl rfl (L.nil ?_)
            exact A.on (hO _ _ _ n134217727) (Le.mk [(0, 0)] hm rfl (Sa8 (Sa1 trivial)) trivial (Ba1 trivial))
           ·refine L.loadPtr shape3 hF rfl rfl rfl rfl rfl rfl (L.nil ?_)
            refine A.all [24] (by kernel_rfl) rfl ⟨⟨_, rfl, ?_⟩, trivial⟩
            refine L.loadPtr shape3 hF rfl rfl rfl rfl rfl rfl (L.nil ?_)
            exact A.on (hO _ _ _ n134217727) (Le.mk [(0, 0)] hm rfl (Sa8 (Sa1 trivial)) trivial (Ba1 trivial))
          ·replace H := condF hc154 H
           obtain ⟨b155, hb155, H⟩ := bindS H
           obtain ⟨r156, hr156, H⟩ := bindS H
           refine A.begin mixed rfl rfl ?_
           intro W hI hO
           have n134217727 : W 10 #[true, true, true, true, true, true, true, true, true, true, true, true, true, true, true, true, true, true, true, true, true, true, true, true, true, true, true, false, false, false, false, false, false, false, false, false, false] (mkSt [(0, one (Cell.sl g0 (List.map eTimpl_Pair v127))), (1, one (cI v128)), (2, one (cL v129)), (7, one (cI v130)), (8, one (Cell.ptr 0 0)), (42, one (cL false)), (44, one (cL true)), (46, one (cI b144.A)), (48, one (cI b144.B))] [] [(0, [cI b144.A, cI b144.B])] 1) := by
            refine hI _ _ _ ?_
            refine Atk 27 rfl (Ca.bin rfl rfl (calm_int _ _ _ _ _ _ _ _)) (fun Q0 k0 => L.bin hF rfl rfl rfl rfl rfl rfl (L.nil k0)) ?_
            refine Atk 28 rfl (Ca.pick) (fun Q0 k0 => L.pick hF rfl rfl rfl rfl (L.nil k0)) ?_
            refine Atk 29 rfl (Ca.pick) (fun Q0 k0 => L.pick hF rfl rfl rfl rfl (L.nil k0)) ?_
            refine Atk 30 rfl (Ca.move) (fun Q0 k0 => L.move hF rfl rfl rfl (L.nil k0)) ?_
            refine A.le (τ := mkSt [(0, one (Cell.sl g0 (List.map eTimpl_Pair v127))), (1, one (cI v128)), (2, one (cL v129)), (7, one (cI v130)), (8, one (Cell.ptr 0 0)), (52, one (cL false))] [] [(0, [cI b144.A, cI b144.B])] 1) (Le.mk [(0, 0)] hm rfl (Sa4 (Sa1 (Sa1 trivial rfl (congrArg (fun b => some (one (cL b))) hc154)))) trivial (Ba1 trivial)) ?_
            refine Atk 31 rfl (Ca.move) (fun Q0 k0 => L.move hF rfl rfl rfl (L.nil k0)) ?_
            refine Atk 32 rfl (Ca.move) (fun Q0 k0 => L.move hF rfl rfl rfl (L.nil k0)) ?_
            refine Atk 33 rfl (Ca.slice) (fun Q0 k0 => L.cutR (xs := v127) (ys := b155) (e := eTimpl_Pair) Try.underlying60 info164 hF rfl rfl rfl rfl rfl hb155 (fun _ => rfl) (L.nil k0)) ?_
            refine A.all [34] (by kernel_rfl) rfl ⟨⟨_, rfl, ?_⟩, trivial⟩
            refine L.loadPtr shape164 hF rfl rfl rfl rfl rfl rfl (L.nil ?_)
            refine A.all [35] (by kernel_rfl) rfl ⟨⟨_, rfl, ?_⟩, trivial⟩
            refine L.call [false, false] [] [] 1 hF rfl rfl rfl ent159 rfl rfl rfl rfl rfl (Fspec_l6Has_gives k7 g0 b155 b144 r156 hr156) rfl (L.nil ?_)
            refine Atk 36 rfl (Ca.pick) (fun Q0 k0 => L.pick hF rfl rfl rfl rfl (L.nil k0)) ?_
            refine A.le (τ := mkSt [(0, one (Cell.sl g0 (List.map eTimpl_Pair v127))), (1, one (cI v128)), (2, one (cL v129)), (7, one (cI v130)), (58, one (cL r156))] [] [] 0) (Le.mk [] hm rfl (Sa4 (Sa1 trivial)) trivial trivial) ?_
            refine A.done (by kernel_rfl) ?_
            refine WpC.cond rfl (fun hc => ?_) (fun hc => ?_)
            ·replace H := condT hc H
             refine WpC.seq (WpC.regionL ?_)
             refine L.assign hF rfl rfl rfl (L.nil ?_)
             refine WpC.ret ?_
             cases H
             exact Leaves.ret rfl rfl rfl ⟨rfl, rfl⟩
            ·replace H := condF hc H
             refine WpC.skip ?_
             exact ⟨_, ⟨k7, v127, v128, v129, v130, by omega, H, rfl⟩, Le.mk [] hm rfl (Sa4 trivial) trivial trivial⟩
           refine hI _ _ _ ?_
           refine Atk 0 rfl (Ca.fieldAddr Try.underlying164 rfl info3 rfl) (fun Q0 k0 => L.fieldAddr Try.underlying164 rfl info3 rfl hF rfl rfl rfl rfl rfl (L.nil k0)) ?_
           refine A.all [1] (by kernel_rfl) rfl ⟨⟨_, rfl, ?_⟩, trivial⟩
           refine L.loadPtr shape3 hF rfl rfl rfl rfl rfl rfl (L.nil ?_)
           refine Atk 2 rfl (Ca.bin rfl rfl (calm_int _ _ _ _ _ _ _ _)) (fun Q0 k0 => L.bin hF rfl rfl rfl rfl rfl rfl (L.nil k0)) ?_
           refine Atk 3 rfl (Ca.move) (fun Q0 k0 => L.move hF rfl rfl rfl (L.nil k0)) ?_
           refine A.le (τ := mkSt [(0, one (Cell.sl g0 (List.map eTimpl_Pair v127))), (1, one (cI v128)), (2, one (cL v129)), (7, one (cI v130)), (8, one (Cell.ptr 0 0)), (25, one (cL false))] [] [(0, [cI b144.A, cI b144.B])] 1) (Le.mk [(0, 0)] hm rfl (Sa4 (Sa1 (Sa1 trivial rfl (congrArg (fun b => some (one (cL b))) hc149)))) trivial (Ba1 trivial)) ?_
           refine Atk 4 rfl (Ca.fieldAddr Try.underlying164 rfl info3 rfl) (fun Q0 k0 => L.fieldAddr Try.underlying164 rfl info3 rfl hF rfl rfl rfl rfl rfl (L.nil k0)) ?_
           refine Atk 6 rfl (Ca.move) (fun Q0 k0 => L.move hF rfl rfl rfl (L.nil k0)) ?_
           refine A.all [5] (by kernel_rfl) rfl ⟨⟨_, rfl, ?_⟩, trivial⟩
           refine L.loadPtr shape3 hF rfl rfl rfl rfl rfl rfl (L.nil ?_)
           refine Atk 7 rfl (Ca.bin rfl rfl (calm_int _ _ _ _ _ _ _ _)) (fun Q0 k0 => L.bin hF rfl rfl rfl rfl rfl rfl (L.nil k0)) ?_
           refine Atk 8 rfl (Ca.pick) (fun Q0 k0 => L.pick hF rfl rfl rfl rfl (L.nil k0)) ?_
           refine Atk 9 rfl (Ca.move) (fun Q0 k0 => L.move hF rfl rfl rfl (L.nil k0)) ?_
           refine A.le (τ := mkSt [(0, one (Cell.sl g0 (List.map eTimpl_Pair v127))), (1, one (cI v128)), (2, one (cL v129)), (7, one (cI v130)), (8, one (Cell.ptr 0 0)), (31, one (cL false))] [] [(0, [cI b144.A, cI b144.B])] 1) (Le.mk [(0, 0)] hm rfl (Sa4 (Sa1 (Sa1 trivial rfl (congrArg (fun b => some (one (cL b))) hc150)))) trivial (Ba1 trivial)) ?_
           refine Atk 10 rfl (Ca.fieldAddr Try.underlying164 rfl info3 rfl) (fun Q0 k0 => L.fieldAddr Try.underlying164 rfl info3 rfl hF rfl rfl rfl rfl rfl (L.nil k0)) ?_
           refine A.all [11] (by kernel_rfl) rfl ⟨⟨_, rfl, ?_⟩, trivial⟩
           refine L.loadPtr shape3 hF rfl rfl rfl rfl rfl rfl (L.nil ?_)
           refine Atk 12 rfl (Ca.bin rfl rfl (calm_int _ _ _ _ _ _ _ _)) (fun Q0 k0 => L.bin hF rfl rfl rfl rfl rfl rfl (L.nil k0)) ?_
           refine Atk 13 rfl (Ca.pick) (fun Q0 k0 => L.pick hF rfl rfl rfl rfl (L.nil k0)) ?_
           refine Atk 14 rfl (Ca.move) (fun Q0 k0 => L.move hF rfl rfl rfl (L.nil k0)) ?_
           refine A.le (τ := mkSt [(0, one (Cell.sl g0 (List.map eTimpl_Pair v127))), (1, one (cI v128)), (2, one (cL v129)), (7, one (cI v130)), (8, one (Cell.ptr 0 0)), (36, one (cL false))] [] [(0, [cI b144.A, cI b144.B])] 1) (Le.mk [(0, 0)] hm rfl (Sa4 (Sa1 (Sa1 trivial rfl (congrArg (fun b => some (one (cL b))) hc151)))) trivial (Ba1 trivial)) ?_
           refine Atk 15 rfl (Ca.fieldAddr Try.underlying164 rfl info3 rfl) (fun Q0 k0 => L.fieldAddr Try.underlying164 rfl info3 rfl hF rfl rfl rfl rfl rfl (L.nil k0)) ?_
           refine Atk 17 rfl (Ca.move) (fun Q0 k0 => L.move hF rfl rfl rfl (L.nil k0)) ?_
           refine A.all [16] (by kernel_rfl) rfl ⟨⟨_, rfl, ?_⟩, trivial⟩
           refine L.loadPtr shape3 hF rfl rfl rfl rfl rfl rfl (L.nil ?_)
           refine Atk 18 rfl (Ca.bin rfl rfl (calm_int _ _ _ _ _ _ _ _)) (fun Q0 k0 => L.bin hF rfl rfl rfl rfl rfl rfl (L.nil k0)) ?_
           refine Atk 19 rfl (Ca.pick) (fun Q0 k0 => L.pick hF rfl rfl rfl rfl (L.nil k0)) ?_
           refine Atk 20 rfl (Ca.move) (fun Q0 k0 => L.move hF rfl rfl rfl (L.nil k0)) ?_
           refine A.le (τ := mkSt [(0, one (Cell.sl g0 (List.map eTimpl_Pair v127))), (1, one (cI v128)), (2, one (cL v129)), (7, one (cI v130)), (8, one (Cell.ptr 0 0)), (42, one (cL false))] [] [(0, [cI b144.A, cI b144.B])] 1) (Le.mk [(0, 0)] hm rfl (Sa4 (Sa1 (Sa1 trivial rfl (congrArg (fun b => some (one (cL b))) hc152)))) trivial (Ba1 trivial)) ?_
           refine Atk 21 rfl (Ca.move) (fun Q0 k0 => L.move hF rfl rfl rfl (L.nil k0)) ?_
           refine Atk 22 rfl (Ca.move) (fun Q0 k0 => L.move hF rfl rfl rfl (L.nil k0)) ?_
           refine A.le (τ := mkSt [(0, one (Cell.sl g0 (List.map eTimpl_Pair v127))), (1, one (cI v128)), (2, one (cL v129)), (7, one (cI v130)), (8, one (Cell.ptr 0 0)), (42, one (cL false)), (44, one (cL true))] [] [(0, [cI b144.A, cI b144.B])] 1) (Le.mk [(0, 0)] hm rfl (Sa4 (Sa2 (Sa1 trivial rfl (congrArg (fun b => some (one (cL b))) hc153)))) trivial (Ba1 trivial)) ?_
           refine Atk 23 rfl (Ca.fieldAddr Try.underlying164 rfl info3 rfl) (fun Q0 k0 => L.fieldAddr Try.underlying164 rfl info3 rfl hF rfl rfl rfl rfl rfl (L.nil k0)) ?_
           refine Atk 25 rfl (Ca.fieldAddr Try.underlying164 rfl info3 rfl) (fun Q0 k0 => L.fieldAddr Try.underlying164 rfl info3 rfl hF rfl rfl rfl rfl rfl (L.nil k0)) ?_
           refine A.all [24, 26] (by kernel_rfl) rfl ⟨⟨_, rfl, ?_⟩, ⟨_, rfl, ?_⟩, trivial⟩
           ·refine L.loadPtr shape3 hF rfl rfl rfl rfl rfl rfl (L.nil ?_)
            refine A.all [26] (by kernel_rfl) rfl ⟨⟨_, rfl, ?_⟩, trivial⟩
            refine L.loadPtr shape3 hF rfl rfl rfl rfl rfl rfl (L.nil ?_)
            exact A.on (hO _ _ _ n134217727) (Le.mk [(0, 0)] hm rfl (Sa8 (Sa1 trivial)) trivial (Ba1 trivial))
           ·refine L.loadPtr shape3 hF rfl rfl rfl rfl rfl rfl (L.nil ?_)
            refine A.all [24] (by kernel_rfl) rfl ⟨⟨_, rfl, ?_⟩, trivial⟩
            refine L.loadPtr shape3 hF rfl rfl rfl rfl rfl rfl (L.nil ?_)
            exact A.on (hO _ _ _ n134217727) (Le.mk [(0, 0)] hm rfl (Sa8 (Sa1 trivial)) trivial (Ba1 trivial))
         ·replace H := condF hc153 H
          obtain ⟨b157, hb157, H⟩ := bindS H
          obtain ⟨r158, hr158, H⟩ := bindS H
          refine A.begin mixed rfl rfl ?_
          intro W hI hO
          refine hI _ _ _ ?_
          refine Atk 0 rfl (Ca.fieldAddr Try.underlying164 rfl info3 rfl) (fun Q0 k0 => L.fieldAddr Try.underlying164 rfl info3 rfl hF rfl rfl rfl rfl rfl (L.nil k0)) ?_
          refine A.all [1] (by kernel_rfl) rfl ⟨⟨_, rfl, ?_⟩, trivial⟩
          refine L.loadPtr shape3 hF rfl rfl rfl rfl rfl rfl (L.nil ?_)
          refine Atk 2 rfl (Ca.bin rfl rfl (calm_int _ _ _ _ _ _ _ _)) (fun Q0 k0 => L.bin hF rfl rfl rfl rfl rfl rfl (L.nil k0)) ?_
          refine Atk 3 rfl (Ca.move) (fun Q0 k0 => L.move hF rfl rfl rfl (L.nil k0)) ?_
          refine A.le (τ := mkSt [(0, one (Cell.sl g0 (List.map eTimpl_Pair v127))), (1, one (cI v128)), (2, one (cL v129)), (7, one (cI v130)), (8, one (Cell.ptr 0 0)), (25, one (cL false))] [] [(0, [cI b144.A, cI b144.B])] 1) (Le.mk [(0, 0)] hm rfl (Sa4 (Sa1 (Sa1 trivial rfl (congrArg (fun b => some (one (cL b))) hc149)))) trivial (Ba1 trivial)) ?_
          refine Atk 4 rfl (Ca.fieldAddr Try.underlying164 rfl info3 rfl) (fun Q0 k0 => L.fieldAddr Try.underlying164 rfl info3 rfl hF rfl rfl rfl rfl rfl (L.nil k0)) ?_
          refine Atk 6 rfl (Ca.move) (fun Q0 k0 => L.move hF rfl rfl rfl (L.nil k0)) ?_
          refine A.all [5] (by kernel_rfl) rfl ⟨⟨_, rfl, ?_⟩, trivial⟩
          refine L.loadPtr shape3 hF rfl rfl rfl rfl rfl rfl (L.nil ?_)
          refine Atk 7 rfl (Ca.bin rfl rfl (calm_int _ _ _ _ _ _ _ _)) (fun Q0 k0 => L.bin hF rfl rfl rfl rfl rfl rfl (L.nil k0)) ?_
          refine Atk 8 rfl (Ca.pick) (fun Q0 k0 => L.pick hF rfl rfl rfl rfl (L.nil k0)) ?_
          refine Atk 9 rfl (Ca.move) (fun Q0 k0 => L.move hF rfl rfl rfl (L.nil k0)) ?_
          refine A.le (τ := mkSt [(0, one (Cell.sl g0 (List.map eTimpl_Pair v127))), (1, one (cI v128)), (2, one (cL v129)), (7, one (cI v130)), (8, one (Cell.ptr 0 0)), (31, one (cL false))] [] [(0, [cI b144.A, cI b144.B])] 1) (Le.mk [(0, 0)] hm rfl (Sa4 (Sa1 (Sa1 trivial rfl (congrArg (fun b => some (one (cL b))) hc150)))) trivial (Ba1 trivial)) ?_
          refine Atk 10 rfl (Ca.fieldAddr Try.underlying164 rfl info3 rfl) (fun Q0 k0 => L.fieldAddr Try.underlying164 rfl info3 rfl hF rfl rfl rfl rfl rfl (L.nil k0)) ?_
          refine A.all [11] (by kernel_rfl) rfl ⟨⟨_, rfl, ?_⟩, trivial⟩
          refine L.loadPtr shape3 hF rfl rfl rfl rfl rfl rfl (L.nil ?_)
          refine Atk 12 rfl (Ca.bin rfl rfl (calm_int _ _ _ _ _ _ _ _)) (fun Q0 k0 => L.bin hF rfl rfl rfl rfl rfl rfl (L.nil k0)) ?_
          refine Atk 13 rfl (Ca.pick) (fun Q0 k0 => L.pick hF rfl rfl rfl rfl (L.nil k0)) ?_
          refine Atk 14 rfl (Ca.move) (fun Q0 k0 => L.move hF rfl rfl rfl (L.nil k0)) ?_
          refine A.le (τ := mkSt [(0, one (Cell.sl g0 (List.map eTimpl_Pair v127))), (1, one (cI v128)), (2, one (cL v129)), (7, one (cI v130)), (8, one (Cell.ptr 0 0)), (36, one (cL false))] [] [(0, [cI b144.A, cI b144.B])] 1) (Le.mk [(0, 0)] hm rfl (Sa4 (Sa1 (Sa1 trivial rfl (congrArg (fun b => some (one (cL b))) hc151)))) trivial (Ba1 trivial)) ?_
          refine Atk 15 rfl (Ca.fieldAddr Try.underlying164 rfl info3 rfl) (fun Q0 k0 => L.fieldAddr Try.underlying164 rfl info3 rfl hF rfl rfl rfl rfl rfl (L.nil k0)) ?_
          refine Atk 17 rfl (Ca.move) (fun Q0 k0 => L.move hF rfl rfl rfl (L.nil k0)) ?_
          refine A.all [16] (by kernel_rfl) rfl ⟨⟨_, rfl, ?_⟩, trivial⟩
          refine L.loadPtr shape3 hF rfl rfl rfl rfl rfl rfl (L.nil ?_)
          refine Atk 18 rfl (Ca.bin rfl rfl (calm_int _ _ _ _ _ _ _ _)) (fun Q0 k0 => L.bin hF rfl rfl rfl rfl rfl rfl (L.nil k0)) ?_
          refine Atk 19 rfl (Ca.pick) (fun Q0 k0 => L.pick hF rfl rfl rfl rfl (L.nil k0)) ?_
          refine Atk 20 rfl (Ca.move) (fun Q0 k0 => L.move hF rfl rfl rfl (L.nil k0)) ?_
          refine A.le (τ := mkSt [(0, one (Cell.sl g0 (List.map eTimpl_Pair v127))), (1, one (cI v128)), (2, one (cL v129)), (7, one (cI v130)), (8, one (Cell.ptr 0 0)), (42, one (cL false))] [] [(0, [cI b144.A, cI b144.B])] 1) (Le.mk [(0, 0)] hm rfl (Sa4 (Sa1 (Sa1 trivial rfl (congrArg (fun b => some (one (cL b))) hc152)))) trivial (Ba1 trivial)) ?_
          refine Atk 21 rfl (Ca.move) (fun Q0 k0 => L.move hF rfl rfl rfl (L.nil k0)) ?_
          refine Atk 22 rfl (Ca.move) (fun Q0 k0 => L.move hF rfl rfl rfl (L.nil k0)) ?_
          refine A.le (τ := mkSt [(0, one (Cell.sl g0 (List.map eTimpl_Pair v127))), (1, one (cI v128)), (2, one (cL v129)), (7, one (cI v130)), (8, one (Cell.ptr 0 0)), (42, one (cL false)), (44, one (cL false))] [] [(0, [cI b144.A, cI b144.B])] 1) (Le.mk [(0, 0)] hm rfl (Sa4 (Sa2 (Sa1 trivial rfl (congrArg (fun b => some (one (cL b))) hc153)))) trivial (Ba1 trivial)) ?_
          refine Aof 23 rfl hF ?_
          refine Aof 24 rfl hF ?_
          refine Aof 25 rfl hF ?_
          refine Aof 26 rfl hF ?_
          refine Aof 27 rfl hF ?_
          refine Atk 28 rfl (Ca.pick) (fun Q0 k0 => L.pick hF rfl rfl rfl rfl (L.nil k0)) ?_
          refine Atk 29 rfl (Ca.pick) (fun Q0 k0 => L.pick hF rfl rfl rfl rfl (L.nil k0)) ?_
          refine Atk 30 rfl (Ca.move) (fun Q0 k0 => L.move hF rfl rfl rfl (L.nil k0)) ?_
          refine Atk 31 rfl (Ca.move) (fun Q0 k0 => L.move hF rfl rfl rfl (L.nil k0)) ?_
          refine Atk 32 rfl (Ca.move) (fun Q0 k0 => L.move hF rfl rfl rfl (L.nil k0)) ?_
          refine A.le (τ := mkSt [(0, one (Cell.sl g0 (List.map eTimpl_Pair v127))), (1, one (cI v128)), (2, one (cL v129)), (7, one (cI v130)), (8, one (Cell.ptr 0 0)), (52, one (cL false)), (53, one (Cell.sl g0 (List.map eTimpl_Pair v127))), (54, one (cI v130))] [] [(0, [cI b144.A, cI b144.B])] 1) (Le.mk [(0, 0)] hm rfl (Sa8 trivial) trivial (Ba1 trivial)) ?_
          refine Atk 33 rfl (Ca.slice) (fun Q0 k0 => L.cutR (xs := v127) (ys := b157) (e := eTimpl_Pair) Try.underlying60 info164 hF rfl rfl rfl rfl rfl hb157 (fun _ => rfl) (L.nil k0)) ?_
          refine A.all [34] (by kernel_rfl) rfl ⟨⟨_, rfl, ?_⟩, trivial⟩
          refine L.loadPtr shape164 hF rfl rfl rfl rfl rfl rfl (L.nil ?_)
          refine A.all [35] (by kernel_rfl) rfl ⟨⟨_, rfl, ?_⟩, trivial⟩
          refine L.call [false, false] [] [] 1 hF rfl rfl rfl ent159 rfl rfl rfl rfl rfl (Fspec_l6Has_gives k7 g0 b157 b144 r158 hr158) rfl (L.nil ?_)
          refine Atk 36 rfl (Ca.pick) (fun Q0 k0 => L.pick hF rfl rfl rfl rfl (L.nil k0)) ?_
          refine A.le (τ := mkSt [(0, one (Cell.sl g0 (List.map eTimpl_Pair v127))), (1, one (cI v128)), (2, one (cL v129)), (7, one (cI v130)), (58, one (cL r158))] [] [] 0) (Le.mk [] hm rfl (Sa4 (Sa1 trivial)) trivial trivial) ?_
          refine A.done (by kernel_rfl) ?_
          refine WpC.cond rfl (fun hc => ?_) (fun hc => ?_)
          ·replace H := condT hc H
           refine WpC.seq (WpC.regionL ?_)
           refine L.assign hF rfl rfl rfl (L.nil ?_)
           refine WpC.ret ?_
           cases H
           exact Leaves.ret rfl rfl rfl ⟨rfl, rfl⟩
          ·replace H := condF hc H
           refine WpC.skip ?_
           exact ⟨_, ⟨k7, v127, v128, v129, v130, by omega, H, rfl⟩, Le.mk [] hm rfl (Sa4 trivial) trivial trivial⟩
   ·replace H := condF hc H
    refine WpC.exit (WpC.seq (WpC.regionL ?_))
    refine L.assign hF rfl rfl rfl (L.nil ?_)
    refine WpC.ret ?_
    cases H
    exact Leaves.ret rfl rfl rfl ⟨rfl, rfl⟩
/-! ### Fspec_l1In -/
def Fspec_l1In (k : Nat) (a0 : Int) (a1 : Int) (a2 : Int) : Option Bool := cond (decide (a0 ≥ a1)) (some (decide (a0 ≤ a2))) (some false)
theorem ent121 : MG.Enters Try.prog 121 := ⟨Try.f121, Try.func121, rfl, by decide⟩
set_option maxHeartbeats 8000000 in
set_option maxRecDepth 100000 in
theorem Fspec_l1In_gives (k : Nat) (a0 : Int) (a1 : Int) (a2 : Int) (r : Bool) (H : Fspec_l1In k a0 a1 a2 = some r) : Gives Try.prog 121 [V.one (cI a0), V.one (cI a1), V.one (cI a2)] [] [V.one (cL r)] [] := by
 refine Gives.intro Try.func121 rfl rfl rfl rfl ?_
 intro F hF hm
 unfold Fspec_l1In at H
 obtain ⟨K, hK⟩ : ∃ K, k ≤ K := ⟨k, Nat.le_refl k⟩
 refine WpC.seq (WpC.regionL ?_)
 refine L.assign hF rfl rfl rfl (L.nil ?_)
 refine WpC.seq (WpC.regionL ?_)
 refine L.move hF rfl rfl rfl ?_
 refine L.move hF rfl rfl rfl ?_
 refine L.bin hF rfl rfl rfl rfl rfl rfl ?_
 refine L.move hF rfl rfl rfl ?_
 refine L.split (fun hc => ?_) (fun hc => ?_)
 ·replace H := condT hc H
  refine L.move hF rfl rfl rfl ?_
  refine L.move hF rfl rfl rfl ?_
  refine L.bin hF rfl rfl rfl rfl rfl rfl ?_
  refine L.pick hF rfl rfl rfl rfl ?_
  refine L.assign hF rfl rfl rfl (L.nil ?_)
  refine WpC.ret ?_
  cases H
  exact Leaves.ret rfl rfl rfl ⟨rfl, rfl⟩
 ·replace H := condF hc H
  refine L.off hF rfl rfl ?_
  refine L.off hF rfl rfl ?_
  refine L.off hF rfl rfl ?_
  refine L.pick hF rfl rfl rfl rfl ?_
  refine L.assign hF rfl rfl rfl (L.nil ?_)
  refine WpC.ret ?_
  cases H
  exact Leaves.ret rfl rfl rfl ⟨rfl, rfl⟩
/-! ### Fspec_ConfigOk -/
def Fspec_ConfigOk (k : Nat) (a0 : Timpl_Config) : Option Bool := cond ((a0.UserRealm.length : Int) == (3 : Int)) ((Fspec_l5All k a0.UserRealm (3 : Int) (3 : Int)).bind fun r6 => cond r6 (cond ((a0.ServiceRealm.length : Int) == (3 : Int)) ((Fspec_l5All k a0.ServiceRealm (3 : Int) (3 : Int)).bind fun r7 => cond r7 ((Fspec_l6Pairs k a0.Links (3 : Int) true).bind fun r8 => cond r8 ((Fspec_l6Pairs k a0.Proxy (3 : Int) false).bind fun r9 => cond r9 ((Fspec_l1In k a0.Skew (0 : Int) (20 : Int)).bind fun r10 => some r10) (some false)) (some false)) (some false)) (some false)) (some false)) (some false)
theorem ent88 : MG.Enters Try.prog 88 := ⟨Try.f88, Try.func88, rfl, by decide⟩
set_option maxHeartbeats 8000000 in
set_option maxRecDepth 100000 in
theorem Fspec_ConfigOk_gives (k : Nat) (g0 : Bool) (g1 : Bool) (g2 : Bool) (g3 : Bool) (a0 : Timpl_Config) (r : Bool) (H : Fspec_ConfigOk k a0 = some r) : Gives Try.prog 88 [V.agg [Cell.sl g0 (List.map eI a0.UserRealm), Cell.sl g1 (List.map eI a0.ServiceRealm), Cell.sl g2 (List.map eTimpl_Pair a0.Links), Cell.sl g3 (List.map eTimpl_Pair a0.Proxy), cI a0.Skew]] [] [V.one (cL r)] [] := by
 refine Gives.intro Try.func88 rfl rfl rfl rfl ?_
 intro F hF hm
 unfold Fspec_ConfigOk at H
 obtain ⟨K, hK⟩ : ∃ K, k ≤ K := ⟨k, Nat.le_refl k⟩
 refine WpC.seq (WpC.regionL ?_)
 refine L.box 5 hF rfl rfl rfl rfl ?_
 refine L.assign hF rfl rfl rfl (L.nil ?_)
 refine WpC.seq (WpC.regionL ?_)
 refine L.fieldAddr Try.underlying62 rfl info39 rfl hF rfl rfl rfl rfl rfl ?_
 refine L.loadPtr shape39 hF rfl rfl rfl rfl rfl rfl ?_
 refine L.lenR (xs := a0.UserRealm) (e := eI) Try.underlying39 hF rfl rfl rfl rfl ?_
 refine L.bin hF rfl rfl rfl rfl rfl rfl ?_
 refine L.move hF rfl rfl rfl ?_
 refine L.split (fun hc => ?_) (fun hc => ?_)
 ·replace H := condT hc H
  refine L.fieldAddr Try.underlying62 rfl info39 rfl hF rfl rfl rfl rfl rfl ?_
  refine L.loadPtr shape39 hF rfl rfl rfl rfl rfl rfl ?_
  obtain ⟨r6, hr6, H⟩ := bindS H
  refine L.call [false, false, false] [] [] 6 hF rfl rfl rfl ent134 rfl rfl rfl rfl rfl (Fspec_l5All_gives k g0 a0.UserRealm (3 : Int) (3 : Int) r6 hr6) rfl ?_
  refine L.pick hF rfl rfl rfl rfl ?_
  refine L.move hF rfl rfl rfl ?_
  refine L.split (fun hc => ?_) (fun hc => ?_)
  ·replace H := condT hc H
   refine L.fieldAddr Try.underlying62 rfl info39 rfl hF rfl rfl rfl rfl rfl ?_
   refine L.loadPtr shape39 hF rfl rfl rfl rfl rfl rfl ?_
   refine L.lenR (xs := a0.ServiceRealm) (e := eI) Try.underlying39 hF rfl rfl rfl rfl ?_
   refine L.bin hF rfl rfl rfl rfl rfl rfl ?_
   refine L.pick hF rfl rfl rfl rfl ?_
   refine L.move hF rfl rfl rfl ?_
   refine L.split (fun hc => ?_) (fun hc => ?_)
   ·replace H := condT hc H
    refine L.fieldAddr Try.underlying62 rfl info39 rfl hF rfl rfl rfl rfl rfl ?_
    refine L.loadPtr shape39 hF rfl rfl rfl rfl rfl rfl ?_
    obtain ⟨r7, hr7, H⟩ := bindS H
    refine L.call [false, false, false] [] [] 7 hF rfl rfl rfl ent134 rfl rfl rfl rfl rfl (Fspec_l5All_gives k g1 a0.ServiceRealm (3 : Int) (3 : Int) r7 hr7) rfl ?_
    refine L.pick hF rfl rfl rfl rfl ?_
    refine L.move hF rfl rfl rfl ?_
    refine L.split (fun hc => ?_) (fun hc => ?_)
    ·replace H := condT hc H
     refine L.fieldAddr Try.underlying62 rfl info60 rfl hF rfl rfl rfl rfl rfl ?_
     refine L.loadPtr shape60 hF rfl rfl rfl rfl rfl rfl ?_
     obtain ⟨r8, hr8, H⟩ := bindS H
     refine L.call [false, false, false] [] [] 8 hF rfl rfl rfl ent135 rfl rfl rfl rfl rfl (Fspec_l6Pairs_gives k g2 a0.Links (3 : Int) true r8 hr8) rfl ?_
     refine L.pick hF rfl rfl rfl rfl ?_
     refine L.move hF rfl rfl rfl ?_
     refine L.split (fun hc => ?_) (fun hc => ?_)
     ·replace H := condT hc H
      refine L.fieldAddr Try.underlying62 rfl info60 rfl hF rfl rfl rfl rfl rfl ?_
      refine L.loadPtr shape60 hF rfl rfl rfl rfl rfl rfl ?_
      obtain ⟨r9, hr9, H⟩ := bindS H
      refine L.call [false, false, false] [] [] 9 hF rfl rfl rfl ent135 rfl rfl rfl rfl rfl (Fspec_l6Pairs_gives k g3 a0.Proxy (3 : Int) false r9 hr9) rfl ?_
      refine L.pick hF rfl rfl rfl rfl ?_
      refine L.move hF rfl rfl rfl ?_
      refine L.split (fun hc => ?_) (fun hc => ?_)
      ·replace H := condT hc H
       refine L.fieldAddr Try.underlying62 rfl info3 rfl hF rfl rfl rfl rfl rfl ?_
       refine L.loadPtr shape3 hF rfl rfl rfl rfl rfl rfl ?_
       obtain ⟨r10, hr10, H⟩ := bindS H
       refine L.call [false, false, false] [] [] 10 hF rfl rfl rfl ent121 rfl rfl rfl rfl rfl (Fspec_l1In_gives k  a0.Skew (0 : Int) (20 : Int) r10 hr10) rfl ?_
       refine L.pick hF rfl rfl rfl rfl ?_
       refine L.assign hF rfl rfl rfl (L.nil ?_)
       refine WpC.ret ?_
       cases H
       exact Leaves.ret rfl rfl rfl ⟨rfl, rfl⟩
      ·replace H := condF hc H
       refine L.off hF rfl rfl ?_
       refine L.off hF rfl rfl ?_
       refine L.off hF rfl rfl ?_
       refine L.pick hF rfl rfl rfl rfl ?_
       refine L.assign hF rfl rfl rfl (L.nil ?_)
       refine WpC.ret ?_
       cases H
       exact Leaves.ret rfl rfl rfl ⟨rfl, rfl⟩
     ·replace H := condF hc H
      refine L.off hF rfl rfl ?_
      refine L.off hF rfl rfl ?_
      refine L.off hF rfl rfl ?_
      refine L.pick hF rfl rfl rfl rfl ?_
      refine L.move hF rfl rfl rfl ?_
      refine L.off hF rfl rfl ?_
      refine L.off hF rfl rfl ?_
      refine L.off hF rfl rfl ?_
      refine L.pick hF rfl rfl rfl rfl ?_
      refine L.assign hF rfl rfl rfl (L.nil ?_)
      refine WpC.ret ?_
      cases H
      exact Leaves.ret rfl rfl rfl ⟨rfl, rfl⟩
    ·replace H := condF hc H
     refine L.off hF rfl rfl ?_
     refine L.off hF rfl rfl ?_
     refine L.off hF rfl rfl ?_
     refine L.pick hF rfl rfl rfl rfl ?_
     refine L.move hF rfl rfl rfl ?_
     refine L.off hF rfl rfl ?_
     refine L.off hF rfl rfl ?_
     refine L.off hF rfl rfl ?_
     refine L.pick hF rfl rfl rfl rfl ?_
     refine L.move hF rfl rfl rfl ?_
     refine L.off hF rfl rfl ?_
     refine L.off hF rfl rfl ?_
     refine L.off hF rfl rfl ?_
     refine L.pick hF rfl rfl rfl rfl ?_
     refine L.assign hF rfl rfl rfl (L.nil ?_)
     refine WpC.ret ?_
     cases H
     exact Leaves.ret rfl rfl rfl ⟨rfl, rfl⟩
   ·replace H := condF hc H
    refine L.off hF rfl rfl ?_
    refine L.off hF rfl rfl ?_
    refine L.off hF rfl rfl ?_
    refine L.pick hF rfl rfl rfl rfl ?_
    refine L.move hF rfl rfl rfl ?_
    refine L.off hF rfl rfl ?_
    refine L.off hF rfl rfl ?_
    refine L.off hF rfl rfl ?_
    refine L.pick hF rfl rfl rfl rfl ?_
    refine L.move hF rfl rfl rfl ?_
    refine L.off hF rfl rfl ?_
    refine L.off hF rfl rfl ?_
    refine L.off hF rfl rfl ?_
    refine L.pick hF rfl rfl rfl rfl ?_
    refine L.move hF rfl rfl rfl ?_
    refine L.off hF rfl rfl ?_
    refine L.off hF rfl rfl ?_
    refine L.off hF rfl rfl ?_
    refine L.pick hF rfl rfl rfl rfl ?_
    refine L.assign hF rfl rfl rfl (L.nil ?_)
    refine WpC.ret ?_
    cases H
    exact Leaves.ret rfl rfl rfl ⟨rfl, rfl⟩
  ·replace H := condF hc H
   refine L.off hF rfl rfl ?_
   refine L.off hF rfl rfl ?_
   refine L.off hF rfl rfl ?_
   refine L.off hF rfl rfl ?_
   refine L.pick hF rfl rfl rfl rfl ?_
   refine L.move hF rfl rfl rfl ?_
   refine L.off hF rfl rfl ?_
   refine L.off hF rfl rfl ?_
   refine L.off hF rfl rfl ?_
   refine L.pick hF rfl rfl rfl rfl ?_
   refine L.move hF rfl rfl rfl ?_
   refine L.off hF rfl rfl ?_
   refine L.off hF rfl rfl ?_
   refine L.off hF rfl rfl ?_
   refine L.pick hF rfl rfl rfl rfl ?_
   refine L.move hF rfl rfl rfl ?_
   refine L.off hF rfl rfl ?_
   refine L.off hF rfl rfl ?_
   refine L.off hF rfl rfl ?_
   refine L.pick hF rfl rfl rfl rfl ?_
   refine L.move hF rfl rfl rfl ?_
   refine L.off hF rfl rfl ?_
   refine L.off hF rfl rfl ?_
   refine L.off hF rfl rfl ?_
   refine L.pick hF rfl rfl rfl rfl ?_
   refine L.assign hF rfl rfl rfl (L.nil ?_)
   refine WpC.ret ?_
   cases H
   exact Leaves.ret rfl rfl rfl ⟨rfl, rfl⟩
 ·replace H := condF hc H
  refine L.off hF rfl rfl ?_
  refine L.off hF rfl rfl ?_
  refine L.off hF rfl rfl ?_
  refine L.pick hF rfl rfl rfl rfl ?_
  refine L.move hF rfl rfl rfl ?_
  refine L.off hF rfl rfl ?_
  refine L.off hF rfl rfl ?_
  refine L.off hF rfl rfl ?_
  refine L.off hF rfl rfl ?_
  refine L.pick hF rfl rfl rfl rfl ?_
  refine L.move hF rfl rfl rfl ?_
  refine L.off hF rfl rfl ?_
  refine L.off hF rfl rfl ?_
  refine L.off hF rfl rfl ?_
  refine L.pick hF rfl rfl rfl rfl ?_
  refine L.move hF rfl rfl rfl ?_
  refine L.off hF rfl rfl ?_
  refine L.off hF rfl rfl ?_
  refine L.off hF rfl rfl ?_
  refine L.pick hF rfl rfl rfl rfl ?_
  refine L.move hF rfl rfl rfl ?_
  refine L.off hF rfl rfl ?_
  refine L.off hF rfl rfl ?_
  refine L.off hF rfl rfl ?_
  refine L.pick hF rfl rfl rfl rfl ?_
  refine L.move hF rfl rfl rfl ?_
  refine L.off hF rfl rfl ?_
  refine L.off hF rfl rfl ?_
  refine L.off hF rfl rfl ?_
  refine L.pick hF rfl rfl rfl rfl ?_
  refine L.assign hF rfl rfl rfl (L.nil ?_)
  refine WpC.ret ?_
  cases H
  exact Leaves.ret rfl rfl rfl ⟨rfl, rfl⟩
/-! ### Fspec_l10CopyConfig -/
def Fspec_l10CopyConfig (k : Nat) (a0 : Timpl_Config) : Option Timpl_Config := cond (decide ((2 * (([] : List Int).length + a0.UserRealm.length) + 192) * 8 ≤ 281474976710656)) (cond (decide ((2 * (([] : List Int).length + a0.ServiceRealm.length) + 192) * 8 ≤ 281474976710656)) (cond (decide ((2 * (([] : List Timpl_Pair).length + a0.Links.length) + 192) * 16 ≤ 281474976710656)) (cond (decide ((2 * (([] : List Timpl_Pair).length + a0.Proxy.length) + 192) * 16 ≤ 281474976710656)) (some (⟨(([] : List Int) ++ a0.UserRealm), (([] : List Int) ++ a0.ServiceRealm), (([] : List Timpl_Pair) ++ a0.Links), (([] : List Timpl_Pair) ++ a0.Proxy), a0.Skew⟩ : Timpl_Config)) none) none) none) none
theorem ent89 : MG.Enters Try.prog 89 := ⟨Try.f89, Try.func89, rfl, by decide⟩
set_option maxHeartbeats 8000000 in
set_option maxRecDepth 100000 in
theorem Fspec_l10CopyConfig_gives (k : Nat) (g0 : Bool) (g1 : Bool) (g2 : Bool) (g3 : Bool) (a0 : Timpl_Config) (r : Timpl_Config) (H : Fspec_l10CopyConfig k a0 = some r) : Gives Try.prog 89 [V.agg [Cell.sl g0 (List.map eI a0.UserRealm), Cell.sl g1 (List.map eI a0.ServiceRealm), Cell.sl g2 (List.map eTimpl_Pair a0.Links), Cell.sl g3 (List.map eTimpl_Pair a0.Proxy), cI a0.Skew]] [] [V.agg [Cell.ow 1 (List.map eI r.UserRealm), Cell.ow 1 (List.map eI r.ServiceRealm), Cell.ow 2 (List.map eTimpl_Pair r.Links), Cell.ow 2 (List.map eTimpl_Pair r.Proxy), cI r.Skew]] [] := by
 refine Gives.intro Try.func89 rfl rfl rfl rfl ?_
 intro F hF hm
 unfold Fspec_l10CopyConfig at H
 obtain ⟨K, hK⟩ : ∃ K, k ≤ K := ⟨k, Nat.le_refl k⟩
 refine WpC.seq (WpC.regionL ?_)
 refine L.box 5 hF rfl rfl rfl rfl ?_
 refine L.alloc 6 info62 rfl hF rfl rfl rfl rfl (L.nil ?_)
 refine WpC.seq ?_
 obtain ⟨h1, H⟩ := condG H
 obtain ⟨h2, H⟩ := condG H
 obtain ⟨h3, H⟩ := condG H
 obtain ⟨h4, H⟩ := condG H
 refine A.lin (fun β => mkStL [(1, ai (one (Cell.ptr 5 0))), (2, ai (one (Cell.ptr 6 0))), (3, al (β 0) (one (Cell.own 7))), (4, al (β 1) (one (Cell.ptr 5 0))), (5, al (β 2) (one (Cell.sl g0 (List.map eI a0.UserRealm)))), (6, al (β 3) (one (Cell.own 8))), (7, al (β 4) (one (Cell.own 9))), (8, al (β 5) (one (Cell.ptr 5 1))), (9, al (β 6) (one (Cell.sl g1 (List.map eI a0.ServiceRealm)))), (10, al (β 7) (one (Cell.own 10))), (11, al (β 8) (one (Cell.own 11))), (12, al (β 9) (one (Cell.ptr 5 2))), (13, al (β 10) (one (Cell.sl g2 (List.map eTimpl_Pair a0.Links)))), (14, al (β 11) (one (Cell.own 12))), (15, al (β 12) (one (Cell.own 13))), (16, al (β 13) (one (Cell.ptr 5 3))), (17, al (β 14) (one (Cell.sl g3 (List.map eTimpl_Pair a0.Proxy)))), (18, al (β 15) (one (Cell.own 14))), (19, al (β 16) (one (Cell.ptr 5 4))), (20, al (β 17) (one (cI a0.Skew))), (21, al (β 18) (agg [Cell.own 8, Cell.own 10, Cell.own 12, Cell.own 14, cI a0.Skew]))] [(7, [(β 3, none), (β 0, some (⟨1, List.map eI ([] : List Int)⟩))]), (8, al (β 3) (⟨1, List.map eI (([] : List Int) ++ a0.UserRealm)⟩)), (9, [(β 7, none), (β 4, some (⟨1, List.map eI ([] : List Int)⟩))]), (10, al (β 7) (⟨1, List.map eI (([] : List Int) ++ a0.ServiceRealm)⟩)), (11, [(β 11, none), (β 8, some (⟨2, List.map eTimpl_Pair ([] : List Timpl_Pair)⟩))]), (12, al (β 11) (⟨2, List.map eTimpl_Pair (([] : List Timpl_Pair) ++ a0.Links)⟩)), (13, [(β 15, none), (β 12, some (⟨2, List.map eTimpl_Pair ([] : List Timpl_Pair)⟩))]), (14, al (β 15) (⟨2, List.map eTimpl_Pair (([] : List Timpl_Pair) ++ a0.Proxy)⟩))] [(5, ai ((bTimpl_Config g0 g1 g2 g3 a0))), (6, [(β 19, some ([Cell.own 8, Cell.own 10, Cell.own 12, Cell.own 14, cI a0.Skew])), (true, some ([Cell.nil, Cell.nil, Cell.nil, Cell.nil, cI (0 : Int)]))])] 15) [([], [3, 7, 11, 15, 18, 19]), ([], [2, 3, 7, 11, 15, 18, 19]), ([1], [3, 7, 11, 15, 18, 19]), ([0, 1, 2], [7, 11, 15, 18, 19]), ([], [7, 11, 15, 18, 19]), ([], [6, 7, 11, 15, 18, 19]), ([5], [7, 11, 15, 18, 19]), ([0, 1, 2, 3, 4, 5, 6], [11, 15, 18, 19]), ([], [11, 15, 18, 19]), ([], [10, 11, 15, 18, 19]), ([9], [11, 15, 18, 19]), ([0, 1, 2, 3, 4, 5, 6, 7, 8, 9, 10], [15, 18, 19]), ([], [15, 18, 19]), ([], [14, 15, 18, 19]), ([13], [15, 18, 19]), ([0, 1, 2, 3, 4, 5, 6, 7, 8, 9, 10, 11, 12, 13, 14], [18, 19]), ([], [17, 18, 19]), ([16], [18, 19]), ([0, 1, 2, 3, 4, 5, 6, 7, 8, 9, 10, 11, 12, 13, 14, 15, 16, 17], [19]), ([0, 1, 2, 3, 4, 5, 6, 7, 8, 9, 10, 11, 12, 13, 14, 15, 16, 17, 18], [])] 20 mixed rfl (by kernel_rfl) ?_ ?_ ?_
 ·exact Le.lin [] hm rfl (sa (sa (kn (kn (kn (kn (kn (kn (kn (kn (kn (kn (kn (kn (kn (kn (kn (kn (kn (kn (kn kz))))))))))))))))))))) (kn (kn (kn (kn (kn (kn (kn (kn kz)))))))) (ba (ba kz))
 ·refine ⟨⟨_, rfl, fun β => ?_⟩, ⟨_, rfl, fun β => ?_⟩, ⟨_, rfl, fun β => ?_⟩, ⟨_, rfl, fun β => ?_⟩, ⟨_, rfl, fun β => ?_⟩, ⟨_, rfl, fun β => ?_⟩, ⟨_, rfl, fun β => ?_⟩, ⟨_, rfl, fun β => ?_⟩, ⟨_, rfl, fun β => ?_⟩, ⟨_, rfl, fun β => ?_⟩, ⟨_, rfl, fun β => ?_⟩, ⟨_, rfl, fun β => ?_⟩, ⟨_, rfl, fun β => ?_⟩, ⟨_, rfl, fun β => ?_⟩, ⟨_, rfl, fun β => ?_⟩, ⟨_, rfl, fun β => ?_⟩, ⟨_, rfl, fun β => ?_⟩, ⟨_, rfl, fun β => ?_⟩, ⟨_, rfl, fun β => ?_⟩, ⟨_, rfl, fun β => ?_⟩, trivial⟩
  ·refine L.buildSlice (e := eI) 15 ([] : List Int) Try.underlying39 info3 rfl rfl rfl hF rfl rfl rfl rfl rfl rfl rfl rfl ?_
   exact L.nil (Le.lin [(7, 15)] hm rfl (sa (sa (sa (su (su (kn (su (su (su (kn (su (su (su (kn (su (su (su (kn (su (su (kn kz))))))))))))))))))))) (ra (kn (ru (kn (ru (kn (ru (kn kz)))))))) (ba (ba kz)))
  ·refine L.fieldAddr Try.underlying62 rfl info39 rfl hF rfl rfl rfl rfl rfl ?_
   exact L.nil (Le.lin [] hm rfl (sa (sa (su (sa (kn (kn (su (su (su (kn (su (su (su (kn (su (su (su (kn (su (su (kn kz))))))))))))))))))))) (ru (kn (ru (kn (ru (kn (ru (kn kz)))))))) (ba (ba kz)))
  ·refine L.loadPtr shape39 hF rfl rfl rfl rfl rfl rfl ?_
   exact L.nil (Le.lin [] hm rfl (sa (sa (su (sa (sa (kn (su (su (su (kn (su (su (su (kn (su (su (su (kn (su (su (kn kz))))))))))))))))))))) (ru (kn (ru (kn (ru (kn (ru (kn kz)))))))) (ba (ba kz)))
  ·refine L.append (xs := ([] : List Int)) (ys := a0.UserRealm) (e := eI) 15 Try.underlying39 info3 rfl rfl hF rfl rfl rfl rfl rfl rfl rfl rfl (fun _ => rfl) (fun _ _ h1 h2 => by cases h1; cases h2; rfl) ⟨_, Try.underlying39⟩ (of_decide_eq_true h1) rfl rfl ?_
   exact L.nil (Le.lin [(8, 15)] hm rfl (sa (sa (sa (sa (sa (sa (su (su (su (kn (su (su (su (kn (su (su (su (kn (su (su (kn kz))))))))))))))))))))) (kn (ra (ru (kn (ru (kn (ru (kn kz)))))))) (ba (ba kz)))
  ·refine L.buildSlice (e := eI) 15 ([] : List Int) Try.underlying39 info3 rfl rfl rfl hF rfl rfl rfl rfl rfl rfl rfl rfl ?_
   exact L.nil (Le.lin [(9, 15)] hm rfl (sa (sa (su (su (su (su (sa (su (su (kn (su (su (su (kn (su (su (su (kn (su (su (kn kz))))))))))))))))))))) (ru (ru (ra (kn (ru (kn (ru (kn kz)))))))) (ba (ba kz)))
  ·refine L.fieldAddr Try.underlying62 rfl info39 rfl hF rfl rfl rfl rfl rfl ?_
   exact L.nil (Le.lin [] hm rfl (sa (sa (su (su (su (su (su (sa (kn (kn (su (su (su (kn (su (su (su (kn (su (su (kn kz))))))))))))))))))))) (ru (ru (ru (kn (ru (kn (ru (kn kz)))))))) (ba (ba kz)))
  ·refine L.loadPtr shape39 hF rfl rfl rfl rfl rfl rfl ?_
   exact L.nil (Le.lin [] hm rfl (sa (sa (su (su (su (su (su (sa (sa (kn (su (su (su (kn (su (su (su (kn (su (su (kn kz))))))))))))))))))))) (ru (ru (ru (kn (ru (kn (ru (kn kz)))))))) (ba (ba kz)))
  ·refine L.append (xs := ([] : List Int)) (ys := a0.ServiceRealm) (e := eI) 15 Try.underlying39 info3 rfl rfl hF rfl rfl rfl rfl rfl rfl rfl rfl (fun _ => rfl) (fun _ _ h1 h2 => by cases h1; cases h2; rfl) ⟨_, Try.underlying39⟩ (of_decide_eq_true h2) rfl rfl ?_
   exact L.nil (Le.lin [(10, 15)] hm rfl (sa (sa (sa (sa (sa (sa (sa (sa (sa (sa (su (su (su (kn (su (su (su (kn (su (su (kn kz))))))))))))))))))))) (kn (ra (kn (ra (ru (kn (ru (kn kz)))))))) (ba (ba kz)))
  ·refine L.buildSlice (e := eTimpl_Pair) 15 ([] : List Timpl_Pair) Try.underlying60 info164 rfl rfl rfl hF rfl rfl rfl rfl rfl rfl rfl rfl ?_
   exact L.nil (Le.lin [(11, 15)] hm rfl (sa (sa (su (su (su (su (su (su (su (su (sa (su (su (kn (su (su (su (kn (su (su (kn kz))))))))))))))))))))) (ru (ru (ru (ru (ra (kn (ru (kn kz)))))))) (ba (ba kz)))
  ·refine L.fieldAddr Try.underlying62 rfl info60 rfl hF rfl rfl rfl rfl rfl ?_
   exact L.nil (Le.lin [] hm rfl (sa (sa (su (su (su (su (su (su (su (su (su (sa (kn (kn (su (su (su (kn (su (su (kn kz))))))))))))))))))))) (ru (ru (ru (ru (ru (kn (ru (kn kz)))))))) (ba (ba kz)))
  ·refine L.loadPtr shape60 hF rfl rfl rfl rfl rfl rfl ?_
   exact L.nil (Le.lin [] hm rfl (sa (sa (su (su (su (su (su (su (su (su (su (sa (sa (kn (su (su (su (kn (su (su (kn kz))))))))))))))))))))) (ru (ru (ru (ru (ru (kn (ru (kn kz)))))))) (ba (ba kz)))
  ·refine L.append (xs := ([] : List Timpl_Pair)) (ys := a0.Links) (e := eTimpl_Pair) 15 Try.underlying60 info164 rfl rfl hF rfl rfl rfl rfl rfl rfl rfl rfl (fun _ => rfl) (fun _ _ h1 h2 => by cases h1; cases h2; rfl) ⟨_, Try.underlying60⟩ (of_decide_eq_true h3) rfl rfl ?_
   exact L.nil (Le.lin [(12, 15)] hm rfl (sa (sa (sa (sa (sa (sa (sa (sa (sa (sa (sa (sa (sa (sa (su (su (su (kn (su (su (kn kz))))))))))))))))))))) (kn (ra (kn (ra (kn (ra (ru (kn kz)))))))) (ba (ba kz)))
  ·refine L.buildSlice (e := eTimpl_Pair) 15 ([] : List Timpl_Pair) Try.underlying60 info164 rfl rfl rfl hF rfl rfl rfl rfl rfl rfl rfl rfl ?_
   exact L.nil (Le.lin [(13, 15)] hm rfl (sa (sa (su (su (su (su (su (su (su (su (su (su (su (su (sa (su (su (kn (su (su (kn kz))))))))))))))))))))) (ru (ru (ru (ru (ru (ru (ra (kn kz)))))))) (ba (ba kz)))
  ·refine L.fieldAddr Try.underlying62 rfl info60 rfl hF rfl rfl rfl rfl rfl ?_
   exact L.nil (Le.lin [] hm rfl (sa (sa (su (su (su (su (su (su (su (su (su (su (su (su (su (sa (kn (kn (su (su (kn kz))))))))))))))))))))) (ru (ru (ru (ru (ru (ru (ru (kn kz)))))))) (ba (ba kz)))
  ·refine L.loadPtr shape60 hF rfl rfl rfl rfl rfl rfl ?_
   exact L.nil (Le.lin [] hm rfl (sa (sa (su (su (su (su (su (su (su (su (su (su (su (su (su (sa (sa (kn (su (su (kn kz))))))))))))))))))))) (ru (ru (ru (ru (ru (ru (ru (kn kz)))))))) (ba (ba kz)))
  ·refine L.append (xs := ([] : List Timpl_Pair)) (ys := a0.Proxy) (e := eTimpl_Pair) 15 Try.underlying60 info164 rfl rfl hF rfl rfl rfl rfl rfl rfl rfl rfl (fun _ => rfl) (fun _ _ h1 h2 => by cases h1; cases h2; rfl) ⟨_, Try.underlying60⟩ (of_decide_eq_true h4) rfl rfl ?_
   exact L.nil (Le.lin [(14, 15)] hm rfl (sa (sa (sa (sa (sa (sa (sa (sa (sa (sa (sa (sa (sa (sa (sa (sa (sa (sa (su (su (kn kz))))))))))))))))))))) (kn (ra (kn (ra (kn (ra (kn (ra kz)))))))) (ba (ba kz)))
  ·refine L.fieldAddr Try.underlying62 rfl info3 rfl hF rfl rfl rfl rfl rfl ?_
   exact L.nil (Le.lin [] hm rfl (sa (sa (su (su (su (su (su (su (su (su (su (su (su (su (su (su (su (su (sa (kn (kn kz))))))))))))))))))))) (ru (ru (ru (ru (ru (ru (ru (ru kz)))))))) (ba (ba kz)))
  ·refine L.loadPtr shape3 hF rfl rfl rfl rfl rfl rfl ?_
   exact L.nil (Le.lin [] hm rfl (sa (sa (su (su (su (su (su (su (su (su (su (su (su (su (su (su (su (su (sa (sa (kn kz))))))))))))))))))))) (ru (ru (ru (ru (ru (ru (ru (ru kz)))))))) (ba (ba kz)))
  ·refine L.buildF built62 hF rfl rfl rfl rfl ?_
   exact L.nil (Le.lin [] hm rfl (sa (sa (sa (sa (sa (sa (sa (sa (sa (sa (sa (sa (sa (sa (sa (sa (sa (sa (sa (sa (sa kz))))))))))))))))))))) (kn (ra (kn (ra (kn (ra (kn (ra kz)))))))) (ba (ba kz)))
  ·refine L.storePtr shape62 hF rfl rfl rfl rfl rfl rfl rfl ?_
   exact L.nil (Le.lin [] hm rfl (sa (sa (sa (sa (sa (sa (sa (sa (sa (sa (sa (sa (sa (sa (sa (sa (sa (sa (sa (sa (sa kz))))))))))))))))))))) (kn (ra (kn (ra (kn (ra (kn (ra kz)))))))) (ba (ba kz)))
 refine ⟨_, (Le.mk [(0, 6), (1, 8), (2, 10), (3, 12), (4, 14)] hm rfl (Sa1 trivial) (Ra4 trivial) (Ba1 trivial) : Le _ _ (mkSt [(2, one (Cell.ptr 0 0))] [(1, ⟨1, List.map eI (([] : List Int) ++ a0.UserRealm)⟩), (2, ⟨1, List.map eI (([] : List Int) ++ a0.ServiceRealm)⟩), (3, ⟨2, List.map eTimpl_Pair (([] : List Timpl_Pair) ++ a0.Links)⟩), (4, ⟨2, List.map eTimpl_Pair (([] : List Timpl_Pair) ++ a0.Proxy)⟩)] [(0, [Cell.own 1, Cell.own 2, Cell.own 3, Cell.own 4, cI a0.Skew])] 5)), ?_⟩
 refine WpC.ret ?_
 cases H
 exact Leaves.ret rfl rfl rfl ⟨rfl, rfl⟩
/-! ### Fspec_NewCache -/
def Fspec_NewCache (k : Nat)  : Option Timpl_Cache := some (⟨(-1 : Int), []⟩ : Timpl_Cache)
theorem ent90 : MG.Enters Try.prog 90 := ⟨Try.f90, Try.func90, rfl, by decide⟩
set_option maxHeartbeats 8000000 in
set_option maxRecDepth 100000 in
theorem Fspec_NewCache_gives (k : Nat)  (r : Timpl_Cache) (H : Fspec_NewCache k  = some r) : Gives Try.prog 90 [] [] [V.agg [cI r.Quiet, Cell.ow 3 (List.map eTimpl_Auth r.Seen)]] [] := by
 refine Gives.intro Try.func90 rfl rfl rfl rfl ?_
 intro F hF hm
 unfold Fspec_NewCache at H
 obtain ⟨K, hK⟩ : ∃ K, k ≤ K := ⟨k, Nat.le_refl k⟩
 refine WpC.seq (WpC.regionL ?_)
 refine L.alloc 0 info130 rfl hF rfl rfl rfl rfl (L.nil ?_)
 refine WpC.seq (WpC.regionL ?_)
 refine L.buildF built130 hF rfl rfl rfl rfl ?_
 refine L.storePtr shape130 hF rfl rfl rfl rfl rfl rfl rfl (L.nil ?_)
 refine WpC.le (Le.ownB 0 1 1 3 rfl rfl rfl) ?_
 refine WpC.ret ?_
 cases H
 exact Leaves.ret rfl rfl rfl ⟨rfl, rfl⟩
/-! ### Fspec_NewWorld -/
def Fspec_NewWorld.l2 : Nat → Int → Timpl_Config → (List Timpl_Wait) → (List Timpl_Cache) → Option (Timpl_World × Bool)
 | 0, _, _, _, _ => none
 | k2 + 1, v41, v42, v43, v44 => cond (decide (v41 < (3 : Int))) ((Fspec_NewCache k2 ).bind fun r47 => cond (decide ((2 * (v44.length + ([r47] : List Timpl_Cache).length) + 192) * 32 ≤ 281474976710656)) ((Fspec_NewWorld.l2 k2) (IntKind.i64.wrap (v41 + (1 : Int))) v42 v43 (v44 ++ ([r47] : List Timpl_Cache))) none) (some ((⟨v42, (0 : Int), (101 : Int), [], (⟨[], []⟩ : Timpl_Known), v43, [], v44, [], [], []⟩ : Timpl_World), true))
def Fspec_NewWorld (k : Nat) (a0 : Timpl_Config) : Option (Timpl_World × Bool) := (Fspec_ConfigOk k a0).bind fun r2 => cond (!r2) (some ((⟨(⟨[], [], [], [], (0 : Int)⟩ : Timpl_Config), (0 : Int), (0 : Int), [], (⟨[], []⟩ : Timpl_Known), [], [], [], [], [], []⟩ : Timpl_World), false)) ((Fspec_l10CopyConfig k a0).bind fun r3 => cond (decide (0 ≤ (6 : Int) ∧ (6 : Int) ≤ (6 : Int) ∧ 32 * (6 : Int) ≤ 281474976710656 ∧ (6 : Int) ≤ 9223372036854775807)) (Fspec_NewWorld.l2 k (0 : Int) r3 (List.replicate (6 : Int).toNat (⟨false, (0 : Int), (0 : Int), (0 : Int)⟩ : Timpl_Wait)) []) none)
theorem ent43 : MG.Enters Try.prog 43 := ⟨Try.f43, Try.func43, rfl, by decide⟩
set_option maxHeartbeats 8000000 in
set_option maxRecDepth 100000 in
theorem Fspec_NewWorld_gives (k : Nat) (g0 : Bool) (g1 : Bool) (g2 : Bool) (g3 : Bool) (a0 : Timpl_Config) (r : Timpl_World × Bool) (H : Fspec_NewWorld k a0 = some r) : Gives Try.prog 43 [V.agg [Cell.sl g0 (List.map eI a0.UserRealm), Cell.sl g1 (List.map eI a0.ServiceRealm), Cell.sl g2 (List.map eTimpl_Pair a0.Links), Cell.sl g3 (List.map eTimpl_Pair a0.Proxy), cI a0.Skew]] [] [V.agg [Cell.ow 1 (List.map eI r.1.Config.UserRealm), Cell.ow 1 (List.map eI r.1.Config.ServiceRealm), Cell.ow 2 (List.map eTimpl_Pair r.1.Config.Links), Cell.ow 2 (List.map eTimpl_Pair r.1.Config.Proxy), cI r.1.Config.Skew, cI r.1.Now, cI r.1.Fresh, Cell.ow 1 (List.map eS r.1.Net), Cell.ow 1 (List.map eS r.1.Known.Terms), Cell.ow 1 (List.map eI r.1.Known.Keys), Cell.ow 4 (List.map eTimpl_Wait r.1.Waits), Cell.ow 8 (List.map eTimpl_Cred r.1.Creds), Cell.ow 2 (List.map eTimpl_Cache r.1.Caches), Cell.ow 11 (List.map eTimpl_Event r.1.Log), Cell.ow 15 (List.map eTimpl_Accept r.1.Accepts), Cell.ow 1 (List.map eI r.1.Leaked)], V.one (cL r.2)] [] := by
 refine Gives.intro Try.func43 rfl rfl rfl rfl ?_
 intro F hF hm
 unfold Fspec_NewWorld at H
 obtain ⟨K, hK⟩ : ∃ K, k ≤ K := ⟨k, Nat.le_refl k⟩
 refine WpC.seq (WpC.regionL ?_)
 refine L.box 5 hF rfl rfl rfl rfl ?_
 refine L.alloc 6 info72 rfl hF rfl rfl rfl rfl ?_
 refine L.assign hF rfl rfl rfl (L.nil ?_)
 refine WpC.seq (WpC.seq (WpC.regionL ?_))
 refine L.loadPtr shape62 hF rfl rfl rfl rfl rfl rfl ?_
 obtain ⟨r2, hr2, H⟩ := bindS H
 refine L.call [false] [] [] 7 hF rfl rfl rfl ent88 rfl rfl rfl rfl rfl (Fspec_ConfigOk_gives k g0 g1 g2 g3 a0 r2 hr2) rfl ?_
 refine L.not hF rfl rfl rfl (L.nil ?_)
 refine WpC.cond rfl (fun hc => ?_) (fun hc => ?_)
 ·replace H := condT hc H
  refine WpC.seq (WpC.regionL ?_)
  refine L.buildF built72 hF rfl rfl rfl rfl ?_
  refine L.storePtr shape72 hF rfl rfl rfl rfl rfl rfl rfl ?_
  refine L.assign hF rfl rfl rfl (L.nil ?_)
  refine WpC.le (Le.ownB 6 0 8 1 rfl rfl rfl) ?_
  refine WpC.le (Le.ownB 6 1 9 1 rfl rfl rfl) ?_
  refine WpC.le (Le.ownB 6 2 10 2 rfl rfl rfl) ?_
  refine WpC.le (Le.ownB 6 3 11 2 rfl rfl rfl) ?_
  refine WpC.le (Le.ownB 6 7 12 1 rfl rfl rfl) ?_
  refine WpC.le (Le.ownB 6 8 13 1 rfl rfl rfl) ?_
  refine WpC.le (Le.ownB 6 9 14 1 rfl rfl rfl) ?_
  refine WpC.le (Le.ownB 6 10 15 4 rfl rfl rfl) ?_
  refine WpC.le (Le.ownB 6 11 16 8 rfl rfl rfl) ?_
  refine WpC.le (Le.ownB 6 12 17 2 rfl rfl rfl) ?_
  refine WpC.le (Le.ownB 6 13 18 11 rfl rfl rfl) ?_
  refine WpC.le (Le.ownB 6 14 19 15 rfl rfl rfl) ?_
  refine WpC.le (Le.ownB 6 15 20 1 rfl rfl rfl) ?_
  refine WpC.ret ?_
  cases H
  exact Leaves.ret rfl rfl rfl ⟨rfl, rfl⟩
 ·replace H := condF hc H
  refine WpC.skip (WpC.seq ?_)
  obtain ⟨r3, hr3, H⟩ := bindS H
  obtain ⟨h4, H⟩ := condG H
  refine A.lin (fun β => mkStL [(1, ai (one (Cell.ptr 5 0))), (2, ai (one (Cell.ptr 6 0))), (4, al (β 4) (one (Cell.ptr 14 0))), (10, al (β 0) (agg (bTimpl_Config g0 g1 g2 g3 a0))), (11, al (β 1) (agg [Cell.own 8, Cell.own 9, Cell.own 10, Cell.own 11, cI r3.Skew])), (12, al (β 2) (one (Cell.own 13))), (13, al (β 3) (agg [Cell.own 8, Cell.own 9, Cell.own 10, Cell.own 11, cI r3.Skew, cI (0 : Int), cI (101 : Int), Cell.nil, Cell.nil, Cell.nil, Cell.own 13, Cell.nil, Cell.nil, Cell.nil, Cell.nil, Cell.nil]))] [(8, al (β 1) (⟨1, List.map eI r3.UserRealm⟩)), (9, al (β 1) (⟨1, List.map eI r3.ServiceRealm⟩)), (10, al (β 1) (⟨2, List.map eTimpl_Pair r3.Links⟩)), (11, al (β 1) (⟨2, List.map eTimpl_Pair r3.Proxy⟩)), (13, al (β 2) (⟨4, List.map eTimpl_Wait (List.replicate (6 : Int).toNat (⟨false, (0 : Int), (0 : Int), (0 : Int)⟩ : Timpl_Wait))⟩))] [(5, ai ((bTimpl_Config g0 g1 g2 g3 a0))), (6, ai ([Cell.nil, Cell.nil, Cell.nil, Cell.nil, cI (0 : Int), cI (0 : Int), cI (0 : Int), Cell.nil, Cell.nil, Cell.nil, Cell.nil, Cell.nil, Cell.nil, Cell.nil, Cell.nil, Cell.nil])), (14, [(β 5, some ([Cell.own 8, Cell.own 9, Cell.own 10, Cell.own 11, cI r3.Skew, cI (0 : Int), cI (101 : Int), Cell.nil, Cell.nil, Cell.nil, Cell.own 13, Cell.nil, Cell.nil, Cell.nil, Cell.nil, Cell.nil])), (β 4, some ([Cell.nil, Cell.nil, Cell.nil, Cell.nil, cI (0 : Int), cI (0 : Int), cI (0 : Int), Cell.nil, Cell.nil, Cell.nil, Cell.nil, Cell.nil, Cell.nil, Cell.nil, Cell.nil, Cell.nil]))])] 15) [([], [1, 3, 5]), ([0], [3, 5]), ([], [3, 5]), ([0, 1, 2], [5]), ([], [5]), ([0, 1, 2, 3, 4], [])] 6 mixed rfl (by kernel_rfl) ?_ ?_ ?_
  ·exact Le.lin [] hm rfl (sa (sa (kn (kn (kn (kn (kn kz))))))) (kn (kn (kn (kn (kn kz))))) (ba (ba (kn kz)))
  ·refine ⟨⟨_, rfl, fun β => ?_⟩, ⟨_, rfl, fun β => ?_⟩, ⟨_, rfl, fun β => ?_⟩, ⟨_, rfl, fun β => ?_⟩, ⟨_, rfl, fun β => ?_⟩, ⟨_, rfl, fun β => ?_⟩, trivial⟩
   ·refine L.loadPtr shape62 hF rfl rfl rfl rfl rfl rfl ?_
    exact L.nil (Le.lin [] hm rfl (sa (sa (su (sa (kn (su (kn kz))))))) (kn (kn (kn (kn (ru kz))))) (ba (ba (bu kz))))
   ·refine L.call [false] [] [] 15 hF rfl rfl rfl ent89 rfl rfl rfl rfl rfl (Fspec_l10CopyConfig_gives k g0 g1 g2 g3 a0 r3 hr3) rfl ?_
    exact L.nil (Le.lin [(8, 15), (9, 16), (10, 17), (11, 18), (12, 19)] hm rfl (sa (sa (su (sa (sa (su (kn kz))))))) (ra (ra (ra (ra (ru kz))))) (ba (ba (bu kz))))
   ·refine L.makeSlice (e := eTimpl_Wait) 15 (⟨false, (0 : Int), (0 : Int), (0 : Int)⟩ : Timpl_Wait) Try.underlying66 info172 rfl rfl rfl hF rfl rfl rfl rfl (of_decide_eq_true h4) rfl rfl ?_
    exact L.nil (Le.lin [(13, 15)] hm rfl (sa (sa (su (su (su (sa (kn kz))))))) (ru (ru (ru (ru (ra kz))))) (ba (ba (bu kz))))
   ·refine L.buildF built72 hF rfl rfl rfl rfl ?_
    exact L.nil (Le.lin [] hm rfl (sa (sa (su (sa (sa (sa (sa kz))))))) (ra (ra (ra (ra (ra kz))))) (ba (ba (bu kz))))
   ·refine L.alloc 15 info72 rfl hF rfl rfl rfl rfl ?_
    exact L.nil (Le.lin [(14, 15)] hm rfl (sa (sa (sa (su (su (su (su kz))))))) (ru (ru (ru (ru (ru kz))))) (ba (ba (ba kz))))
   ·refine L.storePtr shape72 hF rfl rfl rfl rfl rfl rfl rfl ?_
    exact L.nil (Le.lin [] hm rfl (sa (sa (sa (sa (sa (sa (sa kz))))))) (ra (ra (ra (ra (ra kz))))) (ba (ba (ba kz))))
  refine ⟨_, (Le.mk [(0, 6), (1, 14), (2, 8), (3, 9), (4, 10), (5, 11), (6, 13)] hm rfl (Sa2 trivial) (Ra4 (Ra1 trivial)) (Ba2 trivial) : Le _ _ (mkSt [(2, one (Cell.ptr 0 0)), (4, one (Cell.ptr 1 0))] [(2, ⟨1, List.map eI r3.UserRealm⟩), (3, ⟨1, List.map eI r3.ServiceRealm⟩), (4, ⟨2, List.map eTimpl_Pair r3.Links⟩), (5, ⟨2, List.map eTimpl_Pair r3.Proxy⟩), (6, ⟨4, List.map eTimpl_Wait (List.replicate (6 : Int).toNat (⟨false, (0 : Int), (0 : Int), (0 : Int)⟩ : Timpl_Wait))⟩)] [(0, [Cell.nil, Cell.nil, Cell.nil, Cell.nil, cI (0 : Int), cI (0 : Int), cI (0 : Int), Cell.nil, Cell.nil, Cell.nil, Cell.nil, Cell.nil, Cell.nil, Cell.nil, Cell.nil, Cell.nil]), (1, [Cell.own 2, Cell.own 3, Cell.own 4, Cell.own 5, cI r3.Skew, cI (0 : Int), cI (101 : Int), Cell.nil, Cell.nil, Cell.nil, Cell.own 6, Cell.nil, Cell.nil, Cell.nil, Cell.nil, Cell.nil])] 7)), ?_⟩
  refine WpC.seq (WpC.seq (WpC.regionL ?_))
  refine L.assign hF rfl rfl rfl (L.nil ?_)
  refine WpC.block ?_
  refine WpC.loopL (P := Try.prog) (fun n σ => ∃ v41 : Int, ∃ v42 : Timpl_Config, ∃ v43 : List Timpl_Wait, ∃ v44 : List Timpl_Cache, n ≤ K ∧ Fspec_NewWorld.l2 n v41 v42 v43 v44 = some r ∧ σ = mkSt [(2, one (Cell.ptr 0 0)), (4, one (Cell.ptr 1 0)), (5, one (cI v41))] [(2, ⟨1, List.map eI v42.UserRealm⟩), (3, ⟨1, List.map eI v42.ServiceRealm⟩), (4, ⟨2, List.map eTimpl_Pair v42.Links⟩), (5, ⟨2, List.map eTimpl_Pair v42.Proxy⟩), (6, ⟨4, List.map eTimpl_Wait v43⟩), (7, ⟨2, List.map eTimpl_Cache v44⟩)] [(0, [Cell.nil, Cell.nil, Cell.nil, Cell.nil, cI (0 : Int), cI (0 : Int), cI (0 : Int), Cell.nil, Cell.nil, Cell.nil, Cell.nil, Cell.nil, Cell.nil, Cell.nil, Cell.nil, Cell.nil]), (1, [Cell.own 2, Cell.own 3, Cell.own 4, Cell.own 5, cI v42.Skew, cI (0 : Int), cI (101 : Int), Cell.nil, Cell.nil, Cell.nil, Cell.own 6, Cell.nil, Cell.own 7, Cell.nil, Cell.nil, Cell.nil])] 8) k ⟨_, ⟨(0 : Int), r3, (List.replicate (6 : Int).toNat (⟨false, (0 : Int), (0 : Int), (0 : Int)⟩ : Timpl_Wait)), [], by omega, H, rfl⟩, (Le.ownB 1 12 7 2 rfl rfl rfl).trans (Le.mk [(0, 0), (1, 1), (2, 2), (3, 3), (4, 4), (5, 5), (6, 6), (7, 7)] hm rfl (Sa2 (Sa1 trivial)) (Ra4 (Ra2 trivial)) (Ba2 trivial))⟩ ?_
  clear H
  rintro k2 _ ⟨v41, v42, v43, v44, hk2, H, rfl⟩
  cases k2 with
  | zero => cases H
  | succ k2 =>
   rw [Fspec_NewWorld.l2] at H
   refine WpC.seq (WpC.seq (WpC.regionL ?_))
   refine L.move hF rfl rfl rfl ?_
   refine L.bin hF rfl rfl rfl rfl rfl rfl (L.nil ?_)
   refine WpC.cond rfl (fun hc => ?_) (fun hc => ?_)
   ·replace H := condT hc H
    refine WpC.skip (WpC.seq (WpC.block ?_))
    obtain ⟨r47, hr47, H⟩ := bindS H
    obtain ⟨h48, H⟩ := condG H
    refine A.lin (fun β => mkStL [(2, ai (one (Cell.ptr 0 0))), (4, ai (one (Cell.ptr 1 0))), (5, ai (one (cI v41))), (18, al (β 0) (one (Cell.ptr 1 12))), (19, al (β 1) (one (Cell.own 7))), (20, al (β 2) (agg [cI r47.Quiet, Cell.own 9])), (21, al (β 3) (one (Cell.own 10))), (22, al (β 4) (one (Cell.own 11))), (23, al (β 5) (one (Cell.ptr 1 12)))] [(2, ai (⟨1, List.map eI v42.UserRealm⟩)), (3, ai (⟨1, List.map eI v42.ServiceRealm⟩)), (4, ai (⟨2, List.map eTimpl_Pair v42.Links⟩)), (5, ai (⟨2, List.map eTimpl_Pair v42.Proxy⟩)), (6, ai (⟨4, List.map eTimpl_Wait v43⟩)), (7, [(β 4, none), (true, some (⟨2, List.map eTimpl_Cache v44⟩))]), (9, [(β 3, none), (β 2, some (⟨3, List.map eTimpl_Auth r47.Seen⟩))]), (10, [(β 4, none), (β 3, some (⟨2, List.map eTimpl_Cache ([r47] : List Timpl_Cache)⟩))]), (11, al (β 4) (⟨2, List.map eTimpl_Cache (v44 ++ ([r47] : List Timpl_Cache))⟩))] [(0, ai ([Cell.nil, Cell.nil, Cell.nil, Cell.nil, cI (0 : Int), cI (0 : Int), cI (0 : Int), Cell.nil, Cell.nil, Cell.nil, Cell.nil, Cell.nil, Cell.nil, Cell.nil, Cell.nil, Cell.nil])), (1, [(β 6, some ([Cell.own 2, Cell.own 3, Cell.own 4, Cell.own 5, cI v42.Skew, cI (0 : Int), cI (101 : Int), Cell.nil, Cell.nil, Cell.nil, Cell.own 6, Cell.nil, Cell.own 11, Cell.nil, Cell.nil, Cell.nil])), (true, some ([Cell.own 2, Cell.own 3, Cell.own 4, Cell.own 5, cI v42.Skew, cI (0 : Int), cI (101 : Int), Cell.nil, Cell.nil, Cell.nil, Cell.own 6, Cell.nil, Cell.own 7, Cell.nil, Cell.nil, Cell.nil]))])] 12) [([], [1, 4, 5, 6]), ([0], [4, 5, 6]), ([], [3, 4, 5, 6]), ([2], [4, 5, 6]), ([0, 1, 2, 3], [5, 6]), ([0, 1, 2, 3, 4], [6]), ([0, 1, 2, 3, 4, 5], [])] 7 mixed rfl (by kernel_rfl) ?_ ?_ ?_
    ·exact Le.lin [] hm rfl (sa (sa (sa (kn (kn (kn (kn (kn (kn kz))))))))) (ra (ra (ra (ra (ra (ra (kn (kn (kn kz))))))))) (ba (ba kz))
    ·refine ⟨⟨_, rfl, fun β => ?_⟩, ⟨_, rfl, fun β => ?_⟩, ⟨_, rfl, fun β => ?_⟩, ⟨_, rfl, fun β => ?_⟩, ⟨_, rfl, fun β => ?_⟩, ⟨_, rfl, fun β => ?_⟩, ⟨_, rfl, fun β => ?_⟩, trivial⟩
     ·refine L.fieldAddr Try.underlying72 rfl info68 rfl hF rfl rfl rfl rfl rfl ?_
      exact L.nil (Le.lin [] hm rfl (sa (sa (sa (sa (kn (su (su (kn (kn kz))))))))) (ra (ra (ra (ra (ra (ra (ru (ru (kn kz))))))))) (ba (ba kz)))
     ·refine L.loadPtr shape68 hF rfl rfl rfl rfl rfl rfl ?_
      exact L.nil (Le.lin [] hm rfl (sa (sa (sa (sa (sa (su (su (kn (kn kz))))))))) (ra (ra (ra (ra (ra (ra (ru (ru (kn kz))))))))) (ba (ba kz)))
     ·refine L.call [] [] [] 12 hF rfl rfl rfl ent90 rfl rfl rfl rfl rfl (Fspec_NewCache_gives k2   r47 hr47) rfl ?_
      exact L.nil (Le.lin [(8, 12), (9, 13)] hm rfl (sa (sa (sa (su (su (sa (kn (kn (kn kz))))))))) (ra (ra (ra (ra (ra (ra (ra (kn (kn kz))))))))) (ba (ba kz)))
     ·refine L.buildSliceN (e := eTimpl_Cache) 3 12 ([r47] : List Timpl_Cache) Try.underlying68 info130 rfl rfl rfl hF rfl rfl rfl rfl rfl rfl rfl rfl ?_
      exact L.nil (Le.lin [(10, 12)] hm rfl (sa (sa (sa (su (su (sa (sa (kn (kn kz))))))))) (ra (ra (ra (ra (ra (ra (kn (ra (kn kz))))))))) (ba (ba kz)))
     ·refine L.appendN (xs := v44) (ys := ([r47] : List Timpl_Cache)) (e := eTimpl_Cache) 12 Try.underlying68 info130 rfl rfl hF rfl rfl rfl rfl rfl rfl rfl rfl rfl (fun _ _ h1 h2 => by cases h1; cases h2; rfl) Try.underlying68 (of_decide_eq_true h48) rfl rfl ?_
      exact L.nil (Le.lin [(11, 12)] hm rfl (sa (sa (sa (sa (sa (sa (sa (sa (kn kz))))))))) (ra (ra (ra (ra (ra (kn (kn (kn (ra kz))))))))) (ba (ba kz)))
     ·refine L.fieldAddr Try.underlying72 rfl info68 rfl hF rfl rfl rfl rfl rfl ?_
      exact L.nil (Le.lin [] hm rfl (sa (sa (sa (sa (sa (sa (sa (sa (sa kz))))))))) (ra (ra (ra (ra (ra (kn (kn (kn (ra kz))))))))) (ba (ba kz)))
     ·refine L.storePtr shape68 hF rfl rfl rfl rfl rfl rfl rfl ?_
      exact L.nil (Le.lin [] hm rfl (sa (sa (sa (sa (sa (sa (sa (sa (sa kz))))))))) (ra (ra (ra (ra (ra (kn (kn (kn (ra kz))))))))) (ba (ba kz)))
    refine ⟨_, (Le.mk [(0, 0), (1, 1), (2, 2), (3, 3), (4, 4), (5, 5), (6, 6), (7, 11)] hm rfl (Sa2 (Sa1 trivial)) (Ra4 (Ra2 trivial)) (Ba2 trivial) : Le _ _ (mkSt [(2, one (Cell.ptr 0 0)), (4, one (Cell.ptr 1 0)), (5, one (cI v41))] [(2, ⟨1, List.map eI v42.UserRealm⟩), (3, ⟨1, List.map eI v42.ServiceRealm⟩), (4, ⟨2, List.map eTimpl_Pair v42.Links⟩), (5, ⟨2, List.map eTimpl_Pair v42.Proxy⟩), (6, ⟨4, List.map eTimpl_Wait v43⟩), (7, ⟨2, List.map eTimpl_Cache (v44 ++ ([r47] : List Timpl_Cache))⟩)] [(0, [Cell.nil, Cell.nil, Cell.nil, Cell.nil, cI (0 : Int), cI (0 : Int), cI (0 : Int), Cell.nil, Cell.nil, Cell.nil, Cell.nil, Cell.nil, Cell.nil, Cell.nil, Cell.nil, Cell.nil]), (1, [Cell.own 2, Cell.own 3, Cell.own 4, Cell.own 5, cI v42.Skew, cI (0 : Int), cI (101 : Int), Cell.nil, Cell.nil, Cell.nil, Cell.own 6, Cell.nil, Cell.own 7, Cell.nil, Cell.nil, Cell.nil])] 8)), ?_⟩
    refine WpC.regionL ?_
    refine L.move hF rfl rfl rfl ?_
    refine L.bin hF rfl rfl rfl rfl rfl rfl ?_
    refine L.assign hF rfl rfl rfl (L.nil ?_)
    exact ⟨k2, _, by omega, ⟨(IntKind.i64.wrap (v41 + (1 : Int))), v42, v43, (v44 ++ ([r47] : List Timpl_Cache)), by omega, H, rfl⟩, Le.mk [(0, 0), (1, 1), (2, 2), (3, 3), (4, 4), (5, 5), (6, 6), (7, 7)] hm rfl (Sa2 (Sa1 trivial)) (Ra4 (Ra2 trivial)) (Ba2 trivial)⟩
   ·replace H := condF hc H
    refine WpC.exit (WpC.seq (WpC.regionL ?_))
    refine L.loadPtr shape72 hF rfl rfl rfl rfl rfl rfl ?_
    refine L.storePtr shape72 hF rfl rfl rfl rfl rfl rfl rfl ?_
    refine L.assign hF rfl rfl rfl (L.nil ?_)
    refine WpC.le (Le.ownB 0 7 8 1 rfl rfl rfl) ?_
    refine WpC.le (Le.ownB 0 8 9 1 rfl rfl rfl) ?_
    refine WpC.le (Le.ownB 0 9 10 1 rfl rfl rfl) ?_
    refine WpC.le (Le.ownB 0 11 11 8 rfl rfl rfl) ?_
    refine WpC.le (Le.ownB 0 13 12 11 rfl rfl rfl) ?_
    refine WpC.le (Le.ownB 0 14 13 15 rfl rfl rfl) ?_
    refine WpC.le (Le.ownB 0 15 14 1 rfl rfl rfl) ?_
    refine WpC.ret ?_
    cases H
    exact Leaves.ret rfl rfl rfl ⟨rfl, rfl⟩
/-! ### Fimpl_within -/
def Fimpl_within (k : Nat) (a0 : Int) (a1 : Int) (a2 : Int) : Option Bool := cond (decide (a0 ≥ a1)) (some (decide (a0 ≤ a2))) (some false)
theorem ent78 : MG.Enters Try.prog 78 := ⟨Try.f78, Try.func78, rfl, by decide⟩
set_option maxHeartbeats 8000000 in
set_option maxRecDepth 100000 in
theorem Fimpl_within_gives (k : Nat) (a0 : Int) (a1 : Int) (a2 : Int) (r : Bool) (H : Fimpl_within k a0 a1 a2 = some r) : Gives Try.prog 78 [V.one (cI a0), V.one (cI a1), V.one (cI a2)] [] [V.one (cL r)] [] := by
 refine Gives.intro Try.func78 rfl rfl rfl rfl ?_
 intro F hF hm
 unfold Fimpl_within at H
 obtain ⟨K, hK⟩ : ∃ K, k ≤ K := ⟨k, Nat.le_refl k⟩
 refine WpC.seq (WpC.regionL ?_)
 refine L.assign hF rfl rfl rfl (L.nil ?_)
 refine WpC.seq (WpC.regionL ?_)
 refine L.move hF rfl rfl rfl ?_
 refine L.move hF rfl rfl rfl ?_
 refine L.bin hF rfl rfl rfl rfl rfl rfl ?_
 refine L.move hF rfl rfl rfl ?_
 refine L.split (fun hc => ?_) (fun hc => ?_)
 ·replace H := condT hc H
  refine L.move hF rfl rfl rfl ?_
  refine L.move hF rfl rfl rfl ?_
  refine L.bin hF rfl rfl rfl rfl rfl rfl ?_
  refine L.pick hF rfl rfl rfl rfl ?_
  refine L.assign hF rfl rfl rfl (L.nil ?_)
  refine WpC.ret ?_
  cases H
  exact Leaves.ret rfl rfl rfl ⟨rfl, rfl⟩
 ·replace H := condF hc H
  refine L.off hF rfl rfl ?_
  refine L.off hF rfl rfl ?_
  refine L.off hF rfl rfl ?_
  refine L.pick hF rfl rfl rfl rfl ?_
  refine L.assign hF rfl rfl rfl (L.nil ?_)
  refine WpC.ret ?_
  cases H
  exact Leaves.ret rfl rfl rfl ⟨rfl, rfl⟩
/-! ### Fimpl_isRealm -/
def Fimpl_isRealm (k : Nat) (a0 : Int) : Option Bool := (Fimpl_within k a0 (0 : Int) (2 : Int)).bind fun r1 => some r1
theorem ent139 : MG.Enters Try.prog 139 := ⟨Try.f139, Try.func139, rfl, by decide⟩
set_option maxHeartbeats 8000000 in
set_option maxRecDepth 100000 in
theorem Fimpl_isRealm_gives (k : Nat) (a0 : Int) (r : Bool) (H : Fimpl_isRealm k a0 = some r) : Gives Try.prog 139 [V.one (cI a0)] [] [V.one (cL r)] [] := by
 refine Gives.intro Try.func139 rfl rfl rfl rfl ?_
 intro F hF hm
 unfold Fimpl_isRealm at H
 obtain ⟨K, hK⟩ : ∃ K, k ≤ K := ⟨k, Nat.le_refl k⟩
 refine WpC.seq (WpC.regionL ?_)
 refine L.assign hF rfl rfl rfl (L.nil ?_)
 refine WpC.seq (WpC.regionL ?_)
 refine L.move hF rfl rfl rfl ?_
 obtain ⟨r1, hr1, H⟩ := bindS H
 refine L.call [false, false, false] [] [] 1 hF rfl rfl rfl ent78 rfl rfl rfl rfl rfl (Fimpl_within_gives k  a0 (0 : Int) (2 : Int) r1 hr1) rfl ?_
 refine L.assign hF rfl rfl rfl (L.nil ?_)
 refine WpC.ret ?_
 cases H
 exact Leaves.ret rfl rfl rfl ⟨rfl, rfl⟩
/-! ### Fimpl_ConfigOk_1 -/
def Fimpl_ConfigOk_1 (k : Nat) (a0 : Timpl_Pair) : Option Bool := (Fimpl_isRealm k a0.A).bind fun r3 => cond r3 ((Fimpl_isRealm k a0.B).bind fun r4 => cond r4 (some (a0.A != a0.B)) (some false)) (some false)
theorem ent138 : MG.Enters Try.prog 138 := ⟨Try.f138, Try.func138, rfl, by decide⟩
set_option maxHeartbeats 8000000 in
set_option maxRecDepth 100000 in
theorem Fimpl_ConfigOk_1_gives (k : Nat) (a0 : Timpl_Pair) (r : Bool) (H : Fimpl_ConfigOk_1 k a0 = some r) : Gives Try.prog 138 [V.agg [cI a0.A, cI a0.B]] [] [V.one (cL r)] [] := by
 refine Gives.intro Try.func138 rfl rfl rfl rfl ?_
 intro F hF hm
 unfold Fimpl_ConfigOk_1 at H
 obtain ⟨K, hK⟩ : ∃ K, k ≤ K := ⟨k, Nat.le_refl k⟩
 refine WpC.seq (WpC.regionL ?_)
 refine L.box 2 hF rfl rfl rfl rfl ?_
 refine L.assign hF rfl rfl rfl (L.nil ?_)
 refine WpC.seq (WpC.regionL ?_)
 refine L.fieldAddr Try.underlying164 rfl info3 rfl hF rfl rfl rfl rfl rfl ?_
 refine L.loadPtr shape3 hF rfl rfl rfl rfl rfl rfl ?_
 obtain ⟨r3, hr3, H⟩ := bindS H
 refine L.call [false] [] [] 3 hF rfl rfl rfl ent139 rfl rfl rfl rfl rfl (Fimpl_isRealm_gives k  a0.A r3 hr3) rfl ?_
 refine L.move hF rfl rfl rfl ?_
 refine L.split (fun hc => ?_) (fun hc => ?_)
 ·replace H := condT hc H
  refine L.fieldAddr Try.underlying164 rfl info3 rfl hF rfl rfl rfl rfl rfl ?_
  refine L.loadPtr shape3 hF rfl rfl rfl rfl rfl rfl ?_
  obtain ⟨r4, hr4, H⟩ := bindS H
  refine L.call [false] [] [] 4 hF rfl rfl rfl ent139 rfl rfl rfl rfl rfl (Fimpl_isRealm_gives k  a0.B r4 hr4) rfl ?_
  refine L.pick hF rfl rfl rfl rfl ?_
  refine L.move hF rfl rfl rfl ?_
  refine L.split (fun hc => ?_) (fun hc => ?_)
  ·replace H := condT hc H
   refine L.fieldAddr Try.underlying164 rfl info3 rfl hF rfl rfl rfl rfl rfl ?_
   refine L.loadPtr shape3 hF rfl rfl rfl rfl rfl rfl ?_
   refine L.fieldAddr Try.underlying164 rfl info3 rfl hF rfl rfl rfl rfl rfl ?_
   refine L.loadPtr shape3 hF rfl rfl rfl rfl rfl rfl ?_
   refine L.bin hF rfl rfl rfl rfl rfl rfl ?_
   refine L.pick hF rfl rfl rfl rfl ?_
   refine L.assign hF rfl rfl rfl (L.nil ?_)
   refine WpC.ret ?_
   cases H
   exact Leaves.ret rfl rfl rfl ⟨rfl, rfl⟩
  ·replace H := condF hc H
   refine L.off hF rfl rfl ?_
   refine L.off hF rfl rfl ?_
   refine L.off hF rfl rfl ?_
   refine L.off hF rfl rfl ?_
   refine L.off hF rfl rfl ?_
   refine L.pick hF rfl rfl rfl rfl ?_
   refine L.assign hF rfl rfl rfl (L.nil ?_)
   refine WpC.ret ?_
   cases H
   exact Leaves.ret rfl rfl rfl ⟨rfl, rfl⟩
 ·replace H := condF hc H
  refine L.off hF rfl rfl ?_
  refine L.off hF rfl rfl ?_
  refine L.off hF rfl rfl ?_
  refine L.pick hF rfl rfl rfl rfl ?_
  refine L.move hF rfl rfl rfl ?_
  refine L.off hF rfl rfl ?_
  refine L.off hF rfl rfl ?_
  refine L.off hF rfl rfl ?_
  refine L.off hF rfl rfl ?_
  refine L.off hF rfl rfl ?_
  refine L.pick hF rfl rfl rfl rfl ?_
  refine L.assign hF rfl rfl rfl (L.nil ?_)
  refine WpC.ret ?_
  cases H
  exact Leaves.ret rfl rfl rfl ⟨rfl, rfl⟩
/-! ### Fslices_Index_Pair -/
def Fslices_Index_Pair.l2 : Nat → (List Timpl_Pair) → Int → Int → Timpl_Pair → Option Int
 | 0, _, _, _, _ => none
 | k2 + 1, v29, v30, v31, v32 => cond (decide (v31 < v30)) ((at? v29 v31).bind fun b34 => cond ((v32.A == b34.A) && ((v32.B == b34.B) && true)) (some v31) ((Fslices_Index_Pair.l2 k2) v29 v30 (IntKind.i64.wrap (v31 + (1 : Int))) v32)) (some (-1 : Int))
def Fslices_Index_Pair (k : Nat) (a0 : List Timpl_Pair) (a1 : Timpl_Pair) : Option Int := Fslices_Index_Pair.l2 k a0 (a0.length : Int) (0 : Int) a1
theorem ent169 : MG.Enters Try.prog 169 := ⟨Try.f169, Try.func169, rfl, by decide⟩
set_option maxHeartbeats 8000000 in
set_option maxRecDepth 100000 in
theorem Fslices_Index_Pair_gives (k : Nat) (g0 : Bool) (a0 : List Timpl_Pair) (a1 : Timpl_Pair) (r : Int) (H : Fslices_Index_Pair k a0 a1 = some r) : Gives Try.prog 169 [V.one (Cell.sl g0 (List.map eTimpl_Pair a0)), V.agg [cI a1.A, cI a1.B]] [] [V.one (cI r)] [] := by
 refine Gives.intro Try.func169 rfl rfl rfl rfl ?_
 intro F hF hm
 unfold Fslices_Index_Pair at H
 obtain ⟨K, hK⟩ : ∃ K, k ≤ K := ⟨k, Nat.le_refl k⟩
 refine WpC.seq (WpC.regionL ?_)
 refine L.box 3 hF rfl rfl rfl rfl ?_
 refine L.assign hF rfl rfl rfl (L.nil ?_)
 refine WpC.seq (WpC.seq (WpC.regionL ?_))
 refine L.move hF rfl rfl rfl ?_
 refine L.lenR (xs := a0) (e := eTimpl_Pair) Try.underlying60 hF rfl rfl rfl rfl ?_
 refine L.move hF rfl rfl rfl (L.nil ?_)
 refine WpC.block ?_
 refine WpC.loopL (P := Try.prog) (fun n σ => ∃ v29 : List Timpl_Pair, ∃ v30 : Int, ∃ v31 : Int, ∃ v32 : Timpl_Pair, n ≤ K ∧ Fslices_Index_Pair.l2 n v29 v30 v31 v32 = some r ∧ σ = mkSt [(0, one (Cell.sl g0 (List.map eTimpl_Pair v29))), (3, one (Cell.ptr 0 0)), (7, one (cI v30)), (8, one (cI v31))] [] [(0, [cI v32.A, cI v32.B])] 1) k ⟨_, ⟨a0, (a0.length : Int), (0 : Int), a1, by omega, H, rfl⟩, Le.mk [(0, 3)] hm rfl (Sa4 trivial) trivial (Ba1 trivial)⟩ ?_
 clear H
 rintro k2 _ ⟨v29, v30, v31, v32, hk2, H, rfl⟩
 cases k2 with
 | zero => cases H
 | succ k2 =>
  rw [Fslices_Index_Pair.l2] at H
  refine WpC.seq (WpC.regionL ?_)
  refine L.bin hF rfl rfl rfl rfl rfl rfl (L.nil ?_)
  refine WpC.seq ?_
  refine WpC.cond rfl (fun hc => ?_) (fun hc => ?_)
  ·replace H := condT hc H
   refine WpC.skip (WpC.seq (WpC.block (WpC.seq (WpC.regionL ?_))))
   refine L.move hF rfl rfl rfl ?_
   refine L.assign hF rfl rfl rfl (L.nil ?_)
   refine WpC.seq ?_
   refine S.begin mixed (by kernel_rfl) ?_
   refine S.st 0 rfl rfl (Qu.load) (fun Q0 k0 => L.loadPtr shape164 hF rfl rfl rfl rfl rfl rfl (L.nil k0)) ?_
   refine S.st 1 rfl rfl ((Ca.move).quiet) (fun Q0 k0 => L.move hF rfl rfl rfl (L.nil k0)) ?_
   refine S.st 2 rfl rfl ((Ca.move).quiet) (fun Q0 k0 => L.move hF rfl rfl rfl (L.nil k0)) ?_
   obtain ⟨b34, hb34, H⟩ := bindS H
   refine S.st 3 rfl rfl ((Ca.indexAddr).quiet) (fun Q0 k0 => L.idxR (xs := v29) (e := eTimpl_Pair) Try.underlying60 info164 hF rfl rfl rfl rfl rfl hb34 rfl rfl (L.nil k0)) ?_
   refine S.st 4 rfl rfl (Qu.load) (fun Q0 k0 => L.loadPe shape164 hF rfl rfl rfl rfl rfl (L.nil k0)) ?_
   refine S.st 5 rfl rfl ((Ca.eqA (r := ((v32.A == b34.A) && ((v32.B == b34.B) && true))) rfl rfl rfl rfl (by kernel_rfl) (by kernel_rfl)).quiet) (fun Q0 k0 => L.eqA (r := ((v32.A == b34.A) && ((v32.B == b34.B) && true))) hF rfl rfl rfl rfl rfl rfl (by kernel_rfl) (by kernel_rfl) (L.nil k0)) ?_
   refine S.nil ?_
   refine WpC.cond rfl (fun hc => ?_) (fun hc => ?_)
   ·replace H := condT hc H
    refine WpC.seq (WpC.regionL ?_)
    refine L.move hF rfl rfl rfl ?_
    refine L.assign hF rfl rfl rfl (L.nil ?_)
    refine WpC.ret ?_
    cases H
    exact Leaves.ret rfl rfl rfl ⟨rfl, rfl⟩
   ·replace H := condF hc H
    refine WpC.skip (WpC.regionL ?_)
    refine L.bin hF rfl rfl rfl rfl rfl rfl ?_
    refine L.move hF rfl rfl rfl (L.nil ?_)
    exact ⟨k2, _, by omega, ⟨v29, v30, (IntKind.i64.wrap (v31 + (1 : Int))), v32, by omega, H, rfl⟩, Le.mk [(0, 0)] hm rfl (Sa4 trivial) trivial (Ba1 trivial)⟩
  ·replace H := condF hc H
   refine WpC.exit (WpC.seq (WpC.regionL ?_))
   refine L.assign hF rfl rfl rfl (L.nil ?_)
   refine WpC.ret ?_
   cases H
   exact Leaves.ret rfl rfl rfl ⟨rfl, rfl⟩
/-! ### Fslices_Contains_Pair -/
def Fslices_Contains_Pair (k : Nat) (a0 : List Timpl_Pair) (a1 : Timpl_Pair) : Option Bool := (Fslices_Index_Pair k a0 a1).bind fun r1 => some (decide (r1 ≥ (0 : Int)))
theorem ent160 : MG.Enters Try.prog 160 := ⟨Try.f160, Try.func160, rfl, by decide⟩
set_option maxHeartbeats 8000000 in
set_option maxRecDepth 100000 in
theorem Fslices_Contains_Pair_gives (k : Nat) (g0 : Bool) (a0 : List Timpl_Pair) (a1 : Timpl_Pair) (r : Bool) (H : Fslices_Contains_Pair k a0 a1 = some r) : Gives Try.prog 160 [V.one (Cell.sl g0 (List.map eTimpl_Pair a0)), V.agg [cI a1.A, cI a1.B]] [] [V.one (cL r)] [] := by
 refine Gives.intro Try.func160 rfl rfl rfl rfl ?_
 intro F hF hm
 unfold Fslices_Contains_Pair at H
 obtain ⟨K, hK⟩ : ∃ K, k ≤ K := ⟨k, Nat.le_refl k⟩
 refine WpC.seq (WpC.regionL ?_)
 refine L.box 3 hF rfl rfl rfl rfl ?_
 refine L.assign hF rfl rfl rfl (L.nil ?_)
 refine WpC.seq (WpC.regionL ?_)
 refine L.move hF rfl rfl rfl ?_
 refine L.loadPtr shape164 hF rfl rfl rfl rfl rfl rfl ?_
 obtain ⟨r1, hr1, H⟩ := bindS H
 refine L.call [false, false] [] [] 4 hF rfl rfl rfl ent169 rfl rfl rfl rfl rfl (Fslices_Index_Pair_gives k g0 a0 a1 r1 hr1) rfl ?_
 refine L.bin hF rfl rfl rfl rfl rfl rfl ?_
 refine L.assign hF rfl rfl rfl (L.nil ?_)
 refine WpC.ret ?_
 cases H
 exact Leaves.ret rfl rfl rfl ⟨rfl, rfl⟩
/-! ### Fimpl_arePairs__impl_ConfigOk_1 -/
def Fimpl_arePairs__impl_ConfigOk_1.l2 : Nat → (List Timpl_Pair) → Int → Int → Option Bool
 | 0, _, _, _ => none
 | k2 + 1, v84, v85, v86 => cond (decide (v86 < v85)) ((at? v84 v86).bind fun b94 => (Fimpl_ConfigOk_1 k2 b94).bind fun r98 => cond (!r98) (some false) ((part? v84 (0 : Int) v86).bind fun b100 => (Fslices_Contains_Pair k2 b100 b94).bind fun r101 => cond r101 (some false) ((Fimpl_arePairs__impl_ConfigOk_1.l2 k2) v84 v85 (IntKind.i64.wrap (v86 + (1 : Int)))))) (some (decide ((v84.length : Int) ≤ (6 : Int))))
def Fimpl_arePairs__impl_ConfigOk_1 (k : Nat) (a0 : List Timpl_Pair) : Option Bool := Fimpl_arePairs__impl_ConfigOk_1.l2 k a0 (a0.length : Int) (0 : Int)
theorem ent137 : MG.Enters Try.prog 137 := ⟨Try.f137, Try.func137, rfl, by decide⟩
set_option maxHeartbeats 8000000 in
set_option maxRecDepth 100000 in
theorem Fimpl_arePairs__impl_ConfigOk_1_gives (k : Nat) (g0 : Bool) (a0 : List Timpl_Pair) (r : Bool) (H : Fimpl_arePairs__impl_ConfigOk_1 k a0 = some r) : Gives Try.prog 137 [V.one (Cell.sl g0 (List.map eTimpl_Pair a0)), V.one (Cell.clo 138 [])] [] [V.one (cL r)] [] := by
 refine Gives.intro Try.func137 rfl rfl rfl rfl ?_
 intro F hF hm
 unfold Fimpl_arePairs__impl_ConfigOk_1 at H
 obtain ⟨K, hK⟩ : ∃ K, k ≤ K := ⟨k, Nat.le_refl k⟩
 refine WpC.seq (WpC.regionL ?_)
 refine L.assign hF rfl rfl rfl (L.nil ?_)
 refine WpC.seq (WpC.seq (WpC.regionL ?_))
 refine L.move hF rfl rfl rfl ?_
 refine L.lenR (xs := a0) (e := eTimpl_Pair) Try.underlying60 hF rfl rfl rfl rfl ?_
 refine L.move hF rfl rfl rfl (L.nil ?_)
 refine WpC.block ?_
 refine WpC.loopL (P := Try.prog) (fun n σ => ∃ v84 : List Timpl_Pair, ∃ v85 : Int, ∃ v86 : Int, n ≤ K ∧ Fimpl_arePairs__impl_ConfigOk_1.l2 n v84 v85 v86 = some r ∧ σ = mkSt [(0, one (Cell.sl g0 (List.map eTimpl_Pair v84))), (1, one (Cell.clo 138 [])), (7, one (Cell.sl g0 (List.map eTimpl_Pair v84))), (8, one (cI v85)), (9, one (cI v86))] [] [] 0) k ⟨_, ⟨a0, (a0.length : Int), (0 : Int), by omega, H, rfl⟩, Le.mk [] hm rfl (Sa4 (Sa1 trivial)) trivial trivial⟩ ?_
 clear H
 rintro k2 _ ⟨v84, v85, v86, hk2, H, rfl⟩
 cases k2 with
 | zero => cases H
 | succ k2 =>
  rw [Fimpl_arePairs__impl_ConfigOk_1.l2] at H
  refine WpC.seq (WpC.regionL ?_)
  refine L.bin hF rfl rfl rfl rfl rfl rfl (L.nil ?_)
  refine WpC.seq ?_
  refine WpC.cond rfl (fun hc => ?_) (fun hc => ?_)
  ·replace H := condT hc H
   refine WpC.skip (WpC.seq (WpC.block (WpC.seq (WpC.regionL ?_))))
   refine L.move hF rfl rfl rfl ?_
   obtain ⟨b94, hb94, H⟩ := bindS H
   refine L.idxR (xs := v84) (e := eTimpl_Pair) Try.underlying60 info164 hF rfl rfl rfl rfl rfl hb94 rfl rfl ?_
   refine L.loadPe shape164 hF rfl rfl rfl rfl rfl ?_
   refine L.alloc 0 info164 rfl hF rfl rfl rfl rfl ?_
   refine L.assign hF rfl rfl rfl ?_
   refine L.storePtr shape164 hF rfl rfl rfl rfl rfl rfl rfl (L.nil ?_)
   refine WpC.seq ?_
   obtain ⟨r98, hr98, H⟩ := bindS H
   rcases Bool.eq_false_or_eq_true ((!r98)) with hc99 | hc99
   ·replace H := condT hc99 H
    refine A.begin mixed rfl rfl ?_
    intro W hI hO
    refine hI _ _ _ ?_
    refine Atk 0 rfl (Ca.move) (fun Q0 k0 => L.move hF rfl rfl rfl (L.nil k0)) ?_
    refine A.all [1] (by kernel_rfl) rfl ⟨⟨_, rfl, ?_⟩, trivial⟩
    refine L.loadPtr shape164 hF rfl rfl rfl rfl rfl rfl (L.nil ?_)
    refine A.all [2] (by kernel_rfl) rfl ⟨⟨_, rfl, ?_⟩, trivial⟩
    refine L.call [false] [] [] 1 hF rfl rfl rfl ent138 rfl rfl rfl rfl rfl (Fimpl_ConfigOk_1_gives k2  b94 r98 hr98) rfl (L.nil ?_)
    refine Atk 3 rfl (Ca.un rfl rfl) (fun Q0 k0 => L.not hF rfl rfl rfl (L.nil k0)) ?_
    refine Atk 4 rfl (Ca.move) (fun Q0 k0 => L.move hF rfl rfl rfl (L.nil k0)) ?_
    refine A.le (τ := mkSt [(0, one (Cell.sl g0 (List.map eTimpl_Pair v84))), (1, one (Cell.clo 138 [])), (5, one (cI v86)), (6, one (Cell.ptr 0 0)), (7, one (Cell.sl g0 (List.map eTimpl_Pair v84))), (8, one (cI v85)), (9, one (cI v86)), (18, one (cL true))] [] [(0, [cI b94.A, cI b94.B])] 1) (Le.mk [(0, 0)] hm rfl (Sa4 (Sa2 (Sa1 (Sa1 trivial rfl (congrArg (fun b => some (one (cL b))) hc99))))) trivial (Ba1 trivial)) ?_
    refine Aof 5 rfl hF ?_
    refine Aof 6 rfl hF ?_
    refine Aof 7 rfl hF ?_
    refine Aof 8 rfl hF ?_
    refine A.all [9] (by kernel_rfl) rfl ⟨⟨_, rfl, ?_⟩, trivial⟩
    refine L.off hF rfl rfl (L.nil ?_)
    refine Atk 10 rfl (Ca.pick) (fun Q0 k0 => L.pick hF rfl rfl rfl rfl (L.nil k0)) ?_
    refine A.le (τ := mkSt [(0, one (Cell.sl g0 (List.map eTimpl_Pair v84))), (1, one (Cell.clo 138 [])), (7, one (Cell.sl g0 (List.map eTimpl_Pair v84))), (8, one (cI v85)), (9, one (cI v86)), (24, one (cL true))] [] [] 0) (Le.mk [] hm rfl (Sa4 (Sa2 trivial)) trivial trivial) ?_
    refine A.done (by kernel_rfl) ?_
    refine WpC.cond rfl (fun _ => ?_) (fun hc => by cases hc)
    refine WpC.seq (WpC.regionL ?_)
    refine L.assign hF rfl rfl rfl (L.nil ?_)
    refine WpC.ret ?_
    cases H
    exact Leaves.ret rfl rfl rfl ⟨rfl, rfl⟩
   ·replace H := condF hc99 H
    obtain ⟨b100, hb100, H⟩ := bindS H
    obtain ⟨r101, hr101, H⟩ := bindS H
    refine A.begin mixed rfl rfl ?_
    intro W hI hO
    refine hI _ _ _ ?_
    refine Atk 0 rfl (Ca.move) (fun Q0 k0 => L.move hF rfl rfl rfl (L.nil k0)) ?_
    refine A.all [1] (by kernel_rfl) rfl ⟨⟨_, rfl, ?_⟩, trivial⟩
    refine L.loadPtr shape164 hF rfl rfl rfl rfl rfl rfl (L.nil ?_)
    refine A.all [2] (by kernel_rfl) rfl ⟨⟨_, rfl, ?_⟩, trivial⟩
    refine L.call [false] [] [] 1 hF rfl rfl rfl ent138 rfl rfl rfl rfl rfl (Fimpl_ConfigOk_1_gives k2  b94 r98 hr98) rfl (L.nil ?_)
    refine Atk 3 rfl (Ca.un rfl rfl) (fun Q0 k0 => L.not hF rfl rfl rfl (L.nil k0)) ?_
    refine Atk 4 rfl (Ca.move) (fun Q0 k0 => L.move hF rfl rfl rfl (L.nil k0)) ?_
    refine A.le (τ := mkSt [(0, one (Cell.sl g0 (List.map eTimpl_Pair v84))), (1, one (Cell.clo 138 [])), (5, one (cI v86)), (6, one (Cell.ptr 0 0)), (7, one (Cell.sl g0 (List.map eTimpl_Pair v84))), (8, one (cI v85)), (9, one (cI v86)), (18, one (cL false))] [] [(0, [cI b94.A, cI b94.B])] 1) (Le.mk [(0, 0)] hm rfl (Sa4 (Sa2 (Sa1 (Sa1 trivial rfl (congrArg (fun b => some (one (cL b))) hc99))))) trivial (Ba1 trivial)) ?_
    refine Atk 5 rfl (Ca.move) (fun Q0 k0 => L.move hF rfl rfl rfl (L.nil k0)) ?_
    refine Atk 6 rfl (Ca.move) (fun Q0 k0 => L.move hF rfl rfl rfl (L.nil k0)) ?_
    refine Atk 7 rfl (Ca.slice) (fun Q0 k0 => L.cutR (xs := v84) (ys := b100) (e := eTimpl_Pair) Try.underlying60 info164 hF rfl rfl rfl rfl rfl hb100 (fun _ => rfl) (L.nil k0)) ?_
    refine A.all [8] (by kernel_rfl) rfl ⟨⟨_, rfl, ?_⟩, trivial⟩
    refine L.loadPtr shape164 hF rfl rfl rfl rfl rfl rfl (L.nil ?_)
    refine A.all [9] (by kernel_rfl) rfl ⟨⟨_, rfl, ?_⟩, trivial⟩
    refine L.call [false, false] [] [] 1 hF rfl rfl rfl ent160 rfl rfl rfl rfl rfl (Fslices_Contains_Pair_gives k2 g0 b100 b94 r101 hr101) rfl (L.nil ?_)
    refine Atk 10 rfl (Ca.pick) (fun Q0 k0 => L.pick hF rfl rfl rfl rfl (L.nil k0)) ?_
    refine A.le (τ := mkSt [(0, one (Cell.sl g0 (List.map eTimpl_Pair v84))), (1, one (Cell.clo 138 [])), (7, one (Cell.sl g0 (List.map eTimpl_Pair v84))), (8, one (cI v85)), (9, one (cI v86)), (24, one (cL r101))] [] [] 0) (Le.mk [] hm rfl (Sa4 (Sa2 trivial)) trivial trivial) ?_
    refine A.done (by kernel_rfl) ?_
    refine WpC.cond rfl (fun hc => ?_) (fun hc => ?_)
    ·replace H := condT hc H
     refine WpC.seq (WpC.regionL ?_)
     refine L.assign hF rfl rfl rfl (L.nil ?_)
     refine WpC.ret ?_
     cases H
     exact Leaves.ret rfl rfl rfl ⟨rfl, rfl⟩
    ·replace H := condF hc H
     refine WpC.skip (WpC.regionL ?_)
     refine L.bin hF rfl rfl rfl rfl rfl rfl ?_
     refine L.move hF rfl rfl rfl (L.nil ?_)
     exact ⟨k2, _, by omega, ⟨v84, v85, (IntKind.i64.wrap (v86 + (1 : Int))), by omega, H, rfl⟩, Le.mk [] hm rfl (Sa4 (Sa1 trivial)) trivial trivial⟩
  ·replace H := condF hc H
   refine WpC.exit (WpC.seq (WpC.regionL ?_))
   refine L.move hF rfl rfl rfl ?_
   refine L.lenR (xs := v84) (e := eTimpl_Pair) Try.underlying60 hF rfl rfl rfl rfl ?_
   refine L.bin hF rfl rfl rfl rfl rfl rfl ?_
   refine L.assign hF rfl rfl rfl (L.nil ?_)
   refine WpC.ret ?_
   cases H
   exact Leaves.ret rfl rfl rfl ⟨rfl, rfl⟩
/-! ### Fimpl_isService -/
def Fimpl_isService (k : Nat) (a0 : Int) : Option Bool := (Fimpl_within k a0 (0 : Int) (2 : Int)).bind fun r1 => some r1
theorem ent141 : MG.Enters Try.prog 141 := ⟨Try.f141, Try.func141, rfl, by decide⟩
set_option maxHeartbeats 8000000 in
set_option maxRecDepth 100000 in
theorem Fimpl_isService_gives (k : Nat) (a0 : Int) (r : Bool) (H : Fimpl_isService k a0 = some r) : Gives Try.prog 141 [V.one (cI a0)] [] [V.one (cL r)] [] := by
 refine Gives.intro Try.func141 rfl rfl rfl rfl ?_
 intro F hF hm
 unfold Fimpl_isService at H
 obtain ⟨K, hK⟩ : ∃ K, k ≤ K := ⟨k, Nat.le_refl k⟩
 refine WpC.seq (WpC.regionL ?_)
 refine L.assign hF rfl rfl rfl (L.nil ?_)
 refine WpC.seq (WpC.regionL ?_)
 refine L.move hF rfl rfl rfl ?_
 obtain ⟨r1, hr1, H⟩ := bindS H
 refine L.call [false, false, false] [] [] 1 hF rfl rfl rfl ent78 rfl rfl rfl rfl rfl (Fimpl_within_gives k  a0 (0 : Int) (2 : Int) r1 hr1) rfl ?_
 refine L.assign hF rfl rfl rfl (L.nil ?_)
 refine WpC.ret ?_
 cases H
 exact Leaves.ret rfl rfl rfl ⟨rfl, rfl⟩
/-! ### Fimpl_ConfigOk_2 -/
def Fimpl_ConfigOk_2 (k : Nat) (a0 : Timpl_Pair) : Option Bool := (Fimpl_isService k a0.A).bind fun r3 => cond r3 ((Fimpl_isService k a0.B).bind fun r4 => some r4) (some false)
theorem ent140 : MG.Enters Try.prog 140 := ⟨Try.f140, Try.func140, rfl, by decide⟩
set_option maxHeartbeats 8000000 in
set_option maxRecDepth 100000 in
theorem Fimpl_ConfigOk_2_gives (k : Nat) (a0 : Timpl_Pair) (r : Bool) (H : Fimpl_ConfigOk_2 k a0 = some r) : Gives Try.prog 140 [V.agg [cI a0.A, cI a0.B]] [] [V.one (cL r)] [] := by
 refine Gives.intro Try.func140 rfl rfl rfl rfl ?_
 intro F hF hm
 unfold Fimpl_ConfigOk_2 at H
 obtain ⟨K, hK⟩ : ∃ K, k ≤ K := ⟨k, Nat.le_refl k⟩
 refine WpC.seq (WpC.regionL ?_)
 refine L.box 2 hF rfl rfl rfl rfl ?_
 refine L.assign hF rfl rfl rfl (L.nil ?_)
 refine WpC.seq (WpC.regionL ?_)
 refine L.fieldAddr Try.underlying164 rfl info3 rfl hF rfl rfl rfl rfl rfl ?_
 refine L.loadPtr shape3 hF rfl rfl rfl rfl rfl rfl ?_
 obtain ⟨r3, hr3, H⟩ := bindS H
 refine L.call [false] [] [] 3 hF rfl rfl rfl ent141 rfl rfl rfl rfl rfl (Fimpl_isService_gives k  a0.A r3 hr3) rfl ?_
 refine L.move hF rfl rfl rfl ?_
 refine L.split (fun hc => ?_) (fun hc => ?_)
 ·replace H := condT hc H
  refine L.fieldAddr Try.underlying164 rfl info3 rfl hF rfl rfl rfl rfl rfl ?_
  refine L.loadPtr shape3 hF rfl rfl rfl rfl rfl rfl ?_
  obtain ⟨r4, hr4, H⟩ := bindS H
  refine L.call [false] [] [] 4 hF rfl rfl rfl ent141 rfl rfl rfl rfl rfl (Fimpl_isService_gives k  a0.B r4 hr4) rfl ?_
  refine L.pick hF rfl rfl rfl rfl ?_
  refine L.assign hF rfl rfl rfl (L.nil ?_)
  refine WpC.ret ?_
  cases H
  exact Leaves.ret rfl rfl rfl ⟨rfl, rfl⟩
 ·replace H := condF hc H
  refine L.off hF rfl rfl ?_
  refine L.off hF rfl rfl ?_
  refine L.off hF rfl rfl ?_
  refine L.pick hF rfl rfl rfl rfl ?_
  refine L.assign hF rfl rfl rfl (L.nil ?_)
  refine WpC.ret ?_
  cases H
  exact Leaves.ret rfl rfl rfl ⟨rfl, rfl⟩
/-! ### Fimpl_arePairs__impl_ConfigOk_2 -/
def Fimpl_arePairs__impl_ConfigOk_2.l2 : Nat → (List Timpl_Pair) → Int → Int → Option Bool
 | 0, _, _, _ => none
 | k2 + 1, v84, v85, v86 => cond (decide (v86 < v85)) ((at? v84 v86).bind fun b94 => (Fimpl_ConfigOk_2 k2 b94).bind fun r98 => cond (!r98) (some false) ((part? v84 (0 : Int) v86).bind fun b100 => (Fslices_Contains_Pair k2 b100 b94).bind fun r101 => cond r101 (some false) ((Fimpl_arePairs__impl_ConfigOk_2.l2 k2) v84 v85 (IntKind.i64.wrap (v86 + (1 : Int)))))) (some (decide ((v84.length : Int) ≤ (6 : Int))))
def Fimpl_arePairs__impl_ConfigOk_2 (k : Nat) (a0 : List Timpl_Pair) : Option Bool := Fimpl_arePairs__impl_ConfigOk_2.l2 k a0 (a0.length : Int) (0 : Int)
set_option maxHeartbeats 8000000 in
set_option maxRecDepth 100000 in
theorem Fimpl_arePairs__impl_ConfigOk_2_gives (k : Nat) (g0 : Bool) (a0 : List Timpl_Pair) (r : Bool) (H : Fimpl_arePairs__impl_ConfigOk_2 k a0 = some r) : Gives Try.prog 137 [V.one (Cell.sl g0 (List.map eTimpl_Pair a0)), V.one (Cell.clo 140 [])] [] [V.one (cL r)] [] := by
 refine Gives.intro Try.func137 rfl rfl rfl rfl ?_
 intro F hF hm
 unfold Fimpl_arePairs__impl_ConfigOk_2 at H
 obtain ⟨K, hK⟩ : ∃ K, k ≤ K := ⟨k, Nat.le_refl k⟩
 refine WpC.seq (WpC.regionL ?_)
 refine L.assign hF rfl rfl rfl (L.nil ?_)
 refine WpC.seq (WpC.seq (WpC.regionL ?_))
 refine L.move hF rfl rfl rfl ?_
 refine L.lenR (xs := a0) (e := eTimpl_Pair) Try.underlying60 hF rfl rfl rfl rfl ?_
 refine L.move hF rfl rfl rfl (L.nil ?_)
 refine WpC.block ?_
 refine WpC.loopL (P := Try.prog) (fun n σ => ∃ v84 : List Timpl_Pair, ∃ v85 : Int, ∃ v86 : Int, n ≤ K ∧ Fimpl_arePairs__impl_ConfigOk_2.l2 n v84 v85 v86 = some r ∧ σ = mkSt [(0, one (Cell.sl g0 (List.map eTimpl_Pair v84))), (1, one (Cell.clo 140 [])), (7, one (Cell.sl g0 (List.map eTimpl_Pair v84))), (8, one (cI v85)), (9, one (cI v86))] [] [] 0) k ⟨_, ⟨a0, (a0.length : Int), (0 : Int), by omega, H, rfl⟩, Le.mk [] hm rfl (Sa4 (Sa1 trivial)) trivial trivial⟩ ?_
 clear H
 rintro k2 _ ⟨v84, v85, v86, hk2, H, rfl⟩
 cases k2 with
 | zero => cases H
 | succ k2 =>
  rw [Fimpl_arePairs__impl_ConfigOk_2.l2] at H
  refine WpC.seq (WpC.regionL ?_)
  refine L.bin hF rfl rfl rfl rfl rfl rfl (L.nil ?_)
  refine WpC.seq ?_
  refine WpC.cond rfl (fun hc => ?_) (fun hc => ?_)
  ·replace H := condT hc H
   refine WpC.skip (WpC.seq (WpC.block (WpC.seq (WpC.regionL ?_))))
   refine L.move hF rfl rfl rfl ?_
   obtain ⟨b94, hb94, H⟩ := bindS H
   refine L.idxR (xs := v84) (e := eTimpl_Pair) Try.underlying60 info164 hF rfl rfl rfl rfl rfl hb94 rfl rfl ?_
   refine L.loadPe shape164 hF rfl rfl rfl rfl rfl ?_
   refine L.alloc 0 info164 rfl hF rfl rfl rfl rfl ?_
   refine L.assign hF rfl rfl rfl ?_
   refine L.storePtr shape164 hF rfl rfl rfl rfl rfl rfl rfl (L.nil ?_)
   refine WpC.seq ?_
   obtain ⟨r98, hr98, H⟩ := bindS H
   rcases Bool.eq_false_or_eq_true ((!r98)) with hc99 | hc99
   ·replace H := condT hc99 H
    refine A.begin mixed rfl rfl ?_
    intro W hI hO
    refine hI _ _ _ ?_
    refine Atk 0 rfl (Ca.move) (fun Q0 k0 => L.move hF rfl rfl rfl (L.nil k0)) ?_
    refine A.all [1] (by kernel_rfl) rfl ⟨⟨_, rfl, ?_⟩, trivial⟩
    refine L.loadPtr shape164 hF rfl rfl rfl rfl rfl rfl (L.nil ?_)
    refine A.all [2] (by kernel_rfl) rfl ⟨⟨_, rfl, ?_⟩, trivial⟩
    refine L.call [false] [] [] 1 hF rfl rfl rfl ent140 rfl rfl rfl rfl rfl (Fimpl_ConfigOk_2_gives k2  b94 r98 hr98) rfl (L.nil ?_)
    refine Atk 3 rfl (Ca.un rfl rfl) (fun Q0 k0 => L.not hF rfl rfl rfl (L.nil k0)) ?_
    refine Atk 4 rfl (Ca.move) (fun Q0 k0 => L.move hF rfl rfl rfl (L.nil k0)) ?_
    refine A.le (τ := mkSt [(0, one (Cell.sl g0 (List.map eTimpl_Pair v84))), (1, one (Cell.clo 140 [])), (5, one (cI v86)), (6, one (Cell.ptr 0 0)), (7, one (Cell.sl g0 (List.map eTimpl_Pair v84))), (8, one (cI v85)), (9, one (cI v86)), (18, one (cL true))] [] [(0, [cI b94.A, cI b94.B])] 1) (Le.mk [(0, 0)] hm rfl (Sa4 (Sa2 (Sa1 (Sa1 trivial rfl (congrArg (fun b => some (one (cL b))) hc99))))) trivial (Ba1 trivial)) ?_
    refine Aof 5 rfl hF ?_
    refine Aof 6 rfl hF ?_
    refine Aof 7 rfl hF ?_
    refine Aof 8 rfl hF ?_
    refine A.all [9] (by kernel_rfl) rfl ⟨⟨_, rfl, ?_⟩, trivial⟩
    refine L.off hF rfl rfl (L.nil ?_)
    refine Atk 10 rfl (Ca.pick) (fun Q0 k0 => L.pick hF rfl rfl rfl rfl (L.nil k0)) ?_
    refine A.le (τ := mkSt [(0, one (Cell.sl g0 (List.map eTimpl_Pair v84))), (1, one (Cell.clo 140 [])), (7, one (Cell.sl g0 (List.map eTimpl_Pair v84))), (8, one (cI v85)), (9, one (cI v86)), (24, one (cL true))] [] [] 0) (Le.mk [] hm rfl (Sa4 (Sa2 trivial)) trivial trivial) ?_
    refine A.done (by kernel_rfl) ?_
    refine WpC.cond rfl (fun _ => ?_) (fun hc => by cases hc)
    refine WpC.seq (WpC.regionL ?_)
    refine L.assign hF rfl rfl rfl (L.nil ?_)
    refine WpC.ret ?_
    cases H
    exact Leaves.ret rfl rfl rfl ⟨rfl, rfl⟩
   ·replace H := condF hc99 H
    obtain ⟨b100, hb100, H⟩ := bindS H
    obtain ⟨r101, hr101, H⟩ := bindS H
    refine A.begin mixed rfl rfl ?_
    intro W hI hO
    refine hI _ _ _ ?_
    refine Atk 0 rfl (Ca.move) (fun Q0 k0 => L.move hF rfl rfl rfl (L.nil k0)) ?_
    refine A.all [1] (by kernel_rfl) rfl ⟨⟨_, rfl, ?_⟩, trivial⟩
    refine L.loadPtr shape164 hF rfl rfl rfl rfl rfl rfl (L.nil ?_)
    refine A.all [2] (by kernel_rfl) rfl ⟨⟨_, rfl, ?_⟩, trivial⟩
    refine L.call [false] [] [] 1 hF rfl rfl rfl ent140 rfl rfl rfl rfl rfl (Fimpl_ConfigOk_2_gives k2  b94 r98 hr98) rfl (L.nil ?_)
    refine Atk 3 rfl (Ca.un rfl rfl) (fun Q0 k0 => L.not hF rfl rfl rfl (L.nil k0)) ?_
    refine Atk 4 rfl (Ca.move) (fun Q0 k0 => L.move hF rfl rfl rfl (L.nil k0)) ?_
    refine A.le (τ := mkSt [(0, one (Cell.sl g0 (List.map eTimpl_Pair v84))), (1, one (Cell.clo 140 [])), (5, one (cI v86)), (6, one (Cell.ptr 0 0)), (7, one (Cell.sl g0 (List.map eTimpl_Pair v84))), (8, one (cI v85)), (9, one (cI v86)), (18, one (cL false))] [] [(0, [cI b94.A, cI b94.B])] 1) (Le.mk [(0, 0)] hm rfl (Sa4 (Sa2 (Sa1 (Sa1 trivial rfl (congrArg (fun b => some (one (cL b))) hc99))))) trivial (Ba1 trivial)) ?_
    refine Atk 5 rfl (Ca.move) (fun Q0 k0 => L.move hF rfl rfl rfl (L.nil k0)) ?_
    refine Atk 6 rfl (Ca.move) (fun Q0 k0 => L.move hF rfl rfl rfl (L.nil k0)) ?_
    refine Atk 7 rfl (Ca.slice) (fun Q0 k0 => L.cutR (xs := v84) (ys := b100) (e := eTimpl_Pair) Try.underlying60 info164 hF rfl rfl rfl rfl rfl hb100 (fun _ => rfl) (L.nil k0)) ?_
    refine A.all [8] (by kernel_rfl) rfl ⟨⟨_, rfl, ?_⟩, trivial⟩
    refine L.loadPtr shape164 hF rfl rfl rfl rfl rfl rfl (L.nil ?_)
    refine A.all [9] (by kernel_rfl) rfl ⟨⟨_, rfl, ?_⟩, trivial⟩
    refine L.call [false, false] [] [] 1 hF rfl rfl rfl ent160 rfl rfl rfl rfl rfl (Fslices_Contains_Pair_gives k2 g0 b100 b94 r101 hr101) rfl (L.nil ?_)
    refine Atk 10 rfl (Ca.pick) (fun Q0 k0 => L.pick hF rfl rfl rfl rfl (L.nil k0)) ?_
    refine A.le (τ := mkSt [(0, one (Cell.sl g0 (List.map eTimpl_Pair v84))), (1, one (Cell.clo 140 [])), (7, one (Cell.sl g0 (List.map eTimpl_Pair v84))), (8, one (cI v85)), (9, one (cI v86)), (24, one (cL r101))] [] [] 0) (Le.mk [] hm rfl (Sa4 (Sa2 trivial)) trivial trivial) ?_
    refine A.done (by kernel_rfl) ?_
    refine WpC.cond rfl (fun hc => ?_) (fun hc => ?_)
    ·replace H := condT hc H
     refine WpC.seq (WpC.regionL ?_)
     refine L.assign hF rfl rfl rfl (L.nil ?_)
     refine WpC.ret ?_
     cases H
     exact Leaves.ret rfl rfl rfl ⟨rfl, rfl⟩
    ·replace H := condF hc H
     refine WpC.skip (WpC.regionL ?_)
     refine L.bin hF rfl rfl rfl rfl rfl rfl ?_
     refine L.move hF rfl rfl rfl (L.nil ?_)
     exact ⟨k2, _, by omega, ⟨v84, v85, (IntKind.i64.wrap (v86 + (1 : Int))), by omega, H, rfl⟩, Le.mk [] hm rfl (Sa4 (Sa1 trivial)) trivial trivial⟩
  ·replace H := condF hc H
   refine WpC.exit (WpC.seq (WpC.regionL ?_))
   refine L.move hF rfl rfl rfl ?_
   refine L.lenR (xs := v84) (e := eTimpl_Pair) Try.underlying60 hF rfl rfl rfl rfl ?_
   refine L.bin hF rfl rfl rfl rfl rfl rfl ?_
   refine L.assign hF rfl rfl rfl (L.nil ?_)
   refine WpC.ret ?_
   cases H
   exact Leaves.ret rfl rfl rfl ⟨rfl, rfl⟩
/-! ### Fimpl_areAll__impl_isRealm -/
def Fimpl_areAll__impl_isRealm.l2 : Nat → (List Int) → Int → Int → Int → Option Bool
 | 0, _, _, _, _ => none
 | k2 + 1, v39, v40, v41, v42 => cond (decide (v42 < v41)) ((at? v39 v42).bind fun b45 => (Fimpl_isRealm k2 b45).bind fun r46 => cond (!r46) (some false) ((Fimpl_areAll__impl_isRealm.l2 k2) v39 v40 v41 (IntKind.i64.wrap (v42 + (1 : Int))))) (some (decide ((v39.length : Int) ≤ v40)))
def Fimpl_areAll__impl_isRealm (k : Nat) (a0 : List Int) (a1 : Int) : Option Bool := Fimpl_areAll__impl_isRealm.l2 k a0 a1 (a0.length : Int) (0 : Int)
theorem ent142 : MG.Enters Try.prog 142 := ⟨Try.f142, Try.func142, rfl, by decide⟩
set_option maxHeartbeats 8000000 in
set_option maxRecDepth 100000 in
theorem Fimpl_areAll__impl_isRealm_gives (k : Nat) (g0 : Bool) (a0 : List Int) (a1 : Int) (r : Bool) (H : Fimpl_areAll__impl_isRealm k a0 a1 = some r) : Gives Try.prog 142 [V.one (Cell.sl g0 (List.map eI a0)), V.one (cI a1), V.one (Cell.clo 139 [])] [] [V.one (cL r)] [] := by
 refine Gives.intro Try.func142 rfl rfl rfl rfl ?_
 intro F hF hm
 unfold Fimpl_areAll__impl_isRealm at H
 obtain ⟨K, hK⟩ : ∃ K, k ≤ K := ⟨k, Nat.le_refl k⟩
 refine WpC.seq (WpC.regionL ?_)
 refine L.assign hF rfl rfl rfl (L.nil ?_)
 refine WpC.seq (WpC.seq (WpC.regionL ?_))
 refine L.move hF rfl rfl rfl ?_
 refine L.lenR (xs := a0) (e := eI) Try.underlying39 hF rfl rfl rfl rfl ?_
 refine L.move hF rfl rfl rfl (L.nil ?_)
 refine WpC.block ?_
 refine WpC.loopL (P := Try.prog) (fun n σ => ∃ v39 : List Int, ∃ v40 : Int, ∃ v41 : Int, ∃ v42 : Int, n ≤ K ∧ Fimpl_areAll__impl_isRealm.l2 n v39 v40 v41 v42 = some r ∧ σ = mkSt [(0, one (Cell.sl g0 (List.map eI v39))), (1, one (cI v40)), (2, one (Cell.clo 139 [])), (9, one (Cell.sl g0 (List.map eI v39))), (10, one (cI v41)), (11, one (cI v42))] [] [] 0) k ⟨_, ⟨a0, a1, (a0.length : Int), (0 : Int), by omega, H, rfl⟩, Le.mk [] hm rfl (Sa4 (Sa2 trivial)) trivial trivial⟩ ?_
 clear H
 rintro k2 _ ⟨v39, v40, v41, v42, hk2, H, rfl⟩
 cases k2 with
 | zero => cases H
 | succ k2 =>
  rw [Fimpl_areAll__impl_isRealm.l2] at H
  refine WpC.seq (WpC.regionL ?_)
  refine L.bin hF rfl rfl rfl rfl rfl rfl (L.nil ?_)
  refine WpC.seq ?_
  refine WpC.cond rfl (fun hc => ?_) (fun hc => ?_)
  ·replace H := condT hc H
   refine WpC.skip (WpC.seq (WpC.block (WpC.seq (WpC.regionL ?_))))
   obtain ⟨b45, hb45, H⟩ := bindS H
   refine L.idxR (xs := v39) (e := eI) Try.underlying39 info3 hF rfl rfl rfl rfl rfl hb45 rfl rfl ?_
   refine L.loadPe shape3 hF rfl rfl rfl rfl rfl ?_
   refine L.assign hF rfl rfl rfl (L.nil ?_)
   refine WpC.seq (WpC.regionL ?_)
   refine L.move hF rfl rfl rfl ?_
   refine L.move hF rfl rfl rfl ?_
   obtain ⟨r46, hr46, H⟩ := bindS H
   refine L.call [false] [] [] 0 hF rfl rfl rfl ent139 rfl rfl rfl rfl rfl (Fimpl_isRealm_gives k2  b45 r46 hr46) rfl ?_
   refine L.not hF rfl rfl rfl (L.nil ?_)
   refine WpC.cond rfl (fun hc => ?_) (fun hc => ?_)
   ·replace H := condT hc H
    refine WpC.seq (WpC.regionL ?_)
    refine L.assign hF rfl rfl rfl (L.nil ?_)
    refine WpC.ret ?_
    cases H
    exact Leaves.ret rfl rfl rfl ⟨rfl, rfl⟩
   ·replace H := condF hc H
    refine WpC.skip (WpC.regionL ?_)
    refine L.bin hF rfl rfl rfl rfl rfl rfl ?_
    refine L.move hF rfl rfl rfl (L.nil ?_)
    exact ⟨k2, _, by omega, ⟨v39, v40, v41, (IntKind.i64.wrap (v42 + (1 : Int))), by omega, H, rfl⟩, Le.mk [] hm rfl (Sa4 (Sa2 trivial)) trivial trivial⟩
  ·replace H := condF hc H
   refine WpC.exit (WpC.seq (WpC.regionL ?_))
   refine L.move hF rfl rfl rfl ?_
   refine L.lenR (xs := v39) (e := eI) Try.underlying39 hF rfl rfl rfl rfl ?_
   refine L.move hF rfl rfl rfl ?_
   refine L.bin hF rfl rfl rfl rfl rfl rfl ?_
   refine L.assign hF rfl rfl rfl (L.nil ?_)
   refine WpC.ret ?_
   cases H
   exact Leaves.ret rfl rfl rfl ⟨rfl, rfl⟩
/-! ### Fimpl_ConfigOk -/
def Fimpl_ConfigOk (k : Nat) (a0 : Timpl_Config) : Option Bool := (Fimpl_arePairs__impl_ConfigOk_1 k a0.Links).bind fun r1 => (Fimpl_arePairs__impl_ConfigOk_2 k a0.Proxy).bind fun r2 => cond r1 (cond r2 (cond ((a0.UserRealm.length : Int) == (3 : Int)) ((Fimpl_areAll__impl_isRealm k a0.UserRealm (3 : Int)).bind fun r6 => cond r6 (cond ((a0.ServiceRealm.length : Int) == (3 : Int)) ((Fimpl_areAll__impl_isRealm k a0.ServiceRealm (3 : Int)).bind fun r7 => cond r7 ((Fimpl_within k a0.Skew (0 : Int) (20 : Int)).bind fun r8 => some r8) (some false)) (some false)) (some false)) (some false)) (some false)) (some false)
theorem ent93 : MG.Enters Try.prog 93 := ⟨Try.f93, Try.func93, rfl, by decide⟩
set_option maxHeartbeats 8000000 in
set_option maxRecDepth 100000 in
theorem Fimpl_ConfigOk_gives (k : Nat) (g0 : Bool) (g1 : Bool) (g2 : Bool) (g3 : Bool) (a0 : Timpl_Config) (r : Bool) (H : Fimpl_ConfigOk k a0 = some r) : Gives Try.prog 93 [V.agg [Cell.sl g0 (List.map eI a0.UserRealm), Cell.sl g1 (List.map eI a0.ServiceRealm), Cell.sl g2 (List.map eTimpl_Pair a0.Links), Cell.sl g3 (List.map eTimpl_Pair a0.Proxy), cI a0.Skew]] [] [V.one (cL r)] [] := by
 refine Gives.intro Try.func93 rfl rfl rfl rfl ?_
 intro F hF hm
 unfold Fimpl_ConfigOk at H
 obtain ⟨K, hK⟩ : ∃ K, k ≤ K := ⟨k, Nat.le_refl k⟩
 refine WpC.seq (WpC.regionL ?_)
 refine L.box 5 hF rfl rfl rfl rfl ?_
 refine L.assign hF rfl rfl rfl (L.nil ?_)
 refine WpC.seq (WpC.regionL ?_)
 refine L.fieldAddr Try.underlying62 rfl info60 rfl hF rfl rfl rfl rfl rfl ?_
 refine L.loadPtr shape60 hF rfl rfl rfl rfl rfl rfl ?_
 obtain ⟨r1, hr1, H⟩ := bindS H
 refine L.call [false, false] [] [] 6 hF rfl rfl rfl ent137 rfl rfl rfl rfl rfl (Fimpl_arePairs__impl_ConfigOk_1_gives k g2 a0.Links r1 hr1) rfl ?_
 refine L.assign hF rfl rfl rfl (L.nil ?_)
 refine WpC.seq (WpC.regionL ?_)
 refine L.fieldAddr Try.underlying62 rfl info60 rfl hF rfl rfl rfl rfl rfl ?_
 refine L.loadPtr shape60 hF rfl rfl rfl rfl rfl rfl ?_
 obtain ⟨r2, hr2, H⟩ := bindS H
 refine L.call [false, false] [] [] 7 hF rfl rfl rfl ent137 rfl rfl rfl rfl rfl (Fimpl_arePairs__impl_ConfigOk_2_gives k g3 a0.Proxy r2 hr2) rfl ?_
 refine L.assign hF rfl rfl rfl (L.nil ?_)
 refine WpC.seq (WpC.regionL ?_)
 refine L.move hF rfl rfl rfl ?_
 refine L.move hF rfl rfl rfl ?_
 refine L.split (fun hc => ?_) (fun hc => ?_)
 ·replace H := condT hc H
  refine L.move hF rfl rfl rfl ?_
  refine L.pick hF rfl rfl rfl rfl ?_
  refine L.move hF rfl rfl rfl ?_
  refine L.split (fun hc => ?_) (fun hc => ?_)
  ·replace H := condT hc H
   refine L.fieldAddr Try.underlying62 rfl info39 rfl hF rfl rfl rfl rfl rfl ?_
   refine L.loadPtr shape39 hF rfl rfl rfl rfl rfl rfl ?_
   refine L.lenR (xs := a0.UserRealm) (e := eI) Try.underlying39 hF rfl rfl rfl rfl ?_
   refine L.bin hF rfl rfl rfl rfl rfl rfl ?_
   refine L.pick hF rfl rfl rfl rfl ?_
   refine L.move hF rfl rfl rfl ?_
   refine L.split (fun hc => ?_) (fun hc => ?_)
   ·replace H := condT hc H
    refine L.fieldAddr Try.underlying62 rfl info39 rfl hF rfl rfl rfl rfl rfl ?_
    refine L.loadPtr shape39 hF rfl rfl rfl rfl rfl rfl ?_
    obtain ⟨r6, hr6, H⟩ := bindS H
    refine L.call [false, false, false] [] [] 8 hF rfl rfl rfl ent142 rfl rfl rfl rfl rfl (Fimpl_areAll__impl_isRealm_gives k g0 a0.UserRealm (3 : Int) r6 hr6) rfl ?_
    refine L.pick hF rfl rfl rfl rfl ?_
    refine L.move hF rfl rfl rfl ?_
    refine L.split (fun hc => ?_) (fun hc => ?_)
    ·replace H := condT hc H
     refine L.fieldAddr Try.underlying62 rfl info39 rfl hF rfl rfl rfl rfl rfl ?_
     refine L.loadPtr shape39 hF rfl rfl rfl rfl rfl rfl ?_
     refine L.lenR (xs := a0.ServiceRealm) (e := eI) Try.underlying39 hF rfl rfl rfl rfl ?_
     refine L.bin hF rfl rfl rfl rfl rfl rfl ?_
     refine L.pick hF rfl rfl rfl rfl ?_
     refine L.move hF rfl rfl rfl ?_
     refine L.split (fun hc => ?_) (fun hc => ?_)
     ·replace H := condT hc H
      refine L.fieldAddr Try.underlying62 rfl info39 rfl hF rfl rfl rfl rfl rfl ?_
      refine L.loadPtr shape39 hF rfl rfl rfl rfl rfl rfl ?_
      obtain ⟨r7, hr7, H⟩ := bindS H
      refine L.call [false, false, false] [] [] 9 hF rfl rfl rfl ent142 rfl rfl rfl rfl rfl (Fimpl_areAll__impl_isRealm_gives k g1 a0.ServiceRealm (3 : Int) r7 hr7) rfl ?_
      refine L.pick hF rfl rfl rfl rfl ?_
      refine L.move hF rfl rfl rfl ?_
      refine L.split (fun hc => ?_) (fun hc => ?_)
      ·replace H := condT hc H
       refine L.fieldAddr Try.underlying62 rfl info3 rfl hF rfl rfl rfl rfl rfl ?_
       refine L.loadPtr shape3 hF rfl rfl rfl rfl rfl rfl ?_
       obtain ⟨r8, hr8, H⟩ := bindS H
       refine L.call [false, false, false] [] [] 10 hF rfl rfl rfl ent78 rfl rfl rfl rfl rfl (Fimpl_within_gives k  a0.Skew (0 : Int) (20 : Int) r8 hr8) rfl ?_
       refine L.pick hF rfl rfl rfl rfl ?_
       refine L.assign hF rfl rfl rfl (L.nil ?_)
       refine WpC.ret ?_
       cases H
       exact Leaves.ret rfl rfl rfl ⟨rfl, rfl⟩
      ·replace H := condF hc H
       refine L.off hF rfl rfl ?_
       refine L.off hF rfl rfl ?_
       refine L.off hF rfl rfl ?_
       refine L.pick hF rfl rfl rfl rfl ?_
       refine L.assign hF rfl rfl rfl (L.nil ?_)
       refine WpC.ret ?_
       cases H
       exact Leaves.ret rfl rfl rfl ⟨rfl, rfl⟩
     ·replace H := condF hc H
      refine L.off hF rfl rfl ?_
      refine L.off hF rfl rfl ?_
      refine L.off hF rfl rfl ?_
      refine L.pick hF rfl rfl rfl rfl ?_
      refine L.move hF rfl rfl rfl ?_
      refine L.off hF rfl rfl ?_
      refine L.off hF rfl rfl ?_
      refine L.off hF rfl rfl ?_
      refine L.pick hF rfl rfl rfl rfl ?_
      refine L.assign hF rfl rfl rfl (L.nil ?_)
      refine WpC.ret ?_
      cases H
      exact Leaves.ret rfl rfl rfl ⟨rfl, rfl⟩
    ·replace H := condF hc H
     refine L.off hF rfl rfl ?_
     refine L.off hF rfl rfl ?_
     refine L.off hF rfl rfl ?_
     refine L.off hF rfl rfl ?_
     refine L.pick hF rfl rfl rfl rfl ?_
     refine L.move hF rfl rfl rfl ?_
     refine L.off hF rfl rfl ?_
     refine L.off hF rfl rfl ?_
     refine L.off hF rfl rfl ?_
     refine L.pick hF rfl rfl rfl rfl ?_
     refine L.move hF rfl rfl rfl ?_
     refine L.off hF rfl rfl ?_
     refine L.off hF rfl rfl ?_
     refine L.off hF rfl rfl ?_
     refine L.pick hF rfl rfl rfl rfl ?_
     refine L.assign hF rfl rfl rfl (L.nil ?_)
     refine WpC.ret ?_
     cases H
     exact Leaves.ret rfl rfl rfl ⟨rfl, rfl⟩
   ·replace H := condF hc H
    refine L.off hF rfl rfl ?_
    refine L.off hF rfl rfl ?_
    refine L.off hF rfl rfl ?_
    refine L.pick hF rfl rfl rfl rfl ?_
    refine L.move hF rfl rfl rfl ?_
    refine L.off hF rfl rfl ?_
    refine L.off hF rfl rfl ?_
    refine L.off hF rfl rfl ?_
    refine L.off hF rfl rfl ?_
    refine L.pick hF rfl rfl rfl rfl ?_
    refine L.move hF rfl rfl rfl ?_
    refine L.off hF rfl rfl ?_
    refine L.off hF rfl rfl ?_
    refine L.off hF rfl rfl ?_
    refine L.pick hF rfl rfl rfl rfl ?_
    refine L.move hF rfl rfl rfl ?_
    refine L.off hF rfl rfl ?_
    refine L.off hF rfl rfl ?_
    refine L.off hF rfl rfl ?_
    refine L.pick hF rfl rfl rfl rfl ?_
    refine L.assign hF rfl rfl rfl (L.nil ?_)
    refine WpC.ret ?_
    cases H
    exact Leaves.ret rfl rfl rfl ⟨rfl, rfl⟩
  ·replace H := condF hc H
   refine L.off hF rfl rfl ?_
   refine L.off hF rfl rfl ?_
   refine L.off hF rfl rfl ?_
   refine L.off hF rfl rfl ?_
   refine L.pick hF rfl rfl rfl rfl ?_
   refine L.move hF rfl rfl rfl ?_
   refine L.off hF rfl rfl ?_
   refine L.off hF rfl rfl ?_
   refine L.off hF rfl rfl ?_
   refine L.pick hF rfl rfl rfl rfl ?_
   refine L.move hF rfl rfl rfl ?_
   refine L.off hF rfl rfl ?_
   refine L.off hF rfl rfl ?_
   refine L.off hF rfl rfl ?_
   refine L.off hF rfl rfl ?_
   refine L.pick hF rfl rfl rfl rfl ?_
   refine L.move hF rfl rfl rfl ?_
   refine L.off hF rfl rfl ?_
   refine L.off hF rfl rfl ?_
   refine L.off hF rfl rfl ?_
   refine L.pick hF rfl rfl rfl rfl ?_
   refine L.move hF rfl rfl rfl ?_
   refine L.off hF rfl rfl ?_
   refine L.off hF rfl rfl ?_
   refine L.off hF rfl rfl ?_
   refine L.pick hF rfl rfl rfl rfl ?_
   refine L.assign hF rfl rfl rfl (L.nil ?_)
   refine WpC.ret ?_
   cases H
   exact Leaves.ret rfl rfl rfl ⟨rfl, rfl⟩
 ·replace H := condF hc H
  refine L.off hF rfl rfl ?_
  refine L.pick hF rfl rfl rfl rfl ?_
  refine L.move hF rfl rfl rfl ?_
  refine L.off hF rfl rfl ?_
  refine L.off hF rfl rfl ?_
  refine L.off hF rfl rfl ?_
  refine L.off hF rfl rfl ?_
  refine L.pick hF rfl rfl rfl rfl ?_
  refine L.move hF rfl rfl rfl ?_
  refine L.off hF rfl rfl ?_
  refine L.off hF rfl rfl ?_
  refine L.off hF rfl rfl ?_
  refine L.pick hF rfl rfl rfl rfl ?_
  refine L.move hF rfl rfl rfl ?_
  refine L.off hF rfl rfl ?_
  refine L.off hF rfl rfl ?_
  refine L.off hF rfl rfl ?_
  refine L.off hF rfl rfl ?_
  refine L.pick hF rfl rfl rfl rfl ?_
  refine L.move hF rfl rfl rfl ?_
  refine L.off hF rfl rfl ?_
  refine L.off hF rfl rfl ?_
  refine L.off hF rfl rfl ?_
  refine L.pick hF rfl rfl rfl rfl ?_
  refine L.move hF rfl rfl rfl ?_
  refine L.off hF rfl rfl ?_
  refine L.off hF rfl rfl ?_
  refine L.off hF rfl rfl ?_
  refine L.pick hF rfl rfl rfl rfl ?_
  refine L.assign hF rfl rfl rfl (L.nil ?_)
  refine WpC.ret ?_
  cases H
  exact Leaves.ret rfl rfl rfl ⟨rfl, rfl⟩
/-! ### Fimpl_copyInts -/
def Fimpl_copyInts (k : Nat) (a0 : List Int) : Option (List Int) := cond (decide ((2 * (([] : List Int).length + a0.length) + 192) * 8 ≤ 281474976710656)) (some (([] : List Int) ++ a0)) none
theorem ent133 : MG.Enters Try.prog 133 := ⟨Try.f133, Try.func133, rfl, by decide⟩
set_option maxHeartbeats 8000000 in
set_option maxRecDepth 100000 in
theorem Fimpl_copyInts_gives (k : Nat) (g0 : Bool) (a0 : List Int) (r : List Int) (H : Fimpl_copyInts k a0 = some r) : Gives Try.prog 133 [V.one (Cell.sl g0 (List.map eI a0))] [] [V.one (Cell.ow 1 (List.map eI r))] [] := by
 refine Gives.intro Try.func133 rfl rfl rfl rfl ?_
 intro F hF hm
 unfold Fimpl_copyInts at H
 obtain ⟨K, hK⟩ : ∃ K, k ≤ K := ⟨k, Nat.le_refl k⟩
 refine WpC.seq (WpC.regionL ?_)
 refine L.assign hF rfl rfl rfl (L.nil ?_)
 refine WpC.seq (WpC.regionL ?_)
 refine L.move hF rfl rfl rfl ?_
 obtain ⟨h1, H⟩ := condG H
 refine L.append (xs := ([] : List Int)) (ys := a0) (e := eI) 1 Try.underlying39 info3 rfl rfl hF rfl rfl rfl rfl rfl rfl rfl rfl (fun _ => rfl) (fun _ _ h1 _ => by cases h1) ⟨_, Try.underlying39⟩ (of_decide_eq_true h1) rfl rfl ?_
 refine L.assign hF rfl rfl rfl (L.nil ?_)
 refine WpC.ret ?_
 cases H
 exact Leaves.ret rfl rfl rfl ⟨rfl, rfl⟩
/-! ### Fimpl_copyConfig -/
def Fimpl_copyConfig (k : Nat) (a0 : Timpl_Config) : Option Timpl_Config := (Fimpl_copyInts k a0.UserRealm).bind fun r1 => (Fimpl_copyInts k a0.ServiceRealm).bind fun r2 => cond (decide ((2 * (([] : List Timpl_Pair).length + a0.Links.length) + 192) * 16 ≤ 281474976710656)) (cond (decide ((2 * (([] : List Timpl_Pair).length + a0.Proxy.length) + 192) * 16 ≤ 281474976710656)) (some (⟨r1, r2, (([] : List Timpl_Pair) ++ a0.Links), (([] : List Timpl_Pair) ++ a0.Proxy), a0.Skew⟩ : Timpl_Config)) none) none
theorem ent94 : MG.Enters Try.prog 94 := ⟨Try.f94, Try.func94, rfl, by decide⟩
set_option maxHeartbeats 8000000 in
set_option maxRecDepth 100000 in
theorem Fimpl_copyConfig_gives (k : Nat) (g0 : Bool) (g1 : Bool) (g2 : Bool) (g3 : Bool) (a0 : Timpl_Config) (r : Timpl_Config) (H : Fimpl_copyConfig k a0 = some r) : Gives Try.prog 94 [V.agg [Cell.sl g0 (List.map eI a0.UserRealm), Cell.sl g1 (List.map eI a0.ServiceRealm), Cell.sl g2 (List.map eTimpl_Pair a0.Links), Cell.sl g3 (List.map eTimpl_Pair a0.Proxy), cI a0.Skew]] [] [V.agg [Cell.ow 1 (List.map eI r.UserRealm), Cell.ow 1 (List.map eI r.ServiceRealm), Cell.ow 2 (List.map eTimpl_Pair r.Links), Cell.ow 2 (List.map eTimpl_Pair r.Proxy), cI r.Skew]] [] := by
 refine Gives.intro Try.func94 rfl rfl rfl rfl ?_
 intro F hF hm
 unfold Fimpl_copyConfig at H
 obtain ⟨K, hK⟩ : ∃ K, k ≤ K := ⟨k, Nat.le_refl k⟩
 refine WpC.seq (WpC.regionL ?_)
 refine L.box 5 hF rfl rfl rfl rfl ?_
 refine L.alloc 6 info62 rfl hF rfl rfl rfl rfl (L.nil ?_)
 refine WpC.seq ?_
 obtain ⟨r1, hr1, H⟩ := bindS H
 obtain ⟨r2, hr2, H⟩ := bindS H
 obtain ⟨h3, H⟩ := condG H
 obtain ⟨h4, H⟩ := condG H
 refine A.lin (fun β => mkStL [(1, ai (one (Cell.ptr 5 0))), (2, ai (one (Cell.ptr 6 0))), (3, al (β 0) (one (Cell.ptr 5 0))), (4, al (β 1) (one (Cell.sl g0 (List.map eI a0.UserRealm)))), (5, al (β 2) (one (Cell.own 7))), (6, al (β 3) (one (Cell.ptr 5 1))), (7, al (β 4) (one (Cell.sl g1 (List.map eI a0.ServiceRealm)))), (8, al (β 5) (one (Cell.own 8))), (9, al (β 6) (one (Cell.ptr 5 2))), (10, al (β 7) (one (Cell.sl g2 (List.map eTimpl_Pair a0.Links)))), (11, al (β 8) (one (Cell.own 9))), (12, al (β 9) (one (Cell.ptr 5 3))), (13, al (β 10) (one (Cell.sl g3 (List.map eTimpl_Pair a0.Proxy)))), (14, al (β 11) (one (Cell.own 10))), (15, al (β 12) (one (Cell.ptr 5 4))), (16, al (β 13) (one (cI a0.Skew))), (17, al (β 14) (agg [Cell.own 7, Cell.own 8, Cell.own 9, Cell.own 10, cI a0.Skew]))] [(7, al (β 2) (⟨1, List.map eI r1⟩)), (8, al (β 5) (⟨1, List.map eI r2⟩)), (9, al (β 8) (⟨2, List.map eTimpl_Pair (([] : List Timpl_Pair) ++ a0.Links)⟩)), (10, al (β 11) (⟨2, List.map eTimpl_Pair (([] : List Timpl_Pair) ++ a0.Proxy)⟩))] [(5, ai ((bTimpl_Config g0 g1 g2 g3 a0))), (6, [(β 15, some ([Cell.own 7, Cell.own 8, Cell.own 9, Cell.own 10, cI a0.Skew])), (true, some ([Cell.nil, Cell.nil, Cell.nil, Cell.nil, cI (0 : Int)]))])] 11) [([], [1, 2, 5, 8, 11, 14, 15]), ([0], [2, 5, 8, 11, 14, 15]), ([0, 1], [5, 8, 11, 14, 15]), ([], [4, 5, 8, 11, 14, 15]), ([3], [5, 8, 11, 14, 15]), ([0, 1, 2, 3, 4], [8, 11, 14, 15]), ([], [7, 8, 11, 14, 15]), ([6], [8, 11, 14, 15]), ([0, 1, 2, 3, 4, 5, 6, 7], [11, 14, 15]), ([], [10, 11, 14, 15]), ([9], [11, 14, 15]), ([0, 1, 2, 3, 4, 5, 6, 7, 8, 9, 10], [14, 15]), ([], [13, 14, 15]), ([12], [14, 15]), ([0, 1, 2, 3, 4, 5, 6, 7, 8, 9, 10, 11, 12, 13], [15]), ([0, 1, 2, 3, 4, 5, 6, 7, 8, 9, 10, 11, 12, 13, 14], [])] 16 mixed rfl (by kernel_rfl) ?_ ?_ ?_
 ·exact Le.lin [] hm rfl (sa (sa (kn (kn (kn (kn (kn (kn (kn (kn (kn (kn (kn (kn (kn (kn (kn kz))))))))))))))))) (kn (kn (kn (kn kz)))) (ba (ba kz))
 ·refine ⟨⟨_, rfl, fun β => ?_⟩, ⟨_, rfl, fun β => ?_⟩, ⟨_, rfl, fun β => ?_⟩, ⟨_, rfl, fun β => ?_⟩, ⟨_, rfl, fun β => ?_⟩, ⟨_, rfl, fun β => ?_⟩, ⟨_, rfl, fun β => ?_⟩, ⟨_, rfl, fun β => ?_⟩, ⟨_, rfl, fun β => ?_⟩, ⟨_, rfl, fun β => ?_⟩, ⟨_, rfl, fun β => ?_⟩, ⟨_, rfl, fun β => ?_⟩, ⟨_, rfl, fun β => ?_⟩, ⟨_, rfl, fun β => ?_⟩, ⟨_, rfl, fun β => ?_⟩, ⟨_, rfl, fun β => ?_⟩, trivial⟩
  ·refine L.fieldAddr Try.underlying62 rfl info39 rfl hF rfl rfl rfl rfl rfl ?_
   exact L.nil (Le.lin [] hm rfl (sa (sa (sa (kn (kn (su (su (kn (su (su (kn (su (su (kn (su (su (kn kz))))))))))))))))) (kn (kn (kn (kn kz)))) (ba (ba kz)))
  ·refine L.loadPtr shape39 hF rfl rfl rfl rfl rfl rfl ?_
   exact L.nil (Le.lin [] hm rfl (sa (sa (sa (sa (kn (su (su (kn (su (su (kn (su (su (kn (su (su (kn kz))))))))))))))))) (kn (kn (kn (kn kz)))) (ba (ba kz)))
  ·refine L.call [false] [] [] 11 hF rfl rfl rfl ent133 rfl rfl rfl rfl rfl (Fimpl_copyInts_gives k g0 a0.UserRealm r1 hr1) rfl ?_
   exact L.nil (Le.lin [(7, 11)] hm rfl (sa (sa (sa (sa (sa (su (su (kn (su (su (kn (su (su (kn (su (su (kn kz))))))))))))))))) (ra (kn (kn (kn kz)))) (ba (ba kz)))
  ·refine L.fieldAddr Try.underlying62 rfl info39 rfl hF rfl rfl rfl rfl rfl ?_
   exact L.nil (Le.lin [] hm rfl (sa (sa (su (su (su (sa (kn (kn (su (su (kn (su (su (kn (su (su (kn kz))))))))))))))))) (ru (kn (kn (kn kz)))) (ba (ba kz)))
  ·refine L.loadPtr shape39 hF rfl rfl rfl rfl rfl rfl ?_
   exact L.nil (Le.lin [] hm rfl (sa (sa (su (su (su (sa (sa (kn (su (su (kn (su (su (kn (su (su (kn kz))))))))))))))))) (ru (kn (kn (kn kz)))) (ba (ba kz)))
  ·refine L.call [false] [] [] 11 hF rfl rfl rfl ent133 rfl rfl rfl rfl rfl (Fimpl_copyInts_gives k g1 a0.ServiceRealm r2 hr2) rfl ?_
   exact L.nil (Le.lin [(8, 11)] hm rfl (sa (sa (sa (sa (sa (sa (sa (sa (su (su (kn (su (su (kn (su (su (kn kz))))))))))))))))) (ra (ra (kn (kn kz)))) (ba (ba kz)))
  ·refine L.fieldAddr Try.underlying62 rfl info60 rfl hF rfl rfl rfl rfl rfl ?_
   exact L.nil (Le.lin [] hm rfl (sa (sa (su (su (su (su (su (su (sa (kn (kn (su (su (kn (su (su (kn kz))))))))))))))))) (ru (ru (kn (kn kz)))) (ba (ba kz)))
  ·refine L.loadPtr shape60 hF rfl rfl rfl rfl rfl rfl ?_
   exact L.nil (Le.lin [] hm rfl (sa (sa (su (su (su (su (su (su (sa (sa (kn (su (su (kn (su (su (kn kz))))))))))))))))) (ru (ru (kn (kn kz)))) (ba (ba kz)))
  ·refine L.append (xs := ([] : List Timpl_Pair)) (ys := a0.Links) (e := eTimpl_Pair) 11 Try.underlying60 info164 rfl rfl hF rfl rfl rfl rfl rfl rfl rfl rfl (fun _ => rfl) (fun _ _ h1 _ => by cases h1) ⟨_, Try.underlying60⟩ (of_decide_eq_true h3) rfl rfl ?_
   exact L.nil (Le.lin [(9, 11)] hm rfl (sa (sa (sa (sa (sa (sa (sa (sa (sa (sa (sa (su (su (kn (su (su (kn kz))))))))))))))))) (ra (ra (ra (kn kz)))) (ba (ba kz)))
  ·refine L.fieldAddr Try.underlying62 rfl info60 rfl hF rfl rfl rfl rfl rfl ?_
   exact L.nil (Le.lin [] hm rfl (sa (sa (su (su (su (su (su (su (su (su (su (sa (kn (kn (su (su (kn kz))))))))))))))))) (ru (ru (ru (kn kz)))) (ba (ba kz)))
  ·refine L.loadPtr shape60 hF rfl rfl rfl rfl rfl rfl ?_
   exact L.nil (Le.lin [] hm rfl (sa (sa (su (su (su (su (su (su (su (su (su (sa (sa (kn (su (su (kn kz))))))))))))))))) (ru (ru (ru (kn kz)))) (ba (ba kz)))
  ·refine L.append (xs := ([] : List Timpl_Pair)) (ys := a0.Proxy) (e := eTimpl_Pair) 11 Try.underlying60 info164 rfl rfl hF rfl rfl rfl rfl rfl rfl rfl rfl (fun _ => rfl) (fun _ _ h1 _ => by cases h1) ⟨_, Try.underlying60⟩ (of_decide_eq_true h4) rfl rfl ?_
   exact L.nil (Le.lin [(10, 11)] hm rfl (sa (sa (sa (sa (sa (sa (sa (sa (sa (sa (sa (sa (sa (sa (su (su (kn kz))))))))))))))))) (ra (ra (ra (ra kz)))) (ba (ba kz)))
  ·refine L.fieldAddr Try.underlying62 rfl info3 rfl hF rfl rfl rfl rfl rfl ?_
   exact L.nil (Le.lin [] hm rfl (sa (sa (su (su (su (su (su (su (su (su (su (su (su (su (sa (kn (kn kz))))))))))))))))) (ru (ru (ru (ru kz)))) (ba (ba kz)))
  ·refine L.loadPtr shape3 hF rfl rfl rfl rfl rfl rfl ?_
   exact L.nil (Le.lin [] hm rfl (sa (sa (su (su (su (su (su (su (su (su (su (su (su (su (sa (sa (kn kz))))))))))))))))) (ru (ru (ru (ru kz)))) (ba (ba kz)))
  ·refine L.buildF built62 hF rfl rfl rfl rfl ?_
   exact L.nil (Le.lin [] hm rfl (sa (sa (sa (sa (sa (sa (sa (sa (sa (sa (sa (sa (sa (sa (sa (sa (sa kz))))))))))))))))) (ra (ra (ra (ra kz)))) (ba (ba kz)))
  ·refine L.storePtr shape62 hF rfl rfl rfl rfl rfl rfl rfl ?_
   exact L.nil (Le.lin [] hm rfl (sa (sa (sa (sa (sa (sa (sa (sa (sa (sa (sa (sa (sa (sa (sa (sa (sa kz))))))))))))))))) (ra (ra (ra (ra kz)))) (ba (ba kz)))
 refine ⟨_, (Le.mk [(0, 6), (1, 7), (2, 8), (3, 9), (4, 10)] hm rfl (Sa1 trivial) (Ra4 trivial) (Ba1 trivial) : Le _ _ (mkSt [(2, one (Cell.ptr 0 0))] [(1, ⟨1, List.map eI r1⟩), (2, ⟨1, List.map eI r2⟩), (3, ⟨2, List.map eTimpl_Pair (([] : List Timpl_Pair) ++ a0.Links)⟩), (4, ⟨2, List.map eTimpl_Pair (([] : List Timpl_Pair) ++ a0.Proxy)⟩)] [(0, [Cell.own 1, Cell.own 2, Cell.own 3, Cell.own 4, cI a0.Skew])] 5)), ?_⟩
 refine WpC.ret ?_
 cases H
 exact Leaves.ret rfl rfl rfl ⟨rfl, rfl⟩
/-! ### Fimpl_NewCache -/
def Fimpl_NewCache (k : Nat)  : Option Timpl_Cache := some (⟨(-1 : Int), []⟩ : Timpl_Cache)
theorem ent95 : MG.Enters Try.prog 95 := ⟨Try.f95, Try.func95, rfl, by decide⟩
set_option maxHeartbeats 8000000 in
set_option maxRecDepth 100000 in
theorem Fimpl_NewCache_gives (k : Nat)  (r : Timpl_Cache) (H : Fimpl_NewCache k  = some r) : Gives Try.prog 95 [] [] [V.agg [cI r.Quiet, Cell.ow 3 (List.map eTimpl_Auth r.Seen)]] [] := by
 refine Gives.intro Try.func95 rfl rfl rfl rfl ?_
 intro F hF hm
 unfold Fimpl_NewCache at H
 obtain ⟨K, hK⟩ : ∃ K, k ≤ K := ⟨k, Nat.le_refl k⟩
 refine WpC.seq (WpC.regionL ?_)
 refine L.alloc 0 info130 rfl hF rfl rfl rfl rfl (L.nil ?_)
 refine WpC.seq (WpC.regionL ?_)
 refine L.buildF built130 hF rfl rfl rfl rfl ?_
 refine L.storePtr shape130 hF rfl rfl rfl rfl rfl rfl rfl (L.nil ?_)
 refine WpC.le (Le.ownB 0 1 1 3 rfl rfl rfl) ?_
 refine WpC.ret ?_
 cases H
 exact Leaves.ret rfl rfl rfl ⟨rfl, rfl⟩
/-! ### Fimpl_NewWorld -/
def Fimpl_NewWorld.l2 : Nat → Int → Timpl_Config → (List Timpl_Wait) → (List Timpl_Cache) → Option (Timpl_World × Bool)
 | 0, _, _, _, _ => none
 | k2 + 1, v41, v42, v43, v44 => cond (decide (v41 < (3 : Int))) ((Fimpl_NewCache k2 ).bind fun r47 => cond (decide ((2 * (v44.length + ([r47] : List Timpl_Cache).length) + 192) * 32 ≤ 281474976710656)) ((Fimpl_NewWorld.l2 k2) (IntKind.i64.wrap (v41 + (1 : Int))) v42 v43 (v44 ++ ([r47] : List Timpl_Cache))) none) (some ((⟨v42, (0 : Int), (101 : Int), [], (⟨[], []⟩ : Timpl_Known), v43, [], v44, [], [], []⟩ : Timpl_World), true))
def Fimpl_NewWorld (k : Nat) (a0 : Timpl_Config) : Option (Timpl_World × Bool) := (Fimpl_ConfigOk k a0).bind fun r2 => cond (!r2) (some ((⟨(⟨[], [], [], [], (0 : Int)⟩ : Timpl_Config), (0 : Int), (0 : Int), [], (⟨[], []⟩ : Timpl_Known), [], [], [], [], [], []⟩ : Timpl_World), false)) ((Fimpl_copyConfig k a0).bind fun r3 => cond (decide (0 ≤ (6 : Int) ∧ (6 : Int) ≤ (6 : Int) ∧ 32 * (6 : Int) ≤ 281474976710656 ∧ (6 : Int) ≤ 9223372036854775807)) (Fimpl_NewWorld.l2 k (0 : Int) r3 (List.replicate (6 : Int).toNat (⟨false, (0 : Int), (0 : Int), (0 : Int)⟩ : Timpl_Wait)) []) none)
theorem ent45 : MG.Enters Try.prog 45 := ⟨Try.f45, Try.func45, rfl, by decide⟩
set_option maxHeartbeats 8000000 in
set_option maxRecDepth 100000 in
theorem Fimpl_NewWorld_gives (k : Nat) (g0 : Bool) (g1 : Bool) (g2 : Bool) (g3 : Bool) (a0 : Timpl_Config) (r : Timpl_World × Bool) (H : Fimpl_NewWorld k a0 = some r) : Gives Try.prog 45 [V.agg [Cell.sl g0 (List.map eI a0.UserRealm), Cell.sl g1 (List.map eI a0.ServiceRealm), Cell.sl g2 (List.map eTimpl_Pair a0.Links), Cell.sl g3 (List.map eTimpl_Pair a0.Proxy), cI a0.Skew]] [] [V.agg [Cell.ow 1 (List.map eI r.1.Config.UserRealm), Cell.ow 1 (List.map eI r.1.Config.ServiceRealm), Cell.ow 2 (List.map eTimpl_Pair r.1.Config.Links), Cell.ow 2 (List.map eTimpl_Pair r.1.Config.Proxy), cI r.1.Config.Skew, cI r.1.Now, cI r.1.Fresh, Cell.ow 1 (List.map eS r.1.Net), Cell.ow 1 (List.map eS r.1.Known.Terms), Cell.ow 1 (List.map eI r.1.Known.Keys), Cell.ow 4 (List.map eTimpl_Wait r.1.Waits), Cell.ow 8 (List.map eTimpl_Cred r.1.Creds), Cell.ow 2 (List.map eTimpl_Cache r.1.Caches), Cell.ow 11 (List.map eTimpl_Event r.1.Log), Cell.ow 15 (List.map eTimpl_Accept r.1.Accepts), Cell.ow 1 (List.map eI r.1.Leaked)], V.one (cL r.2)] [] := by
 refine Gives.intro Try.func45 rfl rfl rfl rfl ?_
 intro F hF hm
 unfold Fimpl_NewWorld at H
 obtain ⟨K, hK⟩ : ∃ K, k ≤ K := ⟨k, Nat.le_refl k⟩
 refine WpC.seq (WpC.regionL ?_)
 refine L.box 5 hF rfl rfl rfl rfl ?_
 refine L.alloc 6 info72 rfl hF rfl rfl rfl rfl ?_
 refine L.assign hF rfl rfl rfl (L.nil ?_)
 refine WpC.seq (WpC.seq (WpC.regionL ?_))
 refine L.loadPtr shape62 hF rfl rfl rfl rfl rfl rfl ?_
 obtain ⟨r2, hr2, H⟩ := bindS H
 refine L.call [false] [] [] 7 hF rfl rfl rfl ent93 rfl rfl rfl rfl rfl (Fimpl_ConfigOk_gives k g0 g1 g2 g3 a0 r2 hr2) rfl ?_
 refine L.not hF rfl rfl rfl (L.nil ?_)
 refine WpC.cond rfl (fun hc => ?_) (fun hc => ?_)
 ·replace H := condT hc H
  refine WpC.seq (WpC.regionL ?_)
  refine L.buildF built72 hF rfl rfl rfl rfl ?_
  refine L.storePtr shape72 hF rfl rfl rfl rfl rfl rfl rfl ?_
  refine L.assign hF rfl rfl rfl (L.nil ?_)
  refine WpC.le (Le.ownB 6 0 8 1 rfl rfl rfl) ?_
  refine WpC.le (Le.ownB 6 1 9 1 rfl rfl rfl) ?_
  refine WpC.le (Le.ownB 6 2 10 2 rfl rfl rfl) ?_
  refine WpC.le (Le.ownB 6 3 11 2 rfl rfl rfl) ?_
  refine WpC.le (Le.ownB 6 7 12 1 rfl rfl rfl) ?_
  refine WpC.le (Le.ownB 6 8 13 1 rfl rfl rfl) ?_
  refine WpC.le (Le.ownB 6 9 14 1 rfl rfl rfl) ?_
  refine WpC.le (Le.ownB 6 10 15 4 rfl rfl rfl) ?_
  refine WpC.le (Le.ownB 6 11 16 8 rfl rfl rfl) ?_
  refine WpC.le (Le.ownB 6 12 17 2 rfl rfl rfl) ?_
  refine WpC.le (Le.ownB 6 13 18 11 rfl rfl rfl) ?_
  refine WpC.le (Le.ownB 6 14 19 15 rfl rfl rfl) ?_
  refine WpC.le (Le.ownB 6 15 20 1 rfl rfl rfl) ?_
  refine WpC.ret ?_
  cases H
  exact Leaves.ret rfl rfl rfl ⟨rfl, rfl⟩
 ·replace H := condF hc H
  refine WpC.skip (WpC.seq ?_)
  obtain ⟨r3, hr3, H⟩ := bindS H
  obtain ⟨h4, H⟩ := condG H
  refine A.lin (fun β => mkStL [(1, ai (one (Cell.ptr 5 0))), (2, ai (one (Cell.ptr 6 0))), (4, al (β 4) (one (Cell.ptr 14 0))), (9, al (β 0) (agg (bTimpl_Config g0 g1 g2 g3 a0))), (10, al (β 1) (agg [Cell.own 8, Cell.own 9, Cell.own 10, Cell.own 11, cI r3.Skew])), (11, al (β 2) (one (Cell.own 13))), (12, al (β 3) (agg [Cell.own 8, Cell.own 9, Cell.own 10, Cell.own 11, cI r3.Skew, cI (0 : Int), cI (101 : Int), Cell.nil, Cell.nil, Cell.nil, Cell.own 13, Cell.nil, Cell.nil, Cell.nil, Cell.nil, Cell.nil]))] [(8, al (β 1) (⟨1, List.map eI r3.UserRealm⟩)), (9, al (β 1) (⟨1, List.map eI r3.ServiceRealm⟩)), (10, al (β 1) (⟨2, List.map eTimpl_Pair r3.Links⟩)), (11, al (β 1) (⟨2, List.map eTimpl_Pair r3.Proxy⟩)), (13, al (β 2) (⟨4, List.map eTimpl_Wait (List.replicate (6 : Int).toNat (⟨false, (0 : Int), (0 : Int), (0 : Int)⟩ : Timpl_Wait))⟩))] [(5, ai ((bTimpl_Config g0 g1 g2 g3 a0))), (6, ai ([Cell.nil, Cell.nil, Cell.nil, Cell.nil, cI (0 : Int), cI (0 : Int), cI (0 : Int), Cell.nil, Cell.nil, Cell.nil, Cell.nil, Cell.nil, Cell.nil, Cell.nil, Cell.nil, Cell.nil])), (14, [(β 5, some ([Cell.own 8, Cell.own 9, Cell.own 10, Cell.own 11, cI r3.Skew, cI (0 : Int), cI (101 : Int), Cell.nil, Cell.nil, Cell.nil, Cell.own 13, Cell.nil, Cell.nil, Cell.nil, Cell.nil, Cell.nil])), (β 4, some ([Cell.nil, Cell.nil, Cell.nil, Cell.nil, cI (0 : Int), cI (0 : Int), cI (0 : Int), Cell.nil, Cell.nil, Cell.nil, Cell.nil, Cell.nil, Cell.nil, Cell.nil, Cell.nil, Cell.nil]))])] 15) [([], [1, 3, 5]), ([0], [3, 5]), ([], [3, 5]), ([0, 1, 2], [5]), ([], [5]), ([0, 1, 2, 3, 4], [])] 6 mixed rfl (by kernel_rfl) ?_ ?_ ?_
  ·exact Le.lin [] hm rfl (sa (sa (kn (kn (kn (kn (kn kz))))))) (kn (kn (kn (kn (kn kz))))) (ba (ba (kn kz)))
  ·refine ⟨⟨_, rfl, fun β => ?_⟩, ⟨_, rfl, fun β => ?_⟩, ⟨_, rfl, fun β => ?_⟩, ⟨_, rfl, fun β => ?_⟩, ⟨_, rfl, fun β => ?_⟩, ⟨_, rfl, fun β => ?_⟩, trivial⟩
   ·refine L.loadPtr shape62 hF rfl rfl rfl rfl rfl rfl ?_
    exact L.nil (Le.lin [] hm rfl (sa (sa (su (sa (kn (su (kn kz))))))) (kn (kn (kn (kn (ru kz))))) (ba (ba (bu kz))))
   ·refine L.call [false] [] [] 15 hF rfl rfl rfl ent94 rfl rfl rfl rfl rfl (Fimpl_copyConfig_gives k g0 g1 g2 g3 a0 r3 hr3) rfl ?_
    exact L.nil (Le.lin [(8, 15), (9, 16), (10, 17), (11, 18), (12, 19)] hm rfl (sa (sa (su (sa (sa (su (kn kz))))))) (ra (ra (ra (ra (ru kz))))) (ba (ba (bu kz))))
   ·refine L.makeSlice (e := eTimpl_Wait) 15 (⟨false, (0 : Int), (0 : Int), (0 : Int)⟩ : Timpl_Wait) Try.underlying66 info172 rfl rfl rfl hF rfl rfl rfl rfl (of_decide_eq_true h4) rfl rfl ?_
    exact L.nil (Le.lin [(13, 15)] hm rfl (sa (sa (su (su (su (sa (kn kz))))))) (ru (ru (ru (ru (ra kz))))) (ba (ba (bu kz))))
   ·refine L.buildF built72 hF rfl rfl rfl rfl ?_
    exact L.nil (Le.lin [] hm rfl (sa (sa (su (sa (sa (sa (sa kz))))))) (ra (ra (ra (ra (ra kz))))) (ba (ba (bu kz))))
   ·refine L.alloc 15 info72 rfl hF rfl rfl rfl rfl ?_
    exact L.nil (Le.lin [(14, 15)] hm rfl (sa (sa (sa (su (su (su (su kz))))))) (ru (ru (ru (ru (ru kz))))) (ba (ba (ba kz))))
   ·refine L.storePtr shape72 hF rfl rfl rfl rfl rfl rfl rfl ?_
    exact L.nil (Le.lin [] hm rfl (sa (sa (sa (sa (sa (sa (sa kz))))))) (ra (ra (ra (ra (ra kz))))) (ba (ba (ba kz))))
  refine ⟨_, (Le.mk [(0, 6), (1, 14), (2, 8), (3, 9), (4, 10), (5, 11), (6, 13)] hm rfl (Sa2 trivial) (Ra4 (Ra1 trivial)) (Ba2 trivial) : Le _ _ (mkSt [(2, one (Cell.ptr 0 0)), (4, one (Cell.ptr 1 0))] [(2, ⟨1, List.map eI r3.UserRealm⟩), (3, ⟨1, List.map eI r3.ServiceRealm⟩), (4, ⟨2, List.map eTimpl_Pair r3.Links⟩), (5, ⟨2, List.map eTimpl_Pair r3.Proxy⟩), (6, ⟨4, List.map eTimpl_Wait (List.replicate (6 : Int).toNat (⟨false, (0 : Int), (0 : Int), (0 : Int)⟩ : Timpl_Wait))⟩)] [(0, [Cell.nil, Cell.nil, Cell.nil, Cell.nil, cI (0 : Int), cI (0 : Int), cI (0 : Int), Cell.nil, Cell.nil, Cell.nil, Cell.nil, Cell.nil, Cell.nil, Cell.nil, Cell.nil, Cell.nil]), (1, [Cell.own 2, Cell.own 3, Cell.own 4, Cell.own 5, cI r3.Skew, cI (0 : Int), cI (101 : Int), Cell.nil, Cell.nil, Cell.nil, Cell.own 6, Cell.nil, Cell.nil, Cell.nil, Cell.nil, Cell.nil])] 7)), ?_⟩
  refine WpC.seq (WpC.seq (WpC.regionL ?_))
  refine L.move hF rfl rfl rfl (L.nil ?_)
  refine WpC.block ?_
  refine WpC.loopL (P := Try.prog) (fun n σ => ∃ v41 : Int, ∃ v42 : Timpl_Config, ∃ v43 : List Timpl_Wait, ∃ v44 : List Timpl_Cache, n ≤ K ∧ Fimpl_NewWorld.l2 n v41 v42 v43 v44 = some r ∧ σ = mkSt [(2, one (Cell.ptr 0 0)), (4, one (Cell.ptr 1 0)), (13, one (cI v41))] [(2, ⟨1, List.map eI v42.UserRealm⟩), (3, ⟨1, List.map eI v42.ServiceRealm⟩), (4, ⟨2, List.map eTimpl_Pair v42.Links⟩), (5, ⟨2, List.map eTimpl_Pair v42.Proxy⟩), (6, ⟨4, List.map eTimpl_Wait v43⟩), (7, ⟨2, List.map eTimpl_Cache v44⟩)] [(0, [Cell.nil, Cell.nil, Cell.nil, Cell.nil, cI (0 : Int), cI (0 : Int), cI (0 : Int), Cell.nil, Cell.nil, Cell.nil, Cell.nil, Cell.nil, Cell.nil, Cell.nil, Cell.nil, Cell.nil]), (1, [Cell.own 2, Cell.own 3, Cell.own 4, Cell.own 5, cI v42.Skew, cI (0 : Int), cI (101 : Int), Cell.nil, Cell.nil, Cell.nil, Cell.own 6, Cell.nil, Cell.own 7, Cell.nil, Cell.nil, Cell.nil])] 8) k ⟨_, ⟨(0 : Int), r3, (List.replicate (6 : Int).toNat (⟨false, (0 : Int), (0 : Int), (0 : Int)⟩ : Timpl_Wait)), [], by omega, H, rfl⟩, (Le.ownB 1 12 7 2 rfl rfl rfl).trans (Le.mk [(0, 0), (1, 1), (2, 2), (3, 3), (4, 4), (5, 5), (6, 6), (7, 7)] hm rfl (Sa2 (Sa1 trivial)) (Ra4 (Ra2 trivial)) (Ba2 trivial))⟩ ?_
  clear H
  rintro k2 _ ⟨v41, v42, v43, v44, hk2, H, rfl⟩
  cases k2 with
  | zero => cases H
  | succ k2 =>
   rw [Fimpl_NewWorld.l2] at H
   refine WpC.seq (WpC.regionL ?_)
   refine L.bin hF rfl rfl rfl rfl rfl rfl (L.nil ?_)
   refine WpC.seq ?_
   refine WpC.cond rfl (fun hc => ?_) (fun hc => ?_)
   ·replace H := condT hc H
    refine WpC.skip (WpC.seq (WpC.block ?_))
    obtain ⟨r47, hr47, H⟩ := bindS H
    obtain ⟨h48, H⟩ := condG H
    refine A.lin (fun β => mkStL [(2, ai (one (Cell.ptr 0 0))), (4, ai (one (Cell.ptr 1 0))), (13, ai (one (cI v41))), (15, al (β 0) (one (Cell.ptr 1 12))), (16, al (β 1) (one (Cell.own 7))), (17, al (β 2) (agg [cI r47.Quiet, Cell.own 9])), (18, al (β 3) (one (Cell.own 10))), (19, al (β 4) (one (Cell.own 11))), (20, al (β 5) (one (Cell.ptr 1 12)))] [(2, ai (⟨1, List.map eI v42.UserRealm⟩)), (3, ai (⟨1, List.map eI v42.ServiceRealm⟩)), (4, ai (⟨2, List.map eTimpl_Pair v42.Links⟩)), (5, ai (⟨2, List.map eTimpl_Pair v42.Proxy⟩)), (6, ai (⟨4, List.map eTimpl_Wait v43⟩)), (7, [(β 4, none), (true, some (⟨2, List.map eTimpl_Cache v44⟩))]), (9, [(β 3, none), (β 2, some (⟨3, List.map eTimpl_Auth r47.Seen⟩))]), (10, [(β 4, none), (β 3, some (⟨2, List.map eTimpl_Cache ([r47] : List Timpl_Cache)⟩))]), (11, al (β 4) (⟨2, List.map eTimpl_Cache (v44 ++ ([r47] : List Timpl_Cache))⟩))] [(0, ai ([Cell.nil, Cell.nil, Cell.nil, Cell.nil, cI (0 : Int), cI (0 : Int), cI (0 : Int), Cell.nil, Cell.nil, Cell.nil, Cell.nil, Cell.nil, Cell.nil, Cell.nil, Cell.nil, Cell.nil])), (1, [(β 6, some ([Cell.own 2, Cell.own 3, Cell.own 4, Cell.own 5, cI v42.Skew, cI (0 : Int), cI (101 : Int), Cell.nil, Cell.nil, Cell.nil, Cell.own 6, Cell.nil, Cell.own 11, Cell.nil, Cell.nil, Cell.nil])), (true, some ([Cell.own 2, Cell.own 3, Cell.own 4, Cell.own 5, cI v42.Skew, cI (0 : Int), cI (101 : Int), Cell.nil, Cell.nil, Cell.nil, Cell.own 6, Cell.nil, Cell.own 7, Cell.nil, Cell.nil, Cell.nil]))])] 12) [([], [1, 4, 5, 6]), ([0], [4, 5, 6]), ([], [3, 4, 5, 6]), ([2], [4, 5, 6]), ([0, 1, 2, 3], [5, 6]), ([0, 1, 2, 3, 4], [6]), ([0, 1, 2, 3, 4, 5], [])] 7 mixed rfl (by kernel_rfl) ?_ ?_ ?_
    ·exact Le.lin [] hm rfl (sa (sa (sa (kn (kn (kn (kn (kn (kn kz))))))))) (ra (ra (ra (ra (ra (ra (kn (kn (kn kz))))))))) (ba (ba kz))
    ·refine ⟨⟨_, rfl, fun β => ?_⟩, ⟨_, rfl, fun β => ?_⟩, ⟨_, rfl, fun β => ?_⟩, ⟨_, rfl, fun β => ?_⟩, ⟨_, rfl, fun β => ?_⟩, ⟨_, rfl, fun β => ?_⟩, ⟨_, rfl, fun β => ?_⟩, trivial⟩
     ·refine L.fieldAddr Try.underlying72 rfl info68 rfl hF rfl rfl rfl rfl rfl ?_
      exact L.nil (Le.lin [] hm rfl (sa (sa (sa (sa (kn (su (su (kn (kn kz))))))))) (ra (ra (ra (ra (ra (ra (ru (ru (kn kz))))))))) (ba (ba kz)))
     ·refine L.loadPtr shape68 hF rfl rfl rfl rfl rfl rfl ?_
      exact L.nil (Le.lin [] hm rfl (sa (sa (sa (sa (sa (su (su (kn (kn kz))))))))) (ra (ra (ra (ra (ra (ra (ru (ru (kn kz))))))))) (ba (ba kz)))
     ·refine L.call [] [] [] 12 hF rfl rfl rfl ent95 rfl rfl rfl rfl rfl (Fimpl_NewCache_gives k2   r47 hr47) rfl ?_
      exact L.nil (Le.lin [(8, 12), (9, 13)] hm rfl (sa (sa (sa (su (su (sa (kn (kn (kn kz))))))))) (ra (ra (ra (ra (ra (ra (ra (kn (kn kz))))))))) (ba (ba kz)))
     ·refine L.buildSliceN (e := eTimpl_Cache) 3 12 ([r47] : List Timpl_Cache) Try.underlying68 info130 rfl rfl rfl hF rfl rfl rfl rfl rfl rfl rfl rfl ?_
      exact L.nil (Le.lin [(10, 12)] hm rfl (sa (sa (sa (su (su (sa (sa (kn (kn kz))))))))) (ra (ra (ra (ra (ra (ra (kn (ra (kn kz))))))))) (ba (ba kz)))
     ·refine L.appendN (xs := v44) (ys := ([r47] : List Timpl_Cache)) (e := eTimpl_Cache) 12 Try.underlying68 info130 rfl rfl hF rfl rfl rfl rfl rfl rfl rfl rfl rfl (fun _ _ h1 h2 => by cases h1; cases h2; rfl) Try.underlying68 (of_decide_eq_true h48) rfl rfl ?_
      exact L.nil (Le.lin [(11, 12)] hm rfl (sa (sa (sa (sa (sa (sa (sa (sa (kn kz))))))))) (ra (ra (ra (ra (ra (kn (kn (kn (ra kz))))))))) (ba (ba kz)))
     ·refine L.fieldAddr Try.underlying72 rfl info68 rfl hF rfl rfl rfl rfl rfl ?_
      exact L.nil (Le.lin [] hm rfl (sa (sa (sa (sa (sa (sa (sa (sa (sa kz))))))))) (ra (ra (ra (ra (ra (kn (kn (kn (ra kz))))))))) (ba (ba kz)))
     ·refine L.storePtr shape68 hF rfl rfl rfl rfl rfl rfl rfl ?_
      exact L.nil (Le.lin [] hm rfl (sa (sa (sa (sa (sa (sa (sa (sa (sa kz))))))))) (ra (ra (ra (ra (ra (kn (kn (kn (ra kz))))))))) (ba (ba kz)))
    refine ⟨_, (Le.mk [(0, 0), (1, 1), (2, 2), (3, 3), (4, 4), (5, 5), (6, 6), (7, 11)] hm rfl (Sa2 (Sa1 trivial)) (Ra4 (Ra2 trivial)) (Ba2 trivial) : Le _ _ (mkSt [(2, one (Cell.ptr 0 0)), (4, one (Cell.ptr 1 0)), (13, one (cI v41))] [(2, ⟨1, List.map eI v42.UserRealm⟩), (3, ⟨1, List.map eI v42.ServiceRealm⟩), (4, ⟨2, List.map eTimpl_Pair v42.Links⟩), (5, ⟨2, List.map eTimpl_Pair v42.Proxy⟩), (6, ⟨4, List.map eTimpl_Wait v43⟩), (7, ⟨2, List.map eTimpl_Cache (v44 ++ ([r47] : List Timpl_Cache))⟩)] [(0, [Cell.nil, Cell.nil, Cell.nil, Cell.nil, cI (0 : Int), cI (0 : Int), cI (0 : Int), Cell.nil, Cell.nil, Cell.nil, Cell.nil, Cell.nil, Cell.nil, Cell.nil, Cell.nil, Cell.nil]), (1, [Cell.own 2, Cell.own 3, Cell.own 4, Cell.own 5, cI v42.Skew, cI (0 : Int), cI (101 : Int), Cell.nil, Cell.nil, Cell.nil, Cell.own 6, Cell.nil, Cell.own 7, Cell.nil, Cell.nil, Cell.nil])] 8)), ?_⟩
    refine WpC.regionL ?_
    refine L.bin hF rfl rfl rfl rfl rfl rfl ?_
    refine L.move hF rfl rfl rfl (L.nil ?_)
    exact ⟨k2, _, by omega, ⟨(IntKind.i64.wrap (v41 + (1 : Int))), v42, v43, (v44 ++ ([r47] : List Timpl_Cache)), by omega, H, rfl⟩, Le.mk [(0, 0), (1, 1), (2, 2), (3, 3), (4, 4), (5, 5), (6, 6), (7, 7)] hm rfl (Sa2 (Sa1 trivial)) (Ra4 (Ra2 trivial)) (Ba2 trivial)⟩
   ·replace H := condF hc H
    refine WpC.exit (WpC.seq (WpC.regionL ?_))
    refine L.loadPtr shape72 hF rfl rfl rfl rfl rfl rfl ?_
    refine L.storePtr shape72 hF rfl rfl rfl rfl rfl rfl rfl ?_
    refine L.assign hF rfl rfl rfl (L.nil ?_)
    refine WpC.le (Le.ownB 0 7 8 1 rfl rfl rfl) ?_
    refine WpC.le (Le.ownB 0 8 9 1 rfl rfl rfl) ?_
    refine WpC.le (Le.ownB 0 9 10 1 rfl rfl rfl) ?_
    refine WpC.le (Le.ownB 0 11 11 8 rfl rfl rfl) ?_
    refine WpC.le (Le.ownB 0 13 12 11 rfl rfl rfl) ?_
    refine WpC.le (Le.ownB 0 14 13 15 rfl rfl rfl) ?_
    refine WpC.le (Le.ownB 0 15 14 1 rfl rfl rfl) ?_
    refine WpC.ret ?_
    cases H
    exact Leaves.ret rfl rfl rfl ⟨rfl, rfl⟩
/-! ### Flaws_eqIntS -/
def Flaws_eqIntS.l2 : Nat → (List Int) → (List Int) → Int → Option Bool
 | 0, _, _, _ => none
 | k2 + 1, v34, v35, v36 => cond (decide (v36 < (v34.length : Int))) ((at? v34 v36).bind fun b39 => (at? v35 v36).bind fun b40 => cond (b39 != b40) (some false) ((Flaws_eqIntS.l2 k2) v34 v35 (IntKind.i64.wrap (v36 + (1 : Int))))) (some true)
def Flaws_eqIntS (k : Nat) (a0 : List Int) (a1 : List Int) : Option Bool := cond ((a0.length : Int) != (a1.length : Int)) (some false) (Flaws_eqIntS.l2 k a0 a1 (0 : Int))
theorem ent103 : MG.Enters Try.prog 103 := ⟨Try.f103, Try.func103, rfl, by decide⟩
set_option maxHeartbeats 8000000 in
set_option maxRecDepth 100000 in
theorem Flaws_eqIntS_gives (k : Nat) (g0 : Bool) (g1 : Bool) (a0 : List Int) (a1 : List Int) (r : Bool) (H : Flaws_eqIntS k a0 a1 = some r) : Gives Try.prog 103 [V.one (Cell.sl g0 (List.map eI a0)), V.one (Cell.sl g1 (List.map eI a1))] [] [V.one (cL r)] [] := by
 refine Gives.intro Try.func103 rfl rfl rfl rfl ?_
 intro F hF hm
 unfold Flaws_eqIntS at H
 obtain ⟨K, hK⟩ : ∃ K, k ≤ K := ⟨k, Nat.le_refl k⟩
 refine WpC.seq (WpC.regionL ?_)
 refine L.assign hF rfl rfl rfl (L.nil ?_)
 refine WpC.seq (WpC.seq (WpC.regionL ?_))
 refine L.move hF rfl rfl rfl ?_
 refine L.lenR (xs := a0) (e := eI) Try.underlying39 hF rfl rfl rfl rfl ?_
 refine L.move hF rfl rfl rfl ?_
 refine L.lenR (xs := a1) (e := eI) Try.underlying39 hF rfl rfl rfl rfl ?_
 refine L.bin hF rfl rfl rfl rfl rfl rfl (L.nil ?_)
 refine WpC.cond rfl (fun hc => ?_) (fun hc => ?_)
 ·replace H := condT hc H
  refine WpC.seq (WpC.regionL ?_)
  refine L.assign hF rfl rfl rfl (L.nil ?_)
  refine WpC.ret ?_
  cases H
  exact Leaves.ret rfl rfl rfl ⟨rfl, rfl⟩
 ·replace H := condF hc H
  refine WpC.skip (WpC.seq (WpC.seq (WpC.regionL ?_)))
  refine L.assign hF rfl rfl rfl (L.nil ?_)
  refine WpC.block ?_
  refine WpC.loopL (P := Try.prog) (fun n σ => ∃ v34 : List Int, ∃ v35 : List Int, ∃ v36 : Int, n ≤ K ∧ Flaws_eqIntS.l2 n v34 v35 v36 = some r ∧ σ = mkSt [(0, one (Cell.sl g0 (List.map eI v34))), (1, one (Cell.sl g1 (List.map eI v35))), (5, one (cI v36))] [] [] 0) k ⟨_, ⟨a0, a1, (0 : Int), by omega, H, rfl⟩, Le.mk [] hm rfl (Sa2 (Sa1 trivial)) trivial trivial⟩ ?_
  clear H
  rintro k2 _ ⟨v34, v35, v36, hk2, H, rfl⟩
  cases k2 with
  | zero => cases H
  | succ k2 =>
   rw [Flaws_eqIntS.l2] at H
   refine WpC.seq (WpC.seq (WpC.regionL ?_))
   refine L.move hF rfl rfl rfl ?_
   refine L.move hF rfl rfl rfl ?_
   refine L.lenR (xs := v34) (e := eI) Try.underlying39 hF rfl rfl rfl rfl ?_
   refine L.bin hF rfl rfl rfl rfl rfl rfl (L.nil ?_)
   refine WpC.cond rfl (fun hc => ?_) (fun hc => ?_)
   ·replace H := condT hc H
    refine WpC.skip (WpC.seq (WpC.block (WpC.seq ?_)))
    refine S.begin mixed (by kernel_rfl) ?_
    refine S.st 0 rfl rfl ((Ca.move).quiet) (fun Q0 k0 => L.move hF rfl rfl rfl (L.nil k0)) ?_
    refine S.st 1 rfl rfl ((Ca.move).quiet) (fun Q0 k0 => L.move hF rfl rfl rfl (L.nil k0)) ?_
    obtain ⟨b39, hb39, H⟩ := bindS H
    refine S.st 2 rfl rfl ((Ca.indexAddr).quiet) (fun Q0 k0 => L.idxR (xs := v34) (e := eI) Try.underlying39 info3 hF rfl rfl rfl rfl rfl hb39 rfl rfl (L.nil k0)) ?_
    refine S.st 3 rfl rfl (Qu.load) (fun Q0 k0 => L.loadPe shape3 hF rfl rfl rfl rfl rfl (L.nil k0)) ?_
    refine S.st 4 rfl rfl ((Ca.move).quiet) (fun Q0 k0 => L.move hF rfl rfl rfl (L.nil k0)) ?_
    refine S.st 5 rfl rfl ((Ca.move).quiet) (fun Q0 k0 => L.move hF rfl rfl rfl (L.nil k0)) ?_
    obtain ⟨b40, hb40, H⟩ := bindS H
    refine S.st 6 rfl rfl ((Ca.indexAddr).quiet) (fun Q0 k0 => L.idxR (xs := v35) (e := eI) Try.underlying39 info3 hF rfl rfl rfl rfl rfl hb40 rfl rfl (L.nil k0)) ?_
    refine S.st 7 rfl rfl (Qu.load) (fun Q0 k0 => L.loadPe shape3 hF rfl rfl rfl rfl rfl (L.nil k0)) ?_
    refine S.st 8 rfl rfl ((Ca.bin rfl rfl (calm_int _ _ _ _ _ _ _ _)).quiet) (fun Q0 k0 => L.bin hF rfl rfl rfl rfl rfl rfl (L.nil k0)) ?_
    refine S.nil ?_
    refine WpC.cond rfl (fun hc => ?_) (fun hc => ?_)
    ·replace H := condT hc H
     refine WpC.seq (WpC.regionL ?_)
     refine L.assign hF rfl rfl rfl (L.nil ?_)
     refine WpC.ret ?_
     cases H
     exact Leaves.ret rfl rfl rfl ⟨rfl, rfl⟩
    ·replace H := condF hc H
     refine WpC.skip (WpC.regionL ?_)
     refine L.move hF rfl rfl rfl ?_
     refine L.bin hF rfl rfl rfl rfl rfl rfl ?_
     refine L.assign hF rfl rfl rfl (L.nil ?_)
     exact ⟨k2, _, by omega, ⟨v34, v35, (IntKind.i64.wrap (v36 + (1 : Int))), by omega, H, rfl⟩, Le.mk [] hm rfl (Sa2 (Sa1 trivial)) trivial trivial⟩
   ·replace H := condF hc H
    refine WpC.exit (WpC.seq (WpC.regionL ?_))
    refine L.assign hF rfl rfl rfl (L.nil ?_)
    refine WpC.ret ?_
    cases H
    exact Leaves.ret rfl rfl rfl ⟨rfl, rfl⟩
/-! ### Flaws_eqPair -/
def Flaws_eqPair (k : Nat) (a0 : Timpl_Pair) (a1 : Timpl_Pair) : Option Bool := cond (a0.A != a1.A) (some false) (cond (a0.B != a1.B) (some false) (some true))
theorem ent148 : MG.Enters Try.prog 148 := ⟨Try.f148, Try.func148, rfl, by decide⟩
set_option maxHeartbeats 8000000 in
set_option maxRecDepth 100000 in
theorem Flaws_eqPair_gives (k : Nat) (a0 : Timpl_Pair) (a1 : Timpl_Pair) (r : Bool) (H : Flaws_eqPair k a0 a1 = some r) : Gives Try.prog 148 [V.agg [cI a0.A, cI a0.B], V.agg [cI a1.A, cI a1.B]] [] [V.one (cL r)] [] := by
 refine Gives.intro Try.func148 rfl rfl rfl rfl ?_
 intro F hF hm
 unfold Flaws_eqPair at H
 obtain ⟨K, hK⟩ : ∃ K, k ≤ K := ⟨k, Nat.le_refl k⟩
 refine WpC.seq (WpC.regionL ?_)
 refine L.box 4 hF rfl rfl rfl rfl ?_
 refine L.box 5 hF rfl rfl rfl rfl ?_
 refine L.assign hF rfl rfl rfl (L.nil ?_)
 refine WpC.seq (WpC.seq (WpC.regionL ?_))
 refine L.fieldAddr Try.underlying164 rfl info3 rfl hF rfl rfl rfl rfl rfl ?_
 refine L.loadPtr shape3 hF rfl rfl rfl rfl rfl rfl ?_
 refine L.fieldAddr Try.underlying164 rfl info3 rfl hF rfl rfl rfl rfl rfl ?_
 refine L.loadPtr shape3 hF rfl rfl rfl rfl rfl rfl ?_
 refine L.bin hF rfl rfl rfl rfl rfl rfl (L.nil ?_)
 refine WpC.cond rfl (fun hc => ?_) (fun hc => ?_)
 ·replace H := condT hc H
  refine WpC.seq (WpC.regionL ?_)
  refine L.assign hF rfl rfl rfl (L.nil ?_)
  refine WpC.ret ?_
  cases H
  exact Leaves.ret rfl rfl rfl ⟨rfl, rfl⟩
 ·replace H := condF hc H
  refine WpC.skip (WpC.seq (WpC.seq (WpC.regionL ?_)))
  refine L.fieldAddr Try.underlying164 rfl info3 rfl hF rfl rfl rfl rfl rfl ?_
  refine L.loadPtr shape3 hF rfl rfl rfl rfl rfl rfl ?_
  refine L.fieldAddr Try.underlying164 rfl info3 rfl hF rfl rfl rfl rfl rfl ?_
  refine L.loadPtr shape3 hF rfl rfl rfl rfl rfl rfl ?_
  refine L.bin hF rfl rfl rfl rfl rfl rfl (L.nil ?_)
  refine WpC.cond rfl (fun hc => ?_) (fun hc => ?_)
  ·replace H := condT hc H
   refine WpC.seq (WpC.regionL ?_)
   refine L.assign hF rfl rfl rfl (L.nil ?_)
   refine WpC.ret ?_
   cases H
   exact Leaves.ret rfl rfl rfl ⟨rfl, rfl⟩
  ·replace H := condF hc H
   refine WpC.skip (WpC.seq (WpC.regionL ?_))
   refine L.assign hF rfl rfl rfl (L.nil ?_)
   refine WpC.ret ?_
   cases H
   exact Leaves.ret rfl rfl rfl ⟨rfl, rfl⟩
/-! ### Flaws_eqPairS -/
def Flaws_eqPairS.l2 : Nat → (List Timpl_Pair) → (List Timpl_Pair) → Int → Option Bool
 | 0, _, _, _ => none
 | k2 + 1, v44, v45, v46 => cond (decide (v46 < (v44.length : Int))) ((at? v44 v46).bind fun b50 => (at? v45 v46).bind fun b51 => (Flaws_eqPair k2 b50 b51).bind fun r52 => cond (!r52) (some false) ((Flaws_eqPairS.l2 k2) v44 v45 (IntKind.i64.wrap (v46 + (1 : Int))))) (some true)
def Flaws_eqPairS (k : Nat) (a0 : List Timpl_Pair) (a1 : List Timpl_Pair) : Option Bool := cond ((a0.length : Int) != (a1.length : Int)) (some false) (Flaws_eqPairS.l2 k a0 a1 (0 : Int))
theorem ent104 : MG.Enters Try.prog 104 := ⟨Try.f104, Try.func104, rfl, by decide⟩
set_option maxHeartbeats 8000000 in
set_option maxRecDepth 100000 in
theorem Flaws_eqPairS_gives (k : Nat) (g0 : Bool) (g1 : Bool) (a0 : List Timpl_Pair) (a1 : List Timpl_Pair) (r : Bool) (H : Flaws_eqPairS k a0 a1 = some r) : Gives Try.prog 104 [V.one (Cell.sl g0 (List.map eTimpl_Pair a0)), V.one (Cell.sl g1 (List.map eTimpl_Pair a1))] [] [V.one (cL r)] [] := by
 refine Gives.intro Try.func104 rfl rfl rfl rfl ?_
 intro F hF hm
 unfold Flaws_eqPairS at H
 obtain ⟨K, hK⟩ : ∃ K, k ≤ K := ⟨k, Nat.le_refl k⟩
 refine WpC.seq (WpC.regionL ?_)
 refine L.assign hF rfl rfl rfl (L.nil ?_)
 refine WpC.seq (WpC.seq (WpC.regionL ?_))
 refine L.move hF rfl rfl rfl ?_
 refine L.lenR (xs := a0) (e := eTimpl_Pair) Try.underlying60 hF rfl rfl rfl rfl ?_
 refine L.move hF rfl rfl rfl ?_
 refine L.lenR (xs := a1) (e := eTimpl_Pair) Try.underlying60 hF rfl rfl rfl rfl ?_
 refine L.bin hF rfl rfl rfl rfl rfl rfl (L.nil ?_)
 refine WpC.cond rfl (fun hc => ?_) (fun hc => ?_)
 ·replace H := condT hc H
  refine WpC.seq (WpC.regionL ?_)
  refine L.assign hF rfl rfl rfl (L.nil ?_)
  refine WpC.ret ?_
  cases H
  exact Leaves.ret rfl rfl rfl ⟨rfl, rfl⟩
 ·replace H := condF hc H
  refine WpC.skip (WpC.seq (WpC.seq (WpC.regionL ?_)))
  refine L.assign hF rfl rfl rfl (L.nil ?_)
  refine WpC.block ?_
  refine WpC.loopL (P := Try.prog) (fun n σ => ∃ v44 : List Timpl_Pair, ∃ v45 : List Timpl_Pair, ∃ v46 : Int, n ≤ K ∧ Flaws_eqPairS.l2 n v44 v45 v46 = some r ∧ σ = mkSt [(0, one (Cell.sl g0 (List.map eTimpl_Pair v44))), (1, one (Cell.sl g1 (List.map eTimpl_Pair v45))), (5, one (cI v46))] [] [] 0) k ⟨_, ⟨a0, a1, (0 : Int), by omega, H, rfl⟩, Le.mk [] hm rfl (Sa2 (Sa1 trivial)) trivial trivial⟩ ?_
  clear H
  rintro k2 _ ⟨v44, v45, v46, hk2, H, rfl⟩
  cases k2 with
  | zero => cases H
  | succ k2 =>
   rw [Flaws_eqPairS.l2] at H
   refine WpC.seq (WpC.seq (WpC.regionL ?_))
   refine L.move hF rfl rfl rfl ?_
   refine L.move hF rfl rfl rfl ?_
   refine L.lenR (xs := v44) (e := eTimpl_Pair) Try.underlying60 hF rfl rfl rfl rfl ?_
   refine L.bin hF rfl rfl rfl rfl rfl rfl (L.nil ?_)
   refine WpC.cond rfl (fun hc => ?_) (fun hc => ?_)
   ·replace H := condT hc H
    refine WpC.skip (WpC.seq (WpC.block (WpC.seq ?_)))
    obtain ⟨b50, hb50, H⟩ := bindS H
    obtain ⟨b51, hb51, H⟩ := bindS H
    obtain ⟨r52, hr52, H⟩ := bindS H
    refine A.begin mixed rfl rfl ?_
    intro W hI hO
    have n255 : W 2 #[true, true, true, true, true, true, true, true, false, false] (mkSt [(0, one (Cell.sl g0 (List.map eTimpl_Pair v44))), (1, one (Cell.sl g1 (List.map eTimpl_Pair v45))), (5, one (cI v46)), (20, agg [cI b50.A, cI b50.B]), (24, agg [cI b51.A, cI b51.B])] [] [] 0) := by
     refine hI _ _ _ ?_
     refine A.all [8] (by kernel_rfl) rfl ⟨⟨_, rfl, ?_⟩, trivial⟩
     refine L.call [false, false] [] [] 0 hF rfl rfl rfl ent148 rfl rfl rfl rfl rfl (Flaws_eqPair_gives k2  b50 b51 r52 hr52) rfl (L.nil ?_)
     refine Atk 9 rfl (Ca.un rfl rfl) (fun Q0 k0 => L.not hF rfl rfl rfl (L.nil k0)) ?_
     refine A.le (τ := mkSt [(0, one (Cell.sl g0 (List.map eTimpl_Pair v44))), (1, one (Cell.sl g1 (List.map eTimpl_Pair v45))), (5, one (cI v46)), (26, one (cL (!r52)))] [] [] 0) (Le.mk [] hm rfl (Sa4 trivial) trivial trivial) ?_
     refine A.done (by kernel_rfl) ?_
     refine WpC.cond rfl (fun hc => ?_) (fun hc => ?_)
     ·replace H := condT hc H
      refine WpC.seq (WpC.regionL ?_)
      refine L.assign hF rfl rfl rfl (L.nil ?_)
      refine WpC.ret ?_
      cases H
      exact Leaves.ret rfl rfl rfl ⟨rfl, rfl⟩
     ·replace H := condF hc H
      refine WpC.skip (WpC.regionL ?_)
      refine L.move hF rfl rfl rfl ?_
      refine L.bin hF rfl rfl rfl rfl rfl rfl ?_
      refine L.assign hF rfl rfl rfl (L.nil ?_)
      exact ⟨k2, _, by omega, ⟨v44, v45, (IntKind.i64.wrap (v46 + (1 : Int))), by omega, H, rfl⟩, Le.mk [] hm rfl (Sa2 (Sa1 trivial)) trivial trivial⟩
    refine hI _ _ _ ?_
    refine Atk 0 rfl (Ca.move) (fun Q0 k0 => L.move hF rfl rfl rfl (L.nil k0)) ?_
    refine Atk 1 rfl (Ca.move) (fun Q0 k0 => L.move hF rfl rfl rfl (L.nil k0)) ?_
    refine Atk 2 rfl (Ca.indexAddr) (fun Q0 k0 => L.idxR (xs := v44) (e := eTimpl_Pair) Try.underlying60 info164 hF rfl rfl rfl rfl rfl hb50 rfl rfl (L.nil k0)) ?_
    refine Atk 4 rfl (Ca.move) (fun Q0 k0 => L.move hF rfl rfl rfl (L.nil k0)) ?_
    refine Atk 5 rfl (Ca.move) (fun Q0 k0 => L.move hF rfl rfl rfl (L.nil k0)) ?_
    refine Atk 6 rfl (Ca.indexAddr) (fun Q0 k0 => L.idxR (xs := v45) (e := eTimpl_Pair) Try.underlying60 info164 hF rfl rfl rfl rfl rfl hb51 rfl rfl (L.nil k0)) ?_
    refine A.all [3, 7] (by kernel_rfl) rfl ⟨⟨_, rfl, ?_⟩, ⟨_, rfl, ?_⟩, trivial⟩
    ·refine L.loadPe shape164 hF rfl rfl rfl rfl rfl (L.nil ?_)
     refine A.all [7] (by kernel_rfl) rfl ⟨⟨_, rfl, ?_⟩, trivial⟩
     refine L.loadPe shape164 hF rfl rfl rfl rfl rfl (L.nil ?_)
     exact A.on (hO _ _ _ n255) (Le.mk [] hm rfl (Sa4 (Sa1 trivial)) trivial trivial)
    ·refine L.loadPe shape164 hF rfl rfl rfl rfl rfl (L.nil ?_)
     refine A.all [3] (by kernel_rfl) rfl ⟨⟨_, rfl, ?_⟩, trivial⟩
     refine L.loadPe shape164 hF rfl rfl rfl rfl rfl (L.nil ?_)
     exact A.on (hO _ _ _ n255) (Le.mk [] hm rfl (Sa4 (Sa1 trivial)) trivial trivial)
   ·replace H := condF hc H
    refine WpC.exit (WpC.seq (WpC.regionL ?_))
    refine L.assign hF rfl rfl rfl (L.nil ?_)
    refine WpC.ret ?_
    cases H
    exact Leaves.ret rfl rfl rfl ⟨rfl, rfl⟩
/-! ### Flaws_eqConfig -/
def Flaws_eqConfig (k : Nat) (a0 : Timpl_Config) (a1 : Timpl_Config) : Option Bool := (Flaws_eqIntS k a0.UserRealm a1.UserRealm).bind fun r2 => cond (!r2) (some false) ((Flaws_eqIntS k a0.ServiceRealm a1.ServiceRealm).bind fun r4 => cond (!r4) (some false) ((Flaws_eqPairS k a0.Links a1.Links).bind fun r6 => cond (!r6) (some false) ((Flaws_eqPairS k a0.Proxy a1.Proxy).bind fun r8 => cond (!r8) (some false) (cond (a0.Skew != a1.Skew) (some false) (some true)))))
theorem ent47 : MG.Enters Try.prog 47 := ⟨Try.f47, Try.func47, rfl, by decide⟩
set_option maxHeartbeats 8000000 in
set_option maxRecDepth 100000 in
theorem Flaws_eqConfig_gives (k : Nat) (g0 : Bool) (g1 : Bool) (g2 : Bool) (g3 : Bool) (g4 : Bool) (g5 : Bool) (g6 : Bool) (g7 : Bool) (a0 : Timpl_Config) (a1 : Timpl_Config) (r : Bool) (H : Flaws_eqConfig k a0 a1 = some r) : Gives Try.prog 47 [V.agg [Cell.sl g0 (List.map eI a0.UserRealm), Cell.sl g1 (List.map eI a0.ServiceRealm), Cell.sl g2 (List.map eTimpl_Pair a0.Links), Cell.sl g3 (List.map eTimpl_Pair a0.Proxy), cI a0.Skew], V.agg [Cell.sl g4 (List.map eI a1.UserRealm), Cell.sl g5 (List.map eI a1.ServiceRealm), Cell.sl g6 (List.map eTimpl_Pair a1.Links), Cell.sl g7 (List.map eTimpl_Pair a1.Proxy), cI a1.Skew]] [] [V.one (cL r)] [] := by
 refine Gives.intro Try.func47 rfl rfl rfl rfl ?_
 intro F hF hm
 unfold Flaws_eqConfig at H
 obtain ⟨K, hK⟩ : ∃ K, k ≤ K := ⟨k, Nat.le_refl k⟩
 refine WpC.seq (WpC.regionL ?_)
 refine L.box 10 hF rfl rfl rfl rfl ?_
 refine L.box 11 hF rfl rfl rfl rfl ?_
 refine L.assign hF rfl rfl rfl (L.nil ?_)
 refine WpC.seq (WpC.seq (WpC.regionL ?_))
 refine L.fieldAddr Try.underlying62 rfl info39 rfl hF rfl rfl rfl rfl rfl ?_
 refine L.loadPtr shape39 hF rfl rfl rfl rfl rfl rfl ?_
 refine L.fieldAddr Try.underlying62 rfl info39 rfl hF rfl rfl rfl rfl rfl ?_
 refine L.loadPtr shape39 hF rfl rfl rfl rfl rfl rfl ?_
 obtain ⟨r2, hr2, H⟩ := bindS H
 refine L.call [false, false] [] [] 12 hF rfl rfl rfl ent103 rfl rfl rfl rfl rfl (Flaws_eqIntS_gives k g0 g4 a0.UserRealm a1.UserRealm r2 hr2) rfl ?_
 refine L.not hF rfl rfl rfl (L.nil ?_)
 refine WpC.cond rfl (fun hc => ?_) (fun hc => ?_)
 ·replace H := condT hc H
  refine WpC.seq (WpC.regionL ?_)
  refine L.assign hF rfl rfl rfl (L.nil ?_)
  refine WpC.ret ?_
  cases H
  exact Leaves.ret rfl rfl rfl ⟨rfl, rfl⟩
 ·replace H := condF hc H
  refine WpC.skip (WpC.seq (WpC.seq (WpC.regionL ?_)))
  refine L.fieldAddr Try.underlying62 rfl info39 rfl hF rfl rfl rfl rfl rfl ?_
  refine L.loadPtr shape39 hF rfl rfl rfl rfl rfl rfl ?_
  refine L.fieldAddr Try.underlying62 rfl info39 rfl hF rfl rfl rfl rfl rfl ?_
  refine L.loadPtr shape39 hF rfl rfl rfl rfl rfl rfl ?_
  obtain ⟨r4, hr4, H⟩ := bindS H
  refine L.call [false, false] [] [] 13 hF rfl rfl rfl ent103 rfl rfl rfl rfl rfl (Flaws_eqIntS_gives k g1 g5 a0.ServiceRealm a1.ServiceRealm r4 hr4) rfl ?_
  refine L.not hF rfl rfl rfl (L.nil ?_)
  refine WpC.cond rfl (fun hc => ?_) (fun hc => ?_)
  ·replace H := condT hc H
   refine WpC.seq (WpC.regionL ?_)
   refine L.assign hF rfl rfl rfl (L.nil ?_)
   refine WpC.ret ?_
   cases H
   exact Leaves.ret rfl rfl rfl ⟨rfl, rfl⟩
  ·replace H := condF hc H
   refine WpC.skip (WpC.seq (WpC.seq (WpC.regionL ?_)))
   refine L.fieldAddr Try.underlying62 rfl info60 rfl hF rfl rfl rfl rfl rfl ?_
   refine L.loadPtr shape60 hF rfl rfl rfl rfl rfl rfl ?_
   refine L.fieldAddr Try.underlying62 rfl info60 rfl hF rfl rfl rfl rfl rfl ?_
   refine L.loadPtr shape60 hF rfl rfl rfl rfl rfl rfl ?_
   obtain ⟨r6, hr6, H⟩ := bindS H
   refine L.call [false, false] [] [] 14 hF rfl rfl rfl ent104 rfl rfl rfl rfl rfl (Flaws_eqPairS_gives k g2 g6 a0.Links a1.Links r6 hr6) rfl ?_
   refine L.not hF rfl rfl rfl (L.nil ?_)
   refine WpC.cond rfl (fun hc => ?_) (fun hc => ?_)
   ·replace H := condT hc H
    refine WpC.seq (WpC.regionL ?_)
    refine L.assign hF rfl rfl rfl (L.nil ?_)
    refine WpC.ret ?_
    cases H
    exact Leaves.ret rfl rfl rfl ⟨rfl, rfl⟩
   ·replace H := condF hc H
    refine WpC.skip (WpC.seq (WpC.seq (WpC.regionL ?_)))
    refine L.fieldAddr Try.underlying62 rfl info60 rfl hF rfl rfl rfl rfl rfl ?_
    refine L.loadPtr shape60 hF rfl rfl rfl rfl rfl rfl ?_
    refine L.fieldAddr Try.underlying62 rfl info60 rfl hF rfl rfl rfl rfl rfl ?_
    refine L.loadPtr shape60 hF rfl rfl rfl rfl rfl rfl ?_
    obtain ⟨r8, hr8, H⟩ := bindS H
    refine L.call [false, false] [] [] 15 hF rfl rfl rfl ent104 rfl rfl rfl rfl rfl (Flaws_eqPairS_gives k g3 g7 a0.Proxy a1.Proxy r8 hr8) rfl ?_
    refine L.not hF rfl rfl rfl (L.nil ?_)
    refine WpC.cond rfl (fun hc => ?_) (fun hc => ?_)
    ·replace H := condT hc H
     refine WpC.seq (WpC.regionL ?_)
     refine L.assign hF rfl rfl rfl (L.nil ?_)
     refine WpC.ret ?_
     cases H
     exact Leaves.ret rfl rfl rfl ⟨rfl, rfl⟩
    ·replace H := condF hc H
     refine WpC.skip (WpC.seq (WpC.seq (WpC.regionL ?_)))
     refine L.fieldAddr Try.underlying62 rfl info3 rfl hF rfl rfl rfl rfl rfl ?_
     refine L.loadPtr shape3 hF rfl rfl rfl rfl rfl rfl ?_
     refine L.fieldAddr Try.underlying62 rfl info3 rfl hF rfl rfl rfl rfl rfl ?_
     refine L.loadPtr shape3 hF rfl rfl rfl rfl rfl rfl ?_
     refine L.bin hF rfl rfl rfl rfl rfl rfl (L.nil ?_)
     refine WpC.cond rfl (fun hc => ?_) (fun hc => ?_)
     ·replace H := condT hc H
      refine WpC.seq (WpC.regionL ?_)
      refine L.assign hF rfl rfl rfl (L.nil ?_)
      refine WpC.ret ?_
      cases H
      exact Leaves.ret rfl rfl rfl ⟨rfl, rfl⟩
     ·replace H := condF hc H
      refine WpC.skip (WpC.seq (WpC.regionL ?_))
      refine L.assign hF rfl rfl rfl (L.nil ?_)
      refine WpC.ret ?_
      cases H
      exact Leaves.ret rfl rfl rfl ⟨rfl, rfl⟩
/-! ### Flaws_eqStringS -/
def Flaws_eqStringS.l2 : Nat → (List (List UInt8)) → (List (List UInt8)) → Int → Option Bool
 | 0, _, _, _ => none
 | k2 + 1, v34, v35, v36 => cond (decide (v36 < (v34.length : Int))) ((at? v34 v36).bind fun b39 => (at? v35 v36).bind fun b40 => cond (b39 != b40) (some false) ((Flaws_eqStringS.l2 k2) v34 v35 (IntKind.i64.wrap (v36 + (1 : Int))))) (some true)
def Flaws_eqStringS (k : Nat) (a0 : List (List UInt8)) (a1 : List (List UInt8)) : Option Bool := cond ((a0.length : Int) != (a1.length : Int)) (some false) (Flaws_eqStringS.l2 k a0 a1 (0 : Int))
theorem ent96 : MG.Enters Try.prog 96 := ⟨Try.f96, Try.func96, rfl, by decide⟩
set_option maxHeartbeats 8000000 in
set_option maxRecDepth 100000 in
theorem Flaws_eqStringS_gives (k : Nat) (g0 : Bool) (g1 : Bool) (a0 : List (List UInt8)) (a1 : List (List UInt8)) (r : Bool) (H : Flaws_eqStringS k a0 a1 = some r) : Gives Try.prog 96 [V.one (Cell.sl g0 (List.map eS a0)), V.one (Cell.sl g1 (List.map eS a1))] [] [V.one (cL r)] [] := by
 refine Gives.intro Try.func96 rfl rfl rfl rfl ?_
 intro F hF hm
 unfold Flaws_eqStringS at H
 obtain ⟨K, hK⟩ : ∃ K, k ≤ K := ⟨k, Nat.le_refl k⟩
 refine WpC.seq (WpC.regionL ?_)
 refine L.assign hF rfl rfl rfl (L.nil ?_)
 refine WpC.seq (WpC.seq (WpC.regionL ?_))
 refine L.move hF rfl rfl rfl ?_
 refine L.lenR (xs := a0) (e := eS) Try.underlying63 hF rfl rfl rfl rfl ?_
 refine L.move hF rfl rfl rfl ?_
 refine L.lenR (xs := a1) (e := eS) Try.underlying63 hF rfl rfl rfl rfl ?_
 refine L.bin hF rfl rfl rfl rfl rfl rfl (L.nil ?_)
 refine WpC.cond rfl (fun hc => ?_) (fun hc => ?_)
 ·replace H := condT hc H
  refine WpC.seq (WpC.regionL ?_)
  refine L.assign hF rfl rfl rfl (L.nil ?_)
  refine WpC.ret ?_
  cases H
  exact Leaves.ret rfl rfl rfl ⟨rfl, rfl⟩
 ·replace H := condF hc H
  refine WpC.skip (WpC.seq (WpC.seq (WpC.regionL ?_)))
  refine L.assign hF rfl rfl rfl (L.nil ?_)
  refine WpC.block ?_
  refine WpC.loopL (P := Try.prog) (fun n σ => ∃ v34 : List (List UInt8), ∃ v35 : List (List UInt8), ∃ v36 : Int, n ≤ K ∧ Flaws_eqStringS.l2 n v34 v35 v36 = some r ∧ σ = mkSt [(0, one (Cell.sl g0 (List.map eS v34))), (1, one (Cell.sl g1 (List.map eS v35))), (5, one (cI v36))] [] [] 0) k ⟨_, ⟨a0, a1, (0 : Int), by omega, H, rfl⟩, Le.mk [] hm rfl (Sa2 (Sa1 trivial)) trivial trivial⟩ ?_
  clear H
  rintro k2 _ ⟨v34, v35, v36, hk2, H, rfl⟩
  cases k2 with
  | zero => cases H
  | succ k2 =>
   rw [Flaws_eqStringS.l2] at H
   refine WpC.seq (WpC.seq (WpC.regionL ?_))
   refine L.move hF rfl rfl rfl ?_
   refine L.move hF rfl rfl rfl ?_
   refine L.lenR (xs := v34) (e := eS) Try.underlying63 hF rfl rfl rfl rfl ?_
   refine L.bin hF rfl rfl rfl rfl rfl rfl (L.nil ?_)
   refine WpC.cond rfl (fun hc => ?_) (fun hc => ?_)
   ·replace H := condT hc H
    refine WpC.skip (WpC.seq (WpC.block (WpC.seq ?_)))
    refine S.begin mixed (by kernel_rfl) ?_
    refine S.st 0 rfl rfl ((Ca.move).quiet) (fun Q0 k0 => L.move hF rfl rfl rfl (L.nil k0)) ?_
    refine S.st 1 rfl rfl ((Ca.move).quiet) (fun Q0 k0 => L.move hF rfl rfl rfl (L.nil k0)) ?_
    obtain ⟨b39, hb39, H⟩ := bindS H
    refine S.st 2 rfl rfl ((Ca.indexAddr).quiet) (fun Q0 k0 => L.idxR (xs := v34) (e := eS) Try.underlying63 info9 hF rfl rfl rfl rfl rfl hb39 rfl rfl (L.nil k0)) ?_
    refine S.st 3 rfl rfl (Qu.load) (fun Q0 k0 => L.loadPe shape9 hF rfl rfl rfl rfl rfl (L.nil k0)) ?_
    refine S.st 4 rfl rfl ((Ca.move).quiet) (fun Q0 k0 => L.move hF rfl rfl rfl (L.nil k0)) ?_
    refine S.st 5 rfl rfl ((Ca.move).quiet) (fun Q0 k0 => L.move hF rfl rfl rfl (L.nil k0)) ?_
    obtain ⟨b40, hb40, H⟩ := bindS H
    refine S.st 6 rfl rfl ((Ca.indexAddr).quiet) (fun Q0 k0 => L.idxR (xs := v35) (e := eS) Try.underlying63 info9 hF rfl rfl rfl rfl rfl hb40 rfl rfl (L.nil k0)) ?_
    refine S.st 7 rfl rfl (Qu.load) (fun Q0 k0 => L.loadPe shape9 hF rfl rfl rfl rfl rfl (L.nil k0)) ?_
    refine S.st 8 rfl rfl ((Ca.bin rfl rfl (calm_str _ _ _ _ _ _)).quiet) (fun Q0 k0 => L.binS hF rfl rfl rfl rfl rfl (L.nil k0)) ?_
    refine S.nil ?_
    refine WpC.cond rfl (fun hc => ?_) (fun hc => ?_)
    ·replace H := condT hc H
     refine WpC.seq (WpC.regionL ?_)
     refine L.assign hF rfl rfl rfl (L.nil ?_)
     refine WpC.ret ?_
     cases H
     exact Leaves.ret rfl rfl rfl ⟨rfl, rfl⟩
    ·replace H := condF hc H
     refine WpC.skip (WpC.regionL ?_)
     refine L.move hF rfl rfl rfl ?_
     refine L.bin hF rfl rfl rfl rfl rfl rfl ?_
     refine L.assign hF rfl rfl rfl (L.nil ?_)
     exact ⟨k2, _, by omega, ⟨v34, v35, (IntKind.i64.wrap (v36 + (1 : Int))), by omega, H, rfl⟩, Le.mk [] hm rfl (Sa2 (Sa1 trivial)) trivial trivial⟩
   ·replace H := condF hc H
    refine WpC.exit (WpC.seq (WpC.regionL ?_))
    refine L.assign hF rfl rfl rfl (L.nil ?_)
    refine WpC.ret ?_
    cases H
    exact Leaves.ret rfl rfl rfl ⟨rfl, rfl⟩
end Go.Proofs.Ytgjbgakcfcomdaa.M
