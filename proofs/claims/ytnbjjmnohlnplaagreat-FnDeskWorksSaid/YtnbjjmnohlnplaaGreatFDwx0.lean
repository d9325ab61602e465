import Derived.Test.YtnbjjmnohlnplaaGreatSdDw
import Derived.Test.YtnbjjmnohlnplaaGreatProg
namespace Go.Proofs.YtnbjjmnohlnplaaGreat.M
open Go Go.MG Tryz
set_option linter.unusedVariables false
set_option linter.unusedSimpArgs false
set_option maxHeartbeats 8000000
set_option maxRecDepth 100000
structure T_Pair where
  A : Int
  B : Int
def eT_Pair (x : T_Pair) : List Cell := [cI x.A, cI x.B]
structure T_Config where
  UserRealm : List Int
  ServiceRealm : List Int
  Links : List T_Pair
  Proxy : List T_Pair
  Skew : Int
def eT_Config (x : T_Config) : List Cell := [Cell.ow 1 (List.map eI x.UserRealm), Cell.ow 1 (List.map eI x.ServiceRealm), Cell.ow 2 (List.map eT_Pair x.Links), Cell.ow 2 (List.map eT_Pair x.Proxy), cI x.Skew]
def bT_Config (g0 : Bool) (g1 : Bool) (g2 : Bool) (g3 : Bool) (x : T_Config) : List Cell := [Cell.sl g0 (List.map eI x.UserRealm), Cell.sl g1 (List.map eI x.ServiceRealm), Cell.sl g2 (List.map eT_Pair x.Links), Cell.sl g3 (List.map eT_Pair x.Proxy), cI x.Skew]
structure T_Rest where
  Servers : Int
  Ops : Int
  End : Int
def eT_Rest (x : T_Rest) : List Cell := [cI x.Servers, cI x.Ops, cI x.End]
def bT_Rest (x : T_Rest) : List Cell := [cI x.Servers, cI x.Ops, cI x.End]
structure T_Act where
  Kind : Int
  A : Int
  B : Int
  C : Int
  D : Int
  Rest : T_Rest
  Text : List UInt8
def eT_Act (x : T_Act) : List Cell := [cI x.Kind, cI x.A, cI x.B, cI x.C, cI x.D, cI x.Rest.Servers, cI x.Rest.Ops, cI x.Rest.End, cS x.Text]
def bT_Act (x : T_Act) : List Cell := [cI x.Kind, cI x.A, cI x.B, cI x.C, cI x.D, cI x.Rest.Servers, cI x.Rest.Ops, cI x.Rest.End, cS x.Text]
structure T_Known where
  Terms : List (List UInt8)
  Keys : List Int
def eT_Known (x : T_Known) : List Cell := [Cell.ow 1 (List.map eS x.Terms), Cell.ow 1 (List.map eI x.Keys)]
structure T_Event where
  Kind : Int
  Realm : Int
  By : Int
  Client : Int
  Service : Int
  Key : Int
  Parent : Int
  Evid : Int
  Rest : T_Rest
def eT_Event (x : T_Event) : List Cell := [cI x.Kind, cI x.Realm, cI x.By, cI x.Client, cI x.Service, cI x.Key, cI x.Parent, cI x.Evid, cI x.Rest.Servers, cI x.Rest.Ops, cI x.Rest.End]
def bT_Event (x : T_Event) : List Cell := [cI x.Kind, cI x.Realm, cI x.By, cI x.Client, cI x.Service, cI x.Key, cI x.Parent, cI x.Evid, cI x.Rest.Servers, cI x.Rest.Ops, cI x.Rest.End]
structure T_Auth where
  Client : Int
  Time : Int
  Seq : Int
def eT_Auth (x : T_Auth) : List Cell := [cI x.Client, cI x.Time, cI x.Seq]
def bT_Auth (x : T_Auth) : List Cell := [cI x.Client, cI x.Time, cI x.Seq]
structure T_Accept where
  Server : Int
  Client : Int
  Key : Int
  Op : Int
  Now : Int
  Auth : T_Auth
  Rest : T_Rest
  Path : List Int
  Via : List Int
  Leaks : Int
  Ticket : List UInt8
def eT_Accept (x : T_Accept) : List Cell := [cI x.Server, cI x.Client, cI x.Key, cI x.Op, cI x.Now, cI x.Auth.Client, cI x.Auth.Time, cI x.Auth.Seq, cI x.Rest.Servers, cI x.Rest.Ops, cI x.Rest.End, Cell.ow 1 (List.map eI x.Path), Cell.ow 1 (List.map eI x.Via), cI x.Leaks, cS x.Ticket]
def bT_Accept (g0 : Bool) (g1 : Bool) (x : T_Accept) : List Cell := [cI x.Server, cI x.Client, cI x.Key, cI x.Op, cI x.Now, cI x.Auth.Client, cI x.Auth.Time, cI x.Auth.Seq, cI x.Rest.Servers, cI x.Rest.Ops, cI x.Rest.End, Cell.sl g0 (List.map eI x.Path), Cell.sl g1 (List.map eI x.Via), cI x.Leaks, cS x.Ticket]
structure T_Wait where
  On : Bool
  Nonce : Int
  Key : Int
  Client : Int
def eT_Wait (x : T_Wait) : List Cell := [cL x.On, cI x.Nonce, cI x.Key, cI x.Client]
def bT_Wait (x : T_Wait) : List Cell := [cL x.On, cI x.Nonce, cI x.Key, cI x.Client]
structure T_Cred where
  Owner : Int
  Client : Int
  Service : Int
  Key : Int
  Rest : T_Rest
  Ticket : List UInt8
def eT_Cred (x : T_Cred) : List Cell := [cI x.Owner, cI x.Client, cI x.Service, cI x.Key, cI x.Rest.Servers, cI x.Rest.Ops, cI x.Rest.End, cS x.Ticket]
def bT_Cred (x : T_Cred) : List Cell := [cI x.Owner, cI x.Client, cI x.Service, cI x.Key, cI x.Rest.Servers, cI x.Rest.Ops, cI x.Rest.End, cS x.Ticket]
structure T_Cache where
  Quiet : Int
  Seen : List T_Auth
def eT_Cache (x : T_Cache) : List Cell := [cI x.Quiet, Cell.ow 3 (List.map eT_Auth x.Seen)]
structure T_World where
  Config : T_Config
  Now : Int
  Fresh : Int
  Net : List (List UInt8)
  Known : T_Known
  Waits : List T_Wait
  Creds : List T_Cred
  Caches : List T_Cache
  Log : List T_Event
  Accepts : List T_Accept
  Leaked : List Int
def eT_World (x : T_World) : List Cell := [Cell.ow 1 (List.map eI x.Config.UserRealm), Cell.ow 1 (List.map eI x.Config.ServiceRealm), Cell.ow 2 (List.map eT_Pair x.Config.Links), Cell.ow 2 (List.map eT_Pair x.Config.Proxy), cI x.Config.Skew, cI x.Now, cI x.Fresh, Cell.ow 1 (List.map eS x.Net), Cell.ow 1 (List.map eS x.Known.Terms), Cell.ow 1 (List.map eI x.Known.Keys), Cell.ow 4 (List.map eT_Wait x.Waits), Cell.ow 8 (List.map eT_Cred x.Creds), Cell.ow 2 (List.map eT_Cache x.Caches), Cell.ow 11 (List.map eT_Event x.Log), Cell.ow 15 (List.map eT_Accept x.Accepts), Cell.ow 1 (List.map eI x.Leaked)]
def bT_World (g0 : Bool) (g1 : Bool) (g2 : Bool) (g3 : Bool) (g4 : Bool) (g5 : Bool) (g6 : Bool) (g7 : Bool) (g8 : Bool) (g9 : Bool) (g10 : Bool) (g11 : Bool) (g12 : Bool) (x : T_World) : List Cell := [Cell.sl g0 (List.map eI x.Config.UserRealm), Cell.sl g1 (List.map eI x.Config.ServiceRealm), Cell.sl g2 (List.map eT_Pair x.Config.Links), Cell.sl g3 (List.map eT_Pair x.Config.Proxy), cI x.Config.Skew, cI x.Now, cI x.Fresh, Cell.sl g4 (List.map eS x.Net), Cell.sl g5 (List.map eS x.Known.Terms), Cell.sl g6 (List.map eI x.Known.Keys), Cell.sl g7 (List.map eT_Wait x.Waits), Cell.sl g8 (List.map eT_Cred x.Creds), Cell.sl g9 (List.map eT_Cache x.Caches), Cell.sl g10 (List.map eT_Event x.Log), Cell.sl g11 (List.map eT_Accept x.Accepts), Cell.sl g12 (List.map eI x.Leaked)]
structure T_Reply where
  Code : Int
  Term : List UInt8
  Event : T_Event
def eT_Reply (x : T_Reply) : List Cell := [cI x.Code, cS x.Term, cI x.Event.Kind, cI x.Event.Realm, cI x.Event.By, cI x.Event.Client, cI x.Event.Service, cI x.Event.Key, cI x.Event.Parent, cI x.Event.Evid, cI x.Event.Rest.Servers, cI x.Event.Rest.Ops, cI x.Event.Rest.End]
def bT_Reply (x : T_Reply) : List Cell := [cI x.Code, cS x.Term, cI x.Event.Kind, cI x.Event.Realm, cI x.Event.By, cI x.Event.Client, cI x.Event.Service, cI x.Event.Key, cI x.Event.Parent, cI x.Event.Evid, cI x.Event.Rest.Servers, cI x.Event.Rest.Ops, cI x.Event.Rest.End]
structure T_asked where
  c : T_Config
  realm : Int
  now : Int
  fresh : Int
  nonce : Int
  parts : List (List UInt8)
def eT_asked (x : T_asked) : List Cell := [Cell.ow 1 (List.map eI x.c.UserRealm), Cell.ow 1 (List.map eI x.c.ServiceRealm), Cell.ow 2 (List.map eT_Pair x.c.Links), Cell.ow 2 (List.map eT_Pair x.c.Proxy), cI x.c.Skew, cI x.realm, cI x.now, cI x.fresh, cI x.nonce, Cell.ow 1 (List.map eS x.parts)]
def bT_asked (g0 : Bool) (g1 : Bool) (g2 : Bool) (g3 : Bool) (g4 : Bool) (x : T_asked) : List Cell := [Cell.sl g0 (List.map eI x.c.UserRealm), Cell.sl g1 (List.map eI x.c.ServiceRealm), Cell.sl g2 (List.map eT_Pair x.c.Links), Cell.sl g3 (List.map eT_Pair x.c.Proxy), cI x.c.Skew, cI x.realm, cI x.now, cI x.fresh, cI x.nonce, Cell.sl g4 (List.map eS x.parts)]
structure T_Grant where
  Key : Int
  Service : Int
  Nonce : Int
  Rest : T_Rest
def eT_Grant (x : T_Grant) : List Cell := [cI x.Key, cI x.Service, cI x.Nonce, cI x.Rest.Servers, cI x.Rest.Ops, cI x.Rest.End]
def bT_Grant (x : T_Grant) : List Cell := [cI x.Key, cI x.Service, cI x.Nonce, cI x.Rest.Servers, cI x.Rest.Ops, cI x.Rest.End]
structure T_Ticket where
  Client : Int
  Service : Int
  Key : Int
  Rest : T_Rest
  Path : List Int
  Via : List Int
def eT_Ticket (x : T_Ticket) : List Cell := [cI x.Client, cI x.Service, cI x.Key, cI x.Rest.Servers, cI x.Rest.Ops, cI x.Rest.End, Cell.ow 1 (List.map eI x.Path), Cell.ow 1 (List.map eI x.Via)]
def bT_Ticket (g0 : Bool) (g1 : Bool) (x : T_Ticket) : List Cell := [cI x.Client, cI x.Service, cI x.Key, cI x.Rest.Servers, cI x.Rest.Ops, cI x.Rest.End, Cell.sl g0 (List.map eI x.Path), Cell.sl g1 (List.map eI x.Via)]
theorem mixed : Tryz.prog.follows .mixedOrders = true := by kernel_rfl
theorem shape3 : MG.shape Tryz.prog 3 = some (false, 1) := by kernel_rfl
theorem shape4 : MG.shape Tryz.prog 4 = some (false, 1) := by kernel_rfl
theorem shape5 : MG.shape Tryz.prog 5 = some (false, 1) := by kernel_rfl
theorem shape9 : MG.shape Tryz.prog 9 = some (false, 1) := by kernel_rfl
theorem shape24 : MG.shape Tryz.prog 24 = some (false, 1) := by kernel_rfl
theorem shape25 : MG.shape Tryz.prog 25 = some (false, 1) := by kernel_rfl
theorem shape27 : MG.shape Tryz.prog 27 = some (true, 5) := by kernel_rfl
theorem shape29 : MG.shape Tryz.prog 29 = some (true, 3) := by kernel_rfl
theorem shape34 : MG.shape Tryz.prog 34 = some (false, 1) := by kernel_rfl
theorem shape36 : MG.shape Tryz.prog 36 = some (true, 2) := by kernel_rfl
theorem shape37 : MG.shape Tryz.prog 37 = some (false, 1) := by kernel_rfl
theorem shape38 : MG.shape Tryz.prog 38 = some (false, 1) := by kernel_rfl
theorem shape39 : MG.shape Tryz.prog 39 = some (false, 1) := by kernel_rfl
theorem shape40 : MG.shape Tryz.prog 40 = some (false, 1) := by kernel_rfl
theorem shape41 : MG.shape Tryz.prog 41 = some (false, 1) := by kernel_rfl
theorem shape43 : MG.shape Tryz.prog 43 = some (true, 16) := by kernel_rfl
theorem shape47 : MG.shape Tryz.prog 47 = some (true, 11) := by kernel_rfl
theorem shape56 : MG.shape Tryz.prog 56 = some (true, 3) := by kernel_rfl
theorem shape58 : MG.shape Tryz.prog 58 = some (true, 15) := by kernel_rfl
theorem shape63 : MG.shape Tryz.prog 63 = some (true, 9) := by kernel_rfl
theorem shape91 : MG.shape Tryz.prog 91 = some (false, 1) := by kernel_rfl
theorem shape92 : MG.shape Tryz.prog 92 = some (false, 1) := by kernel_rfl
theorem shape94 : MG.shape Tryz.prog 94 = some (true, 3) := by kernel_rfl
theorem shape114 : MG.shape Tryz.prog 114 = some (true, 2) := by kernel_rfl
theorem shape121 : MG.shape Tryz.prog 121 = some (false, 1) := by kernel_rfl
theorem shape123 : MG.shape Tryz.prog 123 = some (true, 2) := by kernel_rfl
theorem shape143 : MG.shape Tryz.prog 143 = some (true, 4) := by kernel_rfl
theorem shape146 : MG.shape Tryz.prog 146 = some (true, 8) := by kernel_rfl
theorem shape199 : MG.shape Tryz.prog 199 = some (true, 13) := by kernel_rfl
theorem shape228 : MG.shape Tryz.prog 228 = some (true, 10) := by kernel_rfl
theorem shape231 : MG.shape Tryz.prog 231 = some (true, 6) := by kernel_rfl
theorem shape235 : MG.shape Tryz.prog 235 = some (true, 8) := by kernel_rfl
theorem info3 : Tryz.prog.info? 3 = some Tryz.t3 := by kernel_rfl
theorem info4 : Tryz.prog.info? 4 = some Tryz.t4 := by kernel_rfl
theorem info5 : Tryz.prog.info? 5 = some Tryz.t5 := by kernel_rfl
theorem info9 : Tryz.prog.info? 9 = some Tryz.t9 := by kernel_rfl
theorem info24 : Tryz.prog.info? 24 = some Tryz.t24 := by kernel_rfl
theorem info25 : Tryz.prog.info? 25 = some Tryz.t25 := by kernel_rfl
theorem info27 : Tryz.prog.info? 27 = some Tryz.t27 := by kernel_rfl
theorem info29 : Tryz.prog.info? 29 = some Tryz.t29 := by kernel_rfl
theorem info34 : Tryz.prog.info? 34 = some Tryz.t34 := by kernel_rfl
theorem info36 : Tryz.prog.info? 36 = some Tryz.t36 := by kernel_rfl
theorem info37 : Tryz.prog.info? 37 = some Tryz.t37 := by kernel_rfl
theorem info38 : Tryz.prog.info? 38 = some Tryz.t38 := by kernel_rfl
theorem info39 : Tryz.prog.info? 39 = some Tryz.t39 := by kernel_rfl
theorem info40 : Tryz.prog.info? 40 = some Tryz.t40 := by kernel_rfl
theorem info41 : Tryz.prog.info? 41 = some Tryz.t41 := by kernel_rfl
theorem info43 : Tryz.prog.info? 43 = some Tryz.t43 := by kernel_rfl
theorem info47 : Tryz.prog.info? 47 = some Tryz.t47 := by kernel_rfl
theorem info56 : Tryz.prog.info? 56 = some Tryz.t56 := by kernel_rfl
theorem info58 : Tryz.prog.info? 58 = some Tryz.t58 := by kernel_rfl
theorem info63 : Tryz.prog.info? 63 = some Tryz.t63 := by kernel_rfl
theorem info91 : Tryz.prog.info? 91 = some Tryz.t91 := by kernel_rfl
theorem info92 : Tryz.prog.info? 92 = some Tryz.t92 := by kernel_rfl
theorem info94 : Tryz.prog.info? 94 = some Tryz.t94 := by kernel_rfl
theorem info114 : Tryz.prog.info? 114 = some Tryz.t114 := by kernel_rfl
theorem info121 : Tryz.prog.info? 121 = some Tryz.t121 := by kernel_rfl
theorem info123 : Tryz.prog.info? 123 = some Tryz.t123 := by kernel_rfl
theorem info143 : Tryz.prog.info? 143 = some Tryz.t143 := by kernel_rfl
theorem info146 : Tryz.prog.info? 146 = some Tryz.t146 := by kernel_rfl
theorem info199 : Tryz.prog.info? 199 = some Tryz.t199 := by kernel_rfl
theorem info228 : Tryz.prog.info? 228 = some Tryz.t228 := by kernel_rfl
theorem info231 : Tryz.prog.info? 231 = some Tryz.t231 := by kernel_rfl
theorem info235 : Tryz.prog.info? 235 = some Tryz.t235 := by kernel_rfl
theorem built27 : builtA Tryz.prog 27 = fillA (fun x => ([(0, 1), (1, 1), (2, 1), (3, 1), (4, 1)] : List (Nat × Nat))[x]?) [Cell.nil, Cell.nil, Cell.nil, Cell.nil, cI (0 : Int)] := by kernel_rfl
theorem built29 : builtA Tryz.prog 29 = fillA (fun x => ([(0, 1), (1, 1), (2, 1)] : List (Nat × Nat))[x]?) [cI (0 : Int), cI (0 : Int), cI (0 : Int)] := by kernel_rfl
theorem built36 : builtA Tryz.prog 36 = fillA (fun x => ([(0, 1), (1, 1)] : List (Nat × Nat))[x]?) [Cell.nil, Cell.nil] := by kernel_rfl
theorem built43 : builtA Tryz.prog 43 = fillA (fun x => ([(0, 5), (5, 1), (6, 1), (7, 1), (8, 2), (10, 1), (11, 1), (12, 1), (13, 1), (14, 1), (15, 1)] : List (Nat × Nat))[x]?) [Cell.nil, Cell.nil, Cell.nil, Cell.nil, cI (0 : Int), cI (0 : Int), cI (0 : Int), Cell.nil, Cell.nil, Cell.nil, Cell.nil, Cell.nil, Cell.nil, Cell.nil, Cell.nil, Cell.nil] := by kernel_rfl
theorem built47 : builtA Tryz.prog 47 = fillA (fun x => ([(0, 1), (1, 1), (2, 1), (3, 1), (4, 1), (5, 1), (6, 1), (7, 1), (8, 3)] : List (Nat × Nat))[x]?) [cI (0 : Int), cI (0 : Int), cI (0 : Int), cI (0 : Int), cI (0 : Int), cI (0 : Int), cI (0 : Int), cI (0 : Int), cI (0 : Int), cI (0 : Int), cI (0 : Int)] := by kernel_rfl
theorem built56 : builtA Tryz.prog 56 = fillA (fun x => ([(0, 1), (1, 1), (2, 1)] : List (Nat × Nat))[x]?) [cI (0 : Int), cI (0 : Int), cI (0 : Int)] := by kernel_rfl
theorem built58 : builtA Tryz.prog 58 = fillA (fun x => ([(0, 1), (1, 1), (2, 1), (3, 1), (4, 1), (5, 3), (8, 3), (11, 1), (12, 1), (13, 1), (14, 1)] : List (Nat × Nat))[x]?) [cI (0 : Int), cI (0 : Int), cI (0 : Int), cI (0 : Int), cI (0 : Int), cI (0 : Int), cI (0 : Int), cI (0 : Int), cI (0 : Int), cI (0 : Int), cI (0 : Int), Cell.nil, Cell.nil, cI (0 : Int), cS ([] : List UInt8)] := by kernel_rfl
theorem built63 : builtA Tryz.prog 63 = fillA (fun x => ([(0, 1), (1, 1), (2, 1), (3, 1), (4, 1), (5, 3), (8, 1)] : List (Nat × Nat))[x]?) [cI (0 : Int), cI (0 : Int), cI (0 : Int), cI (0 : Int), cI (0 : Int), cI (0 : Int), cI (0 : Int), cI (0 : Int), cS ([] : List UInt8)] := by kernel_rfl
theorem built114 : builtA Tryz.prog 114 = fillA (fun x => ([(0, 1), (1, 1)] : List (Nat × Nat))[x]?) [cI (0 : Int), cI (0 : Int)] := by kernel_rfl
theorem built123 : builtA Tryz.prog 123 = fillA (fun x => ([(0, 1), (1, 1)] : List (Nat × Nat))[x]?) [cI (0 : Int), Cell.nil] := by kernel_rfl
theorem built143 : builtA Tryz.prog 143 = fillA (fun x => ([(0, 1), (1, 1), (2, 1), (3, 1)] : List (Nat × Nat))[x]?) [cL false, cI (0 : Int), cI (0 : Int), cI (0 : Int)] := by kernel_rfl
theorem built146 : builtA Tryz.prog 146 = fillA (fun x => ([(0, 1), (1, 1), (2, 1), (3, 1), (4, 3), (7, 1)] : List (Nat × Nat))[x]?) [cI (0 : Int), cI (0 : Int), cI (0 : Int), cI (0 : Int), cI (0 : Int), cI (0 : Int), cI (0 : Int), cS ([] : List UInt8)] := by kernel_rfl
theorem built199 : builtA Tryz.prog 199 = fillA (fun x => ([(0, 1), (1, 1), (2, 11)] : List (Nat × Nat))[x]?) [cI (0 : Int), cS ([] : List UInt8), cI (0 : Int), cI (0 : Int), cI (0 : Int), cI (0 : Int), cI (0 : Int), cI (0 : Int), cI (0 : Int), cI (0 : Int), cI (0 : Int), cI (0 : Int), cI (0 : Int)] := by kernel_rfl
theorem built228 : builtA Tryz.prog 228 = fillA (fun x => ([(0, 5), (5, 1), (6, 1), (7, 1), (8, 1), (9, 1)] : List (Nat × Nat))[x]?) [Cell.nil, Cell.nil, Cell.nil, Cell.nil, cI (0 : Int), cI (0 : Int), cI (0 : Int), cI (0 : Int), cI (0 : Int), Cell.nil] := by kernel_rfl
theorem built231 : builtA Tryz.prog 231 = fillA (fun x => ([(0, 1), (1, 1), (2, 1), (3, 3)] : List (Nat × Nat))[x]?) [cI (0 : Int), cI (0 : Int), cI (0 : Int), cI (0 : Int), cI (0 : Int), cI (0 : Int)] := by kernel_rfl
theorem built235 : builtA Tryz.prog 235 = fillA (fun x => ([(0, 1), (1, 1), (2, 1), (3, 3), (6, 1), (7, 1)] : List (Nat × Nat))[x]?) [cI (0 : Int), cI (0 : Int), cI (0 : Int), cI (0 : Int), cI (0 : Int), cI (0 : Int), Cell.nil, Cell.nil] := by kernel_rfl
abbrev bx (a b c d : Int) : List Cell := [cI a, cI b, cI c, cI d]
abbrev zc0 : List Cell := [cI 0, cS ([] : List UInt8), cI 0, cI 0, cI 0, cI 0, cI 0, cI 0, cI 0, cI 0, cI 0, cI 0, cI 0]
abbrev zc1 : List Cell := [Cell.nil, Cell.nil, Cell.nil, Cell.nil, cI 0, cI 0, cI 0, Cell.nil, Cell.nil, Cell.nil, Cell.nil, Cell.nil, Cell.nil, Cell.nil, Cell.nil, Cell.nil]
abbrev zc2 : List Cell := [cI 0, cI 0, cI 0, cI 0, cI 0, cI 0, Cell.nil, Cell.nil]
abbrev zc3 : List Cell := [cI 0, cI 0, cI 0, cI 0, cI 0, cI 0, cI 0, cS ([] : List UInt8)]
abbrev tab : Tab := ⟨[(3, (false, 1)), (4, (false, 1)), (5, (false, 1)), (9, (false, 1)), (24, (false, 1)), (25, (false, 1)), (27, (true, 5)), (29, (true, 3)), (34, (false, 1)), (36, (true, 2)), (37, (false, 1)), (38, (false, 1)), (39, (false, 1)), (40, (false, 1)), (41, (false, 1)), (43, (true, 16)), (47, (true, 11)), (56, (true, 3)), (58, (true, 15)), (63, (true, 9)), (91, (false, 1)), (92, (false, 1)), (94, (true, 3)), (114, (true, 2)), (121, (false, 1)), (123, (true, 2)), (143, (true, 4)), (146, (true, 8)), (199, (true, 13)), (228, (true, 10)), (231, (true, 6)), (235, (true, 8))], [(27, [(0, 0), (1, 1), (2, 2), (3, 3), (4, 4)]), (29, [(0, 0), (1, 1), (2, 2)]), (36, [(0, 0), (1, 1)]), (43, [(0, 0), (1, 5), (2, 6), (3, 7), (4, 8), (5, 10), (6, 11), (7, 12), (8, 13), (9, 14), (10, 15)]), (47, [(0, 0), (1, 1), (2, 2), (3, 3), (4, 4), (5, 5), (6, 6), (7, 7), (8, 8)]), (56, [(0, 0), (1, 1), (2, 2)]), (58, [(0, 0), (1, 1), (2, 2), (3, 3), (4, 4), (5, 5), (6, 8), (7, 11), (8, 12), (9, 13), (10, 14)]), (63, [(0, 0), (1, 1), (2, 2), (3, 3), (4, 4), (5, 5), (6, 8)]), (114, [(0, 0), (1, 1)]), (123, [(0, 0), (1, 1)]), (143, [(0, 0), (1, 1), (2, 2), (3, 3)]), (146, [(0, 0), (1, 1), (2, 2), (3, 3), (4, 4), (5, 7)]), (199, [(0, 0), (1, 1), (2, 2)]), (228, [(0, 0), (1, 5), (2, 6), (3, 7), (4, 8), (5, 9)]), (231, [(0, 0), (1, 1), (2, 2), (3, 3)]), (235, [(0, 0), (1, 1), (2, 2), (3, 3), (4, 6), (5, 7)])]⟩
theorem tabOk : TabOk Tryz.prog tab := ⟨⟨shape3, shape4, shape5, shape9, shape24, shape25, shape27, shape29, shape34, shape36, shape37, shape38, shape39, shape40, shape41, shape43, shape47, shape56, shape58, shape63, shape91, shape92, shape94, shape114, shape121, shape123, shape143, shape146, shape199, shape228, shape231, shape235, trivial⟩, ⟨⟨⟨_, _, _, Tryz.underlying27, rfl, info24, rfl, rfl⟩, ⟨_, _, _, Tryz.underlying27, rfl, info24, rfl, rfl⟩, ⟨_, _, _, Tryz.underlying27, rfl, info25, rfl, rfl⟩, ⟨_, _, _, Tryz.underlying27, rfl, info25, rfl, rfl⟩, ⟨_, _, _, Tryz.underlying27, rfl, info3, rfl, rfl⟩, trivial⟩, ⟨⟨_, _, _, Tryz.underlying29, rfl, info3, rfl, rfl⟩, ⟨_, _, _, Tryz.underlying29, rfl, info3, rfl, rfl⟩, ⟨_, _, _, Tryz.underlying29, rfl, info3, rfl, rfl⟩, trivial⟩, ⟨⟨_, _, _, Tryz.underlying36, rfl, info34, rfl, rfl⟩, ⟨_, _, _, Tryz.underlying36, rfl, info24, rfl, rfl⟩, trivial⟩, ⟨⟨_, _, _, Tryz.underlying43, rfl, info27, rfl, rfl⟩, ⟨_, _, _, Tryz.underlying43, rfl, info3, rfl, rfl⟩, ⟨_, _, _, Tryz.underlying43, rfl, info3, rfl, rfl⟩, ⟨_, _, _, Tryz.underlying43, rfl, info34, rfl, rfl⟩, ⟨_, _, _, Tryz.underlying43, rfl, info36, rfl, rfl⟩, ⟨_, _, _, Tryz.underlying43, rfl, info37, rfl, rfl⟩, ⟨_, _, _, Tryz.underlying43, rfl, info38, rfl, rfl⟩, ⟨_, _, _, Tryz.underlying43, rfl, info39, rfl, rfl⟩, ⟨_, _, _, Tryz.underlying43, rfl, info40, rfl, rfl⟩, ⟨_, _, _, Tryz.underlying43, rfl, info41, rfl, rfl⟩, ⟨_, _, _, Tryz.underlying43, rfl, info24, rfl, rfl⟩, trivial⟩, ⟨⟨_, _, _, Tryz.underlying47, rfl, info3, rfl, rfl⟩, ⟨_, _, _, Tryz.underlying47, rfl, info3, rfl, rfl⟩, ⟨_, _, _, Tryz.underlying47, rfl, info3, rfl, rfl⟩, ⟨_, _, _, Tryz.underlying47, rfl, info3, rfl, rfl⟩, ⟨_, _, _, Tryz.underlying47, rfl, info3, rfl, rfl⟩, ⟨_, _, _, Tryz.underlying47, rfl, info3, rfl, rfl⟩, ⟨_, _, _, Tryz.underlying47, rfl, info3, rfl, rfl⟩, ⟨_, _, _, Tryz.underlying47, rfl, info3, rfl, rfl⟩, ⟨_, _, _, Tryz.underlying47, rfl, info29, rfl, rfl⟩, trivial⟩, ⟨⟨_, _, _, Tryz.underlying56, rfl, info3, rfl, rfl⟩, ⟨_, _, _, Tryz.underlying56, rfl, info3, rfl, rfl⟩, ⟨_, _, _, Tryz.underlying56, rfl, info3, rfl, rfl⟩, trivial⟩, ⟨⟨_, _, _, Tryz.underlying58, rfl, info3, rfl, rfl⟩, ⟨_, _, _, Tryz.underlying58, rfl, info3, rfl, rfl⟩, ⟨_, _, _, Tryz.underlying58, rfl, info3, rfl, rfl⟩, ⟨_, _, _, Tryz.underlying58, rfl, info3, rfl, rfl⟩, ⟨_, _, _, Tryz.underlying58, rfl, info3, rfl, rfl⟩, ⟨_, _, _, Tryz.underlying58, rfl, info56, rfl, rfl⟩, ⟨_, _, _, Tryz.underlying58, rfl, info29, rfl, rfl⟩, ⟨_, _, _, Tryz.underlying58, rfl, info24, rfl, rfl⟩, ⟨_, _, _, Tryz.underlying58, rfl, info24, rfl, rfl⟩, ⟨_, _, _, Tryz.underlying58, rfl, info3, rfl, rfl⟩, ⟨_, _, _, Tryz.underlying58, rfl, info9, rfl, rfl⟩, trivial⟩, ⟨⟨_, _, _, Tryz.underlying63, rfl, info3, rfl, rfl⟩, ⟨_, _, _, Tryz.underlying63, rfl, info3, rfl, rfl⟩, ⟨_, _, _, Tryz.underlying63, rfl, info3, rfl, rfl⟩, ⟨_, _, _, Tryz.underlying63, rfl, info3, rfl, rfl⟩, ⟨_, _, _, Tryz.underlying63, rfl, info3, rfl, rfl⟩, ⟨_, _, _, Tryz.underlying63, rfl, info29, rfl, rfl⟩, ⟨_, _, _, Tryz.underlying63, rfl, info9, rfl, rfl⟩, trivial⟩, ⟨⟨_, _, _, Tryz.underlying114, rfl, info3, rfl, rfl⟩, ⟨_, _, _, Tryz.underlying114, rfl, info3, rfl, rfl⟩, trivial⟩, ⟨⟨_, _, _, Tryz.underlying123, rfl, info3, rfl, rfl⟩, ⟨_, _, _, Tryz.underlying123, rfl, info121, rfl, rfl⟩, trivial⟩, ⟨⟨_, _, _, Tryz.underlying143, rfl, info4, rfl, rfl⟩, ⟨_, _, _, Tryz.underlying143, rfl, info3, rfl, rfl⟩, ⟨_, _, _, Tryz.underlying143, rfl, info3, rfl, rfl⟩, ⟨_, _, _, Tryz.underlying143, rfl, info3, rfl, rfl⟩, trivial⟩, ⟨⟨_, _, _, Tryz.underlying146, rfl, info3, rfl, rfl⟩, ⟨_, _, _, Tryz.underlying146, rfl, info3, rfl, rfl⟩, ⟨_, _, _, Tryz.underlying146, rfl, info3, rfl, rfl⟩, ⟨_, _, _, Tryz.underlying146, rfl, info3, rfl, rfl⟩, ⟨_, _, _, Tryz.underlying146, rfl, info29, rfl, rfl⟩, ⟨_, _, _, Tryz.underlying146, rfl, info9, rfl, rfl⟩, trivial⟩, ⟨⟨_, _, _, Tryz.underlying199, rfl, info3, rfl, rfl⟩, ⟨_, _, _, Tryz.underlying199, rfl, info9, rfl, rfl⟩, ⟨_, _, _, Tryz.underlying199, rfl, info47, rfl, rfl⟩, trivial⟩, ⟨⟨_, _, _, Tryz.underlying228, rfl, info27, rfl, rfl⟩, ⟨_, _, _, Tryz.underlying228, rfl, info3, rfl, rfl⟩, ⟨_, _, _, Tryz.underlying228, rfl, info3, rfl, rfl⟩, ⟨_, _, _, Tryz.underlying228, rfl, info3, rfl, rfl⟩, ⟨_, _, _, Tryz.underlying228, rfl, info3, rfl, rfl⟩, ⟨_, _, _, Tryz.underlying228, rfl, info34, rfl, rfl⟩, trivial⟩, ⟨⟨_, _, _, Tryz.underlying231, rfl, info3, rfl, rfl⟩, ⟨_, _, _, Tryz.underlying231, rfl, info3, rfl, rfl⟩, ⟨_, _, _, Tryz.underlying231, rfl, info3, rfl, rfl⟩, ⟨_, _, _, Tryz.underlying231, rfl, info29, rfl, rfl⟩, trivial⟩, ⟨⟨_, _, _, Tryz.underlying235, rfl, info3, rfl, rfl⟩, ⟨_, _, _, Tryz.underlying235, rfl, info3, rfl, rfl⟩, ⟨_, _, _, Tryz.underlying235, rfl, info3, rfl, rfl⟩, ⟨_, _, _, Tryz.underlying235, rfl, info29, rfl, rfl⟩, ⟨_, _, _, Tryz.underlying235, rfl, info24, rfl, rfl⟩, ⟨_, _, _, Tryz.underlying235, rfl, info24, rfl, rfl⟩, trivial⟩, trivial⟩⟩
theorem ls {F : Fix} {ops : Array Oper} {S : LD} {i u d N : Nat} {l : List (Nat × Nat)} {o : Oper} {t : Nat} {v : Slot} (k : LinsD Tryz.prog F ops S (i + 1) l) (ho : ops[i]? = some o := by exact rfl) (hd : o.dst = some t := by exact rfl) (hn : F.n = N := by exact rfl) (hs : ∀ b, stp tab ops N o (stD S (m0 u d i b)).slots (stD S (m0 u d i b)).H = some (setD (stD S (m0 u d i b)).slots o.dst (some v), (stD S (m0 u d i b)).H) := by exact fun _ => rfl) (h1 : ∀ b, pickL (toA (m1 u d i b) S.sl) t = some v := by exact fun _ => rfl) (h2 : noBut (i + 1) t S.sl = true := by exact rfl) (h3 : noCs (i + 1) S.rows = true := by exact rfl) (h4 : noCs (i + 1) S.boxes = true := by exact rfl) : LinsD Tryz.prog F ops S i ((u, d) :: l) := LinsD.s tabOk k ho hd hn hs h1 h2 h3 h4
theorem lb {F : Fix} {ops : Array Oper} {S : LD} {i u d N : Nat} {l : List (Nat × Nat)} {o : Oper} {q : Nat} {cs : List Cell} (k : LinsD Tryz.prog F ops S (i + 1) l) (ho : ops[i]? = some o := by exact rfl) (hd : o.dst = none := by exact rfl) (hn : F.n = N := by exact rfl) (hs : ∀ b, stp tab ops N o (stD S (m0 u d i b)).slots (stD S (m0 u d i b)).H = some (setD (stD S (m0 u d i b)).slots o.dst none, Heap.setBox (stD S (m0 u d i b)).H q cs) := by exact fun _ => rfl) (h1 : ∀ b, pickL (toA (m1 u d i b) S.boxes) q = some cs := by exact fun _ => rfl) (h2 : noCs (i + 1) S.sl = true := by exact rfl) (h3 : noCs (i + 1) S.rows = true := by exact rfl) (h4 : noBut (i + 1) q S.boxes = true := by exact rfl) : LinsD Tryz.prog F ops S i ((u, d) :: l) := LinsD.b tabOk k ho hd hn hs h1 h2 h3 h4
theorem lg {F : Fix} {ops : Array Oper} {S : LD} {i u d N : Nat} {l : List (Nat × Nat)} {o : Oper} {t : Nat} {x y : Bool} (k : LinsD Tryz.prog F ops S (i + 1) l) (ho : ops[i]? = some o := by exact rfl) (hd : o.dst = some t := by exact rfl) (hn : F.n = N := by exact rfl) (hs : ∀ b, stp tab ops N o (stD S (m0 u d i b)).slots (stD S (m0 u d i b)).H = some (setD (stD S (m0 u d i b)).slots o.dst (some (im (.bool x))), (stD S (m0 u d i b)).H) := by exact fun _ => rfl) (h1 : ∀ b, pickL (toA (m1 u d i b) S.sl) t = some (im (.bool y)) := by exact fun _ => rfl) (hc : x = y := by assumption) (h2 : noBut (i + 1) t S.sl = true := by exact rfl) (h3 : noCs (i + 1) S.rows = true := by exact rfl) (h4 : noCs (i + 1) S.boxes = true := by exact rfl) : LinsD Tryz.prog F ops S i ((u, d) :: l) := LinsD.g tabOk k ho hd hn hs h1 hc h2 h3 h4
theorem go {F : Fix} {ops : Array Oper} {N : Nat} {Q : St → Prop} (n : Nat) {l r : List Oper} {sl sl' : Nat → Option Slot} {H H' : Heap} (k : WpL Tryz.prog F ops Q r ⟨sl', H'⟩) (hn : F.n = N := by exact rfl) (h : runO tab ops N n l sl H = some (r, sl', H') := by exact rfl) : WpL Tryz.prog F ops Q l ⟨sl, H⟩ := goT tabOk n k hn h
theorem gn {F : Fix} {ops : Array Oper} {N : Nat} {Q : St → Prop} (n : Nat) {l : List Oper} {sl sl' : Nat → Option Slot} {H H' : Heap} (k : Q ⟨sl', H'⟩) (hn : F.n = N := by exact rfl) (h : runO tab ops N n l sl H = some ([], sl', H') := by exact rfl) : WpL Tryz.prog F ops Q l ⟨sl, H⟩ := goT tabOk n (L.nil k) hn h
theorem sg {F : Fix} {ops : Array Oper} {N : Nat} {Q : Exit → St → Prop} {id : Nat} {y : Code} (n : Nat) {sl sl' : Nat → Option Slot} {H H' : Heap} (k : WpC Tryz.prog F y Q ⟨sl', H'⟩) (hn : F.n = N := by exact rfl) (h : runO tab ops N n ops.toList sl H = some ([], sl', H') := by exact rfl) : WpC Tryz.prog F (.seq (.region id ops false) y) Q ⟨sl, H⟩ := sr (goT tabOk n (L.nil k) hn h)
theorem sy {F : Fix} {ops : Array Oper} {N : Nat} {Q : Exit → St → Prop} {id : Nat} {y : Code} (n : Nat) {r : List Oper} {sl sl' : Nat → Option Slot} {H H' : Heap} (k : WpL Tryz.prog F ops (thenA (WpC Tryz.prog F y Q) Q .normal) r ⟨sl', H'⟩) (hn : F.n = N := by exact rfl) (h : runO tab ops N n ops.toList sl H = some (r, sl', H') := by exact rfl) : WpC Tryz.prog F (.seq (.region id ops false) y) Q ⟨sl, H⟩ := sr (goT tabOk n k hn h)
/-! ### W_big -/
def W_big (k : Nat) (a0 : List UInt8) : Option Bool := some (decide ((a0.length : Int) > 1048576))
theorem ent8 : MG.Enters Tryz.prog 8 := en func8
theorem g8 (k : Nat) (g0 : Bool) (a0 : List UInt8) (r : Bool) (H : W_big k a0 = some r) : Gives Tryz.prog 8 [V.one (Cell.sl g0 (List.map eB a0))] [] [V.one (cL r)] [] := by
 refine Gives.intro func8 rfl rfl rfl rfl ?_; refine fx fun w0 T S0 ob oh hm => ?_
 have hF := fxe w0 T S0 6 ob oh
 unfold W_big at H; obtain ⟨K, hK⟩ := leK k; refine sg 1 ?_; refine sy 1 ?_; refine L.lenR (xs := a0) (e := eB) underlying22 hF rfl rfl rfl rfl ?_; refine gn 2 ?_; cases H; exact WpC.ret rt
/-! ### W_at -/
def W_at (k : Nat) (a0 : List UInt8) (a1 : Int) : Option Int := cond (decide (a1 < (a0.length : Int))) ((at? a0 a1).bind fun b2 => some (b2.toNat : Int)) (some (Int.tmod (IntKind.i64.wrap ((IntKind.i64.wrap (a1 * 37)) + (IntKind.i64.wrap ((a0.length : Int) * 11)))) 256))
theorem ent12 : MG.Enters Tryz.prog 12 := en func12
theorem g12 (k : Nat) (g0 : Bool) (a0 : List UInt8) (a1 r : Int) (H : W_at k a0 a1 = some r) : Gives Tryz.prog 12 [V.one (Cell.sl g0 (List.map eB a0)), V.one (cI a1)] [] [V.one (cI r)] [] := by
 refine Gives.intro func12 rfl rfl rfl rfl ?_; refine fx fun w0 T S0 ob oh hm => ?_
 have hF := fxe w0 T S0 21 ob oh
 unfold W_at at H; obtain ⟨K, hK⟩ := leK k; refine sg 1 ?_; refine WpC.seq (sr ?_); refine go 2 ?_; refine L.lenR (xs := a0) (e := eB) underlying22 hF rfl rfl rfl rfl ?_; refine gn 1 ?_; refine cd H (fun hc H => ?_) (fun hc H => ?_)
 ·refine sy 2 ?_; obtain ⟨b2, hb2, H⟩ := bindS H; refine ix underlying22 info5 hb2 ?_; refine le shape5 ?_; refine L.ofB underlying5 underlying3 hF rfl rfl rfl ?_; refine gn 1 ?_; cases H; exact WpC.ret rt
 ·refine WpC.skip (sr ?_); refine go 3 ?_; refine L.lenR (xs := a0) (e := eB) underlying22 hF rfl rfl rfl rfl ?_; refine go 2 ?_; refine L.rem hF rfl rfl rfl rfl (by decide) ?_; refine gn 1 ?_; cases H; exact WpC.ret rt
/-! ### S_Dec -/
def S_Dec.j8 (cl7 : Int → (List UInt8) → Bool → Option (List UInt8)) (k : Nat) (v40 : Int) (v41 : List UInt8) (v42 : Bool) (v43 : Int) : Option (List UInt8) := cond (decide (([(ofI (IntKind.i64.wrap (48 + v43)))] : List UInt8).length + v41.length ≤ 9223372036854775807)) (cl7 (IntKind.i64.wrap (Int.tdiv v40 10)) (([(ofI (IntKind.i64.wrap (48 + v43)))] : List UInt8) ++ v41) v42) none
def S_Dec.l7 : Nat → Int → (List UInt8) → Bool → Option (List UInt8)
 | 0, _, _, _ => none
 | k7 + 1, v37, v38, v39 => cond (v37 != 0) (cond (decide ((Int.tmod v37 10) < 0)) (S_Dec.j8 (S_Dec.l7 k7) k7 v37 v38 v39 (IntKind.i64.wrap (0 - (Int.tmod v37 10)))) (S_Dec.j8 (S_Dec.l7 k7) k7 v37 v38 v39 (Int.tmod v37 10))) (cond v39 (cond (decide (([45] : List UInt8).length + v38.length ≤ 9223372036854775807)) (some (([45] : List UInt8) ++ v38)) none) (some v38))
def S_Dec (k : Nat) (a0 : Int) : Option (List UInt8) := cond (a0 == 0) (some ([48] : List UInt8)) (S_Dec.l7 k a0 ([] : List UInt8) (decide (a0 < 0)))
theorem ent24 : MG.Enters Tryz.prog 24 := en func24
theorem g24 (k : Nat) (a0 : Int) (r : List UInt8) (H : S_Dec k a0 = some r) : Gives Tryz.prog 24 [V.one (cI a0)] [] [V.one (cS r)] [] := by
 refine Gives.intro func24 rfl rfl rfl rfl ?_; refine fx fun w0 T S0 ob oh hm => ?_
 have hF := fxe w0 T S0 31 ob oh
 unfold S_Dec at H; obtain ⟨K, hK⟩ := leK k; refine sg 1 ?_; refine WpC.seq (sr ?_); refine gn 2 ?_; refine cd H (fun hc H => ?_) (fun hc H => ?_)
 ·refine sg 1 ?_; cases H; exact WpC.ret rt
 ·refine WpC.skip (sr ?_); refine gn 1 ?_; refine sg 3 ?_; refine WpC.seq (WpC.block ?_); refine WpC.loopL (P := Tryz.prog) (fun n σ => ∃ (v37 : Int) (v38 : List UInt8) (v39 : Bool), n ≤ K ∧ S_Dec.l7 n v37 v38 v39 = some r ∧ σ = mkSt [(0, oI v37), (3, oS v38), (4, oL v39)] [] [] 0) k ⟨_, ⟨a0, ([] : List UInt8), (decide (a0 < 0)), by omega, H, rfl⟩, lm [] hm⟩ ?_; clear H
  rintro k7 _ ⟨v37, v38, v39, hk7, H, rfl⟩
  cases k7 with
  | zero => cases H
  | succ k7 =>
   rw [S_Dec.l7] at H
   refine WpC.seq (sr ?_); refine gn 2 ?_; refine cd H (fun hc H => ?_) (fun hc H => ?_)
   ·refine WpC.skip (WpC.block (sr ?_)); refine mv ?_; refine L.rem hF rfl rfl rfl rfl (by decide) ?_; refine gn 1 ?_; refine WpC.join (fun σ => ∃ (kj8 : Nat) (v40 : Int) (v41 : List UInt8) (v42 : Bool) (v43 : Int), kj8 ≤ K ∧ S_Dec.j8 (S_Dec.l7 k7) kj8 v40 v41 v42 v43 = some r ∧ σ = mkSt [(0, oI v40), (3, oS v41), (4, oL v42), (5, oI v43)] [] [] 0) ?_ ?_
    ·rintro _ ⟨kj8, v40, v41, v42, v43, hkj8, H, rfl⟩
     unfold S_Dec.j8 at H; refine sy 2 ?_; refine L.toB underlying3 underlying5 hF rfl rfl rfl ?_; refine L.buildSlice (e := eB) 0 ([(ofI (IntKind.i64.wrap (48 + v43)))] : List UInt8) underlying22 info5 rfl rfl rfl hF rfl rfl rfl rfl rfl rfl rfl rfl ?_; refine L.b2s (xs := ([(ofI (IntKind.i64.wrap (48 + v43)))] : List UInt8)) underlying22 underlying5 underlying9 hF rfl rfl rfl rfl ?_; refine mv ?_; obtain ⟨h44, H⟩ := condG H; refine L.catS hF rfl rfl rfl rfl (of_decide_eq_true h44) ?_; refine gn 1 ?_; refine WpC.regionL ?_; refine mv ?_; refine L.quo hF rfl rfl rfl rfl (by decide) ?_; refine gn 1 ?_; exact ⟨k7, _, by omega, ⟨(IntKind.i64.wrap (Int.tdiv v40 10)), (([(ofI (IntKind.i64.wrap (48 + v43)))] : List UInt8) ++ v41), v42, by omega, H, rfl⟩, lm [] hm⟩
    ·refine sg 2 ?_; refine cd H (fun hc H => ?_) (fun hc H => ?_)
     ·refine WpC.regionL ?_; refine mv ?_; refine L.neg hF rfl rfl rfl ?_; refine gn 1 ?_; exact ⟨_, ⟨k7, v37, v38, v39, (IntKind.i64.wrap (0 - (Int.tmod v37 10))), by omega, H, rfl⟩, lm [] hm⟩
     ·refine WpC.skip ?_; exact ⟨_, ⟨k7, v37, v38, v39, (Int.tmod v37 10), by omega, H, rfl⟩, lm [] hm⟩
   ·refine WpC.exit (WpC.seq (sr ?_)); refine gn 1 ?_; refine cd H (fun hc H => ?_) (fun hc H => ?_)
    ·refine sy 1 ?_; obtain ⟨h46, H⟩ := condG H; refine L.catS hF rfl rfl rfl rfl (of_decide_eq_true h46) ?_; refine gn 1 ?_; cases H; exact WpC.ret rt
    ·refine WpC.skip (sr ?_); refine gn 2 ?_; cases H; exact WpC.ret rt
/-! ### I_split -/
def I_split.j8 (cl7 : (List UInt8) → UInt8 → (List (List UInt8)) → Int → Int → Option (List (List UInt8))) (k : Nat) (v83 : List UInt8) (v84 : UInt8) (v85 : List (List UInt8)) (v86 v87 : Int) : Option (List (List UInt8)) := cl7 v83 v84 v85 v86 (IntKind.i64.wrap (v87 + 1))
def I_split.l7 : Nat → (List UInt8) → UInt8 → (List (List UInt8)) → Int → Int → Option (List (List UInt8))
 | 0, _, _, _, _, _ => none
 | k7 + 1, v75, v76, v77, v78, v79 => cond (decide (v79 < (v75.length : Int))) ((at? v75 v79).bind fun b88 => cond (b88 == v76) ((cut? v75 v78 v79).bind fun b89 => cond (decide ((2 * (v77.length + ([b89] : List (List UInt8)).length) + 192) * 16 ≤ 281474976710656)) (I_split.j8 (I_split.l7 k7) k7 v75 v76 (v77 ++ ([b89] : List (List UInt8))) (IntKind.i64.wrap (v79 + 1)) v79) none) (I_split.j8 (I_split.l7 k7) k7 v75 v76 v77 v78 v79)) ((cut? v75 v78 (v75.length : Int)).bind fun b91 => cond (decide ((2 * (v77.length + ([b91] : List (List UInt8)).length) + 192) * 16 ≤ 281474976710656)) (some (v77 ++ ([b91] : List (List UInt8)))) none)
def I_split (k : Nat) (a0 : List UInt8) (a1 : UInt8) : Option (List (List UInt8)) := I_split.l7 k a0 a1 ([] : List (List UInt8)) 0 0
theorem ent63 : MG.Enters Tryz.prog 63 := en func63
theorem g63 (k : Nat) (a0 : List UInt8) (a1 : UInt8) (r : List (List UInt8)) (H : I_split k a0 a1 = some r) : Gives Tryz.prog 63 [V.one (cS a0), V.one (cU a1)] [] [V.one (Cell.ow 1 (List.map eS r))] [] := by
 refine Gives.intro func63 rfl rfl rfl rfl ?_; refine fx fun w0 T S0 ob oh hm => ?_
 have hF := fxe w0 T S0 35 ob oh
 unfold I_split at H; obtain ⟨K, hK⟩ := leK k; refine sg 1 ?_; refine sr ?_; refine L.buildSlice (e := eS) 2 ([] : List (List UInt8)) underlying34 info9 rfl rfl rfl hF rfl rfl rfl rfl rfl rfl rfl rfl ?_; refine gn 1 ?_; refine sg 1 ?_; refine WpC.seq (sr ?_); refine gn 1 ?_; refine WpC.block ?_; refine WpC.loopL (P := Tryz.prog) (fun n σ => ∃ (v75 : List UInt8) (v76 : UInt8) (v77 : List (List UInt8)) (v78 v79 : Int), n ≤ K ∧ I_split.l7 n v75 v76 v77 v78 v79 = some r ∧ σ = mkSt [(0, oS v75), (1, MG.one (cU v76)), (5, MG.one (Cell.own 0)), (6, oI v78), (7, oI v79)] [(0, ⟨1, List.map eS v77⟩)] [] 1) k ⟨_, ⟨a0, a1, ([] : List (List UInt8)), 0, 0, by omega, H, rfl⟩, lm [(0, 2)] hm⟩ ?_; clear H
 rintro k7 _ ⟨v75, v76, v77, v78, v79, hk7, H, rfl⟩
 cases k7 with
 | zero => cases H
 | succ k7 =>
  rw [I_split.l7] at H
  refine WpC.seq (sr ?_); refine go 2 ?_; refine L.lenS underlying9 hF rfl rfl rfl ?_; refine gn 1 ?_; refine cd H (fun hc H => ?_) (fun hc H => ?_)
  ·refine WpC.skip ?_; refine WpC.join (fun σ => ∃ (kj8 : Nat) (v83 : List UInt8) (v84 : UInt8) (v85 : List (List UInt8)) (v86 v87 : Int), kj8 ≤ K ∧ I_split.j8 (I_split.l7 k7) kj8 v83 v84 v85 v86 v87 = some r ∧ σ = mkSt [(0, oS v83), (1, MG.one (cU v84)), (5, MG.one (Cell.own 0)), (6, oI v86), (7, oI v87)] [(0, ⟨1, List.map eS v85⟩)] [] 1) ?_ ?_
   ·rintro _ ⟨kj8, v83, v84, v85, v86, v87, hkj8, H, rfl⟩
    unfold I_split.j8 at H; refine WpC.regionL ?_; refine gn 3 ?_; exact ⟨k7, _, by omega, ⟨v83, v84, v85, v86, (IntKind.i64.wrap (v87 + 1)), by omega, H, rfl⟩, lm [(0, 0)] hm⟩
   ·refine WpC.block (sr ?_); refine go 2 ?_; obtain ⟨b88, hb88, H⟩ := bindS H; refine L.idxS underlying9 hF rfl rfl rfl rfl hb88 ?_; refine mv ?_; refine L.binB (a := b88) (b := v76) hF rfl rfl rfl rfl rfl (L.nil ?_); refine cd H (fun hc H => ?_) (fun hc H => ?_)
    ·refine sy 4 ?_; obtain ⟨b89, hb89, H⟩ := bindS H; refine L.cutS underlying9 hF rfl rfl rfl rfl rfl hb89 ?_; refine L.buildSlice (e := eS) 1 ([b89] : List (List UInt8)) underlying34 info9 rfl rfl rfl hF rfl rfl rfl rfl rfl rfl rfl rfl ?_; obtain ⟨h90, H⟩ := condG H; refine L.append (xs := v77) (ys := ([b89] : List (List UInt8))) (e := eS) 2 underlying34 info9 rfl rfl hF rfl rfl rfl rfl rfl rfl rfl rfl (fun _ => rfl) (fun _ _ h1 h2 => by cases h1; cases h2; rfl) ⟨_, underlying34⟩ (of_decide_eq_true h90) rfl rfl ?_; refine gn 1 ?_; refine WpC.regionL ?_; refine gn 3 ?_; exact ⟨_, ⟨k7, v75, v76, (v77 ++ ([b89] : List (List UInt8))), (IntKind.i64.wrap (v79 + 1)), v79, by omega, H, rfl⟩, lm [(0, 2)] hm⟩
    ·refine WpC.skip ?_; exact ⟨_, ⟨k7, v75, v76, v77, v78, v79, by omega, H, rfl⟩, lm [(0, 0)] hm⟩
  ·refine WpC.exit (sr ?_); refine go 3 ?_; obtain ⟨b91, hb91, H⟩ := bindS H; refine L.cutS underlying9 hF rfl rfl rfl rfl rfl hb91 ?_; refine L.buildSlice (e := eS) 1 ([b91] : List (List UInt8)) underlying34 info9 rfl rfl rfl hF rfl rfl rfl rfl rfl rfl rfl rfl ?_; obtain ⟨h92, H⟩ := condG H; refine L.append (xs := v77) (ys := ([b91] : List (List UInt8))) (e := eS) 2 underlying34 info9 rfl rfl hF rfl rfl rfl rfl rfl rfl rfl rfl (fun _ => rfl) (fun _ _ h1 h2 => by cases h1; cases h2; rfl) ⟨_, underlying34⟩ (of_decide_eq_true h92) rfl rfl ?_; refine gn 1 ?_; cases H; exact WpC.ret rt
/-! ### I_deskConfig -/
def I_deskConfig (k : Nat)  : Option T_Config := some (⟨([0, 1, 2] : List Int), ([0, 1, 2] : List Int), ([(⟨0, 1⟩ : T_Pair), (⟨1, 2⟩ : T_Pair), (⟨1, 0⟩ : T_Pair), (⟨2, 1⟩ : T_Pair)] : List T_Pair), ([(⟨0, 1⟩ : T_Pair), (⟨0, 2⟩ : T_Pair), (⟨1, 2⟩ : T_Pair)] : List T_Pair), 5⟩ : T_Config)
theorem ent64 : MG.Enters Tryz.prog 64 := en func64
theorem g64 (k : Nat)  (r : T_Config) (H : I_deskConfig k  = some r) : Gives Tryz.prog 64 [] [] [V.agg [Cell.ow 1 (List.map eI r.UserRealm), Cell.ow 1 (List.map eI r.ServiceRealm), Cell.ow 2 (List.map eT_Pair r.Links), Cell.ow 2 (List.map eT_Pair r.Proxy), cI r.Skew]] [] := by
 refine Gives.intro func64 rfl rfl rfl rfl ?_; refine fx fun w0 T S0 ob oh hm => ?_
 have hF := fxe w0 T S0 13 ob oh
 unfold I_deskConfig at H; obtain ⟨K, hK⟩ := leK k; refine sr ?_; refine alc 0 info27 (L.nil ?_); refine sr ?_; refine L.buildSlice (e := eI) 1 ([0, 1, 2] : List Int) underlying24 info3 rfl rfl rfl hF rfl rfl rfl rfl rfl rfl rfl rfl ?_; refine L.buildSlice (e := eI) 2 ([0, 1, 2] : List Int) underlying24 info3 rfl rfl rfl hF rfl rfl rfl rfl rfl rfl rfl rfl ?_; refine bf built114 ?_; refine bf built114 ?_; refine bf built114 ?_; refine bf built114 ?_; refine L.buildSlice (e := eT_Pair) 3 ([(⟨0, 1⟩ : T_Pair), (⟨1, 2⟩ : T_Pair), (⟨1, 0⟩ : T_Pair), (⟨2, 1⟩ : T_Pair)] : List T_Pair) underlying25 info114 rfl rfl rfl hF rfl rfl rfl rfl rfl rfl rfl rfl ?_; refine bf built114 ?_; refine bf built114 ?_; refine bf built114 ?_; refine L.buildSlice (e := eT_Pair) 4 ([(⟨0, 1⟩ : T_Pair), (⟨0, 2⟩ : T_Pair), (⟨1, 2⟩ : T_Pair)] : List T_Pair) underlying25 info114 rfl rfl rfl hF rfl rfl rfl rfl rfl rfl rfl rfl ?_; refine bf built27 ?_; refine gn 1 ?_; cases H; exact WpC.ret rt
/-! ### I_within -/
def I_within (k : Nat) (a0 a1 a2 : Int) : Option Bool := cond (decide (a0 ≥ a1)) (some (decide (a0 ≤ a2))) (some false)
theorem ent52 : MG.Enters Tryz.prog 52 := en func52
theorem g52 (k : Nat) (a0 a1 a2 : Int) (r : Bool) (H : I_within k a0 a1 a2 = some r) : Gives Tryz.prog 52 [V.one (cI a0), V.one (cI a1), V.one (cI a2)] [] [V.one (cL r)] [] := by
 refine Gives.intro func52 rfl rfl rfl rfl ?_; refine fx fun w0 T S0 ob oh hm => ?_
 have hF := fxe w0 T S0 15 ob oh
 unfold I_within at H; obtain ⟨K, hK⟩ := leK k; refine sg 1 ?_; refine sy 4 ?_; refine sH H (fun hc H => ?_) (fun hc H => ?_)
 ·refine gn 5 ?_; cases H; exact WpC.ret rt
 ·refine gn 5 ?_; cases H; exact WpC.ret rt
/-! ### I_isRealm -/
def I_isRealm (k : Nat) (a0 : Int) : Option Bool := (I_within k a0 0 2).bind fun r1 => some r1
theorem ent102 : MG.Enters Tryz.prog 102 := en func102
theorem g102 (k : Nat) (a0 : Int) (r : Bool) (H : I_isRealm k a0 = some r) : Gives Tryz.prog 102 [V.one (cI a0)] [] [V.one (cL r)] [] := by
 refine Gives.intro func102 rfl rfl rfl rfl ?_; refine fx fun w0 T S0 ob oh hm => ?_
 have hF := fxe w0 T S0 5 ob oh
 unfold I_isRealm at H; obtain ⟨K, hK⟩ := leK k; refine sg 1 ?_; refine sy 1 ?_; refine cB 1 ent52 (g52 k  a0 0 2) H fun r1 H => ?_; refine gn 1 ?_; cases H; exact WpC.ret rt
/-! ### I_ConfigOk_1 -/
def I_ConfigOk_1 (k : Nat) (a0 : T_Pair) : Option Bool := (I_isRealm k a0.A).bind fun r3 => cond r3 ((I_isRealm k a0.B).bind fun r4 => cond r4 (some (a0.A != a0.B)) (some false)) (some false)
theorem ent101 : MG.Enters Tryz.prog 101 := en func101
theorem g101 (k : Nat) (a0 : T_Pair) (r : Bool) (H : I_ConfigOk_1 k a0 = some r) : Gives Tryz.prog 101 [V.agg [cI a0.A, cI a0.B]] [] [V.one (cL r)] [] := by
 refine Gives.intro func101 rfl rfl rfl rfl ?_; refine fx fun w0 T S0 ob oh hm => ?_
 have hF := fxe w0 T S0 18 ob oh
 unfold I_ConfigOk_1 at H; obtain ⟨K, hK⟩ := leK k; refine sr ?_; refine bo 2 ?_; refine gn 1 ?_; refine sy 2 ?_; refine cB 3 ent102 (g102 k  a0.A) H fun r3 H => ?_; refine mv ?_; refine sH H (fun hc H => ?_) (fun hc H => ?_)
 ·refine go 2 ?_; refine cB 4 ent102 (g102 k  a0.B) H fun r4 H => ?_; refine go 2 ?_; refine sH H (fun hc H => ?_) (fun hc H => ?_)
  ·refine gn 7 ?_; cases H; exact WpC.ret rt
  ·refine gn 7 ?_; cases H; exact WpC.ret rt
 ·refine gn 12 ?_; cases H; exact WpC.ret rt
/-! ### V_Index_Pair -/
def V_Index_Pair.l2 : Nat → (List T_Pair) → Int → Int → T_Pair → Option Int
 | 0, _, _, _, _ => none
 | k2 + 1, v29, v30, v31, v32 => cond (decide (v31 < v30)) ((at? v29 v31).bind fun b34 => cond ((v32.A == b34.A) && ((v32.B == b34.B) && true)) (some v31) ((V_Index_Pair.l2 k2) v29 v30 (IntKind.i64.wrap (v31 + 1)) v32)) (some (-1))
def V_Index_Pair (k : Nat) (a0 : List T_Pair) (a1 : T_Pair) : Option Int := V_Index_Pair.l2 k a0 (a0.length : Int) 0 a1
theorem ent160 : MG.Enters Tryz.prog 160 := en func160
theorem g160 (k : Nat) (g0 : Bool) (a0 : List T_Pair) (a1 : T_Pair) (r : Int) (H : V_Index_Pair k a0 a1 = some r) : Gives Tryz.prog 160 [V.one (Cell.sl g0 (List.map eT_Pair a0)), V.agg [cI a1.A, cI a1.B]] [] [V.one (cI r)] [] := by
 refine Gives.intro func160 rfl rfl rfl rfl ?_; refine fx fun w0 T S0 ob oh hm => ?_
 have hF := fxe w0 T S0 19 ob oh
 unfold V_Index_Pair at H; obtain ⟨K, hK⟩ := leK k; refine sr ?_; refine bo 3 ?_; refine gn 1 ?_; refine WpC.seq (sr ?_); refine mv ?_; refine L.lenR (xs := a0) (e := eT_Pair) underlying25 hF rfl rfl rfl rfl ?_; refine gn 1 ?_; refine WpC.block ?_; refine WpC.loopL (P := Tryz.prog) (fun n σ => ∃ (v29 : List T_Pair) (v30 v31 : Int) (v32 : T_Pair), n ≤ K ∧ V_Index_Pair.l2 n v29 v30 v31 v32 = some r ∧ σ = mkSt [(0, MG.one (Cell.sl g0 (List.map eT_Pair v29))), (3, oP 0 0), (7, oI v30), (8, oI v31)] [] [(0, [cI v32.A, cI v32.B])] 1) k ⟨_, ⟨a0, (a0.length : Int), 0, a1, by omega, H, rfl⟩, lm [(0, 3)] hm⟩ ?_; clear H
 rintro k2 _ ⟨v29, v30, v31, v32, hk2, H, rfl⟩
 cases k2 with
 | zero => cases H
 | succ k2 =>
  rw [V_Index_Pair.l2] at H
  refine sg 1 ?_; refine WpC.seq ?_; refine cd H (fun hc H => ?_) (fun hc H => ?_)
  ·refine WpC.skip (WpC.seq (WpC.block (sr ?_))); refine gn 2 ?_; refine WpC.seq ?_; refine S.begin mixed (by kernel_rfl) ?_; refine S.st 0 rfl rfl (Qu.load) (fun Q0 k0 => lp shape114 (L.nil k0)) ?_; refine S.st 1 rfl rfl ((Ca.move).quiet) (fun Q0 k0 => mv (L.nil k0)) ?_; refine S.st 2 rfl rfl ((Ca.move).quiet) (fun Q0 k0 => mv (L.nil k0)) ?_; obtain ⟨b34, hb34, H⟩ := bindS H; refine S.st 3 rfl rfl ((Ca.indexAddr).quiet) (fun Q0 k0 => ix underlying25 info114 hb34 (L.nil k0)) ?_; refine S.st 4 rfl rfl (Qu.load) (fun Q0 k0 => le shape114 (L.nil k0)) ?_; refine S.st 5 rfl rfl ((Ca.eqA (r := ((v32.A == b34.A) && ((v32.B == b34.B) && true))) rfl rfl rfl rfl (by kernel_rfl) (by kernel_rfl)).quiet) (fun Q0 k0 => L.eqA (r := ((v32.A == b34.A) && ((v32.B == b34.B) && true))) hF rfl rfl rfl rfl rfl rfl (by kernel_rfl) (by kernel_rfl) (L.nil k0)) ?_; refine S.nil ?_; refine cd H (fun hc H => ?_) (fun hc H => ?_)
   ·refine sg 2 ?_; cases H; exact WpC.ret rt
   ·refine WpC.skip (WpC.regionL ?_); refine gn 2 ?_; exact ⟨k2, _, by omega, ⟨v29, v30, (IntKind.i64.wrap (v31 + 1)), v32, by omega, H, rfl⟩, lm [(0, 0)] hm⟩
  ·refine WpC.exit (sr ?_); refine gn 1 ?_; cases H; exact WpC.ret rt
/-! ### V_Contains_Pair -/
def V_Contains_Pair (k : Nat) (a0 : List T_Pair) (a1 : T_Pair) : Option Bool := (V_Index_Pair k a0 a1).bind fun r1 => some (decide (r1 ≥ 0))
theorem ent107 : MG.Enters Tryz.prog 107 := en func107
theorem g107 (k : Nat) (g0 : Bool) (a0 : List T_Pair) (a1 : T_Pair) (r : Bool) (H : V_Contains_Pair k a0 a1 = some r) : Gives Tryz.prog 107 [V.one (Cell.sl g0 (List.map eT_Pair a0)), V.agg [cI a1.A, cI a1.B]] [] [V.one (cL r)] [] := by
 refine Gives.intro func107 rfl rfl rfl rfl ?_; refine fx fun w0 T S0 ob oh hm => ?_
 have hF := fxe w0 T S0 9 ob oh
 unfold V_Contains_Pair at H; obtain ⟨K, hK⟩ := leK k; refine sr ?_; refine bo 3 ?_; refine gn 1 ?_; refine sy 2 ?_; refine cB 4 ent160 (g160 k g0 a0 a1) H fun r1 H => ?_; refine gn 2 ?_; cases H; exact WpC.ret rt
/-! ### I_arePairs__impl_ConfigOk_1 -/
def I_arePairs__impl_ConfigOk_1.l2 : Nat → (List T_Pair) → Int → Int → Option Bool
 | 0, _, _, _ => none
 | k2 + 1, v84, v85, v86 => cond (decide (v86 < v85)) ((at? v84 v86).bind fun b94 => (I_ConfigOk_1 k2 b94).bind fun r98 => cond (!r98) (some false) ((part? v84 0 v86).bind fun b100 => (V_Contains_Pair k2 b100 b94).bind fun r101 => cond r101 (some false) ((I_arePairs__impl_ConfigOk_1.l2 k2) v84 v85 (IntKind.i64.wrap (v86 + 1))))) (some (decide ((v84.length : Int) ≤ 6)))
def I_arePairs__impl_ConfigOk_1 (k : Nat) (a0 : List T_Pair) : Option Bool := I_arePairs__impl_ConfigOk_1.l2 k a0 (a0.length : Int) 0
theorem ent100 : MG.Enters Tryz.prog 100 := en func100
theorem g100 (k : Nat) (g0 : Bool) (a0 : List T_Pair) (r : Bool) (H : I_arePairs__impl_ConfigOk_1 k a0 = some r) : Gives Tryz.prog 100 [V.one (Cell.sl g0 (List.map eT_Pair a0)), V.one (Cell.clo 101 [])] [] [V.one (cL r)] [] := by
 refine Gives.intro func100 rfl rfl rfl rfl ?_; refine fx fun w0 T S0 ob oh hm => ?_
 have hF := fxe w0 T S0 29 ob oh
 unfold I_arePairs__impl_ConfigOk_1 at H; obtain ⟨K, hK⟩ := leK k; refine sg 1 ?_; refine WpC.seq (sr ?_); refine mv ?_; refine L.lenR (xs := a0) (e := eT_Pair) underlying25 hF rfl rfl rfl rfl ?_; refine gn 1 ?_; refine WpC.block ?_; refine WpC.loopL (P := Tryz.prog) (fun n σ => ∃ (v84 : List T_Pair) (v85 v86 : Int), n ≤ K ∧ I_arePairs__impl_ConfigOk_1.l2 n v84 v85 v86 = some r ∧ σ = mkSt [(0, MG.one (Cell.sl g0 (List.map eT_Pair v84))), (1, MG.one (Cell.clo 101 [])), (7, MG.one (Cell.sl g0 (List.map eT_Pair v84))), (8, oI v85), (9, oI v86)] [] [] 0) k ⟨_, ⟨a0, (a0.length : Int), 0, by omega, H, rfl⟩, lm [] hm⟩ ?_; clear H
 rintro k2 _ ⟨v84, v85, v86, hk2, H, rfl⟩
 cases k2 with
 | zero => cases H
 | succ k2 =>
  rw [I_arePairs__impl_ConfigOk_1.l2] at H
  refine sg 1 ?_; refine WpC.seq ?_; refine cd H (fun hc H => ?_) (fun hc H => ?_)
  ·refine WpC.skip (WpC.seq (WpC.block (sr ?_))); refine mv ?_; obtain ⟨b94, hb94, H⟩ := bindS H; refine ix underlying25 info114 hb94 ?_; refine le shape114 ?_; refine alc 0 info114 ?_; refine gn 2 ?_; refine WpC.seq ?_; obtain ⟨r98, hr98, H⟩ := bindS H
   rcases Bool.eq_false_or_eq_true ((!r98)) with hc99 | hc99
   ·replace H := condT hc99 H
    apply ldT ⟨[e0 0 _, e0 1 _, e0 5 _, e0 6 _, e0 7 _, e0 8 _, e0 9 _, ed 14 1 _, ed 15 2 _, ed 16 3 _, ed 17 4 _, (18, [(5, some (oL true))]), ed 19 6 _, ed 20 7 _, ed 21 8 _, ed 22 9 _, ed 23 10 _, ed 24 11 _], [], [e0 0 _], 2, []⟩ [(0, 2044), (0, 2044), (3, 2040), (7, 2032), (15, 2016), (31, 1664), (31, 1664), (127, 1536), (31, 1536), (511, 1024), (1023, 0)] mixed ?L1 ?_
    case L1 =>
     repeat refine ls ?_
     apply lc 2 1 1 [16] [] [] ?h1_2 ?q1_2 ?_
     case h1_2 =>
      intro b; refine c0 2 ent101 (g101 k2  b94 r98 hr98) ?_; exact L.nil ⟨rfl, rfl, rfl, rfl⟩
     case' q1_2 => skip
     repeat refine ls ?_
     refine lg ?_
     repeat refine ls ?_
     exact trivial
     all_goals exact lq
    refine cT ?_; refine sg 1 ?_; cases H; exact WpC.ret rt
   ·replace H := condF hc99 H
    obtain ⟨b100, hb100, H⟩ := bindS H; obtain ⟨r101, hr101, H⟩ := bindS H
    apply ldT ⟨[e0 0 _, e0 1 _, e0 5 _, e0 6 _, e0 7 _, e0 8 _, e0 9 _, ed 14 1 _, ed 15 2 _, ed 16 3 _, ed 17 4 _, (18, [(5, some (oL false))]), ed 19 6 _, ed 20 7 _, ed 21 8 _, ed 22 9 _, ed 23 10 _, ed 24 11 _], [], [e0 0 _], 3, []⟩ [(0, 2044), (0, 2044), (3, 2040), (7, 2032), (15, 2016), (31, 1664), (31, 1664), (127, 1536), (31, 1536), (511, 1024), (1023, 0)] mixed ?L2 ?_
    case L2 =>
     repeat refine ls ?_
     apply lc 3 1 1 [16] [] [] ?h2_2 ?q2_2 ?_
     case h2_2 =>
      intro b; refine c0 3 ent101 (g101 k2  b94 r98 hr98) ?_; exact L.nil ⟨rfl, rfl, rfl, rfl⟩
     case' q2_2 => skip
     repeat refine ls ?_
     refine lg ?_
     repeat refine ls ?_
     apply lc 3 2 0 [21] [] [] ?h2_7 ?q2_7 ?_
     case h2_7 =>
      intro b; refine L.cutR (xs := v84) (ys := b100) (e := eT_Pair) underlying25 info114 hF rfl rfl rfl rfl rfl hb100 (fun _ => rfl) ?_; exact L.nil ⟨rfl, rfl, rfl, rfl⟩
     case' q2_7 => skip
     repeat refine ls ?_
     apply lc 3 2 1 [23] [] [] ?h2_9 ?q2_9 ?_
     case h2_9 =>
      intro b; refine c0 3 ent107 (g107 k2 g0 b100 b94 r101 hr101) ?_; exact L.nil ⟨rfl, rfl, rfl, rfl⟩
     case' q2_9 => skip
     repeat refine ls ?_
     exact trivial
     all_goals exact lq
    refine cd H (fun hc H => ?_) (fun hc H => ?_)
    ·refine sg 1 ?_; cases H; exact WpC.ret rt
    ·refine WpC.skip (WpC.regionL ?_); refine gn 2 ?_; exact ⟨k2, _, by omega, ⟨v84, v85, (IntKind.i64.wrap (v86 + 1)), by omega, H, rfl⟩, lm [] hm⟩
  ·refine WpC.exit (sr ?_); refine mv ?_; refine L.lenR (xs := v84) (e := eT_Pair) underlying25 hF rfl rfl rfl rfl ?_; refine gn 2 ?_; cases H; exact WpC.ret rt
/-! ### I_isService -/
def I_isService (k : Nat) (a0 : Int) : Option Bool := (I_within k a0 0 2).bind fun r1 => some r1
theorem ent55 : MG.Enters Tryz.prog 55 := en func55
theorem g55 (k : Nat) (a0 : Int) (r : Bool) (H : I_isService k a0 = some r) : Gives Tryz.prog 55 [V.one (cI a0)] [] [V.one (cL r)] [] := by
 refine Gives.intro func55 rfl rfl rfl rfl ?_; refine fx fun w0 T S0 ob oh hm => ?_
 have hF := fxe w0 T S0 5 ob oh
 unfold I_isService at H; obtain ⟨K, hK⟩ := leK k; refine sg 1 ?_; refine sy 1 ?_; refine cB 1 ent52 (g52 k  a0 0 2) H fun r1 H => ?_; refine gn 1 ?_; cases H; exact WpC.ret rt
/-! ### I_ConfigOk_2 -/
def I_ConfigOk_2 (k : Nat) (a0 : T_Pair) : Option Bool := (I_isService k a0.A).bind fun r3 => cond r3 ((I_isService k a0.B).bind fun r4 => some r4) (some false)
theorem ent103 : MG.Enters Tryz.prog 103 := en func103
theorem g103 (k : Nat) (a0 : T_Pair) (r : Bool) (H : I_ConfigOk_2 k a0 = some r) : Gives Tryz.prog 103 [V.agg [cI a0.A, cI a0.B]] [] [V.one (cL r)] [] := by
 refine Gives.intro func103 rfl rfl rfl rfl ?_; refine fx fun w0 T S0 ob oh hm => ?_
 have hF := fxe w0 T S0 11 ob oh
 unfold I_ConfigOk_2 at H; obtain ⟨K, hK⟩ := leK k; refine sr ?_; refine bo 2 ?_; refine gn 1 ?_; refine sy 2 ?_; refine cB 3 ent55 (g55 k  a0.A) H fun r3 H => ?_; refine mv ?_; refine sH H (fun hc H => ?_) (fun hc H => ?_)
 ·refine go 2 ?_; refine cB 4 ent55 (g55 k  a0.B) H fun r4 H => ?_; refine gn 2 ?_; cases H; exact WpC.ret rt
 ·refine gn 5 ?_; cases H; exact WpC.ret rt
/-! ### I_arePairs__impl_ConfigOk_2 -/
def I_arePairs__impl_ConfigOk_2.l2 : Nat → (List T_Pair) → Int → Int → Option Bool
 | 0, _, _, _ => none
 | k2 + 1, v84, v85, v86 => cond (decide (v86 < v85)) ((at? v84 v86).bind fun b94 => (I_ConfigOk_2 k2 b94).bind fun r98 => cond (!r98) (some false) ((part? v84 0 v86).bind fun b100 => (V_Contains_Pair k2 b100 b94).bind fun r101 => cond r101 (some false) ((I_arePairs__impl_ConfigOk_2.l2 k2) v84 v85 (IntKind.i64.wrap (v86 + 1))))) (some (decide ((v84.length : Int) ≤ 6)))
def I_arePairs__impl_ConfigOk_2 (k : Nat) (a0 : List T_Pair) : Option Bool := I_arePairs__impl_ConfigOk_2.l2 k a0 (a0.length : Int) 0
theorem I_arePairs__impl_ConfigOk_2_gives (k : Nat) (g0 : Bool) (a0 : List T_Pair) (r : Bool) (H : I_arePairs__impl_ConfigOk_2 k a0 = some r) : Gives Tryz.prog 100 [V.one (Cell.sl g0 (List.map eT_Pair a0)), V.one (Cell.clo 103 [])] [] [V.one (cL r)] [] := by
 refine Gives.intro func100 rfl rfl rfl rfl ?_; refine fx fun w0 T S0 ob oh hm => ?_
 have hF := fxe w0 T S0 29 ob oh
 unfold I_arePairs__impl_ConfigOk_2 at H; obtain ⟨K, hK⟩ := leK k; refine sg 1 ?_; refine WpC.seq (sr ?_); refine mv ?_; refine L.lenR (xs := a0) (e := eT_Pair) underlying25 hF rfl rfl rfl rfl ?_; refine gn 1 ?_; refine WpC.block ?_; refine WpC.loopL (P := Tryz.prog) (fun n σ => ∃ (v84 : List T_Pair) (v85 v86 : Int), n ≤ K ∧ I_arePairs__impl_ConfigOk_2.l2 n v84 v85 v86 = some r ∧ σ = mkSt [(0, MG.one (Cell.sl g0 (List.map eT_Pair v84))), (1, MG.one (Cell.clo 103 [])), (7, MG.one (Cell.sl g0 (List.map eT_Pair v84))), (8, oI v85), (9, oI v86)] [] [] 0) k ⟨_, ⟨a0, (a0.length : Int), 0, by omega, H, rfl⟩, lm [] hm⟩ ?_; clear H
 rintro k2 _ ⟨v84, v85, v86, hk2, H, rfl⟩
 cases k2 with
 | zero => cases H
 | succ k2 =>
  rw [I_arePairs__impl_ConfigOk_2.l2] at H
  refine sg 1 ?_; refine WpC.seq ?_; refine cd H (fun hc H => ?_) (fun hc H => ?_)
  ·refine WpC.skip (WpC.seq (WpC.block (sr ?_))); refine mv ?_; obtain ⟨b94, hb94, H⟩ := bindS H; refine ix underlying25 info114 hb94 ?_; refine le shape114 ?_; refine alc 0 info114 ?_; refine gn 2 ?_; refine WpC.seq ?_; obtain ⟨r98, hr98, H⟩ := bindS H
   rcases Bool.eq_false_or_eq_true ((!r98)) with hc99 | hc99
   ·replace H := condT hc99 H
    apply ldT ⟨[e0 0 _, e0 1 _, e0 5 _, e0 6 _, e0 7 _, e0 8 _, e0 9 _, ed 14 1 _, ed 15 2 _, ed 16 3 _, ed 17 4 _, (18, [(5, some (oL true))]), ed 19 6 _, ed 20 7 _, ed 21 8 _, ed 22 9 _, ed 23 10 _, ed 24 11 _], [], [e0 0 _], 2, []⟩ [(0, 2044), (0, 2044), (3, 2040), (7, 2032), (15, 2016), (31, 1664), (31, 1664), (127, 1536), (31, 1536), (511, 1024), (1023, 0)] mixed ?L1 ?_
    case L1 =>
     repeat refine ls ?_
     apply lc 2 1 1 [16] [] [] ?h1_2 ?q1_2 ?_
     case h1_2 =>
      intro b; refine c0 2 ent103 (g103 k2  b94 r98 hr98) ?_; exact L.nil ⟨rfl, rfl, rfl, rfl⟩
     case' q1_2 => skip
     repeat refine ls ?_
     refine lg ?_
     repeat refine ls ?_
     exact trivial
     all_goals exact lq
    refine cT ?_; refine sg 1 ?_; cases H; exact WpC.ret rt
   ·replace H := condF hc99 H
    obtain ⟨b100, hb100, H⟩ := bindS H; obtain ⟨r101, hr101, H⟩ := bindS H
    apply ldT ⟨[e0 0 _, e0 1 _, e0 5 _, e0 6 _, e0 7 _, e0 8 _, e0 9 _, ed 14 1 _, ed 15 2 _, ed 16 3 _, ed 17 4 _, (18, [(5, some (oL false))]), ed 19 6 _, ed 20 7 _, ed 21 8 _, ed 22 9 _, ed 23 10 _, ed 24 11 _], [], [e0 0 _], 3, []⟩ [(0, 2044), (0, 2044), (3, 2040), (7, 2032), (15, 2016), (31, 1664), (31, 1664), (127, 1536), (31, 1536), (511, 1024), (1023, 0)] mixed ?L2 ?_
    case L2 =>
     repeat refine ls ?_
     apply lc 3 1 1 [16] [] [] ?h2_2 ?q2_2 ?_
     case h2_2 =>
      intro b; refine c0 3 ent103 (g103 k2  b94 r98 hr98) ?_; exact L.nil ⟨rfl, rfl, rfl, rfl⟩
     case' q2_2 => skip
     repeat refine ls ?_
     refine lg ?_
     repeat refine ls ?_
     apply lc 3 2 0 [21] [] [] ?h2_7 ?q2_7 ?_
     case h2_7 =>
      intro b; refine L.cutR (xs := v84) (ys := b100) (e := eT_Pair) underlying25 info114 hF rfl rfl rfl rfl rfl hb100 (fun _ => rfl) ?_; exact L.nil ⟨rfl, rfl, rfl, rfl⟩
     case' q2_7 => skip
     repeat refine ls ?_
     apply lc 3 2 1 [23] [] [] ?h2_9 ?q2_9 ?_
     case h2_9 =>
      intro b; refine c0 3 ent107 (g107 k2 g0 b100 b94 r101 hr101) ?_; exact L.nil ⟨rfl, rfl, rfl, rfl⟩
     case' q2_9 => skip
     repeat refine ls ?_
     exact trivial
     all_goals exact lq
    refine cd H (fun hc H => ?_) (fun hc H => ?_)
    ·refine sg 1 ?_; cases H; exact WpC.ret rt
    ·refine WpC.skip (WpC.regionL ?_); refine gn 2 ?_; exact ⟨k2, _, by omega, ⟨v84, v85, (IntKind.i64.wrap (v86 + 1)), by omega, H, rfl⟩, lm [] hm⟩
  ·refine WpC.exit (sr ?_); refine mv ?_; refine L.lenR (xs := v84) (e := eT_Pair) underlying25 hF rfl rfl rfl rfl ?_; refine gn 2 ?_; cases H; exact WpC.ret rt
/-! ### I_areAll__impl_isRealm -/
def I_areAll__impl_isRealm.l2 : Nat → (List Int) → Int → Int → Int → Option Bool
 | 0, _, _, _, _ => none
 | k2 + 1, v39, v40, v41, v42 => cond (decide (v42 < v41)) ((at? v39 v42).bind fun b45 => (I_isRealm k2 b45).bind fun r46 => cond (!r46) (some false) ((I_areAll__impl_isRealm.l2 k2) v39 v40 v41 (IntKind.i64.wrap (v42 + 1)))) (some (decide ((v39.length : Int) ≤ v40)))
def I_areAll__impl_isRealm (k : Nat) (a0 : List Int) (a1 : Int) : Option Bool := I_areAll__impl_isRealm.l2 k a0 a1 (a0.length : Int) 0
theorem ent104 : MG.Enters Tryz.prog 104 := en func104
theorem g104 (k : Nat) (g0 : Bool) (a0 : List Int) (a1 : Int) (r : Bool) (H : I_areAll__impl_isRealm k a0 a1 = some r) : Gives Tryz.prog 104 [V.one (Cell.sl g0 (List.map eI a0)), V.one (cI a1), V.one (Cell.clo 102 [])] [] [V.one (cL r)] [] := by
 refine Gives.intro func104 rfl rfl rfl rfl ?_; refine fx fun w0 T S0 ob oh hm => ?_
 have hF := fxe w0 T S0 24 ob oh
 unfold I_areAll__impl_isRealm at H; obtain ⟨K, hK⟩ := leK k; refine sg 1 ?_; refine WpC.seq (sr ?_); refine mv ?_; refine L.lenR (xs := a0) (e := eI) underlying24 hF rfl rfl rfl rfl ?_; refine gn 1 ?_; refine WpC.block ?_; refine WpC.loopL (P := Tryz.prog) (fun n σ => ∃ (v39 : List Int) (v40 v41 v42 : Int), n ≤ K ∧ I_areAll__impl_isRealm.l2 n v39 v40 v41 v42 = some r ∧ σ = mkSt [(0, MG.one (Cell.sl g0 (List.map eI v39))), (1, oI v40), (2, MG.one (Cell.clo 102 [])), (9, MG.one (Cell.sl g0 (List.map eI v39))), (10, oI v41), (11, oI v42)] [] [] 0) k ⟨_, ⟨a0, a1, (a0.length : Int), 0, by omega, H, rfl⟩, lm [] hm⟩ ?_; clear H
 rintro k2 _ ⟨v39, v40, v41, v42, hk2, H, rfl⟩
 cases k2 with
 | zero => cases H
 | succ k2 =>
  rw [I_areAll__impl_isRealm.l2] at H
  refine sg 1 ?_; refine WpC.seq ?_; refine cd H (fun hc H => ?_) (fun hc H => ?_)
  ·refine WpC.skip (WpC.seq (WpC.block (sr ?_))); obtain ⟨b45, hb45, H⟩ := bindS H; refine ix underlying24 info3 hb45 ?_; refine gn 2 ?_; refine sy 2 ?_; refine cB 0 ent102 (g102 k2  b45) H fun r46 H => ?_; refine gn 1 ?_; refine cd H (fun hc H => ?_) (fun hc H => ?_)
   ·refine sg 1 ?_; cases H; exact WpC.ret rt
   ·refine WpC.skip (WpC.regionL ?_); refine gn 2 ?_; exact ⟨k2, _, by omega, ⟨v39, v40, v41, (IntKind.i64.wrap (v42 + 1)), by omega, H, rfl⟩, lm [] hm⟩
  ·refine WpC.exit (sr ?_); refine mv ?_; refine L.lenR (xs := v39) (e := eI) underlying24 hF rfl rfl rfl rfl ?_; refine gn 3 ?_; cases H; exact WpC.ret rt
/-! ### I_ConfigOk -/
def I_ConfigOk (k : Nat) (a0 : T_Config) : Option Bool := (I_arePairs__impl_ConfigOk_1 k a0.Links).bind fun r1 => (I_arePairs__impl_ConfigOk_2 k a0.Proxy).bind fun r2 => cond r1 (cond r2 (cond ((a0.UserRealm.length : Int) == 3) ((I_areAll__impl_isRealm k a0.UserRealm 3).bind fun r6 => cond r6 (cond ((a0.ServiceRealm.length : Int) == 3) ((I_areAll__impl_isRealm k a0.ServiceRealm 3).bind fun r7 => cond r7 ((I_within k a0.Skew 0 20).bind fun r8 => some r8) (some false)) (some false)) (some false)) (some false)) (some false)) (some false)
theorem ent54 : MG.Enters Tryz.prog 54 := en func54
theorem g54 (k : Nat) (g0 g1 g2 g3 : Bool) (a0 : T_Config) (r : Bool) (H : I_ConfigOk k a0 = some r) : Gives Tryz.prog 54 [V.agg (bT_Config g0 g1 g2 g3 a0)] [] [V.one (cL r)] [] := by
 refine Gives.intro func54 rfl rfl rfl rfl ?_; refine fx fun w0 T S0 ob oh hm => ?_
 have hF := fxe w0 T S0 42 ob oh
 unfold I_ConfigOk at H; obtain ⟨K, hK⟩ := leK k; refine sr ?_; refine bo 5 ?_; refine gn 1 ?_; refine sy 2 ?_; refine cB 6 ent100 (g100 k g2 a0.Links) H fun r1 H => ?_; refine gn 1 ?_; refine sy 2 ?_; refine cB 7 ent100 (I_arePairs__impl_ConfigOk_2_gives k g3 a0.Proxy) H fun r2 H => ?_; refine gn 1 ?_; refine sy 2 ?_; refine sH H (fun hc H => ?_) (fun hc H => ?_)
 ·refine go 3 ?_; refine sH H (fun hc H => ?_) (fun hc H => ?_)
  ·refine go 2 ?_; refine L.lenR (xs := a0.UserRealm) (e := eI) underlying24 hF rfl rfl rfl rfl ?_; refine go 3 ?_; refine sH H (fun hc H => ?_) (fun hc H => ?_)
   ·refine go 2 ?_; refine cB 8 ent104 (g104 k g0 a0.UserRealm 3) H fun r6 H => ?_; refine go 2 ?_; refine sH H (fun hc H => ?_) (fun hc H => ?_)
    ·refine go 2 ?_; refine L.lenR (xs := a0.ServiceRealm) (e := eI) underlying24 hF rfl rfl rfl rfl ?_; refine go 3 ?_; refine sH H (fun hc H => ?_) (fun hc H => ?_)
     ·refine go 2 ?_; refine cB 9 ent104 (g104 k g1 a0.ServiceRealm 3) H fun r7 H => ?_; refine go 2 ?_; refine sH H (fun hc H => ?_) (fun hc H => ?_)
      ·refine go 2 ?_; refine cB 10 ent52 (g52 k  a0.Skew 0 20) H fun r8 H => ?_; refine gn 2 ?_; cases H; exact WpC.ret rt
      ·refine gn 5 ?_; cases H; exact WpC.ret rt
     ·refine gn 10 ?_; cases H; exact WpC.ret rt
    ·refine gn 16 ?_; cases H; exact WpC.ret rt
   ·refine gn 21 ?_; cases H; exact WpC.ret rt
  ·refine gn 27 ?_; cases H; exact WpC.ret rt
 ·refine gn 30 ?_; cases H; exact WpC.ret rt
/-! ### I_copyInts -/
def I_copyInts (k : Nat) (a0 : List Int) : Option (List Int) := cond (decide ((2 * (([] : List Int).length + a0.length) + 192) * 8 ≤ 281474976710656)) (some (([] : List Int) ++ a0)) none
theorem ent98 : MG.Enters Tryz.prog 98 := en func98
theorem g98 (k : Nat) (g0 : Bool) (a0 r : List Int) (H : I_copyInts k a0 = some r) : Gives Tryz.prog 98 [V.one (Cell.sl g0 (List.map eI a0))] [] [V.one (Cell.ow 1 (List.map eI r))] [] := by
 refine Gives.intro func98 rfl rfl rfl rfl ?_; refine fx fun w0 T S0 ob oh hm => ?_
 have hF := fxe w0 T S0 5 ob oh
 unfold I_copyInts at H; obtain ⟨K, hK⟩ := leK k; refine sg 1 ?_; refine sy 1 ?_; obtain ⟨h1, H⟩ := condG H; refine L.append (xs := ([] : List Int)) (ys := a0) (e := eI) 1 underlying24 info3 rfl rfl hF rfl rfl rfl rfl rfl rfl rfl rfl (fun _ => rfl) (fun _ _ h1 _ => by cases h1) ⟨_, underlying24⟩ (of_decide_eq_true h1) rfl rfl ?_; refine gn 1 ?_; cases H; exact WpC.ret rt
/-! ### I_copyConfig -/
def I_copyConfig (k : Nat) (a0 : T_Config) : Option T_Config := (I_copyInts k a0.UserRealm).bind fun r1 => (I_copyInts k a0.ServiceRealm).bind fun r2 => cond (decide ((2 * (([] : List T_Pair).length + a0.Links.length) + 192) * 16 ≤ 281474976710656)) (cond (decide ((2 * (([] : List T_Pair).length + a0.Proxy.length) + 192) * 16 ≤ 281474976710656)) (some (⟨r1, r2, (([] : List T_Pair) ++ a0.Links), (([] : List T_Pair) ++ a0.Proxy), a0.Skew⟩ : T_Config)) none) none
theorem ent86 : MG.Enters Tryz.prog 86 := en func86
theorem g86 (k : Nat) (g0 g1 g2 g3 : Bool) (a0 r : T_Config) (H : I_copyConfig k a0 = some r) : Gives Tryz.prog 86 [V.agg (bT_Config g0 g1 g2 g3 a0)] [] [V.agg [Cell.ow 1 (List.map eI r.UserRealm), Cell.ow 1 (List.map eI r.ServiceRealm), Cell.ow 2 (List.map eT_Pair r.Links), Cell.ow 2 (List.map eT_Pair r.Proxy), cI r.Skew]] [] := by
 refine Gives.intro func86 rfl rfl rfl rfl ?_; refine fx fun w0 T S0 ob oh hm => ?_
 have hF := fxe w0 T S0 18 ob oh
 unfold I_copyConfig at H; obtain ⟨K, hK⟩ := leK k; refine sr ?_; refine bo 5 ?_; refine alc 6 info27 (L.nil ?_); refine WpC.seq ?_; obtain ⟨r1, hr1, H⟩ := bindS H; obtain ⟨r2, hr2, H⟩ := bindS H; obtain ⟨h3, H⟩ := condG H; obtain ⟨h4, H⟩ := condG H
 apply ldT ⟨[e0 1 _, e0 2 _, ed 3 1 _, ed 4 2 _, ed 5 3 _, ed 6 4 _, ed 7 5 _, ed 8 6 _, ed 9 7 _, ed 10 8 _, ed 11 9 _, ed 12 10 _, ed 13 11 _, ed 14 12 _, ed 15 13 _, ed 16 14 _, ed 17 15 _], [ed 7 3 _, ed 8 6 _, ed 9 9 _, ed 10 12 _], [e0 5 _, (6, [(16, some _), (0, some _)])], 11, []⟩ [(0, 51494), (1, 51492), (3, 51488), (0, 51504), (8, 51488), (31, 51456), (0, 51584), (64, 51456), (255, 51200), (0, 52224), (512, 51200), (2047, 49152), (0, 57344), (4096, 49152), (16383, 32768), (32767, 0)] mixed ?L1 ?_
 case L1 =>
  repeat refine ls ?_
  apply lc 11 7 1 [5] [7] [] ?h1_2 ?q1_2 ?_
  case h1_2 =>
   intro b; refine c0 11 ent98 (g98 k g0 a0.UserRealm r1 hr1) ?_; exact L.nil ⟨rfl, rfl, rfl, rfl⟩
  case' q1_2 => skip
  repeat refine ls ?_
  apply lc 11 8 1 [8] [8] [] ?h1_5 ?q1_5 ?_
  case h1_5 =>
   intro b; refine c0 11 ent98 (g98 k g1 a0.ServiceRealm r2 hr2) ?_; exact L.nil ⟨rfl, rfl, rfl, rfl⟩
  case' q1_5 => skip
  repeat refine ls ?_
  apply lc 11 9 1 [11] [9] [] ?h1_8 ?q1_8 ?_
  case h1_8 =>
   intro b; refine L.append (xs := ([] : List T_Pair)) (ys := a0.Links) (e := eT_Pair) 11 underlying25 info114 rfl rfl hF rfl rfl rfl rfl rfl rfl rfl rfl (fun _ => rfl) (fun _ _ h1 _ => by cases h1) ⟨_, underlying25⟩ (of_decide_eq_true h3) rfl rfl ?_; exact L.nil ⟨rfl, rfl, rfl, rfl⟩
  case' q1_8 => skip
  repeat refine ls ?_
  apply lc 11 10 1 [14] [10] [] ?h1_11 ?q1_11 ?_
  case h1_11 =>
   intro b; refine L.append (xs := ([] : List T_Pair)) (ys := a0.Proxy) (e := eT_Pair) 11 underlying25 info114 rfl rfl hF rfl rfl rfl rfl rfl rfl rfl rfl (fun _ => rfl) (fun _ _ h1 _ => by cases h1) ⟨_, underlying25⟩ (of_decide_eq_true h4) rfl rfl ?_; exact L.nil ⟨rfl, rfl, rfl, rfl⟩
  case' q1_11 => skip
  repeat refine ls ?_
  apply lc 11 11 0 [17] [] [] ?h1_14 ?q1_14 ?_
  case h1_14 =>
   intro b; refine bf built27 ?_; exact L.nil ⟨rfl, rfl, rfl, rfl⟩
  case' q1_14 => skip
  refine lb ?_; exact trivial
  all_goals exact lq
 cases H; exact WpC.ret rt
/-! ### I_NewCache -/
def I_NewCache (k : Nat)  : Option T_Cache := some (⟨(-1), []⟩ : T_Cache)
theorem ent87 : MG.Enters Tryz.prog 87 := en func87
theorem g87 (k : Nat)  (r : T_Cache) (H : I_NewCache k  = some r) : Gives Tryz.prog 87 [] [] [V.agg [cI r.Quiet, Cell.ow 3 (List.map eT_Auth r.Seen)]] [] := by
 refine Gives.intro func87 rfl rfl rfl rfl ?_; refine fx fun w0 T S0 ob oh hm => ?_
 have hF := fxe w0 T S0 2 ob oh
 unfold I_NewCache at H; obtain ⟨K, hK⟩ := leK k; refine sr ?_; refine alc 0 info123 (L.nil ?_); refine sr ?_; refine bf built123 ?_; refine gn 1 ?_; refine WpC.le (Le.ownB 0 1 1 3 rfl rfl rfl) ?_; cases H; exact WpC.ret rt
/-! ### I_NewWorld -/
def I_NewWorld.l2 : Nat → Int → T_Config → (List T_Wait) → (List T_Cache) → Option (T_World × Bool)
 | 0, _, _, _, _ => none
 | k2 + 1, v41, v42, v43, v44 => cond (decide (v41 < 3)) ((I_NewCache k2 ).bind fun r47 => cond (decide ((2 * (v44.length + ([r47] : List T_Cache).length) + 192) * 32 ≤ 281474976710656)) ((I_NewWorld.l2 k2) (IntKind.i64.wrap (v41 + 1)) v42 v43 (v44 ++ ([r47] : List T_Cache))) none) (some ((⟨v42, 0, 101, [], (⟨[], []⟩ : T_Known), v43, [], v44, [], [], []⟩ : T_World), true))
def I_NewWorld (k : Nat) (a0 : T_Config) : Option (T_World × Bool) := (I_ConfigOk k a0).bind fun r2 => cond (!r2) (some ((⟨(⟨[], [], [], [], 0⟩ : T_Config), 0, 0, [], (⟨[], []⟩ : T_Known), [], [], [], [], [], []⟩ : T_World), false)) ((I_copyConfig k a0).bind fun r3 => cond (decide ((0 : Int) ≤ 6 ∧ 6 ≤ 6 ∧ 32 * 6 ≤ 281474976710656 ∧ 6 ≤ 9223372036854775807)) (I_NewWorld.l2 k 0 r3 (List.replicate (6 : Int).toNat (⟨false, 0, 0, 0⟩ : T_Wait)) []) none)
theorem ent42 : MG.Enters Tryz.prog 42 := en func42
theorem g42 (k : Nat) (g0 g1 g2 g3 : Bool) (a0 : T_Config) (r : T_World × Bool) (H : I_NewWorld k a0 = some r) : Gives Tryz.prog 42 [V.agg (bT_Config g0 g1 g2 g3 a0)] [] [V.agg [Cell.ow 1 (List.map eI r.1.Config.UserRealm), Cell.ow 1 (List.map eI r.1.Config.ServiceRealm), Cell.ow 2 (List.map eT_Pair r.1.Config.Links), Cell.ow 2 (List.map eT_Pair r.1.Config.Proxy), cI r.1.Config.Skew, cI r.1.Now, cI r.1.Fresh, Cell.ow 1 (List.map eS r.1.Net), Cell.ow 1 (List.map eS r.1.Known.Terms), Cell.ow 1 (List.map eI r.1.Known.Keys), Cell.ow 4 (List.map eT_Wait r.1.Waits), Cell.ow 8 (List.map eT_Cred r.1.Creds), Cell.ow 2 (List.map eT_Cache r.1.Caches), Cell.ow 11 (List.map eT_Event r.1.Log), Cell.ow 15 (List.map eT_Accept r.1.Accepts), Cell.ow 1 (List.map eI r.1.Leaked)], V.one (cL r.2)] [] := by
 refine Gives.intro func42 rfl rfl rfl rfl ?_; refine fx fun w0 T S0 ob oh hm => ?_
 have hF := fxe w0 T S0 23 ob oh
 unfold I_NewWorld at H; obtain ⟨K, hK⟩ := leK k; refine sr ?_; refine bo 5 ?_; refine alc 6 info43 ?_; refine gn 1 ?_; refine WpC.seq (sr ?_); refine lp shape27 ?_; refine cB 7 ent54 (g54 k g0 g1 g2 g3 a0) H fun r2 H => ?_; refine gn 1 ?_; refine cd H (fun hc H => ?_) (fun hc H => ?_)
 ·refine sr ?_; refine bf built43 ?_; refine gn 2 ?_; refine WpC.le (Le.ownB 6 0 8 1 rfl rfl rfl) ?_; refine WpC.le (Le.ownB 6 1 9 1 rfl rfl rfl) ?_; refine WpC.le (Le.ownB 6 2 10 2 rfl rfl rfl) ?_; refine WpC.le (Le.ownB 6 3 11 2 rfl rfl rfl) ?_; refine WpC.le (Le.ownB 6 7 12 1 rfl rfl rfl) ?_; refine WpC.le (Le.ownB 6 8 13 1 rfl rfl rfl) ?_; refine WpC.le (Le.ownB 6 9 14 1 rfl rfl rfl) ?_; refine WpC.le (Le.ownB 6 10 15 4 rfl rfl rfl) ?_; refine WpC.le (Le.ownB 6 11 16 8 rfl rfl rfl) ?_; refine WpC.le (Le.ownB 6 12 17 2 rfl rfl rfl) ?_; refine WpC.le (Le.ownB 6 13 18 11 rfl rfl rfl) ?_; refine WpC.le (Le.ownB 6 14 19 15 rfl rfl rfl) ?_; refine WpC.le (Le.ownB 6 15 20 1 rfl rfl rfl) ?_; cases H; exact WpC.ret rt
 ·refine WpC.skip (WpC.seq ?_); obtain ⟨r3, hr3, H⟩ := bindS H; obtain ⟨h4, H⟩ := condG H
  apply ldT ⟨[e0 1 _, e0 2 _, ed 4 5 _, ed 9 1 _, ed 10 2 _, ed 11 3 _, ed 12 4 _], [ed 8 2 _, ed 9 2 _, ed 10 2 _, ed 11 2 _, ed 13 3 _], [e0 5 _, e0 6 _, (14, [(6, some _), (5, some _)])], 15, []⟩ [(0, 42), (1, 40), (0, 40), (7, 32), (0, 32), (31, 0)] mixed ?L1 ?_
  case L1 =>
   repeat refine ls ?_
   apply lc 15 8 5 [10] [8, 9, 10, 11] [] ?h1_1 ?q1_1 ?_
   case h1_1 =>
    intro b; refine c0 15 ent86 (g86 k g0 g1 g2 g3 a0 r3 hr3) ?_; exact L.nil ⟨rfl, rfl, rfl, rfl⟩
   case' q1_1 => skip
   apply lc 15 13 1 [11] [13] [] ?h1_2 ?q1_2 ?_
   case h1_2 =>
    intro b; refine L.makeSlice (e := eT_Wait) 15 (⟨false, 0, 0, 0⟩ : T_Wait) underlying37 info143 rfl rfl rfl hF rfl rfl rfl rfl (of_decide_eq_true h4) rfl rfl ?_; exact L.nil ⟨rfl, rfl, rfl, rfl⟩
   case' q1_2 => skip
   apply lc 15 14 0 [12] [] [] ?h1_3 ?q1_3 ?_
   case h1_3 =>
    intro b; refine bf built43 ?_; exact L.nil ⟨rfl, rfl, rfl, rfl⟩
   case' q1_3 => skip
   apply lc 15 14 1 [4] [] [14] ?h1_4 ?q1_4 ?_
   case h1_4 =>
    intro b; refine alc 15 info43 ?_; exact L.nil ⟨rfl, rfl, rfl, rfl⟩
   case' q1_4 => skip
   refine lb ?_; exact trivial
   all_goals exact lq
  refine WpC.seq (sr ?_); refine gn 1 ?_; refine WpC.block ?_; refine WpC.loopL (P := Tryz.prog) (fun n σ => ∃ (v41 : Int) (v42 : T_Config) (v43 : List T_Wait) (v44 : List T_Cache), n ≤ K ∧ I_NewWorld.l2 n v41 v42 v43 v44 = some r ∧ σ = mkSt [(2, oP 0 0), (4, oP 1 0), (13, oI v41)] [(2, ⟨1, List.map eI v42.UserRealm⟩), (3, ⟨1, List.map eI v42.ServiceRealm⟩), (4, ⟨2, List.map eT_Pair v42.Links⟩), (5, ⟨2, List.map eT_Pair v42.Proxy⟩), (6, ⟨4, List.map eT_Wait v43⟩), (7, ⟨2, List.map eT_Cache v44⟩)] [(0, zc1), (1, [Cell.own 2, Cell.own 3, Cell.own 4, Cell.own 5, cI v42.Skew, cI 0, cI 101, Cell.nil, Cell.nil, Cell.nil, Cell.own 6, Cell.nil, Cell.own 7, Cell.nil, Cell.nil, Cell.nil])] 8) k ⟨_, ⟨0, r3, (List.replicate (6 : Int).toNat (⟨false, 0, 0, 0⟩ : T_Wait)), [], by omega, H, rfl⟩, (Le.ownB 14 12 15 2 rfl rfl rfl).trans (lm [(0, 6), (1, 14), (2, 8), (3, 9), (4, 10), (5, 11), (6, 13), (7, 15)] hm)⟩ ?_; clear H
  rintro k2 _ ⟨v41, v42, v43, v44, hk2, H, rfl⟩
  cases k2 with
  | zero => cases H
  | succ k2 =>
   rw [I_NewWorld.l2] at H
   refine sg 1 ?_; refine WpC.seq ?_; refine cd H (fun hc H => ?_) (fun hc H => ?_)
   ·refine WpC.skip (WpC.seq (WpC.block ?_)); obtain ⟨r47, hr47, H⟩ := bindS H; obtain ⟨h48, H⟩ := condG H
    apply ldT ⟨[e0 2 _, e0 4 _, e0 13 _, ed 15 1 _, ed 16 2 _, ed 17 3 _, ed 18 4 _, ed 19 5 _, ed 20 6 _], [e0 2 _, e0 3 _, e0 4 _, e0 5 _, e0 6 _, (7, [(5, none), (0, some _)]), (9, [(4, none), (3, some _)]), (10, [(5, none), (4, some _)]), ed 11 5 _], [e0 0 _, (1, [(7, some _), (0, some _)])], 12, []⟩ [(0, 114), (1, 112), (0, 120), (4, 112), (15, 96), (31, 64), (63, 0)] mixed ?L2 ?_
    case L2 =>
     repeat refine ls ?_
     apply lc 12 8 2 [17] [9] [] ?h2_2 ?q2_2 ?_
     case h2_2 =>
      intro b; refine c0 12 ent87 (g87 k2   r47 hr47) ?_; exact L.nil ⟨rfl, rfl, rfl, rfl⟩
     case' q2_2 => skip
     apply lc 12 10 1 [18] [10] [] ?h2_3 ?q2_3 ?_
     case h2_3 =>
      intro b; refine L.buildSliceN (e := eT_Cache) 3 12 ([r47] : List T_Cache) underlying39 info123 rfl rfl rfl hF rfl rfl rfl rfl rfl rfl rfl rfl ?_; exact L.nil ⟨rfl, rfl, rfl, rfl⟩
     case' q2_3 => skip
     apply lc 12 11 1 [19] [11] [] ?h2_4 ?q2_4 ?_
     case h2_4 =>
      intro b; refine L.appendN (xs := v44) (ys := ([r47] : List T_Cache)) (e := eT_Cache) 12 underlying39 info123 rfl rfl hF rfl rfl rfl rfl rfl rfl rfl rfl rfl (fun _ _ h1 h2 => by cases h1; cases h2; rfl) underlying39 (of_decide_eq_true h48) rfl rfl ?_; exact L.nil ⟨rfl, rfl, rfl, rfl⟩
     case' q2_4 => skip
     repeat refine ls ?_
     refine lb ?_; exact trivial
     all_goals exact lq
    refine WpC.regionL ?_; refine gn 2 ?_; exact ⟨k2, _, by omega, ⟨(IntKind.i64.wrap (v41 + 1)), v42, v43, (v44 ++ ([r47] : List T_Cache)), by omega, H, rfl⟩, lm [(0, 0), (1, 1), (2, 2), (3, 3), (4, 4), (5, 5), (6, 6), (7, 11)] hm⟩
   ·refine WpC.exit (sr ?_); refine gn 3 ?_; refine WpC.le (Le.ownB 0 7 8 1 rfl rfl rfl) ?_; refine WpC.le (Le.ownB 0 8 9 1 rfl rfl rfl) ?_; refine WpC.le (Le.ownB 0 9 10 1 rfl rfl rfl) ?_; refine WpC.le (Le.ownB 0 11 11 8 rfl rfl rfl) ?_; refine WpC.le (Le.ownB 0 13 12 11 rfl rfl rfl) ?_; refine WpC.le (Le.ownB 0 14 13 15 rfl rfl rfl) ?_; refine WpC.le (Le.ownB 0 15 14 1 rfl rfl rfl) ?_; cases H; exact WpC.ret rt
/-! ### I_hexValue -/
def I_hexValue.j4 (k : Nat) (v7 : UInt8) (v8 : Bool) : Option Int := cond v8 (some (IntKind.i64.wrap (((v7 - (97 : UInt8)).toNat : Int) + 10))) (some (-1))
def I_hexValue.j3 (k : Nat) (v5 : UInt8) (v6 : Bool) : Option Int := cond v6 (some ((v5 - (48 : UInt8)).toNat : Int)) (cond (decide ((97 : UInt8) ≤ v5)) (I_hexValue.j4 k v5 (decide (v5 ≤ (102 : UInt8)))) (I_hexValue.j4 k v5 false))
def I_hexValue (k : Nat) (a0 : UInt8) : Option Int := cond (decide ((48 : UInt8) ≤ a0)) (I_hexValue.j3 k a0 (decide (a0 ≤ (57 : UInt8)))) (I_hexValue.j3 k a0 false)
theorem ent174 : MG.Enters Tryz.prog 174 := en func174
theorem g174 (k : Nat) (a0 : UInt8) (r : Int) (H : I_hexValue k a0 = some r) : Gives Tryz.prog 174 [V.one (cU a0)] [] [V.one (cI r)] [] := by
 refine Gives.intro func174 rfl rfl rfl rfl ?_; refine fx fun w0 T S0 ob oh hm => ?_
 have hF := fxe w0 T S0 24 ob oh
 unfold I_hexValue at H; obtain ⟨K, hK⟩ := leK k; refine sg 1 ?_; refine WpC.seq (WpC.block ?_); refine WpC.join (fun σ => ∃ (kj3 : Nat) (v5 : UInt8) (v6 : Bool), kj3 ≤ K ∧ I_hexValue.j3 kj3 v5 v6 = some r ∧ σ = mkSt [(0, MG.one (cU v5)), (3, oL v6)] [] [] 0) ?_ ?_
 ·rintro _ ⟨kj3, v5, v6, hkj3, H, rfl⟩
  unfold I_hexValue.j3 at H; refine cd H (fun hc H => ?_) (fun hc H => ?_)
  ·refine sy 1 ?_; refine L.binB (a := v5) (b := (48 : UInt8)) hF rfl rfl rfl rfl rfl ?_; refine L.ofB underlying5 underlying3 hF rfl rfl rfl ?_; refine gn 1 ?_; cases H; exact WpC.ret rt
  ·refine WpC.join (fun σ => ∃ (kj4 : Nat) (v7 : UInt8) (v8 : Bool), kj4 ≤ K ∧ I_hexValue.j4 kj4 v7 v8 = some r ∧ σ = mkSt [(0, MG.one (cU v7)), (13, oL v8)] [] [] 0) ?_ ?_
   ·rintro _ ⟨kj4, v7, v8, hkj4, H, rfl⟩
    unfold I_hexValue.j4 at H; refine cd H (fun hc H => ?_) (fun hc H => ?_)
    ·refine sy 1 ?_; refine L.binB (a := v7) (b := (97 : UInt8)) hF rfl rfl rfl rfl rfl ?_; refine L.ofB underlying5 underlying3 hF rfl rfl rfl ?_; refine gn 2 ?_; cases H; exact WpC.ret rt
    ·refine WpC.skip (sr ?_); refine gn 1 ?_; cases H; exact WpC.ret rt
   ·refine WpC.regionL ?_; refine mv ?_; refine L.binB (a := v5) (b := (97 : UInt8)) hF rfl rfl rfl rfl rfl ?_; refine mv ?_; refine sH H (fun hc H => ?_) (fun hc H => ?_)
    ·refine mv ?_; refine L.binB (a := v5) (b := (102 : UInt8)) hF rfl rfl rfl rfl rfl ?_; refine gn 2 ?_; exact ⟨_, ⟨kj3, v5, (decide (v5 ≤ (102 : UInt8))), by omega, H, rfl⟩, lm [] hm⟩
    ·refine gn 4 ?_; exact ⟨_, ⟨kj3, v5, false, by omega, H, rfl⟩, lm [] hm⟩
 ·refine WpC.regionL ?_; refine mv ?_; refine L.binB (a := a0) (b := (48 : UInt8)) hF rfl rfl rfl rfl rfl ?_; refine mv ?_; refine sH H (fun hc H => ?_) (fun hc H => ?_)
  ·refine mv ?_; refine L.binB (a := a0) (b := (57 : UInt8)) hF rfl rfl rfl rfl rfl ?_; refine gn 2 ?_; exact ⟨_, ⟨k, a0, (decide (a0 ≤ (57 : UInt8))), by omega, H, rfl⟩, lm [] hm⟩
  ·refine gn 4 ?_; exact ⟨_, ⟨k, a0, false, by omega, H, rfl⟩, lm [] hm⟩
/-! ### I_Unhex -/
def I_Unhex.l2 : Nat → (List UInt8) → (List UInt8) → Int → Option (List UInt8 × Bool)
 | 0, _, _, _ => none
 | k2 + 1, v65, v66, v67 => cond (decide (v67 < (v65.length : Int))) ((at? v65 v67).bind fun b73 => (I_hexValue k2 b73).bind fun r74 => (at? v65 (IntKind.i64.wrap (v67 + 1))).bind fun b75 => (I_hexValue k2 b75).bind fun r76 => cond (decide (r74 < 0)) (some (([] : List UInt8), false)) (cond (decide (r76 < 0)) (some (([] : List UInt8), false)) (cond (decide ((2 * (v66.length + ([(ofI (Go.bits .or .i64 (shlI .i64 r74 4) r76))] : List UInt8).length) + 192) * 1 ≤ 281474976710656)) ((I_Unhex.l2 k2) v65 (v66 ++ ([(ofI (Go.bits .or .i64 (shlI .i64 r74 4) r76))] : List UInt8)) (IntKind.i64.wrap (v67 + 2))) none))) (some (v66, true))
def I_Unhex (k : Nat) (a0 : List UInt8) : Option (List UInt8 × Bool) := cond ((Int.tmod (a0.length : Int) 2) != 0) (some (([] : List UInt8), false)) (cond (decide ((0 : Int) ≤ 0 ∧ 0 ≤ (IntKind.i64.wrap (Int.tdiv (a0.length : Int) 2)) ∧ 1 * (IntKind.i64.wrap (Int.tdiv (a0.length : Int) 2)) ≤ 281474976710656 ∧ (IntKind.i64.wrap (Int.tdiv (a0.length : Int) 2)) ≤ 9223372036854775807)) (I_Unhex.l2 k a0 (List.replicate (0 : Int).toNat (0 : UInt8)) 0) none)
theorem ent122 : MG.Enters Tryz.prog 122 := en func122
theorem g122 (k : Nat) (a0 : List UInt8) (r : List UInt8 × Bool) (H : I_Unhex k a0 = some r) : Gives Tryz.prog 122 [V.one (cS a0)] [] [V.one (cS r.1), V.one (cL r.2)] [] := by
 refine Gives.intro func122 rfl rfl rfl rfl ?_; refine fx fun w0 T S0 ob oh hm => ?_
 have hF := fxe w0 T S0 47 ob oh
 unfold I_Unhex at H; obtain ⟨K, hK⟩ := leK k; refine sg 2 ?_; refine WpC.seq (sr ?_); refine mv ?_; refine L.lenS underlying9 hF rfl rfl rfl ?_; refine L.rem hF rfl rfl rfl rfl (by decide) ?_; refine gn 1 ?_; refine cd H (fun hc H => ?_) (fun hc H => ?_)
 ·refine sg 2 ?_; cases H; exact WpC.ret rt
 ·refine WpC.skip (sr ?_); refine mv ?_; refine L.lenS underlying9 hF rfl rfl rfl ?_; refine L.quo hF rfl rfl rfl rfl (by decide) ?_; obtain ⟨h1, H⟩ := condG H; refine L.makeSlice (e := eB) 1 (0 : UInt8) underlying22 info5 rfl rfl rfl hF rfl rfl rfl rfl (of_decide_eq_true h1) rfl rfl ?_; refine gn 1 ?_; refine WpC.seq (sr ?_); refine gn 1 ?_; refine WpC.block ?_; refine WpC.loopL (P := Tryz.prog) (fun n σ => ∃ (v65 v66 : List UInt8) (v67 : Int), n ≤ K ∧ I_Unhex.l2 n v65 v66 v67 = some r ∧ σ = mkSt [(0, oS v65), (4, MG.one (Cell.own 0)), (5, oI v67)] [(0, ⟨1, List.map eB v66⟩)] [] 1) k ⟨_, ⟨a0, (List.replicate (0 : Int).toNat (0 : UInt8)), 0, by omega, H, rfl⟩, lm [(0, 1)] hm⟩ ?_; clear H
  rintro k2 _ ⟨v65, v66, v67, hk2, H, rfl⟩
  cases k2 with
  | zero => cases H
  | succ k2 =>
   rw [I_Unhex.l2] at H
   refine WpC.seq (sr ?_); refine go 2 ?_; refine L.lenS underlying9 hF rfl rfl rfl ?_; refine gn 1 ?_; refine cd H (fun hc H => ?_) (fun hc H => ?_)
   ·refine WpC.skip (WpC.seq (WpC.block (WpC.seq ?_))); obtain ⟨b73, hb73, H⟩ := bindS H; obtain ⟨r74, hr74, H⟩ := bindS H; obtain ⟨b75, hb75, H⟩ := bindS H; obtain ⟨r76, hr76, H⟩ := bindS H
    apply ldT ⟨[e0 0 _, e0 4 _, e0 5 _, ed 6 10 _, ed 7 11 _, ed 22 1 _, ed 23 2 _, ed 24 3 _, ed 25 4 _, ed 26 5 _, ed 27 6 _, ed 28 7 _, ed 29 8 _, ed 30 9 _], [e0 0 _], [], 3, []⟩ [(0, 1804), (0, 1804), (3, 1800), (7, 1792), (0, 1920), (0, 1984), (32, 1920), (112, 1792), (255, 1536), (511, 1024), (1023, 0)] mixed ?L1 ?_
    case L1 =>
     repeat refine ls ?_
     apply lc 3 1 0 [24] [] [] ?h1_2 ?q1_2 ?_
     case h1_2 =>
      intro b; refine L.idxS underlying9 hF rfl rfl rfl rfl hb73 ?_; exact L.nil ⟨rfl, rfl, rfl, rfl⟩
     case' q1_2 => skip
     apply lc 3 1 1 [25] [] [] ?h1_3 ?q1_3 ?_
     case h1_3 =>
      intro b; refine c0 3 ent174 (g174 k2  b73 r74 hr74) ?_; exact L.nil ⟨rfl, rfl, rfl, rfl⟩
     case' q1_3 => skip
     repeat refine ls ?_
     apply lc 3 2 0 [29] [] [] ?h1_7 ?q1_7 ?_
     case h1_7 =>
      intro b; refine L.idxS underlying9 hF rfl rfl rfl rfl hb75 ?_; exact L.nil ⟨rfl, rfl, rfl, rfl⟩
     case' q1_7 => skip
     apply lc 3 2 1 [30] [] [] ?h1_8 ?q1_8 ?_
     case h1_8 =>
      intro b; refine c0 3 ent174 (g174 k2  b75 r76 hr76) ?_; exact L.nil ⟨rfl, rfl, rfl, rfl⟩
     case' q1_8 => skip
     repeat refine ls ?_
     exact trivial
     all_goals exact lq
    refine WpC.seq (sr ?_); refine go 3 ?_; refine sH H (fun hc H => ?_) (fun hc H => ?_)
    ·refine gn 3 ?_; refine cT ?_; refine sg 2 ?_; cases H; exact WpC.ret rt
    ·refine gn 3 ?_; refine cd H (fun hc H => ?_) (fun hc H => ?_)
     ·refine sg 2 ?_; cases H; exact WpC.ret rt
     ·refine WpC.skip (WpC.regionL ?_); refine go 2 ?_; refine L.shl hF rfl rfl rfl rfl (by decide) ?_; refine go 2 ?_; refine L.toB underlying3 underlying5 hF rfl rfl rfl ?_; refine L.buildSlice (e := eB) 3 ([(ofI (Go.bits .or .i64 (shlI .i64 r74 4) r76))] : List UInt8) underlying22 info5 rfl rfl rfl hF rfl rfl rfl rfl rfl rfl rfl rfl ?_; obtain ⟨h77, H⟩ := condG H; refine L.append (xs := v66) (ys := ([(ofI (Go.bits .or .i64 (shlI .i64 r74 4) r76))] : List UInt8)) (e := eB) 4 underlying22 info5 rfl rfl hF rfl rfl rfl rfl rfl rfl rfl rfl (fun _ => rfl) (fun _ _ h1 h2 => by cases h1; cases h2; rfl) ⟨_, underlying22⟩ (of_decide_eq_true h77) rfl rfl ?_; refine gn 1 ?_; refine WpC.regionL ?_; refine gn 3 ?_; exact ⟨k2, _, by omega, ⟨v65, (v66 ++ ([(ofI (Go.bits .or .i64 (shlI .i64 r74 4) r76))] : List UInt8)), (IntKind.i64.wrap (v67 + 2)), by omega, H, rfl⟩, lm [(0, 4)] hm⟩
   ·refine WpC.exit (sr ?_); refine mv ?_; refine L.b2s (xs := v66) underlying22 underlying5 underlying9 hF rfl rfl rfl rfl ?_; refine gn 2 ?_; cases H; exact WpC.ret rt
/-! ### I_isNonce -/
def I_isNonce (k : Nat) (a0 : Int) : Option Bool := (I_within k a0 0 1000000).bind fun r1 => some r1
theorem ent161 : MG.Enters Tryz.prog 161 := en func161
theorem g161 (k : Nat) (a0 : Int) (r : Bool) (H : I_isNonce k a0 = some r) : Gives Tryz.prog 161 [V.one (cI a0)] [] [V.one (cL r)] [] := by
 refine Gives.intro func161 rfl rfl rfl rfl ?_; refine fx fun w0 T S0 ob oh hm => ?_
 have hF := fxe w0 T S0 5 ob oh
 unfold I_isNonce at H; obtain ⟨K, hK⟩ := leK k; refine sg 1 ?_; refine sy 1 ?_; refine cB 1 ent52 (g52 k  a0 0 1000000) H fun r1 H => ?_; refine gn 1 ?_; cases H; exact WpC.ret rt
/-! ### I_isKey -/
def I_isKey (k : Nat) (a0 : Int) : Option Bool := (I_within k a0 1 1000000).bind fun r1 => some r1
theorem ent50 : MG.Enters Tryz.prog 50 := en func50
theorem g50 (k : Nat) (a0 : Int) (r : Bool) (H : I_isKey k a0 = some r) : Gives Tryz.prog 50 [V.one (cI a0)] [] [V.one (cL r)] [] := by
 refine Gives.intro func50 rfl rfl rfl rfl ?_; refine fx fun w0 T S0 ob oh hm => ?_
 have hF := fxe w0 T S0 5 ob oh
 unfold I_isKey at H; obtain ⟨K, hK⟩ := leK k; refine sg 1 ?_; refine sy 1 ?_; refine cB 1 ent52 (g52 k  a0 1 1000000) H fun r1 H => ?_; refine gn 1 ?_; cases H; exact WpC.ret rt
/-! ### I_isPrincipal -/
def I_isPrincipal (k : Nat) (a0 : Int) : Option Bool := (I_within k a0 0 5).bind fun r1 => some r1
theorem ent53 : MG.Enters Tryz.prog 53 := en func53
theorem g53 (k : Nat) (a0 : Int) (r : Bool) (H : I_isPrincipal k a0 = some r) : Gives Tryz.prog 53 [V.one (cI a0)] [] [V.one (cL r)] [] := by
 refine Gives.intro func53 rfl rfl rfl rfl ?_; refine fx fun w0 T S0 ob oh hm => ?_
 have hF := fxe w0 T S0 5 ob oh
 unfold I_isPrincipal at H; obtain ⟨K, hK⟩ := leK k; refine sg 1 ?_; refine sy 1 ?_; refine cB 1 ent52 (g52 k  a0 0 5) H fun r1 H => ?_; refine gn 1 ?_; cases H; exact WpC.ret rt
/-! ### I_waitOk -/
def I_waitOk (k : Nat) (a0 : T_Wait) : Option Bool := cond (!a0.On) (some ((a0.On == false) && ((a0.Nonce == 0) && ((a0.Key == 0) && ((a0.Client == 0) && true))))) ((I_isNonce k a0.Nonce).bind fun r4 => cond r4 ((I_isKey k a0.Key).bind fun r5 => cond r5 ((I_isPrincipal k a0.Client).bind fun r6 => some r6) (some false)) (some false))
theorem ent108 : MG.Enters Tryz.prog 108 := en func108
theorem g108 (k : Nat) (a0 : T_Wait) (r : Bool) (H : I_waitOk k a0 = some r) : Gives Tryz.prog 108 [V.agg (bT_Wait a0)] [] [V.one (cL r)] [] := by
 refine Gives.intro func108 rfl rfl rfl rfl ?_; refine fx fun w0 T S0 ob oh hm => ?_
 have hF := fxe w0 T S0 22 ob oh
 unfold I_waitOk at H; obtain ⟨K, hK⟩ := leK k; refine sr ?_; refine bo 4 ?_; refine gn 1 ?_; refine WpC.seq (sr ?_); refine gn 3 ?_; refine cd H (fun hc H => ?_) (fun hc H => ?_)
 ·refine sy 1 ?_; refine bf built143 ?_; refine L.eqA (r := ((a0.On == false) && ((a0.Nonce == 0) && ((a0.Key == 0) && ((a0.Client == 0) && true))))) hF rfl rfl rfl rfl rfl rfl (by kernel_rfl) (by kernel_rfl) ?_; refine gn 1 ?_; cases H; exact WpC.ret rt
 ·refine WpC.skip (sr ?_); refine go 2 ?_; refine cB 5 ent161 (g161 k  a0.Nonce) H fun r4 H => ?_; refine mv ?_; refine sH H (fun hc H => ?_) (fun hc H => ?_)
  ·refine go 2 ?_; refine cB 6 ent50 (g50 k  a0.Key) H fun r5 H => ?_; refine go 2 ?_; refine sH H (fun hc H => ?_) (fun hc H => ?_)
   ·refine go 2 ?_; refine cB 7 ent53 (g53 k  a0.Client) H fun r6 H => ?_; refine gn 2 ?_; cases H; exact WpC.ret rt
   ·refine gn 5 ?_; cases H; exact WpC.ret rt
  ·refine gn 10 ?_; cases H; exact WpC.ret rt
/-! ### I_isFor -/
def I_isFor (k : Nat) (a0 : Int) : Option Bool := (I_isService k a0).bind fun r3 => cond r3 (some true) ((I_isRealm k (IntKind.i64.wrap (a0 - 10))).bind fun r4 => some r4)
theorem ent162 : MG.Enters Tryz.prog 162 := en func162
theorem g162 (k : Nat) (a0 : Int) (r : Bool) (H : I_isFor k a0 = some r) : Gives Tryz.prog 162 [V.one (cI a0)] [] [V.one (cL r)] [] := by
 refine Gives.intro func162 rfl rfl rfl rfl ?_; refine fx fun w0 T S0 ob oh hm => ?_
 have hF := fxe w0 T S0 10 ob oh
 unfold I_isFor at H; obtain ⟨K, hK⟩ := leK k; refine sg 1 ?_; refine sy 1 ?_; refine cB 1 ent55 (g55 k  a0) H fun r3 H => ?_; refine mv ?_; refine sH H (fun hc H => ?_) (fun hc H => ?_)
 ·refine gn 5 ?_; cases H; exact WpC.ret rt
 ·refine go 2 ?_; refine cB 2 ent102 (g102 k  (IntKind.i64.wrap (a0 - 10))) H fun r4 H => ?_; refine gn 2 ?_; cases H; exact WpC.ret rt
/-! ### I_isTime -/
def I_isTime (k : Nat) (a0 : Int) : Option Bool := (I_within k a0 0 100000).bind fun r1 => some r1
theorem ent105 : MG.Enters Tryz.prog 105 := en func105
theorem g105 (k : Nat) (a0 : Int) (r : Bool) (H : I_isTime k a0 = some r) : Gives Tryz.prog 105 [V.one (cI a0)] [] [V.one (cL r)] [] := by
 refine Gives.intro func105 rfl rfl rfl rfl ?_; refine fx fun w0 T S0 ob oh hm => ?_
 have hF := fxe w0 T S0 5 ob oh
 unfold I_isTime at H; obtain ⟨K, hK⟩ := leK k; refine sg 1 ?_; refine sy 1 ?_; refine cB 1 ent52 (g52 k  a0 0 100000) H fun r1 H => ?_; refine gn 1 ?_; cases H; exact WpC.ret rt
/-! ### I_RestOk -/
def I_RestOk (k : Nat) (a0 : T_Rest) : Option Bool := (I_within k a0.Servers 0 7).bind fun r4 => cond r4 ((I_within k a0.Ops 0 255).bind fun r5 => cond r5 ((I_isTime k a0.End).bind fun r6 => some r6) (some false)) (some false)
theorem ent56 : MG.Enters Tryz.prog 56 := en func56
theorem g56 (k : Nat) (a0 : T_Rest) (r : Bool) (H : I_RestOk k a0 = some r) : Gives Tryz.prog 56 [V.agg (bT_Rest a0)] [] [V.one (cL r)] [] := by
 refine Gives.intro func56 rfl rfl rfl rfl ?_; refine fx fun w0 T S0 ob oh hm => ?_
 have hF := fxe w0 T S0 16 ob oh
 unfold I_RestOk at H; obtain ⟨K, hK⟩ := leK k; refine sr ?_; refine bo 3 ?_; refine gn 1 ?_; refine sy 2 ?_; refine cB 4 ent52 (g52 k  a0.Servers 0 7) H fun r4 H => ?_; refine mv ?_; refine sH H (fun hc H => ?_) (fun hc H => ?_)
 ·refine go 2 ?_; refine cB 5 ent52 (g52 k  a0.Ops 0 255) H fun r5 H => ?_; refine go 2 ?_; refine sH H (fun hc H => ?_) (fun hc H => ?_)
  ·refine go 2 ?_; refine cB 6 ent105 (g105 k  a0.End) H fun r6 H => ?_; refine gn 2 ?_; cases H; exact WpC.ret rt
  ·refine gn 5 ?_; cases H; exact WpC.ret rt
 ·refine gn 10 ?_; cases H; exact WpC.ret rt
/-! ### I_Var -/
def I_Var.l2 : Nat → Int → (List UInt8) → Option (List UInt8)
 | 0, _, _ => none
 | k2 + 1, v16, v17 => cond (decide (v16 > 127)) (cond (decide ((2 * (v17.length + ([(ofI (Go.bits .or .i64 (Go.bits .and .i64 v16 127) 128))] : List UInt8).length) + 192) * 1 ≤ 281474976710656)) ((I_Var.l2 k2) (shrI .i64 v16 7) (v17 ++ ([(ofI (Go.bits .or .i64 (Go.bits .and .i64 v16 127) 128))] : List UInt8))) none) (cond (decide ((2 * (v17.length + ([(ofI v16)] : List UInt8).length) + 192) * 1 ≤ 281474976710656)) (some (v17 ++ ([(ofI v16)] : List UInt8))) none)
def I_Var (k : Nat) (a0 : Int) : Option (List UInt8) := (I_within k a0 0 562949953421311).bind fun r2 => cond (!r2) (some ([] : List UInt8)) (I_Var.l2 k a0 ([] : List UInt8))
theorem ent231 : MG.Enters Tryz.prog 231 := en func231
theorem g231 (k : Nat) (a0 : Int) (r : List UInt8) (H : I_Var k a0 = some r) : Gives Tryz.prog 231 [V.one (cI a0)] [] [V.one (cS r)] [] := by
 refine Gives.intro func231 rfl rfl rfl rfl ?_; refine fx fun w0 T S0 ob oh hm => ?_
 have hF := fxe w0 T S0 25 ob oh
 unfold I_Var at H; obtain ⟨K, hK⟩ := leK k; refine sg 1 ?_; refine WpC.seq (sr ?_); refine mv ?_; refine cB 1 ent52 (g52 k  a0 0 562949953421311) H fun r2 H => ?_; refine gn 1 ?_; refine cd H (fun hc H => ?_) (fun hc H => ?_)
 ·refine sg 1 ?_; cases H; exact WpC.ret rt
 ·refine WpC.skip (sr ?_); refine L.buildSlice (e := eB) 2 ([] : List UInt8) underlying22 info5 rfl rfl rfl hF rfl rfl rfl rfl rfl rfl rfl rfl ?_; refine gn 1 ?_; refine WpC.seq (WpC.block ?_); refine WpC.loopL (P := Tryz.prog) (fun n σ => ∃ (v16 : Int) (v17 : List UInt8), n ≤ K ∧ I_Var.l2 n v16 v17 = some r ∧ σ = mkSt [(0, oI v16), (3, MG.one (Cell.own 0))] [(0, ⟨1, List.map eB v17⟩)] [] 1) k ⟨_, ⟨a0, ([] : List UInt8), by omega, H, rfl⟩, lm [(0, 2)] hm⟩ ?_; clear H
  rintro k2 _ ⟨v16, v17, hk2, H, rfl⟩
  cases k2 with
  | zero => cases H
  | succ k2 =>
   rw [I_Var.l2] at H
   refine WpC.seq (sr ?_); refine gn 2 ?_; refine cd H (fun hc H => ?_) (fun hc H => ?_)
   ·refine WpC.skip (WpC.block (sr ?_)); refine go 4 ?_; refine L.toB underlying3 underlying5 hF rfl rfl rfl ?_; refine L.buildSlice (e := eB) 1 ([(ofI (Go.bits .or .i64 (Go.bits .and .i64 v16 127) 128))] : List UInt8) underlying22 info5 rfl rfl rfl hF rfl rfl rfl rfl rfl rfl rfl rfl ?_; obtain ⟨h18, H⟩ := condG H; refine L.append (xs := v17) (ys := ([(ofI (Go.bits .or .i64 (Go.bits .and .i64 v16 127) 128))] : List UInt8)) (e := eB) 2 underlying22 info5 rfl rfl hF rfl rfl rfl rfl rfl rfl rfl rfl (fun _ => rfl) (fun _ _ h1 h2 => by cases h1; cases h2; rfl) ⟨_, underlying22⟩ (of_decide_eq_true h18) rfl rfl ?_; refine gn 1 ?_; refine WpC.regionL ?_; refine mv ?_; refine L.shr hF rfl rfl rfl rfl (by decide) ?_; refine gn 1 ?_; exact ⟨k2, _, by omega, ⟨(shrI .i64 v16 7), (v17 ++ ([(ofI (Go.bits .or .i64 (Go.bits .and .i64 v16 127) 128))] : List UInt8)), by omega, H, rfl⟩, lm [(0, 2)] hm⟩
   ·refine WpC.exit (sr ?_); refine go 2 ?_; refine L.toB underlying3 underlying5 hF rfl rfl rfl ?_; refine L.buildSlice (e := eB) 1 ([(ofI v16)] : List UInt8) underlying22 info5 rfl rfl rfl hF rfl rfl rfl rfl rfl rfl rfl rfl ?_; obtain ⟨h19, H⟩ := condG H; refine L.append (xs := v17) (ys := ([(ofI v16)] : List UInt8)) (e := eB) 2 underlying22 info5 rfl rfl hF rfl rfl rfl rfl rfl rfl rfl rfl (fun _ => rfl) (fun _ _ h1 h2 => by cases h1; cases h2; rfl) ⟨_, underlying22⟩ (of_decide_eq_true h19) rfl rfl ?_; refine L.b2s (xs := (v17 ++ ([(ofI v16)] : List UInt8))) underlying22 underlying5 underlying9 hF rfl rfl rfl rfl ?_; refine gn 1 ?_; cases H; exact WpC.ret rt
/-! ### I_ReadVar -/
def I_ReadVar.l2 : Nat → (List UInt8) → Int → Int → Option (Int × Int)
 | 0, _, _, _ => none
 | k2 + 1, v82, v83, v84 => cond (decide (v84 < (v82.length : Int))) (cond (decide (v84 < 7)) ((at? v82 v84).bind fun b92 => cond (!(decide ((IntKind.i64.wrap (7 * v84)) < 0))) ((at? v82 v84).bind fun b94 => cond (decide (b94 < (128 : UInt8))) ((I_Var k2 (Go.bits .or .i64 v83 (shlI .i64 ((b92 &&& (127 : UInt8)).toNat : Int) (IntKind.i64.wrap (7 * v84))))).bind fun r97 => (cut? v82 0 (IntKind.i64.wrap (v84 + 1))).bind fun b98 => cond (r97 != b98) (some (0, 0)) (some ((Go.bits .or .i64 v83 (shlI .i64 ((b92 &&& (127 : UInt8)).toNat : Int) (IntKind.i64.wrap (7 * v84)))), (IntKind.i64.wrap (v84 + 1))))) ((I_ReadVar.l2 k2) v82 (Go.bits .or .i64 v83 (shlI .i64 ((b92 &&& (127 : UInt8)).toNat : Int) (IntKind.i64.wrap (7 * v84)))) (IntKind.i64.wrap (v84 + 1)))) none) (some (0, 0))) (some (0, 0))
def I_ReadVar (k : Nat) (a0 : List UInt8) : Option (Int × Int) := I_ReadVar.l2 k a0 0 0
theorem ent196 : MG.Enters Tryz.prog 196 := en func196
theorem g196 (k : Nat) (a0 : List UInt8) (r : Int × Int) (H : I_ReadVar k a0 = some r) : Gives Tryz.prog 196 [V.one (cS a0)] [] [V.one (cI r.1), V.one (cI r.2)] [] := by
 refine Gives.intro func196 rfl rfl rfl rfl ?_; refine fx fun w0 T S0 ob oh hm => ?_
 have hF := fxe w0 T S0 40 ob oh
 unfold I_ReadVar at H; obtain ⟨K, hK⟩ := leK k; refine sg 2 ?_; refine sg 1 ?_; refine WpC.seq (sr ?_); refine gn 1 ?_; refine WpC.block ?_; refine WpC.loopL (P := Tryz.prog) (fun n σ => ∃ (v82 : List UInt8) (v83 v84 : Int), n ≤ K ∧ I_ReadVar.l2 n v82 v83 v84 = some r ∧ σ = mkSt [(0, oS v82), (4, oI v83), (5, oI v84)] [] [] 0) k ⟨_, ⟨a0, 0, 0, by omega, H, rfl⟩, lm [] hm⟩ ?_; clear H
 rintro k2 _ ⟨v82, v83, v84, hk2, H, rfl⟩
 cases k2 with
 | zero => cases H
 | succ k2 =>
  rw [I_ReadVar.l2] at H
  refine WpC.seq (sr ?_); refine go 2 ?_; refine L.lenS underlying9 hF rfl rfl rfl ?_; refine go 2 ?_; refine sH H (fun hc H => ?_) (fun hc H => ?_)
  ·refine gn 3 ?_; refine cd H (fun hc H => ?_) (fun hc H => ?_)
   ·refine WpC.skip (WpC.seq (WpC.block (sr ?_))); refine go 3 ?_; obtain ⟨b92, hb92, H⟩ := bindS H; refine L.idxS underlying9 hF rfl rfl rfl rfl hb92 ?_; refine L.binB (a := b92) (b := (127 : UInt8)) hF rfl rfl rfl rfl rfl ?_; refine L.ofB underlying5 underlying3 hF rfl rfl rfl ?_; refine go 2 ?_; obtain ⟨h93, H⟩ := condG H; refine L.shl hF rfl rfl rfl rfl (by simpa using h93) ?_; refine gn 2 ?_; refine sy 2 ?_; obtain ⟨b94, hb94, H⟩ := bindS H; refine L.idxS underlying9 hF rfl rfl rfl rfl hb94 ?_; refine L.binB (a := b94) (b := (128 : UInt8)) hF rfl rfl rfl rfl rfl (L.nil ?_); refine cd H (fun hc H => ?_) (fun hc H => ?_)
    ·refine WpC.seq (WpC.seq ?_); obtain ⟨r97, hr97, H⟩ := bindS H; obtain ⟨b98, hb98, H⟩ := bindS H
     apply ldT ⟨[e0 0 _, e0 4 _, e0 5 _, ed 30 1 _, ed 31 2 _, ed 32 3 _, ed 33 4 _, ed 34 5 _, ed 35 6 _, ed 36 7 _], [], [], 1, []⟩ [(0, 66), (1, 64), (0, 96), (0, 112), (8, 96), (28, 64), (63, 0)] mixed ?L1 ?_
     case L1 =>
      repeat refine ls ?_
      apply lc 1 0 1 [31] [] [] ?h1_1 ?q1_1 ?_
      case h1_1 =>
       intro b; refine c0 1 ent231 (g231 k2  (Go.bits .or .i64 v83 (shlI .i64 ((b92 &&& (127 : UInt8)).toNat : Int) (IntKind.i64.wrap (7 * v84)))) r97 hr97) ?_; exact L.nil ⟨rfl, rfl, rfl, rfl⟩
      case' q1_1 => skip
      repeat refine ls ?_
      apply lc 1 1 0 [35] [] [] ?h1_5 ?q1_5 ?_
      case h1_5 =>
       intro b; refine L.cutS underlying9 hF rfl rfl rfl rfl rfl hb98 ?_; exact L.nil ⟨rfl, rfl, rfl, rfl⟩
      case' q1_5 => skip
      apply lc 1 1 0 [36] [] [] ?h1_6 ?q1_6 ?_
      case h1_6 =>
       intro b; refine L.binS hF rfl rfl rfl rfl rfl ?_; exact L.nil ⟨rfl, rfl, rfl, rfl⟩
      case' q1_6 => skip
      exact trivial
      all_goals exact lq
     refine cd H (fun hc H => ?_) (fun hc H => ?_)
     ·refine sg 2 ?_; cases H; exact WpC.ret rt
     ·refine WpC.skip (sr ?_); refine gn 5 ?_; cases H; exact WpC.ret rt
    ·refine WpC.skip (WpC.regionL ?_); refine gn 3 ?_; exact ⟨k2, _, by omega, ⟨v82, (Go.bits .or .i64 v83 (shlI .i64 ((b92 &&& (127 : UInt8)).toNat : Int) (IntKind.i64.wrap (7 * v84)))), (IntKind.i64.wrap (v84 + 1)), by omega, H, rfl⟩, lm [] hm⟩
   ·refine WpC.exit (sr ?_); refine gn 2 ?_; cases H; exact WpC.ret rt
  ·refine gn 3 ?_; refine cF ?_; refine WpC.exit (sr ?_); refine gn 2 ?_; cases H; exact WpC.ret rt
/-! ### I_varAt -/
def I_varAt (k : Nat) (a0 : List UInt8) (a1 : Int) : Option (Int × Int) := (cut? a0 a1 (a0.length : Int)).bind fun b1 => (I_ReadVar k b1).bind fun r2 => cond (r2.2 == 0) (some ((-1), a1)) (some (r2.1, (IntKind.i64.wrap (a1 + r2.2))))
theorem ent148 : MG.Enters Tryz.prog 148 := en func148
theorem g148 (k : Nat) (a0 : List UInt8) (a1 : Int) (r : Int × Int) (H : I_varAt k a0 a1 = some r) : Gives Tryz.prog 148 [V.one (cS a0), V.one (cI a1)] [] [V.one (cI r.1), V.one (cI r.2)] [] := by
 refine Gives.intro func148 rfl rfl rfl rfl ?_; refine fx fun w0 T S0 ob oh hm => ?_
 have hF := fxe w0 T S0 22 ob oh
 unfold I_varAt at H; obtain ⟨K, hK⟩ := leK k; refine sg 2 ?_; refine sy 2 ?_; obtain ⟨b1, hb1, H⟩ := bindS H; refine L.cutS underlying9 hF rfl rfl rfl rfl rfl hb1 ?_; refine cB 2 ent196 (g196 k  b1) H fun r2 H => ?_; refine gn 5 ?_; refine WpC.seq (sr ?_); refine gn 2 ?_; refine cd H (fun hc H => ?_) (fun hc H => ?_)
 ·refine sg 3 ?_; cases H; exact WpC.ret rt
 ·refine WpC.skip (sr ?_); refine gn 6 ?_; cases H; exact WpC.ret rt
/-! ### I_termAt -/
def I_termAt.l4 (cREC : (List UInt8) → Int → Int → Option Int) : Nat → (List UInt8) → Int → Int → Int → Int → Option Int
 | 0, _, _, _, _, _ => none
 | k4 + 1, v96, v97, v98, v99, v100 => cond (decide (v100 < v98)) (cond (decide (v99 ≥ 0)) ((cREC v96 v99 (IntKind.i64.wrap (v97 - 1))).bind fun r102 => (I_termAt.l4 cREC k4) v96 v97 v98 r102 (IntKind.i64.wrap (v100 + 1))) (some v99)) (some v99)
def I_termAt : Nat → (List UInt8) → Int → Int → Option Int
 | 0, _, _, _ => none
 | k + 1, a0, a1, a2 => cond (decide (a1 ≥ (a0.length : Int))) (some (-1)) (cond (decide (a2 < 1)) (some (-1)) ((I_varAt k a0 (IntKind.i64.wrap (a1 + 1))).bind fun r1 => (at? a0 a1).bind fun b54 => cond (b54 == (97 : UInt8)) ((I_within k r1.1 0 40).bind fun r58 => cond (!r58) (some (-1)) (cond (decide (r1.1 > (IntKind.i64.wrap ((a0.length : Int) - r1.2)))) (some (-1)) (some (IntKind.i64.wrap (r1.2 + r1.1))))) (cond (b54 == (107 : UInt8)) ((I_isKey k r1.1).bind fun r60 => cond (!r60) (some (-1)) (some r1.2)) (cond (b54 == (108 : UInt8)) ((I_within k r1.1 0 12).bind fun r62 => cond (!r62) (some (-1)) (I_termAt.l4 (I_termAt k) k a0 a2 r1.1 r1.2 0)) (cond (b54 == (115 : UInt8)) ((I_isKey k r1.1).bind fun r104 => cond (!r104) (some (-1)) (((I_termAt k) a0 r1.2 (IntKind.i64.wrap (a2 - 1))).bind fun r105 => some r105)) (some (-1)))))))
theorem ent143 : MG.Enters Tryz.prog 143 := en func143
theorem g143 : ∀ (k : Nat) (a0 : List UInt8) (a1 a2 r : Int) (H : I_termAt k a0 a1 a2 = some r), Gives Tryz.prog 143 [V.one (cS a0), V.one (cI a1), V.one (cI a2)] [] [V.one (cI r)] [] := by
 intro k
 induction k with
 | zero => intros; rename_i H; cases H
 | succ k ih =>
  intro a0 a1 a2 r H; refine Gives.intro func143 rfl rfl rfl rfl ?_; refine fx fun w0 T S0 ob oh hm => ?_
  have hF := fxe w0 T S0 80 ob oh
  rw [I_termAt] at H
  obtain ⟨K, hK⟩ := leK k; refine sg 1 ?_; refine WpC.seq (sr ?_); refine go 2 ?_; refine L.lenS underlying9 hF rfl rfl rfl ?_; refine go 2 ?_; refine sH H (fun hc H => ?_) (fun hc H => ?_)
  ·refine gn 3 ?_; refine cT ?_; refine sg 1 ?_; cases H; exact WpC.ret rt
  ·refine gn 3 ?_; refine cd H (fun hc H => ?_) (fun hc H => ?_)
   ·refine sg 1 ?_; cases H; exact WpC.ret rt
   ·refine WpC.skip (sr ?_); refine go 3 ?_; refine cB 3 ent148 (g148 k  a0 (IntKind.i64.wrap (a1 + 1))) H fun r1 H => ?_; refine gn 5 ?_; refine WpC.seq (sr ?_); refine go 2 ?_; obtain ⟨b54, hb54, H⟩ := bindS H; refine L.idxS underlying9 hF rfl rfl rfl rfl hb54 (L.nil ?_); refine WpC.block (sr ?_); refine L.binB (a := b54) (b := (97 : UInt8)) hF rfl rfl rfl rfl rfl ?_; refine gn 1 ?_; refine cd H (fun hc H => ?_) (fun hc H => ?_)
    ·refine WpC.seq (sr ?_); refine mv ?_; refine cB 5 ent52 (g52 k  r1.1 0 40) H fun r58 H => ?_; refine go 2 ?_; refine sH H (fun hc H => ?_) (fun hc H => ?_)
     ·refine gn 7 ?_; refine cT ?_; refine sg 1 ?_; cases H; exact WpC.ret rt
     ·refine go 2 ?_; refine L.lenS underlying9 hF rfl rfl rfl ?_; refine gn 4 ?_; refine cd H (fun hc H => ?_) (fun hc H => ?_)
      ·refine sg 1 ?_; cases H; exact WpC.ret rt
      ·refine WpC.skip (sr ?_); refine gn 4 ?_; cases H; exact WpC.ret rt
    ·refine sr ?_; refine L.binB (a := b54) (b := (107 : UInt8)) hF rfl rfl rfl rfl rfl ?_; refine gn 1 ?_; refine cd H (fun hc H => ?_) (fun hc H => ?_)
     ·refine WpC.seq (sr ?_); refine mv ?_; refine cB 5 ent50 (g50 k  r1.1) H fun r60 H => ?_; refine gn 1 ?_; refine cd H (fun hc H => ?_) (fun hc H => ?_)
      ·refine sg 1 ?_; cases H; exact WpC.ret rt
      ·refine WpC.skip (sr ?_); refine gn 2 ?_; cases H; exact WpC.ret rt
     ·refine sr ?_; refine L.binB (a := b54) (b := (108 : UInt8)) hF rfl rfl rfl rfl rfl ?_; refine gn 1 ?_; refine cd H (fun hc H => ?_) (fun hc H => ?_)
      ·refine WpC.seq (sr ?_); refine mv ?_; refine cB 5 ent52 (g52 k  r1.1 0 12) H fun r62 H => ?_; refine gn 1 ?_; refine cd H (fun hc H => ?_) (fun hc H => ?_)
       ·refine sg 1 ?_; cases H; exact WpC.ret rt
       ·refine WpC.skip (WpC.seq (sr ?_)); refine gn 1 ?_; refine WpC.block ?_; refine WpC.loopL (P := Tryz.prog) (fun n σ => ∃ (v96 : List UInt8) (v97 v98 v99 v100 : Int), n ≤ K ∧ I_termAt.l4 (I_termAt k) n v96 v97 v98 v99 v100 = some r ∧ σ = mkSt [(0, oS v96), (2, oI v97), (7, oI v98), (8, oI v99), (9, oI v100)] [] [] 0) k ⟨_, ⟨a0, a2, r1.1, r1.2, 0, by omega, H, rfl⟩, lm [] hm⟩ ?_; clear H
        rintro k4 _ ⟨v96, v97, v98, v99, v100, hk4, H, rfl⟩
        cases k4 with
        | zero => cases H
        | succ k4 =>
         rw [I_termAt.l4] at H
         refine WpC.seq (sr ?_); refine go 4 ?_; refine sH H (fun hc H => ?_) (fun hc H => ?_)
         ·refine gn 3 ?_; refine cd H (fun hc H => ?_) (fun hc H => ?_)
          ·refine WpC.skip (WpC.seq (WpC.block (WpC.regionL ?_))); refine go 4 ?_; refine cB 0 ent143 (ih  v96 v99 (IntKind.i64.wrap (v97 - 1))) H fun r102 H => ?_; refine gn 1 ?_; refine WpC.regionL ?_; refine gn 3 ?_; exact ⟨k4, _, by omega, ⟨v96, v97, v98, r102, (IntKind.i64.wrap (v100 + 1)), by omega, H, rfl⟩, lm [] hm⟩
          ·refine WpC.exit (sr ?_); refine gn 2 ?_; cases H; exact WpC.ret rt
         ·refine gn 3 ?_; refine cF ?_; refine WpC.exit (sr ?_); refine gn 2 ?_; cases H; exact WpC.ret rt
      ·refine sr ?_; refine L.binB (a := b54) (b := (115 : UInt8)) hF rfl rfl rfl rfl rfl ?_; refine gn 1 ?_; refine cd H (fun hc H => ?_) (fun hc H => ?_)
       ·refine WpC.seq (sr ?_); refine mv ?_; refine cB 5 ent50 (g50 k  r1.1) H fun r104 H => ?_; refine gn 1 ?_; refine cd H (fun hc H => ?_) (fun hc H => ?_)
        ·refine sg 1 ?_; cases H; exact WpC.ret rt
        ·refine WpC.skip (sr ?_); refine go 4 ?_; refine cB 6 ent143 (ih  a0 r1.2 (IntKind.i64.wrap (a2 - 1))) H fun r105 H => ?_; refine gn 1 ?_; cases H; exact WpC.ret rt
       ·refine WpC.skip (sr ?_); refine gn 1 ?_; cases H; exact WpC.ret rt
/-! ### I_TermOk -/
def I_TermOk (k : Nat) (a0 : List UInt8) : Option Bool := (I_within k (a0.length : Int) 1 900).bind fun r3 => cond r3 ((I_termAt k a0 0 8).bind fun r4 => some (r4 == (a0.length : Int))) (some false)
theorem ent90 : MG.Enters Tryz.prog 90 := en func90
theorem g90 (k : Nat) (a0 : List UInt8) (r : Bool) (H : I_TermOk k a0 = some r) : Gives Tryz.prog 90 [V.one (cS a0)] [] [V.one (cL r)] [] := by
 refine Gives.intro func90 rfl rfl rfl rfl ?_; refine fx fun w0 T S0 ob oh hm => ?_
 have hF := fxe w0 T S0 13 ob oh
 unfold I_TermOk at H; obtain ⟨K, hK⟩ := leK k; refine sg 1 ?_; refine sy 1 ?_; refine L.lenS underlying9 hF rfl rfl rfl ?_; refine cB 1 ent52 (g52 k  (a0.length : Int) 1 900) H fun r3 H => ?_; refine mv ?_; refine sH H (fun hc H => ?_) (fun hc H => ?_)
 ·refine mv ?_; refine cB 2 ent143 (g143 k  a0 0 8) H fun r4 H => ?_; refine mv ?_; refine L.lenS underlying9 hF rfl rfl rfl ?_; refine gn 3 ?_; cases H; exact WpC.ret rt
 ·refine gn 7 ?_; cases H; exact WpC.ret rt
/-! ### I_CredOk -/
def I_CredOk (k : Nat) (a0 : T_Cred) : Option Bool := (I_isPrincipal k a0.Owner).bind fun r7 => cond r7 ((I_isPrincipal k a0.Client).bind fun r8 => cond r8 ((I_isFor k a0.Service).bind fun r9 => cond r9 ((I_isKey k a0.Key).bind fun r10 => cond r10 ((I_RestOk k a0.Rest).bind fun r11 => cond r11 ((I_TermOk k a0.Ticket).bind fun r12 => some r12) (some false)) (some false)) (some false)) (some false)) (some false)
theorem ent109 : MG.Enters Tryz.prog 109 := en func109
theorem g109 (k : Nat) (a0 : T_Cred) (r : Bool) (H : I_CredOk k a0 = some r) : Gives Tryz.prog 109 [V.agg (bT_Cred a0)] [] [V.one (cL r)] [] := by
 refine Gives.intro func109 rfl rfl rfl rfl ?_; refine fx fun w0 T S0 ob oh hm => ?_
 have hF := fxe w0 T S0 31 ob oh
 unfold I_CredOk at H; obtain ⟨K, hK⟩ := leK k; refine sr ?_; refine bo 8 ?_; refine gn 1 ?_; refine sy 2 ?_; refine cB 9 ent53 (g53 k  a0.Owner) H fun r7 H => ?_; refine mv ?_; refine sH H (fun hc H => ?_) (fun hc H => ?_)
 ·refine go 2 ?_; refine cB 10 ent53 (g53 k  a0.Client) H fun r8 H => ?_; refine go 2 ?_; refine sH H (fun hc H => ?_) (fun hc H => ?_)
  ·refine go 2 ?_; refine cB 11 ent162 (g162 k  a0.Service) H fun r9 H => ?_; refine go 2 ?_; refine sH H (fun hc H => ?_) (fun hc H => ?_)
   ·refine go 2 ?_; refine cB 12 ent50 (g50 k  a0.Key) H fun r10 H => ?_; refine go 2 ?_; refine sH H (fun hc H => ?_) (fun hc H => ?_)
    ·refine go 2 ?_; refine cB 13 ent56 (g56 k  a0.Rest) H fun r11 H => ?_; refine go 2 ?_; refine sH H (fun hc H => ?_) (fun hc H => ?_)
     ·refine go 2 ?_; refine cB 14 ent90 (g90 k  a0.Ticket) H fun r12 H => ?_; refine gn 2 ?_; cases H; exact WpC.ret rt
     ·refine gn 5 ?_; cases H; exact WpC.ret rt
    ·refine gn 10 ?_; cases H; exact WpC.ret rt
   ·refine gn 15 ?_; cases H; exact WpC.ret rt
  ·refine gn 20 ?_; cases H; exact WpC.ret rt
 ·refine gn 25 ?_; cases H; exact WpC.ret rt
/-! ### I_authOk -/
def I_authOk (k : Nat) (a0 : T_Auth) : Option Bool := (I_isPrincipal k a0.Client).bind fun r4 => cond r4 ((I_isTime k a0.Time).bind fun r5 => cond r5 ((I_within k a0.Seq 0 1000000).bind fun r6 => some r6) (some false)) (some false)
theorem ent163 : MG.Enters Tryz.prog 163 := en func163
theorem g163 (k : Nat) (a0 : T_Auth) (r : Bool) (H : I_authOk k a0 = some r) : Gives Tryz.prog 163 [V.agg (bT_Auth a0)] [] [V.one (cL r)] [] := by
 refine Gives.intro func163 rfl rfl rfl rfl ?_; refine fx fun w0 T S0 ob oh hm => ?_
 have hF := fxe w0 T S0 16 ob oh
 unfold I_authOk at H; obtain ⟨K, hK⟩ := leK k; refine sr ?_; refine bo 3 ?_; refine gn 1 ?_; refine sy 2 ?_; refine cB 4 ent53 (g53 k  a0.Client) H fun r4 H => ?_; refine mv ?_; refine sH H (fun hc H => ?_) (fun hc H => ?_)
 ·refine go 2 ?_; refine cB 5 ent105 (g105 k  a0.Time) H fun r5 H => ?_; refine go 2 ?_; refine sH H (fun hc H => ?_) (fun hc H => ?_)
  ·refine go 2 ?_; refine cB 6 ent52 (g52 k  a0.Seq 0 1000000) H fun r6 H => ?_; refine gn 2 ?_; cases H; exact WpC.ret rt
  ·refine gn 5 ?_; cases H; exact WpC.ret rt
 ·refine gn 10 ?_; cases H; exact WpC.ret rt
/-! ### V_Index_Auth -/
def V_Index_Auth.l2 : Nat → (List T_Auth) → Int → Int → T_Auth → Option Int
 | 0, _, _, _, _ => none
 | k2 + 1, v29, v30, v31, v32 => cond (decide (v31 < v30)) ((at? v29 v31).bind fun b34 => cond ((v32.Client == b34.Client) && ((v32.Time == b34.Time) && ((v32.Seq == b34.Seq) && true))) (some v31) ((V_Index_Auth.l2 k2) v29 v30 (IntKind.i64.wrap (v31 + 1)) v32)) (some (-1))
def V_Index_Auth (k : Nat) (a0 : List T_Auth) (a1 : T_Auth) : Option Int := V_Index_Auth.l2 k a0 (a0.length : Int) 0 a1
theorem ent203 : MG.Enters Tryz.prog 203 := en func203
theorem g203 (k : Nat) (g0 : Bool) (a0 : List T_Auth) (a1 : T_Auth) (r : Int) (H : V_Index_Auth k a0 a1 = some r) : Gives Tryz.prog 203 [V.one (Cell.sl g0 (List.map eT_Auth a0)), V.agg (bT_Auth a1)] [] [V.one (cI r)] [] := by
 refine Gives.intro func203 rfl rfl rfl rfl ?_; refine fx fun w0 T S0 ob oh hm => ?_
 have hF := fxe w0 T S0 19 ob oh
 unfold V_Index_Auth at H; obtain ⟨K, hK⟩ := leK k; refine sr ?_; refine bo 4 ?_; refine gn 1 ?_; refine WpC.seq (sr ?_); refine mv ?_; refine L.lenR (xs := a0) (e := eT_Auth) underlying121 hF rfl rfl rfl rfl ?_; refine gn 1 ?_; refine WpC.block ?_; refine WpC.loopL (P := Tryz.prog) (fun n σ => ∃ (v29 : List T_Auth) (v30 v31 : Int) (v32 : T_Auth), n ≤ K ∧ V_Index_Auth.l2 n v29 v30 v31 v32 = some r ∧ σ = mkSt [(0, MG.one (Cell.sl g0 (List.map eT_Auth v29))), (3, oP 0 0), (7, oI v30), (8, oI v31)] [] [(0, (bT_Auth v32))] 1) k ⟨_, ⟨a0, (a0.length : Int), 0, a1, by omega, H, rfl⟩, lm [(0, 4)] hm⟩ ?_; clear H
 rintro k2 _ ⟨v29, v30, v31, v32, hk2, H, rfl⟩
 cases k2 with
 | zero => cases H
 | succ k2 =>
  rw [V_Index_Auth.l2] at H
  refine sg 1 ?_; refine WpC.seq ?_; refine cd H (fun hc H => ?_) (fun hc H => ?_)
  ·refine WpC.skip (WpC.seq (WpC.block (sr ?_))); refine gn 2 ?_; refine WpC.seq ?_; refine S.begin mixed (by kernel_rfl) ?_; refine S.st 0 rfl rfl (Qu.load) (fun Q0 k0 => lp shape56 (L.nil k0)) ?_; refine S.st 1 rfl rfl ((Ca.move).quiet) (fun Q0 k0 => mv (L.nil k0)) ?_; refine S.st 2 rfl rfl ((Ca.move).quiet) (fun Q0 k0 => mv (L.nil k0)) ?_; obtain ⟨b34, hb34, H⟩ := bindS H; refine S.st 3 rfl rfl ((Ca.indexAddr).quiet) (fun Q0 k0 => ix underlying121 info56 hb34 (L.nil k0)) ?_; refine S.st 4 rfl rfl (Qu.load) (fun Q0 k0 => le shape56 (L.nil k0)) ?_; refine S.st 5 rfl rfl ((Ca.eqA (r := ((v32.Client == b34.Client) && ((v32.Time == b34.Time) && ((v32.Seq == b34.Seq) && true)))) rfl rfl rfl rfl (by kernel_rfl) (by kernel_rfl)).quiet) (fun Q0 k0 => L.eqA (r := ((v32.Client == b34.Client) && ((v32.Time == b34.Time) && ((v32.Seq == b34.Seq) && true)))) hF rfl rfl rfl rfl rfl rfl (by kernel_rfl) (by kernel_rfl) (L.nil k0)) ?_; refine S.nil ?_; refine cd H (fun hc H => ?_) (fun hc H => ?_)
   ·refine sg 2 ?_; cases H; exact WpC.ret rt
   ·refine WpC.skip (WpC.regionL ?_); refine gn 2 ?_; exact ⟨k2, _, by omega, ⟨v29, v30, (IntKind.i64.wrap (v31 + 1)), v32, by omega, H, rfl⟩, lm [(0, 0)] hm⟩
  ·refine WpC.exit (sr ?_); refine gn 1 ?_; cases H; exact WpC.ret rt
/-! ### V_Contains_Auth -/
def V_Contains_Auth (k : Nat) (a0 : List T_Auth) (a1 : T_Auth) : Option Bool := (V_Index_Auth k a0 a1).bind fun r1 => some (decide (r1 ≥ 0))
theorem ent164 : MG.Enters Tryz.prog 164 := en func164
theorem g164 (k : Nat) (g0 : Bool) (a0 : List T_Auth) (a1 : T_Auth) (r : Bool) (H : V_Contains_Auth k a0 a1 = some r) : Gives Tryz.prog 164 [V.one (Cell.sl g0 (List.map eT_Auth a0)), V.agg (bT_Auth a1)] [] [V.one (cL r)] [] := by
 refine Gives.intro func164 rfl rfl rfl rfl ?_; refine fx fun w0 T S0 ob oh hm => ?_
 have hF := fxe w0 T S0 9 ob oh
 unfold V_Contains_Auth at H; obtain ⟨K, hK⟩ := leK k; refine sr ?_; refine bo 4 ?_; refine gn 1 ?_; refine sy 2 ?_; refine cB 5 ent203 (g203 k g0 a0 a1) H fun r1 H => ?_; refine gn 2 ?_; cases H; exact WpC.ret rt
/-! ### I_CacheOk -/
def I_CacheOk.l2 : Nat → T_Cache → Int → Int → Option Bool
 | 0, _, _, _ => none
 | k2 + 1, v84, v85, v86 => cond (decide (v86 < v85)) ((at? v84.Seen v86).bind fun b94 => (I_authOk k2 b94).bind fun r98 => cond (!r98) (some false) ((part? v84.Seen 0 v86).bind fun b100 => (V_Contains_Auth k2 b100 b94).bind fun r101 => cond r101 (some false) ((I_CacheOk.l2 k2) v84 v85 (IntKind.i64.wrap (v86 + 1))))) ((I_within k2 v84.Quiet (-1) 200000).bind fun r103 => cond r103 (some (decide ((v84.Seen.length : Int) ≤ 6))) (some false))
def I_CacheOk (k : Nat) (a0 : T_Cache) : Option Bool := I_CacheOk.l2 k a0 (a0.Seen.length : Int) 0
theorem ent110 : MG.Enters Tryz.prog 110 := en func110
theorem g110 (k : Nat) (g0 : Bool) (a0 : T_Cache) (r : Bool) (H : I_CacheOk k a0 = some r) : Gives Tryz.prog 110 [V.agg [cI a0.Quiet, Cell.sl g0 (List.map eT_Auth a0.Seen)]] [] [V.one (cL r)] [] := by
 refine Gives.intro func110 rfl rfl rfl rfl ?_; refine fx fun w0 T S0 ob oh hm => ?_
 have hF := fxe w0 T S0 34 ob oh
 unfold I_CacheOk at H; obtain ⟨K, hK⟩ := leK k; refine sr ?_; refine bo 2 ?_; refine gn 1 ?_; refine WpC.seq (sr ?_); refine go 2 ?_; refine L.lenR (xs := a0.Seen) (e := eT_Auth) underlying121 hF rfl rfl rfl rfl ?_; refine gn 1 ?_; refine WpC.block ?_; refine WpC.loopL (P := Tryz.prog) (fun n σ => ∃ (v84 : T_Cache) (v85 v86 : Int), n ≤ K ∧ I_CacheOk.l2 n v84 v85 v86 = some r ∧ σ = mkSt [(1, oP 0 0), (6, MG.one (Cell.sl g0 (List.map eT_Auth v84.Seen))), (7, oI v85), (8, oI v86)] [] [(0, [cI v84.Quiet, Cell.sl g0 (List.map eT_Auth v84.Seen)])] 1) k ⟨_, ⟨a0, (a0.Seen.length : Int), 0, by omega, H, rfl⟩, lm [(0, 2)] hm⟩ ?_; clear H
 rintro k2 _ ⟨v84, v85, v86, hk2, H, rfl⟩
 cases k2 with
 | zero => cases H
 | succ k2 =>
  rw [I_CacheOk.l2] at H
  refine sg 1 ?_; refine WpC.seq ?_; refine cd H (fun hc H => ?_) (fun hc H => ?_)
  ·refine WpC.skip (WpC.seq (WpC.block (sr ?_))); refine mv ?_; obtain ⟨b94, hb94, H⟩ := bindS H; refine ix underlying121 info56 hb94 ?_; refine le shape56 ?_; refine alc 1 info56 ?_; refine gn 2 ?_; refine WpC.seq ?_; obtain ⟨r98, hr98, H⟩ := bindS H
   rcases Bool.eq_false_or_eq_true ((!r98)) with hc99 | hc99
   ·replace H := condT hc99 H
    apply ldT ⟨[e0 1 _, e0 3 _, e0 4 _, e0 6 _, e0 7 _, e0 8 _, ed 13 1 _, ed 14 2 _, ed 15 3 _, (16, [(4, some (oL true))]), ed 17 5 _, ed 18 6 _, ed 19 7 _, ed 20 8 _, ed 21 9 _, ed 22 10 _, ed 23 11 _], [], [e0 0 _, e0 1 _], 3, []⟩ [(0, 2046), (1, 2044), (3, 2040), (7, 2032), (15, 1696), (31, 1664), (15, 1664), (127, 1536), (15, 1536), (511, 1024), (1023, 0)] mixed ?L1 ?_
    case L1 =>
     repeat refine ls ?_
     apply lc 3 2 1 [14] [] [] ?h1_1 ?q1_1 ?_
     case h1_1 =>
      intro b; refine c0 3 ent163 (g163 k2  b94 r98 hr98) ?_; exact L.nil ⟨rfl, rfl, rfl, rfl⟩
     case' q1_1 => skip
     repeat refine ls ?_
     refine lg ?_
     repeat refine ls ?_
     exact trivial
     all_goals exact lq
    refine cT ?_; refine sg 1 ?_; cases H; exact WpC.ret rt
   ·replace H := condF hc99 H
    obtain ⟨b100, hb100, H⟩ := bindS H; obtain ⟨r101, hr101, H⟩ := bindS H
    apply ldT ⟨[e0 1 _, e0 3 _, e0 4 _, e0 6 _, e0 7 _, e0 8 _, ed 13 1 _, ed 14 2 _, ed 15 3 _, (16, [(4, some (oL false))]), ed 17 5 _, ed 18 6 _, ed 19 7 _, ed 20 8 _, ed 21 9 _, ed 22 10 _, ed 23 11 _], [], [e0 0 _, e0 1 _], 4, []⟩ [(0, 2046), (1, 2044), (3, 2040), (7, 2032), (15, 1696), (31, 1664), (15, 1664), (127, 1536), (15, 1536), (511, 1024), (1023, 0)] mixed ?L2 ?_
    case L2 =>
     repeat refine ls ?_
     apply lc 4 2 1 [14] [] [] ?h2_1 ?q2_1 ?_
     case h2_1 =>
      intro b; refine c0 4 ent163 (g163 k2  b94 r98 hr98) ?_; exact L.nil ⟨rfl, rfl, rfl, rfl⟩
     case' q2_1 => skip
     repeat refine ls ?_
     refine lg ?_
     repeat refine ls ?_
     apply lc 4 3 0 [20] [] [] ?h2_7 ?q2_7 ?_
     case h2_7 =>
      intro b; refine L.cutR (xs := v84.Seen) (ys := b100) (e := eT_Auth) underlying121 info56 hF rfl rfl rfl rfl rfl hb100 (fun _ => rfl) ?_; exact L.nil ⟨rfl, rfl, rfl, rfl⟩
     case' q2_7 => skip
     repeat refine ls ?_
     apply lc 4 3 1 [22] [] [] ?h2_9 ?q2_9 ?_
     case h2_9 =>
      intro b; refine c0 4 ent164 (g164 k2 g0 b100 b94 r101 hr101) ?_; exact L.nil ⟨rfl, rfl, rfl, rfl⟩
     case' q2_9 => skip
     repeat refine ls ?_
     exact trivial
     all_goals exact lq
    refine cd H (fun hc H => ?_) (fun hc H => ?_)
    ·refine sg 1 ?_; cases H; exact WpC.ret rt
    ·refine WpC.skip (WpC.regionL ?_); refine gn 2 ?_; exact ⟨k2, _, by omega, ⟨v84, v85, (IntKind.i64.wrap (v86 + 1)), by omega, H, rfl⟩, lm [(0, 0)] hm⟩
  ·refine WpC.exit (sr ?_); refine go 2 ?_; refine cB 1 ent52 (g52 k2  v84.Quiet (-1) 200000) H fun r103 H => ?_; refine mv ?_; refine sH H (fun hc H => ?_) (fun hc H => ?_)
   ·refine go 2 ?_; refine L.lenR (xs := v84.Seen) (e := eT_Auth) underlying121 hF rfl rfl rfl rfl ?_; refine gn 3 ?_; cases H; exact WpC.ret rt
   ·refine gn 6 ?_; cases H; exact WpC.ret rt
/-! ### I_areAll__impl_isService -/
def I_areAll__impl_isService.l2 : Nat → (List Int) → Int → Int → Int → Option Bool
 | 0, _, _, _, _ => none
 | k2 + 1, v39, v40, v41, v42 => cond (decide (v42 < v41)) ((at? v39 v42).bind fun b45 => (I_isService k2 b45).bind fun r46 => cond (!r46) (some false) ((I_areAll__impl_isService.l2 k2) v39 v40 v41 (IntKind.i64.wrap (v42 + 1)))) (some (decide ((v39.length : Int) ≤ v40)))
def I_areAll__impl_isService (k : Nat) (a0 : List Int) (a1 : Int) : Option Bool := I_areAll__impl_isService.l2 k a0 a1 (a0.length : Int) 0
theorem I_areAll__impl_isService_gives (k : Nat) (g0 : Bool) (a0 : List Int) (a1 : Int) (r : Bool) (H : I_areAll__impl_isService k a0 a1 = some r) : Gives Tryz.prog 104 [V.one (Cell.sl g0 (List.map eI a0)), V.one (cI a1), V.one (Cell.clo 55 [])] [] [V.one (cL r)] [] := by
 refine Gives.intro func104 rfl rfl rfl rfl ?_; refine fx fun w0 T S0 ob oh hm => ?_
 have hF := fxe w0 T S0 24 ob oh
 unfold I_areAll__impl_isService at H; obtain ⟨K, hK⟩ := leK k; refine sg 1 ?_; refine WpC.seq (sr ?_); refine mv ?_; refine L.lenR (xs := a0) (e := eI) underlying24 hF rfl rfl rfl rfl ?_; refine gn 1 ?_; refine WpC.block ?_; refine WpC.loopL (P := Tryz.prog) (fun n σ => ∃ (v39 : List Int) (v40 v41 v42 : Int), n ≤ K ∧ I_areAll__impl_isService.l2 n v39 v40 v41 v42 = some r ∧ σ = mkSt [(0, MG.one (Cell.sl g0 (List.map eI v39))), (1, oI v40), (2, MG.one (Cell.clo 55 [])), (9, MG.one (Cell.sl g0 (List.map eI v39))), (10, oI v41), (11, oI v42)] [] [] 0) k ⟨_, ⟨a0, a1, (a0.length : Int), 0, by omega, H, rfl⟩, lm [] hm⟩ ?_; clear H
 rintro k2 _ ⟨v39, v40, v41, v42, hk2, H, rfl⟩
 cases k2 with
 | zero => cases H
 | succ k2 =>
  rw [I_areAll__impl_isService.l2] at H
  refine sg 1 ?_; refine WpC.seq ?_; refine cd H (fun hc H => ?_) (fun hc H => ?_)
  ·refine WpC.skip (WpC.seq (WpC.block (sr ?_))); obtain ⟨b45, hb45, H⟩ := bindS H; refine ix underlying24 info3 hb45 ?_; refine gn 2 ?_; refine sy 2 ?_; refine cB 0 ent55 (g55 k2  b45) H fun r46 H => ?_; refine gn 1 ?_; refine cd H (fun hc H => ?_) (fun hc H => ?_)
   ·refine sg 1 ?_; cases H; exact WpC.ret rt
   ·refine WpC.skip (WpC.regionL ?_); refine gn 2 ?_; exact ⟨k2, _, by omega, ⟨v39, v40, v41, (IntKind.i64.wrap (v42 + 1)), by omega, H, rfl⟩, lm [] hm⟩
  ·refine WpC.exit (sr ?_); refine mv ?_; refine L.lenR (xs := v39) (e := eI) underlying24 hF rfl rfl rfl rfl ?_; refine gn 3 ?_; cases H; exact WpC.ret rt
/-! ### I_acceptOk -/
def I_acceptOk (k : Nat) (a0 : T_Accept) (a1 : Int) : Option Bool := (I_isService k a0.Server).bind fun r6 => cond r6 ((I_isPrincipal k a0.Client).bind fun r7 => cond r7 ((I_within k a0.Leaks 0 a1).bind fun r8 => cond r8 ((I_areAll__impl_isRealm k a0.Path 6).bind fun r9 => cond r9 ((I_areAll__impl_isService k a0.Via 4).bind fun r10 => some r10) (some false)) (some false)) (some false)) (some false)
theorem ent111 : MG.Enters Tryz.prog 111 := en func111
theorem g111 (k : Nat) (g0 g1 : Bool) (a0 : T_Accept) (a1 : Int) (r : Bool) (H : I_acceptOk k a0 a1 = some r) : Gives Tryz.prog 111 [V.agg (bT_Accept g0 g1 a0), V.one (cI a1)] [] [V.one (cL r)] [] := by
 refine Gives.intro func111 rfl rfl rfl rfl ?_; refine fx fun w0 T S0 ob oh hm => ?_
 have hF := fxe w0 T S0 29 ob oh
 unfold I_acceptOk at H; obtain ⟨K, hK⟩ := leK k; refine sr ?_; refine bo 16 ?_; refine gn 1 ?_; refine sy 2 ?_; refine cB 17 ent55 (g55 k  a0.Server) H fun r6 H => ?_; refine mv ?_; refine sH H (fun hc H => ?_) (fun hc H => ?_)
 ·refine go 2 ?_; refine cB 18 ent53 (g53 k  a0.Client) H fun r7 H => ?_; refine go 2 ?_; refine sH H (fun hc H => ?_) (fun hc H => ?_)
  ·refine go 3 ?_; refine cB 19 ent52 (g52 k  a0.Leaks 0 a1) H fun r8 H => ?_; refine go 2 ?_; refine sH H (fun hc H => ?_) (fun hc H => ?_)
   ·refine go 2 ?_; refine cB 20 ent104 (g104 k g0 a0.Path 6) H fun r9 H => ?_; refine go 2 ?_; refine sH H (fun hc H => ?_) (fun hc H => ?_)
    ·refine go 2 ?_; refine cB 21 ent104 (I_areAll__impl_isService_gives k g1 a0.Via 4) H fun r10 H => ?_; refine gn 2 ?_; cases H; exact WpC.ret rt
    ·refine gn 5 ?_; cases H; exact WpC.ret rt
   ·refine gn 10 ?_; cases H; exact WpC.ret rt
  ·refine gn 16 ?_; cases H; exact WpC.ret rt
 ·refine gn 21 ?_; cases H; exact WpC.ret rt
/-! ### I_WorldOk_1 -/
def I_WorldOk_1 (k : Nat) (a0 : List UInt8) : Option Bool := (I_TermOk k a0).bind fun r1 => some (!r1)
theorem ent113 : MG.Enters Tryz.prog 113 := en func113
theorem g113 (k : Nat) (a0 : List UInt8) (r : Bool) (H : I_WorldOk_1 k a0 = some r) : Gives Tryz.prog 113 [V.one (cS a0)] [] [V.one (cL r)] [] := by
 refine Gives.intro func113 rfl rfl rfl rfl ?_; refine fx fun w0 T S0 ob oh hm => ?_
 have hF := fxe w0 T S0 6 ob oh
 unfold I_WorldOk_1 at H; obtain ⟨K, hK⟩ := leK k; refine sg 1 ?_; refine sy 1 ?_; refine cB 1 ent90 (g90 k  a0) H fun r1 H => ?_; refine gn 2 ?_; cases H; exact WpC.ret rt
/-! ### V_IndexFunc_string__impl_WorldOk_1 -/
def V_IndexFunc_string__impl_WorldOk_1.l2 : Nat → (List (List UInt8)) → Int → Int → Option Int
 | 0, _, _, _ => none
 | k2 + 1, v34, v35, v36 => cond (decide (v36 < v35)) ((at? v34 v36).bind fun b39 => (I_WorldOk_1 k2 b39).bind fun r40 => cond r40 (some v36) ((V_IndexFunc_string__impl_WorldOk_1.l2 k2) v34 v35 (IntKind.i64.wrap (v36 + 1)))) (some (-1))
def V_IndexFunc_string__impl_WorldOk_1 (k : Nat) (a0 : List (List UInt8)) : Option Int := V_IndexFunc_string__impl_WorldOk_1.l2 k a0 (a0.length : Int) 0
theorem ent165 : MG.Enters Tryz.prog 165 := en func165
theorem g165 (k : Nat) (g0 : Bool) (a0 : List (List UInt8)) (r : Int) (H : V_IndexFunc_string__impl_WorldOk_1 k a0 = some r) : Gives Tryz.prog 165 [V.one (Cell.sl g0 (List.map eS a0)), V.one (Cell.clo 113 [])] [] [V.one (cI r)] [] := by
 refine Gives.intro func165 rfl rfl rfl rfl ?_; refine fx fun w0 T S0 ob oh hm => ?_
 have hF := fxe w0 T S0 19 ob oh
 unfold V_IndexFunc_string__impl_WorldOk_1 at H; obtain ⟨K, hK⟩ := leK k; refine sg 1 ?_; refine WpC.seq (sr ?_); refine mv ?_; refine L.lenR (xs := a0) (e := eS) underlying34 hF rfl rfl rfl rfl ?_; refine gn 1 ?_; refine WpC.block ?_; refine WpC.loopL (P := Tryz.prog) (fun n σ => ∃ (v34 : List (List UInt8)) (v35 v36 : Int), n ≤ K ∧ V_IndexFunc_string__impl_WorldOk_1.l2 n v34 v35 v36 = some r ∧ σ = mkSt [(0, MG.one (Cell.sl g0 (List.map eS v34))), (1, MG.one (Cell.clo 113 [])), (7, oI v35), (8, oI v36)] [] [] 0) k ⟨_, ⟨a0, (a0.length : Int), 0, by omega, H, rfl⟩, lm [] hm⟩ ?_; clear H
 rintro k2 _ ⟨v34, v35, v36, hk2, H, rfl⟩
 cases k2 with
 | zero => cases H
 | succ k2 =>
  rw [V_IndexFunc_string__impl_WorldOk_1.l2] at H
  refine sg 1 ?_; refine WpC.seq ?_; refine cd H (fun hc H => ?_) (fun hc H => ?_)
  ·refine WpC.skip (WpC.seq (WpC.block (sr ?_))); refine gn 2 ?_; refine sy 3 ?_; obtain ⟨b39, hb39, H⟩ := bindS H; refine ix underlying34 info9 hb39 ?_; refine le shape9 ?_; refine cB 0 ent113 (g113 k2  b39) H fun r40 H => L.nil ?_; refine cd H (fun hc H => ?_) (fun hc H => ?_)
   ·refine sg 2 ?_; cases H; exact WpC.ret rt
   ·refine WpC.skip (WpC.regionL ?_); refine gn 2 ?_; exact ⟨k2, _, by omega, ⟨v34, v35, (IntKind.i64.wrap (v36 + 1)), by omega, H, rfl⟩, lm [] hm⟩
  ·refine WpC.exit (sr ?_); refine gn 1 ?_; cases H; exact WpC.ret rt
/-! ### V_ContainsFunc_string__impl_WorldOk_1 -/
def V_ContainsFunc_string__impl_WorldOk_1 (k : Nat) (a0 : List (List UInt8)) : Option Bool := (V_IndexFunc_string__impl_WorldOk_1 k a0).bind fun r1 => some (decide (r1 ≥ 0))
theorem ent112 : MG.Enters Tryz.prog 112 := en func112
theorem g112 (k : Nat) (g0 : Bool) (a0 : List (List UInt8)) (r : Bool) (H : V_ContainsFunc_string__impl_WorldOk_1 k a0 = some r) : Gives Tryz.prog 112 [V.one (Cell.sl g0 (List.map eS a0)), V.one (Cell.clo 113 [])] [] [V.one (cL r)] [] := by
 refine Gives.intro func112 rfl rfl rfl rfl ?_; refine fx fun w0 T S0 ob oh hm => ?_
 have hF := fxe w0 T S0 9 ob oh
 unfold V_ContainsFunc_string__impl_WorldOk_1 at H; obtain ⟨K, hK⟩ := leK k; refine sg 1 ?_; refine sy 2 ?_; refine cB 2 ent165 (g165 k g0 a0) H fun r1 H => ?_; refine gn 2 ?_; cases H; exact WpC.ret rt
/-! ### V_Index_string -/
def V_Index_string.l2 : Nat → (List (List UInt8)) → (List UInt8) → Int → Int → Option Int
 | 0, _, _, _, _ => none
 | k2 + 1, v29, v30, v31, v32 => cond (decide (v32 < v31)) ((at? v29 v32).bind fun b34 => cond (v30 == b34) (some v32) ((V_Index_string.l2 k2) v29 v30 v31 (IntKind.i64.wrap (v32 + 1)))) (some (-1))
def V_Index_string (k : Nat) (a0 : List (List UInt8)) (a1 : List UInt8) : Option Int := V_Index_string.l2 k a0 a1 (a0.length : Int) 0
theorem ent144 : MG.Enters Tryz.prog 144 := en func144
theorem g144 (k : Nat) (g0 : Bool) (a0 : List (List UInt8)) (a1 : List UInt8) (r : Int) (H : V_Index_string k a0 a1 = some r) : Gives Tryz.prog 144 [V.one (Cell.sl g0 (List.map eS a0)), V.one (cS a1)] [] [V.one (cI r)] [] := by
 refine Gives.intro func144 rfl rfl rfl rfl ?_; refine fx fun w0 T S0 ob oh hm => ?_
 have hF := fxe w0 T S0 19 ob oh
 unfold V_Index_string at H; obtain ⟨K, hK⟩ := leK k; refine sg 1 ?_; refine WpC.seq (sr ?_); refine mv ?_; refine L.lenR (xs := a0) (e := eS) underlying34 hF rfl rfl rfl rfl ?_; refine gn 1 ?_; refine WpC.block ?_; refine WpC.loopL (P := Tryz.prog) (fun n σ => ∃ (v29 : List (List UInt8)) (v30 : List UInt8) (v31 v32 : Int), n ≤ K ∧ V_Index_string.l2 n v29 v30 v31 v32 = some r ∧ σ = mkSt [(0, MG.one (Cell.sl g0 (List.map eS v29))), (1, oS v30), (7, oI v31), (8, oI v32)] [] [] 0) k ⟨_, ⟨a0, a1, (a0.length : Int), 0, by omega, H, rfl⟩, lm [] hm⟩ ?_; clear H
 rintro k2 _ ⟨v29, v30, v31, v32, hk2, H, rfl⟩
 cases k2 with
 | zero => cases H
 | succ k2 =>
  rw [V_Index_string.l2] at H
  refine sg 1 ?_; refine WpC.seq ?_; refine cd H (fun hc H => ?_) (fun hc H => ?_)
  ·refine WpC.skip (WpC.seq (WpC.block (sr ?_))); refine gn 2 ?_; refine sy 3 ?_; obtain ⟨b34, hb34, H⟩ := bindS H; refine ix underlying34 info9 hb34 ?_; refine le shape9 ?_; refine L.binS hF rfl rfl rfl rfl rfl (L.nil ?_); refine cd H (fun hc H => ?_) (fun hc H => ?_)
   ·refine sg 2 ?_; cases H; exact WpC.ret rt
   ·refine WpC.skip (WpC.regionL ?_); refine gn 2 ?_; exact ⟨k2, _, by omega, ⟨v29, v30, v31, (IntKind.i64.wrap (v32 + 1)), by omega, H, rfl⟩, lm [] hm⟩
  ·refine WpC.exit (sr ?_); refine gn 1 ?_; cases H; exact WpC.ret rt
/-! ### V_Contains_string -/
def V_Contains_string (k : Nat) (a0 : List (List UInt8)) (a1 : List UInt8) : Option Bool := (V_Index_string k a0 a1).bind fun r1 => some (decide (r1 ≥ 0))
theorem ent91 : MG.Enters Tryz.prog 91 := en func91
theorem g91 (k : Nat) (g0 : Bool) (a0 : List (List UInt8)) (a1 : List UInt8) (r : Bool) (H : V_Contains_string k a0 a1 = some r) : Gives Tryz.prog 91 [V.one (Cell.sl g0 (List.map eS a0)), V.one (cS a1)] [] [V.one (cL r)] [] := by
 refine Gives.intro func91 rfl rfl rfl rfl ?_; refine fx fun w0 T S0 ob oh hm => ?_
 have hF := fxe w0 T S0 9 ob oh
 unfold V_Contains_string at H; obtain ⟨K, hK⟩ := leK k; refine sg 1 ?_; refine sy 2 ?_; refine cB 2 ent144 (g144 k g0 a0 a1) H fun r1 H => ?_; refine gn 2 ?_; cases H; exact WpC.ret rt
/-! ### I_rises -/
def I_rises.l2 : Nat → (List Int) → Int → Option Bool
 | 0, _, _ => none
 | k2 + 1, v29, v30 => cond (decide (v30 < (v29.length : Int))) ((at? v29 (IntKind.i64.wrap (v30 - 1))).bind fun b33 => (at? v29 v30).bind fun b34 => cond (decide (b33 ≥ b34)) (some false) ((I_rises.l2 k2) v29 (IntKind.i64.wrap (v30 + 1)))) (some true)
def I_rises (k : Nat) (a0 : List Int) : Option Bool := I_rises.l2 k a0 1
theorem ent92 : MG.Enters Tryz.prog 92 := en func92
theorem g92 (k : Nat) (g0 : Bool) (a0 : List Int) (r : Bool) (H : I_rises k a0 = some r) : Gives Tryz.prog 92 [V.one (Cell.sl g0 (List.map eI a0))] [] [V.one (cL r)] [] := by
 refine Gives.intro func92 rfl rfl rfl rfl ?_; refine fx fun w0 T S0 ob oh hm => ?_
 have hF := fxe w0 T S0 20 ob oh
 unfold I_rises at H; obtain ⟨K, hK⟩ := leK k; refine sg 1 ?_; refine WpC.seq (sr ?_); refine gn 1 ?_; refine WpC.block ?_; refine WpC.loopL (P := Tryz.prog) (fun n σ => ∃ (v29 : List Int) (v30 : Int), n ≤ K ∧ I_rises.l2 n v29 v30 = some r ∧ σ = mkSt [(0, MG.one (Cell.sl g0 (List.map eI v29))), (3, oI v30)] [] [] 0) k ⟨_, ⟨a0, 1, by omega, H, rfl⟩, lm [] hm⟩ ?_; clear H
 rintro k2 _ ⟨v29, v30, hk2, H, rfl⟩
 cases k2 with
 | zero => cases H
 | succ k2 =>
  rw [I_rises.l2] at H
  refine WpC.seq (sr ?_); refine go 2 ?_; refine L.lenR (xs := v29) (e := eI) underlying24 hF rfl rfl rfl rfl ?_; refine gn 1 ?_; refine cd H (fun hc H => ?_) (fun hc H => ?_)
  ·refine WpC.skip (WpC.seq (WpC.block (WpC.seq ?_))); refine S.begin mixed (by kernel_rfl) ?_; refine S.st 0 rfl rfl ((Ca.move).quiet) (fun Q0 k0 => mv (L.nil k0)) ?_; refine S.st 1 rfl rfl ((Ca.move).quiet) (fun Q0 k0 => mv (L.nil k0)) ?_; refine S.st 2 rfl rfl ((Ca.bin rfl rfl (calm_int _ _ _ _ _ _ _ _)).quiet) (fun Q0 k0 => bi (L.nil k0)) ?_; obtain ⟨b33, hb33, H⟩ := bindS H; refine S.st 3 rfl rfl ((Ca.indexAddr).quiet) (fun Q0 k0 => ix underlying24 info3 hb33 (L.nil k0)) ?_; refine S.st 4 rfl rfl (Qu.load) (fun Q0 k0 => le shape3 (L.nil k0)) ?_; refine S.st 5 rfl rfl ((Ca.move).quiet) (fun Q0 k0 => mv (L.nil k0)) ?_; refine S.st 6 rfl rfl ((Ca.move).quiet) (fun Q0 k0 => mv (L.nil k0)) ?_; obtain ⟨b34, hb34, H⟩ := bindS H; refine S.st 7 rfl rfl ((Ca.indexAddr).quiet) (fun Q0 k0 => ix underlying24 info3 hb34 (L.nil k0)) ?_; refine S.st 8 rfl rfl (Qu.load) (fun Q0 k0 => le shape3 (L.nil k0)) ?_; refine S.st 9 rfl rfl ((Ca.bin rfl rfl (calm_int _ _ _ _ _ _ _ _)).quiet) (fun Q0 k0 => bi (L.nil k0)) ?_; refine S.nil ?_; refine cd H (fun hc H => ?_) (fun hc H => ?_)
   ·refine sg 1 ?_; cases H; exact WpC.ret rt
   ·refine WpC.skip (WpC.regionL ?_); refine gn 3 ?_; exact ⟨k2, _, by omega, ⟨v29, (IntKind.i64.wrap (v30 + 1)), by omega, H, rfl⟩, lm [] hm⟩
  ·refine WpC.exit (sr ?_); refine gn 1 ?_; cases H; exact WpC.ret rt
/-! ### I_KnownOk -/
def I_KnownOk.l4 : Nat → T_Known → Int → Int → Option Bool
 | 0, _, _, _ => none
 | k4 + 1, v134, v135, v136 => cond (decide (v136 < v135)) ((at? v134.Keys v136).bind fun b139 => (I_isKey k4 b139).bind fun r140 => cond (!r140) (some false) ((I_KnownOk.l4 k4) v134 v135 (IntKind.i64.wrap (v136 + 1)))) (cond (decide ((v134.Terms.length : Int) ≤ 60)) (cond (decide ((v134.Keys.length : Int) ≤ 40)) ((I_rises k4 v134.Keys).bind fun r142 => some r142) (some false)) (some false))
def I_KnownOk.l2 : Nat → T_Known → Int → Int → Option Bool
 | 0, _, _, _ => none
 | k2 + 1, v84, v85, v86 => cond (decide (v86 < v85)) ((at? v84.Terms v86).bind fun b94 => (I_TermOk k2 b94).bind fun r98 => cond (!r98) (some false) ((part? v84.Terms 0 v86).bind fun b99 => (V_Contains_string k2 b99 b94).bind fun r100 => cond r100 (some false) ((I_KnownOk.l2 k2) v84 v85 (IntKind.i64.wrap (v86 + 1))))) (I_KnownOk.l4 k2 v84 (v84.Keys.length : Int) 0)
def I_KnownOk (k : Nat) (a0 : T_Known) : Option Bool := I_KnownOk.l2 k a0 (a0.Terms.length : Int) 0
theorem ent46 : MG.Enters Tryz.prog 46 := en func46
theorem g46 (k : Nat) (g0 g1 : Bool) (a0 : T_Known) (r : Bool) (H : I_KnownOk k a0 = some r) : Gives Tryz.prog 46 [V.agg [Cell.sl g0 (List.map eS a0.Terms), Cell.sl g1 (List.map eI a0.Keys)]] [] [V.one (cL r)] [] := by
 refine Gives.intro func46 rfl rfl rfl rfl ?_; refine fx fun w0 T S0 ob oh hm => ?_
 have hF := fxe w0 T S0 53 ob oh
 unfold I_KnownOk at H; obtain ⟨K, hK⟩ := leK k; refine sr ?_; refine bo 2 ?_; refine gn 1 ?_; refine WpC.seq (sr ?_); refine go 2 ?_; refine L.lenR (xs := a0.Terms) (e := eS) underlying34 hF rfl rfl rfl rfl ?_; refine gn 1 ?_; refine WpC.block ?_; refine WpC.loopL (P := Tryz.prog) (fun n σ => ∃ (v84 : T_Known) (v85 v86 : Int), n ≤ K ∧ I_KnownOk.l2 n v84 v85 v86 = some r ∧ σ = mkSt [(1, oP 0 0), (8, MG.one (Cell.sl g0 (List.map eS v84.Terms))), (9, oI v85), (10, oI v86)] [] [(0, [Cell.sl g0 (List.map eS v84.Terms), Cell.sl g1 (List.map eI v84.Keys)])] 1) k ⟨_, ⟨a0, (a0.Terms.length : Int), 0, by omega, H, rfl⟩, lm [(0, 2)] hm⟩ ?_; clear H
 rintro k2 _ ⟨v84, v85, v86, hk2, H, rfl⟩
 cases k2 with
 | zero => cases H
 | succ k2 =>
  rw [I_KnownOk.l2] at H
  refine sg 1 ?_; refine WpC.seq ?_; refine cd H (fun hc H => ?_) (fun hc H => ?_)
  ·refine WpC.skip (WpC.seq (WpC.block (sr ?_))); refine mv ?_; obtain ⟨b94, hb94, H⟩ := bindS H; refine ix underlying34 info9 hb94 ?_; refine gn 3 ?_; refine sy 1 ?_; refine cB 1 ent90 (g90 k2  b94) H fun r98 H => ?_; refine go 2 ?_; refine sH H (fun hc H => ?_) (fun hc H => ?_)
   ·refine gn 7 ?_; refine cT ?_; refine sg 1 ?_; cases H; exact WpC.ret rt
   ·refine go 3 ?_; obtain ⟨b99, hb99, H⟩ := bindS H; refine L.cutR (xs := v84.Terms) (ys := b99) (e := eS) underlying34 info9 hF rfl rfl rfl rfl rfl hb99 (fun _ => rfl) ?_; refine mv ?_; refine cB 2 ent91 (g91 k2 g0 b99 b94) H fun r100 H => ?_; refine gn 1 ?_; refine cd H (fun hc H => ?_) (fun hc H => ?_)
    ·refine sg 1 ?_; cases H; exact WpC.ret rt
    ·refine WpC.skip (WpC.regionL ?_); refine gn 2 ?_; exact ⟨k2, _, by omega, ⟨v84, v85, (IntKind.i64.wrap (v86 + 1)), by omega, H, rfl⟩, lm [(0, 0)] hm⟩
  ·refine WpC.exit (WpC.seq (sr ?_)); refine go 2 ?_; refine L.lenR (xs := v84.Keys) (e := eI) underlying24 hF rfl rfl rfl rfl ?_; refine gn 1 ?_; refine WpC.block ?_; refine WpC.loopL (P := Tryz.prog) (fun n σ => ∃ (v134 : T_Known) (v135 v136 : Int), n ≤ K ∧ I_KnownOk.l4 n v134 v135 v136 = some r ∧ σ = mkSt [(1, oP 0 0), (28, MG.one (Cell.sl g1 (List.map eI v134.Keys))), (29, oI v135), (30, oI v136)] [] [(0, [Cell.sl g0 (List.map eS v134.Terms), Cell.sl g1 (List.map eI v134.Keys)])] 1) k2 ⟨_, ⟨v84, (v84.Keys.length : Int), 0, by omega, H, rfl⟩, lm [(0, 0)] hm⟩ ?_; clear H
   rintro k4 _ ⟨v134, v135, v136, hk4, H, rfl⟩
   cases k4 with
   | zero => cases H
   | succ k4 =>
    rw [I_KnownOk.l4] at H
    refine sg 1 ?_; refine WpC.seq ?_; refine cd H (fun hc H => ?_) (fun hc H => ?_)
    ·refine WpC.skip (WpC.seq (WpC.block (sr ?_))); obtain ⟨b139, hb139, H⟩ := bindS H; refine ix underlying24 info3 hb139 ?_; refine gn 2 ?_; refine sy 1 ?_; refine cB 1 ent50 (g50 k4  b139) H fun r140 H => ?_; refine gn 1 ?_; refine cd H (fun hc H => ?_) (fun hc H => ?_)
     ·refine sg 1 ?_; cases H; exact WpC.ret rt
     ·refine WpC.skip (WpC.regionL ?_); refine gn 2 ?_; exact ⟨k4, _, by omega, ⟨v134, v135, (IntKind.i64.wrap (v136 + 1)), by omega, H, rfl⟩, lm [(0, 0)] hm⟩
    ·refine WpC.exit (sr ?_); refine go 2 ?_; refine L.lenR (xs := v134.Terms) (e := eS) underlying34 hF rfl rfl rfl rfl ?_; refine go 2 ?_; refine sH H (fun hc H => ?_) (fun hc H => ?_)
     ·refine go 2 ?_; refine L.lenR (xs := v134.Keys) (e := eI) underlying24 hF rfl rfl rfl rfl ?_; refine go 3 ?_; refine sH H (fun hc H => ?_) (fun hc H => ?_)
      ·refine go 2 ?_; refine cB 1 ent92 (g92 k4 g1 v134.Keys) H fun r142 H => ?_; refine gn 2 ?_; cases H; exact WpC.ret rt
      ·refine gn 5 ?_; cases H; exact WpC.ret rt
     ·refine gn 11 ?_; cases H; exact WpC.ret rt
/-! ### I_WorldOk -/
def I_WorldOk.l8 : Nat → T_World → Int → Int → Option Bool
 | 0, _, _, _ => none
 | k8 + 1, v154, v155, v156 => cond (decide (v156 < v155)) ((at? v154.Accepts v156).bind fun b159 => (I_acceptOk k8 b159 (v154.Leaked.length : Int)).bind fun r160 => cond (!r160) (some false) ((I_WorldOk.l8 k8) v154 v155 (IntKind.i64.wrap (v156 + 1)))) ((V_ContainsFunc_string__impl_WorldOk_1 k8 v154.Net).bind fun r164 => cond r164 (some false) (cond (decide ((v154.Net.length : Int) > 50)) (some false) ((I_ConfigOk k8 v154.Config).bind fun r169 => cond r169 ((I_isTime k8 v154.Now).bind fun r170 => cond r170 ((I_within k8 v154.Fresh 101 1000000).bind fun r171 => cond r171 ((I_KnownOk k8 v154.Known).bind fun r172 => cond r172 (cond ((v154.Waits.length : Int) == 6) (cond (decide ((v154.Creds.length : Int) ≤ 30)) (cond ((v154.Caches.length : Int) == 3) (cond (decide ((v154.Log.length : Int) ≤ 40)) (cond (decide ((v154.Accepts.length : Int) ≤ 40)) (some (decide ((v154.Leaked.length : Int) ≤ 40))) (some false)) (some false)) (some false)) (some false)) (some false)) (some false)) (some false)) (some false)) (some false))))
def I_WorldOk.l6 : Nat → T_World → Int → Int → Option Bool
 | 0, _, _, _ => none
 | k6 + 1, v114, v115, v116 => cond (decide (v116 < v115)) ((at? v114.Caches v116).bind fun b119 => (I_CacheOk k6 b119).bind fun r120 => cond (!r120) (some false) ((I_WorldOk.l6 k6) v114 v115 (IntKind.i64.wrap (v116 + 1)))) (I_WorldOk.l8 k6 v114 (v114.Accepts.length : Int) 0)
def I_WorldOk.l4 : Nat → T_World → Int → Int → Option Bool
 | 0, _, _, _ => none
 | k4 + 1, v74, v75, v76 => cond (decide (v76 < v75)) ((at? v74.Creds v76).bind fun b79 => (I_CredOk k4 b79).bind fun r80 => cond (!r80) (some false) ((I_WorldOk.l4 k4) v74 v75 (IntKind.i64.wrap (v76 + 1)))) (I_WorldOk.l6 k4 v74 (v74.Caches.length : Int) 0)
def I_WorldOk.l2 : Nat → T_World → Int → Int → Option Bool
 | 0, _, _, _ => none
 | k2 + 1, v34, v35, v36 => cond (decide (v36 < v35)) ((at? v34.Waits v36).bind fun b39 => (I_waitOk k2 b39).bind fun r40 => cond (!r40) (some false) ((I_WorldOk.l2 k2) v34 v35 (IntKind.i64.wrap (v36 + 1)))) (I_WorldOk.l4 k2 v34 (v34.Creds.length : Int) 0)
def I_WorldOk (k : Nat) (a0 : T_World) : Option Bool := I_WorldOk.l2 k a0 (a0.Waits.length : Int) 0
theorem ent60 : MG.Enters Tryz.prog 60 := en func60
theorem g60 (k : Nat) (g0 g1 g2 g3 g4 g5 g6 g7 g8 g9 g10 g11 g12 : Bool) (a0 : T_World) (r : Bool) (H : I_WorldOk k a0 = some r) : Gives Tryz.prog 60 [V.agg (bT_World g0 g1 g2 g3 g4 g5 g6 g7 g8 g9 g10 g11 g12 a0)] [] [V.one (cL r)] [] := by
 refine Gives.intro func60 rfl rfl rfl rfl ?_; refine fx fun w0 T S0 ob oh hm => ?_
 have hF := fxe w0 T S0 121 ob oh
 unfold I_WorldOk at H; obtain ⟨K, hK⟩ := leK k; refine sr ?_; refine bo 16 ?_; refine gn 1 ?_; refine WpC.seq (sr ?_); refine go 2 ?_; refine L.lenR (xs := a0.Waits) (e := eT_Wait) underlying37 hF rfl rfl rfl rfl ?_; refine gn 1 ?_; refine WpC.block ?_; refine WpC.loopL (P := Tryz.prog) (fun n σ => ∃ (v34 : T_World) (v35 v36 : Int), n ≤ K ∧ I_WorldOk.l2 n v34 v35 v36 = some r ∧ σ = mkSt [(1, oP 0 0), (12, MG.one (Cell.sl g7 (List.map eT_Wait v34.Waits))), (13, oI v35), (14, oI v36)] [] [(0, (bT_World g0 g1 g2 g3 g4 g5 g6 g7 g8 g9 g10 g11 g12 v34))] 1) k ⟨_, ⟨a0, (a0.Waits.length : Int), 0, by omega, H, rfl⟩, lm [(0, 16)] hm⟩ ?_; clear H
 rintro k2 _ ⟨v34, v35, v36, hk2, H, rfl⟩
 cases k2 with
 | zero => cases H
 | succ k2 =>
  rw [I_WorldOk.l2] at H
  refine sg 1 ?_; refine WpC.seq ?_; refine cd H (fun hc H => ?_) (fun hc H => ?_)
  ·refine WpC.skip (WpC.seq (WpC.block (sr ?_))); obtain ⟨b39, hb39, H⟩ := bindS H; refine ix underlying37 info143 hb39 ?_; refine le shape143 ?_; refine alc 1 info143 ?_; refine gn 1 ?_; refine sy 1 ?_; refine cB 2 ent108 (g108 k2  b39) H fun r40 H => ?_; refine gn 1 ?_; refine cd H (fun hc H => ?_) (fun hc H => ?_)
   ·refine sg 1 ?_; cases H; exact WpC.ret rt
   ·refine WpC.skip (WpC.regionL ?_); refine gn 2 ?_; exact ⟨k2, _, by omega, ⟨v34, v35, (IntKind.i64.wrap (v36 + 1)), by omega, H, rfl⟩, lm [(0, 0)] hm⟩
  ·refine WpC.exit (WpC.seq (sr ?_)); refine go 2 ?_; refine L.lenR (xs := v34.Creds) (e := eT_Cred) underlying38 hF rfl rfl rfl rfl ?_; refine gn 1 ?_; refine WpC.block ?_; refine WpC.loopL (P := Tryz.prog) (fun n σ => ∃ (v74 : T_World) (v75 v76 : Int), n ≤ K ∧ I_WorldOk.l4 n v74 v75 v76 = some r ∧ σ = mkSt [(1, oP 0 0), (23, MG.one (Cell.sl g8 (List.map eT_Cred v74.Creds))), (24, oI v75), (25, oI v76)] [] [(0, (bT_World g0 g1 g2 g3 g4 g5 g6 g7 g8 g9 g10 g11 g12 v74))] 1) k2 ⟨_, ⟨v34, (v34.Creds.length : Int), 0, by omega, H, rfl⟩, lm [(0, 0)] hm⟩ ?_; clear H
   rintro k4 _ ⟨v74, v75, v76, hk4, H, rfl⟩
   cases k4 with
   | zero => cases H
   | succ k4 =>
    rw [I_WorldOk.l4] at H
    refine sg 1 ?_; refine WpC.seq ?_; refine cd H (fun hc H => ?_) (fun hc H => ?_)
    ·refine WpC.skip (WpC.seq (WpC.block (sr ?_))); obtain ⟨b79, hb79, H⟩ := bindS H; refine ix underlying38 info146 hb79 ?_; refine le shape146 ?_; refine alc 1 info146 ?_; refine gn 1 ?_; refine sy 1 ?_; refine cB 2 ent109 (g109 k4  b79) H fun r80 H => ?_; refine gn 1 ?_; refine cd H (fun hc H => ?_) (fun hc H => ?_)
     ·refine sg 1 ?_; cases H; exact WpC.ret rt
     ·refine WpC.skip (WpC.regionL ?_); refine gn 2 ?_; exact ⟨k4, _, by omega, ⟨v74, v75, (IntKind.i64.wrap (v76 + 1)), by omega, H, rfl⟩, lm [(0, 0)] hm⟩
    ·refine WpC.exit (WpC.seq (sr ?_)); refine go 2 ?_; refine L.lenR (xs := v74.Caches) (e := eT_Cache) underlying39 hF rfl rfl rfl rfl ?_; refine gn 1 ?_; refine WpC.block ?_; refine WpC.loopL (P := Tryz.prog) (fun n σ => ∃ (v114 : T_World) (v115 v116 : Int), n ≤ K ∧ I_WorldOk.l6 n v114 v115 v116 = some r ∧ σ = mkSt [(1, oP 0 0), (34, MG.one (Cell.sl g9 (List.map eT_Cache v114.Caches))), (35, oI v115), (36, oI v116)] [] [(0, (bT_World g0 g1 g2 g3 g4 g5 g6 g7 g8 g9 g10 g11 g12 v114))] 1) k4 ⟨_, ⟨v74, (v74.Caches.length : Int), 0, by omega, H, rfl⟩, lm [(0, 0)] hm⟩ ?_; clear H
     rintro k6 _ ⟨v114, v115, v116, hk6, H, rfl⟩
     cases k6 with
     | zero => cases H
     | succ k6 =>
      rw [I_WorldOk.l6] at H
      refine sg 1 ?_; refine WpC.seq ?_; refine cd H (fun hc H => ?_) (fun hc H => ?_)
      ·refine WpC.skip (WpC.seq (WpC.block (sr ?_))); obtain ⟨b119, hb119, H⟩ := bindS H; refine ix underlying39 info123 hb119 ?_; refine le shape123 ?_; refine alc 1 info123 ?_; refine gn 1 ?_; refine sy 1 ?_; refine cB 2 ent110 (g110 k6 g9 b119) H fun r120 H => ?_; refine gn 1 ?_; refine cd H (fun hc H => ?_) (fun hc H => ?_)
       ·refine sg 1 ?_; cases H; exact WpC.ret rt
       ·refine WpC.skip (WpC.regionL ?_); refine gn 2 ?_; exact ⟨k6, _, by omega, ⟨v114, v115, (IntKind.i64.wrap (v116 + 1)), by omega, H, rfl⟩, lm [(0, 0)] hm⟩
      ·refine WpC.exit (WpC.seq (sr ?_)); refine go 2 ?_; refine L.lenR (xs := v114.Accepts) (e := eT_Accept) underlying41 hF rfl rfl rfl rfl ?_; refine gn 1 ?_; refine WpC.block ?_; refine WpC.loopL (P := Tryz.prog) (fun n σ => ∃ (v154 : T_World) (v155 v156 : Int), n ≤ K ∧ I_WorldOk.l8 n v154 v155 v156 = some r ∧ σ = mkSt [(1, oP 0 0), (45, MG.one (Cell.sl g11 (List.map eT_Accept v154.Accepts))), (46, oI v155), (47, oI v156)] [] [(0, (bT_World g0 g1 g2 g3 g4 g5 g6 g7 g8 g9 g10 g11 g12 v154))] 1) k6 ⟨_, ⟨v114, (v114.Accepts.length : Int), 0, by omega, H, rfl⟩, lm [(0, 0)] hm⟩ ?_; clear H
       rintro k8 _ ⟨v154, v155, v156, hk8, H, rfl⟩
       cases k8 with
       | zero => cases H
       | succ k8 =>
        rw [I_WorldOk.l8] at H
        refine sg 1 ?_; refine WpC.seq ?_; refine cd H (fun hc H => ?_) (fun hc H => ?_)
        ·refine WpC.skip (WpC.seq (WpC.block (sr ?_))); obtain ⟨b159, hb159, H⟩ := bindS H; refine ix underlying41 info58 hb159 ?_; refine le shape58 ?_; refine alc 1 info58 ?_; refine gn 1 ?_; refine sy 3 ?_; refine L.lenR (xs := v154.Leaked) (e := eI) underlying24 hF rfl rfl rfl rfl ?_; refine cB 2 ent111 (g111 k8 g11 g11 b159 (v154.Leaked.length : Int)) H fun r160 H => ?_; refine gn 1 ?_; refine cd H (fun hc H => ?_) (fun hc H => ?_)
         ·refine sg 1 ?_; cases H; exact WpC.ret rt
         ·refine WpC.skip (WpC.regionL ?_); refine gn 2 ?_; exact ⟨k8, _, by omega, ⟨v154, v155, (IntKind.i64.wrap (v156 + 1)), by omega, H, rfl⟩, lm [(0, 0)] hm⟩
        ·refine WpC.exit (WpC.seq (sr ?_)); refine go 2 ?_; refine cB 1 ent112 (g112 k8 g4 v154.Net) H fun r164 H => ?_; refine mv ?_; refine sH H (fun hc H => ?_) (fun hc H => ?_)
         ·refine gn 5 ?_; refine cT ?_; refine sg 1 ?_; cases H; exact WpC.ret rt
         ·refine go 2 ?_; refine L.lenR (xs := v154.Net) (e := eS) underlying34 hF rfl rfl rfl rfl ?_; refine gn 2 ?_; refine cd H (fun hc H => ?_) (fun hc H => ?_)
          ·refine sg 1 ?_; cases H; exact WpC.ret rt
          ·refine WpC.skip (sr ?_); refine go 2 ?_; refine cB 2 ent54 (g54 k8 g0 g1 g2 g3 v154.Config) H fun r169 H => ?_; refine mv ?_; refine sH H (fun hc H => ?_) (fun hc H => ?_)
           ·refine go 2 ?_; refine cB 3 ent105 (g105 k8  v154.Now) H fun r170 H => ?_; refine go 2 ?_; refine sH H (fun hc H => ?_) (fun hc H => ?_)
            ·refine go 2 ?_; refine cB 4 ent52 (g52 k8  v154.Fresh 101 1000000) H fun r171 H => ?_; refine go 2 ?_; refine sH H (fun hc H => ?_) (fun hc H => ?_)
             ·refine go 2 ?_; refine cB 5 ent46 (g46 k8 g5 g6 v154.Known) H fun r172 H => ?_; refine go 2 ?_; refine sH H (fun hc H => ?_) (fun hc H => ?_)
              ·refine go 2 ?_; refine L.lenR (xs := v154.Waits) (e := eT_Wait) underlying37 hF rfl rfl rfl rfl ?_; refine go 3 ?_; refine sH H (fun hc H => ?_) (fun hc H => ?_)
               ·refine go 2 ?_; refine L.lenR (xs := v154.Creds) (e := eT_Cred) underlying38 hF rfl rfl rfl rfl ?_; refine go 3 ?_; refine sH H (fun hc H => ?_) (fun hc H => ?_)
                ·refine go 2 ?_; refine L.lenR (xs := v154.Caches) (e := eT_Cache) underlying39 hF rfl rfl rfl rfl ?_; refine go 3 ?_; refine sH H (fun hc H => ?_) (fun hc H => ?_)
                 ·refine go 2 ?_; refine L.lenR (xs := v154.Log) (e := eT_Event) underlying40 hF rfl rfl rfl rfl ?_; refine go 3 ?_; refine sH H (fun hc H => ?_) (fun hc H => ?_)
                  ·refine go 2 ?_; refine L.lenR (xs := v154.Accepts) (e := eT_Accept) underlying41 hF rfl rfl rfl rfl ?_; refine go 3 ?_; refine sH H (fun hc H => ?_) (fun hc H => ?_)
                   ·refine go 2 ?_; refine L.lenR (xs := v154.Leaked) (e := eI) underlying24 hF rfl rfl rfl rfl ?_; refine gn 3 ?_; cases H; exact WpC.ret rt
                   ·refine gn 6 ?_; cases H; exact WpC.ret rt
                  ·refine gn 12 ?_; cases H; exact WpC.ret rt
                 ·refine gn 18 ?_; cases H; exact WpC.ret rt
                ·refine gn 24 ?_; cases H; exact WpC.ret rt
               ·refine gn 30 ?_; cases H; exact WpC.ret rt
              ·refine gn 36 ?_; cases H; exact WpC.ret rt
             ·refine gn 41 ?_; cases H; exact WpC.ret rt
            ·refine gn 46 ?_; cases H; exact WpC.ret rt
           ·refine gn 51 ?_; cases H; exact WpC.ret rt
/-! ### I_copyTexts -/
def I_copyTexts (k : Nat) (a0 : List (List UInt8)) : Option (List (List UInt8)) := cond (decide ((2 * (([] : List (List UInt8)).length + a0.length) + 192) * 16 ≤ 281474976710656)) (some (([] : List (List UInt8)) ++ a0)) none
theorem ent97 : MG.Enters Tryz.prog 97 := en func97
theorem g97 (k : Nat) (g0 : Bool) (a0 : List (List UInt8)) (r : List (List UInt8)) (H : I_copyTexts k a0 = some r) : Gives Tryz.prog 97 [V.one (Cell.sl g0 (List.map eS a0))] [] [V.one (Cell.ow 1 (List.map eS r))] [] := by
 refine Gives.intro func97 rfl rfl rfl rfl ?_; refine fx fun w0 T S0 ob oh hm => ?_
 have hF := fxe w0 T S0 5 ob oh
 unfold I_copyTexts at H; obtain ⟨K, hK⟩ := leK k; refine sg 1 ?_; refine sy 1 ?_; obtain ⟨h1, H⟩ := condG H; refine L.append (xs := ([] : List (List UInt8))) (ys := a0) (e := eS) 1 underlying34 info9 rfl rfl hF rfl rfl rfl rfl rfl rfl rfl rfl (fun _ => rfl) (fun _ _ h1 _ => by cases h1) ⟨_, underlying34⟩ (of_decide_eq_true h1) rfl rfl ?_; refine gn 1 ?_; cases H; exact WpC.ret rt
/-! ### I_copyKnown -/
def I_copyKnown (k : Nat) (a0 : T_Known) : Option T_Known := (I_copyTexts k a0.Terms).bind fun r1 => (I_copyInts k a0.Keys).bind fun r2 => some (⟨r1, r2⟩ : T_Known)
theorem ent49 : MG.Enters Tryz.prog 49 := en func49
theorem g49 (k : Nat) (g0 g1 : Bool) (a0 r : T_Known) (H : I_copyKnown k a0 = some r) : Gives Tryz.prog 49 [V.agg [Cell.sl g0 (List.map eS a0.Terms), Cell.sl g1 (List.map eI a0.Keys)]] [] [V.agg [Cell.ow 1 (List.map eS r.Terms), Cell.ow 1 (List.map eI r.Keys)]] [] := by
 refine Gives.intro func49 rfl rfl rfl rfl ?_; refine fx fun w0 T S0 ob oh hm => ?_
 have hF := fxe w0 T S0 10 ob oh
 unfold I_copyKnown at H; obtain ⟨K, hK⟩ := leK k; refine sr ?_; refine bo 2 ?_; refine alc 3 info36 (L.nil ?_); refine WpC.seq ?_; obtain ⟨r1, hr1, H⟩ := bindS H; obtain ⟨r2, hr2, H⟩ := bindS H
 apply ldT ⟨[e0 1 _, e0 2 _, ed 3 1 _, ed 4 2 _, ed 5 3 _, ed 6 4 _, ed 7 5 _, ed 8 6 _, ed 9 7 _], [ed 4 3 _, ed 5 6 _], [e0 2 _, (3, [(8, some _), (0, some _)])], 6, []⟩ [(0, 230), (1, 228), (3, 224), (0, 240), (8, 224), (31, 192), (63, 128), (127, 0)] mixed ?L1 ?_
 case L1 =>
  repeat refine ls ?_
  apply lc 6 4 1 [5] [4] [] ?h1_2 ?q1_2 ?_
  case h1_2 =>
   intro b; refine c0 6 ent97 (g97 k g0 a0.Terms r1 hr1) ?_; exact L.nil ⟨rfl, rfl, rfl, rfl⟩
  case' q1_2 => skip
  repeat refine ls ?_
  apply lc 6 5 1 [8] [5] [] ?h1_5 ?q1_5 ?_
  case h1_5 =>
   intro b; refine c0 6 ent98 (g98 k g1 a0.Keys r2 hr2) ?_; exact L.nil ⟨rfl, rfl, rfl, rfl⟩
  case' q1_5 => skip
  apply lc 6 6 0 [9] [] [] ?h1_6 ?q1_6 ?_
  case h1_6 =>
   intro b; refine bf built36 ?_; exact L.nil ⟨rfl, rfl, rfl, rfl⟩
  case' q1_6 => skip
  refine lb ?_; exact trivial
  all_goals exact lq
 cases H; exact WpC.ret rt
/-! ### I_copyCache -/
def I_copyCache (k : Nat) (a0 : T_Cache) : Option T_Cache := cond (decide ((2 * (([] : List T_Auth).length + a0.Seen.length) + 192) * 24 ≤ 281474976710656)) (some (⟨a0.Quiet, (([] : List T_Auth) ++ a0.Seen)⟩ : T_Cache)) none
theorem ent132 : MG.Enters Tryz.prog 132 := en func132
theorem g132 (k : Nat) (g0 : Bool) (a0 r : T_Cache) (H : I_copyCache k a0 = some r) : Gives Tryz.prog 132 [V.agg [cI a0.Quiet, Cell.sl g0 (List.map eT_Auth a0.Seen)]] [] [V.agg [cI r.Quiet, Cell.ow 3 (List.map eT_Auth r.Seen)]] [] := by
 refine Gives.intro func132 rfl rfl rfl rfl ?_; refine fx fun w0 T S0 ob oh hm => ?_
 have hF := fxe w0 T S0 9 ob oh
 unfold I_copyCache at H; obtain ⟨K, hK⟩ := leK k; refine sr ?_; refine bo 2 ?_; refine alc 3 info123 (L.nil ?_); refine WpC.seq ?_; obtain ⟨h1, H⟩ := condG H
 apply ldT ⟨[e0 1 _, e0 2 _, ed 3 1 _, ed 4 2 _, ed 5 3 _, ed 6 4 _, ed 7 5 _, ed 8 6 _], [ed 4 5 _], [e0 2 _, (3, [(7, some _), (0, some _)])], 5, []⟩ [(0, 98), (1, 96), (0, 120), (4, 112), (12, 96), (31, 64), (63, 0)] mixed ?L1 ?_
 case L1 =>
  repeat refine ls ?_
  apply lc 5 4 1 [7] [4] [] ?h1_4 ?q1_4 ?_
  case h1_4 =>
   intro b; refine L.append (xs := ([] : List T_Auth)) (ys := a0.Seen) (e := eT_Auth) 5 underlying121 info56 rfl rfl hF rfl rfl rfl rfl rfl rfl rfl rfl (fun _ => rfl) (fun _ _ h1 _ => by cases h1) ⟨_, underlying121⟩ (of_decide_eq_true h1) rfl rfl ?_; exact L.nil ⟨rfl, rfl, rfl, rfl⟩
  case' q1_4 => skip
  apply lc 5 5 0 [8] [] [] ?h1_5 ?q1_5 ?_
  case h1_5 =>
   intro b; refine bf built123 ?_; exact L.nil ⟨rfl, rfl, rfl, rfl⟩
  case' q1_5 => skip
  refine lb ?_; exact trivial
  all_goals exact lq
 cases H; exact WpC.ret rt
/-! ### I_copyAccept -/
def I_copyAccept (k : Nat) (a0 : T_Accept) : Option T_Accept := (I_copyInts k a0.Path).bind fun r1 => (I_copyInts k a0.Via).bind fun r2 => some (⟨a0.Server, a0.Client, a0.Key, a0.Op, a0.Now, a0.Auth, a0.Rest, r1, r2, a0.Leaks, a0.Ticket⟩ : T_Accept)
theorem ent133 : MG.Enters Tryz.prog 133 := en func133
theorem g133 (k : Nat) (g0 g1 : Bool) (a0 r : T_Accept) (H : I_copyAccept k a0 = some r) : Gives Tryz.prog 133 [V.agg (bT_Accept g0 g1 a0)] [] [V.agg [cI r.Server, cI r.Client, cI r.Key, cI r.Op, cI r.Now, cI r.Auth.Client, cI r.Auth.Time, cI r.Auth.Seq, cI r.Rest.Servers, cI r.Rest.Ops, cI r.Rest.End, Cell.ow 1 (List.map eI r.Path), Cell.ow 1 (List.map eI r.Via), cI r.Leaks, cS r.Ticket]] [] := by
 refine Gives.intro func133 rfl rfl rfl rfl ?_; refine fx fun w0 T S0 ob oh hm => ?_
 have hF := fxe w0 T S0 12 ob oh
 unfold I_copyAccept at H; obtain ⟨K, hK⟩ := leK k; refine sr ?_; refine bo 15 ?_; refine alc 16 info58 (L.nil ?_); refine sy 2 ?_; refine cB 17 ent98 (g98 k g0 a0.Path) H fun r1 H => ?_; refine gn 2 ?_; refine sy 2 ?_; refine cB 18 ent98 (g98 k g1 a0.Via) H fun r2 H => ?_; refine gn 2 ?_; refine sg 2 ?_; cases H; exact WpC.ret rt
/-! ### I_copyWorld -/
def I_copyWorld.l4 : Nat → T_World → Int → Int → T_Config → (List (List UInt8)) → T_Known → (List T_Wait) → (List T_Cred) → (List T_Cache) → (List T_Event) → (List T_Accept) → (List Int) → Option T_World
 | 0, _, _, _, _, _, _, _, _, _, _, _, _ => none
 | k4 + 1, v192, v193, v194, v195, v196, v197, v198, v199, v200, v201, v202, v203 => cond (decide (v194 < v193)) ((at? v192.Accepts v194).bind fun b207 => (I_copyAccept k4 b207).bind fun r208 => cond (decide ((2 * (v202.length + ([r208] : List T_Accept).length) + 192) * 160 ≤ 281474976710656)) ((I_copyWorld.l4 k4) v192 v193 (IntKind.i64.wrap (v194 + 1)) v195 v196 v197 v198 v199 v200 v201 (v202 ++ ([r208] : List T_Accept)) v203) none) (some (⟨v195, v192.Now, v192.Fresh, v196, v197, v198, v199, v200, v201, v202, v203⟩ : T_World))
def I_copyWorld.l2 : Nat → T_World → Int → Int → T_Config → (List (List UInt8)) → T_Known → (List T_Wait) → (List T_Cred) → (List T_Cache) → (List T_Event) → (List Int) → Option T_World
 | 0, _, _, _, _, _, _, _, _, _, _, _ => none
 | k2 + 1, v89, v90, v91, v92, v93, v94, v95, v96, v97, v98, v99 => cond (decide (v91 < v90)) ((at? v89.Caches v91).bind fun b103 => (I_copyCache k2 b103).bind fun r104 => cond (decide ((2 * (v97.length + ([r104] : List T_Cache).length) + 192) * 32 ≤ 281474976710656)) ((I_copyWorld.l2 k2) v89 v90 (IntKind.i64.wrap (v91 + 1)) v92 v93 v94 v95 v96 (v97 ++ ([r104] : List T_Cache)) v98 v99) none) (I_copyWorld.l4 k2 v89 (v89.Accepts.length : Int) 0 v92 v93 v94 v95 v96 v97 v98 [] v99)
def I_copyWorld (k : Nat) (a0 : T_World) : Option T_World := (I_copyConfig k a0.Config).bind fun r1 => (I_copyTexts k a0.Net).bind fun r2 => (I_copyKnown k a0.Known).bind fun r3 => cond (decide ((2 * (([] : List T_Wait).length + a0.Waits.length) + 192) * 32 ≤ 281474976710656)) (cond (decide ((2 * (([] : List T_Cred).length + a0.Creds.length) + 192) * 72 ≤ 281474976710656)) (cond (decide ((2 * (([] : List T_Event).length + a0.Log.length) + 192) * 88 ≤ 281474976710656)) ((I_copyInts k a0.Leaked).bind fun r7 => I_copyWorld.l2 k a0 (a0.Caches.length : Int) 0 r1 r2 r3 (([] : List T_Wait) ++ a0.Waits) (([] : List T_Cred) ++ a0.Creds) [] (([] : List T_Event) ++ a0.Log) r7) none) none) none
theorem ent88 : MG.Enters Tryz.prog 88 := en func88
theorem g88 (k : Nat) (g0 g1 g2 g3 g4 g5 g6 g7 g8 g9 g10 g11 g12 : Bool) (a0 r : T_World) (H : I_copyWorld k a0 = some r) : Gives Tryz.prog 88 [V.agg (bT_World g0 g1 g2 g3 g4 g5 g6 g7 g8 g9 g10 g11 g12 a0)] [] [V.agg [Cell.ow 1 (List.map eI r.Config.UserRealm), Cell.ow 1 (List.map eI r.Config.ServiceRealm), Cell.ow 2 (List.map eT_Pair r.Config.Links), Cell.ow 2 (List.map eT_Pair r.Config.Proxy), cI r.Config.Skew, cI r.Now, cI r.Fresh, Cell.ow 1 (List.map eS r.Net), Cell.ow 1 (List.map eS r.Known.Terms), Cell.ow 1 (List.map eI r.Known.Keys), Cell.ow 4 (List.map eT_Wait r.Waits), Cell.ow 8 (List.map eT_Cred r.Creds), Cell.ow 2 (List.map eT_Cache r.Caches), Cell.ow 11 (List.map eT_Event r.Log), Cell.ow 15 (List.map eT_Accept r.Accepts), Cell.ow 1 (List.map eI r.Leaked)]] [] := by
 refine Gives.intro func88 rfl rfl rfl rfl ?_; refine fx fun w0 T S0 ob oh hm => ?_
 have hF := fxe w0 T S0 65 ob oh
 unfold I_copyWorld at H; obtain ⟨K, hK⟩ := leK k; refine sr ?_; refine bo 16 ?_; refine alc 17 info43 (L.nil ?_); refine WpC.seq ?_; obtain ⟨r1, hr1, H⟩ := bindS H; obtain ⟨r2, hr2, H⟩ := bindS H; obtain ⟨r3, hr3, H⟩ := bindS H; obtain ⟨h4, H⟩ := condG H; obtain ⟨h5, H⟩ := condG H; obtain ⟨h6, H⟩ := condG H; obtain ⟨r7, hr7, H⟩ := bindS H
 apply ldT ⟨[e0 1 _, e0 2 _, ed 3 27 _, ed 8 1 _, ed 9 2 _, ed 10 3 _, ed 11 4 _, ed 12 5 _, ed 13 6 _, ed 14 7 _, ed 15 8 _, ed 16 9 _, ed 17 10 _, ed 18 11 _, ed 19 12 _, ed 20 13 _, ed 21 14 _, ed 22 15 _, ed 23 16 _, ed 24 17 _, ed 25 18 _, ed 26 19 _, ed 27 20 _, ed 28 21 _, ed 29 22 _, ed 30 23 _, ed 31 24 _, ed 32 25 _, ed 33 26 _], [ed 18 3 _, ed 19 3 _, ed 20 3 _, ed 21 3 _, ed 23 10 _, ed 24 13 _, ed 25 13 _, ed 26 16 _, ed 27 19 _, ed 28 22 _, ed 29 25 _], [e0 16 _, e0 17 _, (30, [(28, some _), (27, some _)])], 31, []⟩ [(0, 186946054), (1, 186946052), (3, 186946048), (0, 167772176), (8, 167772160), (0, 167772224), (32, 167772160), (0, 186946304), (128, 186946048), (391, 186945536), (0, 186947584), (1024, 186945536), (3975, 186941440), (0, 186957824), (8192, 186941440), (32647, 186908672), (0, 187039744), (65536, 186908672), (262023, 186646528), (0, 187695104), (524288, 186646528), (2097031, 184549376), (0, 192937984), (4194304, 184549376), (16777095, 167772160), (33554431, 134217728), (0, 134217728), (134217727, 0)] mixed ?L1 ?_
 case L1 =>
  repeat refine ls ?_
  apply lc 31 18 5 [10] [18, 19, 20, 21] [] ?h1_2 ?q1_2 ?_
  case h1_2 =>
   intro b; refine c0 31 ent86 (g86 k g0 g1 g2 g3 a0.Config r1 hr1) ?_; exact L.nil ⟨rfl, rfl, rfl, rfl⟩
  case' q1_2 => skip
  repeat refine ls ?_
  apply lc 31 23 1 [17] [23] [] ?h1_9 ?q1_9 ?_
  case h1_9 =>
   intro b; refine c0 31 ent97 (g97 k g4 a0.Net r2 hr2) ?_; exact L.nil ⟨rfl, rfl, rfl, rfl⟩
  case' q1_9 => skip
  repeat refine ls ?_
  apply lc 31 24 2 [20] [24, 25] [] ?h1_12 ?q1_12 ?_
  case h1_12 =>
   intro b; refine c0 31 ent49 (g49 k g5 g6 a0.Known r3 hr3) ?_; exact L.nil ⟨rfl, rfl, rfl, rfl⟩
  case' q1_12 => skip
  repeat refine ls ?_
  apply lc 31 26 1 [23] [26] [] ?h1_15 ?q1_15 ?_
  case h1_15 =>
   intro b; refine L.append (xs := ([] : List T_Wait)) (ys := a0.Waits) (e := eT_Wait) 31 underlying37 info143 rfl rfl hF rfl rfl rfl rfl rfl rfl rfl rfl (fun _ => rfl) (fun _ _ h1 _ => by cases h1) ⟨_, underlying37⟩ (of_decide_eq_true h4) rfl rfl ?_; exact L.nil ⟨rfl, rfl, rfl, rfl⟩
  case' q1_15 => skip
  repeat refine ls ?_
  apply lc 31 27 1 [26] [27] [] ?h1_18 ?q1_18 ?_
  case h1_18 =>
   intro b; refine L.append (xs := ([] : List T_Cred)) (ys := a0.Creds) (e := eT_Cred) 31 underlying38 info146 rfl rfl hF rfl rfl rfl rfl rfl rfl rfl rfl (fun _ => rfl) (fun _ _ h1 _ => by cases h1) ⟨_, underlying38⟩ (of_decide_eq_true h5) rfl rfl ?_; exact L.nil ⟨rfl, rfl, rfl, rfl⟩
  case' q1_18 => skip
  repeat refine ls ?_
  apply lc 31 28 1 [29] [28] [] ?h1_21 ?q1_21 ?_
  case h1_21 =>
   intro b; refine L.append (xs := ([] : List T_Event)) (ys := a0.Log) (e := eT_Event) 31 underlying40 info47 rfl rfl hF rfl rfl rfl rfl rfl rfl rfl rfl (fun _ => rfl) (fun _ _ h1 _ => by cases h1) ⟨_, underlying40⟩ (of_decide_eq_true h6) rfl rfl ?_; exact L.nil ⟨rfl, rfl, rfl, rfl⟩
  case' q1_21 => skip
  repeat refine ls ?_
  apply lc 31 29 1 [32] [29] [] ?h1_24 ?q1_24 ?_
  case h1_24 =>
   intro b; refine c0 31 ent98 (g98 k g12 a0.Leaked r7 hr7) ?_; exact L.nil ⟨rfl, rfl, rfl, rfl⟩
  case' q1_24 => skip
  apply lc 31 30 0 [33] [] [] ?h1_25 ?q1_25 ?_
  case h1_25 =>
   intro b; refine bf built43 ?_; exact L.nil ⟨rfl, rfl, rfl, rfl⟩
  case' q1_25 => skip
  apply lc 31 30 1 [3] [] [30] ?h1_26 ?q1_26 ?_
  case h1_26 =>
   intro b; refine alc 31 info43 ?_; exact L.nil ⟨rfl, rfl, rfl, rfl⟩
  case' q1_26 => skip
  refine lb ?_; exact trivial
  all_goals exact lq
 refine WpC.seq (sr ?_); refine go 2 ?_; refine L.lenR (xs := a0.Caches) (e := eT_Cache) underlying39 hF rfl rfl rfl rfl ?_; refine gn 1 ?_; refine WpC.block ?_
 refine WpC.loopL (P := Tryz.prog) (fun n σ => ∃ (v89 : T_World) (v90 v91 : Int) (v92 : T_Config) (v93 : List (List UInt8)) (v94 : T_Known) (v95 : List T_Wait) (v96 : List T_Cred) (v97 : List T_Cache) (v98 : List T_Event) (v99 : List Int), n ≤ K ∧ I_copyWorld.l2 n v89 v90 v91 v92 v93 v94 v95 v96 v97 v98 v99 = some r ∧ σ = mkSt [(1, oP 0 0), (2, oP 1 0), (3, oP 2 0), (35, MG.one (Cell.sl g9 (List.map eT_Cache v89.Caches))), (36, oI v90), (37, oI v91)] [(3, ⟨1, List.map eI v92.UserRealm⟩), (4, ⟨1, List.map eI v92.ServiceRealm⟩), (5, ⟨2, List.map eT_Pair v92.Links⟩), (6, ⟨2, List.map eT_Pair v92.Proxy⟩), (7, ⟨1, List.map eS v93⟩), (8, ⟨1, List.map eS v94.Terms⟩), (9, ⟨1, List.map eI v94.Keys⟩), (10, ⟨4, List.map eT_Wait v95⟩), (11, ⟨8, List.map eT_Cred v96⟩), (12, ⟨2, List.map eT_Cache v97⟩), (13, ⟨11, List.map eT_Event v98⟩), (14, ⟨1, List.map eI v99⟩)] [(0, (bT_World g0 g1 g2 g3 g4 g5 g6 g7 g8 g9 g10 g11 g12 v89)), (1, zc1), (2, [Cell.own 3, Cell.own 4, Cell.own 5, Cell.own 6, cI v92.Skew, cI v89.Now, cI v89.Fresh, Cell.own 7, Cell.own 8, Cell.own 9, Cell.own 10, Cell.own 11, Cell.own 12, Cell.own 13, Cell.nil, Cell.own 14])] 15) k ⟨_, ⟨a0, (a0.Caches.length : Int), 0, r1, r2, r3, (([] : List T_Wait) ++ a0.Waits), (([] : List T_Cred) ++ a0.Creds), [], (([] : List T_Event) ++ a0.Log), r7, by omega, H, rfl⟩, (Le.ownB 30 12 31 2 rfl rfl rfl).trans (lm [(0, 16), (1, 17), (2, 30), (3, 18), (4, 19), (5, 20), (6, 21), (7, 23), (8, 24), (9, 25), (10, 26), (11, 27), (12, 31), (13, 28), (14, 29)] hm)⟩ ?_
 clear H
 rintro k2 _ ⟨v89, v90, v91, v92, v93, v94, v95, v96, v97, v98, v99, hk2, H, rfl⟩
 cases k2 with
 | zero => cases H
 | succ k2 =>
  rw [I_copyWorld.l2] at H
  refine sg 1 ?_; refine WpC.seq ?_; refine cd H (fun hc H => ?_) (fun hc H => ?_)
  ·refine WpC.skip (WpC.seq (WpC.block (sr ?_))); obtain ⟨b103, hb103, H⟩ := bindS H; refine ix underlying39 info123 hb103 ?_; refine le shape123 ?_; refine alc 15 info123 ?_; refine gn 1 ?_; obtain ⟨r104, hr104, H⟩ := bindS H; obtain ⟨h105, H⟩ := condG H
   apply ldT ⟨[e0 1 _, e0 2 _, e0 3 _, e0 5 _, e0 35 _, e0 36 _, e0 37 _, ed 41 1 _, ed 42 2 _, ed 43 3 _, ed 44 4 _, ed 45 5 _, ed 46 6 _, ed 47 7 _], [e0 3 _, e0 4 _, e0 5 _, e0 6 _, e0 7 _, e0 8 _, e0 9 _, e0 10 _, e0 11 _, (12, [(6, none), (0, some _)]), e0 13 _, e0 14 _, (17, [(5, none), (4, some _)]), (18, [(6, none), (5, some _)]), ed 19 6 _], [e0 0 _, e0 1 _, (2, [(8, some _), (0, some _)]), e0 15 _], 20, []⟩ [(0, 226), (1, 224), (0, 248), (4, 240), (12, 224), (31, 192), (63, 128), (127, 0)] mixed ?L2 ?_
   case L2 =>
    repeat refine ls ?_
    apply lc 20 16 2 [44] [17] [] ?h2_3 ?q2_3 ?_
    case h2_3 =>
     intro b; refine c0 20 ent132 (g132 k2 g9 b103 r104 hr104) ?_; exact L.nil ⟨rfl, rfl, rfl, rfl⟩
    case' q2_3 => skip
    apply lc 20 18 1 [45] [18] [] ?h2_4 ?q2_4 ?_
    case h2_4 =>
     intro b; refine L.buildSliceN (e := eT_Cache) 3 20 ([r104] : List T_Cache) underlying39 info123 rfl rfl rfl hF rfl rfl rfl rfl rfl rfl rfl rfl ?_; exact L.nil ⟨rfl, rfl, rfl, rfl⟩
    case' q2_4 => skip
    apply lc 20 19 1 [46] [19] [] ?h2_5 ?q2_5 ?_
    case h2_5 =>
     intro b; refine L.appendN (xs := v97) (ys := ([r104] : List T_Cache)) (e := eT_Cache) 20 underlying39 info123 rfl rfl hF rfl rfl rfl rfl rfl rfl rfl rfl rfl (fun _ _ h1 h2 => by cases h1; cases h2; rfl) underlying39 (of_decide_eq_true h105) rfl rfl ?_; exact L.nil ⟨rfl, rfl, rfl, rfl⟩
    case' q2_5 => skip
    repeat refine ls ?_
    refine lb ?_; exact trivial
    all_goals exact lq
   refine WpC.regionL ?_; refine gn 2 ?_; exact ⟨k2, _, by omega, ⟨v89, v90, (IntKind.i64.wrap (v91 + 1)), v92, v93, v94, v95, v96, (v97 ++ ([r104] : List T_Cache)), v98, v99, by omega, H, rfl⟩, lm [(0, 0), (1, 1), (2, 2), (3, 3), (4, 4), (5, 5), (6, 6), (7, 7), (8, 8), (9, 9), (10, 10), (11, 11), (12, 19), (13, 13), (14, 14)] hm⟩
  ·refine WpC.exit (WpC.seq (sr ?_)); refine go 2 ?_; refine L.lenR (xs := v89.Accepts) (e := eT_Accept) underlying41 hF rfl rfl rfl rfl ?_; refine gn 1 ?_; refine WpC.block ?_
   refine WpC.loopL (P := Tryz.prog) (fun n σ => ∃ (v192 : T_World) (v193 v194 : Int) (v195 : T_Config) (v196 : List (List UInt8)) (v197 : T_Known) (v198 : List T_Wait) (v199 : List T_Cred) (v200 : List T_Cache) (v201 : List T_Event) (v202 : List T_Accept) (v203 : List Int), n ≤ K ∧ I_copyWorld.l4 n v192 v193 v194 v195 v196 v197 v198 v199 v200 v201 v202 v203 = some r ∧ σ = mkSt [(2, oP 0 0), (3, oP 1 0), (50, MG.one (Cell.sl g11 (List.map eT_Accept v192.Accepts))), (51, oI v193), (52, oI v194)] [(2, ⟨1, List.map eI v195.UserRealm⟩), (3, ⟨1, List.map eI v195.ServiceRealm⟩), (4, ⟨2, List.map eT_Pair v195.Links⟩), (5, ⟨2, List.map eT_Pair v195.Proxy⟩), (6, ⟨1, List.map eS v196⟩), (7, ⟨1, List.map eS v197.Terms⟩), (8, ⟨1, List.map eI v197.Keys⟩), (9, ⟨4, List.map eT_Wait v198⟩), (10, ⟨8, List.map eT_Cred v199⟩), (11, ⟨2, List.map eT_Cache v200⟩), (12, ⟨11, List.map eT_Event v201⟩), (13, ⟨15, List.map eT_Accept v202⟩), (14, ⟨1, List.map eI v203⟩)] [(0, zc1), (1, [Cell.own 2, Cell.own 3, Cell.own 4, Cell.own 5, cI v195.Skew, cI v192.Now, cI v192.Fresh, Cell.own 6, Cell.own 7, Cell.own 8, Cell.own 9, Cell.own 10, Cell.own 11, Cell.own 12, Cell.own 13, Cell.own 14])] 15) k2 ⟨_, ⟨v89, (v89.Accepts.length : Int), 0, v92, v93, v94, v95, v96, v97, v98, [], v99, by omega, H, rfl⟩, (Le.ownB 2 14 15 15 rfl rfl rfl).trans (lm [(0, 1), (1, 2), (2, 3), (3, 4), (4, 5), (5, 6), (6, 7), (7, 8), (8, 9), (9, 10), (10, 11), (11, 12), (12, 13), (13, 15), (14, 14)] hm)⟩ ?_
   clear H
   rintro k4 _ ⟨v192, v193, v194, v195, v196, v197, v198, v199, v200, v201, v202, v203, hk4, H, rfl⟩
   cases k4 with
   | zero => cases H
   | succ k4 =>
    rw [I_copyWorld.l4] at H
    refine sg 1 ?_; refine WpC.seq ?_; refine cd H (fun hc H => ?_) (fun hc H => ?_)
    ·refine WpC.skip (WpC.seq (WpC.block (sr ?_))); obtain ⟨b207, hb207, H⟩ := bindS H; refine ix underlying41 info58 hb207 ?_; refine le shape58 ?_; refine alc 15 info58 ?_; refine gn 1 ?_; obtain ⟨r208, hr208, H⟩ := bindS H; obtain ⟨h209, H⟩ := condG H
     apply ldT ⟨[e0 2 _, e0 3 _, e0 7 _, e0 50 _, e0 51 _, e0 52 _, ed 56 1 _, ed 57 2 _, ed 58 3 _, ed 59 4 _, ed 60 5 _, ed 61 6 _, ed 62 7 _], [e0 2 _, e0 3 _, e0 4 _, e0 5 _, e0 6 _, e0 7 _, e0 8 _, e0 9 _, e0 10 _, e0 11 _, e0 12 _, (13, [(6, none), (0, some _)]), e0 14 _, (27, [(5, none), (4, some _)]), (28, [(5, none), (4, some _)]), (31, [(6, none), (5, some _)]), ed 32 6 _], [e0 0 _, (1, [(8, some _), (0, some _)]), e0 15 _], 33, []⟩ [(0, 226), (1, 224), (0, 248), (4, 240), (12, 224), (31, 192), (63, 128), (127, 0)] mixed ?L3 ?_
     case L3 =>
      repeat refine ls ?_
      apply lc 33 16 15 [59] [27, 28] [] ?h3_3 ?q3_3 ?_
      case h3_3 =>
       intro b; refine c0 33 ent133 (g133 k4 g11 g11 b207 r208 hr208) ?_; exact L.nil ⟨rfl, rfl, rfl, rfl⟩
      case' q3_3 => skip
      apply lc 33 31 1 [60] [31] [] ?h3_4 ?q3_4 ?_
      case h3_4 =>
       intro b; refine L.buildSliceN (e := eT_Accept) 1 33 ([r208] : List T_Accept) underlying41 info58 rfl rfl rfl hF rfl rfl rfl rfl rfl rfl rfl rfl ?_; exact L.nil ⟨rfl, rfl, rfl, rfl⟩
      case' q3_4 => skip
      apply lc 33 32 1 [61] [32] [] ?h3_5 ?q3_5 ?_
      case h3_5 =>
       intro b; refine L.appendN (xs := v202) (ys := ([r208] : List T_Accept)) (e := eT_Accept) 33 underlying41 info58 rfl rfl hF rfl rfl rfl rfl rfl rfl rfl rfl rfl (fun _ _ h1 h2 => by cases h1; cases h2; rfl) underlying41 (of_decide_eq_true h209) rfl rfl ?_; exact L.nil ⟨rfl, rfl, rfl, rfl⟩
      case' q3_5 => skip
      repeat refine ls ?_
      refine lb ?_; exact trivial
      all_goals exact lq
     refine WpC.regionL ?_; refine gn 2 ?_; exact ⟨k4, _, by omega, ⟨v192, v193, (IntKind.i64.wrap (v194 + 1)), v195, v196, v197, v198, v199, v200, v201, (v202 ++ ([r208] : List T_Accept)), v203, by omega, H, rfl⟩, lm [(0, 0), (1, 1), (2, 2), (3, 3), (4, 4), (5, 5), (6, 6), (7, 7), (8, 8), (9, 9), (10, 10), (11, 11), (12, 12), (13, 32), (14, 14)] hm⟩
    ·refine WpC.exit (sr ?_); refine gn 2 ?_; cases H; exact WpC.ret rt
/-! ### I_term -/
def I_term (k : Nat) (a0 : List UInt8) : Option (List UInt8) := (I_TermOk k a0).bind fun r2 => cond (!r2) (some ([] : List UInt8)) (some a0)
theorem ent241 : MG.Enters Tryz.prog 241 := en func241
theorem g241 (k : Nat) (a0 r : List UInt8) (H : I_term k a0 = some r) : Gives Tryz.prog 241 [V.one (cS a0)] [] [V.one (cS r)] [] := by
 refine Gives.intro func241 rfl rfl rfl rfl ?_; refine fx fun w0 T S0 ob oh hm => ?_
 have hF := fxe w0 T S0 7 ob oh
 unfold I_term at H; obtain ⟨K, hK⟩ := leK k; refine sg 1 ?_; refine WpC.seq (sr ?_); refine mv ?_; refine cB 1 ent90 (g90 k  a0) H fun r2 H => ?_; refine gn 1 ?_; refine cd H (fun hc H => ?_) (fun hc H => ?_)
 ·refine sg 1 ?_; cases H; exact WpC.ret rt
 ·refine WpC.skip (sr ?_); refine gn 2 ?_; cases H; exact WpC.ret rt
/-! ### I_Atom -/
def I_Atom (k : Nat) (a0 : List UInt8) : Option (List UInt8) := (I_Var k (a0.length : Int)).bind fun r1 => cond (decide (([97] : List UInt8).length + r1.length ≤ 9223372036854775807)) (cond (decide ((([97] : List UInt8) ++ r1).length + a0.length ≤ 9223372036854775807)) ((I_term k ((([97] : List UInt8) ++ r1) ++ a0)).bind fun r4 => some r4) none) none
theorem ent221 : MG.Enters Tryz.prog 221 := en func221
theorem g221 (k : Nat) (a0 r : List UInt8) (H : I_Atom k a0 = some r) : Gives Tryz.prog 221 [V.one (cS a0)] [] [V.one (cS r)] [] := by
 refine Gives.intro func221 rfl rfl rfl rfl ?_; refine fx fun w0 T S0 ob oh hm => ?_
 have hF := fxe w0 T S0 10 ob oh
 unfold I_Atom at H; obtain ⟨K, hK⟩ := leK k; refine sg 1 ?_; refine sy 1 ?_; refine L.lenS underlying9 hF rfl rfl rfl ?_; refine cB 1 ent231 (g231 k  (a0.length : Int)) H fun r1 H => ?_; obtain ⟨h2, H⟩ := condG H; refine L.catS hF rfl rfl rfl rfl (of_decide_eq_true h2) ?_; refine mv ?_; obtain ⟨h3, H⟩ := condG H; refine L.catS hF rfl rfl rfl rfl (of_decide_eq_true h3) ?_; refine cB 2 ent241 (g241 k  ((([97] : List UInt8) ++ r1) ++ a0)) H fun r4 H => ?_; refine gn 1 ?_; cases H; exact WpC.ret rt
/-! ### I_Num -/
def I_Num (k : Nat) (a0 : Int) : Option (List UInt8) := (I_Var k a0).bind fun r1 => cond (r1 == ([] : List UInt8)) (some ([] : List UInt8)) ((I_Atom k r1).bind fun r2 => some r2)
theorem ent242 : MG.Enters Tryz.prog 242 := en func242
theorem g242 (k : Nat) (a0 : Int) (r : List UInt8) (H : I_Num k a0 = some r) : Gives Tryz.prog 242 [V.one (cI a0)] [] [V.one (cS r)] [] := by
 refine Gives.intro func242 rfl rfl rfl rfl ?_; refine fx fun w0 T S0 ob oh hm => ?_
 have hF := fxe w0 T S0 10 ob oh
 unfold I_Num at H; obtain ⟨K, hK⟩ := leK k; refine sg 1 ?_; refine sy 1 ?_; refine cB 1 ent231 (g231 k  a0) H fun r1 H => ?_; refine gn 1 ?_; refine WpC.seq (sr ?_); refine mv ?_; refine L.binS hF rfl rfl rfl rfl rfl (L.nil ?_); refine cd H (fun hc H => ?_) (fun hc H => ?_)
 ·refine sg 1 ?_; cases H; exact WpC.ret rt
 ·refine WpC.skip (sr ?_); refine mv ?_; refine cB 2 ent221 (g221 k  r1) H fun r2 H => ?_; refine gn 1 ?_; cases H; exact WpC.ret rt
/-! ### I_List -/
def I_List.l2 : Nat → (List UInt8) → (List (List UInt8)) → Int → Int → Option (List UInt8)
 | 0, _, _, _, _ => none
 | k2 + 1, v61, v62, v63, v64 => cond (decide (v64 < v63)) ((at? v62 v64).bind fun b69 => (I_TermOk k2 b69).bind fun r71 => cond (!r71) (some ([] : List UInt8)) (cond (decide (v61.length + b69.length ≤ 9223372036854775807)) ((I_List.l2 k2) (v61 ++ b69) v62 v63 (IntKind.i64.wrap (v64 + 1))) none)) ((I_term k2 v61).bind fun r73 => some r73)
def I_List (k : Nat) (a0 : List (List UInt8)) : Option (List UInt8) := (I_Var k (a0.length : Int)).bind fun r1 => cond (decide (([108] : List UInt8).length + r1.length ≤ 9223372036854775807)) (I_List.l2 k (([108] : List UInt8) ++ r1) a0 (a0.length : Int) 0) none
theorem ent218 : MG.Enters Tryz.prog 218 := en func218
theorem g218 (k : Nat) (g0 : Bool) (a0 : List (List UInt8)) (r : List UInt8) (H : I_List k a0 = some r) : Gives Tryz.prog 218 [V.one (Cell.sl g0 (List.map eS a0))] [] [V.one (cS r)] [] := by
 refine Gives.intro func218 rfl rfl rfl rfl ?_; refine fx fun w0 T S0 ob oh hm => ?_
 have hF := fxe w0 T S0 25 ob oh
 unfold I_List at H; obtain ⟨K, hK⟩ := leK k; refine sg 1 ?_; refine sy 1 ?_; refine L.lenR (xs := a0) (e := eS) underlying34 hF rfl rfl rfl rfl ?_; refine cB 1 ent231 (g231 k  (a0.length : Int)) H fun r1 H => ?_; obtain ⟨h2, H⟩ := condG H; refine L.catS hF rfl rfl rfl rfl (of_decide_eq_true h2) ?_; refine gn 1 ?_; refine WpC.seq (sr ?_); refine mv ?_; refine L.lenR (xs := a0) (e := eS) underlying34 hF rfl rfl rfl rfl ?_; refine gn 1 ?_; refine WpC.block ?_; refine WpC.loopL (P := Tryz.prog) (fun n σ => ∃ (v61 : List UInt8) (v62 : List (List UInt8)) (v63 v64 : Int), n ≤ K ∧ I_List.l2 n v61 v62 v63 v64 = some r ∧ σ = mkSt [(3, oS v61), (10, MG.one (Cell.sl g0 (List.map eS v62))), (11, oI v63), (12, oI v64)] [] [] 0) k ⟨_, ⟨(([108] : List UInt8) ++ r1), a0, (a0.length : Int), 0, by omega, H, rfl⟩, lm [] hm⟩ ?_; clear H
 rintro k2 _ ⟨v61, v62, v63, v64, hk2, H, rfl⟩
 cases k2 with
 | zero => cases H
 | succ k2 =>
  rw [I_List.l2] at H
  refine sg 1 ?_; refine WpC.seq ?_; refine cd H (fun hc H => ?_) (fun hc H => ?_)
  ·refine WpC.skip (WpC.seq (WpC.block (sr ?_))); obtain ⟨b69, hb69, H⟩ := bindS H; refine ix underlying34 info9 hb69 ?_; refine gn 2 ?_; refine WpC.seq (sr ?_); refine mv ?_; refine cB 0 ent90 (g90 k2  b69) H fun r71 H => ?_; refine gn 1 ?_; refine cd H (fun hc H => ?_) (fun hc H => ?_)
   ·refine sg 1 ?_; cases H; exact WpC.ret rt
   ·refine WpC.skip (WpC.regionL ?_); refine go 2 ?_; obtain ⟨h72, H⟩ := condG H; refine L.catS hF rfl rfl rfl rfl (of_decide_eq_true h72) ?_; refine gn 1 ?_; refine WpC.regionL ?_; refine gn 2 ?_; exact ⟨k2, _, by omega, ⟨(v61 ++ b69), v62, v63, (IntKind.i64.wrap (v64 + 1)), by omega, H, rfl⟩, lm [] hm⟩
  ·refine WpC.exit (sr ?_); refine mv ?_; refine cB 0 ent241 (g241 k2  v61) H fun r73 H => ?_; refine gn 1 ?_; cases H; exact WpC.ret rt
/-! ### I_Nums -/
def I_Nums.l2 : Nat → (List (List UInt8)) → (List Int) → Int → Int → Option (List UInt8)
 | 0, _, _, _, _ => none
 | k2 + 1, v49, v50, v51, v52 => cond (decide (v52 < v51)) ((at? v50 v52).bind fun b56 => (I_Num k2 b56).bind fun r57 => cond (r57 == ([] : List UInt8)) (some ([] : List UInt8)) (cond (decide ((2 * (v49.length + ([r57] : List (List UInt8)).length) + 192) * 16 ≤ 281474976710656)) ((I_Nums.l2 k2) (v49 ++ ([r57] : List (List UInt8))) v50 v51 (IntKind.i64.wrap (v52 + 1))) none)) ((I_List k2 v49).bind fun r59 => some r59)
def I_Nums (k : Nat) (a0 : List Int) : Option (List UInt8) := I_Nums.l2 k ([] : List (List UInt8)) a0 (a0.length : Int) 0
theorem ent219 : MG.Enters Tryz.prog 219 := en func219
theorem g219 (k : Nat) (g0 : Bool) (a0 : List Int) (r : List UInt8) (H : I_Nums k a0 = some r) : Gives Tryz.prog 219 [V.one (Cell.sl g0 (List.map eI a0))] [] [V.one (cS r)] [] := by
 refine Gives.intro func219 rfl rfl rfl rfl ?_; refine fx fun w0 T S0 ob oh hm => ?_
 have hF := fxe w0 T S0 25 ob oh
 unfold I_Nums at H; obtain ⟨K, hK⟩ := leK k; refine sg 1 ?_; refine sr ?_; refine L.buildSlice (e := eS) 1 ([] : List (List UInt8)) underlying34 info9 rfl rfl rfl hF rfl rfl rfl rfl rfl rfl rfl rfl ?_; refine gn 1 ?_; refine WpC.seq (sr ?_); refine mv ?_; refine L.lenR (xs := a0) (e := eI) underlying24 hF rfl rfl rfl rfl ?_; refine gn 1 ?_; refine WpC.block ?_; refine WpC.loopL (P := Tryz.prog) (fun n σ => ∃ (v49 : List (List UInt8)) (v50 : List Int) (v51 v52 : Int), n ≤ K ∧ I_Nums.l2 n v49 v50 v51 v52 = some r ∧ σ = mkSt [(3, MG.one (Cell.own 0)), (8, MG.one (Cell.sl g0 (List.map eI v50))), (9, oI v51), (10, oI v52)] [(0, ⟨1, List.map eS v49⟩)] [] 1) k ⟨_, ⟨([] : List (List UInt8)), a0, (a0.length : Int), 0, by omega, H, rfl⟩, lm [(0, 1)] hm⟩ ?_; clear H
 rintro k2 _ ⟨v49, v50, v51, v52, hk2, H, rfl⟩
 cases k2 with
 | zero => cases H
 | succ k2 =>
  rw [I_Nums.l2] at H
  refine sg 1 ?_; refine WpC.seq ?_; refine cd H (fun hc H => ?_) (fun hc H => ?_)
  ·refine WpC.skip (WpC.seq (WpC.block (sr ?_))); obtain ⟨b56, hb56, H⟩ := bindS H; refine ix underlying24 info3 hb56 ?_; refine gn 2 ?_; refine sy 1 ?_; refine cB 1 ent242 (g242 k2  b56) H fun r57 H => ?_; refine gn 1 ?_; refine WpC.seq (sr ?_); refine mv ?_; refine L.binS hF rfl rfl rfl rfl rfl (L.nil ?_); refine cd H (fun hc H => ?_) (fun hc H => ?_)
   ·refine sg 1 ?_; cases H; exact WpC.ret rt
   ·refine WpC.skip (WpC.regionL ?_); refine go 2 ?_; refine L.buildSlice (e := eS) 2 ([r57] : List (List UInt8)) underlying34 info9 rfl rfl rfl hF rfl rfl rfl rfl rfl rfl rfl rfl ?_; obtain ⟨h58, H⟩ := condG H; refine L.append (xs := v49) (ys := ([r57] : List (List UInt8))) (e := eS) 3 underlying34 info9 rfl rfl hF rfl rfl rfl rfl rfl rfl rfl rfl (fun _ => rfl) (fun _ _ h1 h2 => by cases h1; cases h2; rfl) ⟨_, underlying34⟩ (of_decide_eq_true h58) rfl rfl ?_; refine gn 1 ?_; refine WpC.regionL ?_; refine gn 2 ?_; exact ⟨k2, _, by omega, ⟨(v49 ++ ([r57] : List (List UInt8))), v50, v51, (IntKind.i64.wrap (v52 + 1)), by omega, H, rfl⟩, lm [(0, 3)] hm⟩
  ·refine WpC.exit (sr ?_); refine mv ?_; obtain ⟨r59, hr59, H⟩ := bindS H; refine ca [false] [0] [] 1 ent218 (g218 k2 false v49 r59 hr59) ?_; refine gn 1 ?_; cases H; exact WpC.ret rt
/-! ### I_PrincipalKey -/
def I_PrincipalKey (k : Nat) (a0 : Int) : Option Int := (I_within k a0 0 2).bind fun r3 => cond r3 (some (IntKind.i64.wrap (1 + a0))) ((I_isPrincipal k a0).bind fun r4 => cond r4 (some (IntKind.i64.wrap ((IntKind.i64.wrap (11 + a0)) - 3))) (some 0))
theorem ent17 : MG.Enters Tryz.prog 17 := en func17
theorem g17 (k : Nat) (a0 r : Int) (H : I_PrincipalKey k a0 = some r) : Gives Tryz.prog 17 [V.one (cI a0)] [] [V.one (cI r)] [] := by
 refine Gives.intro func17 rfl rfl rfl rfl ?_; refine fx fun w0 T S0 ob oh hm => ?_
 have hF := fxe w0 T S0 14 ob oh
 unfold I_PrincipalKey at H; obtain ⟨K, hK⟩ := leK k; refine sg 1 ?_; refine WpC.seq (WpC.block (sr ?_)); refine mv ?_; refine cB 1 ent52 (g52 k  a0 0 2) H fun r3 H => ?_; refine gn 1 ?_; refine cd H (fun hc H => ?_) (fun hc H => ?_)
 ·refine sg 3 ?_; cases H; exact WpC.ret rt
 ·refine sy 1 ?_; refine cB 2 ent53 (g53 k  a0) H fun r4 H => ?_; refine gn 1 ?_; refine cd H (fun hc H => ?_) (fun hc H => ?_)
  ·refine sg 4 ?_; cases H; exact WpC.ret rt
  ·refine WpC.skip (sr ?_); refine gn 1 ?_; cases H; exact WpC.ret rt
/-! ### I_Seal -/
def I_Seal (k : Nat) (a0 : Int) (a1 : List UInt8) : Option (List UInt8) := (I_TermOk k a1).bind fun r7 => cond (!r7) (some ([] : List UInt8)) ((I_isKey k a0).bind fun r8 => cond (!r8) (some ([] : List UInt8)) ((I_Var k a0).bind fun r9 => cond (decide (([115] : List UInt8).length + r9.length ≤ 9223372036854775807)) (cond (decide ((([115] : List UInt8) ++ r9).length + a1.length ≤ 9223372036854775807)) ((I_term k ((([115] : List UInt8) ++ r9) ++ a1)).bind fun r12 => some r12) none) none))
theorem ent220 : MG.Enters Tryz.prog 220 := en func220
theorem g220 (k : Nat) (a0 : Int) (a1 r : List UInt8) (H : I_Seal k a0 a1 = some r) : Gives Tryz.prog 220 [V.one (cI a0), V.one (cS a1)] [] [V.one (cS r)] [] := by
 refine Gives.intro func220 rfl rfl rfl rfl ?_; refine fx fun w0 T S0 ob oh hm => ?_
 have hF := fxe w0 T S0 19 ob oh
 unfold I_Seal at H; obtain ⟨K, hK⟩ := leK k; refine sg 1 ?_; refine WpC.seq (sr ?_); refine mv ?_; refine cB 2 ent90 (g90 k  a1) H fun r7 H => ?_; refine go 2 ?_; refine sH H (fun hc H => ?_) (fun hc H => ?_)
 ·refine gn 4 ?_; refine cT ?_; refine sg 1 ?_; cases H; exact WpC.ret rt
 ·refine mv ?_; refine cB 3 ent50 (g50 k  a0) H fun r8 H => ?_; refine gn 2 ?_; refine cd H (fun hc H => ?_) (fun hc H => ?_)
  ·refine sg 1 ?_; cases H; exact WpC.ret rt
  ·refine WpC.skip (sr ?_); refine mv ?_; refine cB 4 ent231 (g231 k  a0) H fun r9 H => ?_; obtain ⟨h10, H⟩ := condG H; refine L.catS hF rfl rfl rfl rfl (of_decide_eq_true h10) ?_; refine mv ?_; obtain ⟨h11, H⟩ := condG H; refine L.catS hF rfl rfl rfl rfl (of_decide_eq_true h11) ?_; refine cB 5 ent241 (g241 k  ((([115] : List UInt8) ++ r9) ++ a1)) H fun r12 H => ?_; refine gn 1 ?_; cases H; exact WpC.ret rt
/-! ### I_LoginReq -/
def I_LoginReq (k : Nat) (a0 a1 a2 : Int) : Option (List UInt8) := (I_isPrincipal k a0).bind fun r10 => cond (!r10) (some ([] : List UInt8)) ((I_isNonce k a1).bind fun r11 => cond (!r11) (some ([] : List UInt8)) ((I_isNonce k a2).bind fun r12 => cond (!r12) (some ([] : List UInt8)) ((I_Nums k ([1, a0, a2] : List Int)).bind fun r13 => (I_PrincipalKey k a0).bind fun r14 => (I_Nums k ([8, a1] : List Int)).bind fun r15 => (I_Seal k r14 r15).bind fun r16 => (I_List k ([r13, r16] : List (List UInt8))).bind fun r17 => some r17)))
theorem ent185 : MG.Enters Tryz.prog 185 := en func185
theorem g185 (k : Nat) (a0 a1 a2 : Int) (r : List UInt8) (H : I_LoginReq k a0 a1 a2 = some r) : Gives Tryz.prog 185 [V.one (cI a0), V.one (cI a1), V.one (cI a2)] [] [V.one (cS r)] [] := by
 refine Gives.intro func185 rfl rfl rfl rfl ?_; refine fx fun w0 T S0 ob oh hm => ?_
 have hF := fxe w0 T S0 32 ob oh
 unfold I_LoginReq at H; obtain ⟨K, hK⟩ := leK k; refine sg 1 ?_; refine WpC.seq (sr ?_); refine mv ?_; refine cB 3 ent53 (g53 k  a0) H fun r10 H => ?_; refine go 2 ?_; refine sH H (fun hc H => ?_) (fun hc H => ?_)
 ·refine gn 9 ?_; refine cT ?_; refine sg 1 ?_; cases H; exact WpC.ret rt
 ·refine mv ?_; refine cB 4 ent161 (g161 k  a1) H fun r11 H => ?_; refine go 3 ?_; refine sH H (fun hc H => ?_) (fun hc H => ?_)
  ·refine gn 4 ?_; refine cT ?_; refine sg 1 ?_; cases H; exact WpC.ret rt
  ·refine mv ?_; refine cB 5 ent161 (g161 k  a2) H fun r12 H => ?_; refine gn 2 ?_; refine cd H (fun hc H => ?_) (fun hc H => ?_)
   ·refine sg 1 ?_; cases H; exact WpC.ret rt
   ·refine WpC.skip (sr ?_); refine go 2 ?_; refine L.buildSlice (e := eI) 6 ([1, a0, a2] : List Int) underlying24 info3 rfl rfl rfl hF rfl rfl rfl rfl rfl rfl rfl rfl ?_; obtain ⟨r13, hr13, H⟩ := bindS H; refine ca [false] [6] [] 7 ent219 (g219 k false ([1, a0, a2] : List Int) r13 hr13) ?_; refine mv ?_; refine cB 8 ent17 (g17 k  a0) H fun r14 H => ?_; refine mv ?_; refine L.buildSlice (e := eI) 9 ([8, a1] : List Int) underlying24 info3 rfl rfl rfl hF rfl rfl rfl rfl rfl rfl rfl rfl ?_; obtain ⟨r15, hr15, H⟩ := bindS H; refine ca [false] [9] [] 10 ent219 (g219 k false ([8, a1] : List Int) r15 hr15) ?_; refine cB 11 ent220 (g220 k  r14 r15) H fun r16 H => ?_; refine L.buildSlice (e := eS) 12 ([r13, r16] : List (List UInt8)) underlying34 info9 rfl rfl rfl hF rfl rfl rfl rfl rfl rfl rfl rfl ?_; obtain ⟨r17, hr17, H⟩ := bindS H; refine ca [false] [12] [] 13 ent218 (g218 k false ([r13, r16] : List (List UInt8)) r17 hr17) ?_; refine gn 1 ?_; cases H; exact WpC.ret rt
/-! ### I_Learn -/
def I_Learn.j2 (k : Nat) (v14 : List UInt8) (v15 : Bool) (v16 : T_Known) : Option T_Known := cond v15 (cond (decide ((2 * (v16.Terms.length + ([v14] : List (List UInt8)).length) + 192) * 16 ≤ 281474976710656)) (some (⟨(v16.Terms ++ ([v14] : List (List UInt8))), v16.Keys⟩ : T_Known)) none) (some v16)
def I_Learn (k : Nat) (a0 : T_Known) (a1 : List UInt8) : Option T_Known := (I_KnownOk k a0).bind fun r2 => cond (!r2) (some (⟨[], []⟩ : T_Known)) ((I_copyKnown k a0).bind fun r3 => (I_TermOk k a1).bind fun r18 => cond r18 ((V_Contains_string k a0.Terms a1).bind fun r19 => cond (!r19) (I_Learn.j2 k a1 (decide ((a0.Terms.length : Int) < 60)) r3) (I_Learn.j2 k a1 false r3)) (I_Learn.j2 k a1 false r3))
theorem ent194 : MG.Enters Tryz.prog 194 := en func194
theorem g194 (k : Nat) (g0 g1 : Bool) (a0 : T_Known) (a1 : List UInt8) (r : T_Known) (H : I_Learn k a0 a1 = some r) : Gives Tryz.prog 194 [V.agg [Cell.sl g0 (List.map eS a0.Terms), Cell.sl g1 (List.map eI a0.Keys)], V.one (cS a1)] [] [V.agg [Cell.ow 1 (List.map eS r.Terms), Cell.ow 1 (List.map eI r.Keys)]] [] := by
 refine Gives.intro func194 rfl rfl rfl rfl ?_; refine fx fun w0 T S0 ob oh hm => ?_
 have hF := fxe w0 T S0 34 ob oh
 unfold I_Learn at H; obtain ⟨K, hK⟩ := leK k; refine sr ?_; refine bo 3 ?_; refine alc 4 info36 (L.nil ?_); refine WpC.seq (sr ?_); refine lp shape36 ?_; refine cB 5 ent46 (g46 k g0 g1 a0) H fun r2 H => ?_; refine gn 1 ?_; refine cd H (fun hc H => ?_) (fun hc H => ?_)
 ·refine sr ?_; refine bf built36 ?_; refine gn 1 ?_; refine WpC.le (Le.ownB 4 0 6 1 rfl rfl rfl) ?_; refine WpC.le (Le.ownB 4 1 7 1 rfl rfl rfl) ?_; cases H; exact WpC.ret rt
 ·refine WpC.skip (sr ?_); refine lp shape36 ?_; refine cB 6 ent49 (g49 k g0 g1 a0) H fun r3 H => ?_; refine alc 8 info36 ?_; refine gn 1 ?_; refine WpC.seq ?_; refine WpC.join (fun σ => ∃ (kj2 : Nat) (v14 : List UInt8) (v15 : Bool) (v16 : T_Known), kj2 ≤ K ∧ I_Learn.j2 kj2 v14 v15 v16 = some r ∧ σ = mkSt [(1, oS v14), (4, oP 0 0), (5, oP 1 0), (26, oL v15)] [(2, ⟨1, List.map eS v16.Terms⟩), (3, ⟨1, List.map eI v16.Keys⟩)] [(0, [Cell.nil, Cell.nil]), (1, [Cell.own 2, Cell.own 3])] 4) ?_ ?_
  ·rintro _ ⟨kj2, v14, v15, v16, hkj2, H, rfl⟩
   unfold I_Learn.j2 at H; refine cd H (fun hc H => ?_) (fun hc H => ?_)
   ·refine WpC.regionL ?_; refine go 3 ?_; refine L.buildSlice (e := eS) 4 ([v14] : List (List UInt8)) underlying34 info9 rfl rfl rfl hF rfl rfl rfl rfl rfl rfl rfl rfl ?_; obtain ⟨h17, H⟩ := condG H; refine L.append (xs := v16.Terms) (ys := ([v14] : List (List UInt8))) (e := eS) 5 underlying34 info9 rfl rfl hF rfl rfl rfl rfl rfl rfl rfl rfl (fun _ => rfl) (fun _ _ h1 h2 => by cases h1; cases h2; rfl) ⟨_, underlying34⟩ (of_decide_eq_true h17) rfl rfl ?_; refine gn 2 ?_; refine sg 2 ?_; cases H; exact WpC.ret rt
   ·refine WpC.skip (sr ?_); refine gn 2 ?_; cases H; exact WpC.ret rt
  ·refine WpC.regionL ?_; refine mv ?_; refine cB 9 ent90 (g90 k  a1) H fun r18 H => ?_; refine mv ?_; refine sH H (fun hc H => ?_) (fun hc H => ?_)
   ·refine go 3 ?_; refine cB 10 ent91 (g91 k g0 a0.Terms a1) H fun r19 H => ?_; refine go 3 ?_; refine sH H (fun hc H => ?_) (fun hc H => ?_)
    ·refine go 2 ?_; refine L.lenR (xs := a0.Terms) (e := eS) underlying34 hF rfl rfl rfl rfl ?_; refine gn 2 ?_; exact ⟨_, ⟨k, a1, (decide ((a0.Terms.length : Int) < 60)), r3, by omega, H, rfl⟩, lm [(0, 4), (1, 8), (2, 6), (3, 7)] hm⟩
    ·refine gn 5 ?_; exact ⟨_, ⟨k, a1, false, r3, by omega, H, rfl⟩, lm [(0, 4), (1, 8), (2, 6), (3, 7)] hm⟩
   ·refine gn 12 ?_; exact ⟨_, ⟨k, a1, false, r3, by omega, H, rfl⟩, lm [(0, 4), (1, 8), (2, 6), (3, 7)] hm⟩
/-! ### I_World_send -/
def I_World_send (k : Nat) (a1 : List UInt8) (o0 : T_World) : Option (Int × T_World) := cond (a1 == ([] : List UInt8)) (some (3, o0)) (cond ((o0.Net.length : Int) == 50) (some (3, o0)) (cond (o0.Fresh == 1000000) (some (3, o0)) (cond (decide ((2 * (o0.Net.length + ([a1] : List (List UInt8)).length) + 192) * 16 ≤ 281474976710656)) ((I_Learn k o0.Known a1).bind fun r2 => some (0, (⟨o0.Config, o0.Now, (IntKind.i64.wrap (o0.Fresh + 1)), (o0.Net ++ ([a1] : List (List UInt8))), r2, o0.Waits, o0.Creds, o0.Caches, o0.Log, o0.Accepts, o0.Leaked⟩ : T_World))) none)))
theorem ent184 : MG.Enters Tryz.prog 184 := en func184
theorem g184 (k : Nat) (a1 : List UInt8) (o0 : T_World) (r : Int × T_World) (H : I_World_send k a1 o0 = some r) : Gives Tryz.prog 184 [V.one (Cell.ptr 0 0), V.one (cS a1)] [[Cell.ow 1 (List.map eI o0.Config.UserRealm), Cell.ow 1 (List.map eI o0.Config.ServiceRealm), Cell.ow 2 (List.map eT_Pair o0.Config.Links), Cell.ow 2 (List.map eT_Pair o0.Config.Proxy), cI o0.Config.Skew, cI o0.Now, cI o0.Fresh, Cell.ow 1 (List.map eS o0.Net), Cell.ow 1 (List.map eS o0.Known.Terms), Cell.ow 1 (List.map eI o0.Known.Keys), Cell.ow 4 (List.map eT_Wait o0.Waits), Cell.ow 8 (List.map eT_Cred o0.Creds), Cell.ow 2 (List.map eT_Cache o0.Caches), Cell.ow 11 (List.map eT_Event o0.Log), Cell.ow 15 (List.map eT_Accept o0.Accepts), Cell.ow 1 (List.map eI o0.Leaked)]] [V.one (cI r.1)] [[Cell.ow 1 (List.map eI r.2.Config.UserRealm), Cell.ow 1 (List.map eI r.2.Config.ServiceRealm), Cell.ow 2 (List.map eT_Pair r.2.Config.Links), Cell.ow 2 (List.map eT_Pair r.2.Config.Proxy), cI r.2.Config.Skew, cI r.2.Now, cI r.2.Fresh, Cell.ow 1 (List.map eS r.2.Net), Cell.ow 1 (List.map eS r.2.Known.Terms), Cell.ow 1 (List.map eI r.2.Known.Keys), Cell.ow 4 (List.map eT_Wait r.2.Waits), Cell.ow 8 (List.map eT_Cred r.2.Creds), Cell.ow 2 (List.map eT_Cache r.2.Caches), Cell.ow 11 (List.map eT_Event r.2.Log), Cell.ow 15 (List.map eT_Accept r.2.Accepts), Cell.ow 1 (List.map eI r.2.Leaked)]] := by
 refine Gives.intro func184 rfl rfl rfl rfl ?_; refine fx fun w0 T S0 ob oh hm => ?_
 have hF := fxe w0 T S0 48 ob oh
 unfold I_World_send at H; obtain ⟨K, hK⟩ := leK k; refine sg 1 ?_; refine WpC.seq (sr ?_); refine mv ?_; refine L.binS hF rfl rfl rfl rfl rfl ?_; refine mv ?_; refine sH H (fun hc H => ?_) (fun hc H => ?_)
 ·refine gn 14 ?_; refine cT ?_; refine sg 1 ?_; cases H; exact WpC.ret rt
 ·refine mv ?_; refine L.nilCheck hF rfl rfl rfl rfl ?_; refine go 2 ?_; refine L.lenR (xs := o0.Net) (e := eS) underlying34 hF rfl rfl rfl rfl ?_; refine go 3 ?_; refine sH H (fun hc H => ?_) (fun hc H => ?_)
  ·refine gn 6 ?_; refine cT ?_; refine sg 1 ?_; cases H; exact WpC.ret rt
  ·refine mv ?_; refine L.nilCheck hF rfl rfl rfl rfl ?_; refine gn 4 ?_; refine cd H (fun hc H => ?_) (fun hc H => ?_)
   ·refine sg 1 ?_; cases H; exact WpC.ret rt
   ·refine WpC.skip (sr ?_); refine go 2 ?_; refine L.nilCheck hF rfl rfl rfl rfl ?_; refine go 3 ?_; refine L.buildSlice (e := eS) 19 ([a1] : List (List UInt8)) underlying34 info9 rfl rfl rfl hF rfl rfl rfl rfl rfl rfl rfl rfl ?_; obtain ⟨h1, H⟩ := condG H; refine L.append (xs := o0.Net) (ys := ([a1] : List (List UInt8))) (e := eS) 20 underlying34 info9 rfl rfl hF rfl rfl rfl rfl rfl rfl rfl rfl (fun _ => rfl) (fun _ _ h1 h2 => by cases h1; cases h2; rfl) ⟨_, underlying34⟩ (of_decide_eq_true h1) rfl rfl ?_; refine L.nilCheck hF rfl rfl rfl rfl ?_; refine gn 2 ?_; refine sy 2 ?_; refine L.nilCheck hF rfl rfl rfl rfl ?_; refine go 3 ?_; obtain ⟨r2, hr2, H⟩ := bindS H; refine ca [false, false] [11, 12] [] 21 ent194 (g194 k false false o0.Known a1 r2 hr2) ?_; refine L.nilCheck hF rfl rfl rfl rfl ?_; refine gn 2 ?_; refine sy 1 ?_; refine L.nilCheck hF rfl rfl rfl rfl ?_; refine go 3 ?_; refine L.nilCheck hF rfl rfl rfl rfl ?_; refine gn 2 ?_; refine sg 1 ?_
    cases H; exact WpC.ret rt
/-! ### I_World_login -/
def I_World_login (k : Nat) (a1 : T_Act) (o0 : T_World) : Option (Int × T_World) := (I_isPrincipal k a1.A).bind fun r2 => cond (!r2) (some (2, o0)) ((I_LoginReq k a1.A o0.Now o0.Fresh).bind fun r5 => (I_World_send k r5 o0).bind fun r6 => cond (r6.1 != 0) (some (3, r6.2)) ((I_PrincipalKey k a1.A).bind fun r7 => (at? r6.2.Waits a1.A).bind fun b8 => some (0, (⟨r6.2.Config, r6.2.Now, r6.2.Fresh, r6.2.Net, r6.2.Known, (r6.2.Waits.set a1.A.toNat (⟨true, o0.Fresh, r7, a1.A⟩ : T_Wait)), r6.2.Creds, r6.2.Caches, r6.2.Log, r6.2.Accepts, r6.2.Leaked⟩ : T_World))))
theorem ent134 : MG.Enters Tryz.prog 134 := en func134
theorem g134 (k : Nat) (a1 : T_Act) (o0 : T_World) (r : Int × T_World) (H : I_World_login k a1 o0 = some r) : Gives Tryz.prog 134 [V.one (Cell.ptr 0 0), V.agg (bT_Act a1)] [[Cell.ow 1 (List.map eI o0.Config.UserRealm), Cell.ow 1 (List.map eI o0.Config.ServiceRealm), Cell.ow 2 (List.map eT_Pair o0.Config.Links), Cell.ow 2 (List.map eT_Pair o0.Config.Proxy), cI o0.Config.Skew, cI o0.Now, cI o0.Fresh, Cell.ow 1 (List.map eS o0.Net), Cell.ow 1 (List.map eS o0.Known.Terms), Cell.ow 1 (List.map eI o0.Known.Keys), Cell.ow 4 (List.map eT_Wait o0.Waits), Cell.ow 8 (List.map eT_Cred o0.Creds), Cell.ow 2 (List.map eT_Cache o0.Caches), Cell.ow 11 (List.map eT_Event o0.Log), Cell.ow 15 (List.map eT_Accept o0.Accepts), Cell.ow 1 (List.map eI o0.Leaked)]] [V.one (cI r.1)] [[Cell.ow 1 (List.map eI r.2.Config.UserRealm), Cell.ow 1 (List.map eI r.2.Config.ServiceRealm), Cell.ow 2 (List.map eT_Pair r.2.Config.Links), Cell.ow 2 (List.map eT_Pair r.2.Config.Proxy), cI r.2.Config.Skew, cI r.2.Now, cI r.2.Fresh, Cell.ow 1 (List.map eS r.2.Net), Cell.ow 1 (List.map eS r.2.Known.Terms), Cell.ow 1 (List.map eI r.2.Known.Keys), Cell.ow 4 (List.map eT_Wait r.2.Waits), Cell.ow 8 (List.map eT_Cred r.2.Creds), Cell.ow 2 (List.map eT_Cache r.2.Caches), Cell.ow 11 (List.map eT_Event r.2.Log), Cell.ow 15 (List.map eT_Accept r.2.Accepts), Cell.ow 1 (List.map eI r.2.Leaked)]] := by
 refine Gives.intro func134 rfl rfl rfl rfl ?_; refine fx fun w0 T S0 ob oh hm => ?_
 have hF := fxe w0 T S0 39 ob oh
 unfold I_World_login at H; obtain ⟨K, hK⟩ := leK k; refine sr ?_; refine bo 27 ?_; refine gn 1 ?_; refine WpC.seq (sr ?_); refine go 2 ?_; refine cB 28 ent53 (g53 k  a1.A) H fun r2 H => ?_; refine gn 1 ?_; refine cd H (fun hc H => ?_) (fun hc H => ?_)
 ·refine sg 1 ?_; cases H; exact WpC.ret rt
 ·refine WpC.skip (sr ?_); refine mv ?_; refine L.nilCheck hF rfl rfl rfl rfl ?_; refine gn 3 ?_; refine WpC.seq (WpC.seq ?_); obtain ⟨r5, hr5, H⟩ := bindS H; obtain ⟨r6, hr6, H⟩ := bindS H
  apply ldT ⟨[e0 0 _, e0 3 _, e0 5 _, ed 14 1 _, ed 15 2 _, ed 16 3 _, ed 17 4 _, ed 18 5 _, ed 19 6 _, ed 20 7 _, ed 21 8 _, ed 22 9 _, ed 23 10 _, ed 24 11 _], [(11, [(10, none), (0, some _)]), (12, [(10, none), (0, some _)]), (13, [(10, none), (0, some _)]), (14, [(10, none), (0, some _)]), (18, [(10, none), (0, some _)]), (19, [(10, none), (0, some _)]), (20, [(10, none), (0, some _)]), (21, [(10, none), (0, some _)]), (22, [(10, none), (0, some _)]), (23, [(10, none), (0, some _)]), (24, [(10, none), (0, some _)]), (25, [(10, none), (0, some _)]), (26, [(10, none), (0, some _)]), ed 31 10 _, ed 32 10 _, ed 33 10 _, ed 34 10 _, ed 38 10 _, ed 39 10 _, ed 40 10 _, ed 41 10 _, ed 42 10 _, ed 43 10 _, ed 44 10 _, ed 45 10 _, ed 46 10 _], [(0, [(10, some _), (0, some _)]), e0 27 _], 47, []⟩ [(0, 1536), (0, 1796), (2, 1792), (0, 1904), (8, 1888), (24, 1856), (56, 1792), (0, 1792), (254, 1536), (511, 1024), (1023, 0)] mixed ?L1 ?_
  case L1 =>
   repeat refine ls ?_
   apply lc 47 29 1 [22] [] [] ?h1_8 ?q1_8 ?_
   case h1_8 =>
    intro b; refine c0 47 ent185 (g185 k  a1.A o0.Now o0.Fresh r5 hr5) ?_; exact L.nil ⟨rfl, rfl, rfl, rfl⟩
   case' q1_8 => skip
   apply lc 47 30 17 [23] [31, 32, 33, 34, 38, 39, 40, 41, 42, 43, 44, 45, 46] [0] ?h1_9 ?q1_9 ?_
   case h1_9 =>
    intro b; refine ca [false, false] [] [0] 47 ent184 (g184 k  r5 o0 r6 hr6) ?_; exact L.nil ⟨rfl, rfl, rfl, rfl⟩
   case' q1_9 => skip
   repeat refine ls ?_
   exact trivial
   all_goals exact lq
  refine cd H (fun hc H => ?_) (fun hc H => ?_)
  ·refine sg 1 ?_; cases H; exact WpC.ret rt
  ·refine WpC.skip (WpC.seq ?_); obtain ⟨r7, hr7, H⟩ := bindS H; obtain ⟨b8, hb8, H⟩ := bindS H
   apply ldT ⟨[e0 0 _, e0 3 _, e0 5 _, ed 25 1 _, ed 26 2 _, ed 27 3 _, ed 28 4 _, ed 29 5 _, ed 30 6 _, ed 31 7 _, ed 32 8 _, ed 33 9 _, ed 34 10 _, ed 35 11 _, ed 36 12 _, ed 37 13 _, ed 38 14 _], [e0 31 _, e0 32 _, e0 33 _, e0 34 _, e0 38 _, e0 39 _, e0 40 _, (41, [(15, some _), (0, some _)]), e0 42 _, e0 43 _, e0 44 _, e0 45 _, e0 46 _], [e0 0 _, e0 27 _], 48, []⟩ [(0, 24590), (1, 24588), (3, 24584), (7, 24576), (0, 24608), (16, 24576), (0, 28672), (0, 29440), (128, 29184), (384, 28672), (0, 30720), (1024, 28672), (4032, 24576), (8191, 16384), (16383, 0)] mixed ?L2 ?_
   case L2 =>
    repeat refine ls ?_
    apply lc 48 47 1 [34] [] [] ?h2_9 ?q2_9 ?_
    case h2_9 =>
     intro b; refine c0 48 ent17 (g17 k  a1.A r7 hr7) ?_; exact L.nil ⟨rfl, rfl, rfl, rfl⟩
    case' q2_9 => skip
    repeat refine ls ?_
    apply lc 48 48 0 [37] [] [] ?h2_12 ?q2_12 ?_
    case h2_12 =>
     intro b; refine bf built143 ?_; exact L.nil ⟨rfl, rfl, rfl, rfl⟩
    case' q2_12 => skip
    apply lc 48 48 0 [38] [] [] ?h2_13 ?q2_13 ?_
    case h2_13 =>
     intro b; refine ix underlying37 info143 hb8 ?_; exact L.nil ⟨rfl, rfl, rfl, rfl⟩
    case' q2_13 => skip
    apply lc 48 48 0 [] [41] [] ?h2_14 ?q2_14 ?_
    case h2_14 =>
     intro b; refine L.storeEp (xs := r6.2.Waits) (e := eT_Wait) (a' := (⟨true, o0.Fresh, r7, a1.A⟩ : T_Wait)) shape143 hF rfl rfl rfl rfl rfl rfl rfl (at?_get hb8).2 rfl rfl ?_; exact L.nil ⟨rfl, rfl, rfl, rfl⟩
    case' q2_14 => skip
    exact trivial
    all_goals exact lq
   refine sg 1 ?_; cases H; exact WpC.ret rt
/-! ### I_World_cred -/
def I_World_cred.j2 (k : Nat) (v13 : Int) (v14 : Bool) (v15 : T_World) : Option (T_Cred × Bool × T_World) := cond v14 (some ((⟨0, 0, 0, 0, (⟨0, 0, 0⟩ : T_Rest), ([] : List UInt8)⟩ : T_Cred), false, v15)) ((at? v15.Creds v13).bind fun b16 => some (b16, true, v15))
def I_World_cred (k : Nat) (a1 a2 : Int) (o0 : T_World) : Option (T_Cred × Bool × T_World) := (I_isPrincipal k a1).bind fun r17 => cond (!r17) (I_World_cred.j2 k a2 true o0) ((I_within k a2 0 (IntKind.i64.wrap ((o0.Creds.length : Int) - 1))).bind fun r18 => cond (!r18) (I_World_cred.j2 k a2 true o0) ((at? o0.Creds a2).bind fun b19 => I_World_cred.j2 k a2 (b19.Owner != a1) o0))
theorem ent186 : MG.Enters Tryz.prog 186 := en func186
theorem g186 (k : Nat) (a1 a2 : Int) (o0 : T_World) (r : T_Cred × Bool × T_World) (H : I_World_cred k a1 a2 o0 = some r) : Gives Tryz.prog 186 [V.one (Cell.ptr 0 0), V.one (cI a1), V.one (cI a2)] [[Cell.ow 1 (List.map eI o0.Config.UserRealm), Cell.ow 1 (List.map eI o0.Config.ServiceRealm), Cell.ow 2 (List.map eT_Pair o0.Config.Links), Cell.ow 2 (List.map eT_Pair o0.Config.Proxy), cI o0.Config.Skew, cI o0.Now, cI o0.Fresh, Cell.ow 1 (List.map eS o0.Net), Cell.ow 1 (List.map eS o0.Known.Terms), Cell.ow 1 (List.map eI o0.Known.Keys), Cell.ow 4 (List.map eT_Wait o0.Waits), Cell.ow 8 (List.map eT_Cred o0.Creds), Cell.ow 2 (List.map eT_Cache o0.Caches), Cell.ow 11 (List.map eT_Event o0.Log), Cell.ow 15 (List.map eT_Accept o0.Accepts), Cell.ow 1 (List.map eI o0.Leaked)]] [V.agg (bT_Cred r.1), V.one (cL r.2.1)] [[Cell.ow 1 (List.map eI r.2.2.Config.UserRealm), Cell.ow 1 (List.map eI r.2.2.Config.ServiceRealm), Cell.ow 2 (List.map eT_Pair r.2.2.Config.Links), Cell.ow 2 (List.map eT_Pair r.2.2.Config.Proxy), cI r.2.2.Config.Skew, cI r.2.2.Now, cI r.2.2.Fresh, Cell.ow 1 (List.map eS r.2.2.Net), Cell.ow 1 (List.map eS r.2.2.Known.Terms), Cell.ow 1 (List.map eI r.2.2.Known.Keys), Cell.ow 4 (List.map eT_Wait r.2.2.Waits), Cell.ow 8 (List.map eT_Cred r.2.2.Creds), Cell.ow 2 (List.map eT_Cache r.2.2.Caches), Cell.ow 11 (List.map eT_Event r.2.2.Log), Cell.ow 15 (List.map eT_Accept r.2.2.Accepts), Cell.ow 1 (List.map eI r.2.2.Leaked)]] := by
 refine Gives.intro func186 rfl rfl rfl rfl ?_; refine fx fun w0 T S0 ob oh hm => ?_
 have hF := fxe w0 T S0 42 ob oh
 unfold I_World_cred at H; obtain ⟨K, hK⟩ := leK k; refine sr ?_; refine alc 20 info146 ?_; refine gn 1 ?_; refine WpC.seq ?_; refine WpC.join (fun σ => ∃ (kj2 : Nat) (v13 : Int) (v14 : Bool) (v15 : T_World), kj2 ≤ K ∧ I_World_cred.j2 kj2 v13 v14 v15 = some r ∧ σ = mkSt [(0, oP 0 0), (2, oI v13), (6, oP 1 0), (33, oL v14)] [(2, ⟨1, List.map eI v15.Config.UserRealm⟩), (3, ⟨1, List.map eI v15.Config.ServiceRealm⟩), (4, ⟨2, List.map eT_Pair v15.Config.Links⟩), (5, ⟨2, List.map eT_Pair v15.Config.Proxy⟩), (6, ⟨1, List.map eS v15.Net⟩), (7, ⟨1, List.map eS v15.Known.Terms⟩), (8, ⟨1, List.map eI v15.Known.Keys⟩), (9, ⟨4, List.map eT_Wait v15.Waits⟩), (10, ⟨8, List.map eT_Cred v15.Creds⟩), (11, ⟨2, List.map eT_Cache v15.Caches⟩), (12, ⟨11, List.map eT_Event v15.Log⟩), (13, ⟨15, List.map eT_Accept v15.Accepts⟩), (14, ⟨1, List.map eI v15.Leaked⟩)] [(0, [Cell.own 2, Cell.own 3, Cell.own 4, Cell.own 5, cI v15.Config.Skew, cI v15.Now, cI v15.Fresh, Cell.own 6, Cell.own 7, Cell.own 8, Cell.own 9, Cell.own 10, Cell.own 11, Cell.own 12, Cell.own 13, Cell.own 14]), (1, zc3)] 15) ?_ ?_
 ·rintro _ ⟨kj2, v13, v14, v15, hkj2, H, rfl⟩
  unfold I_World_cred.j2 at H; refine cd H (fun hc H => ?_) (fun hc H => ?_)
  ·refine sr ?_; refine bf built146 ?_; refine gn 2 ?_; cases H; exact WpC.ret rt
  ·refine WpC.skip (sr ?_); refine mv ?_; refine L.nilCheck hF rfl rfl rfl rfl ?_; refine go 3 ?_; obtain ⟨b16, hb16, H⟩ := bindS H; refine ix underlying38 info146 hb16 ?_; refine L.loadEp (xs := v15.Creds) (e := eT_Cred) shape146 hF rfl rfl rfl rfl (at?_get hb16).2 rfl rfl ?_; refine gn 2 ?_; cases H; exact WpC.ret rt
 ·refine WpC.regionL ?_; refine mv ?_; refine cB 21 ent53 (g53 k  a1) H fun r17 H => ?_; refine go 2 ?_; refine sH H (fun hc H => ?_) (fun hc H => ?_)
  ·refine gn 22 ?_; exact ⟨_, ⟨k, a2, true, o0, by omega, H, rfl⟩, lm [(0, 0), (1, 20), (2, 4), (3, 5), (4, 6), (5, 7), (6, 11), (7, 12), (8, 13), (9, 14), (10, 15), (11, 16), (12, 17), (13, 18), (14, 19)] hm⟩
  ·refine go 2 ?_; refine L.nilCheck hF rfl rfl rfl rfl ?_; refine go 2 ?_; refine L.lenR (xs := o0.Creds) (e := eT_Cred) underlying38 hF rfl rfl rfl rfl ?_; refine bi ?_; refine cB 22 ent52 (g52 k  a2 0 (IntKind.i64.wrap ((o0.Creds.length : Int) - 1))) H fun r18 H => ?_; refine go 3 ?_; refine sH H (fun hc H => ?_) (fun hc H => ?_)
   ·refine gn 11 ?_; exact ⟨_, ⟨k, a2, true, o0, by omega, H, rfl⟩, lm [(0, 0), (1, 20), (2, 4), (3, 5), (4, 6), (5, 7), (6, 11), (7, 12), (8, 13), (9, 14), (10, 15), (11, 16), (12, 17), (13, 18), (14, 19)] hm⟩
   ·refine mv ?_; refine L.nilCheck hF rfl rfl rfl rfl ?_; refine go 3 ?_; obtain ⟨b19, hb19, H⟩ := bindS H; refine ix underlying38 info146 hb19 ?_; refine fa underlying146 info3 ?_; refine L.loadEp (xs := o0.Creds) (e := eT_Cred) shape3 hF rfl rfl rfl rfl (at?_get hb19).2 rfl rfl ?_; refine gn 3 ?_; exact ⟨_, ⟨k, a2, (b19.Owner != a1), o0, by omega, H, rfl⟩, lm [(0, 0), (1, 20), (2, 4), (3, 5), (4, 6), (5, 7), (6, 11), (7, 12), (8, 13), (9, 14), (10, 15), (11, 16), (12, 17), (13, 18), (14, 19)] hm⟩
/-! ### I_ShowAuth -/
def I_ShowAuth (k : Nat) (a0 : T_Auth) (a1 : Int) : Option (List UInt8) := (I_authOk k a0).bind fun r2 => cond (!r2) (some ([] : List UInt8)) ((I_Nums k ([7, a0.Client, a0.Time, a0.Seq] : List Int)).bind fun r3 => (I_Seal k a1 r3).bind fun r4 => some r4)
theorem ent222 : MG.Enters Tryz.prog 222 := en func222
theorem g222 (k : Nat) (a0 : T_Auth) (a1 : Int) (r : List UInt8) (H : I_ShowAuth k a0 a1 = some r) : Gives Tryz.prog 222 [V.agg (bT_Auth a0), V.one (cI a1)] [] [V.one (cS r)] [] := by
 refine Gives.intro func222 rfl rfl rfl rfl ?_; refine fx fun w0 T S0 ob oh hm => ?_
 have hF := fxe w0 T S0 18 ob oh
 unfold I_ShowAuth at H; obtain ⟨K, hK⟩ := leK k; refine sr ?_; refine bo 4 ?_; refine gn 1 ?_; refine WpC.seq (sr ?_); refine lp shape56 ?_; refine cB 5 ent163 (g163 k  a0) H fun r2 H => ?_; refine gn 1 ?_; refine cd H (fun hc H => ?_) (fun hc H => ?_)
 ·refine sg 1 ?_; cases H; exact WpC.ret rt
 ·refine WpC.skip (sr ?_); refine go 7 ?_; refine L.buildSlice (e := eI) 6 ([7, a0.Client, a0.Time, a0.Seq] : List Int) underlying24 info3 rfl rfl rfl hF rfl rfl rfl rfl rfl rfl rfl rfl ?_; obtain ⟨r3, hr3, H⟩ := bindS H; refine ca [false] [6] [] 7 ent219 (g219 k false ([7, a0.Client, a0.Time, a0.Seq] : List Int) r3 hr3) ?_; refine cB 8 ent220 (g220 k  a1 r3) H fun r4 H => ?_; refine gn 1 ?_; cases H; exact WpC.ret rt
/-! ### I_ShowRest -/
def I_ShowRest (k : Nat) (a0 : T_Rest) : Option (List UInt8) := (I_RestOk k a0).bind fun r2 => cond (!r2) (some ([] : List UInt8)) ((I_Nums k ([a0.Servers, a0.Ops, a0.End] : List Int)).bind fun r3 => some r3)
theorem ent223 : MG.Enters Tryz.prog 223 := en func223
theorem g223 (k : Nat) (a0 : T_Rest) (r : List UInt8) (H : I_ShowRest k a0 = some r) : Gives Tryz.prog 223 [V.agg (bT_Rest a0)] [] [V.one (cS r)] [] := by
 refine Gives.intro func223 rfl rfl rfl rfl ?_; refine fx fun w0 T S0 ob oh hm => ?_
 have hF := fxe w0 T S0 14 ob oh
 unfold I_ShowRest at H; obtain ⟨K, hK⟩ := leK k; refine sr ?_; refine bo 3 ?_; refine gn 1 ?_; refine WpC.seq (sr ?_); refine lp shape29 ?_; refine cB 4 ent56 (g56 k  a0) H fun r2 H => ?_; refine gn 1 ?_; refine cd H (fun hc H => ?_) (fun hc H => ?_)
 ·refine sg 1 ?_; cases H; exact WpC.ret rt
 ·refine WpC.skip (sr ?_); refine go 6 ?_; refine L.buildSlice (e := eI) 5 ([a0.Servers, a0.Ops, a0.End] : List Int) underlying24 info3 rfl rfl rfl hF rfl rfl rfl rfl rfl rfl rfl rfl ?_; obtain ⟨r3, hr3, H⟩ := bindS H; refine ca [false] [5] [] 6 ent219 (g219 k false ([a0.Servers, a0.Ops, a0.End] : List Int) r3 hr3) ?_; refine gn 1 ?_; cases H; exact WpC.ret rt
/-! ### I_AskReq -/
def I_AskReq.j1 (k : Nat) (v2 : List UInt8) (v3 v4 v5 : Int) (v6 : List UInt8) (v7 : T_Auth) (v8 : T_Rest) : Option (List UInt8) := (I_Nums k ([2, v4, v5] : List Int)).bind fun r9 => (I_ShowAuth k v7 v3).bind fun r10 => (I_ShowRest k v8).bind fun r11 => (I_List k ([r9, v2, r10, r11, v6] : List (List UInt8))).bind fun r12 => some r12
def I_AskReq (k : Nat) (a0 : List UInt8) (a1 : Int) (a2 : T_Auth) (a3 : Int) (a4 : T_Rest) (a5 : Int) (a6 : List UInt8) : Option (List UInt8) := cond (a6 == ([] : List UInt8)) ((I_Atom k ([] : List UInt8)).bind fun r13 => I_AskReq.j1 k a0 a1 a3 a5 r13 a2 a4) (I_AskReq.j1 k a0 a1 a3 a5 a6 a2 a4)
theorem ent187 : MG.Enters Tryz.prog 187 := en func187
theorem g187 (k : Nat) (a0 : List UInt8) (a1 : Int) (a2 : T_Auth) (a3 : Int) (a4 : T_Rest) (a5 : Int) (a6 r : List UInt8) (H : I_AskReq k a0 a1 a2 a3 a4 a5 a6 = some r) : Gives Tryz.prog 187 [V.one (cS a0), V.one (cI a1), V.agg (bT_Auth a2), V.one (cI a3), V.agg (bT_Rest a4), V.one (cI a5), V.one (cS a6)] [] [V.one (cS r)] [] := by
 refine Gives.intro func187 rfl rfl rfl rfl ?_; refine fx fun w0 T S0 ob oh hm => ?_
 have hF := fxe w0 T S0 31 ob oh
 unfold I_AskReq at H; obtain ⟨K, hK⟩ := leK k; refine sr ?_; refine bo 11 ?_; refine bo 12 ?_; refine gn 1 ?_; refine WpC.join (fun σ => ∃ (kj1 : Nat) (v2 : List UInt8) (v3 v4 v5 : Int) (v6 : List UInt8) (v7 : T_Auth) (v8 : T_Rest), kj1 ≤ K ∧ I_AskReq.j1 kj1 v2 v3 v4 v5 v6 v7 v8 = some r ∧ σ = mkSt [(0, oS v2), (1, oI v3), (3, oI v4), (5, oI v5), (6, oS v6), (9, oP 0 0), (11, oP 1 0)] [] [(0, (bT_Auth v7)), (1, (bT_Rest v8))] 2) ?_ ?_
 ·rintro _ ⟨kj1, v2, v3, v4, v5, v6, v7, v8, hkj1, H, rfl⟩
  unfold I_AskReq.j1 at H; refine WpC.seq ?_; obtain ⟨r9, hr9, H⟩ := bindS H; obtain ⟨r10, hr10, H⟩ := bindS H; obtain ⟨r11, hr11, H⟩ := bindS H; obtain ⟨r12, hr12, H⟩ := bindS H
  apply ldT ⟨[e0 0 _, e0 1 _, e0 3 _, e0 5 _, e0 6 _, e0 9 _, e0 11 _, ed 14 14 _, ed 18 1 _, ed 19 2 _, ed 20 3 _, ed 21 4 _, ed 22 5 _, ed 23 6 _, ed 24 7 _, ed 25 8 _, ed 26 9 _, ed 27 10 _, ed 28 11 _, ed 29 12 _, ed 30 13 _], [ed 2 3 _, ed 6 12 _], [e0 0 _, e0 1 _], 8, []⟩ [(0, 14988), (0, 14988), (3, 14984), (7, 14976), (0, 14336), (0, 14976), (0, 14976), (111, 14848), (0, 14848), (495, 14336), (0, 14336), (2047, 12288), (4095, 8192), (8191, 0)] mixed ?L1 ?_
  case L1 =>
   repeat refine ls ?_
   apply lc 8 2 1 [20] [2] [] ?h1_2 ?q1_2 ?_
   case h1_2 =>
    intro b; refine L.buildSlice (e := eI) 8 ([2, v4, v5] : List Int) underlying24 info3 rfl rfl rfl hF rfl rfl rfl rfl rfl rfl rfl rfl ?_; exact L.nil ⟨rfl, rfl, rfl, rfl⟩
   case' q1_2 => skip
   apply lc 8 3 1 [21] [] [] ?h1_3 ?q1_3 ?_
   case h1_3 =>
    intro b; refine ca [false] [2] [] 8 ent219 (g219 kj1 false ([2, v4, v5] : List Int) r9 hr9) ?_; exact L.nil ⟨rfl, rfl, rfl, rfl⟩
   case' q1_3 => skip
   repeat refine ls ?_
   apply lc 8 4 1 [25] [] [] ?h1_7 ?q1_7 ?_
   case h1_7 =>
    intro b; refine c0 8 ent222 (g222 kj1  v7 v3 r10 hr10) ?_; exact L.nil ⟨rfl, rfl, rfl, rfl⟩
   case' q1_7 => skip
   repeat refine ls ?_
   apply lc 8 5 1 [27] [] [] ?h1_9 ?q1_9 ?_
   case h1_9 =>
    intro b; refine c0 8 ent223 (g223 kj1  v8 r11 hr11) ?_; exact L.nil ⟨rfl, rfl, rfl, rfl⟩
   case' q1_9 => skip
   repeat refine ls ?_
   apply lc 8 6 1 [29] [6] [] ?h1_11 ?q1_11 ?_
   case h1_11 =>
    intro b; refine L.buildSlice (e := eS) 8 ([r9, v2, r10, r11, v6] : List (List UInt8)) underlying34 info9 rfl rfl rfl hF rfl rfl rfl rfl rfl rfl rfl rfl ?_; exact L.nil ⟨rfl, rfl, rfl, rfl⟩
   case' q1_11 => skip
   apply lc 8 7 1 [30] [] [] ?h1_12 ?q1_12 ?_
   case h1_12 =>
    intro b; refine ca [false] [6] [] 8 ent218 (g218 kj1 false ([r9, v2, r10, r11, v6] : List (List UInt8)) r12 hr12) ?_; exact L.nil ⟨rfl, rfl, rfl, rfl⟩
   case' q1_12 => skip
   repeat refine ls ?_
   exact trivial
   all_goals exact lq
  cases H; exact WpC.ret rt
 ·refine sy 1 ?_; refine L.binS hF rfl rfl rfl rfl rfl (L.nil ?_); refine cd H (fun hc H => ?_) (fun hc H => ?_)
  ·refine WpC.regionL ?_; refine cB 13 ent221 (g221 k  ([] : List UInt8)) H fun r13 H => ?_; refine gn 1 ?_; exact ⟨_, ⟨k, a0, a1, a3, a5, r13, a2, a4, by omega, H, rfl⟩, lm [(0, 11), (1, 12)] hm⟩
  ·refine WpC.skip ?_; exact ⟨_, ⟨k, a0, a1, a3, a5, a6, a2, a4, by omega, H, rfl⟩, lm [(0, 11), (1, 12)] hm⟩
/-! ### I_World_ask -/
def I_World_ask.j1 (k : Nat) (v8 : Int) (v9 : List UInt8) (v10 : T_World) (v11 : T_Act) (v12 : T_Cred) : Option (Int × T_World) := (I_isService k v12.Service).bind fun r14 => cond r14 (some (3, v10)) ((I_AskReq k v12.Ticket v12.Key (⟨v12.Client, v10.Now, v10.Fresh⟩ : T_Auth) v11.C v11.Rest v10.Fresh v9).bind fun r17 => (I_World_send k r17 v10).bind fun r18 => cond (r18.1 != 0) (some (3, r18.2)) ((at? r18.2.Waits v11.A).bind fun b19 => some (0, (⟨r18.2.Config, r18.2.Now, r18.2.Fresh, r18.2.Net, r18.2.Known, (r18.2.Waits.set v11.A.toNat (⟨true, v10.Fresh, v12.Key, v8⟩ : T_Wait)), r18.2.Creds, r18.2.Caches, r18.2.Log, r18.2.Accepts, r18.2.Leaked⟩ : T_World))))
def I_World_ask (k : Nat) (a1 : T_Act) (o0 : T_World) : Option (Int × T_World) := (I_World_cred k a1.A a1.B o0).bind fun r1 => cond (!r1.2.1) (some (2, r1.2.2)) (cond (decide (a1.D > 0)) (cond (decide (a1.D > (r1.2.2.Accepts.length : Int))) (some (2, r1.2.2)) ((at? r1.2.2.Accepts (IntKind.i64.wrap (a1.D - 1))).bind fun b23 => cond (b23.Server != (IntKind.i64.wrap (a1.A - 3))) (some (2, r1.2.2)) ((at? r1.2.2.Accepts (IntKind.i64.wrap (a1.D - 1))).bind fun b24 => (at? r1.2.2.Accepts (IntKind.i64.wrap (a1.D - 1))).bind fun b25 => I_World_ask.j1 k b24.Client b25.Ticket r1.2.2 a1 r1.1))) (I_World_ask.j1 k r1.1.Client ([] : List UInt8) r1.2.2 a1 r1.1))
theorem ent135 : MG.Enters Tryz.prog 135 := en func135
theorem g135 (k : Nat) (a1 : T_Act) (o0 : T_World) (r : Int × T_World) (H : I_World_ask k a1 o0 = some r) : Gives Tryz.prog 135 [V.one (Cell.ptr 0 0), V.agg (bT_Act a1)] [[Cell.ow 1 (List.map eI o0.Config.UserRealm), Cell.ow 1 (List.map eI o0.Config.ServiceRealm), Cell.ow 2 (List.map eT_Pair o0.Config.Links), Cell.ow 2 (List.map eT_Pair o0.Config.Proxy), cI o0.Config.Skew, cI o0.Now, cI o0.Fresh, Cell.ow 1 (List.map eS o0.Net), Cell.ow 1 (List.map eS o0.Known.Terms), Cell.ow 1 (List.map eI o0.Known.Keys), Cell.ow 4 (List.map eT_Wait o0.Waits), Cell.ow 8 (List.map eT_Cred o0.Creds), Cell.ow 2 (List.map eT_Cache o0.Caches), Cell.ow 11 (List.map eT_Event o0.Log), Cell.ow 15 (List.map eT_Accept o0.Accepts), Cell.ow 1 (List.map eI o0.Leaked)]] [V.one (cI r.1)] [[Cell.ow 1 (List.map eI r.2.Config.UserRealm), Cell.ow 1 (List.map eI r.2.Config.ServiceRealm), Cell.ow 2 (List.map eT_Pair r.2.Config.Links), Cell.ow 2 (List.map eT_Pair r.2.Config.Proxy), cI r.2.Config.Skew, cI r.2.Now, cI r.2.Fresh, Cell.ow 1 (List.map eS r.2.Net), Cell.ow 1 (List.map eS r.2.Known.Terms), Cell.ow 1 (List.map eI r.2.Known.Keys), Cell.ow 4 (List.map eT_Wait r.2.Waits), Cell.ow 8 (List.map eT_Cred r.2.Creds), Cell.ow 2 (List.map eT_Cache r.2.Caches), Cell.ow 11 (List.map eT_Event r.2.Log), Cell.ow 15 (List.map eT_Accept r.2.Accepts), Cell.ow 1 (List.map eI r.2.Leaked)]] := by
 refine Gives.intro func135 rfl rfl rfl rfl ?_; refine fx fun w0 T S0 ob oh hm => ?_
 have hF := fxe w0 T S0 111 ob oh
 unfold I_World_ask at H; obtain ⟨K, hK⟩ := leK k; refine sr ?_; refine bo 27 ?_; refine gn 1 ?_; refine sy 5 ?_; obtain ⟨r1, hr1, H⟩ := bindS H; refine ca [false, false, false] [] [0] 28 ent186 (g186 k  a1.A a1.B o0 r1 hr1) ?_; refine go 3 ?_; refine alc 53 info146 ?_; refine gn 2 ?_; refine WpC.seq (sr ?_); refine gn 2 ?_; refine cd H (fun hc H => ?_) (fun hc H => ?_)
 ·refine sg 1 ?_; cases H; exact WpC.ret rt
 ·refine WpC.skip (sr ?_); refine gn 4 ?_; refine WpC.join (fun σ => ∃ (kj1 : Nat) (v8 : Int) (v9 : List UInt8) (v10 : T_World) (v11 : T_Act) (v12 : T_Cred), kj1 ≤ K ∧ I_World_ask.j1 kj1 v8 v9 v10 v11 v12 = some r ∧ σ = mkSt [(0, oP 0 0), (3, oP 1 0), (5, oP 2 0), (7, oI v8), (8, oS v9)] [(3, ⟨1, List.map eI v10.Config.UserRealm⟩), (4, ⟨1, List.map eI v10.Config.ServiceRealm⟩), (5, ⟨2, List.map eT_Pair v10.Config.Links⟩), (6, ⟨2, List.map eT_Pair v10.Config.Proxy⟩), (7, ⟨1, List.map eS v10.Net⟩), (8, ⟨1, List.map eS v10.Known.Terms⟩), (9, ⟨1, List.map eI v10.Known.Keys⟩), (10, ⟨4, List.map eT_Wait v10.Waits⟩), (11, ⟨8, List.map eT_Cred v10.Creds⟩), (12, ⟨2, List.map eT_Cache v10.Caches⟩), (13, ⟨11, List.map eT_Event v10.Log⟩), (14, ⟨15, List.map eT_Accept v10.Accepts⟩), (15, ⟨1, List.map eI v10.Leaked⟩)] [(0, [Cell.own 3, Cell.own 4, Cell.own 5, Cell.own 6, cI v10.Config.Skew, cI v10.Now, cI v10.Fresh, Cell.own 7, Cell.own 8, Cell.own 9, Cell.own 10, Cell.own 11, Cell.own 12, Cell.own 13, Cell.own 14, Cell.own 15]), (1, (bT_Act v11)), (2, (bT_Cred v12))] 16) ?_ ?_
  ·rintro _ ⟨kj1, v8, v9, v10, v11, v12, hkj1, H, rfl⟩
   unfold I_World_ask.j1 at H; refine WpC.seq (sr ?_); refine go 2 ?_; refine cB 16 ent55 (g55 kj1  v12.Service) H fun r14 H => L.nil ?_; refine cd H (fun hc H => ?_) (fun hc H => ?_)
   ·refine sg 1 ?_; cases H; exact WpC.ret rt
   ·refine WpC.skip (sr ?_); refine mv ?_; refine L.nilCheck hF rfl rfl rfl rfl ?_; refine gn 3 ?_; refine WpC.seq (WpC.seq ?_); obtain ⟨r17, hr17, H⟩ := bindS H; obtain ⟨r18, hr18, H⟩ := bindS H
    apply ldT ⟨[e0 0 _, e0 3 _, e0 5 _, e0 7 _, e0 8 _, e0 9 _, ed 77 1 _, ed 78 2 _, ed 79 3 _, ed 80 4 _, ed 81 5 _, ed 82 6 _, ed 83 7 _, ed 84 8 _, ed 85 9 _, ed 86 10 _, ed 87 11 _, ed 88 12 _, ed 89 13 _, ed 90 14 _, ed 91 15 _, ed 92 16 _, ed 93 17 _, ed 94 18 _, ed 95 19 _, ed 96 20 _, ed 97 21 _, ed 98 22 _], [(3, [(21, none), (0, some _)]), (4, [(21, none), (0, some _)]), (5, [(21, none), (0, some _)]), (6, [(21, none), (0, some _)]), (7, [(21, none), (0, some _)]), (8, [(21, none), (0, some _)]), (9, [(21, none), (0, some _)]), (10, [(21, none), (0, some _)]), (11, [(21, none), (0, some _)]), (12, [(21, none), (0, some _)]), (13, [(21, none), (0, some _)]), (14, [(21, none), (0, some _)]), (15, [(21, none), (0, some _)]), ed 19 21 _, ed 20 21 _, ed 21 21 _, ed 22 21 _, ed 26 21 _, ed 27 21 _, ed 28 21 _, ed 29 21 _, ed 30 21 _, ed 31 21 _, ed 32 21 _, ed 33 21 _, ed 34 21 _], [(0, [(21, some _), (0, some _)]), e0 1 _, e0 2 _], 35, []⟩ [(0, 3145728), (0, 3670020), (2, 3670016), (0, 3670032), (8, 3670016), (0, 3674176), (32, 3674112), (0, 3675904), (128, 3675648), (384, 3675136), (896, 3674112), (0, 3674112), (4064, 3670016), (0, 3686400), (8192, 3670016), (0, 3735552), (32768, 3670016), (0, 3670016), (0, 3670016), (524286, 3145728), (1048575, 2097152), (2097151, 0)] mixed ?L1 ?_
    case L1 =>
     repeat refine ls ?_
     apply lc 35 17 0 [89] [] [] ?h1_12 ?q1_12 ?_
     case h1_12 =>
      intro b; refine bf built56 ?_; exact L.nil ⟨rfl, rfl, rfl, rfl⟩
     case' q1_12 => skip
     repeat refine ls ?_
     apply lc 35 17 1 [96] [] [] ?h1_19 ?q1_19 ?_
     case h1_19 =>
      intro b; refine c0 35 ent187 (g187 kj1  v12.Ticket v12.Key (⟨v12.Client, v10.Now, v10.Fresh⟩ : T_Auth) v11.C v11.Rest v10.Fresh v9 r17 hr17) ?_; exact L.nil ⟨rfl, rfl, rfl, rfl⟩
     case' q1_19 => skip
     apply lc 35 18 17 [97] [19, 20, 21, 22, 26, 27, 28, 29, 30, 31, 32, 33, 34] [0] ?h1_20 ?q1_20 ?_
     case h1_20 =>
      intro b; refine ca [false, false] [] [0] 35 ent184 (g184 kj1  r17 v10 r18 hr18) ?_; exact L.nil ⟨rfl, rfl, rfl, rfl⟩
     case' q1_20 => skip
     repeat refine ls ?_
     exact trivial
     all_goals exact lq
    refine cd H (fun hc H => ?_) (fun hc H => ?_)
    ·refine sg 1 ?_; cases H; exact WpC.ret rt
    ·refine WpC.skip (WpC.seq ?_); obtain ⟨b19, hb19, H⟩ := bindS H
     apply ldT ⟨[e0 0 _, e0 3 _, e0 5 _, e0 7 _, e0 9 _, ed 99 1 _, ed 100 2 _, ed 101 3 _, ed 102 4 _, ed 103 5 _, ed 104 6 _, ed 105 7 _, ed 106 8 _, ed 107 9 _, ed 108 10 _, ed 109 11 _, ed 110 12 _], [e0 19 _, e0 20 _, e0 21 _, e0 22 _, e0 26 _, e0 27 _, e0 28 _, (29, [(13, some _), (0, some _)]), e0 30 _, e0 31 _, e0 32 _, e0 33 _, e0 34 _], [e0 0 _, e0 1 _, e0 2 _], 35, []⟩ [(0, 6158), (1, 6156), (3, 6152), (7, 6144), (0, 6176), (16, 6144), (0, 7168), (0, 7424), (128, 7168), (0, 7168), (960, 6144), (2047, 4096), (4095, 0)] mixed ?L2 ?_
     case L2 =>
      repeat refine ls ?_
      apply lc 35 35 0 [109] [] [] ?h2_10 ?q2_10 ?_
      case h2_10 =>
       intro b; refine bf built143 ?_; exact L.nil ⟨rfl, rfl, rfl, rfl⟩
      case' q2_10 => skip
      apply lc 35 35 0 [110] [] [] ?h2_11 ?q2_11 ?_
      case h2_11 =>
       intro b; refine ix underlying37 info143 hb19 ?_; exact L.nil ⟨rfl, rfl, rfl, rfl⟩
      case' q2_11 => skip
      apply lc 35 35 0 [] [29] [] ?h2_12 ?q2_12 ?_
      case h2_12 =>
       intro b; refine L.storeEp (xs := r18.2.Waits) (e := eT_Wait) (a' := (⟨true, v10.Fresh, v12.Key, v8⟩ : T_Wait)) shape143 hF rfl rfl rfl rfl rfl rfl rfl (at?_get hb19).2 rfl rfl ?_; exact L.nil ⟨rfl, rfl, rfl, rfl⟩
      case' q2_12 => skip
      exact trivial
      all_goals exact lq
     refine sg 1 ?_; cases H; exact WpC.ret rt
  ·refine sg 3 ?_; refine cd H (fun hc H => ?_) (fun hc H => ?_)
   ·refine WpC.seq (WpC.seq ?_); refine S.begin mixed (by kernel_rfl) ?_; refine S.st 0 rfl rfl ((Ca.fieldAddr underlying63 rfl info3 rfl).quiet) (fun Q0 k0 => fa underlying63 info3 (L.nil k0)) ?_; refine S.st 1 rfl rfl (Qu.load) (fun Q0 k0 => lp shape3 (L.nil k0)) ?_; refine S.st 2 rfl rfl ((Ca.move).quiet) (fun Q0 k0 => mv (L.nil k0)) ?_; refine S.st 3 rfl rfl ((Ca.nilCheck rfl rfl).quiet) (fun Q0 k0 => L.nilCheck hF rfl rfl rfl rfl (L.nil k0)) ?_; refine S.st 4 rfl rfl ((Ca.fieldAddr underlying43 rfl info41 rfl).quiet) (fun Q0 k0 => fa underlying43 info41 (L.nil k0)) ?_; refine S.st 5 rfl rfl (Qu.load) (fun Q0 k0 => lp shape41 (L.nil k0)) ?_; refine S.st 6 rfl rfl ((Ca.lenR (xs := r1.2.2.Accepts) (e := eT_Accept) underlying41 rfl rfl).quiet) (fun Q0 k0 => L.lenR (xs := r1.2.2.Accepts) (e := eT_Accept) underlying41 hF rfl rfl rfl rfl (L.nil k0)) ?_; refine S.st 7 rfl rfl ((Ca.bin rfl rfl (calm_int _ _ _ _ _ _ _ _)).quiet) (fun Q0 k0 => bi (L.nil k0)) ?_; refine S.st 8 rfl rfl ((Ca.move).quiet) (fun Q0 k0 => mv (L.nil k0)) ?_; refine S.split (fun hc => ?_) (fun hc => ?_)
    ·replace H := condT hc H
     refine S.off 9 rfl rfl hF rfl rfl ?_; refine S.off 10 rfl rfl hF rfl rfl ?_; refine S.off 11 rfl rfl hF rfl rfl ?_; refine S.off 12 rfl rfl hF rfl rfl ?_; refine S.off 13 rfl rfl hF rfl rfl ?_; refine S.off 14 rfl rfl hF rfl rfl ?_; refine S.off 15 rfl rfl hF rfl rfl ?_; refine S.off 16 rfl rfl hF rfl rfl ?_; refine S.off 17 rfl rfl hF rfl rfl ?_; refine S.off 18 rfl rfl hF rfl rfl ?_; refine S.off 19 rfl rfl hF rfl rfl ?_; refine S.off 20 rfl rfl hF rfl rfl ?_; refine S.off 21 rfl rfl hF rfl rfl ?_; refine S.off 22 rfl rfl hF rfl rfl ?_; refine S.st 23 rfl rfl ((Ca.pick).quiet) (fun Q0 k0 => pk (L.nil k0)) ?_; refine S.nil ?_; refine cT ?_; refine sg 1 ?_; cases H; exact WpC.ret rt
    ·replace H := condF hc H
     refine S.st 9 rfl rfl ((Ca.move).quiet) (fun Q0 k0 => mv (L.nil k0)) ?_; refine S.st 10 rfl rfl ((Ca.nilCheck rfl rfl).quiet) (fun Q0 k0 => L.nilCheck hF rfl rfl rfl rfl (L.nil k0)) ?_; refine S.st 11 rfl rfl ((Ca.fieldAddr underlying43 rfl info41 rfl).quiet) (fun Q0 k0 => fa underlying43 info41 (L.nil k0)) ?_; refine S.st 12 rfl rfl (Qu.load) (fun Q0 k0 => lp shape41 (L.nil k0)) ?_; refine S.st 13 rfl rfl ((Ca.fieldAddr underlying63 rfl info3 rfl).quiet) (fun Q0 k0 => fa underlying63 info3 (L.nil k0)) ?_; refine S.st 14 rfl rfl (Qu.load) (fun Q0 k0 => lp shape3 (L.nil k0)) ?_; refine S.st 15 rfl rfl ((Ca.bin rfl rfl (calm_int _ _ _ _ _ _ _ _)).quiet) (fun Q0 k0 => bi (L.nil k0)) ?_; obtain ⟨b23, hb23, H⟩ := bindS H; refine S.st 16 rfl rfl ((Ca.indexAddr).quiet) (fun Q0 k0 => ix underlying41 info58 hb23 (L.nil k0)) ?_; refine S.st 17 rfl rfl ((Ca.fieldAddr underlying58 rfl info3 rfl).quiet) (fun Q0 k0 => fa underlying58 info3 (L.nil k0)) ?_; refine S.st 18 rfl rfl (Qu.load) (fun Q0 k0 => L.loadEp (xs := r1.2.2.Accepts) (e := eT_Accept) shape3 hF rfl rfl rfl rfl (at?_get hb23).2 rfl rfl (L.nil k0)) ?_; refine S.st 19 rfl rfl ((Ca.fieldAddr underlying63 rfl info3 rfl).quiet) (fun Q0 k0 => fa underlying63 info3 (L.nil k0)) ?_; refine S.st 20 rfl rfl (Qu.load) (fun Q0 k0 => lp shape3 (L.nil k0)) ?_; refine S.st 21 rfl rfl ((Ca.bin rfl rfl (calm_int _ _ _ _ _ _ _ _)).quiet) (fun Q0 k0 => bi (L.nil k0)) ?_
     refine S.st 22 rfl rfl ((Ca.bin rfl rfl (calm_int _ _ _ _ _ _ _ _)).quiet) (fun Q0 k0 => bi (L.nil k0)) ?_; refine S.st 23 rfl rfl ((Ca.pick).quiet) (fun Q0 k0 => pk (L.nil k0)) ?_; refine S.nil ?_; refine cd H (fun hc H => ?_) (fun hc H => ?_)
     ·refine sg 1 ?_; cases H; exact WpC.ret rt
     ·refine WpC.skip ?_; refine S.begin mixed (by kernel_rfl) ?_; refine S.st 0 rfl rfl ((Ca.move).quiet) (fun Q0 k0 => mv (L.nil k0)) ?_; refine S.st 1 rfl rfl ((Ca.nilCheck rfl rfl).quiet) (fun Q0 k0 => L.nilCheck hF rfl rfl rfl rfl (L.nil k0)) ?_; refine S.st 2 rfl rfl ((Ca.fieldAddr underlying43 rfl info41 rfl).quiet) (fun Q0 k0 => fa underlying43 info41 (L.nil k0)) ?_; refine S.st 3 rfl rfl (Qu.load) (fun Q0 k0 => lp shape41 (L.nil k0)) ?_; refine S.st 4 rfl rfl ((Ca.fieldAddr underlying63 rfl info3 rfl).quiet) (fun Q0 k0 => fa underlying63 info3 (L.nil k0)) ?_; refine S.st 5 rfl rfl (Qu.load) (fun Q0 k0 => lp shape3 (L.nil k0)) ?_; refine S.st 6 rfl rfl ((Ca.bin rfl rfl (calm_int _ _ _ _ _ _ _ _)).quiet) (fun Q0 k0 => bi (L.nil k0)) ?_; obtain ⟨b24, hb24, H⟩ := bindS H; refine S.st 7 rfl rfl ((Ca.indexAddr).quiet) (fun Q0 k0 => ix underlying41 info58 hb24 (L.nil k0)) ?_; refine S.st 8 rfl rfl ((Ca.fieldAddr underlying58 rfl info3 rfl).quiet) (fun Q0 k0 => fa underlying58 info3 (L.nil k0)) ?_; refine S.st 9 rfl rfl (Qu.load) (fun Q0 k0 => L.loadEp (xs := r1.2.2.Accepts) (e := eT_Accept) shape3 hF rfl rfl rfl rfl (at?_get hb24).2 rfl rfl (L.nil k0)) ?_; refine S.st 10 rfl rfl ((Ca.move).quiet) (fun Q0 k0 => mv (L.nil k0)) ?_; refine S.st 11 rfl rfl ((Ca.nilCheck rfl rfl).quiet) (fun Q0 k0 => L.nilCheck hF rfl rfl rfl rfl (L.nil k0)) ?_
      refine S.st 12 rfl rfl ((Ca.fieldAddr underlying43 rfl info41 rfl).quiet) (fun Q0 k0 => fa underlying43 info41 (L.nil k0)) ?_; refine S.st 13 rfl rfl (Qu.load) (fun Q0 k0 => lp shape41 (L.nil k0)) ?_; refine S.st 14 rfl rfl ((Ca.fieldAddr underlying63 rfl info3 rfl).quiet) (fun Q0 k0 => fa underlying63 info3 (L.nil k0)) ?_; refine S.st 15 rfl rfl (Qu.load) (fun Q0 k0 => lp shape3 (L.nil k0)) ?_; refine S.st 16 rfl rfl ((Ca.bin rfl rfl (calm_int _ _ _ _ _ _ _ _)).quiet) (fun Q0 k0 => bi (L.nil k0)) ?_; obtain ⟨b25, hb25, H⟩ := bindS H; refine S.st 17 rfl rfl ((Ca.indexAddr).quiet) (fun Q0 k0 => ix underlying41 info58 hb25 (L.nil k0)) ?_; refine S.st 18 rfl rfl ((Ca.fieldAddr underlying58 rfl info9 rfl).quiet) (fun Q0 k0 => fa underlying58 info9 (L.nil k0)) ?_; refine S.st 19 rfl rfl (Qu.load) (fun Q0 k0 => L.loadEp (xs := r1.2.2.Accepts) (e := eT_Accept) shape9 hF rfl rfl rfl rfl (at?_get hb25).2 rfl rfl (L.nil k0)) ?_; refine S.st 20 rfl rfl ((Ca.assign).quiet) (fun Q0 k0 => ag (L.nil k0)) ?_; refine S.st 21 rfl rfl ((Ca.assign).quiet) (fun Q0 k0 => ag (L.nil k0)) ?_; refine S.nil ?_; exact ⟨_, ⟨k, b24.Client, b25.Ticket, r1.2.2, a1, r1.1, by omega, H, rfl⟩, lm [(0, 0), (1, 27), (2, 53), (3, 37), (4, 38), (5, 39), (6, 40), (7, 44), (8, 45), (9, 46), (10, 47), (11, 48), (12, 49), (13, 50), (14, 51), (15, 52)] hm⟩
   ·refine WpC.skip ?_; exact ⟨_, ⟨k, r1.1.Client, ([] : List UInt8), r1.2.2, a1, r1.1, by omega, H, rfl⟩, lm [(0, 0), (1, 27), (2, 53), (3, 37), (4, 38), (5, 39), (6, 40), (7, 44), (8, 45), (9, 46), (10, 47), (11, 48), (12, 49), (13, 50), (14, 51), (15, 52)] hm⟩
/-! ### I_World_message -/
def I_World_message (k : Nat) (a1 : Int) (o0 : T_World) : Option (List UInt8 × Bool) := (I_within k a1 0 (IntKind.i64.wrap ((o0.Net.length : Int) - 1))).bind fun r2 => cond (!r2) (some (([] : List UInt8), false)) ((at? o0.Net a1).bind fun b3 => some (b3, true))
theorem ent180 : MG.Enters Tryz.prog 180 := en func180
theorem g180 (k : Nat) (a1 : Int) (o0 : T_World) (r : List UInt8 × Bool) (H : I_World_message k a1 o0 = some r) : Gives Tryz.prog 180 [V.one (Cell.ptr 0 0), V.one (cI a1)] [[Cell.ow 1 (List.map eI o0.Config.UserRealm), Cell.ow 1 (List.map eI o0.Config.ServiceRealm), Cell.ow 2 (List.map eT_Pair o0.Config.Links), Cell.ow 2 (List.map eT_Pair o0.Config.Proxy), cI o0.Config.Skew, cI o0.Now, cI o0.Fresh, Cell.ow 1 (List.map eS o0.Net), Cell.ow 1 (List.map eS o0.Known.Terms), Cell.ow 1 (List.map eI o0.Known.Keys), Cell.ow 4 (List.map eT_Wait o0.Waits), Cell.ow 8 (List.map eT_Cred o0.Creds), Cell.ow 2 (List.map eT_Cache o0.Caches), Cell.ow 11 (List.map eT_Event o0.Log), Cell.ow 15 (List.map eT_Accept o0.Accepts), Cell.ow 1 (List.map eI o0.Leaked)]] [V.one (cS r.1), V.one (cL r.2)] [[Cell.ow 1 (List.map eI o0.Config.UserRealm), Cell.ow 1 (List.map eI o0.Config.ServiceRealm), Cell.ow 2 (List.map eT_Pair o0.Config.Links), Cell.ow 2 (List.map eT_Pair o0.Config.Proxy), cI o0.Config.Skew, cI o0.Now, cI o0.Fresh, Cell.ow 1 (List.map eS o0.Net), Cell.ow 1 (List.map eS o0.Known.Terms), Cell.ow 1 (List.map eI o0.Known.Keys), Cell.ow 4 (List.map eT_Wait o0.Waits), Cell.ow 8 (List.map eT_Cred o0.Creds), Cell.ow 2 (List.map eT_Cache o0.Caches), Cell.ow 11 (List.map eT_Event o0.Log), Cell.ow 15 (List.map eT_Accept o0.Accepts), Cell.ow 1 (List.map eI o0.Leaked)]] := by
 refine Gives.intro func180 rfl rfl rfl rfl ?_; refine fx fun w0 T S0 ob oh hm => ?_
 have hF := fxe w0 T S0 22 ob oh
 unfold I_World_message at H; obtain ⟨K, hK⟩ := leK k; refine sg 2 ?_; refine WpC.seq (sr ?_); refine go 2 ?_; refine L.nilCheck hF rfl rfl rfl rfl ?_; refine go 2 ?_; refine L.lenR (xs := o0.Net) (e := eS) underlying34 hF rfl rfl rfl rfl ?_; refine bi ?_; refine cB 19 ent52 (g52 k  a1 0 (IntKind.i64.wrap ((o0.Net.length : Int) - 1))) H fun r2 H => ?_; refine gn 1 ?_; refine cd H (fun hc H => ?_) (fun hc H => ?_)
 ·refine sg 2 ?_; cases H; exact WpC.ret rt
 ·refine WpC.skip (sr ?_); refine mv ?_; refine L.nilCheck hF rfl rfl rfl rfl ?_; refine go 3 ?_; obtain ⟨b3, hb3, H⟩ := bindS H; refine ix underlying34 info9 hb3 ?_; refine L.loadEp (xs := o0.Net) (e := eS) shape9 hF rfl rfl rfl rfl (at?_get hb3).2 rfl rfl ?_; refine gn 2 ?_; cases H; exact WpC.ret rt
/-! ### I_isOf -/
def I_isOf (k : Nat) (a0 : List UInt8) (a1 : UInt8) : Option Bool := (I_TermOk k a0).bind fun r3 => cond r3 ((at? a0 0).bind fun b4 => some (b4 == a1)) (some false)
theorem ent147 : MG.Enters Tryz.prog 147 := en func147
theorem g147 (k : Nat) (a0 : List UInt8) (a1 : UInt8) (r : Bool) (H : I_isOf k a0 a1 = some r) : Gives Tryz.prog 147 [V.one (cS a0), V.one (cU a1)] [] [V.one (cL r)] [] := by
 refine Gives.intro func147 rfl rfl rfl rfl ?_; refine fx fun w0 T S0 ob oh hm => ?_
 have hF := fxe w0 T S0 13 ob oh
 unfold I_isOf at H; obtain ⟨K, hK⟩ := leK k; refine sg 1 ?_; refine sy 1 ?_; refine cB 2 ent90 (g90 k  a0) H fun r3 H => ?_; refine mv ?_; refine sH H (fun hc H => ?_) (fun hc H => ?_)
 ·refine mv ?_; obtain ⟨b4, hb4, H⟩ := bindS H; refine L.idxS underlying9 hF rfl rfl rfl rfl hb4 ?_; refine mv ?_; refine L.binB (a := b4) (b := a1) hF rfl rfl rfl rfl rfl ?_; refine gn 2 ?_; cases H; exact WpC.ret rt
 ·refine gn 6 ?_; cases H; exact WpC.ret rt
/-! ### I_Parts -/
def I_Parts.l2 : Nat → (List UInt8) → Int → (List (List UInt8)) → Int → Int → Option (List (List UInt8) × Bool)
 | 0, _, _, _, _, _ => none
 | k2 + 1, v57, v58, v59, v60, v61 => cond (decide (v61 < v60)) ((I_termAt k2 v57 v58 8).bind fun r65 => (cut? v57 v58 r65).bind fun b66 => cond (decide ((2 * (v59.length + ([b66] : List (List UInt8)).length) + 192) * 16 ≤ 281474976710656)) ((I_Parts.l2 k2) v57 r65 (v59 ++ ([b66] : List (List UInt8))) v60 (IntKind.i64.wrap (v61 + 1))) none) (some (v59, true))
def I_Parts (k : Nat) (a0 : List UInt8) : Option (List (List UInt8) × Bool) := (I_isOf k a0 (108 : UInt8)).bind fun r2 => cond (!r2) (some ([], false)) ((I_varAt k a0 1).bind fun r3 => I_Parts.l2 k a0 r3.2 ([] : List (List UInt8)) r3.1 0)
theorem ent146 : MG.Enters Tryz.prog 146 := en func146
theorem g146 (k : Nat) (a0 : List UInt8) (r : List (List UInt8) × Bool) (H : I_Parts k a0 = some r) : Gives Tryz.prog 146 [V.one (cS a0)] [] [V.one (Cell.ow 1 (List.map eS r.1)), V.one (cL r.2)] [] := by
 refine Gives.intro func146 rfl rfl rfl rfl ?_; refine fx fun w0 T S0 ob oh hm => ?_
 have hF := fxe w0 T S0 33 ob oh
 unfold I_Parts at H; obtain ⟨K, hK⟩ := leK k; refine sg 2 ?_; refine WpC.seq (sr ?_); refine mv ?_; refine cB 1 ent147 (g147 k  a0 (108 : UInt8)) H fun r2 H => ?_; refine gn 1 ?_; refine cd H (fun hc H => ?_) (fun hc H => ?_)
 ·refine sg 2 ?_; refine WpC.le (Le.own 2 0 2 1 rfl rfl rfl) ?_; cases H; exact WpC.ret rt
 ·refine WpC.skip (sr ?_); refine mv ?_; refine cB 2 ent148 (g148 k  a0 1) H fun r3 H => ?_; refine gn 5 ?_; refine sr ?_; refine L.buildSlice (e := eS) 4 ([] : List (List UInt8)) underlying34 info9 rfl rfl rfl hF rfl rfl rfl rfl rfl rfl rfl rfl ?_; refine gn 1 ?_; refine WpC.seq (sr ?_); refine gn 2 ?_; refine WpC.block ?_; refine WpC.loopL (P := Tryz.prog) (fun n σ => ∃ (v57 : List UInt8) (v58 : Int) (v59 : List (List UInt8)) (v60 v61 : Int), n ≤ K ∧ I_Parts.l2 n v57 v58 v59 v60 v61 = some r ∧ σ = mkSt [(0, oS v57), (5, oI v58), (6, MG.one (Cell.own 0)), (17, oI v60), (18, oI v61)] [(0, ⟨1, List.map eS v59⟩)] [] 1) k ⟨_, ⟨a0, r3.2, ([] : List (List UInt8)), r3.1, 0, by omega, H, rfl⟩, lm [(0, 4)] hm⟩ ?_; clear H
  rintro k2 _ ⟨v57, v58, v59, v60, v61, hk2, H, rfl⟩
  cases k2 with
  | zero => cases H
  | succ k2 =>
   rw [I_Parts.l2] at H
   refine sg 1 ?_; refine WpC.seq ?_; refine cd H (fun hc H => ?_) (fun hc H => ?_)
   ·refine WpC.skip (WpC.seq (WpC.block (sr ?_))); refine go 2 ?_; refine cB 1 ent143 (g143 k2  v57 v58 8) H fun r65 H => ?_; refine gn 1 ?_; refine sy 4 ?_; obtain ⟨b66, hb66, H⟩ := bindS H; refine L.cutS underlying9 hF rfl rfl rfl rfl rfl hb66 ?_; refine L.buildSlice (e := eS) 2 ([b66] : List (List UInt8)) underlying34 info9 rfl rfl rfl hF rfl rfl rfl rfl rfl rfl rfl rfl ?_; obtain ⟨h67, H⟩ := condG H; refine L.append (xs := v59) (ys := ([b66] : List (List UInt8))) (e := eS) 3 underlying34 info9 rfl rfl hF rfl rfl rfl rfl rfl rfl rfl rfl (fun _ => rfl) (fun _ _ h1 h2 => by cases h1; cases h2; rfl) ⟨_, underlying34⟩ (of_decide_eq_true h67) rfl rfl ?_; refine gn 1 ?_; refine WpC.regionL ?_; refine gn 2 ?_; refine WpC.regionL ?_; refine gn 2 ?_; exact ⟨k2, _, by omega, ⟨v57, r65, (v59 ++ ([b66] : List (List UInt8))), v60, (IntKind.i64.wrap (v61 + 1)), by omega, H, rfl⟩, lm [(0, 3)] hm⟩
   ·refine WpC.exit (sr ?_); refine gn 3 ?_; cases H; exact WpC.ret rt
/-! ### I_ReadAtom -/
def I_ReadAtom (k : Nat) (a0 : List UInt8) : Option (List UInt8 × Bool) := (I_isOf k a0 (97 : UInt8)).bind fun r2 => cond (!r2) (some (([] : List UInt8), false)) ((I_varAt k a0 1).bind fun r3 => (cut? a0 r3.2 (a0.length : Int)).bind fun b4 => some (b4, true))
theorem ent274 : MG.Enters Tryz.prog 274 := en func274
theorem g274 (k : Nat) (a0 : List UInt8) (r : List UInt8 × Bool) (H : I_ReadAtom k a0 = some r) : Gives Tryz.prog 274 [V.one (cS a0)] [] [V.one (cS r.1), V.one (cL r.2)] [] := by
 refine Gives.intro func274 rfl rfl rfl rfl ?_; refine fx fun w0 T S0 ob oh hm => ?_
 have hF := fxe w0 T S0 17 ob oh
 unfold I_ReadAtom at H; obtain ⟨K, hK⟩ := leK k; refine sg 2 ?_; refine WpC.seq (sr ?_); refine mv ?_; refine cB 1 ent147 (g147 k  a0 (97 : UInt8)) H fun r2 H => ?_; refine gn 1 ?_; refine cd H (fun hc H => ?_) (fun hc H => ?_)
 ·refine sg 2 ?_; cases H; exact WpC.ret rt
 ·refine WpC.skip (sr ?_); refine mv ?_; refine cB 2 ent148 (g148 k  a0 1) H fun r3 H => ?_; refine gn 5 ?_; refine sy 2 ?_; obtain ⟨b4, hb4, H⟩ := bindS H; refine L.cutS underlying9 hF rfl rfl rfl rfl rfl hb4 ?_; refine gn 2 ?_; cases H; exact WpC.ret rt
/-! ### I_ReadNum -/
def I_ReadNum (k : Nat) (a0 : List UInt8) : Option (Int × Bool) := (I_ReadAtom k a0).bind fun r1 => (I_ReadVar k r1.1).bind fun r2 => cond (!r1.2) (some (0, false)) (cond (r2.2 == 0) (some (0, false)) (cond (r2.2 != (r1.1.length : Int)) (some (0, false)) (some (r2.1, true))))
theorem ent243 : MG.Enters Tryz.prog 243 := en func243
theorem g243 (k : Nat) (a0 : List UInt8) (r : Int × Bool) (H : I_ReadNum k a0 = some r) : Gives Tryz.prog 243 [V.one (cS a0)] [] [V.one (cI r.1), V.one (cL r.2)] [] := by
 refine Gives.intro func243 rfl rfl rfl rfl ?_; refine fx fun w0 T S0 ob oh hm => ?_
 have hF := fxe w0 T S0 31 ob oh
 unfold I_ReadNum at H; obtain ⟨K, hK⟩ := leK k; refine sg 2 ?_; refine sy 1 ?_; refine cB 1 ent274 (g274 k  a0) H fun r1 H => ?_; refine gn 5 ?_; refine sy 1 ?_; refine cB 3 ent196 (g196 k  r1.1) H fun r2 H => ?_; refine gn 5 ?_; refine WpC.seq (sr ?_); refine go 3 ?_; refine sH H (fun hc H => ?_) (fun hc H => ?_)
 ·refine gn 9 ?_; refine cT ?_; refine sg 2 ?_; cases H; exact WpC.ret rt
 ·refine go 4 ?_; refine sH H (fun hc H => ?_) (fun hc H => ?_)
  ·refine gn 5 ?_; refine cT ?_; refine sg 2 ?_; cases H; exact WpC.ret rt
  ·refine go 2 ?_; refine L.lenS underlying9 hF rfl rfl rfl ?_; refine gn 2 ?_; refine cd H (fun hc H => ?_) (fun hc H => ?_)
   ·refine sg 2 ?_; cases H; exact WpC.ret rt
   ·refine WpC.skip (sr ?_); refine gn 3 ?_; cases H; exact WpC.ret rt
end Go.Proofs.YtnbjjmnohlnplaaGreat.M
