import Derived.Test.YtbaemdkdgghokaaGreatShSe
import Derived.Test.YtbaemdkdgghokaaGreatProg
namespace Go.Proofs.YtbaemdkdgghokaaGreat.M
open Go Go.MG Tryz
set_option linter.unusedVariables false
set_option linter.unusedSimpArgs false
set_option maxHeartbeats 8000000
set_option maxRecDepth 100000
structure T_Pair where
  A : Int
  B : Int
def eT_Pair (x : T_Pair) : List Cell := [cI x.A, cI x.B]
structure T_Config where
  UserRealm : List Int
  ServiceRealm : List Int
  Links : List T_Pair
  Proxy : List T_Pair
  Skew : Int
def eT_Config (x : T_Config) : List Cell := [Cell.ow 1 (List.map eI x.UserRealm), Cell.ow 1 (List.map eI x.ServiceRealm), Cell.ow 2 (List.map eT_Pair x.Links), Cell.ow 2 (List.map eT_Pair x.Proxy), cI x.Skew]
def bT_Config (g0 : Bool) (g1 : Bool) (g2 : Bool) (g3 : Bool) (x : T_Config) : List Cell := [Cell.sl g0 (List.map eI x.UserRealm), Cell.sl g1 (List.map eI x.ServiceRealm), Cell.sl g2 (List.map eT_Pair x.Links), Cell.sl g3 (List.map eT_Pair x.Proxy), cI x.Skew]
structure T_Rest where
  Servers : Int
  Ops : Int
  End : Int
def eT_Rest (x : T_Rest) : List Cell := [cI x.Servers, cI x.Ops, cI x.End]
def bT_Rest (x : T_Rest) : List Cell := [cI x.Servers, cI x.Ops, cI x.End]
structure T_Known where
  Terms : List (List UInt8)
  Keys : List Int
def eT_Known (x : T_Known) : List Cell := [Cell.ow 1 (List.map eS x.Terms), Cell.ow 1 (List.map eI x.Keys)]
structure T_Wait where
  On : Bool
  Nonce : Int
  Key : Int
  Client : Int
def eT_Wait (x : T_Wait) : List Cell := [cL x.On, cI x.Nonce, cI x.Key, cI x.Client]
def bT_Wait (x : T_Wait) : List Cell := [cL x.On, cI x.Nonce, cI x.Key, cI x.Client]
structure T_Cred where
  Owner : Int
  Client : Int
  Service : Int
  Key : Int
  Rest : T_Rest
  Ticket : List UInt8
def eT_Cred (x : T_Cred) : List Cell := [cI x.Owner, cI x.Client, cI x.Service, cI x.Key, cI x.Rest.Servers, cI x.Rest.Ops, cI x.Rest.End, cS x.Ticket]
def bT_Cred (x : T_Cred) : List Cell := [cI x.Owner, cI x.Client, cI x.Service, cI x.Key, cI x.Rest.Servers, cI x.Rest.Ops, cI x.Rest.End, cS x.Ticket]
structure T_Auth where
  Client : Int
  Time : Int
  Seq : Int
def eT_Auth (x : T_Auth) : List Cell := [cI x.Client, cI x.Time, cI x.Seq]
def bT_Auth (x : T_Auth) : List Cell := [cI x.Client, cI x.Time, cI x.Seq]
structure T_Cache where
  Quiet : Int
  Seen : List T_Auth
def eT_Cache (x : T_Cache) : List Cell := [cI x.Quiet, Cell.ow 3 (List.map eT_Auth x.Seen)]
structure T_Event where
  Kind : Int
  Realm : Int
  By : Int
  Client : Int
  Service : Int
  Key : Int
  Parent : Int
  Evid : Int
  Rest : T_Rest
def eT_Event (x : T_Event) : List Cell := [cI x.Kind, cI x.Realm, cI x.By, cI x.Client, cI x.Service, cI x.Key, cI x.Parent, cI x.Evid, cI x.Rest.Servers, cI x.Rest.Ops, cI x.Rest.End]
def bT_Event (x : T_Event) : List Cell := [cI x.Kind, cI x.Realm, cI x.By, cI x.Client, cI x.Service, cI x.Key, cI x.Parent, cI x.Evid, cI x.Rest.Servers, cI x.Rest.Ops, cI x.Rest.End]
structure T_Accept where
  Server : Int
  Client : Int
  Key : Int
  Op : Int
  Now : Int
  Auth : T_Auth
  Rest : T_Rest
  Path : List Int
  Via : List Int
  Leaks : Int
  Ticket : List UInt8
def eT_Accept (x : T_Accept) : List Cell := [cI x.Server, cI x.Client, cI x.Key, cI x.Op, cI x.Now, cI x.Auth.Client, cI x.Auth.Time, cI x.Auth.Seq, cI x.Rest.Servers, cI x.Rest.Ops, cI x.Rest.End, Cell.ow 1 (List.map eI x.Path), Cell.ow 1 (List.map eI x.Via), cI x.Leaks, cS x.Ticket]
def bT_Accept (g0 : Bool) (g1 : Bool) (x : T_Accept) : List Cell := [cI x.Server, cI x.Client, cI x.Key, cI x.Op, cI x.Now, cI x.Auth.Client, cI x.Auth.Time, cI x.Auth.Seq, cI x.Rest.Servers, cI x.Rest.Ops, cI x.Rest.End, Cell.sl g0 (List.map eI x.Path), Cell.sl g1 (List.map eI x.Via), cI x.Leaks, cS x.Ticket]
structure T_World where
  Config : T_Config
  Now : Int
  Fresh : Int
  Net : List (List UInt8)
  Known : T_Known
  Waits : List T_Wait
  Creds : List T_Cred
  Caches : List T_Cache
  Log : List T_Event
  Accepts : List T_Accept
  Leaked : List Int
def eT_World (x : T_World) : List Cell := [Cell.ow 1 (List.map eI x.Config.UserRealm), Cell.ow 1 (List.map eI x.Config.ServiceRealm), Cell.ow 2 (List.map eT_Pair x.Config.Links), Cell.ow 2 (List.map eT_Pair x.Config.Proxy), cI x.Config.Skew, cI x.Now, cI x.Fresh, Cell.ow 1 (List.map eS x.Net), Cell.ow 1 (List.map eS x.Known.Terms), Cell.ow 1 (List.map eI x.Known.Keys), Cell.ow 4 (List.map eT_Wait x.Waits), Cell.ow 8 (List.map eT_Cred x.Creds), Cell.ow 2 (List.map eT_Cache x.Caches), Cell.ow 11 (List.map eT_Event x.Log), Cell.ow 15 (List.map eT_Accept x.Accepts), Cell.ow 1 (List.map eI x.Leaked)]
def bT_World (g0 : Bool) (g1 : Bool) (g2 : Bool) (g3 : Bool) (g4 : Bool) (g5 : Bool) (g6 : Bool) (g7 : Bool) (g8 : Bool) (g9 : Bool) (g10 : Bool) (g11 : Bool) (g12 : Bool) (x : T_World) : List Cell := [Cell.sl g0 (List.map eI x.Config.UserRealm), Cell.sl g1 (List.map eI x.Config.ServiceRealm), Cell.sl g2 (List.map eT_Pair x.Config.Links), Cell.sl g3 (List.map eT_Pair x.Config.Proxy), cI x.Config.Skew, cI x.Now, cI x.Fresh, Cell.sl g4 (List.map eS x.Net), Cell.sl g5 (List.map eS x.Known.Terms), Cell.sl g6 (List.map eI x.Known.Keys), Cell.sl g7 (List.map eT_Wait x.Waits), Cell.sl g8 (List.map eT_Cred x.Creds), Cell.sl g9 (List.map eT_Cache x.Caches), Cell.sl g10 (List.map eT_Event x.Log), Cell.sl g11 (List.map eT_Accept x.Accepts), Cell.sl g12 (List.map eI x.Leaked)]
structure L_Pair where
  A : Int
  B : Int
def eL_Pair (x : L_Pair) : List Cell := [cI x.A, cI x.B]
structure L_Config where
  UserRealm : List Int
  ServiceRealm : List Int
  Links : List L_Pair
  Proxy : List L_Pair
  Skew : Int
def eL_Config (x : L_Config) : List Cell := [Cell.sl true (List.map eI x.UserRealm), Cell.sl true (List.map eI x.ServiceRealm), Cell.sl true (List.map eL_Pair x.Links), Cell.sl true (List.map eL_Pair x.Proxy), cI x.Skew]
def bL_Config (g0 : Bool) (g1 : Bool) (g2 : Bool) (g3 : Bool) (x : L_Config) : List Cell := [Cell.sl g0 (List.map eI x.UserRealm), Cell.sl g1 (List.map eI x.ServiceRealm), Cell.sl g2 (List.map eL_Pair x.Links), Cell.sl g3 (List.map eL_Pair x.Proxy), cI x.Skew]
structure L_Known where
  Terms : List (List UInt8)
  Keys : List Int
def eL_Known (x : L_Known) : List Cell := [Cell.sl true (List.map eS x.Terms), Cell.sl true (List.map eI x.Keys)]
structure L_Wait where
  On : Bool
  Nonce : Int
  Key : Int
  Client : Int
def eL_Wait (x : L_Wait) : List Cell := [cL x.On, cI x.Nonce, cI x.Key, cI x.Client]
def bL_Wait (x : L_Wait) : List Cell := [cL x.On, cI x.Nonce, cI x.Key, cI x.Client]
structure L_Rest where
  Servers : Int
  Ops : Int
  End : Int
def eL_Rest (x : L_Rest) : List Cell := [cI x.Servers, cI x.Ops, cI x.End]
def bL_Rest (x : L_Rest) : List Cell := [cI x.Servers, cI x.Ops, cI x.End]
structure L_Cred where
  Owner : Int
  Client : Int
  Service : Int
  Key : Int
  Rest : L_Rest
  Ticket : List UInt8
def eL_Cred (x : L_Cred) : List Cell := [cI x.Owner, cI x.Client, cI x.Service, cI x.Key, cI x.Rest.Servers, cI x.Rest.Ops, cI x.Rest.End, cS x.Ticket]
def bL_Cred (x : L_Cred) : List Cell := [cI x.Owner, cI x.Client, cI x.Service, cI x.Key, cI x.Rest.Servers, cI x.Rest.Ops, cI x.Rest.End, cS x.Ticket]
structure L_Auth where
  Client : Int
  Time : Int
  Seq : Int
def eL_Auth (x : L_Auth) : List Cell := [cI x.Client, cI x.Time, cI x.Seq]
def bL_Auth (x : L_Auth) : List Cell := [cI x.Client, cI x.Time, cI x.Seq]
structure L_Cache where
  Quiet : Int
  Seen : List L_Auth
def eL_Cache (x : L_Cache) : List Cell := [cI x.Quiet, Cell.sl true (List.map eL_Auth x.Seen)]
structure L_Event where
  Kind : Int
  Realm : Int
  By : Int
  Client : Int
  Service : Int
  Key : Int
  Parent : Int
  Evid : Int
  Rest : L_Rest
def eL_Event (x : L_Event) : List Cell := [cI x.Kind, cI x.Realm, cI x.By, cI x.Client, cI x.Service, cI x.Key, cI x.Parent, cI x.Evid, cI x.Rest.Servers, cI x.Rest.Ops, cI x.Rest.End]
def bL_Event (x : L_Event) : List Cell := [cI x.Kind, cI x.Realm, cI x.By, cI x.Client, cI x.Service, cI x.Key, cI x.Parent, cI x.Evid, cI x.Rest.Servers, cI x.Rest.Ops, cI x.Rest.End]
structure L_Accept where
  Server : Int
  Client : Int
  Key : Int
  Op : Int
  Now : Int
  Auth : L_Auth
  Rest : L_Rest
  Path : List Int
  Via : List Int
  Leaks : Int
  Ticket : List UInt8
def eL_Accept (x : L_Accept) : List Cell := [cI x.Server, cI x.Client, cI x.Key, cI x.Op, cI x.Now, cI x.Auth.Client, cI x.Auth.Time, cI x.Auth.Seq, cI x.Rest.Servers, cI x.Rest.Ops, cI x.Rest.End, Cell.sl true (List.map eI x.Path), Cell.sl true (List.map eI x.Via), cI x.Leaks, cS x.Ticket]
def bL_Accept (g0 : Bool) (g1 : Bool) (x : L_Accept) : List Cell := [cI x.Server, cI x.Client, cI x.Key, cI x.Op, cI x.Now, cI x.Auth.Client, cI x.Auth.Time, cI x.Auth.Seq, cI x.Rest.Servers, cI x.Rest.Ops, cI x.Rest.End, Cell.sl g0 (List.map eI x.Path), Cell.sl g1 (List.map eI x.Via), cI x.Leaks, cS x.Ticket]
structure L_World where
  Config : L_Config
  Now : Int
  Fresh : Int
  Net : List (List UInt8)
  Known : L_Known
  Waits : List L_Wait
  Creds : List L_Cred
  Caches : List L_Cache
  Log : List L_Event
  Accepts : List L_Accept
  Leaked : List Int
def eL_World (x : L_World) : List Cell := [Cell.sl true (List.map eI x.Config.UserRealm), Cell.sl true (List.map eI x.Config.ServiceRealm), Cell.sl true (List.map eL_Pair x.Config.Links), Cell.sl true (List.map eL_Pair x.Config.Proxy), cI x.Config.Skew, cI x.Now, cI x.Fresh, Cell.sl true (List.map eS x.Net), Cell.sl true (List.map eS x.Known.Terms), Cell.sl true (List.map eI x.Known.Keys), Cell.sl true (List.map eL_Wait x.Waits), Cell.sl true (List.map eL_Cred x.Creds), Cell.sl true (List.map eL_Cache x.Caches), Cell.sl true (List.map eL_Event x.Log), Cell.sl true (List.map eL_Accept x.Accepts), Cell.sl true (List.map eI x.Leaked)]
def bL_World (g0 : Bool) (g1 : Bool) (g2 : Bool) (g3 : Bool) (g4 : Bool) (g5 : Bool) (g6 : Bool) (g7 : Bool) (g8 : Bool) (g9 : Bool) (g10 : Bool) (g11 : Bool) (g12 : Bool) (x : L_World) : List Cell := [Cell.sl g0 (List.map eI x.Config.UserRealm), Cell.sl g1 (List.map eI x.Config.ServiceRealm), Cell.sl g2 (List.map eL_Pair x.Config.Links), Cell.sl g3 (List.map eL_Pair x.Config.Proxy), cI x.Config.Skew, cI x.Now, cI x.Fresh, Cell.sl g4 (List.map eS x.Net), Cell.sl g5 (List.map eS x.Known.Terms), Cell.sl g6 (List.map eI x.Known.Keys), Cell.sl g7 (List.map eL_Wait x.Waits), Cell.sl g8 (List.map eL_Cred x.Creds), Cell.sl g9 (List.map eL_Cache x.Caches), Cell.sl g10 (List.map eL_Event x.Log), Cell.sl g11 (List.map eL_Accept x.Accepts), Cell.sl g12 (List.map eI x.Leaked)]
theorem mixed : Tryz.prog.follows .mixedOrders = true := by kernel_rfl
theorem shape3 : MG.shape Tryz.prog 3 = some (false, 1) := by kernel_rfl
theorem shape4 : MG.shape Tryz.prog 4 = some (false, 1) := by kernel_rfl
theorem shape9 : MG.shape Tryz.prog 9 = some (false, 1) := by kernel_rfl
theorem shape24 : MG.shape Tryz.prog 24 = some (false, 1) := by kernel_rfl
theorem shape25 : MG.shape Tryz.prog 25 = some (false, 1) := by kernel_rfl
theorem shape27 : MG.shape Tryz.prog 27 = some (true, 5) := by kernel_rfl
theorem shape29 : MG.shape Tryz.prog 29 = some (true, 3) := by kernel_rfl
theorem shape34 : MG.shape Tryz.prog 34 = some (false, 1) := by kernel_rfl
theorem shape36 : MG.shape Tryz.prog 36 = some (true, 2) := by kernel_rfl
theorem shape37 : MG.shape Tryz.prog 37 = some (false, 1) := by kernel_rfl
theorem shape38 : MG.shape Tryz.prog 38 = some (false, 1) := by kernel_rfl
theorem shape39 : MG.shape Tryz.prog 39 = some (false, 1) := by kernel_rfl
theorem shape40 : MG.shape Tryz.prog 40 = some (false, 1) := by kernel_rfl
theorem shape41 : MG.shape Tryz.prog 41 = some (false, 1) := by kernel_rfl
theorem shape43 : MG.shape Tryz.prog 43 = some (true, 16) := by kernel_rfl
theorem shape47 : MG.shape Tryz.prog 47 = some (true, 11) := by kernel_rfl
theorem shape54 : MG.shape Tryz.prog 54 = some (false, 1) := by kernel_rfl
theorem shape56 : MG.shape Tryz.prog 56 = some (true, 5) := by kernel_rfl
theorem shape57 : MG.shape Tryz.prog 57 = some (true, 2) := by kernel_rfl
theorem shape58 : MG.shape Tryz.prog 58 = some (false, 1) := by kernel_rfl
theorem shape59 : MG.shape Tryz.prog 59 = some (false, 1) := by kernel_rfl
theorem shape60 : MG.shape Tryz.prog 60 = some (false, 1) := by kernel_rfl
theorem shape61 : MG.shape Tryz.prog 61 = some (false, 1) := by kernel_rfl
theorem shape62 : MG.shape Tryz.prog 62 = some (false, 1) := by kernel_rfl
theorem shape64 : MG.shape Tryz.prog 64 = some (true, 16) := by kernel_rfl
theorem shape72 : MG.shape Tryz.prog 72 = some (true, 3) := by kernel_rfl
theorem shape74 : MG.shape Tryz.prog 74 = some (true, 15) := by kernel_rfl
theorem shape107 : MG.shape Tryz.prog 107 = some (false, 1) := by kernel_rfl
theorem shape108 : MG.shape Tryz.prog 108 = some (false, 1) := by kernel_rfl
theorem shape110 : MG.shape Tryz.prog 110 = some (true, 3) := by kernel_rfl
theorem shape161 : MG.shape Tryz.prog 161 = some (true, 2) := by kernel_rfl
theorem shape168 : MG.shape Tryz.prog 168 = some (false, 1) := by kernel_rfl
theorem shape170 : MG.shape Tryz.prog 170 = some (true, 2) := by kernel_rfl
theorem shape185 : MG.shape Tryz.prog 185 = some (true, 3) := by kernel_rfl
theorem shape187 : MG.shape Tryz.prog 187 = some (true, 8) := by kernel_rfl
theorem shape189 : MG.shape Tryz.prog 189 = some (false, 1) := by kernel_rfl
theorem shape191 : MG.shape Tryz.prog 191 = some (true, 2) := by kernel_rfl
theorem shape193 : MG.shape Tryz.prog 193 = some (true, 3) := by kernel_rfl
theorem shape195 : MG.shape Tryz.prog 195 = some (true, 15) := by kernel_rfl
theorem shape198 : MG.shape Tryz.prog 198 = some (true, 4) := by kernel_rfl
theorem shape201 : MG.shape Tryz.prog 201 = some (true, 8) := by kernel_rfl
theorem shape206 : MG.shape Tryz.prog 206 = some (true, 4) := by kernel_rfl
theorem shape211 : MG.shape Tryz.prog 211 = some (true, 11) := by kernel_rfl
theorem shape263 : MG.shape Tryz.prog 263 = some (true, 2) := by kernel_rfl
theorem info3 : Tryz.prog.info? 3 = some Tryz.t3 := by kernel_rfl
theorem info4 : Tryz.prog.info? 4 = some Tryz.t4 := by kernel_rfl
theorem info5 : Tryz.prog.info? 5 = some Tryz.t5 := by kernel_rfl
theorem info9 : Tryz.prog.info? 9 = some Tryz.t9 := by kernel_rfl
theorem info24 : Tryz.prog.info? 24 = some Tryz.t24 := by kernel_rfl
theorem info25 : Tryz.prog.info? 25 = some Tryz.t25 := by kernel_rfl
theorem info27 : Tryz.prog.info? 27 = some Tryz.t27 := by kernel_rfl
theorem info29 : Tryz.prog.info? 29 = some Tryz.t29 := by kernel_rfl
theorem info34 : Tryz.prog.info? 34 = some Tryz.t34 := by kernel_rfl
theorem info36 : Tryz.prog.info? 36 = some Tryz.t36 := by kernel_rfl
theorem info37 : Tryz.prog.info? 37 = some Tryz.t37 := by kernel_rfl
theorem info38 : Tryz.prog.info? 38 = some Tryz.t38 := by kernel_rfl
theorem info39 : Tryz.prog.info? 39 = some Tryz.t39 := by kernel_rfl
theorem info40 : Tryz.prog.info? 40 = some Tryz.t40 := by kernel_rfl
theorem info41 : Tryz.prog.info? 41 = some Tryz.t41 := by kernel_rfl
theorem info43 : Tryz.prog.info? 43 = some Tryz.t43 := by kernel_rfl
theorem info47 : Tryz.prog.info? 47 = some Tryz.t47 := by kernel_rfl
theorem info54 : Tryz.prog.info? 54 = some Tryz.t54 := by kernel_rfl
theorem info56 : Tryz.prog.info? 56 = some Tryz.t56 := by kernel_rfl
theorem info57 : Tryz.prog.info? 57 = some Tryz.t57 := by kernel_rfl
theorem info58 : Tryz.prog.info? 58 = some Tryz.t58 := by kernel_rfl
theorem info59 : Tryz.prog.info? 59 = some Tryz.t59 := by kernel_rfl
theorem info60 : Tryz.prog.info? 60 = some Tryz.t60 := by kernel_rfl
theorem info61 : Tryz.prog.info? 61 = some Tryz.t61 := by kernel_rfl
theorem info62 : Tryz.prog.info? 62 = some Tryz.t62 := by kernel_rfl
theorem info72 : Tryz.prog.info? 72 = some Tryz.t72 := by kernel_rfl
theorem info74 : Tryz.prog.info? 74 = some Tryz.t74 := by kernel_rfl
theorem info107 : Tryz.prog.info? 107 = some Tryz.t107 := by kernel_rfl
theorem info108 : Tryz.prog.info? 108 = some Tryz.t108 := by kernel_rfl
theorem info110 : Tryz.prog.info? 110 = some Tryz.t110 := by kernel_rfl
theorem info161 : Tryz.prog.info? 161 = some Tryz.t161 := by kernel_rfl
theorem info168 : Tryz.prog.info? 168 = some Tryz.t168 := by kernel_rfl
theorem info170 : Tryz.prog.info? 170 = some Tryz.t170 := by kernel_rfl
theorem info185 : Tryz.prog.info? 185 = some Tryz.t185 := by kernel_rfl
theorem info187 : Tryz.prog.info? 187 = some Tryz.t187 := by kernel_rfl
theorem info189 : Tryz.prog.info? 189 = some Tryz.t189 := by kernel_rfl
theorem info191 : Tryz.prog.info? 191 = some Tryz.t191 := by kernel_rfl
theorem info193 : Tryz.prog.info? 193 = some Tryz.t193 := by kernel_rfl
theorem info195 : Tryz.prog.info? 195 = some Tryz.t195 := by kernel_rfl
theorem info198 : Tryz.prog.info? 198 = some Tryz.t198 := by kernel_rfl
theorem info201 : Tryz.prog.info? 201 = some Tryz.t201 := by kernel_rfl
theorem info206 : Tryz.prog.info? 206 = some Tryz.t206 := by kernel_rfl
theorem info211 : Tryz.prog.info? 211 = some Tryz.t211 := by kernel_rfl
theorem info263 : Tryz.prog.info? 263 = some Tryz.t263 := by kernel_rfl
theorem built198 : builtA Tryz.prog 198 = fillA (fun x => ([(0, 1), (1, 1), (2, 1), (3, 1)] : List (Nat × Nat))[x]?) [cL false, cI (0 : Int), cI (0 : Int), cI (0 : Int)] := by kernel_rfl
abbrev bx (a b c d : Int) : List Cell := [cI a, cI b, cI c, cI d]
abbrev tab : Tab := ⟨[(3, (false, 1)), (4, (false, 1)), (9, (false, 1)), (24, (false, 1)), (25, (false, 1)), (27, (true, 5)), (29, (true, 3)), (34, (false, 1)), (36, (true, 2)), (37, (false, 1)), (38, (false, 1)), (39, (false, 1)), (40, (false, 1)), (41, (false, 1)), (43, (true, 16)), (47, (true, 11)), (54, (false, 1)), (56, (true, 5)), (57, (true, 2)), (58, (false, 1)), (59, (false, 1)), (60, (false, 1)), (61, (false, 1)), (62, (false, 1)), (64, (true, 16)), (72, (true, 3)), (74, (true, 15)), (107, (false, 1)), (108, (false, 1)), (110, (true, 3)), (161, (true, 2)), (168, (false, 1)), (170, (true, 2)), (185, (true, 3)), (187, (true, 8)), (189, (false, 1)), (191, (true, 2)), (193, (true, 3)), (195, (true, 15)), (198, (true, 4)), (201, (true, 8)), (206, (true, 4)), (211, (true, 11)), (263, (true, 2))], [(27, [(0, 0), (1, 1), (2, 2), (3, 3), (4, 4)]), (29, [(0, 0), (1, 1), (2, 2)]), (36, [(0, 0), (1, 1)]), (43, [(0, 0), (1, 5), (2, 6), (3, 7), (4, 8), (5, 10), (6, 11), (7, 12), (8, 13), (9, 14), (10, 15)]), (47, [(0, 0), (1, 1), (2, 2), (3, 3), (4, 4), (5, 5), (6, 6), (7, 7), (8, 8)]), (56, [(0, 0), (1, 1), (2, 2), (3, 3), (4, 4)]), (57, [(0, 0), (1, 1)]), (64, [(0, 0), (1, 5), (2, 6), (3, 7), (4, 8), (5, 10), (6, 11), (7, 12), (8, 13), (9, 14), (10, 15)]), (72, [(0, 0), (1, 1), (2, 2)]), (74, [(0, 0), (1, 1), (2, 2), (3, 3), (4, 4), (5, 5), (6, 8), (7, 11), (8, 12), (9, 13), (10, 14)]), (161, [(0, 0), (1, 1)]), (170, [(0, 0), (1, 1)]), (185, [(0, 0), (1, 1), (2, 2)]), (187, [(0, 0), (1, 1), (2, 2), (3, 3), (4, 4), (5, 7)]), (191, [(0, 0), (1, 1)]), (193, [(0, 0), (1, 1), (2, 2)]), (195, [(0, 0), (1, 1), (2, 2), (3, 3), (4, 4), (5, 5), (6, 8), (7, 11), (8, 12), (9, 13), (10, 14)]), (198, [(0, 0), (1, 1), (2, 2), (3, 3)]), (201, [(0, 0), (1, 1), (2, 2), (3, 3), (4, 4), (5, 7)]), (206, [(0, 0), (1, 1), (2, 2), (3, 3)]), (211, [(0, 0), (1, 1), (2, 2), (3, 3), (4, 4), (5, 5), (6, 6), (7, 7), (8, 8)]), (263, [(0, 0), (1, 1)])]⟩
theorem tabOk : TabOk Tryz.prog tab := ⟨⟨shape3, shape4, shape9, shape24, shape25, shape27, shape29, shape34, shape36, shape37, shape38, shape39, shape40, shape41, shape43, shape47, shape54, shape56, shape57, shape58, shape59, shape60, shape61, shape62, shape64, shape72, shape74, shape107, shape108, shape110, shape161, shape168, shape170, shape185, shape187, shape189, shape191, shape193, shape195, shape198, shape201, shape206, shape211, shape263, trivial⟩, ⟨⟨⟨_, _, _, Tryz.underlying27, rfl, info24, rfl, rfl⟩, ⟨_, _, _, Tryz.underlying27, rfl, info24, rfl, rfl⟩, ⟨_, _, _, Tryz.underlying27, rfl, info25, rfl, rfl⟩, ⟨_, _, _, Tryz.underlying27, rfl, info25, rfl, rfl⟩, ⟨_, _, _, Tryz.underlying27, rfl, info3, rfl, rfl⟩, trivial⟩, ⟨⟨_, _, _, Tryz.underlying29, rfl, info3, rfl, rfl⟩, ⟨_, _, _, Tryz.underlying29, rfl, info3, rfl, rfl⟩, ⟨_, _, _, Tryz.underlying29, rfl, info3, rfl, rfl⟩, trivial⟩, ⟨⟨_, _, _, Tryz.underlying36, rfl, info34, rfl, rfl⟩, ⟨_, _, _, Tryz.underlying36, rfl, info24, rfl, rfl⟩, trivial⟩, ⟨⟨_, _, _, Tryz.underlying43, rfl, info27, rfl, rfl⟩, ⟨_, _, _, Tryz.underlying43, rfl, info3, rfl, rfl⟩, ⟨_, _, _, Tryz.underlying43, rfl, info3, rfl, rfl⟩, ⟨_, _, _, Tryz.underlying43, rfl, info34, rfl, rfl⟩, ⟨_, _, _, Tryz.underlying43, rfl, info36, rfl, rfl⟩, ⟨_, _, _, Tryz.underlying43, rfl, info37, rfl, rfl⟩, ⟨_, _, _, Tryz.underlying43, rfl, info38, rfl, rfl⟩, ⟨_, _, _, Tryz.underlying43, rfl, info39, rfl, rfl⟩, ⟨_, _, _, Tryz.underlying43, rfl, info40, rfl, rfl⟩, ⟨_, _, _, Tryz.underlying43, rfl, info41, rfl, rfl⟩, ⟨_, _, _, Tryz.underlying43, rfl, info24, rfl, rfl⟩, trivial⟩, ⟨⟨_, _, _, Tryz.underlying47, rfl, info3, rfl, rfl⟩, ⟨_, _, _, Tryz.underlying47, rfl, info3, rfl, rfl⟩, ⟨_, _, _, Tryz.underlying47, rfl, info3, rfl, rfl⟩, ⟨_, _, _, Tryz.underlying47, rfl, info3, rfl, rfl⟩, ⟨_, _, _, Tryz.underlying47, rfl, info3, rfl, rfl⟩, ⟨_, _, _, Tryz.underlying47, rfl, info3, rfl, rfl⟩, ⟨_, _, _, Tryz.underlying47, rfl, info3, rfl, rfl⟩, ⟨_, _, _, Tryz.underlying47, rfl, info3, rfl, rfl⟩, ⟨_, _, _, Tryz.underlying47, rfl, info29, rfl, rfl⟩, trivial⟩, ⟨⟨_, _, _, Tryz.underlying56, rfl, info24, rfl, rfl⟩, ⟨_, _, _, Tryz.underlying56, rfl, info24, rfl, rfl⟩, ⟨_, _, _, Tryz.underlying56, rfl, info54, rfl, rfl⟩, ⟨_, _, _, Tryz.underlying56, rfl, info54, rfl, rfl⟩, ⟨_, _, _, Tryz.underlying56, rfl, info3, rfl, rfl⟩, trivial⟩, ⟨⟨_, _, _, Tryz.underlying57, rfl, info34, rfl, rfl⟩, ⟨_, _, _, Tryz.underlying57, rfl, info24, rfl, rfl⟩, trivial⟩, ⟨⟨_, _, _, Tryz.underlying64, rfl, info56, rfl, rfl⟩, ⟨_, _, _, Tryz.underlying64, rfl, info3, rfl, rfl⟩, ⟨_, _, _, Tryz.underlying64, rfl, info3, rfl, rfl⟩, ⟨_, _, _, Tryz.underlying64, rfl, info34, rfl, rfl⟩, ⟨_, _, _, Tryz.underlying64, rfl, info57, rfl, rfl⟩, ⟨_, _, _, Tryz.underlying64, rfl, info58, rfl, rfl⟩, ⟨_, _, _, Tryz.underlying64, rfl, info59, rfl, rfl⟩, ⟨_, _, _, Tryz.underlying64, rfl, info60, rfl, rfl⟩, ⟨_, _, _, Tryz.underlying64, rfl, info61, rfl, rfl⟩, ⟨_, _, _, Tryz.underlying64, rfl, info62, rfl, rfl⟩, ⟨_, _, _, Tryz.underlying64, rfl, info24, rfl, rfl⟩, trivial⟩, ⟨⟨_, _, _, Tryz.underlying72, rfl, info3, rfl, rfl⟩, ⟨_, _, _, Tryz.underlying72, rfl, info3, rfl, rfl⟩, ⟨_, _, _, Tryz.underlying72, rfl, info3, rfl, rfl⟩, trivial⟩, ⟨⟨_, _, _, Tryz.underlying74, rfl, info3, rfl, rfl⟩, ⟨_, _, _, Tryz.underlying74, rfl, info3, rfl, rfl⟩, ⟨_, _, _, Tryz.underlying74, rfl, info3, rfl, rfl⟩, ⟨_, _, _, Tryz.underlying74, rfl, info3, rfl, rfl⟩, ⟨_, _, _, Tryz.underlying74, rfl, info3, rfl, rfl⟩, ⟨_, _, _, Tryz.underlying74, rfl, info72, rfl, rfl⟩, ⟨_, _, _, Tryz.underlying74, rfl, info29, rfl, rfl⟩, ⟨_, _, _, Tryz.underlying74, rfl, info24, rfl, rfl⟩, ⟨_, _, _, Tryz.underlying74, rfl, info24, rfl, rfl⟩, ⟨_, _, _, Tryz.underlying74, rfl, info3, rfl, rfl⟩, ⟨_, _, _, Tryz.underlying74, rfl, info9, rfl, rfl⟩, trivial⟩, ⟨⟨_, _, _, Tryz.underlying161, rfl, info3, rfl, rfl⟩, ⟨_, _, _, Tryz.underlying161, rfl, info3, rfl, rfl⟩, trivial⟩, ⟨⟨_, _, _, Tryz.underlying170, rfl, info3, rfl, rfl⟩, ⟨_, _, _, Tryz.underlying170, rfl, info168, rfl, rfl⟩, trivial⟩, ⟨⟨_, _, _, Tryz.underlying185, rfl, info3, rfl, rfl⟩, ⟨_, _, _, Tryz.underlying185, rfl, info3, rfl, rfl⟩, ⟨_, _, _, Tryz.underlying185, rfl, info3, rfl, rfl⟩, trivial⟩, ⟨⟨_, _, _, Tryz.underlying187, rfl, info3, rfl, rfl⟩, ⟨_, _, _, Tryz.underlying187, rfl, info3, rfl, rfl⟩, ⟨_, _, _, Tryz.underlying187, rfl, info3, rfl, rfl⟩, ⟨_, _, _, Tryz.underlying187, rfl, info3, rfl, rfl⟩, ⟨_, _, _, Tryz.underlying187, rfl, info185, rfl, rfl⟩, ⟨_, _, _, Tryz.underlying187, rfl, info9, rfl, rfl⟩, trivial⟩, ⟨⟨_, _, _, Tryz.underlying191, rfl, info3, rfl, rfl⟩, ⟨_, _, _, Tryz.underlying191, rfl, info189, rfl, rfl⟩, trivial⟩, ⟨⟨_, _, _, Tryz.underlying193, rfl, info3, rfl, rfl⟩, ⟨_, _, _, Tryz.underlying193, rfl, info3, rfl, rfl⟩, ⟨_, _, _, Tryz.underlying193, rfl, info3, rfl, rfl⟩, trivial⟩, ⟨⟨_, _, _, Tryz.underlying195, rfl, info3, rfl, rfl⟩, ⟨_, _, _, Tryz.underlying195, rfl, info3, rfl, rfl⟩, ⟨_, _, _, Tryz.underlying195, rfl, info3, rfl, rfl⟩, ⟨_, _, _, Tryz.underlying195, rfl, info3, rfl, rfl⟩, ⟨_, _, _, Tryz.underlying195, rfl, info3, rfl, rfl⟩, ⟨_, _, _, Tryz.underlying195, rfl, info193, rfl, rfl⟩, ⟨_, _, _, Tryz.underlying195, rfl, info185, rfl, rfl⟩, ⟨_, _, _, Tryz.underlying195, rfl, info24, rfl, rfl⟩, ⟨_, _, _, Tryz.underlying195, rfl, info24, rfl, rfl⟩, ⟨_, _, _, Tryz.underlying195, rfl, info3, rfl, rfl⟩, ⟨_, _, _, Tryz.underlying195, rfl, info9, rfl, rfl⟩, trivial⟩, ⟨⟨_, _, _, Tryz.underlying198, rfl, info4, rfl, rfl⟩, ⟨_, _, _, Tryz.underlying198, rfl, info3, rfl, rfl⟩, ⟨_, _, _, Tryz.underlying198, rfl, info3, rfl, rfl⟩, ⟨_, _, _, Tryz.underlying198, rfl, info3, rfl, rfl⟩, trivial⟩, ⟨⟨_, _, _, Tryz.underlying201, rfl, info3, rfl, rfl⟩, ⟨_, _, _, Tryz.underlying201, rfl, info3, rfl, rfl⟩, ⟨_, _, _, Tryz.underlying201, rfl, info3, rfl, rfl⟩, ⟨_, _, _, Tryz.underlying201, rfl, info3, rfl, rfl⟩, ⟨_, _, _, Tryz.underlying201, rfl, info29, rfl, rfl⟩, ⟨_, _, _, Tryz.underlying201, rfl, info9, rfl, rfl⟩, trivial⟩, ⟨⟨_, _, _, Tryz.underlying206, rfl, info4, rfl, rfl⟩, ⟨_, _, _, Tryz.underlying206, rfl, info3, rfl, rfl⟩, ⟨_, _, _, Tryz.underlying206, rfl, info3, rfl, rfl⟩, ⟨_, _, _, Tryz.underlying206, rfl, info3, rfl, rfl⟩, trivial⟩, ⟨⟨_, _, _, Tryz.underlying211, rfl, info3, rfl, rfl⟩, ⟨_, _, _, Tryz.underlying211, rfl, info3, rfl, rfl⟩, ⟨_, _, _, Tryz.underlying211, rfl, info3, rfl, rfl⟩, ⟨_, _, _, Tryz.underlying211, rfl, info3, rfl, rfl⟩, ⟨_, _, _, Tryz.underlying211, rfl, info3, rfl, rfl⟩, ⟨_, _, _, Tryz.underlying211, rfl, info3, rfl, rfl⟩, ⟨_, _, _, Tryz.underlying211, rfl, info3, rfl, rfl⟩, ⟨_, _, _, Tryz.underlying211, rfl, info3, rfl, rfl⟩, ⟨_, _, _, Tryz.underlying211, rfl, info185, rfl, rfl⟩, trivial⟩, ⟨⟨_, _, _, Tryz.underlying263, rfl, info3, rfl, rfl⟩, ⟨_, _, _, Tryz.underlying263, rfl, info3, rfl, rfl⟩, trivial⟩, trivial⟩⟩
theorem go {F : Fix} {ops : Array Oper} {N : Nat} {Q : St → Prop} (n : Nat) {l r : List Oper} {sl sl' : Nat → Option Slot} {H H' : Heap} (k : WpL Tryz.prog F ops Q r ⟨sl', H'⟩) (hn : F.n = N := by exact rfl) (h : runO tab ops N n l sl H = some (r, sl', H') := by exact rfl) : WpL Tryz.prog F ops Q l ⟨sl, H⟩ := goT tabOk n k hn h
theorem gn {F : Fix} {ops : Array Oper} {N : Nat} {Q : St → Prop} (n : Nat) {l : List Oper} {sl sl' : Nat → Option Slot} {H H' : Heap} (k : Q ⟨sl', H'⟩) (hn : F.n = N := by exact rfl) (h : runO tab ops N n l sl H = some ([], sl', H') := by exact rfl) : WpL Tryz.prog F ops Q l ⟨sl, H⟩ := goT tabOk n (L.nil k) hn h
theorem sg {F : Fix} {ops : Array Oper} {N : Nat} {Q : Exit → St → Prop} {id : Nat} {y : Code} (n : Nat) {sl sl' : Nat → Option Slot} {H H' : Heap} (k : WpC Tryz.prog F y Q ⟨sl', H'⟩) (hn : F.n = N := by exact rfl) (h : runO tab ops N n ops.toList sl H = some ([], sl', H') := by exact rfl) : WpC Tryz.prog F (.seq (.region id ops false) y) Q ⟨sl, H⟩ := sr (goT tabOk n (L.nil k) hn h)
theorem sy {F : Fix} {ops : Array Oper} {N : Nat} {Q : Exit → St → Prop} {id : Nat} {y : Code} (n : Nat) {r : List Oper} {sl sl' : Nat → Option Slot} {H H' : Heap} (k : WpL Tryz.prog F ops (thenA (WpC Tryz.prog F y Q) Q .normal) r ⟨sl', H'⟩) (hn : F.n = N := by exact rfl) (h : runO tab ops N n ops.toList sl H = some (r, sl', H') := by exact rfl) : WpC Tryz.prog F (.seq (.region id ops false) y) Q ⟨sl, H⟩ := sr (goT tabOk n k hn h)
/-! ### W_szIntS -/
def W_szIntS (k : Nat) (a0 : List Int) (a1 : Int) : Option Int := cond (decide ((IntKind.i64.wrap (a1 - (a0.length : Int))) < 0)) (some (-1)) (some (IntKind.i64.wrap (a1 - (a0.length : Int))))
theorem ent76 : MG.Enters Tryz.prog 76 := en func76
theorem g76 (k : Nat) (g0 : Bool) (a0 : List Int) (a1 r : Int) (H : W_szIntS k a0 a1 = some r) : Gives Tryz.prog 76 [V.one (Cell.sl g0 (List.map eI a0)), V.one (cI a1)] [] [V.one (cI r)] [] := by
 refine Gives.intro func76 rfl rfl rfl rfl ?_; refine fx fun w0 T S0 ob oh hm => ?_
 have hF := fxe w0 T S0 12 ob oh
 unfold W_szIntS at H; obtain ⟨K, hK⟩ := leK k; refine sg 1 ?_; refine sy 2 ?_; refine L.lenR (xs := a0) (e := eI) underlying24 hF rfl rfl rfl rfl ?_; refine gn 2 ?_; refine WpC.seq (sr ?_); refine gn 2 ?_; refine cd H (fun hc H => ?_) (fun hc H => ?_)
 ·refine sg 1 ?_; cases H; exact WpC.ret rt
 ·refine WpC.skip (sr ?_); refine gn 2 ?_; cases H; exact WpC.ret rt
/-! ### W_szPairS -/
def W_szPairS (k : Nat) (a0 : List L_Pair) (a1 : Int) : Option Int := cond (decide ((IntKind.i64.wrap (a1 - (a0.length : Int))) < 0)) (some (-1)) (some (IntKind.i64.wrap (a1 - (a0.length : Int))))
theorem ent154 : MG.Enters Tryz.prog 154 := en func154
theorem g154 (k : Nat) (g0 : Bool) (a0 : List L_Pair) (a1 r : Int) (H : W_szPairS k a0 a1 = some r) : Gives Tryz.prog 154 [V.one (Cell.sl g0 (List.map eL_Pair a0)), V.one (cI a1)] [] [V.one (cI r)] [] := by
 refine Gives.intro func154 rfl rfl rfl rfl ?_; refine fx fun w0 T S0 ob oh hm => ?_
 have hF := fxe w0 T S0 12 ob oh
 unfold W_szPairS at H; obtain ⟨K, hK⟩ := leK k; refine sg 1 ?_; refine sy 2 ?_; refine L.lenR (xs := a0) (e := eL_Pair) underlying54 hF rfl rfl rfl rfl ?_; refine gn 2 ?_; refine WpC.seq (sr ?_); refine gn 2 ?_; refine cd H (fun hc H => ?_) (fun hc H => ?_)
 ·refine sg 1 ?_; cases H; exact WpC.ret rt
 ·refine WpC.skip (sr ?_); refine gn 2 ?_; cases H; exact WpC.ret rt
/-! ### W_szConfig -/
def W_szConfig (k : Nat) (a0 : L_Config) (a1 : Int) : Option Int := (W_szIntS k a0.UserRealm a1).bind fun r1 => cond (decide (r1 < 0)) (some (-1)) ((W_szIntS k a0.ServiceRealm r1).bind fun r2 => cond (decide (r2 < 0)) (some (-1)) ((W_szPairS k a0.Links r2).bind fun r3 => cond (decide (r3 < 0)) (some (-1)) ((W_szPairS k a0.Proxy r3).bind fun r4 => cond (decide (r4 < 0)) (some (-1)) (some r4))))
theorem ent68 : MG.Enters Tryz.prog 68 := en func68
theorem g68 (k : Nat) (g0 g1 g2 g3 : Bool) (a0 : L_Config) (a1 r : Int) (H : W_szConfig k a0 a1 = some r) : Gives Tryz.prog 68 [V.agg (bL_Config g0 g1 g2 g3 a0), V.one (cI a1)] [] [V.one (cI r)] [] := by
 refine Gives.intro func68 rfl rfl rfl rfl ?_; refine fx fun w0 T S0 ob oh hm => ?_
 have hF := fxe w0 T S0 30 ob oh
 unfold W_szConfig at H; obtain ⟨K, hK⟩ := leK k; refine sr ?_; refine bo 6 ?_; refine gn 1 ?_; refine sy 3 ?_; refine cB 7 ent76 (g76 k g0 a0.UserRealm a1) H fun r1 H => ?_; refine gn 1 ?_; refine WpC.seq (sr ?_); refine gn 2 ?_; refine cd H (fun hc H => ?_) (fun hc H => ?_)
 ·refine sg 1 ?_; cases H; exact WpC.ret rt
 ·refine WpC.skip (sr ?_); refine go 3 ?_; refine cB 8 ent76 (g76 k g1 a0.ServiceRealm r1) H fun r2 H => ?_; refine gn 1 ?_; refine WpC.seq (sr ?_); refine gn 2 ?_; refine cd H (fun hc H => ?_) (fun hc H => ?_)
  ·refine sg 1 ?_; cases H; exact WpC.ret rt
  ·refine WpC.skip (sr ?_); refine go 3 ?_; refine cB 9 ent154 (g154 k g2 a0.Links r2) H fun r3 H => ?_; refine gn 1 ?_; refine WpC.seq (sr ?_); refine gn 2 ?_; refine cd H (fun hc H => ?_) (fun hc H => ?_)
   ·refine sg 1 ?_; cases H; exact WpC.ret rt
   ·refine WpC.skip (sr ?_); refine go 3 ?_; refine cB 10 ent154 (g154 k g3 a0.Proxy r3) H fun r4 H => ?_; refine gn 1 ?_; refine WpC.seq (sr ?_); refine gn 2 ?_; refine cd H (fun hc H => ?_) (fun hc H => ?_)
    ·refine sg 1 ?_; cases H; exact WpC.ret rt
    ·refine WpC.skip (sr ?_); refine gn 2 ?_; cases H; exact WpC.ret rt
/-! ### W_szStringS -/
def W_szStringS.l2 : Nat → (List (List UInt8)) → Int → Int → Option Int
 | 0, _, _, _ => none
 | k2 + 1, v24, v25, v26 => cond (decide (v26 < (v24.length : Int))) ((at? v24 v26).bind fun b28 => cond (decide ((IntKind.i64.wrap (v25 - (b28.length : Int))) < 0)) (some (-1)) ((W_szStringS.l2 k2) v24 (IntKind.i64.wrap (v25 - (b28.length : Int))) (IntKind.i64.wrap (v26 + 1)))) (some v25)
def W_szStringS (k : Nat) (a0 : List (List UInt8)) (a1 : Int) : Option Int := cond (decide ((IntKind.i64.wrap (a1 - (a0.length : Int))) < 0)) (some (-1)) (W_szStringS.l2 k a0 (IntKind.i64.wrap (a1 - (a0.length : Int))) 0)
theorem ent69 : MG.Enters Tryz.prog 69 := en func69
theorem g69 (k : Nat) (g0 : Bool) (a0 : List (List UInt8)) (a1 r : Int) (H : W_szStringS k a0 a1 = some r) : Gives Tryz.prog 69 [V.one (Cell.sl g0 (List.map eS a0)), V.one (cI a1)] [] [V.one (cI r)] [] := by
 refine Gives.intro func69 rfl rfl rfl rfl ?_; refine fx fun w0 T S0 ob oh hm => ?_
 have hF := fxe w0 T S0 28 ob oh
 unfold W_szStringS at H; obtain ⟨K, hK⟩ := leK k; refine sg 1 ?_; refine sy 2 ?_; refine L.lenR (xs := a0) (e := eS) underlying34 hF rfl rfl rfl rfl ?_; refine gn 2 ?_; refine WpC.seq (sr ?_); refine gn 2 ?_; refine cd H (fun hc H => ?_) (fun hc H => ?_)
 ·refine sg 1 ?_; cases H; exact WpC.ret rt
 ·refine WpC.skip (WpC.seq (sr ?_)); refine gn 1 ?_; refine WpC.block ?_; refine WpC.loopL (P := Tryz.prog) (fun n σ => ∃ (v24 : List (List UInt8)) (v25 v26 : Int), n ≤ K ∧ W_szStringS.l2 n v24 v25 v26 = some r ∧ σ = mkSt [(0, MG.one (Cell.sl g0 (List.map eS v24))), (1, oI v25), (5, oI v26)] [] [] 0) k ⟨_, ⟨a0, (IntKind.i64.wrap (a1 - (a0.length : Int))), 0, by omega, H, rfl⟩, lm [] hm⟩ ?_; clear H
  rintro k2 _ ⟨v24, v25, v26, hk2, H, rfl⟩
  cases k2 with
  | zero => cases H
  | succ k2 =>
   rw [W_szStringS.l2] at H
   refine WpC.seq (sr ?_); refine go 2 ?_; refine L.lenR (xs := v24) (e := eS) underlying34 hF rfl rfl rfl rfl ?_; refine gn 1 ?_; refine cd H (fun hc H => ?_) (fun hc H => ?_)
   ·refine WpC.skip (WpC.seq (WpC.block (sr ?_))); refine go 3 ?_; obtain ⟨b28, hb28, H⟩ := bindS H; refine ix underlying34 info9 hb28 ?_; refine le shape9 ?_; refine L.lenS underlying9 hF rfl rfl rfl ?_; refine gn 2 ?_; refine sg 2 ?_; refine cd H (fun hc H => ?_) (fun hc H => ?_)
    ·refine sg 1 ?_; cases H; exact WpC.ret rt
    ·refine WpC.skip (WpC.regionL ?_); refine gn 3 ?_; exact ⟨k2, _, by omega, ⟨v24, (IntKind.i64.wrap (v25 - (b28.length : Int))), (IntKind.i64.wrap (v26 + 1)), by omega, H, rfl⟩, lm [] hm⟩
   ·refine WpC.exit (sr ?_); refine gn 2 ?_; cases H; exact WpC.ret rt
/-! ### W_szKnown -/
def W_szKnown (k : Nat) (a0 : L_Known) (a1 : Int) : Option Int := (W_szStringS k a0.Terms a1).bind fun r1 => cond (decide (r1 < 0)) (some (-1)) ((W_szIntS k a0.Keys r1).bind fun r2 => cond (decide (r2 < 0)) (some (-1)) (some r2))
theorem ent70 : MG.Enters Tryz.prog 70 := en func70
theorem g70 (k : Nat) (g0 g1 : Bool) (a0 : L_Known) (a1 r : Int) (H : W_szKnown k a0 a1 = some r) : Gives Tryz.prog 70 [V.agg [Cell.sl g0 (List.map eS a0.Terms), Cell.sl g1 (List.map eI a0.Keys)], V.one (cI a1)] [] [V.one (cI r)] [] := by
 refine Gives.intro func70 rfl rfl rfl rfl ?_; refine fx fun w0 T S0 ob oh hm => ?_
 have hF := fxe w0 T S0 18 ob oh
 unfold W_szKnown at H; obtain ⟨K, hK⟩ := leK k; refine sr ?_; refine bo 3 ?_; refine gn 1 ?_; refine sy 3 ?_; refine cB 4 ent69 (g69 k g0 a0.Terms a1) H fun r1 H => ?_; refine gn 1 ?_; refine WpC.seq (sr ?_); refine gn 2 ?_; refine cd H (fun hc H => ?_) (fun hc H => ?_)
 ·refine sg 1 ?_; cases H; exact WpC.ret rt
 ·refine WpC.skip (sr ?_); refine go 3 ?_; refine cB 5 ent76 (g76 k g1 a0.Keys r1) H fun r2 H => ?_; refine gn 1 ?_; refine WpC.seq (sr ?_); refine gn 2 ?_; refine cd H (fun hc H => ?_) (fun hc H => ?_)
  ·refine sg 1 ?_; cases H; exact WpC.ret rt
  ·refine WpC.skip (sr ?_); refine gn 2 ?_; cases H; exact WpC.ret rt
/-! ### W_szWaitS -/
def W_szWaitS (k : Nat) (a0 : List L_Wait) (a1 : Int) : Option Int := cond (decide ((IntKind.i64.wrap (a1 - (a0.length : Int))) < 0)) (some (-1)) (some (IntKind.i64.wrap (a1 - (a0.length : Int))))
theorem ent71 : MG.Enters Tryz.prog 71 := en func71
theorem g71 (k : Nat) (g0 : Bool) (a0 : List L_Wait) (a1 r : Int) (H : W_szWaitS k a0 a1 = some r) : Gives Tryz.prog 71 [V.one (Cell.sl g0 (List.map eL_Wait a0)), V.one (cI a1)] [] [V.one (cI r)] [] := by
 refine Gives.intro func71 rfl rfl rfl rfl ?_; refine fx fun w0 T S0 ob oh hm => ?_
 have hF := fxe w0 T S0 12 ob oh
 unfold W_szWaitS at H; obtain ⟨K, hK⟩ := leK k; refine sg 1 ?_; refine sy 2 ?_; refine L.lenR (xs := a0) (e := eL_Wait) underlying58 hF rfl rfl rfl rfl ?_; refine gn 2 ?_; refine WpC.seq (sr ?_); refine gn 2 ?_; refine cd H (fun hc H => ?_) (fun hc H => ?_)
 ·refine sg 1 ?_; cases H; exact WpC.ret rt
 ·refine WpC.skip (sr ?_); refine gn 2 ?_; cases H; exact WpC.ret rt
/-! ### W_szCred -/
def W_szCred (k : Nat) (a0 : L_Cred) (a1 : Int) : Option Int := cond (decide ((IntKind.i64.wrap (a1 - (a0.Ticket.length : Int))) < 0)) (some (-1)) (some (IntKind.i64.wrap (a1 - (a0.Ticket.length : Int))))
theorem ent155 : MG.Enters Tryz.prog 155 := en func155
theorem g155 (k : Nat) (a0 : L_Cred) (a1 r : Int) (H : W_szCred k a0 a1 = some r) : Gives Tryz.prog 155 [V.agg (bL_Cred a0), V.one (cI a1)] [] [V.one (cI r)] [] := by
 refine Gives.intro func155 rfl rfl rfl rfl ?_; refine fx fun w0 T S0 ob oh hm => ?_
 have hF := fxe w0 T S0 13 ob oh
 unfold W_szCred at H; obtain ⟨K, hK⟩ := leK k; refine sr ?_; refine bo 9 ?_; refine gn 1 ?_; refine sy 3 ?_; refine L.lenS underlying9 hF rfl rfl rfl ?_; refine gn 2 ?_; refine WpC.seq (sr ?_); refine gn 2 ?_; refine cd H (fun hc H => ?_) (fun hc H => ?_)
 ·refine sg 1 ?_; cases H; exact WpC.ret rt
 ·refine WpC.skip (sr ?_); refine gn 2 ?_; cases H; exact WpC.ret rt
/-! ### W_szCredS -/
def W_szCredS.l2 : Nat → (List L_Cred) → Int → Int → Option Int
 | 0, _, _, _ => none
 | k2 + 1, v34, v35, v36 => cond (decide (v36 < (v34.length : Int))) ((at? v34 v36).bind fun b39 => (W_szCred k2 b39 v35).bind fun r40 => cond (decide (r40 < 0)) (some (-1)) ((W_szCredS.l2 k2) v34 r40 (IntKind.i64.wrap (v36 + 1)))) (some v35)
def W_szCredS (k : Nat) (a0 : List L_Cred) (a1 : Int) : Option Int := cond (decide ((IntKind.i64.wrap (a1 - (a0.length : Int))) < 0)) (some (-1)) (W_szCredS.l2 k a0 (IntKind.i64.wrap (a1 - (a0.length : Int))) 0)
theorem ent72 : MG.Enters Tryz.prog 72 := en func72
theorem g72 (k : Nat) (g0 : Bool) (a0 : List L_Cred) (a1 r : Int) (H : W_szCredS k a0 a1 = some r) : Gives Tryz.prog 72 [V.one (Cell.sl g0 (List.map eL_Cred a0)), V.one (cI a1)] [] [V.one (cI r)] [] := by
 refine Gives.intro func72 rfl rfl rfl rfl ?_; refine fx fun w0 T S0 ob oh hm => ?_
 have hF := fxe w0 T S0 27 ob oh
 unfold W_szCredS at H; obtain ⟨K, hK⟩ := leK k; refine sg 1 ?_; refine sy 2 ?_; refine L.lenR (xs := a0) (e := eL_Cred) underlying59 hF rfl rfl rfl rfl ?_; refine gn 2 ?_; refine WpC.seq (sr ?_); refine gn 2 ?_; refine cd H (fun hc H => ?_) (fun hc H => ?_)
 ·refine sg 1 ?_; cases H; exact WpC.ret rt
 ·refine WpC.skip (WpC.seq (sr ?_)); refine gn 1 ?_; refine WpC.block ?_; refine WpC.loopL (P := Tryz.prog) (fun n σ => ∃ (v34 : List L_Cred) (v35 v36 : Int), n ≤ K ∧ W_szCredS.l2 n v34 v35 v36 = some r ∧ σ = mkSt [(0, MG.one (Cell.sl g0 (List.map eL_Cred v34))), (1, oI v35), (5, oI v36)] [] [] 0) k ⟨_, ⟨a0, (IntKind.i64.wrap (a1 - (a0.length : Int))), 0, by omega, H, rfl⟩, lm [] hm⟩ ?_; clear H
  rintro k2 _ ⟨v34, v35, v36, hk2, H, rfl⟩
  cases k2 with
  | zero => cases H
  | succ k2 =>
   rw [W_szCredS.l2] at H
   refine WpC.seq (sr ?_); refine go 2 ?_; refine L.lenR (xs := v34) (e := eL_Cred) underlying59 hF rfl rfl rfl rfl ?_; refine gn 1 ?_; refine cd H (fun hc H => ?_) (fun hc H => ?_)
   ·refine WpC.skip (WpC.seq (WpC.block (sr ?_))); refine go 2 ?_; obtain ⟨b39, hb39, H⟩ := bindS H; refine ix underlying59 info187 hb39 ?_; refine go 2 ?_; refine cB 0 ent155 (g155 k2  b39 v35) H fun r40 H => ?_; refine gn 1 ?_; refine sg 2 ?_; refine cd H (fun hc H => ?_) (fun hc H => ?_)
    ·refine sg 1 ?_; cases H; exact WpC.ret rt
    ·refine WpC.skip (WpC.regionL ?_); refine gn 3 ?_; exact ⟨k2, _, by omega, ⟨v34, r40, (IntKind.i64.wrap (v36 + 1)), by omega, H, rfl⟩, lm [] hm⟩
   ·refine WpC.exit (sr ?_); refine gn 2 ?_; cases H; exact WpC.ret rt
/-! ### W_szAuthS -/
def W_szAuthS (k : Nat) (a0 : List L_Auth) (a1 : Int) : Option Int := cond (decide ((IntKind.i64.wrap (a1 - (a0.length : Int))) < 0)) (some (-1)) (some (IntKind.i64.wrap (a1 - (a0.length : Int))))
theorem ent234 : MG.Enters Tryz.prog 234 := en func234
theorem g234 (k : Nat) (g0 : Bool) (a0 : List L_Auth) (a1 r : Int) (H : W_szAuthS k a0 a1 = some r) : Gives Tryz.prog 234 [V.one (Cell.sl g0 (List.map eL_Auth a0)), V.one (cI a1)] [] [V.one (cI r)] [] := by
 refine Gives.intro func234 rfl rfl rfl rfl ?_; refine fx fun w0 T S0 ob oh hm => ?_
 have hF := fxe w0 T S0 12 ob oh
 unfold W_szAuthS at H; obtain ⟨K, hK⟩ := leK k; refine sg 1 ?_; refine sy 2 ?_; refine L.lenR (xs := a0) (e := eL_Auth) underlying189 hF rfl rfl rfl rfl ?_; refine gn 2 ?_; refine WpC.seq (sr ?_); refine gn 2 ?_; refine cd H (fun hc H => ?_) (fun hc H => ?_)
 ·refine sg 1 ?_; cases H; exact WpC.ret rt
 ·refine WpC.skip (sr ?_); refine gn 2 ?_; cases H; exact WpC.ret rt
/-! ### W_szCache -/
def W_szCache (k : Nat) (a0 : L_Cache) (a1 : Int) : Option Int := (W_szAuthS k a0.Seen a1).bind fun r1 => cond (decide (r1 < 0)) (some (-1)) (some r1)
theorem ent156 : MG.Enters Tryz.prog 156 := en func156
theorem g156 (k : Nat) (g0 : Bool) (a0 : L_Cache) (a1 r : Int) (H : W_szCache k a0 a1 = some r) : Gives Tryz.prog 156 [V.agg [cI a0.Quiet, Cell.sl g0 (List.map eL_Auth a0.Seen)], V.one (cI a1)] [] [V.one (cI r)] [] := by
 refine Gives.intro func156 rfl rfl rfl rfl ?_; refine fx fun w0 T S0 ob oh hm => ?_
 have hF := fxe w0 T S0 12 ob oh
 unfold W_szCache at H; obtain ⟨K, hK⟩ := leK k; refine sr ?_; refine bo 3 ?_; refine gn 1 ?_; refine sy 3 ?_; refine cB 4 ent234 (g234 k g0 a0.Seen a1) H fun r1 H => ?_; refine gn 1 ?_; refine WpC.seq (sr ?_); refine gn 2 ?_; refine cd H (fun hc H => ?_) (fun hc H => ?_)
 ·refine sg 1 ?_; cases H; exact WpC.ret rt
 ·refine WpC.skip (sr ?_); refine gn 2 ?_; cases H; exact WpC.ret rt
/-! ### W_szCacheS -/
def W_szCacheS.l2 : Nat → (List L_Cache) → Int → Int → Option Int
 | 0, _, _, _ => none
 | k2 + 1, v34, v35, v36 => cond (decide (v36 < (v34.length : Int))) ((at? v34 v36).bind fun b39 => (W_szCache k2 b39 v35).bind fun r40 => cond (decide (r40 < 0)) (some (-1)) ((W_szCacheS.l2 k2) v34 r40 (IntKind.i64.wrap (v36 + 1)))) (some v35)
def W_szCacheS (k : Nat) (a0 : List L_Cache) (a1 : Int) : Option Int := cond (decide ((IntKind.i64.wrap (a1 - (a0.length : Int))) < 0)) (some (-1)) (W_szCacheS.l2 k a0 (IntKind.i64.wrap (a1 - (a0.length : Int))) 0)
theorem ent73 : MG.Enters Tryz.prog 73 := en func73
theorem g73 (k : Nat) (g0 : Bool) (a0 : List L_Cache) (a1 r : Int) (H : W_szCacheS k a0 a1 = some r) : Gives Tryz.prog 73 [V.one (Cell.sl g0 (List.map eL_Cache a0)), V.one (cI a1)] [] [V.one (cI r)] [] := by
 refine Gives.intro func73 rfl rfl rfl rfl ?_; refine fx fun w0 T S0 ob oh hm => ?_
 have hF := fxe w0 T S0 27 ob oh
 unfold W_szCacheS at H; obtain ⟨K, hK⟩ := leK k; refine sg 1 ?_; refine sy 2 ?_; refine L.lenR (xs := a0) (e := eL_Cache) underlying60 hF rfl rfl rfl rfl ?_; refine gn 2 ?_; refine WpC.seq (sr ?_); refine gn 2 ?_; refine cd H (fun hc H => ?_) (fun hc H => ?_)
 ·refine sg 1 ?_; cases H; exact WpC.ret rt
 ·refine WpC.skip (WpC.seq (sr ?_)); refine gn 1 ?_; refine WpC.block ?_; refine WpC.loopL (P := Tryz.prog) (fun n σ => ∃ (v34 : List L_Cache) (v35 v36 : Int), n ≤ K ∧ W_szCacheS.l2 n v34 v35 v36 = some r ∧ σ = mkSt [(0, MG.one (Cell.sl g0 (List.map eL_Cache v34))), (1, oI v35), (5, oI v36)] [] [] 0) k ⟨_, ⟨a0, (IntKind.i64.wrap (a1 - (a0.length : Int))), 0, by omega, H, rfl⟩, lm [] hm⟩ ?_; clear H
  rintro k2 _ ⟨v34, v35, v36, hk2, H, rfl⟩
  cases k2 with
  | zero => cases H
  | succ k2 =>
   rw [W_szCacheS.l2] at H
   refine WpC.seq (sr ?_); refine go 2 ?_; refine L.lenR (xs := v34) (e := eL_Cache) underlying60 hF rfl rfl rfl rfl ?_; refine gn 1 ?_; refine cd H (fun hc H => ?_) (fun hc H => ?_)
   ·refine WpC.skip (WpC.seq (WpC.block (sr ?_))); refine go 2 ?_; obtain ⟨b39, hb39, H⟩ := bindS H; refine ix underlying60 info191 hb39 ?_; refine go 2 ?_; refine cB 0 ent156 (g156 k2 true b39 v35) H fun r40 H => ?_; refine gn 1 ?_; refine sg 2 ?_; refine cd H (fun hc H => ?_) (fun hc H => ?_)
    ·refine sg 1 ?_; cases H; exact WpC.ret rt
    ·refine WpC.skip (WpC.regionL ?_); refine gn 3 ?_; exact ⟨k2, _, by omega, ⟨v34, r40, (IntKind.i64.wrap (v36 + 1)), by omega, H, rfl⟩, lm [] hm⟩
   ·refine WpC.exit (sr ?_); refine gn 2 ?_; cases H; exact WpC.ret rt
/-! ### W_szEventS -/
def W_szEventS (k : Nat) (a0 : List L_Event) (a1 : Int) : Option Int := cond (decide ((IntKind.i64.wrap (a1 - (a0.length : Int))) < 0)) (some (-1)) (some (IntKind.i64.wrap (a1 - (a0.length : Int))))
theorem ent74 : MG.Enters Tryz.prog 74 := en func74
theorem g74 (k : Nat) (g0 : Bool) (a0 : List L_Event) (a1 r : Int) (H : W_szEventS k a0 a1 = some r) : Gives Tryz.prog 74 [V.one (Cell.sl g0 (List.map eL_Event a0)), V.one (cI a1)] [] [V.one (cI r)] [] := by
 refine Gives.intro func74 rfl rfl rfl rfl ?_; refine fx fun w0 T S0 ob oh hm => ?_
 have hF := fxe w0 T S0 12 ob oh
 unfold W_szEventS at H; obtain ⟨K, hK⟩ := leK k; refine sg 1 ?_; refine sy 2 ?_; refine L.lenR (xs := a0) (e := eL_Event) underlying61 hF rfl rfl rfl rfl ?_; refine gn 2 ?_; refine WpC.seq (sr ?_); refine gn 2 ?_; refine cd H (fun hc H => ?_) (fun hc H => ?_)
 ·refine sg 1 ?_; cases H; exact WpC.ret rt
 ·refine WpC.skip (sr ?_); refine gn 2 ?_; cases H; exact WpC.ret rt
/-! ### W_szAccept -/
def W_szAccept (k : Nat) (a0 : L_Accept) (a1 : Int) : Option Int := (W_szIntS k a0.Path a1).bind fun r1 => cond (decide (r1 < 0)) (some (-1)) ((W_szIntS k a0.Via r1).bind fun r2 => cond (decide (r2 < 0)) (some (-1)) (cond (decide ((IntKind.i64.wrap (r2 - (a0.Ticket.length : Int))) < 0)) (some (-1)) (some (IntKind.i64.wrap (r2 - (a0.Ticket.length : Int))))))
theorem ent157 : MG.Enters Tryz.prog 157 := en func157
theorem g157 (k : Nat) (g0 g1 : Bool) (a0 : L_Accept) (a1 r : Int) (H : W_szAccept k a0 a1 = some r) : Gives Tryz.prog 157 [V.agg (bL_Accept g0 g1 a0), V.one (cI a1)] [] [V.one (cI r)] [] := by
 refine Gives.intro func157 rfl rfl rfl rfl ?_; refine fx fun w0 T S0 ob oh hm => ?_
 have hF := fxe w0 T S0 25 ob oh
 unfold W_szAccept at H; obtain ⟨K, hK⟩ := leK k; refine sr ?_; refine bo 16 ?_; refine gn 1 ?_; refine sy 3 ?_; refine cB 17 ent76 (g76 k g0 a0.Path a1) H fun r1 H => ?_; refine gn 1 ?_; refine WpC.seq (sr ?_); refine gn 2 ?_; refine cd H (fun hc H => ?_) (fun hc H => ?_)
 ·refine sg 1 ?_; cases H; exact WpC.ret rt
 ·refine WpC.skip (sr ?_); refine go 3 ?_; refine cB 18 ent76 (g76 k g1 a0.Via r1) H fun r2 H => ?_; refine gn 1 ?_; refine WpC.seq (sr ?_); refine gn 2 ?_; refine cd H (fun hc H => ?_) (fun hc H => ?_)
  ·refine sg 1 ?_; cases H; exact WpC.ret rt
  ·refine WpC.skip (sr ?_); refine go 3 ?_; refine L.lenS underlying9 hF rfl rfl rfl ?_; refine gn 2 ?_; refine WpC.seq (sr ?_); refine gn 2 ?_; refine cd H (fun hc H => ?_) (fun hc H => ?_)
   ·refine sg 1 ?_; cases H; exact WpC.ret rt
   ·refine WpC.skip (sr ?_); refine gn 2 ?_; cases H; exact WpC.ret rt
/-! ### W_szAcceptS -/
def W_szAcceptS.l2 : Nat → (List L_Accept) → Int → Int → Option Int
 | 0, _, _, _ => none
 | k2 + 1, v34, v35, v36 => cond (decide (v36 < (v34.length : Int))) ((at? v34 v36).bind fun b39 => (W_szAccept k2 b39 v35).bind fun r40 => cond (decide (r40 < 0)) (some (-1)) ((W_szAcceptS.l2 k2) v34 r40 (IntKind.i64.wrap (v36 + 1)))) (some v35)
def W_szAcceptS (k : Nat) (a0 : List L_Accept) (a1 : Int) : Option Int := cond (decide ((IntKind.i64.wrap (a1 - (a0.length : Int))) < 0)) (some (-1)) (W_szAcceptS.l2 k a0 (IntKind.i64.wrap (a1 - (a0.length : Int))) 0)
theorem ent75 : MG.Enters Tryz.prog 75 := en func75
theorem g75 (k : Nat) (g0 : Bool) (a0 : List L_Accept) (a1 r : Int) (H : W_szAcceptS k a0 a1 = some r) : Gives Tryz.prog 75 [V.one (Cell.sl g0 (List.map eL_Accept a0)), V.one (cI a1)] [] [V.one (cI r)] [] := by
 refine Gives.intro func75 rfl rfl rfl rfl ?_; refine fx fun w0 T S0 ob oh hm => ?_
 have hF := fxe w0 T S0 27 ob oh
 unfold W_szAcceptS at H; obtain ⟨K, hK⟩ := leK k; refine sg 1 ?_; refine sy 2 ?_; refine L.lenR (xs := a0) (e := eL_Accept) underlying62 hF rfl rfl rfl rfl ?_; refine gn 2 ?_; refine WpC.seq (sr ?_); refine gn 2 ?_; refine cd H (fun hc H => ?_) (fun hc H => ?_)
 ·refine sg 1 ?_; cases H; exact WpC.ret rt
 ·refine WpC.skip (WpC.seq (sr ?_)); refine gn 1 ?_; refine WpC.block ?_; refine WpC.loopL (P := Tryz.prog) (fun n σ => ∃ (v34 : List L_Accept) (v35 v36 : Int), n ≤ K ∧ W_szAcceptS.l2 n v34 v35 v36 = some r ∧ σ = mkSt [(0, MG.one (Cell.sl g0 (List.map eL_Accept v34))), (1, oI v35), (5, oI v36)] [] [] 0) k ⟨_, ⟨a0, (IntKind.i64.wrap (a1 - (a0.length : Int))), 0, by omega, H, rfl⟩, lm [] hm⟩ ?_; clear H
  rintro k2 _ ⟨v34, v35, v36, hk2, H, rfl⟩
  cases k2 with
  | zero => cases H
  | succ k2 =>
   rw [W_szAcceptS.l2] at H
   refine WpC.seq (sr ?_); refine go 2 ?_; refine L.lenR (xs := v34) (e := eL_Accept) underlying62 hF rfl rfl rfl rfl ?_; refine gn 1 ?_; refine cd H (fun hc H => ?_) (fun hc H => ?_)
   ·refine WpC.skip (WpC.seq (WpC.block (sr ?_))); refine go 2 ?_; obtain ⟨b39, hb39, H⟩ := bindS H; refine ix underlying62 info195 hb39 ?_; refine go 2 ?_; refine cB 0 ent157 (g157 k2 true true b39 v35) H fun r40 H => ?_; refine gn 1 ?_; refine sg 2 ?_; refine cd H (fun hc H => ?_) (fun hc H => ?_)
    ·refine sg 1 ?_; cases H; exact WpC.ret rt
    ·refine WpC.skip (WpC.regionL ?_); refine gn 3 ?_; exact ⟨k2, _, by omega, ⟨v34, r40, (IntKind.i64.wrap (v36 + 1)), by omega, H, rfl⟩, lm [] hm⟩
   ·refine WpC.exit (sr ?_); refine gn 2 ?_; cases H; exact WpC.ret rt
/-! ### W_szWorld -/
def W_szWorld (k : Nat) (a0 : L_World) (a1 : Int) : Option Int := (W_szConfig k a0.Config a1).bind fun r1 => cond (decide (r1 < 0)) (some (-1)) ((W_szStringS k a0.Net r1).bind fun r2 => cond (decide (r2 < 0)) (some (-1)) ((W_szKnown k a0.Known r2).bind fun r3 => cond (decide (r3 < 0)) (some (-1)) ((W_szWaitS k a0.Waits r3).bind fun r4 => cond (decide (r4 < 0)) (some (-1)) ((W_szCredS k a0.Creds r4).bind fun r5 => cond (decide (r5 < 0)) (some (-1)) ((W_szCacheS k a0.Caches r5).bind fun r6 => cond (decide (r6 < 0)) (some (-1)) ((W_szEventS k a0.Log r6).bind fun r7 => cond (decide (r7 < 0)) (some (-1)) ((W_szAcceptS k a0.Accepts r7).bind fun r8 => cond (decide (r8 < 0)) (some (-1)) ((W_szIntS k a0.Leaked r8).bind fun r9 => cond (decide (r9 < 0)) (some (-1)) (some r9)))))))))
theorem ent22 : MG.Enters Tryz.prog 22 := en func22
theorem g22 (k : Nat) (g0 g1 g2 g3 g4 g5 g6 g7 g8 g9 g10 g11 g12 : Bool) (a0 : L_World) (a1 r : Int) (H : W_szWorld k a0 a1 = some r) : Gives Tryz.prog 22 [V.agg (bL_World g0 g1 g2 g3 g4 g5 g6 g7 g8 g9 g10 g11 g12 a0), V.one (cI a1)] [] [V.one (cI r)] [] := by
 refine Gives.intro func22 rfl rfl rfl rfl ?_; refine fx fun w0 T S0 ob oh hm => ?_
 have hF := fxe w0 T S0 60 ob oh
 unfold W_szWorld at H; obtain ⟨K, hK⟩ := leK k; refine sr ?_; refine bo 17 ?_; refine gn 1 ?_; refine sy 3 ?_; refine cB 18 ent68 (g68 k g0 g1 g2 g3 a0.Config a1) H fun r1 H => ?_; refine gn 1 ?_; refine WpC.seq (sr ?_); refine gn 2 ?_; refine cd H (fun hc H => ?_) (fun hc H => ?_)
 ·refine sg 1 ?_; cases H; exact WpC.ret rt
 ·refine WpC.skip (sr ?_); refine go 3 ?_; refine cB 19 ent69 (g69 k g4 a0.Net r1) H fun r2 H => ?_; refine gn 1 ?_; refine WpC.seq (sr ?_); refine gn 2 ?_; refine cd H (fun hc H => ?_) (fun hc H => ?_)
  ·refine sg 1 ?_; cases H; exact WpC.ret rt
  ·refine WpC.skip (sr ?_); refine go 3 ?_; refine cB 20 ent70 (g70 k g5 g6 a0.Known r2) H fun r3 H => ?_; refine gn 1 ?_; refine WpC.seq (sr ?_); refine gn 2 ?_; refine cd H (fun hc H => ?_) (fun hc H => ?_)
   ·refine sg 1 ?_; cases H; exact WpC.ret rt
   ·refine WpC.skip (sr ?_); refine go 3 ?_; refine cB 21 ent71 (g71 k g7 a0.Waits r3) H fun r4 H => ?_; refine gn 1 ?_; refine WpC.seq (sr ?_); refine gn 2 ?_; refine cd H (fun hc H => ?_) (fun hc H => ?_)
    ·refine sg 1 ?_; cases H; exact WpC.ret rt
    ·refine WpC.skip (sr ?_); refine go 3 ?_; refine cB 22 ent72 (g72 k g8 a0.Creds r4) H fun r5 H => ?_; refine gn 1 ?_; refine WpC.seq (sr ?_); refine gn 2 ?_; refine cd H (fun hc H => ?_) (fun hc H => ?_)
     ·refine sg 1 ?_; cases H; exact WpC.ret rt
     ·refine WpC.skip (sr ?_); refine go 3 ?_; refine cB 23 ent73 (g73 k g9 a0.Caches r5) H fun r6 H => ?_; refine gn 1 ?_; refine WpC.seq (sr ?_); refine gn 2 ?_; refine cd H (fun hc H => ?_) (fun hc H => ?_)
      ·refine sg 1 ?_; cases H; exact WpC.ret rt
      ·refine WpC.skip (sr ?_); refine go 3 ?_; refine cB 24 ent74 (g74 k g10 a0.Log r6) H fun r7 H => ?_; refine gn 1 ?_; refine WpC.seq (sr ?_); refine gn 2 ?_; refine cd H (fun hc H => ?_) (fun hc H => ?_)
       ·refine sg 1 ?_; cases H; exact WpC.ret rt
       ·refine WpC.skip (sr ?_); refine go 3 ?_; refine cB 25 ent75 (g75 k g11 a0.Accepts r7) H fun r8 H => ?_; refine gn 1 ?_; refine WpC.seq (sr ?_); refine gn 2 ?_; refine cd H (fun hc H => ?_) (fun hc H => ?_)
        ·refine sg 1 ?_; cases H; exact WpC.ret rt
        ·refine WpC.skip (sr ?_); refine go 3 ?_; refine cB 26 ent76 (g76 k g12 a0.Leaked r8) H fun r9 H => ?_; refine gn 1 ?_; refine WpC.seq (sr ?_); refine gn 2 ?_; refine cd H (fun hc H => ?_) (fun hc H => ?_)
         ·refine sg 1 ?_; cases H; exact WpC.ret rt
         ·refine WpC.skip (sr ?_); refine gn 2 ?_; cases H; exact WpC.ret rt
/-! ### W_toIntS -/
def W_toIntS.l2 : Nat → (List Int) → (List Int) → Int → Option (List Int)
 | 0, _, _, _ => none
 | k2 + 1, v35, v36, v37 => cond (decide (v37 < (v35.length : Int))) ((at? v35 v37).bind fun b40 => (at? v36 v37).bind fun b41 => (W_toIntS.l2 k2) v35 (v36.set v37.toNat b40) (IntKind.i64.wrap (v37 + 1))) (some v36)
def W_toIntS (k : Nat) (a0 : List Int) : Option (List Int) := cond (decide (0 ≤ (a0.length : Int) ∧ (a0.length : Int) ≤ (a0.length : Int) ∧ 8 * (a0.length : Int) ≤ 281474976710656 ∧ (a0.length : Int) ≤ 9223372036854775807)) (W_toIntS.l2 k a0 (List.replicate (a0.length : Int).toNat 0) 0) none
theorem ent87 : MG.Enters Tryz.prog 87 := en func87
theorem g87 (k : Nat) (g0 : Bool) (a0 r : List Int) (H : W_toIntS k a0 = some r) : Gives Tryz.prog 87 [V.one (Cell.sl g0 (List.map eI a0))] [] [V.one (Cell.ow 1 (List.map eI r))] [] := by
 refine Gives.intro func87 rfl rfl rfl rfl ?_; refine fx fun w0 T S0 ob oh hm => ?_
 have hF := fxe w0 T S0 22 ob oh
 unfold W_toIntS at H; obtain ⟨K, hK⟩ := leK k; refine sg 1 ?_; refine sy 1 ?_; refine L.lenR (xs := a0) (e := eI) underlying24 hF rfl rfl rfl rfl ?_; obtain ⟨h1, H⟩ := condG H; refine L.makeSlice (e := eI) 1 0 underlying24 info3 rfl rfl rfl hF rfl rfl rfl rfl (of_decide_eq_true h1) rfl rfl ?_; refine gn 1 ?_; refine WpC.seq (sr ?_); refine gn 1 ?_; refine WpC.block ?_; refine WpC.loopL (P := Tryz.prog) (fun n σ => ∃ (v35 v36 : List Int) (v37 : Int), n ≤ K ∧ W_toIntS.l2 n v35 v36 v37 = some r ∧ σ = mkSt [(0, MG.one (Cell.sl g0 (List.map eI v35))), (3, MG.one (Cell.own 0)), (4, oI v37)] [(0, ⟨1, List.map eI v36⟩)] [] 1) k ⟨_, ⟨a0, (List.replicate (a0.length : Int).toNat 0), 0, by omega, H, rfl⟩, lm [(0, 1)] hm⟩ ?_; clear H
 rintro k2 _ ⟨v35, v36, v37, hk2, H, rfl⟩
 cases k2 with
 | zero => cases H
 | succ k2 =>
  rw [W_toIntS.l2] at H
  refine WpC.seq (sr ?_); refine go 2 ?_; refine L.lenR (xs := v35) (e := eI) underlying24 hF rfl rfl rfl rfl ?_; refine gn 1 ?_; refine cd H (fun hc H => ?_) (fun hc H => ?_)
  ·refine WpC.skip (WpC.seq (WpC.block (WpC.regionL ?_))); refine go 4 ?_; obtain ⟨b40, hb40, H⟩ := bindS H; refine ix underlying24 info3 hb40 ?_; refine le shape3 ?_; obtain ⟨b41, hb41, H⟩ := bindS H; refine ix underlying24 info3 hb41 ?_; refine L.storeEp (xs := v36) (e := eI) (a' := b40) shape3 hF rfl rfl rfl rfl rfl rfl rfl (at?_get hb41).2 rfl rfl ?_; refine L.nil ?_; refine WpC.regionL ?_; refine gn 3 ?_; exact ⟨k2, _, by omega, ⟨v35, (v36.set v37.toNat b40), (IntKind.i64.wrap (v37 + 1)), by omega, H, rfl⟩, lm [(0, 0)] hm⟩
  ·refine WpC.exit (sr ?_); refine gn 2 ?_; cases H; exact WpC.ret rt
/-! ### W_toPair -/
def W_toPair (k : Nat) (a0 : L_Pair) : Option T_Pair := some (⟨a0.A, a0.B⟩ : T_Pair)
theorem ent239 : MG.Enters Tryz.prog 239 := en func239
theorem g239 (k : Nat) (a0 : L_Pair) (r : T_Pair) (H : W_toPair k a0 = some r) : Gives Tryz.prog 239 [V.agg [cI a0.A, cI a0.B]] [] [V.agg [cI r.A, cI r.B]] [] := by
 refine Gives.intro func239 rfl rfl rfl rfl ?_; refine fx fun w0 T S0 ob oh hm => ?_
 have hF := fxe w0 T S0 11 ob oh
 unfold W_toPair at H; obtain ⟨K, hK⟩ := leK k; refine sr ?_; refine bo 2 ?_; refine alc 3 info161 (L.nil ?_); refine sr ?_; refine alc 4 info161 (L.nil ?_); refine sg 4 ?_; refine sg 4 ?_; refine sg 2 ?_; cases H; exact WpC.ret rt
/-! ### W_toPairS -/
def W_toPairS.l2 : Nat → (List L_Pair) → (List T_Pair) → Int → Option (List T_Pair)
 | 0, _, _, _ => none
 | k2 + 1, v45, v46, v47 => cond (decide (v47 < (v45.length : Int))) ((at? v45 v47).bind fun b51 => (W_toPair k2 b51).bind fun r52 => (at? v46 v47).bind fun b53 => (W_toPairS.l2 k2) v45 (v46.set v47.toNat r52) (IntKind.i64.wrap (v47 + 1))) (some v46)
def W_toPairS (k : Nat) (a0 : List L_Pair) : Option (List T_Pair) := cond (decide (0 ≤ (a0.length : Int) ∧ (a0.length : Int) ≤ (a0.length : Int) ∧ 16 * (a0.length : Int) ≤ 281474976710656 ∧ (a0.length : Int) ≤ 9223372036854775807)) (W_toPairS.l2 k a0 (List.replicate (a0.length : Int).toNat (⟨0, 0⟩ : T_Pair)) 0) none
theorem ent164 : MG.Enters Tryz.prog 164 := en func164
theorem g164 (k : Nat) (g0 : Bool) (a0 : List L_Pair) (r : List T_Pair) (H : W_toPairS k a0 = some r) : Gives Tryz.prog 164 [V.one (Cell.sl g0 (List.map eL_Pair a0))] [] [V.one (Cell.ow 2 (List.map eT_Pair r))] [] := by
 refine Gives.intro func164 rfl rfl rfl rfl ?_; refine fx fun w0 T S0 ob oh hm => ?_
 have hF := fxe w0 T S0 23 ob oh
 unfold W_toPairS at H; obtain ⟨K, hK⟩ := leK k; refine sg 1 ?_; refine sy 1 ?_; refine L.lenR (xs := a0) (e := eL_Pair) underlying54 hF rfl rfl rfl rfl ?_; obtain ⟨h1, H⟩ := condG H; refine L.makeSlice (e := eT_Pair) 1 (⟨0, 0⟩ : T_Pair) underlying25 info161 rfl rfl rfl hF rfl rfl rfl rfl (of_decide_eq_true h1) rfl rfl ?_; refine gn 1 ?_; refine WpC.seq (sr ?_); refine gn 1 ?_; refine WpC.block ?_; refine WpC.loopL (P := Tryz.prog) (fun n σ => ∃ (v45 : List L_Pair) (v46 : List T_Pair) (v47 : Int), n ≤ K ∧ W_toPairS.l2 n v45 v46 v47 = some r ∧ σ = mkSt [(0, MG.one (Cell.sl g0 (List.map eL_Pair v45))), (3, MG.one (Cell.own 0)), (4, oI v47)] [(0, ⟨2, List.map eT_Pair v46⟩)] [] 1) k ⟨_, ⟨a0, (List.replicate (a0.length : Int).toNat (⟨0, 0⟩ : T_Pair)), 0, by omega, H, rfl⟩, lm [(0, 1)] hm⟩ ?_; clear H
 rintro k2 _ ⟨v45, v46, v47, hk2, H, rfl⟩
 cases k2 with
 | zero => cases H
 | succ k2 =>
  rw [W_toPairS.l2] at H
  refine WpC.seq (sr ?_); refine go 2 ?_; refine L.lenR (xs := v45) (e := eL_Pair) underlying54 hF rfl rfl rfl rfl ?_; refine gn 1 ?_; refine cd H (fun hc H => ?_) (fun hc H => ?_)
  ·refine WpC.skip (WpC.seq (WpC.block (WpC.regionL ?_))); refine go 4 ?_; obtain ⟨b51, hb51, H⟩ := bindS H; refine ix underlying54 info263 hb51 ?_; refine le shape263 ?_; refine cB 1 ent239 (g239 k2  b51) H fun r52 H => ?_; obtain ⟨b53, hb53, H⟩ := bindS H; refine ix underlying25 info161 hb53 ?_; refine L.storeEp (xs := v46) (e := eT_Pair) (a' := r52) shape161 hF rfl rfl rfl rfl rfl rfl rfl (at?_get hb53).2 rfl rfl ?_; refine L.nil ?_; refine WpC.regionL ?_; refine gn 3 ?_; exact ⟨k2, _, by omega, ⟨v45, (v46.set v47.toNat r52), (IntKind.i64.wrap (v47 + 1)), by omega, H, rfl⟩, lm [(0, 0)] hm⟩
  ·refine WpC.exit (sr ?_); refine gn 2 ?_; cases H; exact WpC.ret rt
/-! ### W_toConfig -/
def W_toConfig (k : Nat) (a0 : L_Config) : Option T_Config := (W_toIntS k a0.UserRealm).bind fun r1 => (W_toIntS k a0.ServiceRealm).bind fun r2 => (W_toPairS k a0.Links).bind fun r3 => (W_toPairS k a0.Proxy).bind fun r4 => some (⟨r1, r2, r3, r4, a0.Skew⟩ : T_Config)
theorem ent79 : MG.Enters Tryz.prog 79 := en func79
theorem g79 (k : Nat) (g0 g1 g2 g3 : Bool) (a0 : L_Config) (r : T_Config) (H : W_toConfig k a0 = some r) : Gives Tryz.prog 79 [V.agg (bL_Config g0 g1 g2 g3 a0)] [] [V.agg [Cell.ow 1 (List.map eI r.UserRealm), Cell.ow 1 (List.map eI r.ServiceRealm), Cell.ow 2 (List.map eT_Pair r.Links), Cell.ow 2 (List.map eT_Pair r.Proxy), cI r.Skew]] [] := by
 refine Gives.intro func79 rfl rfl rfl rfl ?_; refine fx fun w0 T S0 ob oh hm => ?_
 have hF := fxe w0 T S0 24 ob oh
 unfold W_toConfig at H; obtain ⟨K, hK⟩ := leK k; refine sr ?_; refine bo 5 ?_; refine alc 6 info27 (L.nil ?_); refine sr ?_; refine alc 7 info27 (L.nil ?_); refine sy 2 ?_; refine cB 8 ent87 (g87 k g0 a0.UserRealm) H fun r1 H => ?_; refine gn 2 ?_; refine sy 2 ?_; refine cB 9 ent87 (g87 k g1 a0.ServiceRealm) H fun r2 H => ?_; refine gn 2 ?_; refine sy 2 ?_; refine cB 10 ent164 (g164 k g2 a0.Links) H fun r3 H => ?_; refine gn 2 ?_; refine sy 2 ?_; refine cB 11 ent164 (g164 k g3 a0.Proxy) H fun r4 H => ?_; refine gn 2 ?_; refine sg 4 ?_; refine sg 2 ?_
 cases H; exact WpC.ret rt
/-! ### W_toStringS -/
def W_toStringS.l2 : Nat → (List (List UInt8)) → (List (List UInt8)) → Int → Option (List (List UInt8))
 | 0, _, _, _ => none
 | k2 + 1, v35, v36, v37 => cond (decide (v37 < (v35.length : Int))) ((at? v35 v37).bind fun b40 => (at? v36 v37).bind fun b41 => (W_toStringS.l2 k2) v35 (v36.set v37.toNat b40) (IntKind.i64.wrap (v37 + 1))) (some v36)
def W_toStringS (k : Nat) (a0 : List (List UInt8)) : Option (List (List UInt8)) := cond (decide (0 ≤ (a0.length : Int) ∧ (a0.length : Int) ≤ (a0.length : Int) ∧ 16 * (a0.length : Int) ≤ 281474976710656 ∧ (a0.length : Int) ≤ 9223372036854775807)) (W_toStringS.l2 k a0 (List.replicate (a0.length : Int).toNat ([] : List UInt8)) 0) none
theorem ent80 : MG.Enters Tryz.prog 80 := en func80
theorem g80 (k : Nat) (g0 : Bool) (a0 : List (List UInt8)) (r : List (List UInt8)) (H : W_toStringS k a0 = some r) : Gives Tryz.prog 80 [V.one (Cell.sl g0 (List.map eS a0))] [] [V.one (Cell.ow 1 (List.map eS r))] [] := by
 refine Gives.intro func80 rfl rfl rfl rfl ?_; refine fx fun w0 T S0 ob oh hm => ?_
 have hF := fxe w0 T S0 22 ob oh
 unfold W_toStringS at H; obtain ⟨K, hK⟩ := leK k; refine sg 1 ?_; refine sy 1 ?_; refine L.lenR (xs := a0) (e := eS) underlying34 hF rfl rfl rfl rfl ?_; obtain ⟨h1, H⟩ := condG H; refine L.makeSlice (e := eS) 1 ([] : List UInt8) underlying34 info9 rfl rfl rfl hF rfl rfl rfl rfl (of_decide_eq_true h1) rfl rfl ?_; refine gn 1 ?_; refine WpC.seq (sr ?_); refine gn 1 ?_; refine WpC.block ?_; refine WpC.loopL (P := Tryz.prog) (fun n σ => ∃ (v35 v36 : List (List UInt8)) (v37 : Int), n ≤ K ∧ W_toStringS.l2 n v35 v36 v37 = some r ∧ σ = mkSt [(0, MG.one (Cell.sl g0 (List.map eS v35))), (3, MG.one (Cell.own 0)), (4, oI v37)] [(0, ⟨1, List.map eS v36⟩)] [] 1) k ⟨_, ⟨a0, (List.replicate (a0.length : Int).toNat ([] : List UInt8)), 0, by omega, H, rfl⟩, lm [(0, 1)] hm⟩ ?_; clear H
 rintro k2 _ ⟨v35, v36, v37, hk2, H, rfl⟩
 cases k2 with
 | zero => cases H
 | succ k2 =>
  rw [W_toStringS.l2] at H
  refine WpC.seq (sr ?_); refine go 2 ?_; refine L.lenR (xs := v35) (e := eS) underlying34 hF rfl rfl rfl rfl ?_; refine gn 1 ?_; refine cd H (fun hc H => ?_) (fun hc H => ?_)
  ·refine WpC.skip (WpC.seq (WpC.block (WpC.regionL ?_))); refine go 4 ?_; obtain ⟨b40, hb40, H⟩ := bindS H; refine ix underlying34 info9 hb40 ?_; refine le shape9 ?_; obtain ⟨b41, hb41, H⟩ := bindS H; refine ix underlying34 info9 hb41 ?_; refine L.storeEp (xs := v36) (e := eS) (a' := b40) shape9 hF rfl rfl rfl rfl rfl rfl rfl (at?_get hb41).2 rfl rfl ?_; refine L.nil ?_; refine WpC.regionL ?_; refine gn 3 ?_; exact ⟨k2, _, by omega, ⟨v35, (v36.set v37.toNat b40), (IntKind.i64.wrap (v37 + 1)), by omega, H, rfl⟩, lm [(0, 0)] hm⟩
  ·refine WpC.exit (sr ?_); refine gn 2 ?_; cases H; exact WpC.ret rt
/-! ### W_toKnown -/
def W_toKnown (k : Nat) (a0 : L_Known) : Option T_Known := (W_toStringS k a0.Terms).bind fun r1 => (W_toIntS k a0.Keys).bind fun r2 => some (⟨r1, r2⟩ : T_Known)
theorem ent81 : MG.Enters Tryz.prog 81 := en func81
theorem g81 (k : Nat) (g0 g1 : Bool) (a0 : L_Known) (r : T_Known) (H : W_toKnown k a0 = some r) : Gives Tryz.prog 81 [V.agg [Cell.sl g0 (List.map eS a0.Terms), Cell.sl g1 (List.map eI a0.Keys)]] [] [V.agg [Cell.ow 1 (List.map eS r.Terms), Cell.ow 1 (List.map eI r.Keys)]] [] := by
 refine Gives.intro func81 rfl rfl rfl rfl ?_; refine fx fun w0 T S0 ob oh hm => ?_
 have hF := fxe w0 T S0 13 ob oh
 unfold W_toKnown at H; obtain ⟨K, hK⟩ := leK k; refine sr ?_; refine bo 2 ?_; refine alc 3 info36 (L.nil ?_); refine sr ?_; refine alc 4 info36 (L.nil ?_); refine sy 2 ?_; refine cB 5 ent80 (g80 k g0 a0.Terms) H fun r1 H => ?_; refine gn 2 ?_; refine sy 2 ?_; refine cB 6 ent87 (g87 k g1 a0.Keys) H fun r2 H => ?_; refine gn 2 ?_; refine sg 2 ?_; cases H; exact WpC.ret rt
/-! ### W_toWait -/
def W_toWait (k : Nat) (a0 : L_Wait) : Option T_Wait := some (⟨a0.On, a0.Nonce, a0.Key, a0.Client⟩ : T_Wait)
theorem ent165 : MG.Enters Tryz.prog 165 := en func165
theorem g165 (k : Nat) (a0 : L_Wait) (r : T_Wait) (H : W_toWait k a0 = some r) : Gives Tryz.prog 165 [V.agg (bL_Wait a0)] [] [V.agg (bT_Wait r)] [] := by
 refine Gives.intro func165 rfl rfl rfl rfl ?_; refine fx fun w0 T S0 ob oh hm => ?_
 have hF := fxe w0 T S0 17 ob oh
 unfold W_toWait at H; obtain ⟨K, hK⟩ := leK k; refine sr ?_; refine bo 4 ?_; refine alc 5 info198 (L.nil ?_); refine sr ?_; refine alc 6 info198 (L.nil ?_); refine sg 4 ?_; refine sg 4 ?_; refine sg 4 ?_; refine sg 4 ?_; refine sg 2 ?_; cases H; exact WpC.ret rt
/-! ### W_toWaitS -/
def W_toWaitS.l2 : Nat → (List L_Wait) → (List T_Wait) → Int → Option (List T_Wait)
 | 0, _, _, _ => none
 | k2 + 1, v45, v46, v47 => cond (decide (v47 < (v45.length : Int))) ((at? v45 v47).bind fun b51 => (W_toWait k2 b51).bind fun r52 => (at? v46 v47).bind fun b53 => (W_toWaitS.l2 k2) v45 (v46.set v47.toNat r52) (IntKind.i64.wrap (v47 + 1))) (some v46)
def W_toWaitS (k : Nat) (a0 : List L_Wait) : Option (List T_Wait) := cond (decide (0 ≤ (a0.length : Int) ∧ (a0.length : Int) ≤ (a0.length : Int) ∧ 32 * (a0.length : Int) ≤ 281474976710656 ∧ (a0.length : Int) ≤ 9223372036854775807)) (W_toWaitS.l2 k a0 (List.replicate (a0.length : Int).toNat (⟨false, 0, 0, 0⟩ : T_Wait)) 0) none
theorem ent82 : MG.Enters Tryz.prog 82 := en func82
theorem g82 (k : Nat) (g0 : Bool) (a0 : List L_Wait) (r : List T_Wait) (H : W_toWaitS k a0 = some r) : Gives Tryz.prog 82 [V.one (Cell.sl g0 (List.map eL_Wait a0))] [] [V.one (Cell.ow 4 (List.map eT_Wait r))] [] := by
 refine Gives.intro func82 rfl rfl rfl rfl ?_; refine fx fun w0 T S0 ob oh hm => ?_
 have hF := fxe w0 T S0 23 ob oh
 unfold W_toWaitS at H; obtain ⟨K, hK⟩ := leK k; refine sg 1 ?_; refine sy 1 ?_; refine L.lenR (xs := a0) (e := eL_Wait) underlying58 hF rfl rfl rfl rfl ?_; obtain ⟨h1, H⟩ := condG H; refine L.makeSlice (e := eT_Wait) 1 (⟨false, 0, 0, 0⟩ : T_Wait) underlying37 info198 rfl rfl rfl hF rfl rfl rfl rfl (of_decide_eq_true h1) rfl rfl ?_; refine gn 1 ?_; refine WpC.seq (sr ?_); refine gn 1 ?_; refine WpC.block ?_; refine WpC.loopL (P := Tryz.prog) (fun n σ => ∃ (v45 : List L_Wait) (v46 : List T_Wait) (v47 : Int), n ≤ K ∧ W_toWaitS.l2 n v45 v46 v47 = some r ∧ σ = mkSt [(0, MG.one (Cell.sl g0 (List.map eL_Wait v45))), (3, MG.one (Cell.own 0)), (4, oI v47)] [(0, ⟨4, List.map eT_Wait v46⟩)] [] 1) k ⟨_, ⟨a0, (List.replicate (a0.length : Int).toNat (⟨false, 0, 0, 0⟩ : T_Wait)), 0, by omega, H, rfl⟩, lm [(0, 1)] hm⟩ ?_; clear H
 rintro k2 _ ⟨v45, v46, v47, hk2, H, rfl⟩
 cases k2 with
 | zero => cases H
 | succ k2 =>
  rw [W_toWaitS.l2] at H
  refine WpC.seq (sr ?_); refine go 2 ?_; refine L.lenR (xs := v45) (e := eL_Wait) underlying58 hF rfl rfl rfl rfl ?_; refine gn 1 ?_; refine cd H (fun hc H => ?_) (fun hc H => ?_)
  ·refine WpC.skip (WpC.seq (WpC.block (WpC.regionL ?_))); refine go 4 ?_; obtain ⟨b51, hb51, H⟩ := bindS H; refine ix underlying58 info206 hb51 ?_; refine le shape206 ?_; refine cB 1 ent165 (g165 k2  b51) H fun r52 H => ?_; obtain ⟨b53, hb53, H⟩ := bindS H; refine ix underlying37 info198 hb53 ?_; refine L.storeEp (xs := v46) (e := eT_Wait) (a' := r52) shape198 hF rfl rfl rfl rfl rfl rfl rfl (at?_get hb53).2 rfl rfl ?_; refine L.nil ?_; refine WpC.regionL ?_; refine gn 3 ?_; exact ⟨k2, _, by omega, ⟨v45, (v46.set v47.toNat r52), (IntKind.i64.wrap (v47 + 1)), by omega, H, rfl⟩, lm [(0, 0)] hm⟩
  ·refine WpC.exit (sr ?_); refine gn 2 ?_; cases H; exact WpC.ret rt
/-! ### W_toRest -/
def W_toRest (k : Nat) (a0 : L_Rest) : Option T_Rest := some (⟨a0.Servers, a0.Ops, a0.End⟩ : T_Rest)
theorem ent240 : MG.Enters Tryz.prog 240 := en func240
theorem g240 (k : Nat) (a0 : L_Rest) (r : T_Rest) (H : W_toRest k a0 = some r) : Gives Tryz.prog 240 [V.agg (bL_Rest a0)] [] [V.agg (bT_Rest r)] [] := by
 refine Gives.intro func240 rfl rfl rfl rfl ?_; refine fx fun w0 T S0 ob oh hm => ?_
 have hF := fxe w0 T S0 14 ob oh
 unfold W_toRest at H; obtain ⟨K, hK⟩ := leK k; refine sr ?_; refine bo 3 ?_; refine alc 4 info29 (L.nil ?_); refine sr ?_; refine alc 5 info29 (L.nil ?_); refine sg 4 ?_; refine sg 4 ?_; refine sg 4 ?_; refine sg 2 ?_; cases H; exact WpC.ret rt
/-! ### W_toCred -/
def W_toCred (k : Nat) (a0 : L_Cred) : Option T_Cred := (W_toRest k a0.Rest).bind fun r1 => some (⟨a0.Owner, a0.Client, a0.Service, a0.Key, r1, a0.Ticket⟩ : T_Cred)
theorem ent166 : MG.Enters Tryz.prog 166 := en func166
theorem g166 (k : Nat) (a0 : L_Cred) (r : T_Cred) (H : W_toCred k a0 = some r) : Gives Tryz.prog 166 [V.agg (bL_Cred a0)] [] [V.agg (bT_Cred r)] [] := by
 refine Gives.intro func166 rfl rfl rfl rfl ?_; refine fx fun w0 T S0 ob oh hm => ?_
 have hF := fxe w0 T S0 24 ob oh
 unfold W_toCred at H; obtain ⟨K, hK⟩ := leK k; refine sr ?_; refine bo 8 ?_; refine alc 9 info201 (L.nil ?_); refine sr ?_; refine alc 10 info201 (L.nil ?_); refine sg 4 ?_; refine sg 4 ?_; refine sg 4 ?_; refine sg 4 ?_; refine sy 2 ?_; refine cB 11 ent240 (g240 k  a0.Rest) H fun r1 H => ?_; refine gn 2 ?_; refine sg 4 ?_; refine sg 2 ?_; cases H; exact WpC.ret rt
/-! ### W_toCredS -/
def W_toCredS.l2 : Nat → (List L_Cred) → (List T_Cred) → Int → Option (List T_Cred)
 | 0, _, _, _ => none
 | k2 + 1, v45, v46, v47 => cond (decide (v47 < (v45.length : Int))) ((at? v45 v47).bind fun b51 => (W_toCred k2 b51).bind fun r52 => (at? v46 v47).bind fun b53 => (W_toCredS.l2 k2) v45 (v46.set v47.toNat r52) (IntKind.i64.wrap (v47 + 1))) (some v46)
def W_toCredS (k : Nat) (a0 : List L_Cred) : Option (List T_Cred) := cond (decide (0 ≤ (a0.length : Int) ∧ (a0.length : Int) ≤ (a0.length : Int) ∧ 72 * (a0.length : Int) ≤ 281474976710656 ∧ (a0.length : Int) ≤ 9223372036854775807)) (W_toCredS.l2 k a0 (List.replicate (a0.length : Int).toNat (⟨0, 0, 0, 0, (⟨0, 0, 0⟩ : T_Rest), ([] : List UInt8)⟩ : T_Cred)) 0) none
theorem ent83 : MG.Enters Tryz.prog 83 := en func83
theorem g83 (k : Nat) (g0 : Bool) (a0 : List L_Cred) (r : List T_Cred) (H : W_toCredS k a0 = some r) : Gives Tryz.prog 83 [V.one (Cell.sl g0 (List.map eL_Cred a0))] [] [V.one (Cell.ow 8 (List.map eT_Cred r))] [] := by
 refine Gives.intro func83 rfl rfl rfl rfl ?_; refine fx fun w0 T S0 ob oh hm => ?_
 have hF := fxe w0 T S0 23 ob oh
 unfold W_toCredS at H; obtain ⟨K, hK⟩ := leK k; refine sg 1 ?_; refine sy 1 ?_; refine L.lenR (xs := a0) (e := eL_Cred) underlying59 hF rfl rfl rfl rfl ?_; obtain ⟨h1, H⟩ := condG H; refine L.makeSlice (e := eT_Cred) 1 (⟨0, 0, 0, 0, (⟨0, 0, 0⟩ : T_Rest), ([] : List UInt8)⟩ : T_Cred) underlying38 info201 rfl rfl rfl hF rfl rfl rfl rfl (of_decide_eq_true h1) rfl rfl ?_; refine gn 1 ?_; refine WpC.seq (sr ?_); refine gn 1 ?_; refine WpC.block ?_; refine WpC.loopL (P := Tryz.prog) (fun n σ => ∃ (v45 : List L_Cred) (v46 : List T_Cred) (v47 : Int), n ≤ K ∧ W_toCredS.l2 n v45 v46 v47 = some r ∧ σ = mkSt [(0, MG.one (Cell.sl g0 (List.map eL_Cred v45))), (3, MG.one (Cell.own 0)), (4, oI v47)] [(0, ⟨8, List.map eT_Cred v46⟩)] [] 1) k ⟨_, ⟨a0, (List.replicate (a0.length : Int).toNat (⟨0, 0, 0, 0, (⟨0, 0, 0⟩ : T_Rest), ([] : List UInt8)⟩ : T_Cred)), 0, by omega, H, rfl⟩, lm [(0, 1)] hm⟩ ?_; clear H
 rintro k2 _ ⟨v45, v46, v47, hk2, H, rfl⟩
 cases k2 with
 | zero => cases H
 | succ k2 =>
  rw [W_toCredS.l2] at H
  refine WpC.seq (sr ?_); refine go 2 ?_; refine L.lenR (xs := v45) (e := eL_Cred) underlying59 hF rfl rfl rfl rfl ?_; refine gn 1 ?_; refine cd H (fun hc H => ?_) (fun hc H => ?_)
  ·refine WpC.skip (WpC.seq (WpC.block (WpC.regionL ?_))); refine go 4 ?_; obtain ⟨b51, hb51, H⟩ := bindS H; refine ix underlying59 info187 hb51 ?_; refine le shape187 ?_; refine cB 1 ent166 (g166 k2  b51) H fun r52 H => ?_; obtain ⟨b53, hb53, H⟩ := bindS H; refine ix underlying38 info201 hb53 ?_; refine L.storeEp (xs := v46) (e := eT_Cred) (a' := r52) shape201 hF rfl rfl rfl rfl rfl rfl rfl (at?_get hb53).2 rfl rfl ?_; refine L.nil ?_; refine WpC.regionL ?_; refine gn 3 ?_; exact ⟨k2, _, by omega, ⟨v45, (v46.set v47.toNat r52), (IntKind.i64.wrap (v47 + 1)), by omega, H, rfl⟩, lm [(0, 0)] hm⟩
  ·refine WpC.exit (sr ?_); refine gn 2 ?_; cases H; exact WpC.ret rt
/-! ### W_toAuth -/
def W_toAuth (k : Nat) (a0 : L_Auth) : Option T_Auth := some (⟨a0.Client, a0.Time, a0.Seq⟩ : T_Auth)
theorem ent242 : MG.Enters Tryz.prog 242 := en func242
theorem g242 (k : Nat) (a0 : L_Auth) (r : T_Auth) (H : W_toAuth k a0 = some r) : Gives Tryz.prog 242 [V.agg (bL_Auth a0)] [] [V.agg (bT_Auth r)] [] := by
 refine Gives.intro func242 rfl rfl rfl rfl ?_; refine fx fun w0 T S0 ob oh hm => ?_
 have hF := fxe w0 T S0 14 ob oh
 unfold W_toAuth at H; obtain ⟨K, hK⟩ := leK k; refine sr ?_; refine bo 3 ?_; refine alc 4 info72 (L.nil ?_); refine sr ?_; refine alc 5 info72 (L.nil ?_); refine sg 4 ?_; refine sg 4 ?_; refine sg 4 ?_; refine sg 2 ?_; cases H; exact WpC.ret rt
/-! ### W_toAuthS -/
def W_toAuthS.l2 : Nat → (List L_Auth) → (List T_Auth) → Int → Option (List T_Auth)
 | 0, _, _, _ => none
 | k2 + 1, v45, v46, v47 => cond (decide (v47 < (v45.length : Int))) ((at? v45 v47).bind fun b51 => (W_toAuth k2 b51).bind fun r52 => (at? v46 v47).bind fun b53 => (W_toAuthS.l2 k2) v45 (v46.set v47.toNat r52) (IntKind.i64.wrap (v47 + 1))) (some v46)
def W_toAuthS (k : Nat) (a0 : List L_Auth) : Option (List T_Auth) := cond (decide (0 ≤ (a0.length : Int) ∧ (a0.length : Int) ≤ (a0.length : Int) ∧ 24 * (a0.length : Int) ≤ 281474976710656 ∧ (a0.length : Int) ≤ 9223372036854775807)) (W_toAuthS.l2 k a0 (List.replicate (a0.length : Int).toNat (⟨0, 0, 0⟩ : T_Auth)) 0) none
theorem ent241 : MG.Enters Tryz.prog 241 := en func241
theorem g241 (k : Nat) (g0 : Bool) (a0 : List L_Auth) (r : List T_Auth) (H : W_toAuthS k a0 = some r) : Gives Tryz.prog 241 [V.one (Cell.sl g0 (List.map eL_Auth a0))] [] [V.one (Cell.ow 3 (List.map eT_Auth r))] [] := by
 refine Gives.intro func241 rfl rfl rfl rfl ?_; refine fx fun w0 T S0 ob oh hm => ?_
 have hF := fxe w0 T S0 23 ob oh
 unfold W_toAuthS at H; obtain ⟨K, hK⟩ := leK k; refine sg 1 ?_; refine sy 1 ?_; refine L.lenR (xs := a0) (e := eL_Auth) underlying189 hF rfl rfl rfl rfl ?_; obtain ⟨h1, H⟩ := condG H; refine L.makeSlice (e := eT_Auth) 1 (⟨0, 0, 0⟩ : T_Auth) underlying168 info72 rfl rfl rfl hF rfl rfl rfl rfl (of_decide_eq_true h1) rfl rfl ?_; refine gn 1 ?_; refine WpC.seq (sr ?_); refine gn 1 ?_; refine WpC.block ?_; refine WpC.loopL (P := Tryz.prog) (fun n σ => ∃ (v45 : List L_Auth) (v46 : List T_Auth) (v47 : Int), n ≤ K ∧ W_toAuthS.l2 n v45 v46 v47 = some r ∧ σ = mkSt [(0, MG.one (Cell.sl g0 (List.map eL_Auth v45))), (3, MG.one (Cell.own 0)), (4, oI v47)] [(0, ⟨3, List.map eT_Auth v46⟩)] [] 1) k ⟨_, ⟨a0, (List.replicate (a0.length : Int).toNat (⟨0, 0, 0⟩ : T_Auth)), 0, by omega, H, rfl⟩, lm [(0, 1)] hm⟩ ?_; clear H
 rintro k2 _ ⟨v45, v46, v47, hk2, H, rfl⟩
 cases k2 with
 | zero => cases H
 | succ k2 =>
  rw [W_toAuthS.l2] at H
  refine WpC.seq (sr ?_); refine go 2 ?_; refine L.lenR (xs := v45) (e := eL_Auth) underlying189 hF rfl rfl rfl rfl ?_; refine gn 1 ?_; refine cd H (fun hc H => ?_) (fun hc H => ?_)
  ·refine WpC.skip (WpC.seq (WpC.block (WpC.regionL ?_))); refine go 4 ?_; obtain ⟨b51, hb51, H⟩ := bindS H; refine ix underlying189 info193 hb51 ?_; refine le shape193 ?_; refine cB 1 ent242 (g242 k2  b51) H fun r52 H => ?_; obtain ⟨b53, hb53, H⟩ := bindS H; refine ix underlying168 info72 hb53 ?_; refine L.storeEp (xs := v46) (e := eT_Auth) (a' := r52) shape72 hF rfl rfl rfl rfl rfl rfl rfl (at?_get hb53).2 rfl rfl ?_; refine L.nil ?_; refine WpC.regionL ?_; refine gn 3 ?_; exact ⟨k2, _, by omega, ⟨v45, (v46.set v47.toNat r52), (IntKind.i64.wrap (v47 + 1)), by omega, H, rfl⟩, lm [(0, 0)] hm⟩
  ·refine WpC.exit (sr ?_); refine gn 2 ?_; cases H; exact WpC.ret rt
/-! ### W_toCache -/
def W_toCache (k : Nat) (a0 : L_Cache) : Option T_Cache := (W_toAuthS k a0.Seen).bind fun r1 => some (⟨a0.Quiet, r1⟩ : T_Cache)
theorem ent167 : MG.Enters Tryz.prog 167 := en func167
theorem g167 (k : Nat) (g0 : Bool) (a0 : L_Cache) (r : T_Cache) (H : W_toCache k a0 = some r) : Gives Tryz.prog 167 [V.agg [cI a0.Quiet, Cell.sl g0 (List.map eL_Auth a0.Seen)]] [] [V.agg [cI r.Quiet, Cell.ow 3 (List.map eT_Auth r.Seen)]] [] := by
 refine Gives.intro func167 rfl rfl rfl rfl ?_; refine fx fun w0 T S0 ob oh hm => ?_
 have hF := fxe w0 T S0 12 ob oh
 unfold W_toCache at H; obtain ⟨K, hK⟩ := leK k; refine sr ?_; refine bo 2 ?_; refine alc 3 info170 (L.nil ?_); refine sr ?_; refine alc 4 info170 (L.nil ?_); refine sg 4 ?_; refine sy 2 ?_; refine cB 5 ent241 (g241 k g0 a0.Seen) H fun r1 H => ?_; refine gn 2 ?_; refine sg 2 ?_; cases H; exact WpC.ret rt
/-! ### W_toCacheS -/
def W_toCacheS.l2 : Nat → (List L_Cache) → (List T_Cache) → Int → Option (List T_Cache)
 | 0, _, _, _ => none
 | k2 + 1, v45, v46, v47 => cond (decide (v47 < (v45.length : Int))) ((at? v45 v47).bind fun b51 => (W_toCache k2 b51).bind fun r52 => (at? v46 v47).bind fun b53 => (W_toCacheS.l2 k2) v45 (v46.set v47.toNat r52) (IntKind.i64.wrap (v47 + 1))) (some v46)
def W_toCacheS (k : Nat) (a0 : List L_Cache) : Option (List T_Cache) := cond (decide (0 ≤ (a0.length : Int) ∧ (a0.length : Int) ≤ (a0.length : Int) ∧ 32 * (a0.length : Int) ≤ 281474976710656 ∧ (a0.length : Int) ≤ 9223372036854775807)) (W_toCacheS.l2 k a0 (List.replicate (a0.length : Int).toNat (⟨0, []⟩ : T_Cache)) 0) none
theorem ent84 : MG.Enters Tryz.prog 84 := en func84
theorem g84 (k : Nat) (g0 : Bool) (a0 : List L_Cache) (r : List T_Cache) (H : W_toCacheS k a0 = some r) : Gives Tryz.prog 84 [V.one (Cell.sl g0 (List.map eL_Cache a0))] [] [V.one (Cell.ow 2 (List.map eT_Cache r))] [] := by
 refine Gives.intro func84 rfl rfl rfl rfl ?_; refine fx fun w0 T S0 ob oh hm => ?_
 have hF := fxe w0 T S0 23 ob oh
 unfold W_toCacheS at H; obtain ⟨K, hK⟩ := leK k; refine sg 1 ?_; refine sy 1 ?_; refine L.lenR (xs := a0) (e := eL_Cache) underlying60 hF rfl rfl rfl rfl ?_; obtain ⟨h1, H⟩ := condG H; refine L.makeSliceN (e := eT_Cache) 1 (⟨0, []⟩ : T_Cache) underlying39 info170 rfl rfl rfl hF rfl rfl rfl rfl (of_decide_eq_true h1) rfl rfl ⟨rfl, rfl⟩ ?_; refine gn 1 ?_; refine WpC.seq (sr ?_); refine gn 1 ?_; refine WpC.block ?_; refine WpC.loopL (P := Tryz.prog) (fun n σ => ∃ (v45 : List L_Cache) (v46 : List T_Cache) (v47 : Int), n ≤ K ∧ W_toCacheS.l2 n v45 v46 v47 = some r ∧ σ = mkSt [(0, MG.one (Cell.sl g0 (List.map eL_Cache v45))), (3, MG.one (Cell.own 0)), (4, oI v47)] [(0, ⟨2, List.map eT_Cache v46⟩)] [] 1) k ⟨_, ⟨a0, (List.replicate (a0.length : Int).toNat (⟨0, []⟩ : T_Cache)), 0, by omega, H, rfl⟩, lm [(0, 1)] hm⟩ ?_; clear H
 rintro k2 _ ⟨v45, v46, v47, hk2, H, rfl⟩
 cases k2 with
 | zero => cases H
 | succ k2 =>
  rw [W_toCacheS.l2] at H
  refine WpC.seq (sr ?_); refine go 2 ?_; refine L.lenR (xs := v45) (e := eL_Cache) underlying60 hF rfl rfl rfl rfl ?_; refine gn 1 ?_; refine cd H (fun hc H => ?_) (fun hc H => ?_)
  ·refine WpC.skip (WpC.seq (WpC.block (WpC.regionL ?_))); refine go 4 ?_; obtain ⟨b51, hb51, H⟩ := bindS H; refine ix underlying60 info191 hb51 ?_; refine le shape191 ?_; refine cB 1 ent167 (g167 k2 true b51) H fun r52 H => ?_; obtain ⟨b53, hb53, H⟩ := bindS H; refine ix underlying39 info170 hb53 ?_; refine L.storeEpN (xs := v46) (e := eT_Cache) (a' := r52) 3 shape170 hF rfl rfl rfl rfl rfl rfl rfl (at?_get hb53).2 rfl rfl ?_; refine L.nil ?_; refine WpC.regionL ?_; refine gn 3 ?_; exact ⟨k2, _, by omega, ⟨v45, (v46.set v47.toNat r52), (IntKind.i64.wrap (v47 + 1)), by omega, H, rfl⟩, lm [(0, 0)] hm⟩
  ·refine WpC.exit (sr ?_); refine gn 2 ?_; cases H; exact WpC.ret rt
/-! ### W_toEvent -/
def W_toEvent (k : Nat) (a0 : L_Event) : Option T_Event := (W_toRest k a0.Rest).bind fun r1 => some (⟨a0.Kind, a0.Realm, a0.By, a0.Client, a0.Service, a0.Key, a0.Parent, a0.Evid, r1⟩ : T_Event)
theorem ent168 : MG.Enters Tryz.prog 168 := en func168
theorem g168 (k : Nat) (a0 : L_Event) (r : T_Event) (H : W_toEvent k a0 = some r) : Gives Tryz.prog 168 [V.agg (bL_Event a0)] [] [V.agg (bT_Event r)] [] := by
 refine Gives.intro func168 rfl rfl rfl rfl ?_; refine fx fun w0 T S0 ob oh hm => ?_
 have hF := fxe w0 T S0 33 ob oh
 unfold W_toEvent at H; obtain ⟨K, hK⟩ := leK k; refine sr ?_; refine bo 11 ?_; refine alc 12 info47 (L.nil ?_); refine sr ?_; refine alc 13 info47 (L.nil ?_); refine sg 4 ?_; refine sg 4 ?_; refine sg 4 ?_; refine sg 4 ?_; refine sg 4 ?_; refine sg 4 ?_; refine sg 4 ?_; refine sg 4 ?_
 refine sy 2 ?_; refine cB 14 ent240 (g240 k  a0.Rest) H fun r1 H => ?_; refine gn 2 ?_; refine sg 2 ?_; cases H; exact WpC.ret rt
/-! ### W_toEventS -/
def W_toEventS.l2 : Nat → (List L_Event) → (List T_Event) → Int → Option (List T_Event)
 | 0, _, _, _ => none
 | k2 + 1, v45, v46, v47 => cond (decide (v47 < (v45.length : Int))) ((at? v45 v47).bind fun b51 => (W_toEvent k2 b51).bind fun r52 => (at? v46 v47).bind fun b53 => (W_toEventS.l2 k2) v45 (v46.set v47.toNat r52) (IntKind.i64.wrap (v47 + 1))) (some v46)
def W_toEventS (k : Nat) (a0 : List L_Event) : Option (List T_Event) := cond (decide (0 ≤ (a0.length : Int) ∧ (a0.length : Int) ≤ (a0.length : Int) ∧ 88 * (a0.length : Int) ≤ 281474976710656 ∧ (a0.length : Int) ≤ 9223372036854775807)) (W_toEventS.l2 k a0 (List.replicate (a0.length : Int).toNat (⟨0, 0, 0, 0, 0, 0, 0, 0, (⟨0, 0, 0⟩ : T_Rest)⟩ : T_Event)) 0) none
theorem ent85 : MG.Enters Tryz.prog 85 := en func85
theorem g85 (k : Nat) (g0 : Bool) (a0 : List L_Event) (r : List T_Event) (H : W_toEventS k a0 = some r) : Gives Tryz.prog 85 [V.one (Cell.sl g0 (List.map eL_Event a0))] [] [V.one (Cell.ow 11 (List.map eT_Event r))] [] := by
 refine Gives.intro func85 rfl rfl rfl rfl ?_; refine fx fun w0 T S0 ob oh hm => ?_
 have hF := fxe w0 T S0 23 ob oh
 unfold W_toEventS at H; obtain ⟨K, hK⟩ := leK k; refine sg 1 ?_; refine sy 1 ?_; refine L.lenR (xs := a0) (e := eL_Event) underlying61 hF rfl rfl rfl rfl ?_; obtain ⟨h1, H⟩ := condG H; refine L.makeSlice (e := eT_Event) 1 (⟨0, 0, 0, 0, 0, 0, 0, 0, (⟨0, 0, 0⟩ : T_Rest)⟩ : T_Event) underlying40 info47 rfl rfl rfl hF rfl rfl rfl rfl (of_decide_eq_true h1) rfl rfl ?_; refine gn 1 ?_; refine WpC.seq (sr ?_); refine gn 1 ?_; refine WpC.block ?_; refine WpC.loopL (P := Tryz.prog) (fun n σ => ∃ (v45 : List L_Event) (v46 : List T_Event) (v47 : Int), n ≤ K ∧ W_toEventS.l2 n v45 v46 v47 = some r ∧ σ = mkSt [(0, MG.one (Cell.sl g0 (List.map eL_Event v45))), (3, MG.one (Cell.own 0)), (4, oI v47)] [(0, ⟨11, List.map eT_Event v46⟩)] [] 1) k ⟨_, ⟨a0, (List.replicate (a0.length : Int).toNat (⟨0, 0, 0, 0, 0, 0, 0, 0, (⟨0, 0, 0⟩ : T_Rest)⟩ : T_Event)), 0, by omega, H, rfl⟩, lm [(0, 1)] hm⟩ ?_; clear H
 rintro k2 _ ⟨v45, v46, v47, hk2, H, rfl⟩
 cases k2 with
 | zero => cases H
 | succ k2 =>
  rw [W_toEventS.l2] at H
  refine WpC.seq (sr ?_); refine go 2 ?_; refine L.lenR (xs := v45) (e := eL_Event) underlying61 hF rfl rfl rfl rfl ?_; refine gn 1 ?_; refine cd H (fun hc H => ?_) (fun hc H => ?_)
  ·refine WpC.skip (WpC.seq (WpC.block (WpC.regionL ?_))); refine go 4 ?_; obtain ⟨b51, hb51, H⟩ := bindS H; refine ix underlying61 info211 hb51 ?_; refine le shape211 ?_; refine cB 1 ent168 (g168 k2  b51) H fun r52 H => ?_; obtain ⟨b53, hb53, H⟩ := bindS H; refine ix underlying40 info47 hb53 ?_; refine L.storeEp (xs := v46) (e := eT_Event) (a' := r52) shape47 hF rfl rfl rfl rfl rfl rfl rfl (at?_get hb53).2 rfl rfl ?_; refine L.nil ?_; refine WpC.regionL ?_; refine gn 3 ?_; exact ⟨k2, _, by omega, ⟨v45, (v46.set v47.toNat r52), (IntKind.i64.wrap (v47 + 1)), by omega, H, rfl⟩, lm [(0, 0)] hm⟩
  ·refine WpC.exit (sr ?_); refine gn 2 ?_; cases H; exact WpC.ret rt
/-! ### W_toAccept -/
def W_toAccept (k : Nat) (a0 : L_Accept) : Option T_Accept := (W_toAuth k a0.Auth).bind fun r1 => (W_toRest k a0.Rest).bind fun r2 => (W_toIntS k a0.Path).bind fun r3 => (W_toIntS k a0.Via).bind fun r4 => some (⟨a0.Server, a0.Client, a0.Key, a0.Op, a0.Now, r1, r2, r3, r4, a0.Leaks, a0.Ticket⟩ : T_Accept)
theorem ent169 : MG.Enters Tryz.prog 169 := en func169
theorem g169 (k : Nat) (g0 g1 : Bool) (a0 : L_Accept) (r : T_Accept) (H : W_toAccept k a0 = some r) : Gives Tryz.prog 169 [V.agg (bL_Accept g0 g1 a0)] [] [V.agg [cI r.Server, cI r.Client, cI r.Key, cI r.Op, cI r.Now, cI r.Auth.Client, cI r.Auth.Time, cI r.Auth.Seq, cI r.Rest.Servers, cI r.Rest.Ops, cI r.Rest.End, Cell.ow 1 (List.map eI r.Path), Cell.ow 1 (List.map eI r.Via), cI r.Leaks, cS r.Ticket]] [] := by
 refine Gives.intro func169 rfl rfl rfl rfl ?_; refine fx fun w0 T S0 ob oh hm => ?_
 have hF := fxe w0 T S0 42 ob oh
 unfold W_toAccept at H; obtain ⟨K, hK⟩ := leK k; refine sr ?_; refine bo 15 ?_; refine alc 16 info74 (L.nil ?_); refine sr ?_; refine alc 17 info74 (L.nil ?_); refine sg 4 ?_; refine sg 4 ?_; refine sg 4 ?_; refine sg 4 ?_; refine sg 4 ?_; refine sy 2 ?_; refine cB 18 ent242 (g242 k  a0.Auth) H fun r1 H => ?_; refine gn 2 ?_; refine sy 2 ?_; refine cB 21 ent240 (g240 k  a0.Rest) H fun r2 H => ?_; refine fa underlying74 info29 ?_
 refine gn 1 ?_; refine sy 2 ?_; refine cB 24 ent87 (g87 k g0 a0.Path) H fun r3 H => ?_; refine gn 2 ?_; refine sy 2 ?_; refine cB 25 ent87 (g87 k g1 a0.Via) H fun r4 H => ?_; refine gn 2 ?_; refine sg 4 ?_; refine sg 4 ?_; refine sg 2 ?_; cases H; exact WpC.ret rt
/-! ### W_toAcceptS -/
def W_toAcceptS.l2 : Nat → (List L_Accept) → (List T_Accept) → Int → Option (List T_Accept)
 | 0, _, _, _ => none
 | k2 + 1, v45, v46, v47 => cond (decide (v47 < (v45.length : Int))) ((at? v45 v47).bind fun b51 => (W_toAccept k2 b51).bind fun r52 => (at? v46 v47).bind fun b53 => (W_toAcceptS.l2 k2) v45 (v46.set v47.toNat r52) (IntKind.i64.wrap (v47 + 1))) (some v46)
def W_toAcceptS (k : Nat) (a0 : List L_Accept) : Option (List T_Accept) := cond (decide (0 ≤ (a0.length : Int) ∧ (a0.length : Int) ≤ (a0.length : Int) ∧ 160 * (a0.length : Int) ≤ 281474976710656 ∧ (a0.length : Int) ≤ 9223372036854775807)) (W_toAcceptS.l2 k a0 (List.replicate (a0.length : Int).toNat (⟨0, 0, 0, 0, 0, (⟨0, 0, 0⟩ : T_Auth), (⟨0, 0, 0⟩ : T_Rest), [], [], 0, ([] : List UInt8)⟩ : T_Accept)) 0) none
theorem ent86 : MG.Enters Tryz.prog 86 := en func86
theorem g86 (k : Nat) (g0 : Bool) (a0 : List L_Accept) (r : List T_Accept) (H : W_toAcceptS k a0 = some r) : Gives Tryz.prog 86 [V.one (Cell.sl g0 (List.map eL_Accept a0))] [] [V.one (Cell.ow 15 (List.map eT_Accept r))] [] := by
 refine Gives.intro func86 rfl rfl rfl rfl ?_; refine fx fun w0 T S0 ob oh hm => ?_
 have hF := fxe w0 T S0 23 ob oh
 unfold W_toAcceptS at H; obtain ⟨K, hK⟩ := leK k; refine sg 1 ?_; refine sy 1 ?_; refine L.lenR (xs := a0) (e := eL_Accept) underlying62 hF rfl rfl rfl rfl ?_; obtain ⟨h1, H⟩ := condG H; refine L.makeSliceN (e := eT_Accept) 1 (⟨0, 0, 0, 0, 0, (⟨0, 0, 0⟩ : T_Auth), (⟨0, 0, 0⟩ : T_Rest), [], [], 0, ([] : List UInt8)⟩ : T_Accept) underlying41 info74 rfl rfl rfl hF rfl rfl rfl rfl (of_decide_eq_true h1) rfl rfl ⟨rfl, rfl⟩ ?_; refine gn 1 ?_; refine WpC.seq (sr ?_); refine gn 1 ?_; refine WpC.block ?_; refine WpC.loopL (P := Tryz.prog) (fun n σ => ∃ (v45 : List L_Accept) (v46 : List T_Accept) (v47 : Int), n ≤ K ∧ W_toAcceptS.l2 n v45 v46 v47 = some r ∧ σ = mkSt [(0, MG.one (Cell.sl g0 (List.map eL_Accept v45))), (3, MG.one (Cell.own 0)), (4, oI v47)] [(0, ⟨15, List.map eT_Accept v46⟩)] [] 1) k ⟨_, ⟨a0, (List.replicate (a0.length : Int).toNat (⟨0, 0, 0, 0, 0, (⟨0, 0, 0⟩ : T_Auth), (⟨0, 0, 0⟩ : T_Rest), [], [], 0, ([] : List UInt8)⟩ : T_Accept)), 0, by omega, H, rfl⟩, lm [(0, 1)] hm⟩ ?_; clear H
 rintro k2 _ ⟨v45, v46, v47, hk2, H, rfl⟩
 cases k2 with
 | zero => cases H
 | succ k2 =>
  rw [W_toAcceptS.l2] at H
  refine WpC.seq (sr ?_); refine go 2 ?_; refine L.lenR (xs := v45) (e := eL_Accept) underlying62 hF rfl rfl rfl rfl ?_; refine gn 1 ?_; refine cd H (fun hc H => ?_) (fun hc H => ?_)
  ·refine WpC.skip (WpC.seq (WpC.block (WpC.regionL ?_))); refine go 4 ?_; obtain ⟨b51, hb51, H⟩ := bindS H; refine ix underlying62 info195 hb51 ?_; refine le shape195 ?_; refine cB 1 ent169 (g169 k2 true true b51) H fun r52 H => ?_; obtain ⟨b53, hb53, H⟩ := bindS H; refine ix underlying41 info74 hb53 ?_; refine L.storeEpN (xs := v46) (e := eT_Accept) (a' := r52) 1 shape74 hF rfl rfl rfl rfl rfl rfl rfl (at?_get hb53).2 rfl rfl ?_; refine L.nil ?_; refine WpC.regionL ?_; refine gn 3 ?_; exact ⟨k2, _, by omega, ⟨v45, (v46.set v47.toNat r52), (IntKind.i64.wrap (v47 + 1)), by omega, H, rfl⟩, lm [(0, 0)] hm⟩
  ·refine WpC.exit (sr ?_); refine gn 2 ?_; cases H; exact WpC.ret rt
/-! ### W_toWorld -/
def W_toWorld (k : Nat) (a0 : L_World) : Option T_World := (W_toConfig k a0.Config).bind fun r1 => (W_toStringS k a0.Net).bind fun r2 => (W_toKnown k a0.Known).bind fun r3 => (W_toWaitS k a0.Waits).bind fun r4 => (W_toCredS k a0.Creds).bind fun r5 => (W_toCacheS k a0.Caches).bind fun r6 => (W_toEventS k a0.Log).bind fun r7 => (W_toAcceptS k a0.Accepts).bind fun r8 => (W_toIntS k a0.Leaked).bind fun r9 => some (⟨r1, a0.Now, a0.Fresh, r2, r3, r4, r5, r6, r7, r8, r9⟩ : T_World)
theorem ent24 : MG.Enters Tryz.prog 24 := en func24
theorem g24 (k : Nat) (g0 g1 g2 g3 g4 g5 g6 g7 g8 g9 g10 g11 g12 : Bool) (a0 : L_World) (r : T_World) (H : W_toWorld k a0 = some r) : Gives Tryz.prog 24 [V.agg (bL_World g0 g1 g2 g3 g4 g5 g6 g7 g8 g9 g10 g11 g12 a0)] [] [V.agg [Cell.ow 1 (List.map eI r.Config.UserRealm), Cell.ow 1 (List.map eI r.Config.ServiceRealm), Cell.ow 2 (List.map eT_Pair r.Config.Links), Cell.ow 2 (List.map eT_Pair r.Config.Proxy), cI r.Config.Skew, cI r.Now, cI r.Fresh, Cell.ow 1 (List.map eS r.Net), Cell.ow 1 (List.map eS r.Known.Terms), Cell.ow 1 (List.map eI r.Known.Keys), Cell.ow 4 (List.map eT_Wait r.Waits), Cell.ow 8 (List.map eT_Cred r.Creds), Cell.ow 2 (List.map eT_Cache r.Caches), Cell.ow 11 (List.map eT_Event r.Log), Cell.ow 15 (List.map eT_Accept r.Accepts), Cell.ow 1 (List.map eI r.Leaked)]] [] := by
 refine Gives.intro func24 rfl rfl rfl rfl ?_; refine fx fun w0 T S0 ob oh hm => ?_
 have hF := fxe w0 T S0 47 ob oh
 unfold W_toWorld at H; obtain ⟨K, hK⟩ := leK k; refine sr ?_; refine bo 16 ?_; refine alc 17 info43 (L.nil ?_); refine sr ?_; refine alc 18 info43 (L.nil ?_); refine sy 2 ?_; refine cB 19 ent79 (g79 k g0 g1 g2 g3 a0.Config) H fun r1 H => ?_; refine gn 2 ?_; refine sg 4 ?_; refine sg 4 ?_; refine sy 2 ?_; refine cB 24 ent80 (g80 k g4 a0.Net) H fun r2 H => ?_; refine gn 2 ?_; refine sy 2 ?_; refine cB 25 ent81 (g81 k g5 g6 a0.Known) H fun r3 H => ?_; refine gn 2 ?_; refine sy 2 ?_; obtain ⟨r4, hr4, H⟩ := bindS H
 refine c0 27 ent82 (g82 k g7 a0.Waits r4 hr4) ?_; refine gn 2 ?_; refine sy 2 ?_; refine cB 28 ent83 (g83 k g8 a0.Creds) H fun r5 H => ?_; refine gn 2 ?_; refine sy 2 ?_; refine cB 29 ent84 (g84 k g9 a0.Caches) H fun r6 H => ?_; refine gn 2 ?_; refine sy 2 ?_; refine cB 30 ent85 (g85 k g10 a0.Log) H fun r7 H => ?_; refine gn 2 ?_; refine sy 2 ?_; refine cB 31 ent86 (g86 k g11 a0.Accepts) H fun r8 H => ?_; refine gn 2 ?_; refine sy 2 ?_; refine cB 32 ent87 (g87 k g12 a0.Leaked) H fun r9 H => ?_; refine gn 2 ?_; refine sr ?_
 refine gn 2 ?_; cases H; exact WpC.ret rt
/-! ### S_l5All -/
def S_l5All.l2 : Nat → (List Int) → Int → Int → Option Bool
 | 0, _, _, _ => none
 | k2 + 1, v54, v55, v56 => cond (decide (v56 < (v54.length : Int))) ((at? v54 v56).bind fun b63 => cond (decide (b63 < 0)) (some false) ((at? v54 v56).bind fun b64 => cond (decide (b64 ≥ v55)) (some false) ((S_l5All.l2 k2) v54 v55 (IntKind.i64.wrap (v56 + 1))))) (some true)
def S_l5All (k : Nat) (a0 : List Int) (a1 a2 : Int) : Option Bool := cond (decide ((a0.length : Int) > a1)) (some false) (S_l5All.l2 k a0 a2 0)
theorem ent135 : MG.Enters Tryz.prog 135 := en func135
theorem g135 (k : Nat) (g0 : Bool) (a0 : List Int) (a1 a2 : Int) (r : Bool) (H : S_l5All k a0 a1 a2 = some r) : Gives Tryz.prog 135 [V.one (Cell.sl g0 (List.map eI a0)), V.one (cI a1), V.one (cI a2)] [] [V.one (cL r)] [] := by
 refine Gives.intro func135 rfl rfl rfl rfl ?_; refine fx fun w0 T S0 ob oh hm => ?_
 have hF := fxe w0 T S0 31 ob oh
 unfold S_l5All at H; obtain ⟨K, hK⟩ := leK k; refine sg 1 ?_; refine WpC.seq (sr ?_); refine mv ?_; refine L.lenR (xs := a0) (e := eI) underlying24 hF rfl rfl rfl rfl ?_; refine gn 2 ?_; refine cd H (fun hc H => ?_) (fun hc H => ?_)
 ·refine sg 1 ?_; cases H; exact WpC.ret rt
 ·refine WpC.skip (WpC.seq (sr ?_)); refine gn 1 ?_; refine WpC.block ?_; refine WpC.loopL (P := Tryz.prog) (fun n σ => ∃ (v54 : List Int) (v55 v56 : Int), n ≤ K ∧ S_l5All.l2 n v54 v55 v56 = some r ∧ σ = mkSt [(0, MG.one (Cell.sl g0 (List.map eI v54))), (2, oI v55), (7, oI v56)] [] [] 0) k ⟨_, ⟨a0, a2, 0, by omega, H, rfl⟩, lm [] hm⟩ ?_; clear H
  rintro k2 _ ⟨v54, v55, v56, hk2, H, rfl⟩
  cases k2 with
  | zero => cases H
  | succ k2 =>
   rw [S_l5All.l2] at H
   refine WpC.seq (sr ?_); refine go 2 ?_; refine L.lenR (xs := v54) (e := eI) underlying24 hF rfl rfl rfl rfl ?_; refine gn 1 ?_; refine cd H (fun hc H => ?_) (fun hc H => ?_)
   ·refine WpC.skip (WpC.seq (WpC.block (sr ?_))); refine go 2 ?_; obtain ⟨b63, hb63, H⟩ := bindS H; refine ix underlying24 info3 hb63 ?_; refine go 3 ?_; refine sH H (fun hc H => ?_) (fun hc H => ?_)
    ·refine gn 7 ?_; refine cT ?_; refine sg 1 ?_; cases H; exact WpC.ret rt
    ·refine go 2 ?_; obtain ⟨b64, hb64, H⟩ := bindS H; refine ix underlying24 info3 hb64 ?_; refine gn 4 ?_; refine cd H (fun hc H => ?_) (fun hc H => ?_)
     ·refine sg 1 ?_; cases H; exact WpC.ret rt
     ·refine WpC.skip (WpC.regionL ?_); refine gn 3 ?_; exact ⟨k2, _, by omega, ⟨v54, v55, (IntKind.i64.wrap (v56 + 1)), by omega, H, rfl⟩, lm [] hm⟩
   ·refine WpC.exit (sr ?_); refine gn 1 ?_; cases H; exact WpC.ret rt
/-! ### S_l6Has -/
def S_l6Has.l2 : Nat → (List T_Pair) → Int → T_Pair → Option Bool
 | 0, _, _, _ => none
 | k2 + 1, v24, v25, v26 => cond (decide (v25 < (v24.length : Int))) ((at? v24 v25).bind fun b28 => cond ((b28.A == v26.A) && ((b28.B == v26.B) && true)) (some true) ((S_l6Has.l2 k2) v24 (IntKind.i64.wrap (v25 + 1)) v26)) (some false)
def S_l6Has (k : Nat) (a0 : List T_Pair) (a1 : T_Pair) : Option Bool := S_l6Has.l2 k a0 0 a1
theorem ent139 : MG.Enters Tryz.prog 139 := en func139
theorem g139 (k : Nat) (g0 : Bool) (a0 : List T_Pair) (a1 : T_Pair) (r : Bool) (H : S_l6Has k a0 a1 = some r) : Gives Tryz.prog 139 [V.one (Cell.sl g0 (List.map eT_Pair a0)), V.agg [cI a1.A, cI a1.B]] [] [V.one (cL r)] [] := by
 refine Gives.intro func139 rfl rfl rfl rfl ?_; refine fx fun w0 T S0 ob oh hm => ?_
 have hF := fxe w0 T S0 18 ob oh
 unfold S_l6Has at H; obtain ⟨K, hK⟩ := leK k; refine sr ?_; refine bo 3 ?_; refine gn 1 ?_; refine WpC.seq (sr ?_); refine gn 1 ?_; refine WpC.block ?_; refine WpC.loopL (P := Tryz.prog) (fun n σ => ∃ (v24 : List T_Pair) (v25 : Int) (v26 : T_Pair), n ≤ K ∧ S_l6Has.l2 n v24 v25 v26 = some r ∧ σ = mkSt [(0, MG.one (Cell.sl g0 (List.map eT_Pair v24))), (3, oP 0 0), (5, oI v25)] [] [(0, [cI v26.A, cI v26.B])] 1) k ⟨_, ⟨a0, 0, a1, by omega, H, rfl⟩, lm [(0, 3)] hm⟩ ?_; clear H
 rintro k2 _ ⟨v24, v25, v26, hk2, H, rfl⟩
 cases k2 with
 | zero => cases H
 | succ k2 =>
  rw [S_l6Has.l2] at H
  refine WpC.seq (sr ?_); refine go 2 ?_; refine L.lenR (xs := v24) (e := eT_Pair) underlying25 hF rfl rfl rfl rfl ?_; refine gn 1 ?_; refine cd H (fun hc H => ?_) (fun hc H => ?_)
  ·refine WpC.skip (WpC.seq (WpC.block (WpC.seq ?_))); refine S.begin mixed (by kernel_rfl) ?_; refine S.st 0 rfl rfl ((Ca.move).quiet) (fun Q0 k0 => mv (L.nil k0)) ?_; refine S.st 1 rfl rfl ((Ca.move).quiet) (fun Q0 k0 => mv (L.nil k0)) ?_; obtain ⟨b28, hb28, H⟩ := bindS H; refine S.st 2 rfl rfl ((Ca.indexAddr).quiet) (fun Q0 k0 => ix underlying25 info161 hb28 (L.nil k0)) ?_; refine S.st 3 rfl rfl (Qu.load) (fun Q0 k0 => le shape161 (L.nil k0)) ?_; refine S.st 4 rfl rfl (Qu.load) (fun Q0 k0 => lp shape161 (L.nil k0)) ?_; refine S.st 5 rfl rfl ((Ca.eqA (r := ((b28.A == v26.A) && ((b28.B == v26.B) && true))) rfl rfl rfl rfl (by kernel_rfl) (by kernel_rfl)).quiet) (fun Q0 k0 => L.eqA (r := ((b28.A == v26.A) && ((b28.B == v26.B) && true))) hF rfl rfl rfl rfl rfl rfl (by kernel_rfl) (by kernel_rfl) (L.nil k0)) ?_; refine S.nil ?_; refine cd H (fun hc H => ?_) (fun hc H => ?_)
   ·refine sg 1 ?_; cases H; exact WpC.ret rt
   ·refine WpC.skip (WpC.regionL ?_); refine gn 3 ?_; exact ⟨k2, _, by omega, ⟨v24, (IntKind.i64.wrap (v25 + 1)), v26, by omega, H, rfl⟩, lm [(0, 0)] hm⟩
  ·refine WpC.exit (sr ?_); refine gn 1 ?_; cases H; exact WpC.ret rt
/-! ### S_l6Pairs -/
def S_l6Pairs.j8 (cl7 : (List T_Pair) → Int → Bool → Int → Option Bool) (k : Nat) (v140 : List T_Pair) (v141 : Int) (v142 : Bool) (v143 : Int) : Option Bool := cl7 v140 v141 v142 (IntKind.i64.wrap (v143 + 1))
def S_l6Pairs.l7 : Nat → (List T_Pair) → Int → Bool → Int → Option Bool
 | 0, _, _, _, _ => none
 | k7 + 1, v127, v128, v129, v130 => cond (decide (v130 < (v127.length : Int))) ((at? v127 v130).bind fun b144 => cond (decide (b144.A < 0)) (some false) (cond (decide (b144.A ≥ v128)) (some false) (cond (decide (b144.B < 0)) (some false) (cond (decide (b144.B ≥ v128)) (some false) (cond v129 (cond (b144.A == b144.B) (some false) ((part? v127 0 v130).bind fun b155 => (S_l6Has k7 b155 b144).bind fun r156 => cond r156 (some false) (S_l6Pairs.j8 (S_l6Pairs.l7 k7) k7 v127 v128 v129 v130))) ((part? v127 0 v130).bind fun b157 => (S_l6Has k7 b157 b144).bind fun r158 => cond r158 (some false) (S_l6Pairs.j8 (S_l6Pairs.l7 k7) k7 v127 v128 v129 v130))))))) (some true)
def S_l6Pairs (k : Nat) (a0 : List T_Pair) (a1 : Int) (a2 : Bool) : Option Bool := cond (decide ((a0.length : Int) > 6)) (some false) (S_l6Pairs.l7 k a0 a1 a2 0)
theorem ent136 : MG.Enters Tryz.prog 136 := en func136
theorem g136 (k : Nat) (g0 : Bool) (a0 : List T_Pair) (a1 : Int) (a2 r : Bool) (H : S_l6Pairs k a0 a1 a2 = some r) : Gives Tryz.prog 136 [V.one (Cell.sl g0 (List.map eT_Pair a0)), V.one (cI a1), V.one (cL a2)] [] [V.one (cL r)] [] := by
 refine Gives.intro func136 rfl rfl rfl rfl ?_; refine fx fun w0 T S0 ob oh hm => ?_
 have hF := fxe w0 T S0 59 ob oh
 unfold S_l6Pairs at H; obtain ⟨K, hK⟩ := leK k; refine sg 1 ?_; refine WpC.seq (sr ?_); refine mv ?_; refine L.lenR (xs := a0) (e := eT_Pair) underlying25 hF rfl rfl rfl rfl ?_; refine gn 1 ?_; refine cd H (fun hc H => ?_) (fun hc H => ?_)
 ·refine sg 1 ?_; cases H; exact WpC.ret rt
 ·refine WpC.skip (WpC.seq (sr ?_)); refine gn 1 ?_; refine WpC.block ?_; refine WpC.loopL (P := Tryz.prog) (fun n σ => ∃ (v127 : List T_Pair) (v128 : Int) (v129 : Bool) (v130 : Int), n ≤ K ∧ S_l6Pairs.l7 n v127 v128 v129 v130 = some r ∧ σ = mkSt [(0, MG.one (Cell.sl g0 (List.map eT_Pair v127))), (1, oI v128), (2, oL v129), (7, oI v130)] [] [] 0) k ⟨_, ⟨a0, a1, a2, 0, by omega, H, rfl⟩, lm [] hm⟩ ?_; clear H
  rintro k7 _ ⟨v127, v128, v129, v130, hk7, H, rfl⟩
  cases k7 with
  | zero => cases H
  | succ k7 =>
   rw [S_l6Pairs.l7] at H
   refine WpC.seq (sr ?_); refine go 2 ?_; refine L.lenR (xs := v127) (e := eT_Pair) underlying25 hF rfl rfl rfl rfl ?_; refine gn 1 ?_; refine cd H (fun hc H => ?_) (fun hc H => ?_)
   ·refine WpC.skip ?_; refine WpC.join (fun σ => ∃ (kj8 : Nat) (v140 : List T_Pair) (v141 : Int) (v142 : Bool) (v143 : Int), kj8 ≤ K ∧ S_l6Pairs.j8 (S_l6Pairs.l7 k7) kj8 v140 v141 v142 v143 = some r ∧ σ = mkSt [(0, MG.one (Cell.sl g0 (List.map eT_Pair v140))), (1, oI v141), (2, oL v142), (7, oI v143)] [] [] 0) ?_ ?_
    ·rintro _ ⟨kj8, v140, v141, v142, v143, hkj8, H, rfl⟩
     unfold S_l6Pairs.j8 at H; refine WpC.regionL ?_; refine gn 3 ?_; exact ⟨k7, _, by omega, ⟨v140, v141, v142, (IntKind.i64.wrap (v143 + 1)), by omega, H, rfl⟩, lm [] hm⟩
    ·refine WpC.block (sr ?_); refine go 2 ?_; obtain ⟨b144, hb144, H⟩ := bindS H; refine ix underlying25 info161 hb144 ?_; refine le shape161 ?_; refine alc 0 info161 ?_; refine gn 1 ?_; refine WpC.seq ?_
     rcases Bool.eq_false_or_eq_true ((decide (b144.A < 0))) with hc149 | hc149
     ·replace H := condT hc149 H
      refine A.begin mixed rfl rfl ?_; intro W hI hO; refine hI _ _ _ ?_; refine tF 0 underlying161 info3 ?_; refine A.all [1] (by kernel_rfl) rfl ⟨⟨_, rfl, ?_⟩, trivial⟩; refine gn 1 ?_; refine Atk 2 rfl (Ca.bin rfl rfl (calm_int _ _ _ _ _ _ _ _)) (fun Q0 k0 => bi (L.nil k0)) ?_; refine tM 3 ?_; refine A.le (τ := mkSt [(0, MG.one (Cell.sl g0 (List.map eT_Pair v127))), (1, oI v128), (2, oL v129), (7, oI v130), (8, oP 0 0), (25, oL true)] [] [(0, [cI b144.A, cI b144.B])] 1) (Le.mk [(0, 0)] hm rfl (Sa4 (Sa1 (Sa1 trivial rfl (congrArg (fun b => some (MG.one (cL b))) hc149)))) trivial (Ba1 trivial)) ?_; refine tO 4 ?_; refine tO 5 ?_; refine tO 6 ?_; refine tO 7 ?_; refine tP 8 ?_; refine tM 9 ?_; refine tO 10 ?_; refine tO 11 ?_; refine tO 12 ?_; refine tP 13 ?_; refine A.le (τ := mkSt [(0, MG.one (Cell.sl g0 (List.map eT_Pair v127))), (1, oI v128), (2, oL v129), (7, oI v130), (8, oP 0 0), (35, oL true)] [] [(0, [cI b144.A, cI b144.B])] 1) (lm [(0, 0)] hm) ?_; refine tM 14 ?_
      refine tO 15 ?_; refine tO 16 ?_; refine tO 17 ?_; refine tO 18 ?_; refine tP 19 ?_; refine tM 20 ?_; refine tO 21 ?_; refine tO 22 ?_; refine tO 23 ?_; refine A.le (τ := mkSt [(0, MG.one (Cell.sl g0 (List.map eT_Pair v127))), (1, oI v128), (2, oL v129), (7, oI v130), (8, oP 0 0), (42, oL true), (44, Slot.tup []), (45, Slot.tup [])] [] [(0, [cI b144.A, cI b144.B])] 1) (lm [(0, 0)] hm) ?_; refine tO 24 ?_; refine tO 25 ?_; refine tO 26 ?_; refine tO 27 ?_; refine tO 28 ?_; refine tP 29 ?_; refine tM 30 ?_; refine tO 31 ?_; refine tO 32 ?_; refine tO 33 ?_; refine A.le (τ := mkSt [(0, MG.one (Cell.sl g0 (List.map eT_Pair v127))), (1, oI v128), (2, oL v129), (7, oI v130), (8, oP 0 0), (52, oL true), (55, Slot.tup [])] [] [(0, [cI b144.A, cI b144.B])] 1) (lm [(0, 0)] hm) ?_; refine tO 34 ?_; refine A.all [35] (by kernel_rfl) rfl ⟨⟨_, rfl, ?_⟩, trivial⟩; refine gn 1 ?_; refine tP 36 ?_
      refine A.le (τ := mkSt [(0, MG.one (Cell.sl g0 (List.map eT_Pair v127))), (1, oI v128), (2, oL v129), (7, oI v130), (58, oL true)] [] [] 0) (lm [] hm) ?_; refine A.done (by kernel_rfl) ?_; refine cT ?_; refine sg 1 ?_; cases H; exact WpC.ret rt
     ·replace H := condF hc149 H
      rcases Bool.eq_false_or_eq_true ((decide (b144.A ≥ v128))) with hc150 | hc150
      ·replace H := condT hc150 H
       refine A.begin mixed rfl rfl ?_; intro W hI hO; refine hI _ _ _ ?_; refine tF 0 underlying161 info3 ?_; refine A.all [1] (by kernel_rfl) rfl ⟨⟨_, rfl, ?_⟩, trivial⟩; refine gn 1 ?_; refine Atk 2 rfl (Ca.bin rfl rfl (calm_int _ _ _ _ _ _ _ _)) (fun Q0 k0 => bi (L.nil k0)) ?_; refine tM 3 ?_; refine A.le (τ := mkSt [(0, MG.one (Cell.sl g0 (List.map eT_Pair v127))), (1, oI v128), (2, oL v129), (7, oI v130), (8, oP 0 0), (25, oL false)] [] [(0, [cI b144.A, cI b144.B])] 1) (Le.mk [(0, 0)] hm rfl (Sa4 (Sa1 (Sa1 trivial rfl (congrArg (fun b => some (MG.one (cL b))) hc149)))) trivial (Ba1 trivial)) ?_; refine tF 4 underlying161 info3 ?_; refine tM 6 ?_; refine A.all [5] (by kernel_rfl) rfl ⟨⟨_, rfl, ?_⟩, trivial⟩; refine gn 1 ?_; refine Atk 7 rfl (Ca.bin rfl rfl (calm_int _ _ _ _ _ _ _ _)) (fun Q0 k0 => bi (L.nil k0)) ?_; refine tP 8 ?_; refine tM 9 ?_
       refine A.le (τ := mkSt [(0, MG.one (Cell.sl g0 (List.map eT_Pair v127))), (1, oI v128), (2, oL v129), (7, oI v130), (8, oP 0 0), (31, oL true)] [] [(0, [cI b144.A, cI b144.B])] 1) (Le.mk [(0, 0)] hm rfl (Sa4 (Sa1 (Sa1 trivial rfl (congrArg (fun b => some (MG.one (cL b))) hc150)))) trivial (Ba1 trivial)) ?_; refine tO 10 ?_; refine tO 11 ?_; refine tO 12 ?_; refine tP 13 ?_; refine tM 14 ?_; refine tO 15 ?_; refine tO 16 ?_; refine tO 17 ?_; refine tO 18 ?_; refine tP 19 ?_; refine A.le (τ := mkSt [(0, MG.one (Cell.sl g0 (List.map eT_Pair v127))), (1, oI v128), (2, oL v129), (7, oI v130), (8, oP 0 0), (41, oL true)] [] [(0, [cI b144.A, cI b144.B])] 1) (lm [(0, 0)] hm) ?_; refine tM 20 ?_; refine tO 21 ?_; refine tO 22 ?_; refine tO 23 ?_; refine tO 24 ?_; refine tO 25 ?_; refine tO 26 ?_; refine tO 27 ?_; refine tO 28 ?_; refine tP 29 ?_
       refine A.le (τ := mkSt [(0, MG.one (Cell.sl g0 (List.map eT_Pair v127))), (1, oI v128), (2, oL v129), (7, oI v130), (8, oP 0 0), (51, oL true)] [] [(0, [cI b144.A, cI b144.B])] 1) (lm [(0, 0)] hm) ?_; refine tM 30 ?_; refine tO 31 ?_; refine tO 32 ?_; refine tO 33 ?_; refine tO 34 ?_; refine A.all [35] (by kernel_rfl) rfl ⟨⟨_, rfl, ?_⟩, trivial⟩; refine gn 1 ?_; refine tP 36 ?_; refine A.le (τ := mkSt [(0, MG.one (Cell.sl g0 (List.map eT_Pair v127))), (1, oI v128), (2, oL v129), (7, oI v130), (58, oL true)] [] [] 0) (lm [] hm) ?_; refine A.done (by kernel_rfl) ?_; refine cT ?_; refine sg 1 ?_; cases H; exact WpC.ret rt
      ·replace H := condF hc150 H
       rcases Bool.eq_false_or_eq_true ((decide (b144.B < 0))) with hc151 | hc151
       ·replace H := condT hc151 H
        refine A.begin mixed rfl rfl ?_; intro W hI hO; refine hI _ _ _ ?_; refine tF 0 underlying161 info3 ?_; refine A.all [1] (by kernel_rfl) rfl ⟨⟨_, rfl, ?_⟩, trivial⟩; refine gn 1 ?_; refine Atk 2 rfl (Ca.bin rfl rfl (calm_int _ _ _ _ _ _ _ _)) (fun Q0 k0 => bi (L.nil k0)) ?_; refine tM 3 ?_; refine A.le (τ := mkSt [(0, MG.one (Cell.sl g0 (List.map eT_Pair v127))), (1, oI v128), (2, oL v129), (7, oI v130), (8, oP 0 0), (25, oL false)] [] [(0, [cI b144.A, cI b144.B])] 1) (Le.mk [(0, 0)] hm rfl (Sa4 (Sa1 (Sa1 trivial rfl (congrArg (fun b => some (MG.one (cL b))) hc149)))) trivial (Ba1 trivial)) ?_; refine tF 4 underlying161 info3 ?_; refine tM 6 ?_; refine A.all [5] (by kernel_rfl) rfl ⟨⟨_, rfl, ?_⟩, trivial⟩; refine gn 1 ?_; refine Atk 7 rfl (Ca.bin rfl rfl (calm_int _ _ _ _ _ _ _ _)) (fun Q0 k0 => bi (L.nil k0)) ?_; refine tP 8 ?_; refine tM 9 ?_
        refine A.le (τ := mkSt [(0, MG.one (Cell.sl g0 (List.map eT_Pair v127))), (1, oI v128), (2, oL v129), (7, oI v130), (8, oP 0 0), (31, oL false)] [] [(0, [cI b144.A, cI b144.B])] 1) (Le.mk [(0, 0)] hm rfl (Sa4 (Sa1 (Sa1 trivial rfl (congrArg (fun b => some (MG.one (cL b))) hc150)))) trivial (Ba1 trivial)) ?_; refine tF 10 underlying161 info3 ?_; refine A.all [11] (by kernel_rfl) rfl ⟨⟨_, rfl, ?_⟩, trivial⟩; refine gn 1 ?_; refine Atk 12 rfl (Ca.bin rfl rfl (calm_int _ _ _ _ _ _ _ _)) (fun Q0 k0 => bi (L.nil k0)) ?_; refine tP 13 ?_; refine tM 14 ?_; refine A.le (τ := mkSt [(0, MG.one (Cell.sl g0 (List.map eT_Pair v127))), (1, oI v128), (2, oL v129), (7, oI v130), (8, oP 0 0), (36, oL true)] [] [(0, [cI b144.A, cI b144.B])] 1) (Le.mk [(0, 0)] hm rfl (Sa4 (Sa1 (Sa1 trivial rfl (congrArg (fun b => some (MG.one (cL b))) hc151)))) trivial (Ba1 trivial)) ?_; refine tO 15 ?_; refine tO 16 ?_; refine tO 17 ?_; refine tO 18 ?_; refine tP 19 ?_; refine tM 20 ?_; refine tO 21 ?_; refine tO 22 ?_; refine tO 23 ?_; refine tO 24 ?_
        refine A.le (τ := mkSt [(0, MG.one (Cell.sl g0 (List.map eT_Pair v127))), (1, oI v128), (2, oL v129), (7, oI v130), (8, oP 0 0), (42, oL true), (44, Slot.tup []), (46, Slot.tup [])] [] [(0, [cI b144.A, cI b144.B])] 1) (lm [(0, 0)] hm) ?_; refine tO 25 ?_; refine tO 26 ?_; refine tO 27 ?_; refine tO 28 ?_; refine tP 29 ?_; refine tM 30 ?_; refine tO 31 ?_; refine tO 32 ?_; refine tO 33 ?_; refine tO 34 ?_; refine A.le (τ := mkSt [(0, MG.one (Cell.sl g0 (List.map eT_Pair v127))), (1, oI v128), (2, oL v129), (7, oI v130), (52, oL true), (55, Slot.tup []), (56, Slot.tup [])] [] [] 0) (lm [] hm) ?_; refine A.all [35] (by kernel_rfl) rfl ⟨⟨_, rfl, ?_⟩, trivial⟩; refine gn 1 ?_; refine tP 36 ?_; refine A.le (τ := mkSt [(0, MG.one (Cell.sl g0 (List.map eT_Pair v127))), (1, oI v128), (2, oL v129), (7, oI v130), (58, oL true)] [] [] 0) (lm [] hm) ?_; refine A.done (by kernel_rfl) ?_; refine cT ?_; refine sg 1 ?_; cases H; exact WpC.ret rt
       ·replace H := condF hc151 H
        rcases Bool.eq_false_or_eq_true ((decide (b144.B ≥ v128))) with hc152 | hc152
        ·replace H := condT hc152 H
         refine A.begin mixed rfl rfl ?_; intro W hI hO; refine hI _ _ _ ?_; refine tF 0 underlying161 info3 ?_; refine A.all [1] (by kernel_rfl) rfl ⟨⟨_, rfl, ?_⟩, trivial⟩; refine gn 1 ?_; refine Atk 2 rfl (Ca.bin rfl rfl (calm_int _ _ _ _ _ _ _ _)) (fun Q0 k0 => bi (L.nil k0)) ?_; refine tM 3 ?_; refine A.le (τ := mkSt [(0, MG.one (Cell.sl g0 (List.map eT_Pair v127))), (1, oI v128), (2, oL v129), (7, oI v130), (8, oP 0 0), (25, oL false)] [] [(0, [cI b144.A, cI b144.B])] 1) (Le.mk [(0, 0)] hm rfl (Sa4 (Sa1 (Sa1 trivial rfl (congrArg (fun b => some (MG.one (cL b))) hc149)))) trivial (Ba1 trivial)) ?_; refine tF 4 underlying161 info3 ?_; refine tM 6 ?_; refine A.all [5] (by kernel_rfl) rfl ⟨⟨_, rfl, ?_⟩, trivial⟩; refine gn 1 ?_; refine Atk 7 rfl (Ca.bin rfl rfl (calm_int _ _ _ _ _ _ _ _)) (fun Q0 k0 => bi (L.nil k0)) ?_; refine tP 8 ?_; refine tM 9 ?_
         refine A.le (τ := mkSt [(0, MG.one (Cell.sl g0 (List.map eT_Pair v127))), (1, oI v128), (2, oL v129), (7, oI v130), (8, oP 0 0), (31, oL false)] [] [(0, [cI b144.A, cI b144.B])] 1) (Le.mk [(0, 0)] hm rfl (Sa4 (Sa1 (Sa1 trivial rfl (congrArg (fun b => some (MG.one (cL b))) hc150)))) trivial (Ba1 trivial)) ?_; refine tF 10 underlying161 info3 ?_; refine A.all [11] (by kernel_rfl) rfl ⟨⟨_, rfl, ?_⟩, trivial⟩; refine gn 1 ?_; refine Atk 12 rfl (Ca.bin rfl rfl (calm_int _ _ _ _ _ _ _ _)) (fun Q0 k0 => bi (L.nil k0)) ?_; refine tP 13 ?_; refine tM 14 ?_; refine A.le (τ := mkSt [(0, MG.one (Cell.sl g0 (List.map eT_Pair v127))), (1, oI v128), (2, oL v129), (7, oI v130), (8, oP 0 0), (36, oL false)] [] [(0, [cI b144.A, cI b144.B])] 1) (Le.mk [(0, 0)] hm rfl (Sa4 (Sa1 (Sa1 trivial rfl (congrArg (fun b => some (MG.one (cL b))) hc151)))) trivial (Ba1 trivial)) ?_; refine tF 15 underlying161 info3 ?_; refine tM 17 ?_; refine A.all [16] (by kernel_rfl) rfl ⟨⟨_, rfl, ?_⟩, trivial⟩; refine gn 1 ?_
         refine Atk 18 rfl (Ca.bin rfl rfl (calm_int _ _ _ _ _ _ _ _)) (fun Q0 k0 => bi (L.nil k0)) ?_; refine tP 19 ?_; refine tM 20 ?_; refine A.le (τ := mkSt [(0, MG.one (Cell.sl g0 (List.map eT_Pair v127))), (1, oI v128), (2, oL v129), (7, oI v130), (8, oP 0 0), (42, oL true)] [] [(0, [cI b144.A, cI b144.B])] 1) (Le.mk [(0, 0)] hm rfl (Sa4 (Sa1 (Sa1 trivial rfl (congrArg (fun b => some (MG.one (cL b))) hc152)))) trivial (Ba1 trivial)) ?_; refine tO 21 ?_; refine tO 22 ?_; refine tO 23 ?_; refine tO 24 ?_; refine tO 25 ?_; refine tO 26 ?_; refine tO 27 ?_; refine tO 28 ?_; refine tP 29 ?_; refine tM 30 ?_; refine A.le (τ := mkSt [(0, MG.one (Cell.sl g0 (List.map eT_Pair v127))), (1, oI v128), (2, oL v129), (7, oI v130), (8, oP 0 0), (52, oL true)] [] [(0, [cI b144.A, cI b144.B])] 1) (lm [(0, 0)] hm) ?_; refine tO 31 ?_; refine tO 32 ?_; refine tO 33 ?_; refine tO 34 ?_; refine A.all [35] (by kernel_rfl) rfl ⟨⟨_, rfl, ?_⟩, trivial⟩; refine gn 1 ?_; refine tP 36 ?_
         refine A.le (τ := mkSt [(0, MG.one (Cell.sl g0 (List.map eT_Pair v127))), (1, oI v128), (2, oL v129), (7, oI v130), (58, oL true)] [] [] 0) (lm [] hm) ?_; refine A.done (by kernel_rfl) ?_; refine cT ?_; refine sg 1 ?_; cases H; exact WpC.ret rt
        ·replace H := condF hc152 H
         rcases Bool.eq_false_or_eq_true (v129) with hc153 | hc153
         ·replace H := condT hc153 H
          rcases Bool.eq_false_or_eq_true ((b144.A == b144.B)) with hc154 | hc154
          ·replace H := condT hc154 H
           refine A.begin mixed rfl rfl ?_; intro W hI hO
           have n134217727 : W 10 #[true, true, true, true, true, true, true, true, true, true, true, true, true, true, true, true, true, true, true, true, true, true, true, true, true, true, true, false, false, false, false, false, false, false, false, false, false] (mkSt [(0, MG.one (Cell.sl g0 (List.map eT_Pair v127))), (1, oI v128), (2, oL v129), (7, oI v130), (8, oP 0 0), (42, oL false), (44, oL true), (46, oI b144.A), (48, oI b144.B)] [] [(0, [cI b144.A, cI b144.B])] 1) := by
            refine hI _ _ _ ?_; refine Atk 27 rfl (Ca.bin rfl rfl (calm_int _ _ _ _ _ _ _ _)) (fun Q0 k0 => bi (L.nil k0)) ?_; refine tP 28 ?_; refine tP 29 ?_; refine tM 30 ?_; refine A.le (τ := mkSt [(0, MG.one (Cell.sl g0 (List.map eT_Pair v127))), (1, oI v128), (2, oL v129), (7, oI v130), (8, oP 0 0), (52, oL true)] [] [(0, [cI b144.A, cI b144.B])] 1) (Le.mk [(0, 0)] hm rfl (Sa4 (Sa1 (Sa1 trivial rfl (congrArg (fun b => some (MG.one (cL b))) hc154)))) trivial (Ba1 trivial)) ?_; refine tO 31 ?_; refine tO 32 ?_; refine tO 33 ?_; refine tO 34 ?_; refine A.all [35] (by kernel_rfl) rfl ⟨⟨_, rfl, ?_⟩, trivial⟩; refine gn 1 ?_; refine tP 36 ?_; refine A.le (τ := mkSt [(0, MG.one (Cell.sl g0 (List.map eT_Pair v127))), (1, oI v128), (2, oL v129), (7, oI v130), (58, oL true)] [] [] 0) (lm [] hm) ?_; refine A.done (by kernel_rfl) ?_; refine cT ?_; refine sg 1 ?_; cases H; exact WpC.ret rt
           refine hI _ _ _ ?_; refine tF 0 underlying161 info3 ?_; refine A.all [1] (by kernel_rfl) rfl ⟨⟨_, rfl, ?_⟩, trivial⟩; refine gn 1 ?_; refine Atk 2 rfl (Ca.bin rfl rfl (calm_int _ _ _ _ _ _ _ _)) (fun Q0 k0 => bi (L.nil k0)) ?_; refine tM 3 ?_; refine A.le (τ := mkSt [(0, MG.one (Cell.sl g0 (List.map eT_Pair v127))), (1, oI v128), (2, oL v129), (7, oI v130), (8, oP 0 0), (25, oL false)] [] [(0, [cI b144.A, cI b144.B])] 1) (Le.mk [(0, 0)] hm rfl (Sa4 (Sa1 (Sa1 trivial rfl (congrArg (fun b => some (MG.one (cL b))) hc149)))) trivial (Ba1 trivial)) ?_; refine tF 4 underlying161 info3 ?_; refine tM 6 ?_; refine A.all [5] (by kernel_rfl) rfl ⟨⟨_, rfl, ?_⟩, trivial⟩; refine gn 1 ?_; refine Atk 7 rfl (Ca.bin rfl rfl (calm_int _ _ _ _ _ _ _ _)) (fun Q0 k0 => bi (L.nil k0)) ?_; refine tP 8 ?_; refine tM 9 ?_
           refine A.le (τ := mkSt [(0, MG.one (Cell.sl g0 (List.map eT_Pair v127))), (1, oI v128), (2, oL v129), (7, oI v130), (8, oP 0 0), (31, oL false)] [] [(0, [cI b144.A, cI b144.B])] 1) (Le.mk [(0, 0)] hm rfl (Sa4 (Sa1 (Sa1 trivial rfl (congrArg (fun b => some (MG.one (cL b))) hc150)))) trivial (Ba1 trivial)) ?_; refine tF 10 underlying161 info3 ?_; refine A.all [11] (by kernel_rfl) rfl ⟨⟨_, rfl, ?_⟩, trivial⟩; refine gn 1 ?_; refine Atk 12 rfl (Ca.bin rfl rfl (calm_int _ _ _ _ _ _ _ _)) (fun Q0 k0 => bi (L.nil k0)) ?_; refine tP 13 ?_; refine tM 14 ?_; refine A.le (τ := mkSt [(0, MG.one (Cell.sl g0 (List.map eT_Pair v127))), (1, oI v128), (2, oL v129), (7, oI v130), (8, oP 0 0), (36, oL false)] [] [(0, [cI b144.A, cI b144.B])] 1) (Le.mk [(0, 0)] hm rfl (Sa4 (Sa1 (Sa1 trivial rfl (congrArg (fun b => some (MG.one (cL b))) hc151)))) trivial (Ba1 trivial)) ?_; refine tF 15 underlying161 info3 ?_; refine tM 17 ?_; refine A.all [16] (by kernel_rfl) rfl ⟨⟨_, rfl, ?_⟩, trivial⟩; refine gn 1 ?_
           refine Atk 18 rfl (Ca.bin rfl rfl (calm_int _ _ _ _ _ _ _ _)) (fun Q0 k0 => bi (L.nil k0)) ?_; refine tP 19 ?_; refine tM 20 ?_; refine A.le (τ := mkSt [(0, MG.one (Cell.sl g0 (List.map eT_Pair v127))), (1, oI v128), (2, oL v129), (7, oI v130), (8, oP 0 0), (42, oL false)] [] [(0, [cI b144.A, cI b144.B])] 1) (Le.mk [(0, 0)] hm rfl (Sa4 (Sa1 (Sa1 trivial rfl (congrArg (fun b => some (MG.one (cL b))) hc152)))) trivial (Ba1 trivial)) ?_; refine tM 21 ?_; refine tM 22 ?_; refine A.le (τ := mkSt [(0, MG.one (Cell.sl g0 (List.map eT_Pair v127))), (1, oI v128), (2, oL v129), (7, oI v130), (8, oP 0 0), (42, oL false), (44, oL true)] [] [(0, [cI b144.A, cI b144.B])] 1) (Le.mk [(0, 0)] hm rfl (Sa4 (Sa2 (Sa1 trivial rfl (congrArg (fun b => some (MG.one (cL b))) hc153)))) trivial (Ba1 trivial)) ?_; refine tF 23 underlying161 info3 ?_; refine tF 25 underlying161 info3 ?_; refine A.all [24, 26] (by kernel_rfl) rfl ⟨⟨_, rfl, ?_⟩, ⟨_, rfl, ?_⟩, trivial⟩
           ·refine gn 1 ?_; refine A.all [26] (by kernel_rfl) rfl ⟨⟨_, rfl, ?_⟩, trivial⟩; refine gn 1 ?_; exact A.on (hO _ _ _ n134217727) (lm [(0, 0)] hm)
           ·refine gn 1 ?_; refine A.all [24] (by kernel_rfl) rfl ⟨⟨_, rfl, ?_⟩, trivial⟩; refine gn 1 ?_; exact A.on (hO _ _ _ n134217727) (lm [(0, 0)] hm)
          ·replace H := condF hc154 H
           obtain ⟨b155, hb155, H⟩ := bindS H; obtain ⟨r156, hr156, H⟩ := bindS H; refine A.begin mixed rfl rfl ?_; intro W hI hO
           have n134217727 : W 10 #[true, true, true, true, true, true, true, true, true, true, true, true, true, true, true, true, true, true, true, true, true, true, true, true, true, true, true, false, false, false, false, false, false, false, false, false, false] (mkSt [(0, MG.one (Cell.sl g0 (List.map eT_Pair v127))), (1, oI v128), (2, oL v129), (7, oI v130), (8, oP 0 0), (42, oL false), (44, oL true), (46, oI b144.A), (48, oI b144.B)] [] [(0, [cI b144.A, cI b144.B])] 1) := by
            refine hI _ _ _ ?_; refine Atk 27 rfl (Ca.bin rfl rfl (calm_int _ _ _ _ _ _ _ _)) (fun Q0 k0 => bi (L.nil k0)) ?_; refine tP 28 ?_; refine tP 29 ?_; refine tM 30 ?_; refine A.le (τ := mkSt [(0, MG.one (Cell.sl g0 (List.map eT_Pair v127))), (1, oI v128), (2, oL v129), (7, oI v130), (8, oP 0 0), (52, oL false)] [] [(0, [cI b144.A, cI b144.B])] 1) (Le.mk [(0, 0)] hm rfl (Sa4 (Sa1 (Sa1 trivial rfl (congrArg (fun b => some (MG.one (cL b))) hc154)))) trivial (Ba1 trivial)) ?_; refine tM 31 ?_; refine tM 32 ?_; refine Atk 33 rfl (Ca.slice) (fun Q0 k0 => L.cutR (xs := v127) (ys := b155) (e := eT_Pair) underlying25 info161 hF rfl rfl rfl rfl rfl hb155 (fun _ => rfl) (L.nil k0)) ?_; refine A.all [34] (by kernel_rfl) rfl ⟨⟨_, rfl, ?_⟩, trivial⟩; refine gn 1 ?_; refine A.all [35] (by kernel_rfl) rfl ⟨⟨_, rfl, ?_⟩, trivial⟩; refine c0 1 ent139 (g139 k7 g0 b155 b144 r156 hr156) (L.nil ?_); refine tP 36 ?_; refine A.le (τ := mkSt [(0, MG.one (Cell.sl g0 (List.map eT_Pair v127))), (1, oI v128), (2, oL v129), (7, oI v130), (58, oL r156)] [] [] 0) (lm [] hm) ?_
            refine A.done (by kernel_rfl) ?_; refine cd H (fun hc H => ?_) (fun hc H => ?_)
            ·refine sg 1 ?_; cases H; exact WpC.ret rt
            ·refine WpC.skip ?_; exact ⟨_, ⟨k7, v127, v128, v129, v130, by omega, H, rfl⟩, lm [] hm⟩
           refine hI _ _ _ ?_; refine tF 0 underlying161 info3 ?_; refine A.all [1] (by kernel_rfl) rfl ⟨⟨_, rfl, ?_⟩, trivial⟩; refine gn 1 ?_; refine Atk 2 rfl (Ca.bin rfl rfl (calm_int _ _ _ _ _ _ _ _)) (fun Q0 k0 => bi (L.nil k0)) ?_; refine tM 3 ?_; refine A.le (τ := mkSt [(0, MG.one (Cell.sl g0 (List.map eT_Pair v127))), (1, oI v128), (2, oL v129), (7, oI v130), (8, oP 0 0), (25, oL false)] [] [(0, [cI b144.A, cI b144.B])] 1) (Le.mk [(0, 0)] hm rfl (Sa4 (Sa1 (Sa1 trivial rfl (congrArg (fun b => some (MG.one (cL b))) hc149)))) trivial (Ba1 trivial)) ?_; refine tF 4 underlying161 info3 ?_; refine tM 6 ?_; refine A.all [5] (by kernel_rfl) rfl ⟨⟨_, rfl, ?_⟩, trivial⟩; refine gn 1 ?_; refine Atk 7 rfl (Ca.bin rfl rfl (calm_int _ _ _ _ _ _ _ _)) (fun Q0 k0 => bi (L.nil k0)) ?_; refine tP 8 ?_; refine tM 9 ?_
           refine A.le (τ := mkSt [(0, MG.one (Cell.sl g0 (List.map eT_Pair v127))), (1, oI v128), (2, oL v129), (7, oI v130), (8, oP 0 0), (31, oL false)] [] [(0, [cI b144.A, cI b144.B])] 1) (Le.mk [(0, 0)] hm rfl (Sa4 (Sa1 (Sa1 trivial rfl (congrArg (fun b => some (MG.one (cL b))) hc150)))) trivial (Ba1 trivial)) ?_; refine tF 10 underlying161 info3 ?_; refine A.all [11] (by kernel_rfl) rfl ⟨⟨_, rfl, ?_⟩, trivial⟩; refine gn 1 ?_; refine Atk 12 rfl (Ca.bin rfl rfl (calm_int _ _ _ _ _ _ _ _)) (fun Q0 k0 => bi (L.nil k0)) ?_; refine tP 13 ?_; refine tM 14 ?_; refine A.le (τ := mkSt [(0, MG.one (Cell.sl g0 (List.map eT_Pair v127))), (1, oI v128), (2, oL v129), (7, oI v130), (8, oP 0 0), (36, oL false)] [] [(0, [cI b144.A, cI b144.B])] 1) (Le.mk [(0, 0)] hm rfl (Sa4 (Sa1 (Sa1 trivial rfl (congrArg (fun b => some (MG.one (cL b))) hc151)))) trivial (Ba1 trivial)) ?_; refine tF 15 underlying161 info3 ?_; refine tM 17 ?_; refine A.all [16] (by kernel_rfl) rfl ⟨⟨_, rfl, ?_⟩, trivial⟩; refine gn 1 ?_
           refine Atk 18 rfl (Ca.bin rfl rfl (calm_int _ _ _ _ _ _ _ _)) (fun Q0 k0 => bi (L.nil k0)) ?_; refine tP 19 ?_; refine tM 20 ?_; refine A.le (τ := mkSt [(0, MG.one (Cell.sl g0 (List.map eT_Pair v127))), (1, oI v128), (2, oL v129), (7, oI v130), (8, oP 0 0), (42, oL false)] [] [(0, [cI b144.A, cI b144.B])] 1) (Le.mk [(0, 0)] hm rfl (Sa4 (Sa1 (Sa1 trivial rfl (congrArg (fun b => some (MG.one (cL b))) hc152)))) trivial (Ba1 trivial)) ?_; refine tM 21 ?_; refine tM 22 ?_; refine A.le (τ := mkSt [(0, MG.one (Cell.sl g0 (List.map eT_Pair v127))), (1, oI v128), (2, oL v129), (7, oI v130), (8, oP 0 0), (42, oL false), (44, oL true)] [] [(0, [cI b144.A, cI b144.B])] 1) (Le.mk [(0, 0)] hm rfl (Sa4 (Sa2 (Sa1 trivial rfl (congrArg (fun b => some (MG.one (cL b))) hc153)))) trivial (Ba1 trivial)) ?_; refine tF 23 underlying161 info3 ?_; refine tF 25 underlying161 info3 ?_; refine A.all [24, 26] (by kernel_rfl) rfl ⟨⟨_, rfl, ?_⟩, ⟨_, rfl, ?_⟩, trivial⟩
           ·refine gn 1 ?_; refine A.all [26] (by kernel_rfl) rfl ⟨⟨_, rfl, ?_⟩, trivial⟩; refine gn 1 ?_; exact A.on (hO _ _ _ n134217727) (lm [(0, 0)] hm)
           ·refine gn 1 ?_; refine A.all [24] (by kernel_rfl) rfl ⟨⟨_, rfl, ?_⟩, trivial⟩; refine gn 1 ?_; exact A.on (hO _ _ _ n134217727) (lm [(0, 0)] hm)
         ·replace H := condF hc153 H
          obtain ⟨b157, hb157, H⟩ := bindS H; obtain ⟨r158, hr158, H⟩ := bindS H; refine A.begin mixed rfl rfl ?_; intro W hI hO; refine hI _ _ _ ?_; refine tF 0 underlying161 info3 ?_; refine A.all [1] (by kernel_rfl) rfl ⟨⟨_, rfl, ?_⟩, trivial⟩; refine gn 1 ?_; refine Atk 2 rfl (Ca.bin rfl rfl (calm_int _ _ _ _ _ _ _ _)) (fun Q0 k0 => bi (L.nil k0)) ?_; refine tM 3 ?_; refine A.le (τ := mkSt [(0, MG.one (Cell.sl g0 (List.map eT_Pair v127))), (1, oI v128), (2, oL v129), (7, oI v130), (8, oP 0 0), (25, oL false)] [] [(0, [cI b144.A, cI b144.B])] 1) (Le.mk [(0, 0)] hm rfl (Sa4 (Sa1 (Sa1 trivial rfl (congrArg (fun b => some (MG.one (cL b))) hc149)))) trivial (Ba1 trivial)) ?_; refine tF 4 underlying161 info3 ?_; refine tM 6 ?_; refine A.all [5] (by kernel_rfl) rfl ⟨⟨_, rfl, ?_⟩, trivial⟩; refine gn 1 ?_; refine Atk 7 rfl (Ca.bin rfl rfl (calm_int _ _ _ _ _ _ _ _)) (fun Q0 k0 => bi (L.nil k0)) ?_; refine tP 8 ?_; refine tM 9 ?_
          refine A.le (τ := mkSt [(0, MG.one (Cell.sl g0 (List.map eT_Pair v127))), (1, oI v128), (2, oL v129), (7, oI v130), (8, oP 0 0), (31, oL false)] [] [(0, [cI b144.A, cI b144.B])] 1) (Le.mk [(0, 0)] hm rfl (Sa4 (Sa1 (Sa1 trivial rfl (congrArg (fun b => some (MG.one (cL b))) hc150)))) trivial (Ba1 trivial)) ?_; refine tF 10 underlying161 info3 ?_; refine A.all [11] (by kernel_rfl) rfl ⟨⟨_, rfl, ?_⟩, trivial⟩; refine gn 1 ?_; refine Atk 12 rfl (Ca.bin rfl rfl (calm_int _ _ _ _ _ _ _ _)) (fun Q0 k0 => bi (L.nil k0)) ?_; refine tP 13 ?_; refine tM 14 ?_; refine A.le (τ := mkSt [(0, MG.one (Cell.sl g0 (List.map eT_Pair v127))), (1, oI v128), (2, oL v129), (7, oI v130), (8, oP 0 0), (36, oL false)] [] [(0, [cI b144.A, cI b144.B])] 1) (Le.mk [(0, 0)] hm rfl (Sa4 (Sa1 (Sa1 trivial rfl (congrArg (fun b => some (MG.one (cL b))) hc151)))) trivial (Ba1 trivial)) ?_; refine tF 15 underlying161 info3 ?_; refine tM 17 ?_; refine A.all [16] (by kernel_rfl) rfl ⟨⟨_, rfl, ?_⟩, trivial⟩; refine gn 1 ?_
          refine Atk 18 rfl (Ca.bin rfl rfl (calm_int _ _ _ _ _ _ _ _)) (fun Q0 k0 => bi (L.nil k0)) ?_; refine tP 19 ?_; refine tM 20 ?_; refine A.le (τ := mkSt [(0, MG.one (Cell.sl g0 (List.map eT_Pair v127))), (1, oI v128), (2, oL v129), (7, oI v130), (8, oP 0 0), (42, oL false)] [] [(0, [cI b144.A, cI b144.B])] 1) (Le.mk [(0, 0)] hm rfl (Sa4 (Sa1 (Sa1 trivial rfl (congrArg (fun b => some (MG.one (cL b))) hc152)))) trivial (Ba1 trivial)) ?_; refine tM 21 ?_; refine tM 22 ?_; refine A.le (τ := mkSt [(0, MG.one (Cell.sl g0 (List.map eT_Pair v127))), (1, oI v128), (2, oL v129), (7, oI v130), (8, oP 0 0), (42, oL false), (44, oL false)] [] [(0, [cI b144.A, cI b144.B])] 1) (Le.mk [(0, 0)] hm rfl (Sa4 (Sa2 (Sa1 trivial rfl (congrArg (fun b => some (MG.one (cL b))) hc153)))) trivial (Ba1 trivial)) ?_; refine tO 23 ?_; refine tO 24 ?_; refine tO 25 ?_; refine tO 26 ?_; refine tO 27 ?_; refine tP 28 ?_; refine tP 29 ?_; refine tM 30 ?_; refine tM 31 ?_; refine tM 32 ?_
          refine A.le (τ := mkSt [(0, MG.one (Cell.sl g0 (List.map eT_Pair v127))), (1, oI v128), (2, oL v129), (7, oI v130), (8, oP 0 0), (52, oL false), (53, MG.one (Cell.sl g0 (List.map eT_Pair v127))), (54, oI v130)] [] [(0, [cI b144.A, cI b144.B])] 1) (lm [(0, 0)] hm) ?_; refine Atk 33 rfl (Ca.slice) (fun Q0 k0 => L.cutR (xs := v127) (ys := b157) (e := eT_Pair) underlying25 info161 hF rfl rfl rfl rfl rfl hb157 (fun _ => rfl) (L.nil k0)) ?_; refine A.all [34] (by kernel_rfl) rfl ⟨⟨_, rfl, ?_⟩, trivial⟩; refine gn 1 ?_; refine A.all [35] (by kernel_rfl) rfl ⟨⟨_, rfl, ?_⟩, trivial⟩; refine c0 1 ent139 (g139 k7 g0 b157 b144 r158 hr158) (L.nil ?_); refine tP 36 ?_; refine A.le (τ := mkSt [(0, MG.one (Cell.sl g0 (List.map eT_Pair v127))), (1, oI v128), (2, oL v129), (7, oI v130), (58, oL r158)] [] [] 0) (lm [] hm) ?_; refine A.done (by kernel_rfl) ?_; refine cd H (fun hc H => ?_) (fun hc H => ?_)
          ·refine sg 1 ?_; cases H; exact WpC.ret rt
          ·refine WpC.skip ?_; exact ⟨_, ⟨k7, v127, v128, v129, v130, by omega, H, rfl⟩, lm [] hm⟩
   ·refine WpC.exit (sr ?_); refine gn 1 ?_; cases H; exact WpC.ret rt
/-! ### S_l1In -/
def S_l1In (k : Nat) (a0 a1 a2 : Int) : Option Bool := cond (decide (a0 ≥ a1)) (some (decide (a0 ≤ a2))) (some false)
theorem ent53 : MG.Enters Tryz.prog 53 := en func53
theorem g53 (k : Nat) (a0 a1 a2 : Int) (r : Bool) (H : S_l1In k a0 a1 a2 = some r) : Gives Tryz.prog 53 [V.one (cI a0), V.one (cI a1), V.one (cI a2)] [] [V.one (cL r)] [] := by
 refine Gives.intro func53 rfl rfl rfl rfl ?_; refine fx fun w0 T S0 ob oh hm => ?_
 have hF := fxe w0 T S0 15 ob oh
 unfold S_l1In at H; obtain ⟨K, hK⟩ := leK k; refine sg 1 ?_; refine sy 4 ?_; refine sH H (fun hc H => ?_) (fun hc H => ?_)
 ·refine gn 5 ?_; cases H; exact WpC.ret rt
 ·refine gn 5 ?_; cases H; exact WpC.ret rt
/-! ### S_ConfigOk -/
def S_ConfigOk (k : Nat) (a0 : T_Config) : Option Bool := cond ((a0.UserRealm.length : Int) == 3) ((S_l5All k a0.UserRealm 3 3).bind fun r6 => cond r6 (cond ((a0.ServiceRealm.length : Int) == 3) ((S_l5All k a0.ServiceRealm 3 3).bind fun r7 => cond r7 ((S_l6Pairs k a0.Links 3 true).bind fun r8 => cond r8 ((S_l6Pairs k a0.Proxy 3 false).bind fun r9 => cond r9 ((S_l1In k a0.Skew 0 20).bind fun r10 => some r10) (some false)) (some false)) (some false)) (some false)) (some false)) (some false)
theorem ent50 : MG.Enters Tryz.prog 50 := en func50
theorem g50 (k : Nat) (g0 g1 g2 g3 : Bool) (a0 : T_Config) (r : Bool) (H : S_ConfigOk k a0 = some r) : Gives Tryz.prog 50 [V.agg (bT_Config g0 g1 g2 g3 a0)] [] [V.one (cL r)] [] := by
 refine Gives.intro func50 rfl rfl rfl rfl ?_; refine fx fun w0 T S0 ob oh hm => ?_
 have hF := fxe w0 T S0 38 ob oh
 unfold S_ConfigOk at H; obtain ⟨K, hK⟩ := leK k; refine sr ?_; refine bo 5 ?_; refine gn 1 ?_; refine sy 2 ?_; refine L.lenR (xs := a0.UserRealm) (e := eI) underlying24 hF rfl rfl rfl rfl ?_; refine go 2 ?_; refine sH H (fun hc H => ?_) (fun hc H => ?_)
 ·refine go 2 ?_; refine cB 6 ent135 (g135 k g0 a0.UserRealm 3 3) H fun r6 H => ?_; refine go 2 ?_; refine sH H (fun hc H => ?_) (fun hc H => ?_)
  ·refine go 2 ?_; refine L.lenR (xs := a0.ServiceRealm) (e := eI) underlying24 hF rfl rfl rfl rfl ?_; refine go 3 ?_; refine sH H (fun hc H => ?_) (fun hc H => ?_)
   ·refine go 2 ?_; refine cB 7 ent135 (g135 k g1 a0.ServiceRealm 3 3) H fun r7 H => ?_; refine go 2 ?_; refine sH H (fun hc H => ?_) (fun hc H => ?_)
    ·refine go 2 ?_; refine cB 8 ent136 (g136 k g2 a0.Links 3 true) H fun r8 H => ?_; refine go 2 ?_; refine sH H (fun hc H => ?_) (fun hc H => ?_)
     ·refine go 2 ?_; refine cB 9 ent136 (g136 k g3 a0.Proxy 3 false) H fun r9 H => ?_; refine go 2 ?_; refine sH H (fun hc H => ?_) (fun hc H => ?_)
      ·refine go 2 ?_; refine cB 10 ent53 (g53 k  a0.Skew 0 20) H fun r10 H => ?_; refine gn 2 ?_; cases H; exact WpC.ret rt
      ·refine gn 5 ?_; cases H; exact WpC.ret rt
     ·refine gn 10 ?_; cases H; exact WpC.ret rt
    ·refine gn 15 ?_; cases H; exact WpC.ret rt
   ·refine gn 20 ?_; cases H; exact WpC.ret rt
  ·refine gn 26 ?_; cases H; exact WpC.ret rt
 ·refine gn 31 ?_; cases H; exact WpC.ret rt
/-! ### S_Var -/
def S_Var.l2 : Nat → Int → (List UInt8) → Option (List UInt8)
 | 0, _, _ => none
 | k2 + 1, v16, v17 => cond (decide (v16 ≥ 128)) (cond (decide ((2 * (v17.length + ([(ofI (IntKind.i64.wrap (128 + (Int.tmod v16 128))))] : List UInt8).length) + 192) * 1 ≤ 281474976710656)) ((S_Var.l2 k2) (IntKind.i64.wrap (Int.tdiv v16 128)) (v17 ++ ([(ofI (IntKind.i64.wrap (128 + (Int.tmod v16 128))))] : List UInt8))) none) (cond (decide ((2 * (v17.length + ([(ofI v16)] : List UInt8).length) + 192) * 1 ≤ 281474976710656)) (some (v17 ++ ([(ofI v16)] : List UInt8))) none)
def S_Var (k : Nat) (a0 : Int) : Option (List UInt8) := (S_l1In k a0 0 562949953421311).bind fun r2 => cond (!r2) (some ([] : List UInt8)) (S_Var.l2 k a0 ([] : List UInt8))
theorem ent283 : MG.Enters Tryz.prog 283 := en func283
theorem g283 (k : Nat) (a0 : Int) (r : List UInt8) (H : S_Var k a0 = some r) : Gives Tryz.prog 283 [V.one (cI a0)] [] [V.one (cS r)] [] := by
 refine Gives.intro func283 rfl rfl rfl rfl ?_; refine fx fun w0 T S0 ob oh hm => ?_
 have hF := fxe w0 T S0 25 ob oh
 unfold S_Var at H; obtain ⟨K, hK⟩ := leK k; refine sg 1 ?_; refine WpC.seq (sr ?_); refine mv ?_; refine cB 1 ent53 (g53 k  a0 0 562949953421311) H fun r2 H => ?_; refine gn 1 ?_; refine cd H (fun hc H => ?_) (fun hc H => ?_)
 ·refine sg 1 ?_; cases H; exact WpC.ret rt
 ·refine WpC.skip (sr ?_); refine L.buildSlice (e := eB) 2 ([] : List UInt8) underlying22 info5 rfl rfl rfl hF rfl rfl rfl rfl rfl rfl rfl rfl ?_; refine gn 1 ?_; refine WpC.seq (WpC.block ?_); refine WpC.loopL (P := Tryz.prog) (fun n σ => ∃ (v16 : Int) (v17 : List UInt8), n ≤ K ∧ S_Var.l2 n v16 v17 = some r ∧ σ = mkSt [(0, oI v16), (3, MG.one (Cell.own 0))] [(0, ⟨1, List.map eB v17⟩)] [] 1) k ⟨_, ⟨a0, ([] : List UInt8), by omega, H, rfl⟩, lm [(0, 2)] hm⟩ ?_; clear H
  rintro k2 _ ⟨v16, v17, hk2, H, rfl⟩
  cases k2 with
  | zero => cases H
  | succ k2 =>
   rw [S_Var.l2] at H
   refine WpC.seq (sr ?_); refine gn 2 ?_; refine cd H (fun hc H => ?_) (fun hc H => ?_)
   ·refine WpC.skip (WpC.block (sr ?_)); refine go 2 ?_; refine L.rem hF rfl rfl rfl rfl (by decide) ?_; refine bi ?_; refine L.toB underlying3 underlying5 hF rfl rfl rfl ?_; refine L.buildSlice (e := eB) 1 ([(ofI (IntKind.i64.wrap (128 + (Int.tmod v16 128))))] : List UInt8) underlying22 info5 rfl rfl rfl hF rfl rfl rfl rfl rfl rfl rfl rfl ?_; obtain ⟨h18, H⟩ := condG H; refine L.append (xs := v17) (ys := ([(ofI (IntKind.i64.wrap (128 + (Int.tmod v16 128))))] : List UInt8)) (e := eB) 2 underlying22 info5 rfl rfl hF rfl rfl rfl rfl rfl rfl rfl rfl (fun _ => rfl) (fun _ _ h1 h2 => by cases h1; cases h2; rfl) ⟨_, underlying22⟩ (of_decide_eq_true h18) rfl rfl ?_; refine gn 1 ?_; refine WpC.regionL ?_; refine mv ?_; refine L.quo hF rfl rfl rfl rfl (by decide) ?_; refine gn 1 ?_; exact ⟨k2, _, by omega, ⟨(IntKind.i64.wrap (Int.tdiv v16 128)), (v17 ++ ([(ofI (IntKind.i64.wrap (128 + (Int.tmod v16 128))))] : List UInt8)), by omega, H, rfl⟩, lm [(0, 2)] hm⟩
   ·refine WpC.exit (sr ?_); refine go 2 ?_; refine L.toB underlying3 underlying5 hF rfl rfl rfl ?_; refine L.buildSlice (e := eB) 1 ([(ofI v16)] : List UInt8) underlying22 info5 rfl rfl rfl hF rfl rfl rfl rfl rfl rfl rfl rfl ?_; obtain ⟨h19, H⟩ := condG H; refine L.append (xs := v17) (ys := ([(ofI v16)] : List UInt8)) (e := eB) 2 underlying22 info5 rfl rfl hF rfl rfl rfl rfl rfl rfl rfl rfl (fun _ => rfl) (fun _ _ h1 h2 => by cases h1; cases h2; rfl) ⟨_, underlying22⟩ (of_decide_eq_true h19) rfl rfl ?_; refine L.b2s (xs := (v17 ++ ([(ofI v16)] : List UInt8))) underlying22 underlying5 underlying9 hF rfl rfl rfl rfl ?_; refine gn 1 ?_; cases H; exact WpC.ret rt
/-! ### S_ReadVar -/
def S_ReadVar.l26 (cl22 : (List UInt8) → Int → Option (Int × Int)) : Nat → (List UInt8) → Int → Int → Int → Option (Int × Int)
 | 0, _, _, _, _ => none
 | k26 + 1, v411, v412, v413, v414 => cond (decide (v414 ≥ 0)) ((at? v411 v414).bind fun b416 => (S_ReadVar.l26 cl22 k26) v411 v412 (IntKind.i64.wrap ((IntKind.i64.wrap (v413 * 128)) + (Int.tmod (b416.toNat : Int) 128))) (IntKind.i64.wrap (v414 - 1))) ((S_Var k26 v413).bind fun r417 => (cut? v411 0 v412).bind fun b418 => cond (r417 == b418) (some (v413, v412)) (cl22 v411 (IntKind.i64.wrap (v412 + 1))))
def S_ReadVar.l22 : Nat → (List UInt8) → Int → Option (Int × Int)
 | 0, _, _ => none
 | k22 + 1, v345, v346 => cond (decide (v346 ≤ 7)) (cond (decide (v346 ≤ (v345.length : Int))) (S_ReadVar.l26 (S_ReadVar.l22 k22) k22 v345 v346 0 (IntKind.i64.wrap (v346 - 1))) (some (0, 0))) (some (0, 0))
def S_ReadVar (k : Nat) (a0 : List UInt8) : Option (Int × Int) := S_ReadVar.l22 k a0 1
theorem ent255 : MG.Enters Tryz.prog 255 := en func255
theorem g255 (k : Nat) (a0 : List UInt8) (r : Int × Int) (H : S_ReadVar k a0 = some r) : Gives Tryz.prog 255 [V.one (cS a0)] [] [V.one (cI r.1), V.one (cI r.2)] [] := by
 refine Gives.intro func255 rfl rfl rfl rfl ?_; refine fx fun w0 T S0 ob oh hm => ?_
 have hF := fxe w0 T S0 39 ob oh
 unfold S_ReadVar at H; obtain ⟨K, hK⟩ := leK k; refine sg 2 ?_; refine WpC.seq (sr ?_); refine gn 1 ?_; refine WpC.block ?_; refine WpC.loopL (P := Tryz.prog) (fun n σ => ∃ (v345 : List UInt8) (v346 : Int), n ≤ K ∧ S_ReadVar.l22 n v345 v346 = some r ∧ σ = mkSt [(0, oS v345), (4, oI v346)] [] [] 0) k ⟨_, ⟨a0, 1, by omega, H, rfl⟩, lm [] hm⟩ ?_; clear H
 rintro k22 _ ⟨v345, v346, hk22, H, rfl⟩
 cases k22 with
 | zero => cases H
 | succ k22 =>
  rw [S_ReadVar.l22] at H
  refine WpC.seq (sr ?_); refine go 3 ?_; refine sH H (fun hc H => ?_) (fun hc H => ?_)
  ·refine go 2 ?_; refine L.lenS underlying9 hF rfl rfl rfl ?_; refine gn 2 ?_; refine cd H (fun hc H => ?_) (fun hc H => ?_)
   ·refine WpC.skip (WpC.seq (WpC.block (sr ?_))); refine gn 1 ?_; refine WpC.seq (sr ?_); refine gn 3 ?_; refine WpC.block ?_; refine WpC.loopL (P := Tryz.prog) (fun n σ => ∃ (v411 : List UInt8) (v412 v413 v414 : Int), n ≤ K ∧ S_ReadVar.l26 (S_ReadVar.l22 k22) n v411 v412 v413 v414 = some r ∧ σ = mkSt [(0, oS v411), (4, oI v412), (5, oI v413), (6, oI v414)] [] [] 0) k22 ⟨_, ⟨v345, v346, 0, (IntKind.i64.wrap (v346 - 1)), by omega, H, rfl⟩, lm [] hm⟩ ?_; clear H
    rintro k26 _ ⟨v411, v412, v413, v414, hk26, H, rfl⟩
    cases k26 with
    | zero => cases H
    | succ k26 =>
     rw [S_ReadVar.l26] at H
     refine WpC.seq (sr ?_); refine gn 2 ?_; refine cd H (fun hc H => ?_) (fun hc H => ?_)
     ·refine WpC.skip (WpC.seq (WpC.block (WpC.regionL ?_))); refine go 4 ?_; obtain ⟨b416, hb416, H⟩ := bindS H; refine L.idxS underlying9 hF rfl rfl rfl rfl hb416 ?_; refine L.ofB underlying5 underlying3 hF rfl rfl rfl ?_; refine L.rem hF rfl rfl rfl rfl (by decide) ?_; refine gn 2 ?_; refine WpC.regionL ?_; refine gn 3 ?_; exact ⟨k26, _, by omega, ⟨v411, v412, (IntKind.i64.wrap ((IntKind.i64.wrap (v413 * 128)) + (Int.tmod (b416.toNat : Int) 128))), (IntKind.i64.wrap (v414 - 1)), by omega, H, rfl⟩, lm [] hm⟩
     ·refine WpC.exit (WpC.seq ?_); obtain ⟨r417, hr417, H⟩ := bindS H; obtain ⟨b418, hb418, H⟩ := bindS H; refine A.begin mixed rfl rfl ?_; intro W hI hO; refine hI _ _ _ ?_; refine tM 0 ?_; refine tM 2 ?_; refine tM 3 ?_; refine Atk 4 rfl (Ca.slice) (fun Q0 k0 => L.cutS underlying9 hF rfl rfl rfl rfl rfl hb418 (L.nil k0)) ?_; refine A.all [1] (by kernel_rfl) rfl ⟨⟨_, rfl, ?_⟩, trivial⟩; refine c0 0 ent283 (g283 k26  v413 r417 hr417) (L.nil ?_); refine Atk 5 rfl (Ca.bin rfl rfl (calm_str _ _ _ _ _ _)) (fun Q0 k0 => L.binS hF rfl rfl rfl rfl rfl (L.nil k0)) ?_; refine A.le (τ := mkSt [(0, oS v411), (4, oI v412), (5, oI v413), (36, oL (r417 == b418))] [] [] 0) (lm [] hm) ?_; refine A.done (by kernel_rfl) ?_; refine cd H (fun hc H => ?_) (fun hc H => ?_)
      ·refine sg 4 ?_; cases H; exact WpC.ret rt
      ·refine WpC.skip (WpC.regionL ?_); refine gn 3 ?_; exact ⟨k22, _, by omega, ⟨v411, (IntKind.i64.wrap (v412 + 1)), by omega, H, rfl⟩, lm [] hm⟩
   ·refine WpC.exit (sr ?_); refine gn 2 ?_; cases H; exact WpC.ret rt
  ·refine gn 5 ?_; refine cF ?_; refine WpC.exit (sr ?_); refine gn 2 ?_; cases H; exact WpC.ret rt
/-! ### S_l2Term -/
def S_l2Term.j16 (cl15 : (List UInt8) → Int → Int → Int → Int → Int → Int → Option (Int × Int)) (k : Nat) (v191 : List UInt8) (v192 v193 v194 v195 v196 v197 : Int) : Option (Int × Int) := cl15 v191 v192 v193 v194 v195 v196 (IntKind.i64.wrap (v197 + 1))
def S_l2Term.l15 (cREC : (List UInt8) → Int → Int → Option (Int × Int)) : Nat → (List UInt8) → Int → Int → Int → Int → Int → Int → Option (Int × Int)
 | 0, _, _, _, _, _, _, _ => none
 | k15 + 1, v183, v184, v185, v186, v187, v188, v189 => cond (decide (v189 < v186)) ((cREC v183 v187 (IntKind.i64.wrap (v185 - 1))).bind fun r198 => cond (r198.1 == 0) (some (0, 0)) (cond (decide (r198.2 > v188)) (S_l2Term.j16 (S_l2Term.l15 cREC k15) k15 v183 v184 v185 v186 (IntKind.i64.wrap (v187 + r198.1)) r198.2 v189) (S_l2Term.j16 (S_l2Term.l15 cREC k15) k15 v183 v184 v185 v186 (IntKind.i64.wrap (v187 + r198.1)) v188 v189))) (some ((IntKind.i64.wrap (v187 - v184)), (IntKind.i64.wrap (1 + v188))))
def S_l2Term : Nat → (List UInt8) → Int → Int → Option (Int × Int)
 | 0, _, _, _ => none
 | k + 1, a0, a1, a2 => cond (decide (a1 ≥ (a0.length : Int))) (some (0, 0)) (cond (decide (a2 < 1)) (some (0, 0)) ((cut? a0 (IntKind.i64.wrap (a1 + 1)) (a0.length : Int)).bind fun b1 => (S_ReadVar k b1).bind fun r2 => cond (r2.2 == 0) (some (0, 0)) ((at? a0 a1).bind fun b101 => cond (b101 == (97 : UInt8)) (cond (decide (r2.1 > 40)) (some (0, 0)) (cond (decide (r2.1 > (IntKind.i64.wrap ((a0.length : Int) - (IntKind.i64.wrap ((IntKind.i64.wrap (a1 + 1)) + r2.2)))))) (some (0, 0)) (some ((IntKind.i64.wrap ((IntKind.i64.wrap (1 + r2.2)) + r2.1)), 1)))) (cond (b101 == (107 : UInt8)) ((S_l1In k r2.1 1 1000000).bind fun r103 => cond (!r103) (some (0, 0)) (some ((IntKind.i64.wrap (1 + r2.2)), 1))) (cond (b101 == (115 : UInt8)) (((S_l2Term k) a0 (IntKind.i64.wrap ((IntKind.i64.wrap (a1 + 1)) + r2.2)) (IntKind.i64.wrap (a2 - 1))).bind fun r104 => cond (r104.1 == 0) (some (0, 0)) ((S_l1In k r2.1 1 1000000).bind fun r108 => cond (!r108) (some (0, 0)) (some ((IntKind.i64.wrap ((IntKind.i64.wrap (1 + r2.2)) + r104.1)), (IntKind.i64.wrap (1 + r104.2)))))) (cond (b101 == (108 : UInt8)) (cond (decide (r2.1 > 12)) (some (0, 0)) (S_l2Term.l15 (S_l2Term k) k a0 a1 a2 r2.1 (IntKind.i64.wrap ((IntKind.i64.wrap (a1 + 1)) + r2.2)) 0 0)) (some (0, 0))))))))
theorem ent235 : MG.Enters Tryz.prog 235 := en func235
theorem g235 : ∀ (k : Nat) (a0 : List UInt8) (a1 a2 : Int) (r : Int × Int) (H : S_l2Term k a0 a1 a2 = some r), Gives Tryz.prog 235 [V.one (cS a0), V.one (cI a1), V.one (cI a2)] [] [V.one (cI r.1), V.one (cI r.2)] [] := by
 intro k
 induction k with
 | zero => intros; rename_i H; cases H
 | succ k ih =>
  intro a0 a1 a2 r H; refine Gives.intro func235 rfl rfl rfl rfl ?_; refine fx fun w0 T S0 ob oh hm => ?_
  have hF := fxe w0 T S0 119 ob oh
  rw [S_l2Term] at H
  obtain ⟨K, hK⟩ := leK k; refine sg 2 ?_; refine WpC.seq (sr ?_); refine go 2 ?_; refine L.lenS underlying9 hF rfl rfl rfl ?_; refine go 2 ?_; refine sH H (fun hc H => ?_) (fun hc H => ?_)
  ·refine gn 3 ?_; refine cT ?_; refine sg 2 ?_; cases H; exact WpC.ret rt
  ·refine gn 3 ?_; refine cd H (fun hc H => ?_) (fun hc H => ?_)
   ·refine sg 2 ?_; cases H; exact WpC.ret rt
   ·refine WpC.skip (sr ?_); refine go 3 ?_; obtain ⟨b1, hb1, H⟩ := bindS H; refine L.cutS underlying9 hF rfl rfl rfl rfl rfl hb1 ?_; refine cB 3 ent255 (g255 k  b1) H fun r2 H => ?_; refine gn 5 ?_; refine WpC.seq (sr ?_); refine gn 2 ?_; refine cd H (fun hc H => ?_) (fun hc H => ?_)
    ·refine sg 2 ?_; cases H; exact WpC.ret rt
    ·refine WpC.skip (sr ?_); refine gn 5 ?_; refine WpC.seq (sr ?_); refine go 2 ?_; obtain ⟨b101, hb101, H⟩ := bindS H; refine L.idxS underlying9 hF rfl rfl rfl rfl hb101 (L.nil ?_); refine WpC.block (sr ?_); refine L.binB (a := b101) (b := (97 : UInt8)) hF rfl rfl rfl rfl rfl ?_; refine gn 1 ?_; refine cd H (fun hc H => ?_) (fun hc H => ?_)
     ·refine WpC.seq (sr ?_); refine go 3 ?_; refine sH H (fun hc H => ?_) (fun hc H => ?_)
      ·refine gn 7 ?_; refine cT ?_; refine sg 2 ?_; cases H; exact WpC.ret rt
      ·refine go 2 ?_; refine L.lenS underlying9 hF rfl rfl rfl ?_; refine gn 4 ?_; refine cd H (fun hc H => ?_) (fun hc H => ?_)
       ·refine sg 2 ?_; cases H; exact WpC.ret rt
       ·refine WpC.skip (sr ?_); refine gn 6 ?_; cases H; exact WpC.ret rt
     ·refine sr ?_; refine L.binB (a := b101) (b := (107 : UInt8)) hF rfl rfl rfl rfl rfl ?_; refine gn 1 ?_; refine cd H (fun hc H => ?_) (fun hc H => ?_)
      ·refine WpC.seq (sr ?_); refine mv ?_; refine cB 5 ent53 (g53 k  r2.1 1 1000000) H fun r103 H => ?_; refine gn 1 ?_; refine cd H (fun hc H => ?_) (fun hc H => ?_)
       ·refine sg 2 ?_; cases H; exact WpC.ret rt
       ·refine WpC.skip (sr ?_); refine gn 4 ?_; cases H; exact WpC.ret rt
      ·refine sr ?_; refine L.binB (a := b101) (b := (115 : UInt8)) hF rfl rfl rfl rfl rfl ?_; refine gn 1 ?_; refine cd H (fun hc H => ?_) (fun hc H => ?_)
       ·refine sy 4 ?_; refine cB 5 ent235 (ih  a0 (IntKind.i64.wrap ((IntKind.i64.wrap (a1 + 1)) + r2.2)) (IntKind.i64.wrap (a2 - 1))) H fun r104 H => ?_; refine gn 5 ?_; refine WpC.seq (sr ?_); refine go 3 ?_; refine sH H (fun hc H => ?_) (fun hc H => ?_)
        ·refine gn 4 ?_; refine cT ?_; refine sg 2 ?_; cases H; exact WpC.ret rt
        ·refine mv ?_; refine cB 7 ent53 (g53 k  r2.1 1 1000000) H fun r108 H => ?_; refine gn 2 ?_; refine cd H (fun hc H => ?_) (fun hc H => ?_)
         ·refine sg 2 ?_; cases H; exact WpC.ret rt
         ·refine WpC.skip (sr ?_); refine gn 8 ?_; cases H; exact WpC.ret rt
       ·refine sr ?_; refine L.binB (a := b101) (b := (108 : UInt8)) hF rfl rfl rfl rfl rfl ?_; refine gn 1 ?_; refine cd H (fun hc H => ?_) (fun hc H => ?_)
        ·refine WpC.seq (sr ?_); refine gn 2 ?_; refine cd H (fun hc H => ?_) (fun hc H => ?_)
         ·refine sg 2 ?_; cases H; exact WpC.ret rt
         ·refine WpC.skip (sr ?_); refine gn 1 ?_; refine WpC.seq (sr ?_); refine gn 1 ?_; refine WpC.block ?_; refine WpC.loopL (P := Tryz.prog) (fun n σ => ∃ (v183 : List UInt8) (v184 v185 v186 v187 v188 v189 : Int), n ≤ K ∧ S_l2Term.l15 (S_l2Term k) n v183 v184 v185 v186 v187 v188 v189 = some r ∧ σ = mkSt [(0, oS v183), (1, oI v184), (2, oI v185), (8, oI v186), (10, oI v187), (13, oI v188), (14, oI v189)] [] [] 0) k ⟨_, ⟨a0, a1, a2, r2.1, (IntKind.i64.wrap ((IntKind.i64.wrap (a1 + 1)) + r2.2)), 0, 0, by omega, H, rfl⟩, lm [] hm⟩ ?_; clear H
          rintro k15 _ ⟨v183, v184, v185, v186, v187, v188, v189, hk15, H, rfl⟩
          cases k15 with
          | zero => cases H
          | succ k15 =>
           rw [S_l2Term.l15] at H
           refine WpC.seq (sr ?_); refine gn 3 ?_; refine cd H (fun hc H => ?_) (fun hc H => ?_)
           ·refine WpC.skip ?_; refine WpC.join (fun σ => ∃ (kj16 : Nat) (v191 : List UInt8) (v192 v193 v194 v195 v196 v197 : Int), kj16 ≤ K ∧ S_l2Term.j16 (S_l2Term.l15 (S_l2Term k) k15) kj16 v191 v192 v193 v194 v195 v196 v197 = some r ∧ σ = mkSt [(0, oS v191), (1, oI v192), (2, oI v193), (8, oI v194), (10, oI v195), (13, oI v196), (14, oI v197)] [] [] 0) ?_ ?_
            ·rintro _ ⟨kj16, v191, v192, v193, v194, v195, v196, v197, hkj16, H, rfl⟩
             unfold S_l2Term.j16 at H; refine WpC.regionL ?_; refine gn 3 ?_; exact ⟨k15, _, by omega, ⟨v191, v192, v193, v194, v195, v196, (IntKind.i64.wrap (v197 + 1)), by omega, H, rfl⟩, lm [] hm⟩
            ·refine WpC.block (sr ?_); refine go 4 ?_; refine cB 0 ent235 (ih  v183 v187 (IntKind.i64.wrap (v185 - 1))) H fun r198 H => ?_; refine gn 5 ?_; refine WpC.seq (sr ?_); refine gn 2 ?_; refine cd H (fun hc H => ?_) (fun hc H => ?_)
             ·refine sg 2 ?_; cases H; exact WpC.ret rt
             ·refine WpC.skip (sr ?_); refine gn 4 ?_; refine sg 3 ?_; refine cd H (fun hc H => ?_) (fun hc H => ?_)
              ·refine WpC.regionL ?_; refine gn 2 ?_; exact ⟨_, ⟨k15, v183, v184, v185, v186, (IntKind.i64.wrap (v187 + r198.1)), r198.2, v189, by omega, H, rfl⟩, lm [] hm⟩
              ·refine WpC.skip ?_; exact ⟨_, ⟨k15, v183, v184, v185, v186, (IntKind.i64.wrap (v187 + r198.1)), v188, v189, by omega, H, rfl⟩, lm [] hm⟩
           ·refine WpC.exit (sr ?_); refine gn 7 ?_; cases H; exact WpC.ret rt
        ·refine WpC.skip (sr ?_); refine gn 2 ?_; cases H; exact WpC.ret rt
/-! ### S_TermOk -/
def S_TermOk (k : Nat) (a0 : List UInt8) : Option Bool := (S_l2Term k a0 0 8).bind fun r1 => cond (decide (r1.1 > 0)) (cond (r1.1 == (a0.length : Int)) (some (decide (r1.1 ≤ 900))) (some false)) (some false)
theorem ent159 : MG.Enters Tryz.prog 159 := en func159
theorem g159 (k : Nat) (a0 : List UInt8) (r : Bool) (H : S_TermOk k a0 = some r) : Gives Tryz.prog 159 [V.one (cS a0)] [] [V.one (cL r)] [] := by
 refine Gives.intro func159 rfl rfl rfl rfl ?_; refine fx fun w0 T S0 ob oh hm => ?_
 have hF := fxe w0 T S0 22 ob oh
 unfold S_TermOk at H; obtain ⟨K, hK⟩ := leK k; refine sg 1 ?_; refine sy 1 ?_; refine cB 1 ent235 (g235 k  a0 0 8) H fun r1 H => ?_; refine gn 5 ?_; refine sy 3 ?_; refine sH H (fun hc H => ?_) (fun hc H => ?_)
 ·refine go 2 ?_; refine L.lenS underlying9 hF rfl rfl rfl ?_; refine go 3 ?_; refine sH H (fun hc H => ?_) (fun hc H => ?_)
  ·refine gn 4 ?_; cases H; exact WpC.ret rt
  ·refine gn 4 ?_; cases H; exact WpC.ret rt
 ·refine gn 10 ?_; cases H; exact WpC.ret rt
/-! ### S_l3In -/
def S_l3In.l2 : Nat → (List (List UInt8)) → (List UInt8) → Int → Option Bool
 | 0, _, _, _ => none
 | k2 + 1, v24, v25, v26 => cond (decide (v26 < (v24.length : Int))) ((at? v24 v26).bind fun b28 => cond (b28 == v25) (some true) ((S_l3In.l2 k2) v24 v25 (IntKind.i64.wrap (v26 + 1)))) (some false)
def S_l3In (k : Nat) (a0 : List (List UInt8)) (a1 : List UInt8) : Option Bool := S_l3In.l2 k a0 a1 0
theorem ent194 : MG.Enters Tryz.prog 194 := en func194
theorem g194 (k : Nat) (g0 : Bool) (a0 : List (List UInt8)) (a1 : List UInt8) (r : Bool) (H : S_l3In k a0 a1 = some r) : Gives Tryz.prog 194 [V.one (Cell.sl g0 (List.map eS a0)), V.one (cS a1)] [] [V.one (cL r)] [] := by
 refine Gives.intro func194 rfl rfl rfl rfl ?_; refine fx fun w0 T S0 ob oh hm => ?_
 have hF := fxe w0 T S0 18 ob oh
 unfold S_l3In at H; obtain ⟨K, hK⟩ := leK k; refine sg 1 ?_; refine WpC.seq (sr ?_); refine gn 1 ?_; refine WpC.block ?_; refine WpC.loopL (P := Tryz.prog) (fun n σ => ∃ (v24 : List (List UInt8)) (v25 : List UInt8) (v26 : Int), n ≤ K ∧ S_l3In.l2 n v24 v25 v26 = some r ∧ σ = mkSt [(0, MG.one (Cell.sl g0 (List.map eS v24))), (1, oS v25), (5, oI v26)] [] [] 0) k ⟨_, ⟨a0, a1, 0, by omega, H, rfl⟩, lm [] hm⟩ ?_; clear H
 rintro k2 _ ⟨v24, v25, v26, hk2, H, rfl⟩
 cases k2 with
 | zero => cases H
 | succ k2 =>
  rw [S_l3In.l2] at H
  refine WpC.seq (sr ?_); refine go 2 ?_; refine L.lenR (xs := v24) (e := eS) underlying34 hF rfl rfl rfl rfl ?_; refine gn 1 ?_; refine cd H (fun hc H => ?_) (fun hc H => ?_)
  ·refine WpC.skip (WpC.seq (WpC.block (sr ?_))); refine go 2 ?_; obtain ⟨b28, hb28, H⟩ := bindS H; refine ix underlying34 info9 hb28 ?_; refine go 2 ?_; refine L.binS hF rfl rfl rfl rfl rfl (L.nil ?_); refine cd H (fun hc H => ?_) (fun hc H => ?_)
   ·refine sg 1 ?_; cases H; exact WpC.ret rt
   ·refine WpC.skip (WpC.regionL ?_); refine gn 3 ?_; exact ⟨k2, _, by omega, ⟨v24, v25, (IntKind.i64.wrap (v26 + 1)), by omega, H, rfl⟩, lm [] hm⟩
  ·refine WpC.exit (sr ?_); refine gn 1 ?_; cases H; exact WpC.ret rt
/-! ### S_KnownOk -/
def S_KnownOk.j10 (cl9 : Int → T_Known → Option Bool) (k : Nat) (v238 : Int) (v239 : T_Known) : Option Bool := cl9 (IntKind.i64.wrap (v238 + 1)) v239
def S_KnownOk.l9 : Nat → Int → T_Known → Option Bool
 | 0, _, _ => none
 | k9 + 1, v228, v229 => cond (decide (v228 < (v229.Keys.length : Int))) ((at? v229.Keys v228).bind fun b244 => (S_l1In k9 b244 1 1000000).bind fun r245 => cond (!r245) (some false) (cond (decide (v228 > 0)) ((at? v229.Keys (IntKind.i64.wrap (v228 - 1))).bind fun b248 => (at? v229.Keys v228).bind fun b249 => cond (decide (b248 ≥ b249)) (some false) (S_KnownOk.j10 (S_KnownOk.l9 k9) k9 v228 v229)) (S_KnownOk.j10 (S_KnownOk.l9 k9) k9 v228 v229))) (some true)
def S_KnownOk.l2 : Nat → Int → T_Known → Option Bool
 | 0, _, _ => none
 | k2 + 1, v109, v110 => cond (decide (v109 < (v110.Terms.length : Int))) ((at? v110.Terms v109).bind fun b126 => (S_TermOk k2 b126).bind fun r127 => cond (!r127) (some false) ((part? v110.Terms 0 v109).bind fun b129 => (at? v110.Terms v109).bind fun b130 => (S_l3In k2 b129 b130).bind fun r131 => cond r131 (some false) ((S_KnownOk.l2 k2) (IntKind.i64.wrap (v109 + 1)) v110))) (S_KnownOk.l9 k2 0 v110)
def S_KnownOk (k : Nat) (a0 : T_Known) : Option Bool := cond (decide ((a0.Terms.length : Int) > 60)) (some false) (cond (decide ((a0.Keys.length : Int) > 40)) (some false) (S_KnownOk.l2 k 0 a0))
theorem ent158 : MG.Enters Tryz.prog 158 := en func158
theorem g158 (k : Nat) (g0 g1 : Bool) (a0 : T_Known) (r : Bool) (H : S_KnownOk k a0 = some r) : Gives Tryz.prog 158 [V.agg [Cell.sl g0 (List.map eS a0.Terms), Cell.sl g1 (List.map eI a0.Keys)]] [] [V.one (cL r)] [] := by
 refine Gives.intro func158 rfl rfl rfl rfl ?_; refine fx fun w0 T S0 ob oh hm => ?_
 have hF := fxe w0 T S0 73 ob oh
 unfold S_KnownOk at H; obtain ⟨K, hK⟩ := leK k; refine sr ?_; refine bo 2 ?_; refine gn 1 ?_; refine WpC.seq (sr ?_); refine go 2 ?_; refine L.lenR (xs := a0.Terms) (e := eS) underlying34 hF rfl rfl rfl rfl ?_; refine go 2 ?_; refine sH H (fun hc H => ?_) (fun hc H => ?_)
 ·refine gn 5 ?_; refine cT ?_; refine sg 1 ?_; cases H; exact WpC.ret rt
 ·refine go 2 ?_; refine L.lenR (xs := a0.Keys) (e := eI) underlying24 hF rfl rfl rfl rfl ?_; refine gn 2 ?_; refine cd H (fun hc H => ?_) (fun hc H => ?_)
  ·refine sg 1 ?_; cases H; exact WpC.ret rt
  ·refine WpC.skip (WpC.seq (sr ?_)); refine gn 1 ?_; refine WpC.block ?_; refine WpC.loopL (P := Tryz.prog) (fun n σ => ∃ (v109 : Int) (v110 : T_Known), n ≤ K ∧ S_KnownOk.l2 n v109 v110 = some r ∧ σ = mkSt [(1, oP 0 0), (3, oI v109)] [] [(0, [Cell.sl g0 (List.map eS v110.Terms), Cell.sl g1 (List.map eI v110.Keys)])] 1) k ⟨_, ⟨0, a0, by omega, H, rfl⟩, lm [(0, 2)] hm⟩ ?_; clear H
   rintro k2 _ ⟨v109, v110, hk2, H, rfl⟩
   cases k2 with
   | zero => cases H
   | succ k2 =>
    rw [S_KnownOk.l2] at H
    refine WpC.seq (sr ?_); refine go 3 ?_; refine L.lenR (xs := v110.Terms) (e := eS) underlying34 hF rfl rfl rfl rfl ?_; refine gn 1 ?_; refine cd H (fun hc H => ?_) (fun hc H => ?_)
    ·refine WpC.skip (WpC.seq (WpC.block (WpC.seq ?_))); obtain ⟨b126, hb126, H⟩ := bindS H; obtain ⟨r127, hr127, H⟩ := bindS H
     rcases Bool.eq_false_or_eq_true ((!r127)) with hc128 | hc128
     ·replace H := condT hc128 H
      refine A.begin mixed rfl rfl ?_; intro W hI hO; refine hI _ _ _ ?_; refine tF 0 underlying36 info34 ?_; refine tM 2 ?_; refine A.all [1] (by kernel_rfl) rfl ⟨⟨_, rfl, ?_⟩, trivial⟩; refine gn 1 ?_; refine Atk 3 rfl (Ca.indexAddr) (fun Q0 k0 => ix underlying34 info9 hb126 (L.nil k0)) ?_; refine A.all [4] (by kernel_rfl) rfl ⟨⟨_, rfl, ?_⟩, trivial⟩; refine gn 1 ?_; refine A.all [5] (by kernel_rfl) rfl ⟨⟨_, rfl, ?_⟩, trivial⟩; refine c0 1 ent159 (g159 k2  b126 r127 hr127) (L.nil ?_); refine Atk 6 rfl (Ca.un rfl rfl) (fun Q0 k0 => nt (L.nil k0)) ?_; refine tM 7 ?_; refine A.le (τ := mkSt [(1, oP 0 0), (3, oI v109), (29, oL true)] [] [(0, [Cell.sl g0 (List.map eS v110.Terms), Cell.sl g1 (List.map eI v110.Keys)])] 1) (Le.mk [(0, 0)] hm rfl (Sa2 (Sa1 trivial rfl (congrArg (fun b => some (MG.one (cL b))) hc128))) trivial (Ba1 trivial)) ?_; refine tO 8 ?_; refine tO 9 ?_; refine tO 10 ?_; refine tO 11 ?_; refine tO 12 ?_; refine tO 13 ?_; refine tO 14 ?_; refine tO 15 ?_; refine tO 16 ?_; refine A.all [17] (by kernel_rfl) rfl ⟨⟨_, rfl, ?_⟩, trivial⟩; refine gn 1 ?_
      refine A.le (τ := mkSt [(1, oP 0 0), (3, oI v109), (29, oL true), (39, Slot.tup [])] [] [(0, [Cell.sl g0 (List.map eS v110.Terms), Cell.sl g1 (List.map eI v110.Keys)])] 1) (lm [(0, 0)] hm) ?_; refine tP 18 ?_; refine A.le (τ := mkSt [(1, oP 0 0), (3, oI v109), (40, oL true)] [] [(0, [Cell.sl g0 (List.map eS v110.Terms), Cell.sl g1 (List.map eI v110.Keys)])] 1) (lm [(0, 0)] hm) ?_; refine A.done (by kernel_rfl) ?_; refine cT ?_; refine sg 1 ?_; cases H; exact WpC.ret rt
     ·replace H := condF hc128 H
      obtain ⟨b129, hb129, H⟩ := bindS H; obtain ⟨b130, hb130, H⟩ := bindS H; obtain ⟨r131, hr131, H⟩ := bindS H; refine A.begin mixed rfl rfl ?_; intro W hI hO
      have n131071 : W 2 #[true, true, true, true, true, true, true, true, true, true, true, true, true, true, true, true, true, false, false] (mkSt [(1, oP 0 0), (3, oI v109), (29, oL false), (33, MG.one (Cell.sl g0 (List.map eS b129))), (38, oS b130)] [] [(0, [Cell.sl g0 (List.map eS v110.Terms), Cell.sl g1 (List.map eI v110.Keys)])] 1) := by
       refine hI _ _ _ ?_; refine A.all [17] (by kernel_rfl) rfl ⟨⟨_, rfl, ?_⟩, trivial⟩; refine c0 1 ent194 (g194 k2 g0 b129 b130 r131 hr131) (L.nil ?_); refine tP 18 ?_; refine A.le (τ := mkSt [(1, oP 0 0), (3, oI v109), (40, oL r131)] [] [(0, [Cell.sl g0 (List.map eS v110.Terms), Cell.sl g1 (List.map eI v110.Keys)])] 1) (lm [(0, 0)] hm) ?_; refine A.done (by kernel_rfl) ?_; refine cd H (fun hc H => ?_) (fun hc H => ?_)
       ·refine sg 1 ?_; cases H; exact WpC.ret rt
       ·refine WpC.skip (WpC.regionL ?_); refine gn 3 ?_; exact ⟨k2, _, by omega, ⟨(IntKind.i64.wrap (v109 + 1)), v110, by omega, H, rfl⟩, lm [(0, 0)] hm⟩
      have n65535 : W 3 #[true, true, true, true, true, true, true, true, true, true, true, true, true, true, true, true, false, false, false] (mkSt [(1, oP 0 0), (3, oI v109), (29, oL false), (33, MG.one (Cell.sl g0 (List.map eS b129))), (37, MG.one (Cell.pe g0 (eS b130) 0))] [] [(0, [Cell.sl g0 (List.map eS v110.Terms), Cell.sl g1 (List.map eI v110.Keys)])] 1) := by
       refine hI _ _ _ ?_; refine A.all [16] (by kernel_rfl) rfl ⟨⟨_, rfl, ?_⟩, trivial⟩; refine gn 1 ?_; exact A.on (hO _ _ _ n131071) (lm [(0, 0)] hm)
      refine hI _ _ _ ?_; refine tF 0 underlying36 info34 ?_; refine tM 2 ?_; refine A.all [1] (by kernel_rfl) rfl ⟨⟨_, rfl, ?_⟩, trivial⟩; refine gn 1 ?_; refine Atk 3 rfl (Ca.indexAddr) (fun Q0 k0 => ix underlying34 info9 hb126 (L.nil k0)) ?_; refine A.all [4] (by kernel_rfl) rfl ⟨⟨_, rfl, ?_⟩, trivial⟩; refine gn 1 ?_; refine A.all [5] (by kernel_rfl) rfl ⟨⟨_, rfl, ?_⟩, trivial⟩; refine c0 1 ent159 (g159 k2  b126 r127 hr127) (L.nil ?_); refine Atk 6 rfl (Ca.un rfl rfl) (fun Q0 k0 => nt (L.nil k0)) ?_; refine tM 7 ?_; refine A.le (τ := mkSt [(1, oP 0 0), (3, oI v109), (29, oL false)] [] [(0, [Cell.sl g0 (List.map eS v110.Terms), Cell.sl g1 (List.map eI v110.Keys)])] 1) (Le.mk [(0, 0)] hm rfl (Sa2 (Sa1 trivial rfl (congrArg (fun b => some (MG.one (cL b))) hc128))) trivial (Ba1 trivial)) ?_; refine tF 8 underlying36 info34 ?_; refine tM 10 ?_; refine tF 12 underlying36 info34 ?_; refine tM 14 ?_; refine A.all [9, 13] (by kernel_rfl) rfl ⟨⟨_, rfl, ?_⟩, ⟨_, rfl, ?_⟩, trivial⟩
      ·refine gn 1 ?_; refine Atk 11 rfl (Ca.slice) (fun Q0 k0 => L.cutR (xs := v110.Terms) (ys := b129) (e := eS) underlying34 info9 hF rfl rfl rfl rfl rfl hb129 (fun _ => rfl) (L.nil k0)) ?_; refine A.all [13] (by kernel_rfl) rfl ⟨⟨_, rfl, ?_⟩, trivial⟩; refine gn 1 ?_; refine Atk 15 rfl (Ca.indexAddr) (fun Q0 k0 => ix underlying34 info9 hb130 (L.nil k0)) ?_; exact A.on (hO _ _ _ n65535) (lm [(0, 0)] hm)
      ·refine gn 1 ?_; refine Atk 15 rfl (Ca.indexAddr) (fun Q0 k0 => ix underlying34 info9 hb130 (L.nil k0)) ?_; refine A.all [9, 16] (by kernel_rfl) rfl ⟨⟨_, rfl, ?_⟩, ⟨_, rfl, ?_⟩, trivial⟩
       ·refine gn 1 ?_; refine Atk 11 rfl (Ca.slice) (fun Q0 k0 => L.cutR (xs := v110.Terms) (ys := b129) (e := eS) underlying34 info9 hF rfl rfl rfl rfl rfl hb129 (fun _ => rfl) (L.nil k0)) ?_; exact A.on (hO _ _ _ n65535) (lm [(0, 0)] hm)
       ·refine gn 1 ?_; refine A.all [9] (by kernel_rfl) rfl ⟨⟨_, rfl, ?_⟩, trivial⟩; refine gn 1 ?_; refine Atk 11 rfl (Ca.slice) (fun Q0 k0 => L.cutR (xs := v110.Terms) (ys := b129) (e := eS) underlying34 info9 hF rfl rfl rfl rfl rfl hb129 (fun _ => rfl) (L.nil k0)) ?_; exact A.on (hO _ _ _ n131071) (lm [(0, 0)] hm)
    ·refine WpC.exit (WpC.seq (sr ?_)); refine gn 1 ?_; refine WpC.block ?_; refine WpC.loopL (P := Tryz.prog) (fun n σ => ∃ (v228 : Int) (v229 : T_Known), n ≤ K ∧ S_KnownOk.l9 n v228 v229 = some r ∧ σ = mkSt [(1, oP 0 0), (4, oI v228)] [] [(0, [Cell.sl g0 (List.map eS v229.Terms), Cell.sl g1 (List.map eI v229.Keys)])] 1) k2 ⟨_, ⟨0, v110, by omega, H, rfl⟩, lm [(0, 0)] hm⟩ ?_; clear H
     rintro k9 _ ⟨v228, v229, hk9, H, rfl⟩
     cases k9 with
     | zero => cases H
     | succ k9 =>
      rw [S_KnownOk.l9] at H
      refine WpC.seq (sr ?_); refine go 3 ?_; refine L.lenR (xs := v229.Keys) (e := eI) underlying24 hF rfl rfl rfl rfl ?_; refine gn 1 ?_; refine cd H (fun hc H => ?_) (fun hc H => ?_)
      ·refine WpC.skip ?_; refine WpC.join (fun σ => ∃ (kj10 : Nat) (v238 : Int) (v239 : T_Known), kj10 ≤ K ∧ S_KnownOk.j10 (S_KnownOk.l9 k9) kj10 v238 v239 = some r ∧ σ = mkSt [(1, oP 0 0), (4, oI v238)] [] [(0, [Cell.sl g0 (List.map eS v239.Terms), Cell.sl g1 (List.map eI v239.Keys)])] 1) ?_ ?_
       ·rintro _ ⟨kj10, v238, v239, hkj10, H, rfl⟩
        unfold S_KnownOk.j10 at H; refine WpC.regionL ?_; refine gn 3 ?_; exact ⟨k9, _, by omega, ⟨(IntKind.i64.wrap (v238 + 1)), v239, by omega, H, rfl⟩, lm [(0, 0)] hm⟩
       ·refine WpC.block (WpC.seq ?_); obtain ⟨b244, hb244, H⟩ := bindS H; obtain ⟨r245, hr245, H⟩ := bindS H
        rcases Bool.eq_false_or_eq_true ((!r245)) with hc246 | hc246
        ·replace H := condT hc246 H
         refine A.begin mixed rfl rfl ?_; intro W hI hO; refine hI _ _ _ ?_; refine tF 0 underlying36 info24 ?_; refine tM 2 ?_; refine A.all [1] (by kernel_rfl) rfl ⟨⟨_, rfl, ?_⟩, trivial⟩; refine gn 1 ?_; refine Atk 3 rfl (Ca.indexAddr) (fun Q0 k0 => ix underlying24 info3 hb244 (L.nil k0)) ?_; refine A.all [4] (by kernel_rfl) rfl ⟨⟨_, rfl, ?_⟩, trivial⟩; refine gn 1 ?_; refine A.all [5] (by kernel_rfl) rfl ⟨⟨_, rfl, ?_⟩, trivial⟩; refine c0 1 ent53 (g53 k9  b244 1 1000000 r245 hr245) (L.nil ?_); refine Atk 6 rfl (Ca.un rfl rfl) (fun Q0 k0 => nt (L.nil k0)) ?_; refine tM 7 ?_; refine A.le (τ := mkSt [(1, oP 0 0), (4, oI v228), (55, oL true)] [] [(0, [Cell.sl g0 (List.map eS v229.Terms), Cell.sl g1 (List.map eI v229.Keys)])] 1) (Le.mk [(0, 0)] hm rfl (Sa2 (Sa1 trivial rfl (congrArg (fun b => some (MG.one (cL b))) hc246))) trivial (Ba1 trivial)) ?_; refine tO 8 ?_; refine tO 9 ?_; refine tO 10 ?_; refine tO 11 ?_; refine tO 12 ?_; refine tO 13 ?_; refine tO 14 ?_; refine tO 15 ?_; refine tO 16 ?_; refine tO 17 ?_
         refine A.le (τ := mkSt [(1, oP 0 0), (4, oI v228), (55, oL true), (58, Slot.tup []), (64, Slot.tup []), (65, Slot.tup [])] [] [(0, [Cell.sl g0 (List.map eS v229.Terms), Cell.sl g1 (List.map eI v229.Keys)])] 1) (lm [(0, 0)] hm) ?_; refine tO 18 ?_; refine tO 19 ?_; refine tO 20 ?_; refine tO 21 ?_; refine tO 22 ?_; refine tO 23 ?_; refine tP 24 ?_; refine A.le (τ := mkSt [(1, oP 0 0), (4, oI v228), (72, oL true)] [] [(0, [Cell.sl g0 (List.map eS v229.Terms), Cell.sl g1 (List.map eI v229.Keys)])] 1) (lm [(0, 0)] hm) ?_; refine A.done (by kernel_rfl) ?_; refine cT ?_; refine sg 1 ?_; cases H; exact WpC.ret rt
        ·replace H := condF hc246 H
         rcases Bool.eq_false_or_eq_true ((decide (v228 > 0))) with hc247 | hc247
         ·replace H := condT hc247 H
          obtain ⟨b248, hb248, H⟩ := bindS H; obtain ⟨b249, hb249, H⟩ := bindS H
          refine A.lin (fun β => mkStL [(1, iP 0 0), (4, iI v228), (48, lP (β 0) 0 1), (49, al (β 1) (MG.one (Cell.sl g1 (List.map eI v229.Keys)))), (50, lI (β 2) v228), (51, al (β 3) (MG.one (Cell.pe g1 (eI b244) 0))), (52, lI (β 4) b244), (53, al (β 5) (MG.one (cL r245))), (54, al (β 6) (MG.one (cL (!r245)))), (55, al (β 7) (MG.one (cL false))), (56, lI (β 8) v228), (57, al (β 9) (MG.one (cL (decide (v228 > 0))))), (58, al (β 10) (MG.one (cL true))), (59, lP (β 11) 0 1), (60, al (β 12) (MG.one (Cell.sl g1 (List.map eI v229.Keys)))), (61, lI (β 13) v228), (62, al (β 14) (MG.one (cI (IntKind.i64.wrap (v228 - 1))))), (63, al (β 15) (MG.one (Cell.pe g1 (eI b248) 0))), (64, lI (β 16) b248), (65, lP (β 17) 0 1), (66, al (β 18) (MG.one (Cell.sl g1 (List.map eI v229.Keys)))), (67, lI (β 19) v228), (68, al (β 20) (MG.one (Cell.pe g1 (eI b249) 0))), (69, lI (β 21) b249), (70, al (β 22) (MG.one (cL (decide (b248 ≥ b249))))), (71, al (β 23) (MG.one (cL (decide (b248 ≥ b249))))), (72, al (β 24) (MG.one (cL (decide (b248 ≥ b249)))))] [] [(0, ai ([Cell.sl g0 (List.map eS v229.Terms), Cell.sl g1 (List.map eI v229.Keys)]))] 2) [([], [1, 3, 4, 5, 6, 7, 8, 9, 10, 11, 12, 13, 14, 15, 16, 17, 18, 19, 20, 21, 22, 23, 24]), ([0], [3, 4, 5, 6, 7, 8, 9, 10, 11, 12, 13, 14, 15, 16, 17, 18, 19, 20, 21, 22, 23, 24]), ([], [3, 4, 5, 6, 7, 8, 9, 10, 11, 12, 13, 14, 15, 16, 17, 18, 19, 20, 21, 22, 23, 24]), ([0, 1, 2], [4, 5, 6, 7, 8, 9, 10, 11, 12, 13, 14, 15, 16, 17, 18, 19, 20, 21, 22, 23, 24]), ([0, 1, 2, 3], [5, 6, 7, 8, 9, 10, 11, 12, 13, 14, 15, 16, 17, 18, 19, 20, 21, 22, 23, 24]), ([0, 1, 2, 3, 4], [6, 7, 8, 9, 10, 11, 12, 13, 14, 15, 16, 17, 18, 19, 20, 21, 22, 23, 24]), ([0, 1, 2, 3, 4, 5], [7, 8, 9, 10, 11, 12, 13, 14, 15, 16, 17, 18, 19, 20, 21, 22, 23, 24]), ([0, 1, 2, 3, 4, 5, 6], [8, 9, 10, 11, 12, 13, 14, 15, 16, 17, 18, 19, 20, 21, 22, 23, 24]), ([0, 1, 2, 3, 4, 5, 6, 7], [9, 10, 11, 12, 13, 14, 15, 16, 17, 18, 19, 20, 21, 22, 23, 24]), ([0, 1, 2, 3, 4, 5, 6, 7, 8], [10, 11, 12, 13, 14, 15, 16, 17, 18, 19, 20, 21, 22, 23, 24]), ([0, 1, 2, 3, 4, 5, 6, 7, 8, 9], [11, 12, 13, 14, 15, 16, 17, 18, 19, 20, 21, 22, 23, 24]), ([0, 1, 2, 3, 4, 5, 6, 7, 8, 9, 10], [12, 15, 16, 22, 23, 24]), ([0, 1, 2, 3, 4, 5, 6, 7, 8, 9, 10, 11], [15, 16, 22, 23, 24]), ([0, 1, 2, 3, 4, 5, 6, 7, 8, 9, 10], [14, 15, 16, 22, 23, 24]), ([0, 1, 2, 3, 4, 5, 6, 7, 8, 9, 10, 13], [15, 16, 22, 23, 24]), ([0, 1, 2, 3, 4, 5, 6, 7, 8, 9, 10, 11, 12, 13, 14], [16, 22, 23, 24]), ([0, 1, 2, 3, 4, 5, 6, 7, 8, 9, 10, 11, 12, 13, 14, 15], [22, 23, 24]), ([0, 1, 2, 3, 4, 5, 6, 7, 8, 9, 10], [18, 20, 21, 22, 23, 24]), ([0, 1, 2, 3, 4, 5, 6, 7, 8, 9, 10, 17], [20, 21, 22, 23, 24]), ([0, 1, 2, 3, 4, 5, 6, 7, 8, 9, 10], [20, 21, 22, 23, 24]), ([0, 1, 2, 3, 4, 5, 6, 7, 8, 9, 10, 17, 18, 19], [21, 22, 23, 24]), ([0, 1, 2, 3, 4, 5, 6, 7, 8, 9, 10, 17, 18, 19, 20], [22, 23, 24]), ([0, 1, 2, 3, 4, 5, 6, 7, 8, 9, 10, 11, 12, 13, 14, 15, 16, 17, 18, 19, 20, 21], [23, 24]), ([0, 1, 2, 3, 4, 5, 6, 7, 8, 9, 10, 11, 12, 13, 14, 15, 16, 17, 18, 19, 20, 21, 22], [24]), ([0, 1, 2, 3, 4, 5, 6, 7, 8, 9, 10, 11, 12, 13, 14, 15, 16, 17, 18, 19, 20, 21, 22, 23], [])] 25 mixed rfl (by kernel_rfl) ?_ ?_ ?_
          ·exact Le.lin [] hm rfl (sa2 (kn (kn8 (kn8 (kn8 kz))))) kz (ba kz)
          ·repeat' (first | exact trivial | refine ⟨⟨_, rfl, fun β => ?_⟩, ?_⟩ | fail)
           ·refine fa underlying36 info24 ?_; exact lx [] hm
           ·refine lp shape24 ?_; exact lx [] hm
           ·refine mv ?_; exact lx [] hm
           ·refine ix underlying24 info3 hb244 ?_; exact lx [] hm
           ·refine le shape3 ?_; exact lx [] hm
           ·refine c0 2 ent53 (g53 k9  b244 1 1000000 r245 hr245) ?_; exact lx [(1, 2)] hm
           ·refine nt ?_; exact lx [] hm
           ·refine mv ?_; exact L.nil (Le.lin [] hm rfl (sa (sa8 (sa (kn (kn8 (kn8 kz))) rfl rfl (congrArg (fun b => some (MG.one (cL b))) hc246)))) kz (ba kz))
           ·refine mv ?_; exact lx [] hm
           ·refine bi ?_; exact lx [] hm
           ·refine mv ?_; exact L.nil (Le.lin [] hm rfl (sa4 (sa8 (sa (kn2 (kn4 (kn8 kz))) rfl rfl (congrArg (fun b => some (MG.one (cL b))) hc247)))) kz (ba kz))
           ·refine fa underlying36 info24 ?_; exact lx [] hm
           ·refine lp shape24 ?_; exact lx [] hm
           ·refine mv ?_; exact lx [] hm
           ·refine bi ?_; exact lx [] hm
           ·refine ix underlying24 info3 hb248 ?_; exact lx [] hm
           ·refine le shape3 ?_; exact lx [] hm
           ·refine fa underlying36 info24 ?_; exact lx [] hm
           ·refine lp shape24 ?_; exact lx [] hm
           ·refine mv ?_; exact lx [] hm
           ·refine ix underlying24 info3 hb249 ?_; exact lx [] hm
           ·refine le shape3 ?_; exact lx [] hm
           ·refine bi ?_; exact lx [] hm
           ·refine pk ?_; exact lx [] hm
           ·refine pk ?_; exact lx [] hm
          refine ⟨_, (lm [(0, 0)] hm : Le _ _ (mkSt [(1, oP 0 0), (4, oI v228), (72, MG.one (cL (decide (b248 ≥ b249))))] [] [(0, [Cell.sl g0 (List.map eS v229.Terms), Cell.sl g1 (List.map eI v229.Keys)])] 1)), ?_⟩; refine cd H (fun hc H => ?_) (fun hc H => ?_)
          ·refine sg 1 ?_; cases H; exact WpC.ret rt
          ·refine WpC.skip ?_; exact ⟨_, ⟨k9, v228, v229, by omega, H, rfl⟩, lm [(0, 0)] hm⟩
         ·replace H := condF hc247 H
          refine A.begin mixed rfl rfl ?_; intro W hI hO; refine hI _ _ _ ?_; refine tF 0 underlying36 info24 ?_; refine tM 2 ?_; refine A.all [1] (by kernel_rfl) rfl ⟨⟨_, rfl, ?_⟩, trivial⟩; refine gn 1 ?_; refine Atk 3 rfl (Ca.indexAddr) (fun Q0 k0 => ix underlying24 info3 hb244 (L.nil k0)) ?_; refine A.all [4] (by kernel_rfl) rfl ⟨⟨_, rfl, ?_⟩, trivial⟩; refine gn 1 ?_; refine A.all [5] (by kernel_rfl) rfl ⟨⟨_, rfl, ?_⟩, trivial⟩; refine c0 1 ent53 (g53 k9  b244 1 1000000 r245 hr245) (L.nil ?_); refine Atk 6 rfl (Ca.un rfl rfl) (fun Q0 k0 => nt (L.nil k0)) ?_; refine tM 7 ?_; refine A.le (τ := mkSt [(1, oP 0 0), (4, oI v228), (55, oL false)] [] [(0, [Cell.sl g0 (List.map eS v229.Terms), Cell.sl g1 (List.map eI v229.Keys)])] 1) (Le.mk [(0, 0)] hm rfl (Sa2 (Sa1 trivial rfl (congrArg (fun b => some (MG.one (cL b))) hc246))) trivial (Ba1 trivial)) ?_; refine tM 8 ?_; refine Atk 9 rfl (Ca.bin rfl rfl (calm_int _ _ _ _ _ _ _ _)) (fun Q0 k0 => bi (L.nil k0)) ?_; refine tM 10 ?_
          refine A.le (τ := mkSt [(1, oP 0 0), (4, oI v228), (55, oL false), (58, oL false)] [] [(0, [Cell.sl g0 (List.map eS v229.Terms), Cell.sl g1 (List.map eI v229.Keys)])] 1) (Le.mk [(0, 0)] hm rfl (Sa2 (Sa1 (Sa1 trivial rfl (congrArg (fun b => some (MG.one (cL b))) hc247)))) trivial (Ba1 trivial)) ?_; refine tO 11 ?_; refine tO 12 ?_; refine tO 13 ?_; refine tO 14 ?_; refine tO 15 ?_; refine tO 16 ?_; refine tO 17 ?_; refine tO 18 ?_; refine tO 19 ?_; refine tO 20 ?_; refine A.le (τ := mkSt [(1, oP 0 0), (4, oI v228), (55, oL false), (58, oL false), (64, Slot.tup []), (68, Slot.tup [])] [] [(0, [Cell.sl g0 (List.map eS v229.Terms), Cell.sl g1 (List.map eI v229.Keys)])] 1) (lm [(0, 0)] hm) ?_; refine tO 21 ?_; refine tO 22 ?_; refine tP 23 ?_; refine tP 24 ?_; refine A.le (τ := mkSt [(1, oP 0 0), (4, oI v228), (72, oL false)] [] [(0, [Cell.sl g0 (List.map eS v229.Terms), Cell.sl g1 (List.map eI v229.Keys)])] 1) (lm [(0, 0)] hm) ?_; refine A.done (by kernel_rfl) ?_; refine cF ?_; refine WpC.skip ?_; exact ⟨_, ⟨k9, v228, v229, by omega, H, rfl⟩, lm [(0, 0)] hm⟩
      ·refine WpC.exit (sr ?_); refine gn 1 ?_; cases H; exact WpC.ret rt
/-! ### S_l5Principal -/
def S_l5Principal (k : Nat) (a0 : Int) : Option Bool := cond (decide (a0 ≥ 0)) (some (decide (a0 < 6))) (some false)
theorem ent51 : MG.Enters Tryz.prog 51 := en func51
theorem g51 (k : Nat) (a0 : Int) (r : Bool) (H : S_l5Principal k a0 = some r) : Gives Tryz.prog 51 [V.one (cI a0)] [] [V.one (cL r)] [] := by
 refine Gives.intro func51 rfl rfl rfl rfl ?_; refine fx fun w0 T S0 ob oh hm => ?_
 have hF := fxe w0 T S0 9 ob oh
 unfold S_l5Principal at H; obtain ⟨K, hK⟩ := leK k; refine sg 1 ?_; refine sy 3 ?_; refine sH H (fun hc H => ?_) (fun hc H => ?_)
 ·refine gn 4 ?_; cases H; exact WpC.ret rt
 ·refine gn 4 ?_; cases H; exact WpC.ret rt
/-! ### S_l10WaitOk -/
def S_l10WaitOk (k : Nat) (a0 : T_Wait) : Option Bool := cond (!a0.On) (some ((a0.On == false) && ((a0.Nonce == 0) && ((a0.Key == 0) && ((a0.Client == 0) && true))))) ((S_l1In k a0.Nonce 0 1000000).bind fun r4 => cond r4 ((S_l1In k a0.Key 1 1000000).bind fun r5 => cond r5 ((S_l5Principal k a0.Client).bind fun r6 => some r6) (some false)) (some false))
theorem ent160 : MG.Enters Tryz.prog 160 := en func160
theorem g160 (k : Nat) (a0 : T_Wait) (r : Bool) (H : S_l10WaitOk k a0 = some r) : Gives Tryz.prog 160 [V.agg (bT_Wait a0)] [] [V.one (cL r)] [] := by
 refine Gives.intro func160 rfl rfl rfl rfl ?_; refine fx fun w0 T S0 ob oh hm => ?_
 have hF := fxe w0 T S0 22 ob oh
 unfold S_l10WaitOk at H; obtain ⟨K, hK⟩ := leK k; refine sr ?_; refine bo 4 ?_; refine gn 1 ?_; refine WpC.seq (sr ?_); refine gn 3 ?_; refine cd H (fun hc H => ?_) (fun hc H => ?_)
 ·refine sy 1 ?_; refine bf built198 ?_; refine L.eqA (r := ((a0.On == false) && ((a0.Nonce == 0) && ((a0.Key == 0) && ((a0.Client == 0) && true))))) hF rfl rfl rfl rfl rfl rfl (by kernel_rfl) (by kernel_rfl) ?_; refine gn 1 ?_; cases H; exact WpC.ret rt
 ·refine WpC.skip (sr ?_); refine go 2 ?_; refine cB 5 ent53 (g53 k  a0.Nonce 0 1000000) H fun r4 H => ?_; refine mv ?_; refine sH H (fun hc H => ?_) (fun hc H => ?_)
  ·refine go 2 ?_; refine cB 6 ent53 (g53 k  a0.Key 1 1000000) H fun r5 H => ?_; refine go 2 ?_; refine sH H (fun hc H => ?_) (fun hc H => ?_)
   ·refine go 2 ?_; refine cB 7 ent51 (g51 k  a0.Client) H fun r6 H => ?_; refine gn 2 ?_; cases H; exact WpC.ret rt
   ·refine gn 5 ?_; cases H; exact WpC.ret rt
  ·refine gn 10 ?_; cases H; exact WpC.ret rt
/-! ### S_l5Service -/
def S_l5Service (k : Nat) (a0 : Int) : Option Bool := (S_l1In k a0 0 2).bind fun r3 => cond r3 (some true) ((S_l1In k a0 10 12).bind fun r4 => some r4)
theorem ent236 : MG.Enters Tryz.prog 236 := en func236
theorem g236 (k : Nat) (a0 : Int) (r : Bool) (H : S_l5Service k a0 = some r) : Gives Tryz.prog 236 [V.one (cI a0)] [] [V.one (cL r)] [] := by
 refine Gives.intro func236 rfl rfl rfl rfl ?_; refine fx fun w0 T S0 ob oh hm => ?_
 have hF := fxe w0 T S0 9 ob oh
 unfold S_l5Service at H; obtain ⟨K, hK⟩ := leK k; refine sg 1 ?_; refine sy 1 ?_; refine cB 1 ent53 (g53 k  a0 0 2) H fun r3 H => ?_; refine mv ?_; refine sH H (fun hc H => ?_) (fun hc H => ?_)
 ·refine gn 4 ?_; cases H; exact WpC.ret rt
 ·refine mv ?_; refine cB 2 ent53 (g53 k  a0 10 12) H fun r4 H => ?_; refine gn 2 ?_; cases H; exact WpC.ret rt
/-! ### S_RestOk -/
def S_RestOk (k : Nat) (a0 : T_Rest) : Option Bool := (S_l1In k a0.Servers 0 7).bind fun r4 => cond r4 ((S_l1In k a0.Ops 0 255).bind fun r5 => cond r5 ((S_l1In k a0.End 0 100000).bind fun r6 => some r6) (some false)) (some false)
theorem ent52 : MG.Enters Tryz.prog 52 := en func52
theorem g52 (k : Nat) (a0 : T_Rest) (r : Bool) (H : S_RestOk k a0 = some r) : Gives Tryz.prog 52 [V.agg (bT_Rest a0)] [] [V.one (cL r)] [] := by
 refine Gives.intro func52 rfl rfl rfl rfl ?_; refine fx fun w0 T S0 ob oh hm => ?_
 have hF := fxe w0 T S0 16 ob oh
 unfold S_RestOk at H; obtain ⟨K, hK⟩ := leK k; refine sr ?_; refine bo 3 ?_; refine gn 1 ?_; refine sy 2 ?_; refine cB 4 ent53 (g53 k  a0.Servers 0 7) H fun r4 H => ?_; refine mv ?_; refine sH H (fun hc H => ?_) (fun hc H => ?_)
 ·refine go 2 ?_; refine cB 5 ent53 (g53 k  a0.Ops 0 255) H fun r5 H => ?_; refine go 2 ?_; refine sH H (fun hc H => ?_) (fun hc H => ?_)
  ·refine go 2 ?_; refine cB 6 ent53 (g53 k  a0.End 0 100000) H fun r6 H => ?_; refine gn 2 ?_; cases H; exact WpC.ret rt
  ·refine gn 5 ?_; cases H; exact WpC.ret rt
 ·refine gn 10 ?_; cases H; exact WpC.ret rt
/-! ### S_CredOk -/
def S_CredOk (k : Nat) (a0 : T_Cred) : Option Bool := (S_l5Principal k a0.Owner).bind fun r7 => cond r7 ((S_l5Principal k a0.Client).bind fun r8 => cond r8 ((S_l5Service k a0.Service).bind fun r9 => cond r9 ((S_l1In k a0.Key 1 1000000).bind fun r10 => cond r10 ((S_RestOk k a0.Rest).bind fun r11 => cond r11 ((S_TermOk k a0.Ticket).bind fun r12 => some r12) (some false)) (some false)) (some false)) (some false)) (some false)
theorem ent161 : MG.Enters Tryz.prog 161 := en func161
theorem g161 (k : Nat) (a0 : T_Cred) (r : Bool) (H : S_CredOk k a0 = some r) : Gives Tryz.prog 161 [V.agg (bT_Cred a0)] [] [V.one (cL r)] [] := by
 refine Gives.intro func161 rfl rfl rfl rfl ?_; refine fx fun w0 T S0 ob oh hm => ?_
 have hF := fxe w0 T S0 31 ob oh
 unfold S_CredOk at H; obtain ⟨K, hK⟩ := leK k; refine sr ?_; refine bo 8 ?_; refine gn 1 ?_; refine sy 2 ?_; refine cB 9 ent51 (g51 k  a0.Owner) H fun r7 H => ?_; refine mv ?_; refine sH H (fun hc H => ?_) (fun hc H => ?_)
 ·refine go 2 ?_; refine cB 10 ent51 (g51 k  a0.Client) H fun r8 H => ?_; refine go 2 ?_; refine sH H (fun hc H => ?_) (fun hc H => ?_)
  ·refine go 2 ?_; refine cB 11 ent236 (g236 k  a0.Service) H fun r9 H => ?_; refine go 2 ?_; refine sH H (fun hc H => ?_) (fun hc H => ?_)
   ·refine go 2 ?_; refine cB 12 ent53 (g53 k  a0.Key 1 1000000) H fun r10 H => ?_; refine go 2 ?_; refine sH H (fun hc H => ?_) (fun hc H => ?_)
    ·refine go 2 ?_; refine cB 13 ent52 (g52 k  a0.Rest) H fun r11 H => ?_; refine go 2 ?_; refine sH H (fun hc H => ?_) (fun hc H => ?_)
     ·refine go 2 ?_; refine cB 14 ent159 (g159 k  a0.Ticket) H fun r12 H => ?_; refine gn 2 ?_; cases H; exact WpC.ret rt
     ·refine gn 5 ?_; cases H; exact WpC.ret rt
    ·refine gn 10 ?_; cases H; exact WpC.ret rt
   ·refine gn 15 ?_; cases H; exact WpC.ret rt
  ·refine gn 20 ?_; cases H; exact WpC.ret rt
 ·refine gn 25 ?_; cases H; exact WpC.ret rt
/-! ### S_l5AuthOk -/
def S_l5AuthOk (k : Nat) (a0 : T_Auth) : Option Bool := (S_l5Principal k a0.Client).bind fun r4 => cond r4 ((S_l1In k a0.Time 0 100000).bind fun r5 => cond r5 ((S_l1In k a0.Seq 0 1000000).bind fun r6 => some r6) (some false)) (some false)
theorem ent237 : MG.Enters Tryz.prog 237 := en func237
theorem g237 (k : Nat) (a0 : T_Auth) (r : Bool) (H : S_l5AuthOk k a0 = some r) : Gives Tryz.prog 237 [V.agg (bT_Auth a0)] [] [V.one (cL r)] [] := by
 refine Gives.intro func237 rfl rfl rfl rfl ?_; refine fx fun w0 T S0 ob oh hm => ?_
 have hF := fxe w0 T S0 16 ob oh
 unfold S_l5AuthOk at H; obtain ⟨K, hK⟩ := leK k; refine sr ?_; refine bo 3 ?_; refine gn 1 ?_; refine sy 2 ?_; refine cB 4 ent51 (g51 k  a0.Client) H fun r4 H => ?_; refine mv ?_; refine sH H (fun hc H => ?_) (fun hc H => ?_)
 ·refine go 2 ?_; refine cB 5 ent53 (g53 k  a0.Time 0 100000) H fun r5 H => ?_; refine go 2 ?_; refine sH H (fun hc H => ?_) (fun hc H => ?_)
  ·refine go 2 ?_; refine cB 6 ent53 (g53 k  a0.Seq 0 1000000) H fun r6 H => ?_; refine gn 2 ?_; cases H; exact WpC.ret rt
  ·refine gn 5 ?_; cases H; exact WpC.ret rt
 ·refine gn 10 ?_; cases H; exact WpC.ret rt
/-! ### S_l7Saw -/
def S_l7Saw.l2 : Nat → (List T_Auth) → Int → T_Auth → Option Bool
 | 0, _, _, _ => none
 | k2 + 1, v24, v25, v26 => cond (decide (v25 < (v24.length : Int))) ((at? v24 v25).bind fun b28 => cond ((b28.Client == v26.Client) && ((b28.Time == v26.Time) && ((b28.Seq == v26.Seq) && true))) (some true) ((S_l7Saw.l2 k2) v24 (IntKind.i64.wrap (v25 + 1)) v26)) (some false)
def S_l7Saw (k : Nat) (a0 : List T_Auth) (a1 : T_Auth) : Option Bool := S_l7Saw.l2 k a0 0 a1
theorem ent238 : MG.Enters Tryz.prog 238 := en func238
theorem g238 (k : Nat) (g0 : Bool) (a0 : List T_Auth) (a1 : T_Auth) (r : Bool) (H : S_l7Saw k a0 a1 = some r) : Gives Tryz.prog 238 [V.one (Cell.sl g0 (List.map eT_Auth a0)), V.agg (bT_Auth a1)] [] [V.one (cL r)] [] := by
 refine Gives.intro func238 rfl rfl rfl rfl ?_; refine fx fun w0 T S0 ob oh hm => ?_
 have hF := fxe w0 T S0 18 ob oh
 unfold S_l7Saw at H; obtain ⟨K, hK⟩ := leK k; refine sr ?_; refine bo 4 ?_; refine gn 1 ?_; refine WpC.seq (sr ?_); refine gn 1 ?_; refine WpC.block ?_; refine WpC.loopL (P := Tryz.prog) (fun n σ => ∃ (v24 : List T_Auth) (v25 : Int) (v26 : T_Auth), n ≤ K ∧ S_l7Saw.l2 n v24 v25 v26 = some r ∧ σ = mkSt [(0, MG.one (Cell.sl g0 (List.map eT_Auth v24))), (3, oP 0 0), (5, oI v25)] [] [(0, (bT_Auth v26))] 1) k ⟨_, ⟨a0, 0, a1, by omega, H, rfl⟩, lm [(0, 4)] hm⟩ ?_; clear H
 rintro k2 _ ⟨v24, v25, v26, hk2, H, rfl⟩
 cases k2 with
 | zero => cases H
 | succ k2 =>
  rw [S_l7Saw.l2] at H
  refine WpC.seq (sr ?_); refine go 2 ?_; refine L.lenR (xs := v24) (e := eT_Auth) underlying168 hF rfl rfl rfl rfl ?_; refine gn 1 ?_; refine cd H (fun hc H => ?_) (fun hc H => ?_)
  ·refine WpC.skip (WpC.seq (WpC.block (WpC.seq ?_))); refine S.begin mixed (by kernel_rfl) ?_; refine S.st 0 rfl rfl ((Ca.move).quiet) (fun Q0 k0 => mv (L.nil k0)) ?_; refine S.st 1 rfl rfl ((Ca.move).quiet) (fun Q0 k0 => mv (L.nil k0)) ?_; obtain ⟨b28, hb28, H⟩ := bindS H; refine S.st 2 rfl rfl ((Ca.indexAddr).quiet) (fun Q0 k0 => ix underlying168 info72 hb28 (L.nil k0)) ?_; refine S.st 3 rfl rfl (Qu.load) (fun Q0 k0 => le shape72 (L.nil k0)) ?_; refine S.st 4 rfl rfl (Qu.load) (fun Q0 k0 => lp shape72 (L.nil k0)) ?_; refine S.st 5 rfl rfl ((Ca.eqA (r := ((b28.Client == v26.Client) && ((b28.Time == v26.Time) && ((b28.Seq == v26.Seq) && true)))) rfl rfl rfl rfl (by kernel_rfl) (by kernel_rfl)).quiet) (fun Q0 k0 => L.eqA (r := ((b28.Client == v26.Client) && ((b28.Time == v26.Time) && ((b28.Seq == v26.Seq) && true)))) hF rfl rfl rfl rfl rfl rfl (by kernel_rfl) (by kernel_rfl) (L.nil k0)) ?_; refine S.nil ?_; refine cd H (fun hc H => ?_) (fun hc H => ?_)
   ·refine sg 1 ?_; cases H; exact WpC.ret rt
   ·refine WpC.skip (WpC.regionL ?_); refine gn 3 ?_; exact ⟨k2, _, by omega, ⟨v24, (IntKind.i64.wrap (v25 + 1)), v26, by omega, H, rfl⟩, lm [(0, 0)] hm⟩
  ·refine WpC.exit (sr ?_); refine gn 1 ?_; cases H; exact WpC.ret rt
/-! ### S_CacheOk -/
def S_CacheOk.l2 : Nat → Int → T_Cache → Option Bool
 | 0, _, _ => none
 | k2 + 1, v113, v114 => cond (decide (v113 < (v114.Seen.length : Int))) ((at? v114.Seen v113).bind fun b130 => (S_l5AuthOk k2 b130).bind fun r131 => cond (!r131) (some false) ((part? v114.Seen 0 v113).bind fun b133 => (at? v114.Seen v113).bind fun b134 => (S_l7Saw k2 b133 b134).bind fun r135 => cond r135 (some false) ((S_CacheOk.l2 k2) (IntKind.i64.wrap (v113 + 1)) v114))) (some true)
def S_CacheOk (k : Nat) (a0 : T_Cache) : Option Bool := (S_l1In k a0.Quiet (-1) 200000).bind fun r4 => cond (!r4) (some false) (cond (decide ((a0.Seen.length : Int) > 6)) (some false) (S_CacheOk.l2 k 0 a0))
theorem ent162 : MG.Enters Tryz.prog 162 := en func162
theorem g162 (k : Nat) (g0 : Bool) (a0 : T_Cache) (r : Bool) (H : S_CacheOk k a0 = some r) : Gives Tryz.prog 162 [V.agg [cI a0.Quiet, Cell.sl g0 (List.map eT_Auth a0.Seen)]] [] [V.one (cL r)] [] := by
 refine Gives.intro func162 rfl rfl rfl rfl ?_; refine fx fun w0 T S0 ob oh hm => ?_
 have hF := fxe w0 T S0 40 ob oh
 unfold S_CacheOk at H; obtain ⟨K, hK⟩ := leK k; refine sr ?_; refine bo 2 ?_; refine gn 1 ?_; refine WpC.seq (sr ?_); refine go 2 ?_; refine cB 3 ent53 (g53 k  a0.Quiet (-1) 200000) H fun r4 H => ?_; refine go 2 ?_; refine sH H (fun hc H => ?_) (fun hc H => ?_)
 ·refine gn 5 ?_; refine cT ?_; refine sg 1 ?_; cases H; exact WpC.ret rt
 ·refine go 2 ?_; refine L.lenR (xs := a0.Seen) (e := eT_Auth) underlying168 hF rfl rfl rfl rfl ?_; refine gn 2 ?_; refine cd H (fun hc H => ?_) (fun hc H => ?_)
  ·refine sg 1 ?_; cases H; exact WpC.ret rt
  ·refine WpC.skip (WpC.seq (sr ?_)); refine gn 1 ?_; refine WpC.block ?_; refine WpC.loopL (P := Tryz.prog) (fun n σ => ∃ (v113 : Int) (v114 : T_Cache), n ≤ K ∧ S_CacheOk.l2 n v113 v114 = some r ∧ σ = mkSt [(1, oP 0 0), (3, oI v113)] [] [(0, [cI v114.Quiet, Cell.sl g0 (List.map eT_Auth v114.Seen)])] 1) k ⟨_, ⟨0, a0, by omega, H, rfl⟩, lm [(0, 2)] hm⟩ ?_; clear H
   rintro k2 _ ⟨v113, v114, hk2, H, rfl⟩
   cases k2 with
   | zero => cases H
   | succ k2 =>
    rw [S_CacheOk.l2] at H
    refine WpC.seq (sr ?_); refine go 3 ?_; refine L.lenR (xs := v114.Seen) (e := eT_Auth) underlying168 hF rfl rfl rfl rfl ?_; refine gn 1 ?_; refine cd H (fun hc H => ?_) (fun hc H => ?_)
    ·refine WpC.skip (WpC.seq (WpC.block (WpC.seq ?_))); obtain ⟨b130, hb130, H⟩ := bindS H; obtain ⟨r131, hr131, H⟩ := bindS H
     rcases Bool.eq_false_or_eq_true ((!r131)) with hc132 | hc132
     ·replace H := condT hc132 H
      refine A.begin mixed rfl rfl ?_; intro W hI hO; refine hI _ _ _ ?_; refine tF 0 underlying170 info168 ?_; refine tM 2 ?_; refine A.all [1] (by kernel_rfl) rfl ⟨⟨_, rfl, ?_⟩, trivial⟩; refine gn 1 ?_; refine Atk 3 rfl (Ca.indexAddr) (fun Q0 k0 => ix underlying168 info72 hb130 (L.nil k0)) ?_; refine A.all [4] (by kernel_rfl) rfl ⟨⟨_, rfl, ?_⟩, trivial⟩; refine gn 1 ?_; refine A.all [5] (by kernel_rfl) rfl ⟨⟨_, rfl, ?_⟩, trivial⟩; refine c0 1 ent237 (g237 k2  b130 r131 hr131) (L.nil ?_); refine Atk 6 rfl (Ca.un rfl rfl) (fun Q0 k0 => nt (L.nil k0)) ?_; refine tM 7 ?_; refine A.le (τ := mkSt [(1, oP 0 0), (3, oI v113), (28, oL true)] [] [(0, [cI v114.Quiet, Cell.sl g0 (List.map eT_Auth v114.Seen)])] 1) (Le.mk [(0, 0)] hm rfl (Sa2 (Sa1 trivial rfl (congrArg (fun b => some (MG.one (cL b))) hc132))) trivial (Ba1 trivial)) ?_; refine tO 8 ?_; refine tO 9 ?_; refine tO 10 ?_; refine tO 11 ?_; refine tO 12 ?_; refine tO 13 ?_; refine tO 14 ?_; refine tO 15 ?_; refine tO 16 ?_; refine A.all [17] (by kernel_rfl) rfl ⟨⟨_, rfl, ?_⟩, trivial⟩; refine gn 1 ?_
      refine A.le (τ := mkSt [(1, oP 0 0), (3, oI v113), (28, oL true), (38, Slot.tup [])] [] [(0, [cI v114.Quiet, Cell.sl g0 (List.map eT_Auth v114.Seen)])] 1) (lm [(0, 0)] hm) ?_; refine tP 18 ?_; refine A.le (τ := mkSt [(1, oP 0 0), (3, oI v113), (39, oL true)] [] [(0, [cI v114.Quiet, Cell.sl g0 (List.map eT_Auth v114.Seen)])] 1) (lm [(0, 0)] hm) ?_; refine A.done (by kernel_rfl) ?_; refine cT ?_; refine sg 1 ?_; cases H; exact WpC.ret rt
     ·replace H := condF hc132 H
      obtain ⟨b133, hb133, H⟩ := bindS H; obtain ⟨b134, hb134, H⟩ := bindS H; obtain ⟨r135, hr135, H⟩ := bindS H; refine A.begin mixed rfl rfl ?_; intro W hI hO
      have n131071 : W 2 #[true, true, true, true, true, true, true, true, true, true, true, true, true, true, true, true, true, false, false] (mkSt [(1, oP 0 0), (3, oI v113), (28, oL false), (32, MG.one (Cell.sl g0 (List.map eT_Auth b133))), (37, agg (bT_Auth b134))] [] [(0, [cI v114.Quiet, Cell.sl g0 (List.map eT_Auth v114.Seen)])] 1) := by
       refine hI _ _ _ ?_; refine A.all [17] (by kernel_rfl) rfl ⟨⟨_, rfl, ?_⟩, trivial⟩; refine c0 1 ent238 (g238 k2 g0 b133 b134 r135 hr135) (L.nil ?_); refine tP 18 ?_; refine A.le (τ := mkSt [(1, oP 0 0), (3, oI v113), (39, oL r135)] [] [(0, [cI v114.Quiet, Cell.sl g0 (List.map eT_Auth v114.Seen)])] 1) (lm [(0, 0)] hm) ?_; refine A.done (by kernel_rfl) ?_; refine cd H (fun hc H => ?_) (fun hc H => ?_)
       ·refine sg 1 ?_; cases H; exact WpC.ret rt
       ·refine WpC.skip (WpC.regionL ?_); refine gn 3 ?_; exact ⟨k2, _, by omega, ⟨(IntKind.i64.wrap (v113 + 1)), v114, by omega, H, rfl⟩, lm [(0, 0)] hm⟩
      have n65535 : W 3 #[true, true, true, true, true, true, true, true, true, true, true, true, true, true, true, true, false, false, false] (mkSt [(1, oP 0 0), (3, oI v113), (28, oL false), (32, MG.one (Cell.sl g0 (List.map eT_Auth b133))), (36, MG.one (Cell.pe g0 (eT_Auth b134) 0))] [] [(0, [cI v114.Quiet, Cell.sl g0 (List.map eT_Auth v114.Seen)])] 1) := by
       refine hI _ _ _ ?_; refine A.all [16] (by kernel_rfl) rfl ⟨⟨_, rfl, ?_⟩, trivial⟩; refine gn 1 ?_; exact A.on (hO _ _ _ n131071) (lm [(0, 0)] hm)
      refine hI _ _ _ ?_; refine tF 0 underlying170 info168 ?_; refine tM 2 ?_; refine A.all [1] (by kernel_rfl) rfl ⟨⟨_, rfl, ?_⟩, trivial⟩; refine gn 1 ?_; refine Atk 3 rfl (Ca.indexAddr) (fun Q0 k0 => ix underlying168 info72 hb130 (L.nil k0)) ?_; refine A.all [4] (by kernel_rfl) rfl ⟨⟨_, rfl, ?_⟩, trivial⟩; refine gn 1 ?_; refine A.all [5] (by kernel_rfl) rfl ⟨⟨_, rfl, ?_⟩, trivial⟩; refine c0 1 ent237 (g237 k2  b130 r131 hr131) (L.nil ?_); refine Atk 6 rfl (Ca.un rfl rfl) (fun Q0 k0 => nt (L.nil k0)) ?_; refine tM 7 ?_; refine A.le (τ := mkSt [(1, oP 0 0), (3, oI v113), (28, oL false)] [] [(0, [cI v114.Quiet, Cell.sl g0 (List.map eT_Auth v114.Seen)])] 1) (Le.mk [(0, 0)] hm rfl (Sa2 (Sa1 trivial rfl (congrArg (fun b => some (MG.one (cL b))) hc132))) trivial (Ba1 trivial)) ?_; refine tF 8 underlying170 info168 ?_; refine tM 10 ?_; refine tF 12 underlying170 info168 ?_; refine tM 14 ?_
      refine A.all [9, 13] (by kernel_rfl) rfl ⟨⟨_, rfl, ?_⟩, ⟨_, rfl, ?_⟩, trivial⟩
      ·refine gn 1 ?_; refine Atk 11 rfl (Ca.slice) (fun Q0 k0 => L.cutR (xs := v114.Seen) (ys := b133) (e := eT_Auth) underlying168 info72 hF rfl rfl rfl rfl rfl hb133 (fun _ => rfl) (L.nil k0)) ?_; refine A.all [13] (by kernel_rfl) rfl ⟨⟨_, rfl, ?_⟩, trivial⟩; refine gn 1 ?_; refine Atk 15 rfl (Ca.indexAddr) (fun Q0 k0 => ix underlying168 info72 hb134 (L.nil k0)) ?_; exact A.on (hO _ _ _ n65535) (lm [(0, 0)] hm)
      ·refine gn 1 ?_; refine Atk 15 rfl (Ca.indexAddr) (fun Q0 k0 => ix underlying168 info72 hb134 (L.nil k0)) ?_; refine A.all [9, 16] (by kernel_rfl) rfl ⟨⟨_, rfl, ?_⟩, ⟨_, rfl, ?_⟩, trivial⟩
       ·refine gn 1 ?_; refine Atk 11 rfl (Ca.slice) (fun Q0 k0 => L.cutR (xs := v114.Seen) (ys := b133) (e := eT_Auth) underlying168 info72 hF rfl rfl rfl rfl rfl hb133 (fun _ => rfl) (L.nil k0)) ?_; exact A.on (hO _ _ _ n65535) (lm [(0, 0)] hm)
       ·refine gn 1 ?_; refine A.all [9] (by kernel_rfl) rfl ⟨⟨_, rfl, ?_⟩, trivial⟩; refine gn 1 ?_; refine Atk 11 rfl (Ca.slice) (fun Q0 k0 => L.cutR (xs := v114.Seen) (ys := b133) (e := eT_Auth) underlying168 info72 hF rfl rfl rfl rfl rfl hb133 (fun _ => rfl) (L.nil k0)) ?_; exact A.on (hO _ _ _ n131071) (lm [(0, 0)] hm)
    ·refine WpC.exit (sr ?_); refine gn 1 ?_; cases H; exact WpC.ret rt
/-! ### S_WorldOk -/
def S_WorldOk.l10 : Nat → Int → T_World → Option Bool
 | 0, _, _ => none
 | k10 + 1, v271, v272 => cond (decide (v271 < (v272.Accepts.length : Int))) ((at? v272.Accepts v271).bind fun b284 => (S_l1In k10 b284.Server 0 2).bind fun r290 => cond (!r290) (some false) ((S_l5Principal k10 b284.Client).bind fun r291 => cond (!r291) (some false) ((S_l1In k10 b284.Leaks 0 (v272.Leaked.length : Int)).bind fun r292 => cond (!r292) (some false) ((S_l5All k10 b284.Path 6 3).bind fun r293 => cond (!r293) (some false) ((S_l5All k10 b284.Via 4 3).bind fun r294 => cond (!r294) (some false) ((S_WorldOk.l10 k10) (IntKind.i64.wrap (v271 + 1)) v272)))))) (some true)
def S_WorldOk.l8 : Nat → Int → T_World → Option Bool
 | 0, _, _ => none
 | k8 + 1, v147, v148 => cond (decide (v147 < (v148.Caches.length : Int))) ((at? v148.Caches v147).bind fun b151 => (S_CacheOk k8 b151).bind fun r152 => cond (!r152) (some false) ((S_WorldOk.l8 k8) (IntKind.i64.wrap (v147 + 1)) v148)) (S_WorldOk.l10 k8 0 v148)
def S_WorldOk.l6 : Nat → Int → T_World → Option Bool
 | 0, _, _ => none
 | k6 + 1, v113, v114 => cond (decide (v113 < (v114.Creds.length : Int))) ((at? v114.Creds v113).bind fun b117 => (S_CredOk k6 b117).bind fun r118 => cond (!r118) (some false) ((S_WorldOk.l6 k6) (IntKind.i64.wrap (v113 + 1)) v114)) (S_WorldOk.l8 k6 0 v114)
def S_WorldOk.l4 : Nat → Int → T_World → Option Bool
 | 0, _, _ => none
 | k4 + 1, v79, v80 => cond (decide (v79 < (v80.Waits.length : Int))) ((at? v80.Waits v79).bind fun b83 => (S_l10WaitOk k4 b83).bind fun r84 => cond (!r84) (some false) ((S_WorldOk.l4 k4) (IntKind.i64.wrap (v79 + 1)) v80)) (S_WorldOk.l6 k4 0 v80)
def S_WorldOk.l2 : Nat → Int → T_World → Option Bool
 | 0, _, _ => none
 | k2 + 1, v45, v46 => cond (decide (v45 < (v46.Net.length : Int))) ((at? v46.Net v45).bind fun b49 => (S_TermOk k2 b49).bind fun r50 => cond (!r50) (some false) ((S_WorldOk.l2 k2) (IntKind.i64.wrap (v45 + 1)) v46)) (S_WorldOk.l4 k2 0 v46)
def S_WorldOk (k : Nat) (a0 : T_World) : Option Bool := (S_ConfigOk k a0.Config).bind fun r13 => cond (!r13) (some false) ((S_l1In k a0.Now 0 100000).bind fun r14 => cond (!r14) (some false) ((S_l1In k a0.Fresh 101 1000000).bind fun r15 => cond (!r15) (some false) (cond (decide ((a0.Net.length : Int) > 50)) (some false) ((S_KnownOk k a0.Known).bind fun r16 => cond (!r16) (some false) (cond ((a0.Waits.length : Int) != 6) (some false) (cond (decide ((a0.Creds.length : Int) > 30)) (some false) (cond ((a0.Caches.length : Int) != 3) (some false) (cond (decide ((a0.Log.length : Int) > 40)) (some false) (cond (decide ((a0.Accepts.length : Int) > 40)) (some false) (cond (decide ((a0.Leaked.length : Int) > 40)) (some false) (S_WorldOk.l2 k 0 a0)))))))))))
theorem ent77 : MG.Enters Tryz.prog 77 := en func77
theorem g77 (k : Nat) (g0 g1 g2 g3 g4 g5 g6 g7 g8 g9 g10 g11 g12 : Bool) (a0 : T_World) (r : Bool) (H : S_WorldOk k a0 = some r) : Gives Tryz.prog 77 [V.agg (bT_World g0 g1 g2 g3 g4 g5 g6 g7 g8 g9 g10 g11 g12 a0)] [] [V.one (cL r)] [] := by
 refine Gives.intro func77 rfl rfl rfl rfl ?_; refine fx fun w0 T S0 ob oh hm => ?_
 have hF := fxe w0 T S0 172 ob oh
 unfold S_WorldOk at H; obtain ⟨K, hK⟩ := leK k; refine sr ?_; refine bo 16 ?_; refine gn 1 ?_; refine WpC.seq (sr ?_); refine go 2 ?_; refine cB 17 ent50 (g50 k g0 g1 g2 g3 a0.Config) H fun r13 H => ?_; refine go 2 ?_; refine sH H (fun hc H => ?_) (fun hc H => ?_)
 ·refine gn 59 ?_; refine cT ?_; refine sg 1 ?_; cases H; exact WpC.ret rt
 ·refine go 2 ?_; refine cB 18 ent53 (g53 k  a0.Now 0 100000) H fun r14 H => ?_; refine go 3 ?_; refine sH H (fun hc H => ?_) (fun hc H => ?_)
  ·refine gn 53 ?_; refine cT ?_; refine sg 1 ?_; cases H; exact WpC.ret rt
  ·refine go 2 ?_; refine cB 19 ent53 (g53 k  a0.Fresh 101 1000000) H fun r15 H => ?_; refine go 3 ?_; refine sH H (fun hc H => ?_) (fun hc H => ?_)
   ·refine gn 47 ?_; refine cT ?_; refine sg 1 ?_; cases H; exact WpC.ret rt
   ·refine go 2 ?_; refine L.lenR (xs := a0.Net) (e := eS) underlying34 hF rfl rfl rfl rfl ?_; refine go 3 ?_; refine sH H (fun hc H => ?_) (fun hc H => ?_)
    ·refine gn 41 ?_; refine cT ?_; refine sg 1 ?_; cases H; exact WpC.ret rt
    ·refine go 2 ?_; refine cB 20 ent158 (g158 k g5 g6 a0.Known) H fun r16 H => ?_; refine go 3 ?_; refine sH H (fun hc H => ?_) (fun hc H => ?_)
     ·refine gn 35 ?_; refine cT ?_; refine sg 1 ?_; cases H; exact WpC.ret rt
     ·refine go 2 ?_; refine L.lenR (xs := a0.Waits) (e := eT_Wait) underlying37 hF rfl rfl rfl rfl ?_; refine go 3 ?_; refine sH H (fun hc H => ?_) (fun hc H => ?_)
      ·refine gn 29 ?_; refine cT ?_; refine sg 1 ?_; cases H; exact WpC.ret rt
      ·refine go 2 ?_; refine L.lenR (xs := a0.Creds) (e := eT_Cred) underlying38 hF rfl rfl rfl rfl ?_; refine go 3 ?_; refine sH H (fun hc H => ?_) (fun hc H => ?_)
       ·refine gn 23 ?_; refine cT ?_; refine sg 1 ?_; cases H; exact WpC.ret rt
       ·refine go 2 ?_; refine L.lenR (xs := a0.Caches) (e := eT_Cache) underlying39 hF rfl rfl rfl rfl ?_; refine go 3 ?_; refine sH H (fun hc H => ?_) (fun hc H => ?_)
        ·refine gn 17 ?_; refine cT ?_; refine sg 1 ?_; cases H; exact WpC.ret rt
        ·refine go 2 ?_; refine L.lenR (xs := a0.Log) (e := eT_Event) underlying40 hF rfl rfl rfl rfl ?_; refine go 3 ?_; refine sH H (fun hc H => ?_) (fun hc H => ?_)
         ·refine gn 11 ?_; refine cT ?_; refine sg 1 ?_; cases H; exact WpC.ret rt
         ·refine go 2 ?_; refine L.lenR (xs := a0.Accepts) (e := eT_Accept) underlying41 hF rfl rfl rfl rfl ?_; refine go 3 ?_; refine sH H (fun hc H => ?_) (fun hc H => ?_)
          ·refine gn 5 ?_; refine cT ?_; refine sg 1 ?_; cases H; exact WpC.ret rt
          ·refine go 2 ?_; refine L.lenR (xs := a0.Leaked) (e := eI) underlying24 hF rfl rfl rfl rfl ?_; refine gn 2 ?_; refine cd H (fun hc H => ?_) (fun hc H => ?_)
           ·refine sg 1 ?_; cases H; exact WpC.ret rt
           ·refine WpC.skip (WpC.seq (sr ?_)); refine gn 1 ?_; refine WpC.block ?_; refine WpC.loopL (P := Tryz.prog) (fun n σ => ∃ (v45 : Int) (v46 : T_World), n ≤ K ∧ S_WorldOk.l2 n v45 v46 = some r ∧ σ = mkSt [(1, oP 0 0), (3, oI v45)] [] [(0, (bT_World g0 g1 g2 g3 g4 g5 g6 g7 g8 g9 g10 g11 g12 v46))] 1) k ⟨_, ⟨0, a0, by omega, H, rfl⟩, lm [(0, 16)] hm⟩ ?_; clear H
            rintro k2 _ ⟨v45, v46, hk2, H, rfl⟩
            cases k2 with
            | zero => cases H
            | succ k2 =>
             rw [S_WorldOk.l2] at H
             refine WpC.seq (sr ?_); refine go 3 ?_; refine L.lenR (xs := v46.Net) (e := eS) underlying34 hF rfl rfl rfl rfl ?_; refine gn 1 ?_; refine cd H (fun hc H => ?_) (fun hc H => ?_)
             ·refine WpC.skip (WpC.seq (WpC.block (sr ?_))); refine go 3 ?_; obtain ⟨b49, hb49, H⟩ := bindS H; refine ix underlying34 info9 hb49 ?_; refine le shape9 ?_; refine cB 1 ent159 (g159 k2  b49) H fun r50 H => ?_; refine gn 1 ?_; refine cd H (fun hc H => ?_) (fun hc H => ?_)
              ·refine sg 1 ?_; cases H; exact WpC.ret rt
              ·refine WpC.skip (WpC.regionL ?_); refine gn 3 ?_; exact ⟨k2, _, by omega, ⟨(IntKind.i64.wrap (v45 + 1)), v46, by omega, H, rfl⟩, lm [(0, 0)] hm⟩
             ·refine WpC.exit (WpC.seq (sr ?_)); refine gn 1 ?_; refine WpC.block ?_; refine WpC.loopL (P := Tryz.prog) (fun n σ => ∃ (v79 : Int) (v80 : T_World), n ≤ K ∧ S_WorldOk.l4 n v79 v80 = some r ∧ σ = mkSt [(1, oP 0 0), (4, oI v79)] [] [(0, (bT_World g0 g1 g2 g3 g4 g5 g6 g7 g8 g9 g10 g11 g12 v80))] 1) k2 ⟨_, ⟨0, v46, by omega, H, rfl⟩, lm [(0, 0)] hm⟩ ?_; clear H
              rintro k4 _ ⟨v79, v80, hk4, H, rfl⟩
              cases k4 with
              | zero => cases H
              | succ k4 =>
               rw [S_WorldOk.l4] at H
               refine WpC.seq (sr ?_); refine go 3 ?_; refine L.lenR (xs := v80.Waits) (e := eT_Wait) underlying37 hF rfl rfl rfl rfl ?_; refine gn 1 ?_; refine cd H (fun hc H => ?_) (fun hc H => ?_)
               ·refine WpC.skip (WpC.seq (WpC.block (sr ?_))); refine go 3 ?_; obtain ⟨b83, hb83, H⟩ := bindS H; refine ix underlying37 info198 hb83 ?_; refine le shape198 ?_; refine cB 1 ent160 (g160 k4  b83) H fun r84 H => ?_; refine gn 1 ?_; refine cd H (fun hc H => ?_) (fun hc H => ?_)
                ·refine sg 1 ?_; cases H; exact WpC.ret rt
                ·refine WpC.skip (WpC.regionL ?_); refine gn 3 ?_; exact ⟨k4, _, by omega, ⟨(IntKind.i64.wrap (v79 + 1)), v80, by omega, H, rfl⟩, lm [(0, 0)] hm⟩
               ·refine WpC.exit (WpC.seq (sr ?_)); refine gn 1 ?_; refine WpC.block ?_; refine WpC.loopL (P := Tryz.prog) (fun n σ => ∃ (v113 : Int) (v114 : T_World), n ≤ K ∧ S_WorldOk.l6 n v113 v114 = some r ∧ σ = mkSt [(1, oP 0 0), (5, oI v113)] [] [(0, (bT_World g0 g1 g2 g3 g4 g5 g6 g7 g8 g9 g10 g11 g12 v114))] 1) k4 ⟨_, ⟨0, v80, by omega, H, rfl⟩, lm [(0, 0)] hm⟩ ?_; clear H
                rintro k6 _ ⟨v113, v114, hk6, H, rfl⟩
                cases k6 with
                | zero => cases H
                | succ k6 =>
                 rw [S_WorldOk.l6] at H
                 refine WpC.seq (sr ?_); refine go 3 ?_; refine L.lenR (xs := v114.Creds) (e := eT_Cred) underlying38 hF rfl rfl rfl rfl ?_; refine gn 1 ?_; refine cd H (fun hc H => ?_) (fun hc H => ?_)
                 ·refine WpC.skip (WpC.seq (WpC.block (sr ?_))); refine go 3 ?_; obtain ⟨b117, hb117, H⟩ := bindS H; refine ix underlying38 info201 hb117 ?_; refine le shape201 ?_; refine cB 1 ent161 (g161 k6  b117) H fun r118 H => ?_; refine gn 1 ?_; refine cd H (fun hc H => ?_) (fun hc H => ?_)
                  ·refine sg 1 ?_; cases H; exact WpC.ret rt
                  ·refine WpC.skip (WpC.regionL ?_); refine gn 3 ?_; exact ⟨k6, _, by omega, ⟨(IntKind.i64.wrap (v113 + 1)), v114, by omega, H, rfl⟩, lm [(0, 0)] hm⟩
                 ·refine WpC.exit (WpC.seq (sr ?_)); refine gn 1 ?_; refine WpC.block ?_; refine WpC.loopL (P := Tryz.prog) (fun n σ => ∃ (v147 : Int) (v148 : T_World), n ≤ K ∧ S_WorldOk.l8 n v147 v148 = some r ∧ σ = mkSt [(1, oP 0 0), (6, oI v147)] [] [(0, (bT_World g0 g1 g2 g3 g4 g5 g6 g7 g8 g9 g10 g11 g12 v148))] 1) k6 ⟨_, ⟨0, v114, by omega, H, rfl⟩, lm [(0, 0)] hm⟩ ?_; clear H
                  rintro k8 _ ⟨v147, v148, hk8, H, rfl⟩
                  cases k8 with
                  | zero => cases H
                  | succ k8 =>
                   rw [S_WorldOk.l8] at H
                   refine WpC.seq (sr ?_); refine go 3 ?_; refine L.lenR (xs := v148.Caches) (e := eT_Cache) underlying39 hF rfl rfl rfl rfl ?_; refine gn 1 ?_; refine cd H (fun hc H => ?_) (fun hc H => ?_)
                   ·refine WpC.skip (WpC.seq (WpC.block (sr ?_))); refine go 3 ?_; obtain ⟨b151, hb151, H⟩ := bindS H; refine ix underlying39 info170 hb151 ?_; refine le shape170 ?_; refine cB 1 ent162 (g162 k8 g9 b151) H fun r152 H => ?_; refine gn 1 ?_; refine cd H (fun hc H => ?_) (fun hc H => ?_)
                    ·refine sg 1 ?_; cases H; exact WpC.ret rt
                    ·refine WpC.skip (WpC.regionL ?_); refine gn 3 ?_; exact ⟨k8, _, by omega, ⟨(IntKind.i64.wrap (v147 + 1)), v148, by omega, H, rfl⟩, lm [(0, 0)] hm⟩
                   ·refine WpC.exit (WpC.seq (sr ?_)); refine gn 1 ?_; refine WpC.block ?_; refine WpC.loopL (P := Tryz.prog) (fun n σ => ∃ (v271 : Int) (v272 : T_World), n ≤ K ∧ S_WorldOk.l10 n v271 v272 = some r ∧ σ = mkSt [(1, oP 0 0), (7, oI v271)] [] [(0, (bT_World g0 g1 g2 g3 g4 g5 g6 g7 g8 g9 g10 g11 g12 v272))] 1) k8 ⟨_, ⟨0, v148, by omega, H, rfl⟩, lm [(0, 0)] hm⟩ ?_; clear H
                    rintro k10 _ ⟨v271, v272, hk10, H, rfl⟩
                    cases k10 with
                    | zero => cases H
                    | succ k10 =>
                     rw [S_WorldOk.l10] at H
                     refine WpC.seq (sr ?_); refine go 3 ?_; refine L.lenR (xs := v272.Accepts) (e := eT_Accept) underlying41 hF rfl rfl rfl rfl ?_; refine gn 1 ?_; refine cd H (fun hc H => ?_) (fun hc H => ?_)
                     ·refine WpC.skip (WpC.seq (WpC.block (sr ?_))); refine go 3 ?_; obtain ⟨b284, hb284, H⟩ := bindS H; refine ix underlying41 info74 hb284 ?_; refine le shape74 ?_; refine alc 1 info74 ?_; refine gn 1 ?_; refine sy 2 ?_; refine cB 2 ent53 (g53 k10  b284.Server 0 2) H fun r290 H => ?_; refine go 2 ?_; refine sH H (fun hc H => ?_) (fun hc H => ?_)
                      ·refine gn 26 ?_; refine cT ?_; refine sg 1 ?_; cases H; exact WpC.ret rt
                      ·refine go 2 ?_; refine cB 3 ent51 (g51 k10  b284.Client) H fun r291 H => ?_; refine go 3 ?_; refine sH H (fun hc H => ?_) (fun hc H => ?_)
                       ·refine gn 20 ?_; refine cT ?_; refine sg 1 ?_; cases H; exact WpC.ret rt
                       ·refine go 4 ?_; refine L.lenR (xs := v272.Leaked) (e := eI) underlying24 hF rfl rfl rfl rfl ?_; refine cB 4 ent53 (g53 k10  b284.Leaks 0 (v272.Leaked.length : Int)) H fun r292 H => ?_; refine go 3 ?_; refine sH H (fun hc H => ?_) (fun hc H => ?_)
                        ·refine gn 11 ?_; refine cT ?_; refine sg 1 ?_; cases H; exact WpC.ret rt
                        ·refine go 2 ?_; refine cB 5 ent135 (g135 k10 g11 b284.Path 6 3) H fun r293 H => ?_; refine go 3 ?_; refine sH H (fun hc H => ?_) (fun hc H => ?_)
                         ·refine gn 5 ?_; refine cT ?_; refine sg 1 ?_; cases H; exact WpC.ret rt
                         ·refine go 2 ?_; refine cB 6 ent135 (g135 k10 g11 b284.Via 4 3) H fun r294 H => ?_; refine gn 2 ?_; refine cd H (fun hc H => ?_) (fun hc H => ?_)
                          ·refine sg 1 ?_; cases H; exact WpC.ret rt
                          ·refine WpC.skip (WpC.regionL ?_); refine gn 3 ?_; exact ⟨k10, _, by omega, ⟨(IntKind.i64.wrap (v271 + 1)), v272, by omega, H, rfl⟩, lm [(0, 0)] hm⟩
                     ·refine WpC.exit (sr ?_); refine gn 1 ?_; cases H; exact WpC.ret rt
/-! ### S_ReadKey -/
def S_ReadKey (k : Nat) (a0 : List UInt8) : Option (Int × Bool) := (S_TermOk k a0).bind fun r7 => cond (!r7) (some (0, false)) ((at? a0 0).bind fun b8 => cond (b8 != (107 : UInt8)) (some (0, false)) ((cut? a0 1 (a0.length : Int)).bind fun b9 => (S_ReadVar k b9).bind fun r10 => some (r10.1, true)))
theorem ent192 : MG.Enters Tryz.prog 192 := en func192
theorem g192 (k : Nat) (a0 : List UInt8) (r : Int × Bool) (H : S_ReadKey k a0 = some r) : Gives Tryz.prog 192 [V.one (cS a0)] [] [V.one (cI r.1), V.one (cL r.2)] [] := by
 refine Gives.intro func192 rfl rfl rfl rfl ?_; refine fx fun w0 T S0 ob oh hm => ?_
 have hF := fxe w0 T S0 21 ob oh
 unfold S_ReadKey at H; obtain ⟨K, hK⟩ := leK k; refine sg 2 ?_; refine WpC.seq (sr ?_); refine mv ?_; refine cB 1 ent159 (g159 k  a0) H fun r7 H => ?_; refine go 2 ?_; refine sH H (fun hc H => ?_) (fun hc H => ?_)
 ·refine gn 4 ?_; refine cT ?_; refine sg 2 ?_; cases H; exact WpC.ret rt
 ·refine mv ?_; obtain ⟨b8, hb8, H⟩ := bindS H; refine L.idxS underlying9 hF rfl rfl rfl rfl hb8 ?_; refine L.binB (a := b8) (b := (107 : UInt8)) hF rfl rfl rfl rfl rfl ?_; refine gn 1 ?_; refine cd H (fun hc H => ?_) (fun hc H => ?_)
  ·refine sg 2 ?_; cases H; exact WpC.ret rt
  ·refine WpC.skip (sr ?_); refine mv ?_; obtain ⟨b9, hb9, H⟩ := bindS H; refine L.cutS underlying9 hF rfl rfl rfl rfl rfl hb9 ?_; refine cB 2 ent255 (g255 k  b9) H fun r10 H => ?_; refine gn 5 ?_; refine sg 3 ?_; cases H; exact WpC.ret rt
/-! ### S_l3Has -/
def S_l3Has.l2 : Nat → (List Int) → Int → Int → Option Bool
 | 0, _, _, _ => none
 | k2 + 1, v24, v25, v26 => cond (decide (v26 < (v24.length : Int))) ((at? v24 v26).bind fun b28 => cond (b28 == v25) (some true) ((S_l3Has.l2 k2) v24 v25 (IntKind.i64.wrap (v26 + 1)))) (some false)
def S_l3Has (k : Nat) (a0 : List Int) (a1 : Int) : Option Bool := S_l3Has.l2 k a0 a1 0
theorem ent114 : MG.Enters Tryz.prog 114 := en func114
theorem g114 (k : Nat) (g0 : Bool) (a0 : List Int) (a1 : Int) (r : Bool) (H : S_l3Has k a0 a1 = some r) : Gives Tryz.prog 114 [V.one (Cell.sl g0 (List.map eI a0)), V.one (cI a1)] [] [V.one (cL r)] [] := by
 refine Gives.intro func114 rfl rfl rfl rfl ?_; refine fx fun w0 T S0 ob oh hm => ?_
 have hF := fxe w0 T S0 18 ob oh
 unfold S_l3Has at H; obtain ⟨K, hK⟩ := leK k; refine sg 1 ?_; refine WpC.seq (sr ?_); refine gn 1 ?_; refine WpC.block ?_; refine WpC.loopL (P := Tryz.prog) (fun n σ => ∃ (v24 : List Int) (v25 v26 : Int), n ≤ K ∧ S_l3Has.l2 n v24 v25 v26 = some r ∧ σ = mkSt [(0, MG.one (Cell.sl g0 (List.map eI v24))), (1, oI v25), (5, oI v26)] [] [] 0) k ⟨_, ⟨a0, a1, 0, by omega, H, rfl⟩, lm [] hm⟩ ?_; clear H
 rintro k2 _ ⟨v24, v25, v26, hk2, H, rfl⟩
 cases k2 with
 | zero => cases H
 | succ k2 =>
  rw [S_l3Has.l2] at H
  refine WpC.seq (sr ?_); refine go 2 ?_; refine L.lenR (xs := v24) (e := eI) underlying24 hF rfl rfl rfl rfl ?_; refine gn 1 ?_; refine cd H (fun hc H => ?_) (fun hc H => ?_)
  ·refine WpC.skip (WpC.seq (WpC.block (sr ?_))); refine go 2 ?_; obtain ⟨b28, hb28, H⟩ := bindS H; refine ix underlying24 info3 hb28 ?_; refine gn 3 ?_; refine cd H (fun hc H => ?_) (fun hc H => ?_)
   ·refine sg 1 ?_; cases H; exact WpC.ret rt
   ·refine WpC.skip (WpC.regionL ?_); refine gn 3 ?_; exact ⟨k2, _, by omega, ⟨v24, v25, (IntKind.i64.wrap (v26 + 1)), by omega, H, rfl⟩, lm [] hm⟩
  ·refine WpC.exit (sr ?_); refine gn 1 ?_; cases H; exact WpC.ret rt
/-! ### S_l3Put -/
def S_l3Put.j29 (cl24 : (List Int) → Int → (List Int) → Bool → Int → Option (List Int)) (k : Nat) (v259 : List Int) (v260 : Int) (v261 : List Int) (v262 : Bool) (v263 : Int) : Option (List Int) := (at? v259 v263).bind fun b264 => cond (decide ((2 * (v261.length + ([b264] : List Int).length) + 192) * 8 ≤ 281474976710656)) (cl24 v259 v260 (v261 ++ ([b264] : List Int)) v262 (IntKind.i64.wrap (v263 + 1))) none
def S_l3Put.j30 (cl24 : (List Int) → Int → (List Int) → Bool → Int → Option (List Int)) (k : Nat) (v267 : List Int) (v268 : Int) (v269 : List Int) (v270 : Bool) (v271 : Int) (v272 : Bool) : Option (List Int) := cond v272 (cond (decide ((2 * (v269.length + ([v268] : List Int).length) + 192) * 8 ≤ 281474976710656)) (S_l3Put.j29 cl24 k v267 v268 (v269 ++ ([v268] : List Int)) true v271) none) (S_l3Put.j29 cl24 k v267 v268 v269 v270 v271)
def S_l3Put.l24 : Nat → (List Int) → Int → (List Int) → Bool → Int → Option (List Int)
 | 0, _, _, _, _, _ => none
 | k24 + 1, v220, v221, v222, v223, v224 => cond (decide (v224 < (v220.length : Int))) (cond (!v223) ((at? v220 v224).bind fun b274 => S_l3Put.j30 (S_l3Put.l24 k24) k24 v220 v221 v222 v223 v224 (decide (v221 < b274))) (S_l3Put.j30 (S_l3Put.l24 k24) k24 v220 v221 v222 v223 v224 false)) (cond (!v223) (cond (decide ((2 * (v222.length + ([v221] : List Int).length) + 192) * 8 ≤ 281474976710656)) (some (v222 ++ ([v221] : List Int))) none) (some v222))
def S_l3Put (k : Nat) (a0 : List Int) (a1 : Int) : Option (List Int) := (S_l3Has k a0 a1).bind fun r2 => cond r2 (some a0) (S_l3Put.l24 k a0 a1 ([] : List Int) false 0)
theorem ent129 : MG.Enters Tryz.prog 129 := en func129
theorem g129 (k : Nat) (a0 : List Int) (a1 : Int) (r : List Int) (H : S_l3Put k a0 a1 = some r) : Gives Tryz.prog 129 [V.one (Cell.sl true (List.map eI a0)), V.one (cI a1)] [] [V.one (Cell.sl true (List.map eI r))] [] := by
 refine Gives.intro func129 rfl rfl rfl rfl ?_; refine fx fun w0 T S0 ob oh hm => ?_
 have hF := fxe w0 T S0 47 ob oh
 unfold S_l3Put at H; obtain ⟨K, hK⟩ := leK k; refine sg 1 ?_; refine WpC.seq (sr ?_); refine go 2 ?_; refine cB 2 ent114 (g114 k true a0 a1) H fun r2 H => L.nil ?_; refine cd H (fun hc H => ?_) (fun hc H => ?_)
 ·refine sg 2 ?_; cases H; exact WpC.ret rt
 ·refine WpC.skip (sr ?_); refine L.buildSlice (e := eI) 3 ([] : List Int) underlying24 info3 rfl rfl rfl hF rfl rfl rfl rfl rfl rfl rfl rfl ?_; refine gn 1 ?_; refine sg 1 ?_; refine WpC.seq (sr ?_); refine gn 1 ?_; refine WpC.block ?_; refine WpC.loopL (P := Tryz.prog) (fun n σ => ∃ (v220 : List Int) (v221 : Int) (v222 : List Int) (v223 : Bool) (v224 : Int), n ≤ K ∧ S_l3Put.l24 n v220 v221 v222 v223 v224 = some r ∧ σ = mkSt [(0, MG.one (Cell.sl true (List.map eI v220))), (1, oI v221), (5, MG.one (Cell.own 0)), (6, oL v223), (7, oI v224)] [(0, ⟨1, List.map eI v222⟩)] [] 1) k ⟨_, ⟨a0, a1, ([] : List Int), false, 0, by omega, H, rfl⟩, lm [(0, 3)] hm⟩ ?_; clear H
  rintro k24 _ ⟨v220, v221, v222, v223, v224, hk24, H, rfl⟩
  cases k24 with
  | zero => cases H
  | succ k24 =>
   rw [S_l3Put.l24] at H
   refine WpC.seq (sr ?_); refine go 2 ?_; refine L.lenR (xs := v220) (e := eI) underlying24 hF rfl rfl rfl rfl ?_; refine gn 1 ?_; refine cd H (fun hc H => ?_) (fun hc H => ?_)
   ·refine WpC.skip (WpC.seq (WpC.block ?_)); refine WpC.join (fun σ => ∃ (kj29 : Nat) (v259 : List Int) (v260 : Int) (v261 : List Int) (v262 : Bool) (v263 : Int), kj29 ≤ K ∧ S_l3Put.j29 (S_l3Put.l24 k24) kj29 v259 v260 v261 v262 v263 = some r ∧ σ = mkSt [(0, MG.one (Cell.sl true (List.map eI v259))), (1, oI v260), (5, MG.one (Cell.own 0)), (6, oL v262), (7, oI v263)] [(0, ⟨1, List.map eI v261⟩)] [] 1) ?_ ?_
    ·rintro _ ⟨kj29, v259, v260, v261, v262, v263, hkj29, H, rfl⟩
     unfold S_l3Put.j29 at H; refine WpC.regionL ?_; refine go 3 ?_; obtain ⟨b264, hb264, H⟩ := bindS H; refine ix underlying24 info3 hb264 ?_; refine le shape3 ?_; refine L.buildSlice (e := eI) 1 ([b264] : List Int) underlying24 info3 rfl rfl rfl hF rfl rfl rfl rfl rfl rfl rfl rfl ?_; obtain ⟨h265, H⟩ := condG H; refine L.append (xs := v261) (ys := ([b264] : List Int)) (e := eI) 2 underlying24 info3 rfl rfl hF rfl rfl rfl rfl rfl rfl rfl rfl (fun _ => rfl) (fun _ _ h1 h2 => by cases h1; cases h2; rfl) ⟨_, underlying24⟩ (of_decide_eq_true h265) rfl rfl ?_; refine gn 1 ?_; refine WpC.regionL ?_; refine gn 3 ?_; exact ⟨k24, _, by omega, ⟨v259, v260, (v261 ++ ([b264] : List Int)), v262, (IntKind.i64.wrap (v263 + 1)), by omega, H, rfl⟩, lm [(0, 2)] hm⟩
    ·refine WpC.join (fun σ => ∃ (kj30 : Nat) (v267 : List Int) (v268 : Int) (v269 : List Int) (v270 : Bool) (v271 : Int) (v272 : Bool), kj30 ≤ K ∧ S_l3Put.j30 (S_l3Put.l24 k24) kj30 v267 v268 v269 v270 v271 v272 = some r ∧ σ = mkSt [(0, MG.one (Cell.sl true (List.map eI v267))), (1, oI v268), (5, MG.one (Cell.own 0)), (6, oL v270), (7, oI v271), (28, oL v272)] [(0, ⟨1, List.map eI v269⟩)] [] 1) ?_ ?_
     ·rintro _ ⟨kj30, v267, v268, v269, v270, v271, v272, hkj30, H, rfl⟩
      unfold S_l3Put.j30 at H; refine cd H (fun hc H => ?_) (fun hc H => ?_)
      ·refine sy 2 ?_; refine L.buildSlice (e := eI) 1 ([v268] : List Int) underlying24 info3 rfl rfl rfl hF rfl rfl rfl rfl rfl rfl rfl rfl ?_; obtain ⟨h273, H⟩ := condG H; refine L.append (xs := v269) (ys := ([v268] : List Int)) (e := eI) 2 underlying24 info3 rfl rfl hF rfl rfl rfl rfl rfl rfl rfl rfl (fun _ => rfl) (fun _ _ h1 h2 => by cases h1; cases h2; rfl) ⟨_, underlying24⟩ (of_decide_eq_true h273) rfl rfl ?_; refine gn 1 ?_; refine WpC.regionL ?_; refine gn 1 ?_; exact ⟨_, ⟨kj30, v267, v268, (v269 ++ ([v268] : List Int)), true, v271, by omega, H, rfl⟩, lm [(0, 2)] hm⟩
      ·refine WpC.skip ?_; exact ⟨_, ⟨kj30, v267, v268, v269, v270, v271, by omega, H, rfl⟩, lm [(0, 0)] hm⟩
     ·refine WpC.regionL ?_; refine go 3 ?_; refine sH H (fun hc H => ?_) (fun hc H => ?_)
      ·refine go 3 ?_; obtain ⟨b274, hb274, H⟩ := bindS H; refine ix underlying24 info3 hb274 ?_; refine gn 3 ?_; exact ⟨_, ⟨k24, v220, v221, v222, v223, v224, (decide (v221 < b274)), by omega, H, rfl⟩, lm [(0, 0)] hm⟩
      ·refine gn 7 ?_; exact ⟨_, ⟨k24, v220, v221, v222, v223, v224, false, by omega, H, rfl⟩, lm [(0, 0)] hm⟩
   ·refine WpC.exit (WpC.seq (sr ?_)); refine gn 2 ?_; refine cd H (fun hc H => ?_) (fun hc H => ?_)
    ·refine WpC.regionL ?_; refine go 2 ?_; refine L.buildSlice (e := eI) 1 ([v221] : List Int) underlying24 info3 rfl rfl rfl hF rfl rfl rfl rfl rfl rfl rfl rfl ?_; obtain ⟨h276, H⟩ := condG H; refine L.append (xs := v222) (ys := ([v221] : List Int)) (e := eI) 2 underlying24 info3 rfl rfl hF rfl rfl rfl rfl rfl rfl rfl rfl (fun _ => rfl) (fun _ _ h1 h2 => by cases h1; cases h2; rfl) ⟨_, underlying24⟩ (of_decide_eq_true h276) rfl rfl ?_; refine gn 1 ?_; refine sg 2 ?_; refine WpC.le (Le.shareAll 2 rfl) ?_; cases H; exact WpC.ret rt
    ·refine WpC.skip (sr ?_); refine gn 2 ?_; refine WpC.le (Le.shareAll 0 rfl) ?_; cases H; exact WpC.ret rt
/-! ### S_Parts -/
def S_Parts.l4 : Nat → (List UInt8) → (List (List UInt8)) → Int → Int → Int → Option (List (List UInt8) × Bool)
 | 0, _, _, _, _, _ => none
 | k4 + 1, v68, v69, v70, v71, v72 => cond (decide (v72 < v70)) ((S_l2Term k4 v68 v71 8).bind fun r76 => (cut? v68 v71 (IntKind.i64.wrap (v71 + r76.1))).bind fun b77 => cond (decide ((2 * (v69.length + ([b77] : List (List UInt8)).length) + 192) * 16 ≤ 281474976710656)) ((S_Parts.l4 k4) v68 (v69 ++ ([b77] : List (List UInt8))) v70 (IntKind.i64.wrap (v71 + r76.1)) (IntKind.i64.wrap (v72 + 1))) none) (some (v69, true))
def S_Parts.j2 (k : Nat) (v10 : List UInt8) (v11 : List (List UInt8)) (v12 : Bool) : Option (List (List UInt8) × Bool) := cond v12 (some (v11, false)) ((cut? v10 1 (v10.length : Int)).bind fun b13 => (S_ReadVar k b13).bind fun r14 => S_Parts.l4 k v10 v11 r14.1 (IntKind.i64.wrap (1 + r14.2)) 0)
def S_Parts (k : Nat) (a0 : List UInt8) : Option (List (List UInt8) × Bool) := (S_TermOk k a0).bind fun r79 => cond (!r79) (S_Parts.j2 k a0 ([] : List (List UInt8)) true) ((at? a0 0).bind fun b80 => S_Parts.j2 k a0 ([] : List (List UInt8)) (b80 != (108 : UInt8)))
theorem ent193 : MG.Enters Tryz.prog 193 := en func193
theorem g193 (k : Nat) (a0 : List UInt8) (r : List (List UInt8) × Bool) (H : S_Parts k a0 = some r) : Gives Tryz.prog 193 [V.one (cS a0)] [] [V.one (Cell.ow 1 (List.map eS r.1)), V.one (cL r.2)] [] := by
 refine Gives.intro func193 rfl rfl rfl rfl ?_; refine fx fun w0 T S0 ob oh hm => ?_
 have hF := fxe w0 T S0 53 ob oh
 unfold S_Parts at H; obtain ⟨K, hK⟩ := leK k; refine sg 2 ?_; refine sr ?_; refine L.buildSlice (e := eS) 1 ([] : List (List UInt8)) underlying34 info9 rfl rfl rfl hF rfl rfl rfl rfl rfl rfl rfl rfl ?_; refine gn 1 ?_; refine WpC.seq ?_; refine WpC.join (fun σ => ∃ (kj2 : Nat) (v10 : List UInt8) (v11 : List (List UInt8)) (v12 : Bool), kj2 ≤ K ∧ S_Parts.j2 kj2 v10 v11 v12 = some r ∧ σ = mkSt [(0, oS v10), (4, MG.one (Cell.own 0)), (19, oL v12)] [(0, ⟨1, List.map eS v11⟩)] [] 1) ?_ ?_
 ·rintro _ ⟨kj2, v10, v11, v12, hkj2, H, rfl⟩
  unfold S_Parts.j2 at H; refine cd H (fun hc H => ?_) (fun hc H => ?_)
  ·refine sg 3 ?_; cases H; exact WpC.ret rt
  ·refine WpC.skip (sr ?_); refine mv ?_; obtain ⟨b13, hb13, H⟩ := bindS H; refine L.cutS underlying9 hF rfl rfl rfl rfl rfl hb13 ?_; refine cB 1 ent255 (g255 kj2  b13) H fun r14 H => ?_; refine gn 5 ?_; refine sg 3 ?_; refine WpC.seq (sr ?_); refine gn 1 ?_; refine WpC.block ?_; refine WpC.loopL (P := Tryz.prog) (fun n σ => ∃ (v68 : List UInt8) (v69 : List (List UInt8)) (v70 v71 v72 : Int), n ≤ K ∧ S_Parts.l4 n v68 v69 v70 v71 v72 = some r ∧ σ = mkSt [(0, oS v68), (4, MG.one (Cell.own 0)), (5, oI v70), (7, oI v71), (8, oI v72)] [(0, ⟨1, List.map eS v69⟩)] [] 1) kj2 ⟨_, ⟨v10, v11, r14.1, (IntKind.i64.wrap (1 + r14.2)), 0, by omega, H, rfl⟩, lm [(0, 0)] hm⟩ ?_; clear H
   rintro k4 _ ⟨v68, v69, v70, v71, v72, hk4, H, rfl⟩
   cases k4 with
   | zero => cases H
   | succ k4 =>
    rw [S_Parts.l4] at H
    refine WpC.seq (sr ?_); refine gn 3 ?_; refine cd H (fun hc H => ?_) (fun hc H => ?_)
    ·refine WpC.skip (WpC.seq (WpC.block (sr ?_))); refine go 2 ?_; refine cB 1 ent235 (g235 k4  v68 v71 8) H fun r76 H => ?_; refine gn 5 ?_; refine sy 6 ?_; obtain ⟨b77, hb77, H⟩ := bindS H; refine L.cutS underlying9 hF rfl rfl rfl rfl rfl hb77 ?_; refine L.buildSlice (e := eS) 3 ([b77] : List (List UInt8)) underlying34 info9 rfl rfl rfl hF rfl rfl rfl rfl rfl rfl rfl rfl ?_; obtain ⟨h78, H⟩ := condG H; refine L.append (xs := v69) (ys := ([b77] : List (List UInt8))) (e := eS) 4 underlying34 info9 rfl rfl hF rfl rfl rfl rfl rfl rfl rfl rfl (fun _ => rfl) (fun _ _ h1 h2 => by cases h1; cases h2; rfl) ⟨_, underlying34⟩ (of_decide_eq_true h78) rfl rfl ?_; refine gn 1 ?_; refine WpC.regionL ?_; refine gn 4 ?_; refine WpC.regionL ?_; refine gn 3 ?_; exact ⟨k4, _, by omega, ⟨v68, (v69 ++ ([b77] : List (List UInt8))), v70, (IntKind.i64.wrap (v71 + r76.1)), (IntKind.i64.wrap (v72 + 1)), by omega, H, rfl⟩, lm [(0, 4)] hm⟩
    ·refine WpC.exit (sr ?_); refine gn 3 ?_; cases H; exact WpC.ret rt
 ·refine WpC.regionL ?_; refine mv ?_; refine cB 2 ent159 (g159 k  a0) H fun r79 H => ?_; refine go 2 ?_; refine sH H (fun hc H => ?_) (fun hc H => ?_)
  ·refine gn 4 ?_; exact ⟨_, ⟨k, a0, ([] : List (List UInt8)), true, by omega, H, rfl⟩, lm [(0, 1)] hm⟩
  ·refine mv ?_; obtain ⟨b80, hb80, H⟩ := bindS H; refine L.idxS underlying9 hF rfl rfl rfl rfl hb80 ?_; refine L.binB (a := b80) (b := (108 : UInt8)) hF rfl rfl rfl rfl rfl ?_; refine gn 1 ?_; exact ⟨_, ⟨k, a0, ([] : List (List UInt8)), (b80 != (108 : UInt8)), by omega, H, rfl⟩, lm [(0, 1)] hm⟩
/-! ### S_Open -/
def S_Open (k : Nat) (a0 : List UInt8) (a1 : Int) : Option (List UInt8 × Bool) := (S_TermOk k a0).bind fun r7 => cond (!r7) (some (([] : List UInt8), false)) ((at? a0 0).bind fun b8 => cond (b8 != (115 : UInt8)) (some (([] : List UInt8), false)) ((cut? a0 1 (a0.length : Int)).bind fun b9 => (S_ReadVar k b9).bind fun r10 => cond (r10.1 != a1) (some (([] : List UInt8), false)) ((cut? a0 (IntKind.i64.wrap (1 + r10.2)) (a0.length : Int)).bind fun b11 => some (b11, true))))
theorem ent195 : MG.Enters Tryz.prog 195 := en func195
theorem g195 (k : Nat) (a0 : List UInt8) (a1 : Int) (r : List UInt8 × Bool) (H : S_Open k a0 a1 = some r) : Gives Tryz.prog 195 [V.one (cS a0), V.one (cI a1)] [] [V.one (cS r.1), V.one (cL r.2)] [] := by
 refine Gives.intro func195 rfl rfl rfl rfl ?_; refine fx fun w0 T S0 ob oh hm => ?_
 have hF := fxe w0 T S0 29 ob oh
 unfold S_Open at H; obtain ⟨K, hK⟩ := leK k; refine sg 2 ?_; refine WpC.seq (sr ?_); refine mv ?_; refine cB 2 ent159 (g159 k  a0) H fun r7 H => ?_; refine go 2 ?_; refine sH H (fun hc H => ?_) (fun hc H => ?_)
 ·refine gn 4 ?_; refine cT ?_; refine sg 2 ?_; cases H; exact WpC.ret rt
 ·refine mv ?_; obtain ⟨b8, hb8, H⟩ := bindS H; refine L.idxS underlying9 hF rfl rfl rfl rfl hb8 ?_; refine L.binB (a := b8) (b := (115 : UInt8)) hF rfl rfl rfl rfl rfl ?_; refine gn 1 ?_; refine cd H (fun hc H => ?_) (fun hc H => ?_)
  ·refine sg 2 ?_; cases H; exact WpC.ret rt
  ·refine WpC.skip (sr ?_); refine mv ?_; obtain ⟨b9, hb9, H⟩ := bindS H; refine L.cutS underlying9 hF rfl rfl rfl rfl rfl hb9 ?_; refine cB 3 ent255 (g255 k  b9) H fun r10 H => ?_; refine gn 5 ?_; refine WpC.seq (sr ?_); refine gn 3 ?_; refine cd H (fun hc H => ?_) (fun hc H => ?_)
   ·refine sg 2 ?_; cases H; exact WpC.ret rt
   ·refine WpC.skip (sr ?_); refine go 3 ?_; obtain ⟨b11, hb11, H⟩ := bindS H; refine L.cutS underlying9 hF rfl rfl rfl rfl rfl hb11 ?_; refine gn 2 ?_; cases H; exact WpC.ret rt
end Go.Proofs.YtbaemdkdgghokaaGreat.M
