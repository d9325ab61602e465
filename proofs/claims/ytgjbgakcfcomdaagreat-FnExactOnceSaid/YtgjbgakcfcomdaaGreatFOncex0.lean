import Derived.Test.YtgjbgakcfcomdaaGreatKOnce1
import Derived.Test.YtgjbgakcfcomdaaGreatProg
namespace Go.Proofs.YtgjbgakcfcomdaaGreat.M
open Go Go.MG
set_option linter.unusedVariables false
set_option linter.unusedSimpArgs false
structure Tlaws_Pair where
  A : Int
  B : Int
def eTlaws_Pair (x : Tlaws_Pair) : List Cell := [cI x.A, cI x.B]
structure Tlaws_Config where
  UserRealm : List Int
  ServiceRealm : List Int
  Links : List Tlaws_Pair
  Proxy : List Tlaws_Pair
  Skew : Int
def eTlaws_Config (x : Tlaws_Config) : List Cell := [Cell.sl true (List.map eI x.UserRealm), Cell.sl true (List.map eI x.ServiceRealm), Cell.sl true (List.map eTlaws_Pair x.Links), Cell.sl true (List.map eTlaws_Pair x.Proxy), cI x.Skew]
def bTlaws_Config (g0 : Bool) (g1 : Bool) (g2 : Bool) (g3 : Bool) (x : Tlaws_Config) : List Cell := [Cell.sl g0 (List.map eI x.UserRealm), Cell.sl g1 (List.map eI x.ServiceRealm), Cell.sl g2 (List.map eTlaws_Pair x.Links), Cell.sl g3 (List.map eTlaws_Pair x.Proxy), cI x.Skew]
structure Tlaws_Auth where
  Client : Int
  Time : Int
  Seq : Int
def eTlaws_Auth (x : Tlaws_Auth) : List Cell := [cI x.Client, cI x.Time, cI x.Seq]
structure Tlaws_Cache where
  Quiet : Int
  Seen : List Tlaws_Auth
def eTlaws_Cache (x : Tlaws_Cache) : List Cell := [cI x.Quiet, Cell.sl true (List.map eTlaws_Auth x.Seen)]
structure Timpl_Auth where
  Client : Int
  Time : Int
  Seq : Int
def eTimpl_Auth (x : Timpl_Auth) : List Cell := [cI x.Client, cI x.Time, cI x.Seq]
def bTimpl_Auth (x : Timpl_Auth) : List Cell := [cI x.Client, cI x.Time, cI x.Seq]
structure Timpl_Cache where
  Quiet : Int
  Seen : List Timpl_Auth
def eTimpl_Cache (x : Timpl_Cache) : List Cell := [cI x.Quiet, Cell.ow 3 (List.map eTimpl_Auth x.Seen)]
structure Timpl_Rest where
  Servers : Int
  Ops : Int
  End : Int
def eTimpl_Rest (x : Timpl_Rest) : List Cell := [cI x.Servers, cI x.Ops, cI x.End]
structure Timpl_Accept where
  Server : Int
  Client : Int
  Key : Int
  Op : Int
  Now : Int
  Auth : Timpl_Auth
  Rest : Timpl_Rest
  Path : List Int
  Via : List Int
  Leaks : Int
  Ticket : List UInt8
def eTimpl_Accept (x : Timpl_Accept) : List Cell := [cI x.Server, cI x.Client, cI x.Key, cI x.Op, cI x.Now, cI x.Auth.Client, cI x.Auth.Time, cI x.Auth.Seq, cI x.Rest.Servers, cI x.Rest.Ops, cI x.Rest.End, Cell.ow 1 (List.map eI x.Path), Cell.ow 1 (List.map eI x.Via), cI x.Leaks, cS x.Ticket]
def bTimpl_Accept (g0 : Bool) (g1 : Bool) (x : Timpl_Accept) : List Cell := [cI x.Server, cI x.Client, cI x.Key, cI x.Op, cI x.Now, cI x.Auth.Client, cI x.Auth.Time, cI x.Auth.Seq, cI x.Rest.Servers, cI x.Rest.Ops, cI x.Rest.End, Cell.sl g0 (List.map eI x.Path), Cell.sl g1 (List.map eI x.Via), cI x.Leaks, cS x.Ticket]
structure Timpl_Pair where
  A : Int
  B : Int
def eTimpl_Pair (x : Timpl_Pair) : List Cell := [cI x.A, cI x.B]
structure Timpl_Config where
  UserRealm : List Int
  ServiceRealm : List Int
  Links : List Timpl_Pair
  Proxy : List Timpl_Pair
  Skew : Int
def eTimpl_Config (x : Timpl_Config) : List Cell := [Cell.ow 1 (List.map eI x.UserRealm), Cell.ow 1 (List.map eI x.ServiceRealm), Cell.ow 2 (List.map eTimpl_Pair x.Links), Cell.ow 2 (List.map eTimpl_Pair x.Proxy), cI x.Skew]
structure Tlaws_Known where
  Terms : List (List UInt8)
  Keys : List Int
def eTlaws_Known (x : Tlaws_Known) : List Cell := [Cell.sl true (List.map eS x.Terms), Cell.sl true (List.map eI x.Keys)]
structure Tlaws_Wait where
  On : Bool
  Nonce : Int
  Key : Int
  Client : Int
def eTlaws_Wait (x : Tlaws_Wait) : List Cell := [cL x.On, cI x.Nonce, cI x.Key, cI x.Client]
def bTlaws_Wait (x : Tlaws_Wait) : List Cell := [cL x.On, cI x.Nonce, cI x.Key, cI x.Client]
structure Tlaws_Rest where
  Servers : Int
  Ops : Int
  End : Int
def eTlaws_Rest (x : Tlaws_Rest) : List Cell := [cI x.Servers, cI x.Ops, cI x.End]
structure Tlaws_Cred where
  Owner : Int
  Client : Int
  Service : Int
  Key : Int
  Rest : Tlaws_Rest
  Ticket : List UInt8
def eTlaws_Cred (x : Tlaws_Cred) : List Cell := [cI x.Owner, cI x.Client, cI x.Service, cI x.Key, cI x.Rest.Servers, cI x.Rest.Ops, cI x.Rest.End, cS x.Ticket]
def bTlaws_Cred (x : Tlaws_Cred) : List Cell := [cI x.Owner, cI x.Client, cI x.Service, cI x.Key, cI x.Rest.Servers, cI x.Rest.Ops, cI x.Rest.End, cS x.Ticket]
structure Tlaws_Event where
  Kind : Int
  Realm : Int
  By : Int
  Client : Int
  Service : Int
  Key : Int
  Parent : Int
  Evid : Int
  Rest : Tlaws_Rest
def eTlaws_Event (x : Tlaws_Event) : List Cell := [cI x.Kind, cI x.Realm, cI x.By, cI x.Client, cI x.Service, cI x.Key, cI x.Parent, cI x.Evid, cI x.Rest.Servers, cI x.Rest.Ops, cI x.Rest.End]
def bTlaws_Event (x : Tlaws_Event) : List Cell := [cI x.Kind, cI x.Realm, cI x.By, cI x.Client, cI x.Service, cI x.Key, cI x.Parent, cI x.Evid, cI x.Rest.Servers, cI x.Rest.Ops, cI x.Rest.End]
structure Tlaws_Accept where
  Server : Int
  Client : Int
  Key : Int
  Op : Int
  Now : Int
  Auth : Tlaws_Auth
  Rest : Tlaws_Rest
  Path : List Int
  Via : List Int
  Leaks : Int
  Ticket : List UInt8
def eTlaws_Accept (x : Tlaws_Accept) : List Cell := [cI x.Server, cI x.Client, cI x.Key, cI x.Op, cI x.Now, cI x.Auth.Client, cI x.Auth.Time, cI x.Auth.Seq, cI x.Rest.Servers, cI x.Rest.Ops, cI x.Rest.End, Cell.sl true (List.map eI x.Path), Cell.sl true (List.map eI x.Via), cI x.Leaks, cS x.Ticket]
def bTlaws_Accept (g0 : Bool) (g1 : Bool) (x : Tlaws_Accept) : List Cell := [cI x.Server, cI x.Client, cI x.Key, cI x.Op, cI x.Now, cI x.Auth.Client, cI x.Auth.Time, cI x.Auth.Seq, cI x.Rest.Servers, cI x.Rest.Ops, cI x.Rest.End, Cell.sl g0 (List.map eI x.Path), Cell.sl g1 (List.map eI x.Via), cI x.Leaks, cS x.Ticket]
structure Tlaws_World where
  Config : Tlaws_Config
  Now : Int
  Fresh : Int
  Net : List (List UInt8)
  Known : Tlaws_Known
  Waits : List Tlaws_Wait
  Creds : List Tlaws_Cred
  Caches : List Tlaws_Cache
  Log : List Tlaws_Event
  Accepts : List Tlaws_Accept
  Leaked : List Int
def eTlaws_World (x : Tlaws_World) : List Cell := [Cell.sl true (List.map eI x.Config.UserRealm), Cell.sl true (List.map eI x.Config.ServiceRealm), Cell.sl true (List.map eTlaws_Pair x.Config.Links), Cell.sl true (List.map eTlaws_Pair x.Config.Proxy), cI x.Config.Skew, cI x.Now, cI x.Fresh, Cell.sl true (List.map eS x.Net), Cell.sl true (List.map eS x.Known.Terms), Cell.sl true (List.map eI x.Known.Keys), Cell.sl true (List.map eTlaws_Wait x.Waits), Cell.sl true (List.map eTlaws_Cred x.Creds), Cell.sl true (List.map eTlaws_Cache x.Caches), Cell.sl true (List.map eTlaws_Event x.Log), Cell.sl true (List.map eTlaws_Accept x.Accepts), Cell.sl true (List.map eI x.Leaked)]
def bTlaws_World (g0 : Bool) (g1 : Bool) (g2 : Bool) (g3 : Bool) (g4 : Bool) (g5 : Bool) (g6 : Bool) (g7 : Bool) (g8 : Bool) (g9 : Bool) (g10 : Bool) (g11 : Bool) (g12 : Bool) (x : Tlaws_World) : List Cell := [Cell.sl g0 (List.map eI x.Config.UserRealm), Cell.sl g1 (List.map eI x.Config.ServiceRealm), Cell.sl g2 (List.map eTlaws_Pair x.Config.Links), Cell.sl g3 (List.map eTlaws_Pair x.Config.Proxy), cI x.Config.Skew, cI x.Now, cI x.Fresh, Cell.sl g4 (List.map eS x.Net), Cell.sl g5 (List.map eS x.Known.Terms), Cell.sl g6 (List.map eI x.Known.Keys), Cell.sl g7 (List.map eTlaws_Wait x.Waits), Cell.sl g8 (List.map eTlaws_Cred x.Creds), Cell.sl g9 (List.map eTlaws_Cache x.Caches), Cell.sl g10 (List.map eTlaws_Event x.Log), Cell.sl g11 (List.map eTlaws_Accept x.Accepts), Cell.sl g12 (List.map eI x.Leaked)]
structure Timpl_Known where
  Terms : List (List UInt8)
  Keys : List Int
def eTimpl_Known (x : Timpl_Known) : List Cell := [Cell.ow 1 (List.map eS x.Terms), Cell.ow 1 (List.map eI x.Keys)]
structure Timpl_Wait where
  On : Bool
  Nonce : Int
  Key : Int
  Client : Int
def eTimpl_Wait (x : Timpl_Wait) : List Cell := [cL x.On, cI x.Nonce, cI x.Key, cI x.Client]
def bTimpl_Wait (x : Timpl_Wait) : List Cell := [cL x.On, cI x.Nonce, cI x.Key, cI x.Client]
structure Timpl_Cred where
  Owner : Int
  Client : Int
  Service : Int
  Key : Int
  Rest : Timpl_Rest
  Ticket : List UInt8
def eTimpl_Cred (x : Timpl_Cred) : List Cell := [cI x.Owner, cI x.Client, cI x.Service, cI x.Key, cI x.Rest.Servers, cI x.Rest.Ops, cI x.Rest.End, cS x.Ticket]
def bTimpl_Cred (x : Timpl_Cred) : List Cell := [cI x.Owner, cI x.Client, cI x.Service, cI x.Key, cI x.Rest.Servers, cI x.Rest.Ops, cI x.Rest.End, cS x.Ticket]
structure Timpl_Event where
  Kind : Int
  Realm : Int
  By : Int
  Client : Int
  Service : Int
  Key : Int
  Parent : Int
  Evid : Int
  Rest : Timpl_Rest
def eTimpl_Event (x : Timpl_Event) : List Cell := [cI x.Kind, cI x.Realm, cI x.By, cI x.Client, cI x.Service, cI x.Key, cI x.Parent, cI x.Evid, cI x.Rest.Servers, cI x.Rest.Ops, cI x.Rest.End]
def bTimpl_Event (x : Timpl_Event) : List Cell := [cI x.Kind, cI x.Realm, cI x.By, cI x.Client, cI x.Service, cI x.Key, cI x.Parent, cI x.Evid, cI x.Rest.Servers, cI x.Rest.Ops, cI x.Rest.End]
structure Timpl_World where
  Config : Timpl_Config
  Now : Int
  Fresh : Int
  Net : List (List UInt8)
  Known : Timpl_Known
  Waits : List Timpl_Wait
  Creds : List Timpl_Cred
  Caches : List Timpl_Cache
  Log : List Timpl_Event
  Accepts : List Timpl_Accept
  Leaked : List Int
def eTimpl_World (x : Timpl_World) : List Cell := [Cell.ow 1 (List.map eI x.Config.UserRealm), Cell.ow 1 (List.map eI x.Config.ServiceRealm), Cell.ow 2 (List.map eTimpl_Pair x.Config.Links), Cell.ow 2 (List.map eTimpl_Pair x.Config.Proxy), cI x.Config.Skew, cI x.Now, cI x.Fresh, Cell.ow 1 (List.map eS x.Net), Cell.ow 1 (List.map eS x.Known.Terms), Cell.ow 1 (List.map eI x.Known.Keys), Cell.ow 4 (List.map eTimpl_Wait x.Waits), Cell.ow 8 (List.map eTimpl_Cred x.Creds), Cell.ow 2 (List.map eTimpl_Cache x.Caches), Cell.ow 11 (List.map eTimpl_Event x.Log), Cell.ow 15 (List.map eTimpl_Accept x.Accepts), Cell.ow 1 (List.map eI x.Leaked)]
def bTimpl_World (g0 : Bool) (g1 : Bool) (g2 : Bool) (g3 : Bool) (g4 : Bool) (g5 : Bool) (g6 : Bool) (g7 : Bool) (g8 : Bool) (g9 : Bool) (g10 : Bool) (g11 : Bool) (g12 : Bool) (x : Timpl_World) : List Cell := [Cell.sl g0 (List.map eI x.Config.UserRealm), Cell.sl g1 (List.map eI x.Config.ServiceRealm), Cell.sl g2 (List.map eTimpl_Pair x.Config.Links), Cell.sl g3 (List.map eTimpl_Pair x.Config.Proxy), cI x.Config.Skew, cI x.Now, cI x.Fresh, Cell.sl g4 (List.map eS x.Net), Cell.sl g5 (List.map eS x.Known.Terms), Cell.sl g6 (List.map eI x.Known.Keys), Cell.sl g7 (List.map eTimpl_Wait x.Waits), Cell.sl g8 (List.map eTimpl_Cred x.Creds), Cell.sl g9 (List.map eTimpl_Cache x.Caches), Cell.sl g10 (List.map eTimpl_Event x.Log), Cell.sl g11 (List.map eTimpl_Accept x.Accepts), Cell.sl g12 (List.map eI x.Leaked)]
theorem mixed : Tryz.prog.follows .mixedOrders = true := by kernel_rfl
theorem shape3 : MG.shape Tryz.prog 3 = some (false, 1) := by kernel_rfl
theorem shape4 : MG.shape Tryz.prog 4 = some (false, 1) := by kernel_rfl
theorem shape9 : MG.shape Tryz.prog 9 = some (false, 1) := by kernel_rfl
theorem shape22 : MG.shape Tryz.prog 22 = some (false, 1) := by kernel_rfl
theorem shape23 : MG.shape Tryz.prog 23 = some (false, 1) := by kernel_rfl
theorem shape25 : MG.shape Tryz.prog 25 = some (true, 5) := by kernel_rfl
theorem shape26 : MG.shape Tryz.prog 26 = some (false, 1) := by kernel_rfl
theorem shape28 : MG.shape Tryz.prog 28 = some (true, 2) := by kernel_rfl
theorem shape31 : MG.shape Tryz.prog 31 = some (false, 1) := by kernel_rfl
theorem shape33 : MG.shape Tryz.prog 33 = some (true, 2) := by kernel_rfl
theorem shape35 : MG.shape Tryz.prog 35 = some (true, 3) := by kernel_rfl
theorem shape37 : MG.shape Tryz.prog 37 = some (true, 3) := by kernel_rfl
theorem shape39 : MG.shape Tryz.prog 39 = some (true, 15) := by kernel_rfl
theorem shape42 : MG.shape Tryz.prog 42 = some (false, 1) := by kernel_rfl
theorem shape44 : MG.shape Tryz.prog 44 = some (true, 5) := by kernel_rfl
theorem shape61 : MG.shape Tryz.prog 61 = some (false, 1) := by kernel_rfl
theorem shape63 : MG.shape Tryz.prog 63 = some (true, 2) := by kernel_rfl
theorem shape64 : MG.shape Tryz.prog 64 = some (false, 1) := by kernel_rfl
theorem shape65 : MG.shape Tryz.prog 65 = some (false, 1) := by kernel_rfl
theorem shape66 : MG.shape Tryz.prog 66 = some (false, 1) := by kernel_rfl
theorem shape67 : MG.shape Tryz.prog 67 = some (false, 1) := by kernel_rfl
theorem shape68 : MG.shape Tryz.prog 68 = some (false, 1) := by kernel_rfl
theorem shape70 : MG.shape Tryz.prog 70 = some (true, 16) := by kernel_rfl
theorem shape73 : MG.shape Tryz.prog 73 = some (true, 2) := by kernel_rfl
theorem shape74 : MG.shape Tryz.prog 74 = some (false, 1) := by kernel_rfl
theorem shape75 : MG.shape Tryz.prog 75 = some (false, 1) := by kernel_rfl
theorem shape76 : MG.shape Tryz.prog 76 = some (false, 1) := by kernel_rfl
theorem shape77 : MG.shape Tryz.prog 77 = some (false, 1) := by kernel_rfl
theorem shape78 : MG.shape Tryz.prog 78 = some (false, 1) := by kernel_rfl
theorem shape80 : MG.shape Tryz.prog 80 = some (true, 16) := by kernel_rfl
theorem shape85 : MG.shape Tryz.prog 85 = some (true, 11) := by kernel_rfl
theorem shape142 : MG.shape Tryz.prog 142 = some (true, 8) := by kernel_rfl
theorem shape159 : MG.shape Tryz.prog 159 = some (true, 4) := by kernel_rfl
theorem shape199 : MG.shape Tryz.prog 199 = some (true, 2) := by kernel_rfl
theorem shape201 : MG.shape Tryz.prog 201 = some (true, 2) := by kernel_rfl
theorem shape203 : MG.shape Tryz.prog 203 = some (true, 3) := by kernel_rfl
theorem shape223 : MG.shape Tryz.prog 223 = some (true, 3) := by kernel_rfl
theorem shape225 : MG.shape Tryz.prog 225 = some (true, 8) := by kernel_rfl
theorem shape228 : MG.shape Tryz.prog 228 = some (true, 15) := by kernel_rfl
theorem shape231 : MG.shape Tryz.prog 231 = some (true, 4) := by kernel_rfl
theorem shape235 : MG.shape Tryz.prog 235 = some (true, 11) := by kernel_rfl
theorem info3 : Tryz.prog.info? 3 = some Tryz.t3 := by kernel_rfl
theorem info4 : Tryz.prog.info? 4 = some Tryz.t4 := by kernel_rfl
theorem info5 : Tryz.prog.info? 5 = some Tryz.t5 := by kernel_rfl
theorem info9 : Tryz.prog.info? 9 = some Tryz.t9 := by kernel_rfl
theorem info22 : Tryz.prog.info? 22 = some Tryz.t22 := by kernel_rfl
theorem info23 : Tryz.prog.info? 23 = some Tryz.t23 := by kernel_rfl
theorem info25 : Tryz.prog.info? 25 = some Tryz.t25 := by kernel_rfl
theorem info26 : Tryz.prog.info? 26 = some Tryz.t26 := by kernel_rfl
theorem info28 : Tryz.prog.info? 28 = some Tryz.t28 := by kernel_rfl
theorem info31 : Tryz.prog.info? 31 = some Tryz.t31 := by kernel_rfl
theorem info33 : Tryz.prog.info? 33 = some Tryz.t33 := by kernel_rfl
theorem info35 : Tryz.prog.info? 35 = some Tryz.t35 := by kernel_rfl
theorem info37 : Tryz.prog.info? 37 = some Tryz.t37 := by kernel_rfl
theorem info39 : Tryz.prog.info? 39 = some Tryz.t39 := by kernel_rfl
theorem info42 : Tryz.prog.info? 42 = some Tryz.t42 := by kernel_rfl
theorem info44 : Tryz.prog.info? 44 = some Tryz.t44 := by kernel_rfl
theorem info61 : Tryz.prog.info? 61 = some Tryz.t61 := by kernel_rfl
theorem info63 : Tryz.prog.info? 63 = some Tryz.t63 := by kernel_rfl
theorem info64 : Tryz.prog.info? 64 = some Tryz.t64 := by kernel_rfl
theorem info65 : Tryz.prog.info? 65 = some Tryz.t65 := by kernel_rfl
theorem info66 : Tryz.prog.info? 66 = some Tryz.t66 := by kernel_rfl
theorem info67 : Tryz.prog.info? 67 = some Tryz.t67 := by kernel_rfl
theorem info68 : Tryz.prog.info? 68 = some Tryz.t68 := by kernel_rfl
theorem info73 : Tryz.prog.info? 73 = some Tryz.t73 := by kernel_rfl
theorem info74 : Tryz.prog.info? 74 = some Tryz.t74 := by kernel_rfl
theorem info75 : Tryz.prog.info? 75 = some Tryz.t75 := by kernel_rfl
theorem info76 : Tryz.prog.info? 76 = some Tryz.t76 := by kernel_rfl
theorem info77 : Tryz.prog.info? 77 = some Tryz.t77 := by kernel_rfl
theorem info78 : Tryz.prog.info? 78 = some Tryz.t78 := by kernel_rfl
theorem info80 : Tryz.prog.info? 80 = some Tryz.t80 := by kernel_rfl
theorem info85 : Tryz.prog.info? 85 = some Tryz.t85 := by kernel_rfl
theorem info142 : Tryz.prog.info? 142 = some Tryz.t142 := by kernel_rfl
theorem info159 : Tryz.prog.info? 159 = some Tryz.t159 := by kernel_rfl
theorem info199 : Tryz.prog.info? 199 = some Tryz.t199 := by kernel_rfl
theorem info201 : Tryz.prog.info? 201 = some Tryz.t201 := by kernel_rfl
theorem info203 : Tryz.prog.info? 203 = some Tryz.t203 := by kernel_rfl
theorem info223 : Tryz.prog.info? 223 = some Tryz.t223 := by kernel_rfl
theorem info225 : Tryz.prog.info? 225 = some Tryz.t225 := by kernel_rfl
theorem info228 : Tryz.prog.info? 228 = some Tryz.t228 := by kernel_rfl
theorem info231 : Tryz.prog.info? 231 = some Tryz.t231 := by kernel_rfl
theorem info235 : Tryz.prog.info? 235 = some Tryz.t235 := by kernel_rfl
theorem built159 : builtA Tryz.prog 159 = fillA (fun x => ([(0, 1), (1, 1), (2, 1), (3, 1)] : List (Nat × Nat))[x]?) [cL false, cI (0 : Int), cI (0 : Int), cI (0 : Int)] := by kernel_rfl
abbrev bx (a b c d : Int) : List Cell := [cI a, cI b, cI c, cI d]
theorem Sa1 {π : Nat → Option Nat} {σ : St} {t0 : Nat} {s0 u0 : Slot} {l : List (Nat × Slot)} (k : SlotsOk π σ l) (h0 : renS π s0 = some u0 := by exact rfl) (g0 : σ.slots t0 = some u0 := by exact rfl) : SlotsOk π σ ((t0, s0) :: l) := ⟨⟨_, h0, g0⟩, k⟩
theorem Ra1 {π : Nat → Option Nat} {σ : St} {t0 q0 : Nat} {s0 : Row} {l : List (Nat × Row)} (k : RowsOk π σ l) (h0 : π t0 = some q0 := by exact rfl) (g0 : σ.H.rows q0 = some s0 := by exact rfl) : RowsOk π σ ((t0, s0) :: l) := ⟨⟨_, h0, g0⟩, k⟩
theorem Ba1 {π : Nat → Option Nat} {σ : St} {t0 q0 : Nat} {c0 d0 : List Cell} {l : List (Nat × List Cell)} (k : BoxesOk π σ l) (h0 : π t0 = some q0 := by exact rfl) (g0 : renCs π c0 = some d0 := by exact rfl) (e0 : σ.H.boxes q0 = some d0 := by exact rfl) : BoxesOk π σ ((t0, c0) :: l) := ⟨⟨_, _, h0, g0, e0⟩, k⟩
theorem Sa2 {π : Nat → Option Nat} {σ : St} {t0 t1 : Nat} {s0 u0 s1 u1 : Slot} {l : List (Nat × Slot)} (k : SlotsOk π σ l) (h0 : renS π s0 = some u0 := by exact rfl) (g0 : σ.slots t0 = some u0 := by exact rfl) (h1 : renS π s1 = some u1 := by exact rfl) (g1 : σ.slots t1 = some u1 := by exact rfl) : SlotsOk π σ ((t0, s0) :: (t1, s1) :: l) := ⟨⟨_, h0, g0⟩, ⟨_, h1, g1⟩, k⟩
theorem Ra2 {π : Nat → Option Nat} {σ : St} {t0 q0 t1 q1 : Nat} {s0 s1 : Row} {l : List (Nat × Row)} (k : RowsOk π σ l) (h0 : π t0 = some q0 := by exact rfl) (g0 : σ.H.rows q0 = some s0 := by exact rfl) (h1 : π t1 = some q1 := by exact rfl) (g1 : σ.H.rows q1 = some s1 := by exact rfl) : RowsOk π σ ((t0, s0) :: (t1, s1) :: l) := ⟨⟨_, h0, g0⟩, ⟨_, h1, g1⟩, k⟩
theorem Ba2 {π : Nat → Option Nat} {σ : St} {t0 q0 t1 q1 : Nat} {c0 d0 c1 d1 : List Cell} {l : List (Nat × List Cell)} (k : BoxesOk π σ l) (h0 : π t0 = some q0 := by exact rfl) (g0 : renCs π c0 = some d0 := by exact rfl) (e0 : σ.H.boxes q0 = some d0 := by exact rfl) (h1 : π t1 = some q1 := by exact rfl) (g1 : renCs π c1 = some d1 := by exact rfl) (e1 : σ.H.boxes q1 = some d1 := by exact rfl) : BoxesOk π σ ((t0, c0) :: (t1, c1) :: l) := ⟨⟨_, _, h0, g0, e0⟩, ⟨_, _, h1, g1, e1⟩, k⟩
theorem Sa4 {π : Nat → Option Nat} {σ : St} {t0 t1 t2 t3 : Nat} {s0 u0 s1 u1 s2 u2 s3 u3 : Slot} {l : List (Nat × Slot)} (k : SlotsOk π σ l) (h0 : renS π s0 = some u0 := by exact rfl) (g0 : σ.slots t0 = some u0 := by exact rfl) (h1 : renS π s1 = some u1 := by exact rfl) (g1 : σ.slots t1 = some u1 := by exact rfl) (h2 : renS π s2 = some u2 := by exact rfl) (g2 : σ.slots t2 = some u2 := by exact rfl) (h3 : renS π s3 = some u3 := by exact rfl) (g3 : σ.slots t3 = some u3 := by exact rfl) : SlotsOk π σ ((t0, s0) :: (t1, s1) :: (t2, s2) :: (t3, s3) :: l) := ⟨⟨_, h0, g0⟩, ⟨_, h1, g1⟩, ⟨_, h2, g2⟩, ⟨_, h3, g3⟩, k⟩
theorem Ra4 {π : Nat → Option Nat} {σ : St} {t0 q0 t1 q1 t2 q2 t3 q3 : Nat} {s0 s1 s2 s3 : Row} {l : List (Nat × Row)} (k : RowsOk π σ l) (h0 : π t0 = some q0 := by exact rfl) (g0 : σ.H.rows q0 = some s0 := by exact rfl) (h1 : π t1 = some q1 := by exact rfl) (g1 : σ.H.rows q1 = some s1 := by exact rfl) (h2 : π t2 = some q2 := by exact rfl) (g2 : σ.H.rows q2 = some s2 := by exact rfl) (h3 : π t3 = some q3 := by exact rfl) (g3 : σ.H.rows q3 = some s3 := by exact rfl) : RowsOk π σ ((t0, s0) :: (t1, s1) :: (t2, s2) :: (t3, s3) :: l) := ⟨⟨_, h0, g0⟩, ⟨_, h1, g1⟩, ⟨_, h2, g2⟩, ⟨_, h3, g3⟩, k⟩
theorem Ba4 {π : Nat → Option Nat} {σ : St} {t0 q0 t1 q1 t2 q2 t3 q3 : Nat} {c0 d0 c1 d1 c2 d2 c3 d3 : List Cell} {l : List (Nat × List Cell)} (k : BoxesOk π σ l) (h0 : π t0 = some q0 := by exact rfl) (g0 : renCs π c0 = some d0 := by exact rfl) (e0 : σ.H.boxes q0 = some d0 := by exact rfl) (h1 : π t1 = some q1 := by exact rfl) (g1 : renCs π c1 = some d1 := by exact rfl) (e1 : σ.H.boxes q1 = some d1 := by exact rfl) (h2 : π t2 = some q2 := by exact rfl) (g2 : renCs π c2 = some d2 := by exact rfl) (e2 : σ.H.boxes q2 = some d2 := by exact rfl) (h3 : π t3 = some q3 := by exact rfl) (g3 : renCs π c3 = some d3 := by exact rfl) (e3 : σ.H.boxes q3 = some d3 := by exact rfl) : BoxesOk π σ ((t0, c0) :: (t1, c1) :: (t2, c2) :: (t3, c3) :: l) := ⟨⟨_, _, h0, g0, e0⟩, ⟨_, _, h1, g1, e1⟩, ⟨_, _, h2, g2, e2⟩, ⟨_, _, h3, g3, e3⟩, k⟩
theorem Sa8 {π : Nat → Option Nat} {σ : St} {t0 t1 t2 t3 t4 t5 t6 t7 : Nat} {s0 u0 s1 u1 s2 u2 s3 u3 s4 u4 s5 u5 s6 u6 s7 u7 : Slot} {l : List (Nat × Slot)} (k : SlotsOk π σ l) (h0 : renS π s0 = some u0 := by exact rfl) (g0 : σ.slots t0 = some u0 := by exact rfl) (h1 : renS π s1 = some u1 := by exact rfl) (g1 : σ.slots t1 = some u1 := by exact rfl) (h2 : renS π s2 = some u2 := by exact rfl) (g2 : σ.slots t2 = some u2 := by exact rfl) (h3 : renS π s3 = some u3 := by exact rfl) (g3 : σ.slots t3 = some u3 := by exact rfl) (h4 : renS π s4 = some u4 := by exact rfl) (g4 : σ.slots t4 = some u4 := by exact rfl) (h5 : renS π s5 = some u5 := by exact rfl) (g5 : σ.slots t5 = some u5 := by exact rfl) (h6 : renS π s6 = some u6 := by exact rfl) (g6 : σ.slots t6 = some u6 := by exact rfl) (h7 : renS π s7 = some u7 := by exact rfl) (g7 : σ.slots t7 = some u7 := by exact rfl) : SlotsOk π σ ((t0, s0) :: (t1, s1) :: (t2, s2) :: (t3, s3) :: (t4, s4) :: (t5, s5) :: (t6, s6) :: (t7, s7) :: l) := ⟨⟨_, h0, g0⟩, ⟨_, h1, g1⟩, ⟨_, h2, g2⟩, ⟨_, h3, g3⟩, ⟨_, h4, g4⟩, ⟨_, h5, g5⟩, ⟨_, h6, g6⟩, ⟨_, h7, g7⟩, k⟩
theorem Ra8 {π : Nat → Option Nat} {σ : St} {t0 q0 t1 q1 t2 q2 t3 q3 t4 q4 t5 q5 t6 q6 t7 q7 : Nat} {s0 s1 s2 s3 s4 s5 s6 s7 : Row} {l : List (Nat × Row)} (k : RowsOk π σ l) (h0 : π t0 = some q0 := by exact rfl) (g0 : σ.H.rows q0 = some s0 := by exact rfl) (h1 : π t1 = some q1 := by exact rfl) (g1 : σ.H.rows q1 = some s1 := by exact rfl) (h2 : π t2 = some q2 := by exact rfl) (g2 : σ.H.rows q2 = some s2 := by exact rfl) (h3 : π t3 = some q3 := by exact rfl) (g3 : σ.H.rows q3 = some s3 := by exact rfl) (h4 : π t4 = some q4 := by exact rfl) (g4 : σ.H.rows q4 = some s4 := by exact rfl) (h5 : π t5 = some q5 := by exact rfl) (g5 : σ.H.rows q5 = some s5 := by exact rfl) (h6 : π t6 = some q6 := by exact rfl) (g6 : σ.H.rows q6 = some s6 := by exact rfl) (h7 : π t7 = some q7 := by exact rfl) (g7 : σ.H.rows q7 = some s7 := by exact rfl) : RowsOk π σ ((t0, s0) :: (t1, s1) :: (t2, s2) :: (t3, s3) :: (t4, s4) :: (t5, s5) :: (t6, s6) :: (t7, s7) :: l) := ⟨⟨_, h0, g0⟩, ⟨_, h1, g1⟩, ⟨_, h2, g2⟩, ⟨_, h3, g3⟩, ⟨_, h4, g4⟩, ⟨_, h5, g5⟩, ⟨_, h6, g6⟩, ⟨_, h7, g7⟩, k⟩
theorem Ba8 {π : Nat → Option Nat} {σ : St} {t0 q0 t1 q1 t2 q2 t3 q3 t4 q4 t5 q5 t6 q6 t7 q7 : Nat} {c0 d0 c1 d1 c2 d2 c3 d3 c4 d4 c5 d5 c6 d6 c7 d7 : List Cell} {l : List (Nat × List Cell)} (k : BoxesOk π σ l) (h0 : π t0 = some q0 := by exact rfl) (g0 : renCs π c0 = some d0 := by exact rfl) (e0 : σ.H.boxes q0 = some d0 := by exact rfl) (h1 : π t1 = some q1 := by exact rfl) (g1 : renCs π c1 = some d1 := by exact rfl) (e1 : σ.H.boxes q1 = some d1 := by exact rfl) (h2 : π t2 = some q2 := by exact rfl) (g2 : renCs π c2 = some d2 := by exact rfl) (e2 : σ.H.boxes q2 = some d2 := by exact rfl) (h3 : π t3 = some q3 := by exact rfl) (g3 : renCs π c3 = some d3 := by exact rfl) (e3 : σ.H.boxes q3 = some d3 := by exact rfl) (h4 : π t4 = some q4 := by exact rfl) (g4 : renCs π c4 = some d4 := by exact rfl) (e4 : σ.H.boxes q4 = some d4 := by exact rfl) (h5 : π t5 = some q5 := by exact rfl) (g5 : renCs π c5 = some d5 := by exact rfl) (e5 : σ.H.boxes q5 = some d5 := by exact rfl) (h6 : π t6 = some q6 := by exact rfl) (g6 : renCs π c6 = some d6 := by exact rfl) (e6 : σ.H.boxes q6 = some d6 := by exact rfl) (h7 : π t7 = some q7 := by exact rfl) (g7 : renCs π c7 = some d7 := by exact rfl) (e7 : σ.H.boxes q7 = some d7 := by exact rfl) : BoxesOk π σ ((t0, c0) :: (t1, c1) :: (t2, c2) :: (t3, c3) :: (t4, c4) :: (t5, c5) :: (t6, c6) :: (t7, c7) :: l) := ⟨⟨_, _, h0, g0, e0⟩, ⟨_, _, h1, g1, e1⟩, ⟨_, _, h2, g2, e2⟩, ⟨_, _, h3, g3, e3⟩, ⟨_, _, h4, g4, e4⟩, ⟨_, _, h5, g5, e5⟩, ⟨_, _, h6, g6, e6⟩, ⟨_, _, h7, g7, e7⟩, k⟩
theorem Atk {P : Program} {F : Fix} {ops : Array Oper} {Q : St → Prop} {fuel : Nat} {listed : Array Bool} {sl : Nat → Option Slot} {H : Heap} {σ1 : St} {o : Oper} (i : Nat) (ho : ops[i]? = some o) (hc : CalmAt P F sl H o) (hL : ∀ Q0 : St → Prop, Q0 σ1 → WpL P F ops Q0 [o] ⟨sl, H⟩) (k : WpA P F ops Q fuel (listed.setIfInBounds i true) σ1) (hs : Region.noSelect ops = true := by kernel_rfl) (hf : Region.free .any ops listed i = true := by kernel_rfl) (hr : (Region.ready .any ops listed).contains i = true := by kernel_rfl) (hv : kindV o.op = true := by exact rfl) : WpA P F ops Q (fuel + 1) listed ⟨sl, H⟩ := A.take i ho hs hf hr hv hc hL k
theorem Aof {P : Program} {F : Fix} {ops : Array Oper} {Q : St → Prop} {fuel : Nat} {listed : Array Bool} {sl : Nat → Option Slot} {H : Heap} {o : Oper} {N : Nat} (i : Nat) (ho : ops[i]? = some o) (hn : F.n = N) (k : WpA P F ops Q fuel (listed.setIfInBounds i true) ⟨setD sl o.dst (some (.tup [])), H⟩) (hs : Region.noSelect ops = true := by kernel_rfl) (hf : Region.free .any ops listed i = true := by kernel_rfl) (hr : (Region.ready .any ops listed).contains i = true := by kernel_rfl) (hv : kindV o.op = true := by exact rfl) (hg : guardOf ops sl o = some false := by exact rfl) (hd : dstB N o.dst = true := by exact rfl) : WpA P F ops Q (fuel + 1) listed ⟨sl, H⟩ := A.off i ho hs hf hr hv hn hg hd k
/-! ### Flaws_szIntS -/
def Flaws_szIntS (k : Nat) (a0 : List Int) (a1 : Int) : Option Int := cond (decide ((IntKind.i64.wrap (a1 - (a0.length : Int))) < (0 : Int))) (some (-1 : Int)) (some (IntKind.i64.wrap (a1 - (a0.length : Int))))
theorem ent47 : MG.Enters Tryz.prog 47 := ⟨Tryz.f47, Tryz.func47, rfl, by decide⟩
set_option maxHeartbeats 8000000 in
set_option maxRecDepth 100000 in
theorem Flaws_szIntS_gives (k : Nat) (g0 : Bool) (a0 : List Int) (a1 : Int) (r : Int) (H : Flaws_szIntS k a0 a1 = some r) : Gives Tryz.prog 47 [V.one (Cell.sl g0 (List.map eI a0)), V.one (cI a1)] [] [V.one (cI r)] [] := by
 refine Gives.intro Tryz.func47 rfl rfl rfl rfl ?_
 intro F hF hm
 unfold Flaws_szIntS at H
 obtain ⟨K, hK⟩ : ∃ K, k ≤ K := ⟨k, Nat.le_refl k⟩
 refine WpC.seq (WpC.regionL ?_)
 refine L.assign hF rfl rfl rfl (L.nil ?_)
 refine WpC.seq (WpC.regionL ?_)
 refine L.move hF rfl rfl rfl ?_
 refine L.move hF rfl rfl rfl ?_
 refine L.lenR (xs := a0) (e := eI) Tryz.underlying22 hF rfl rfl rfl rfl ?_
 refine L.bin hF rfl rfl rfl rfl rfl rfl ?_
 refine L.assign hF rfl rfl rfl (L.nil ?_)
 refine WpC.seq (WpC.seq (WpC.regionL ?_))
 refine L.move hF rfl rfl rfl ?_
 refine L.bin hF rfl rfl rfl rfl rfl rfl (L.nil ?_)
 refine WpC.cond rfl (fun hc => ?_) (fun hc => ?_)
 ·replace H := condT hc H
  refine WpC.seq (WpC.regionL ?_)
  refine L.assign hF rfl rfl rfl (L.nil ?_)
  refine WpC.ret ?_
  cases H
  exact Leaves.ret rfl rfl rfl ⟨rfl, rfl⟩
 ·replace H := condF hc H
  refine WpC.skip (WpC.seq (WpC.regionL ?_))
  refine L.move hF rfl rfl rfl ?_
  refine L.assign hF rfl rfl rfl (L.nil ?_)
  refine WpC.ret ?_
  cases H
  exact Leaves.ret rfl rfl rfl ⟨rfl, rfl⟩
/-! ### Flaws_szPairS -/
def Flaws_szPairS (k : Nat) (a0 : List Tlaws_Pair) (a1 : Int) : Option Int := cond (decide ((IntKind.i64.wrap (a1 - (a0.length : Int))) < (0 : Int))) (some (-1 : Int)) (some (IntKind.i64.wrap (a1 - (a0.length : Int))))
theorem ent48 : MG.Enters Tryz.prog 48 := ⟨Tryz.f48, Tryz.func48, rfl, by decide⟩
set_option maxHeartbeats 8000000 in
set_option maxRecDepth 100000 in
theorem Flaws_szPairS_gives (k : Nat) (g0 : Bool) (a0 : List Tlaws_Pair) (a1 : Int) (r : Int) (H : Flaws_szPairS k a0 a1 = some r) : Gives Tryz.prog 48 [V.one (Cell.sl g0 (List.map eTlaws_Pair a0)), V.one (cI a1)] [] [V.one (cI r)] [] := by
 refine Gives.intro Tryz.func48 rfl rfl rfl rfl ?_
 intro F hF hm
 unfold Flaws_szPairS at H
 obtain ⟨K, hK⟩ : ∃ K, k ≤ K := ⟨k, Nat.le_refl k⟩
 refine WpC.seq (WpC.regionL ?_)
 refine L.assign hF rfl rfl rfl (L.nil ?_)
 refine WpC.seq (WpC.regionL ?_)
 refine L.move hF rfl rfl rfl ?_
 refine L.move hF rfl rfl rfl ?_
 refine L.lenR (xs := a0) (e := eTlaws_Pair) Tryz.underlying23 hF rfl rfl rfl rfl ?_
 refine L.bin hF rfl rfl rfl rfl rfl rfl ?_
 refine L.assign hF rfl rfl rfl (L.nil ?_)
 refine WpC.seq (WpC.seq (WpC.regionL ?_))
 refine L.move hF rfl rfl rfl ?_
 refine L.bin hF rfl rfl rfl rfl rfl rfl (L.nil ?_)
 refine WpC.cond rfl (fun hc => ?_) (fun hc => ?_)
 ·replace H := condT hc H
  refine WpC.seq (WpC.regionL ?_)
  refine L.assign hF rfl rfl rfl (L.nil ?_)
  refine WpC.ret ?_
  cases H
  exact Leaves.ret rfl rfl rfl ⟨rfl, rfl⟩
 ·replace H := condF hc H
  refine WpC.skip (WpC.seq (WpC.regionL ?_))
  refine L.move hF rfl rfl rfl ?_
  refine L.assign hF rfl rfl rfl (L.nil ?_)
  refine WpC.ret ?_
  cases H
  exact Leaves.ret rfl rfl rfl ⟨rfl, rfl⟩
/-! ### Flaws_szConfig -/
def Flaws_szConfig (k : Nat) (a0 : Tlaws_Config) (a1 : Int) : Option Int := (Flaws_szIntS k a0.UserRealm a1).bind fun r1 => cond (decide (r1 < (0 : Int))) (some (-1 : Int)) ((Flaws_szIntS k a0.ServiceRealm r1).bind fun r2 => cond (decide (r2 < (0 : Int))) (some (-1 : Int)) ((Flaws_szPairS k a0.Links r2).bind fun r3 => cond (decide (r3 < (0 : Int))) (some (-1 : Int)) ((Flaws_szPairS k a0.Proxy r3).bind fun r4 => cond (decide (r4 < (0 : Int))) (some (-1 : Int)) (some r4))))
theorem ent9 : MG.Enters Tryz.prog 9 := ⟨Tryz.f9, Tryz.func9, rfl, by decide⟩
set_option maxHeartbeats 8000000 in
set_option maxRecDepth 100000 in
theorem Flaws_szConfig_gives (k : Nat) (g0 : Bool) (g1 : Bool) (g2 : Bool) (g3 : Bool) (a0 : Tlaws_Config) (a1 : Int) (r : Int) (H : Flaws_szConfig k a0 a1 = some r) : Gives Tryz.prog 9 [V.agg [Cell.sl g0 (List.map eI a0.UserRealm), Cell.sl g1 (List.map eI a0.ServiceRealm), Cell.sl g2 (List.map eTlaws_Pair a0.Links), Cell.sl g3 (List.map eTlaws_Pair a0.Proxy), cI a0.Skew], V.one (cI a1)] [] [V.one (cI r)] [] := by
 refine Gives.intro Tryz.func9 rfl rfl rfl rfl ?_
 intro F hF hm
 unfold Flaws_szConfig at H
 obtain ⟨K, hK⟩ : ∃ K, k ≤ K := ⟨k, Nat.le_refl k⟩
 refine WpC.seq (WpC.regionL ?_)
 refine L.box 6 hF rfl rfl rfl rfl ?_
 refine L.assign hF rfl rfl rfl (L.nil ?_)
 refine WpC.seq (WpC.regionL ?_)
 refine L.fieldAddr Tryz.underlying25 rfl info22 rfl hF rfl rfl rfl rfl rfl ?_
 refine L.loadPtr shape22 hF rfl rfl rfl rfl rfl rfl ?_
 refine L.move hF rfl rfl rfl ?_
 obtain ⟨r1, hr1, H⟩ := bindS H
 refine L.call [false, false] [] [] 7 hF rfl rfl rfl ent47 rfl rfl rfl rfl rfl (Flaws_szIntS_gives k g0 a0.UserRealm a1 r1 hr1) rfl ?_
 refine L.assign hF rfl rfl rfl (L.nil ?_)
 refine WpC.seq (WpC.seq (WpC.regionL ?_))
 refine L.move hF rfl rfl rfl ?_
 refine L.bin hF rfl rfl rfl rfl rfl rfl (L.nil ?_)
 refine WpC.cond rfl (fun hc => ?_) (fun hc => ?_)
 ·replace H := condT hc H
  refine WpC.seq (WpC.regionL ?_)
  refine L.assign hF rfl rfl rfl (L.nil ?_)
  refine WpC.ret ?_
  cases H
  exact Leaves.ret rfl rfl rfl ⟨rfl, rfl⟩
 ·replace H := condF hc H
  refine WpC.skip (WpC.seq (WpC.regionL ?_))
  refine L.fieldAddr Tryz.underlying25 rfl info22 rfl hF rfl rfl rfl rfl rfl ?_
  refine L.loadPtr shape22 hF rfl rfl rfl rfl rfl rfl ?_
  refine L.move hF rfl rfl rfl ?_
  obtain ⟨r2, hr2, H⟩ := bindS H
  refine L.call [false, false] [] [] 8 hF rfl rfl rfl ent47 rfl rfl rfl rfl rfl (Flaws_szIntS_gives k g1 a0.ServiceRealm r1 r2 hr2) rfl ?_
  refine L.assign hF rfl rfl rfl (L.nil ?_)
  refine WpC.seq (WpC.seq (WpC.regionL ?_))
  refine L.move hF rfl rfl rfl ?_
  refine L.bin hF rfl rfl rfl rfl rfl rfl (L.nil ?_)
  refine WpC.cond rfl (fun hc => ?_) (fun hc => ?_)
  ·replace H := condT hc H
   refine WpC.seq (WpC.regionL ?_)
   refine L.assign hF rfl rfl rfl (L.nil ?_)
   refine WpC.ret ?_
   cases H
   exact Leaves.ret rfl rfl rfl ⟨rfl, rfl⟩
  ·replace H := condF hc H
   refine WpC.skip (WpC.seq (WpC.regionL ?_))
   refine L.fieldAddr Tryz.underlying25 rfl info23 rfl hF rfl rfl rfl rfl rfl ?_
   refine L.loadPtr shape23 hF rfl rfl rfl rfl rfl rfl ?_
   refine L.move hF rfl rfl rfl ?_
   obtain ⟨r3, hr3, H⟩ := bindS H
   refine L.call [false, false] [] [] 9 hF rfl rfl rfl ent48 rfl rfl rfl rfl rfl (Flaws_szPairS_gives k g2 a0.Links r2 r3 hr3) rfl ?_
   refine L.assign hF rfl rfl rfl (L.nil ?_)
   refine WpC.seq (WpC.seq (WpC.regionL ?_))
   refine L.move hF rfl rfl rfl ?_
   refine L.bin hF rfl rfl rfl rfl rfl rfl (L.nil ?_)
   refine WpC.cond rfl (fun hc => ?_) (fun hc => ?_)
   ·replace H := condT hc H
    refine WpC.seq (WpC.regionL ?_)
    refine L.assign hF rfl rfl rfl (L.nil ?_)
    refine WpC.ret ?_
    cases H
    exact Leaves.ret rfl rfl rfl ⟨rfl, rfl⟩
   ·replace H := condF hc H
    refine WpC.skip (WpC.seq (WpC.regionL ?_))
    refine L.fieldAddr Tryz.underlying25 rfl info23 rfl hF rfl rfl rfl rfl rfl ?_
    refine L.loadPtr shape23 hF rfl rfl rfl rfl rfl rfl ?_
    refine L.move hF rfl rfl rfl ?_
    obtain ⟨r4, hr4, H⟩ := bindS H
    refine L.call [false, false] [] [] 10 hF rfl rfl rfl ent48 rfl rfl rfl rfl rfl (Flaws_szPairS_gives k g3 a0.Proxy r3 r4 hr4) rfl ?_
    refine L.assign hF rfl rfl rfl (L.nil ?_)
    refine WpC.seq (WpC.seq (WpC.regionL ?_))
    refine L.move hF rfl rfl rfl ?_
    refine L.bin hF rfl rfl rfl rfl rfl rfl (L.nil ?_)
    refine WpC.cond rfl (fun hc => ?_) (fun hc => ?_)
    ·replace H := condT hc H
     refine WpC.seq (WpC.regionL ?_)
     refine L.assign hF rfl rfl rfl (L.nil ?_)
     refine WpC.ret ?_
     cases H
     exact Leaves.ret rfl rfl rfl ⟨rfl, rfl⟩
    ·replace H := condF hc H
     refine WpC.skip (WpC.seq (WpC.regionL ?_))
     refine L.move hF rfl rfl rfl ?_
     refine L.assign hF rfl rfl rfl (L.nil ?_)
     refine WpC.ret ?_
     cases H
     exact Leaves.ret rfl rfl rfl ⟨rfl, rfl⟩
/-! ### Flaws_szStringS -/
def Flaws_szStringS.l2 : Nat → (List (List UInt8)) → Int → Int → Option Int
 | 0, _, _, _ => none
 | k2 + 1, v24, v25, v26 => cond (decide (v26 < (v24.length : Int))) ((at? v24 v26).bind fun b28 => cond (decide ((IntKind.i64.wrap (v25 - (b28.length : Int))) < (0 : Int))) (some (-1 : Int)) ((Flaws_szStringS.l2 k2) v24 (IntKind.i64.wrap (v25 - (b28.length : Int))) (IntKind.i64.wrap (v26 + (1 : Int))))) (some v25)
def Flaws_szStringS (k : Nat) (a0 : List (List UInt8)) (a1 : Int) : Option Int := cond (decide ((IntKind.i64.wrap (a1 - (a0.length : Int))) < (0 : Int))) (some (-1 : Int)) (Flaws_szStringS.l2 k a0 (IntKind.i64.wrap (a1 - (a0.length : Int))) (0 : Int))
theorem ent92 : MG.Enters Tryz.prog 92 := ⟨Tryz.f92, Tryz.func92, rfl, by decide⟩
set_option maxHeartbeats 8000000 in
set_option maxRecDepth 100000 in
theorem Flaws_szStringS_gives (k : Nat) (g0 : Bool) (a0 : List (List UInt8)) (a1 : Int) (r : Int) (H : Flaws_szStringS k a0 a1 = some r) : Gives Tryz.prog 92 [V.one (Cell.sl g0 (List.map eS a0)), V.one (cI a1)] [] [V.one (cI r)] [] := by
 refine Gives.intro Tryz.func92 rfl rfl rfl rfl ?_
 intro F hF hm
 unfold Flaws_szStringS at H
 obtain ⟨K, hK⟩ : ∃ K, k ≤ K := ⟨k, Nat.le_refl k⟩
 refine WpC.seq (WpC.regionL ?_)
 refine L.assign hF rfl rfl rfl (L.nil ?_)
 refine WpC.seq (WpC.regionL ?_)
 refine L.move hF rfl rfl rfl ?_
 refine L.move hF rfl rfl rfl ?_
 refine L.lenR (xs := a0) (e := eS) Tryz.underlying61 hF rfl rfl rfl rfl ?_
 refine L.bin hF rfl rfl rfl rfl rfl rfl ?_
 refine L.assign hF rfl rfl rfl (L.nil ?_)
 refine WpC.seq (WpC.seq (WpC.regionL ?_))
 refine L.move hF rfl rfl rfl ?_
 refine L.bin hF rfl rfl rfl rfl rfl rfl (L.nil ?_)
 refine WpC.cond rfl (fun hc => ?_) (fun hc => ?_)
 ·replace H := condT hc H
  refine WpC.seq (WpC.regionL ?_)
  refine L.assign hF rfl rfl rfl (L.nil ?_)
  refine WpC.ret ?_
  cases H
  exact Leaves.ret rfl rfl rfl ⟨rfl, rfl⟩
 ·replace H := condF hc H
  refine WpC.skip (WpC.seq (WpC.seq (WpC.regionL ?_)))
  refine L.assign hF rfl rfl rfl (L.nil ?_)
  refine WpC.block ?_
  refine WpC.loopL (P := Tryz.prog) (fun n σ => ∃ v24 : List (List UInt8), ∃ v25 : Int, ∃ v26 : Int, n ≤ K ∧ Flaws_szStringS.l2 n v24 v25 v26 = some r ∧ σ = mkSt [(0, one (Cell.sl g0 (List.map eS v24))), (1, one (cI v25)), (5, one (cI v26))] [] [] 0) k ⟨_, ⟨a0, (IntKind.i64.wrap (a1 - (a0.length : Int))), (0 : Int), by omega, H, rfl⟩, Le.mk [] hm rfl (Sa2 (Sa1 trivial)) trivial trivial⟩ ?_
  clear H
  rintro k2 _ ⟨v24, v25, v26, hk2, H, rfl⟩
  cases k2 with
  | zero => cases H
  | succ k2 =>
   rw [Flaws_szStringS.l2] at H
   refine WpC.seq (WpC.seq (WpC.regionL ?_))
   refine L.move hF rfl rfl rfl ?_
   refine L.move hF rfl rfl rfl ?_
   refine L.lenR (xs := v24) (e := eS) Tryz.underlying61 hF rfl rfl rfl rfl ?_
   refine L.bin hF rfl rfl rfl rfl rfl rfl (L.nil ?_)
   refine WpC.cond rfl (fun hc => ?_) (fun hc => ?_)
   ·replace H := condT hc H
    refine WpC.skip (WpC.seq (WpC.block (WpC.seq (WpC.regionL ?_))))
    refine L.move hF rfl rfl rfl ?_
    refine L.move hF rfl rfl rfl ?_
    refine L.move hF rfl rfl rfl ?_
    obtain ⟨b28, hb28, H⟩ := bindS H
    refine L.idxR (xs := v24) (e := eS) Tryz.underlying61 info9 hF rfl rfl rfl rfl rfl hb28 rfl rfl ?_
    refine L.loadPe shape9 hF rfl rfl rfl rfl rfl ?_
    refine L.lenS Tryz.underlying9 hF rfl rfl rfl ?_
    refine L.bin hF rfl rfl rfl rfl rfl rfl ?_
    refine L.assign hF rfl rfl rfl (L.nil ?_)
    refine WpC.seq (WpC.regionL ?_)
    refine L.move hF rfl rfl rfl ?_
    refine L.bin hF rfl rfl rfl rfl rfl rfl (L.nil ?_)
    refine WpC.cond rfl (fun hc => ?_) (fun hc => ?_)
    ·replace H := condT hc H
     refine WpC.seq (WpC.regionL ?_)
     refine L.assign hF rfl rfl rfl (L.nil ?_)
     refine WpC.ret ?_
     cases H
     exact Leaves.ret rfl rfl rfl ⟨rfl, rfl⟩
    ·replace H := condF hc H
     refine WpC.skip (WpC.regionL ?_)
     refine L.move hF rfl rfl rfl ?_
     refine L.bin hF rfl rfl rfl rfl rfl rfl ?_
     refine L.assign hF rfl rfl rfl (L.nil ?_)
     exact ⟨k2, _, by omega, ⟨v24, (IntKind.i64.wrap (v25 - (b28.length : Int))), (IntKind.i64.wrap (v26 + (1 : Int))), by omega, H, rfl⟩, Le.mk [] hm rfl (Sa2 (Sa1 trivial)) trivial trivial⟩
   ·replace H := condF hc H
    refine WpC.exit (WpC.seq (WpC.regionL ?_))
    refine L.move hF rfl rfl rfl ?_
    refine L.assign hF rfl rfl rfl (L.nil ?_)
    refine WpC.ret ?_
    cases H
    exact Leaves.ret rfl rfl rfl ⟨rfl, rfl⟩
/-! ### Flaws_szKnown -/
def Flaws_szKnown (k : Nat) (a0 : Tlaws_Known) (a1 : Int) : Option Int := (Flaws_szStringS k a0.Terms a1).bind fun r1 => cond (decide (r1 < (0 : Int))) (some (-1 : Int)) ((Flaws_szIntS k a0.Keys r1).bind fun r2 => cond (decide (r2 < (0 : Int))) (some (-1 : Int)) (some r2))
theorem ent93 : MG.Enters Tryz.prog 93 := ⟨Tryz.f93, Tryz.func93, rfl, by decide⟩
set_option maxHeartbeats 8000000 in
set_option maxRecDepth 100000 in
theorem Flaws_szKnown_gives (k : Nat) (g0 : Bool) (g1 : Bool) (a0 : Tlaws_Known) (a1 : Int) (r : Int) (H : Flaws_szKnown k a0 a1 = some r) : Gives Tryz.prog 93 [V.agg [Cell.sl g0 (List.map eS a0.Terms), Cell.sl g1 (List.map eI a0.Keys)], V.one (cI a1)] [] [V.one (cI r)] [] := by
 refine Gives.intro Tryz.func93 rfl rfl rfl rfl ?_
 intro F hF hm
 unfold Flaws_szKnown at H
 obtain ⟨K, hK⟩ : ∃ K, k ≤ K := ⟨k, Nat.le_refl k⟩
 refine WpC.seq (WpC.regionL ?_)
 refine L.box 3 hF rfl rfl rfl rfl ?_
 refine L.assign hF rfl rfl rfl (L.nil ?_)
 refine WpC.seq (WpC.regionL ?_)
 refine L.fieldAddr Tryz.underlying63 rfl info61 rfl hF rfl rfl rfl rfl rfl ?_
 refine L.loadPtr shape61 hF rfl rfl rfl rfl rfl rfl ?_
 refine L.move hF rfl rfl rfl ?_
 obtain ⟨r1, hr1, H⟩ := bindS H
 refine L.call [false, false] [] [] 4 hF rfl rfl rfl ent92 rfl rfl rfl rfl rfl (Flaws_szStringS_gives k g0 a0.Terms a1 r1 hr1) rfl ?_
 refine L.assign hF rfl rfl rfl (L.nil ?_)
 refine WpC.seq (WpC.seq (WpC.regionL ?_))
 refine L.move hF rfl rfl rfl ?_
 refine L.bin hF rfl rfl rfl rfl rfl rfl (L.nil ?_)
 refine WpC.cond rfl (fun hc => ?_) (fun hc => ?_)
 ·replace H := condT hc H
  refine WpC.seq (WpC.regionL ?_)
  refine L.assign hF rfl rfl rfl (L.nil ?_)
  refine WpC.ret ?_
  cases H
  exact Leaves.ret rfl rfl rfl ⟨rfl, rfl⟩
 ·replace H := condF hc H
  refine WpC.skip (WpC.seq (WpC.regionL ?_))
  refine L.fieldAddr Tryz.underlying63 rfl info22 rfl hF rfl rfl rfl rfl rfl ?_
  refine L.loadPtr shape22 hF rfl rfl rfl rfl rfl rfl ?_
  refine L.move hF rfl rfl rfl ?_
  obtain ⟨r2, hr2, H⟩ := bindS H
  refine L.call [false, false] [] [] 5 hF rfl rfl rfl ent47 rfl rfl rfl rfl rfl (Flaws_szIntS_gives k g1 a0.Keys r1 r2 hr2) rfl ?_
  refine L.assign hF rfl rfl rfl (L.nil ?_)
  refine WpC.seq (WpC.seq (WpC.regionL ?_))
  refine L.move hF rfl rfl rfl ?_
  refine L.bin hF rfl rfl rfl rfl rfl rfl (L.nil ?_)
  refine WpC.cond rfl (fun hc => ?_) (fun hc => ?_)
  ·replace H := condT hc H
   refine WpC.seq (WpC.regionL ?_)
   refine L.assign hF rfl rfl rfl (L.nil ?_)
   refine WpC.ret ?_
   cases H
   exact Leaves.ret rfl rfl rfl ⟨rfl, rfl⟩
  ·replace H := condF hc H
   refine WpC.skip (WpC.seq (WpC.regionL ?_))
   refine L.move hF rfl rfl rfl ?_
   refine L.assign hF rfl rfl rfl (L.nil ?_)
   refine WpC.ret ?_
   cases H
   exact Leaves.ret rfl rfl rfl ⟨rfl, rfl⟩
/-! ### Flaws_szWaitS -/
def Flaws_szWaitS (k : Nat) (a0 : List Tlaws_Wait) (a1 : Int) : Option Int := cond (decide ((IntKind.i64.wrap (a1 - (a0.length : Int))) < (0 : Int))) (some (-1 : Int)) (some (IntKind.i64.wrap (a1 - (a0.length : Int))))
theorem ent94 : MG.Enters Tryz.prog 94 := ⟨Tryz.f94, Tryz.func94, rfl, by decide⟩
set_option maxHeartbeats 8000000 in
set_option maxRecDepth 100000 in
theorem Flaws_szWaitS_gives (k : Nat) (g0 : Bool) (a0 : List Tlaws_Wait) (a1 : Int) (r : Int) (H : Flaws_szWaitS k a0 a1 = some r) : Gives Tryz.prog 94 [V.one (Cell.sl g0 (List.map eTlaws_Wait a0)), V.one (cI a1)] [] [V.one (cI r)] [] := by
 refine Gives.intro Tryz.func94 rfl rfl rfl rfl ?_
 intro F hF hm
 unfold Flaws_szWaitS at H
 obtain ⟨K, hK⟩ : ∃ K, k ≤ K := ⟨k, Nat.le_refl k⟩
 refine WpC.seq (WpC.regionL ?_)
 refine L.assign hF rfl rfl rfl (L.nil ?_)
 refine WpC.seq (WpC.regionL ?_)
 refine L.move hF rfl rfl rfl ?_
 refine L.move hF rfl rfl rfl ?_
 refine L.lenR (xs := a0) (e := eTlaws_Wait) Tryz.underlying64 hF rfl rfl rfl rfl ?_
 refine L.bin hF rfl rfl rfl rfl rfl rfl ?_
 refine L.assign hF rfl rfl rfl (L.nil ?_)
 refine WpC.seq (WpC.seq (WpC.regionL ?_))
 refine L.move hF rfl rfl rfl ?_
 refine L.bin hF rfl rfl rfl rfl rfl rfl (L.nil ?_)
 refine WpC.cond rfl (fun hc => ?_) (fun hc => ?_)
 ·replace H := condT hc H
  refine WpC.seq (WpC.regionL ?_)
  refine L.assign hF rfl rfl rfl (L.nil ?_)
  refine WpC.ret ?_
  cases H
  exact Leaves.ret rfl rfl rfl ⟨rfl, rfl⟩
 ·replace H := condF hc H
  refine WpC.skip (WpC.seq (WpC.regionL ?_))
  refine L.move hF rfl rfl rfl ?_
  refine L.assign hF rfl rfl rfl (L.nil ?_)
  refine WpC.ret ?_
  cases H
  exact Leaves.ret rfl rfl rfl ⟨rfl, rfl⟩
/-! ### Flaws_szCred -/
def Flaws_szCred (k : Nat) (a0 : Tlaws_Cred) (a1 : Int) : Option Int := cond (decide ((IntKind.i64.wrap (a1 - (a0.Ticket.length : Int))) < (0 : Int))) (some (-1 : Int)) (some (IntKind.i64.wrap (a1 - (a0.Ticket.length : Int))))
theorem ent181 : MG.Enters Tryz.prog 181 := ⟨Tryz.f181, Tryz.func181, rfl, by decide⟩
set_option maxHeartbeats 8000000 in
set_option maxRecDepth 100000 in
theorem Flaws_szCred_gives (k : Nat) (a0 : Tlaws_Cred) (a1 : Int) (r : Int) (H : Flaws_szCred k a0 a1 = some r) : Gives Tryz.prog 181 [V.agg [cI a0.Owner, cI a0.Client, cI a0.Service, cI a0.Key, cI a0.Rest.Servers, cI a0.Rest.Ops, cI a0.Rest.End, cS a0.Ticket], V.one (cI a1)] [] [V.one (cI r)] [] := by
 refine Gives.intro Tryz.func181 rfl rfl rfl rfl ?_
 intro F hF hm
 unfold Flaws_szCred at H
 obtain ⟨K, hK⟩ : ∃ K, k ≤ K := ⟨k, Nat.le_refl k⟩
 refine WpC.seq (WpC.regionL ?_)
 refine L.box 9 hF rfl rfl rfl rfl ?_
 refine L.assign hF rfl rfl rfl (L.nil ?_)
 refine WpC.seq (WpC.regionL ?_)
 refine L.move hF rfl rfl rfl ?_
 refine L.fieldAddr Tryz.underlying225 rfl info9 rfl hF rfl rfl rfl rfl rfl ?_
 refine L.loadPtr shape9 hF rfl rfl rfl rfl rfl rfl ?_
 refine L.lenS Tryz.underlying9 hF rfl rfl rfl ?_
 refine L.bin hF rfl rfl rfl rfl rfl rfl ?_
 refine L.assign hF rfl rfl rfl (L.nil ?_)
 refine WpC.seq (WpC.seq (WpC.regionL ?_))
 refine L.move hF rfl rfl rfl ?_
 refine L.bin hF rfl rfl rfl rfl rfl rfl (L.nil ?_)
 refine WpC.cond rfl (fun hc => ?_) (fun hc => ?_)
 ·replace H := condT hc H
  refine WpC.seq (WpC.regionL ?_)
  refine L.assign hF rfl rfl rfl (L.nil ?_)
  refine WpC.ret ?_
  cases H
  exact Leaves.ret rfl rfl rfl ⟨rfl, rfl⟩
 ·replace H := condF hc H
  refine WpC.skip (WpC.seq (WpC.regionL ?_))
  refine L.move hF rfl rfl rfl ?_
  refine L.assign hF rfl rfl rfl (L.nil ?_)
  refine WpC.ret ?_
  cases H
  exact Leaves.ret rfl rfl rfl ⟨rfl, rfl⟩
/-! ### Flaws_szCredS -/
def Flaws_szCredS.l2 : Nat → (List Tlaws_Cred) → Int → Int → Option Int
 | 0, _, _, _ => none
 | k2 + 1, v34, v35, v36 => cond (decide (v36 < (v34.length : Int))) ((at? v34 v36).bind fun b39 => (Flaws_szCred k2 b39 v35).bind fun r40 => cond (decide (r40 < (0 : Int))) (some (-1 : Int)) ((Flaws_szCredS.l2 k2) v34 r40 (IntKind.i64.wrap (v36 + (1 : Int))))) (some v35)
def Flaws_szCredS (k : Nat) (a0 : List Tlaws_Cred) (a1 : Int) : Option Int := cond (decide ((IntKind.i64.wrap (a1 - (a0.length : Int))) < (0 : Int))) (some (-1 : Int)) (Flaws_szCredS.l2 k a0 (IntKind.i64.wrap (a1 - (a0.length : Int))) (0 : Int))
theorem ent95 : MG.Enters Tryz.prog 95 := ⟨Tryz.f95, Tryz.func95, rfl, by decide⟩
set_option maxHeartbeats 8000000 in
set_option maxRecDepth 100000 in
theorem Flaws_szCredS_gives (k : Nat) (g0 : Bool) (a0 : List Tlaws_Cred) (a1 : Int) (r : Int) (H : Flaws_szCredS k a0 a1 = some r) : Gives Tryz.prog 95 [V.one (Cell.sl g0 (List.map eTlaws_Cred a0)), V.one (cI a1)] [] [V.one (cI r)] [] := by
 refine Gives.intro Tryz.func95 rfl rfl rfl rfl ?_
 intro F hF hm
 unfold Flaws_szCredS at H
 obtain ⟨K, hK⟩ : ∃ K, k ≤ K := ⟨k, Nat.le_refl k⟩
 refine WpC.seq (WpC.regionL ?_)
 refine L.assign hF rfl rfl rfl (L.nil ?_)
 refine WpC.seq (WpC.regionL ?_)
 refine L.move hF rfl rfl rfl ?_
 refine L.move hF rfl rfl rfl ?_
 refine L.lenR (xs := a0) (e := eTlaws_Cred) Tryz.underlying65 hF rfl rfl rfl rfl ?_
 refine L.bin hF rfl rfl rfl rfl rfl rfl ?_
 refine L.assign hF rfl rfl rfl (L.nil ?_)
 refine WpC.seq (WpC.seq (WpC.regionL ?_))
 refine L.move hF rfl rfl rfl ?_
 refine L.bin hF rfl rfl rfl rfl rfl rfl (L.nil ?_)
 refine WpC.cond rfl (fun hc => ?_) (fun hc => ?_)
 ·replace H := condT hc H
  refine WpC.seq (WpC.regionL ?_)
  refine L.assign hF rfl rfl rfl (L.nil ?_)
  refine WpC.ret ?_
  cases H
  exact Leaves.ret rfl rfl rfl ⟨rfl, rfl⟩
 ·replace H := condF hc H
  refine WpC.skip (WpC.seq (WpC.seq (WpC.regionL ?_)))
  refine L.assign hF rfl rfl rfl (L.nil ?_)
  refine WpC.block ?_
  refine WpC.loopL (P := Tryz.prog) (fun n σ => ∃ v34 : List Tlaws_Cred, ∃ v35 : Int, ∃ v36 : Int, n ≤ K ∧ Flaws_szCredS.l2 n v34 v35 v36 = some r ∧ σ = mkSt [(0, one (Cell.sl g0 (List.map eTlaws_Cred v34))), (1, one (cI v35)), (5, one (cI v36))] [] [] 0) k ⟨_, ⟨a0, (IntKind.i64.wrap (a1 - (a0.length : Int))), (0 : Int), by omega, H, rfl⟩, Le.mk [] hm rfl (Sa2 (Sa1 trivial)) trivial trivial⟩ ?_
  clear H
  rintro k2 _ ⟨v34, v35, v36, hk2, H, rfl⟩
  cases k2 with
  | zero => cases H
  | succ k2 =>
   rw [Flaws_szCredS.l2] at H
   refine WpC.seq (WpC.seq (WpC.regionL ?_))
   refine L.move hF rfl rfl rfl ?_
   refine L.move hF rfl rfl rfl ?_
   refine L.lenR (xs := v34) (e := eTlaws_Cred) Tryz.underlying65 hF rfl rfl rfl rfl ?_
   refine L.bin hF rfl rfl rfl rfl rfl rfl (L.nil ?_)
   refine WpC.cond rfl (fun hc => ?_) (fun hc => ?_)
   ·replace H := condT hc H
    refine WpC.skip (WpC.seq (WpC.block (WpC.seq (WpC.regionL ?_))))
    refine L.move hF rfl rfl rfl ?_
    refine L.move hF rfl rfl rfl ?_
    obtain ⟨b39, hb39, H⟩ := bindS H
    refine L.idxR (xs := v34) (e := eTlaws_Cred) Tryz.underlying65 info225 hF rfl rfl rfl rfl rfl hb39 rfl rfl ?_
    refine L.loadPe shape225 hF rfl rfl rfl rfl rfl ?_
    refine L.move hF rfl rfl rfl ?_
    obtain ⟨r40, hr40, H⟩ := bindS H
    refine L.call [false, false] [] [] 0 hF rfl rfl rfl ent181 rfl rfl rfl rfl rfl (Flaws_szCred_gives k2  b39 v35 r40 hr40) rfl ?_
    refine L.assign hF rfl rfl rfl (L.nil ?_)
    refine WpC.seq (WpC.regionL ?_)
    refine L.move hF rfl rfl rfl ?_
    refine L.bin hF rfl rfl rfl rfl rfl rfl (L.nil ?_)
    refine WpC.cond rfl (fun hc => ?_) (fun hc => ?_)
    ·replace H := condT hc H
     refine WpC.seq (WpC.regionL ?_)
     refine L.assign hF rfl rfl rfl (L.nil ?_)
     refine WpC.ret ?_
     cases H
     exact Leaves.ret rfl rfl rfl ⟨rfl, rfl⟩
    ·replace H := condF hc H
     refine WpC.skip (WpC.regionL ?_)
     refine L.move hF rfl rfl rfl ?_
     refine L.bin hF rfl rfl rfl rfl rfl rfl ?_
     refine L.assign hF rfl rfl rfl (L.nil ?_)
     exact ⟨k2, _, by omega, ⟨v34, r40, (IntKind.i64.wrap (v36 + (1 : Int))), by omega, H, rfl⟩, Le.mk [] hm rfl (Sa2 (Sa1 trivial)) trivial trivial⟩
   ·replace H := condF hc H
    refine WpC.exit (WpC.seq (WpC.regionL ?_))
    refine L.move hF rfl rfl rfl ?_
    refine L.assign hF rfl rfl rfl (L.nil ?_)
    refine WpC.ret ?_
    cases H
    exact Leaves.ret rfl rfl rfl ⟨rfl, rfl⟩
/-! ### Flaws_szAuthS -/
def Flaws_szAuthS (k : Nat) (a0 : List Tlaws_Auth) (a1 : Int) : Option Int := cond (decide ((IntKind.i64.wrap (a1 - (a0.length : Int))) < (0 : Int))) (some (-1 : Int)) (some (IntKind.i64.wrap (a1 - (a0.length : Int))))
theorem ent49 : MG.Enters Tryz.prog 49 := ⟨Tryz.f49, Tryz.func49, rfl, by decide⟩
set_option maxHeartbeats 8000000 in
set_option maxRecDepth 100000 in
theorem Flaws_szAuthS_gives (k : Nat) (g0 : Bool) (a0 : List Tlaws_Auth) (a1 : Int) (r : Int) (H : Flaws_szAuthS k a0 a1 = some r) : Gives Tryz.prog 49 [V.one (Cell.sl g0 (List.map eTlaws_Auth a0)), V.one (cI a1)] [] [V.one (cI r)] [] := by
 refine Gives.intro Tryz.func49 rfl rfl rfl rfl ?_
 intro F hF hm
 unfold Flaws_szAuthS at H
 obtain ⟨K, hK⟩ : ∃ K, k ≤ K := ⟨k, Nat.le_refl k⟩
 refine WpC.seq (WpC.regionL ?_)
 refine L.assign hF rfl rfl rfl (L.nil ?_)
 refine WpC.seq (WpC.regionL ?_)
 refine L.move hF rfl rfl rfl ?_
 refine L.move hF rfl rfl rfl ?_
 refine L.lenR (xs := a0) (e := eTlaws_Auth) Tryz.underlying26 hF rfl rfl rfl rfl ?_
 refine L.bin hF rfl rfl rfl rfl rfl rfl ?_
 refine L.assign hF rfl rfl rfl (L.nil ?_)
 refine WpC.seq (WpC.seq (WpC.regionL ?_))
 refine L.move hF rfl rfl rfl ?_
 refine L.bin hF rfl rfl rfl rfl rfl rfl (L.nil ?_)
 refine WpC.cond rfl (fun hc => ?_) (fun hc => ?_)
 ·replace H := condT hc H
  refine WpC.seq (WpC.regionL ?_)
  refine L.assign hF rfl rfl rfl (L.nil ?_)
  refine WpC.ret ?_
  cases H
  exact Leaves.ret rfl rfl rfl ⟨rfl, rfl⟩
 ·replace H := condF hc H
  refine WpC.skip (WpC.seq (WpC.regionL ?_))
  refine L.move hF rfl rfl rfl ?_
  refine L.assign hF rfl rfl rfl (L.nil ?_)
  refine WpC.ret ?_
  cases H
  exact Leaves.ret rfl rfl rfl ⟨rfl, rfl⟩
/-! ### Flaws_szCache -/
def Flaws_szCache (k : Nat) (a0 : Tlaws_Cache) (a1 : Int) : Option Int := (Flaws_szAuthS k a0.Seen a1).bind fun r1 => cond (decide (r1 < (0 : Int))) (some (-1 : Int)) (some r1)
theorem ent10 : MG.Enters Tryz.prog 10 := ⟨Tryz.f10, Tryz.func10, rfl, by decide⟩
set_option maxHeartbeats 8000000 in
set_option maxRecDepth 100000 in
theorem Flaws_szCache_gives (k : Nat) (g0 : Bool) (a0 : Tlaws_Cache) (a1 : Int) (r : Int) (H : Flaws_szCache k a0 a1 = some r) : Gives Tryz.prog 10 [V.agg [cI a0.Quiet, Cell.sl g0 (List.map eTlaws_Auth a0.Seen)], V.one (cI a1)] [] [V.one (cI r)] [] := by
 refine Gives.intro Tryz.func10 rfl rfl rfl rfl ?_
 intro F hF hm
 unfold Flaws_szCache at H
 obtain ⟨K, hK⟩ : ∃ K, k ≤ K := ⟨k, Nat.le_refl k⟩
 refine WpC.seq (WpC.regionL ?_)
 refine L.box 3 hF rfl rfl rfl rfl ?_
 refine L.assign hF rfl rfl rfl (L.nil ?_)
 refine WpC.seq (WpC.regionL ?_)
 refine L.fieldAddr Tryz.underlying28 rfl info26 rfl hF rfl rfl rfl rfl rfl ?_
 refine L.loadPtr shape26 hF rfl rfl rfl rfl rfl rfl ?_
 refine L.move hF rfl rfl rfl ?_
 obtain ⟨r1, hr1, H⟩ := bindS H
 refine L.call [false, false] [] [] 4 hF rfl rfl rfl ent49 rfl rfl rfl rfl rfl (Flaws_szAuthS_gives k g0 a0.Seen a1 r1 hr1) rfl ?_
 refine L.assign hF rfl rfl rfl (L.nil ?_)
 refine WpC.seq (WpC.seq (WpC.regionL ?_))
 refine L.move hF rfl rfl rfl ?_
 refine L.bin hF rfl rfl rfl rfl rfl rfl (L.nil ?_)
 refine WpC.cond rfl (fun hc => ?_) (fun hc => ?_)
 ·replace H := condT hc H
  refine WpC.seq (WpC.regionL ?_)
  refine L.assign hF rfl rfl rfl (L.nil ?_)
  refine WpC.ret ?_
  cases H
  exact Leaves.ret rfl rfl rfl ⟨rfl, rfl⟩
 ·replace H := condF hc H
  refine WpC.skip (WpC.seq (WpC.regionL ?_))
  refine L.move hF rfl rfl rfl ?_
  refine L.assign hF rfl rfl rfl (L.nil ?_)
  refine WpC.ret ?_
  cases H
  exact Leaves.ret rfl rfl rfl ⟨rfl, rfl⟩
/-! ### Flaws_szCacheS -/
def Flaws_szCacheS.l2 : Nat → (List Tlaws_Cache) → Int → Int → Option Int
 | 0, _, _, _ => none
 | k2 + 1, v34, v35, v36 => cond (decide (v36 < (v34.length : Int))) ((at? v34 v36).bind fun b39 => (Flaws_szCache k2 b39 v35).bind fun r40 => cond (decide (r40 < (0 : Int))) (some (-1 : Int)) ((Flaws_szCacheS.l2 k2) v34 r40 (IntKind.i64.wrap (v36 + (1 : Int))))) (some v35)
def Flaws_szCacheS (k : Nat) (a0 : List Tlaws_Cache) (a1 : Int) : Option Int := cond (decide ((IntKind.i64.wrap (a1 - (a0.length : Int))) < (0 : Int))) (some (-1 : Int)) (Flaws_szCacheS.l2 k a0 (IntKind.i64.wrap (a1 - (a0.length : Int))) (0 : Int))
theorem ent96 : MG.Enters Tryz.prog 96 := ⟨Tryz.f96, Tryz.func96, rfl, by decide⟩
set_option maxHeartbeats 8000000 in
set_option maxRecDepth 100000 in
theorem Flaws_szCacheS_gives (k : Nat) (g0 : Bool) (a0 : List Tlaws_Cache) (a1 : Int) (r : Int) (H : Flaws_szCacheS k a0 a1 = some r) : Gives Tryz.prog 96 [V.one (Cell.sl g0 (List.map eTlaws_Cache a0)), V.one (cI a1)] [] [V.one (cI r)] [] := by
 refine Gives.intro Tryz.func96 rfl rfl rfl rfl ?_
 intro F hF hm
 unfold Flaws_szCacheS at H
 obtain ⟨K, hK⟩ : ∃ K, k ≤ K := ⟨k, Nat.le_refl k⟩
 refine WpC.seq (WpC.regionL ?_)
 refine L.assign hF rfl rfl rfl (L.nil ?_)
 refine WpC.seq (WpC.regionL ?_)
 refine L.move hF rfl rfl rfl ?_
 refine L.move hF rfl rfl rfl ?_
 refine L.lenR (xs := a0) (e := eTlaws_Cache) Tryz.underlying66 hF rfl rfl rfl rfl ?_
 refine L.bin hF rfl rfl rfl rfl rfl rfl ?_
 refine L.assign hF rfl rfl rfl (L.nil ?_)
 refine WpC.seq (WpC.seq (WpC.regionL ?_))
 refine L.move hF rfl rfl rfl ?_
 refine L.bin hF rfl rfl rfl rfl rfl rfl (L.nil ?_)
 refine WpC.cond rfl (fun hc => ?_) (fun hc => ?_)
 ·replace H := condT hc H
  refine WpC.seq (WpC.regionL ?_)
  refine L.assign hF rfl rfl rfl (L.nil ?_)
  refine WpC.ret ?_
  cases H
  exact Leaves.ret rfl rfl rfl ⟨rfl, rfl⟩
 ·replace H := condF hc H
  refine WpC.skip (WpC.seq (WpC.seq (WpC.regionL ?_)))
  refine L.assign hF rfl rfl rfl (L.nil ?_)
  refine WpC.block ?_
  refine WpC.loopL (P := Tryz.prog) (fun n σ => ∃ v34 : List Tlaws_Cache, ∃ v35 : Int, ∃ v36 : Int, n ≤ K ∧ Flaws_szCacheS.l2 n v34 v35 v36 = some r ∧ σ = mkSt [(0, one (Cell.sl g0 (List.map eTlaws_Cache v34))), (1, one (cI v35)), (5, one (cI v36))] [] [] 0) k ⟨_, ⟨a0, (IntKind.i64.wrap (a1 - (a0.length : Int))), (0 : Int), by omega, H, rfl⟩, Le.mk [] hm rfl (Sa2 (Sa1 trivial)) trivial trivial⟩ ?_
  clear H
  rintro k2 _ ⟨v34, v35, v36, hk2, H, rfl⟩
  cases k2 with
  | zero => cases H
  | succ k2 =>
   rw [Flaws_szCacheS.l2] at H
   refine WpC.seq (WpC.seq (WpC.regionL ?_))
   refine L.move hF rfl rfl rfl ?_
   refine L.move hF rfl rfl rfl ?_
   refine L.lenR (xs := v34) (e := eTlaws_Cache) Tryz.underlying66 hF rfl rfl rfl rfl ?_
   refine L.bin hF rfl rfl rfl rfl rfl rfl (L.nil ?_)
   refine WpC.cond rfl (fun hc => ?_) (fun hc => ?_)
   ·replace H := condT hc H
    refine WpC.skip (WpC.seq (WpC.block (WpC.seq (WpC.regionL ?_))))
    refine L.move hF rfl rfl rfl ?_
    refine L.move hF rfl rfl rfl ?_
    obtain ⟨b39, hb39, H⟩ := bindS H
    refine L.idxR (xs := v34) (e := eTlaws_Cache) Tryz.underlying66 info28 hF rfl rfl rfl rfl rfl hb39 rfl rfl ?_
    refine L.loadPe shape28 hF rfl rfl rfl rfl rfl ?_
    refine L.move hF rfl rfl rfl ?_
    obtain ⟨r40, hr40, H⟩ := bindS H
    refine L.call [false, false] [] [] 0 hF rfl rfl rfl ent10 rfl rfl rfl rfl rfl (Flaws_szCache_gives k2 true b39 v35 r40 hr40) rfl ?_
    refine L.assign hF rfl rfl rfl (L.nil ?_)
    refine WpC.seq (WpC.regionL ?_)
    refine L.move hF rfl rfl rfl ?_
    refine L.bin hF rfl rfl rfl rfl rfl rfl (L.nil ?_)
    refine WpC.cond rfl (fun hc => ?_) (fun hc => ?_)
    ·replace H := condT hc H
     refine WpC.seq (WpC.regionL ?_)
     refine L.assign hF rfl rfl rfl (L.nil ?_)
     refine WpC.ret ?_
     cases H
     exact Leaves.ret rfl rfl rfl ⟨rfl, rfl⟩
    ·replace H := condF hc H
     refine WpC.skip (WpC.regionL ?_)
     refine L.move hF rfl rfl rfl ?_
     refine L.bin hF rfl rfl rfl rfl rfl rfl ?_
     refine L.assign hF rfl rfl rfl (L.nil ?_)
     exact ⟨k2, _, by omega, ⟨v34, r40, (IntKind.i64.wrap (v36 + (1 : Int))), by omega, H, rfl⟩, Le.mk [] hm rfl (Sa2 (Sa1 trivial)) trivial trivial⟩
   ·replace H := condF hc H
    refine WpC.exit (WpC.seq (WpC.regionL ?_))
    refine L.move hF rfl rfl rfl ?_
    refine L.assign hF rfl rfl rfl (L.nil ?_)
    refine WpC.ret ?_
    cases H
    exact Leaves.ret rfl rfl rfl ⟨rfl, rfl⟩
/-! ### Flaws_szEventS -/
def Flaws_szEventS (k : Nat) (a0 : List Tlaws_Event) (a1 : Int) : Option Int := cond (decide ((IntKind.i64.wrap (a1 - (a0.length : Int))) < (0 : Int))) (some (-1 : Int)) (some (IntKind.i64.wrap (a1 - (a0.length : Int))))
theorem ent97 : MG.Enters Tryz.prog 97 := ⟨Tryz.f97, Tryz.func97, rfl, by decide⟩
set_option maxHeartbeats 8000000 in
set_option maxRecDepth 100000 in
theorem Flaws_szEventS_gives (k : Nat) (g0 : Bool) (a0 : List Tlaws_Event) (a1 : Int) (r : Int) (H : Flaws_szEventS k a0 a1 = some r) : Gives Tryz.prog 97 [V.one (Cell.sl g0 (List.map eTlaws_Event a0)), V.one (cI a1)] [] [V.one (cI r)] [] := by
 refine Gives.intro Tryz.func97 rfl rfl rfl rfl ?_
 intro F hF hm
 unfold Flaws_szEventS at H
 obtain ⟨K, hK⟩ : ∃ K, k ≤ K := ⟨k, Nat.le_refl k⟩
 refine WpC.seq (WpC.regionL ?_)
 refine L.assign hF rfl rfl rfl (L.nil ?_)
 refine WpC.seq (WpC.regionL ?_)
 refine L.move hF rfl rfl rfl ?_
 refine L.move hF rfl rfl rfl ?_
 refine L.lenR (xs := a0) (e := eTlaws_Event) Tryz.underlying67 hF rfl rfl rfl rfl ?_
 refine L.bin hF rfl rfl rfl rfl rfl rfl ?_
 refine L.assign hF rfl rfl rfl (L.nil ?_)
 refine WpC.seq (WpC.seq (WpC.regionL ?_))
 refine L.move hF rfl rfl rfl ?_
 refine L.bin hF rfl rfl rfl rfl rfl rfl (L.nil ?_)
 refine WpC.cond rfl (fun hc => ?_) (fun hc => ?_)
 ·replace H := condT hc H
  refine WpC.seq (WpC.regionL ?_)
  refine L.assign hF rfl rfl rfl (L.nil ?_)
  refine WpC.ret ?_
  cases H
  exact Leaves.ret rfl rfl rfl ⟨rfl, rfl⟩
 ·replace H := condF hc H
  refine WpC.skip (WpC.seq (WpC.regionL ?_))
  refine L.move hF rfl rfl rfl ?_
  refine L.assign hF rfl rfl rfl (L.nil ?_)
  refine WpC.ret ?_
  cases H
  exact Leaves.ret rfl rfl rfl ⟨rfl, rfl⟩
/-! ### Flaws_szAccept -/
def Flaws_szAccept (k : Nat) (a0 : Tlaws_Accept) (a1 : Int) : Option Int := (Flaws_szIntS k a0.Path a1).bind fun r1 => cond (decide (r1 < (0 : Int))) (some (-1 : Int)) ((Flaws_szIntS k a0.Via r1).bind fun r2 => cond (decide (r2 < (0 : Int))) (some (-1 : Int)) (cond (decide ((IntKind.i64.wrap (r2 - (a0.Ticket.length : Int))) < (0 : Int))) (some (-1 : Int)) (some (IntKind.i64.wrap (r2 - (a0.Ticket.length : Int))))))
theorem ent182 : MG.Enters Tryz.prog 182 := ⟨Tryz.f182, Tryz.func182, rfl, by decide⟩
set_option maxHeartbeats 8000000 in
set_option maxRecDepth 100000 in
theorem Flaws_szAccept_gives (k : Nat) (g0 : Bool) (g1 : Bool) (a0 : Tlaws_Accept) (a1 : Int) (r : Int) (H : Flaws_szAccept k a0 a1 = some r) : Gives Tryz.prog 182 [V.agg [cI a0.Server, cI a0.Client, cI a0.Key, cI a0.Op, cI a0.Now, cI a0.Auth.Client, cI a0.Auth.Time, cI a0.Auth.Seq, cI a0.Rest.Servers, cI a0.Rest.Ops, cI a0.Rest.End, Cell.sl g0 (List.map eI a0.Path), Cell.sl g1 (List.map eI a0.Via), cI a0.Leaks, cS a0.Ticket], V.one (cI a1)] [] [V.one (cI r)] [] := by
 refine Gives.intro Tryz.func182 rfl rfl rfl rfl ?_
 intro F hF hm
 unfold Flaws_szAccept at H
 obtain ⟨K, hK⟩ : ∃ K, k ≤ K := ⟨k, Nat.le_refl k⟩
 refine WpC.seq (WpC.regionL ?_)
 refine L.box 16 hF rfl rfl rfl rfl ?_
 refine L.assign hF rfl rfl rfl (L.nil ?_)
 refine WpC.seq (WpC.regionL ?_)
 refine L.fieldAddr Tryz.underlying228 rfl info22 rfl hF rfl rfl rfl rfl rfl ?_
 refine L.loadPtr shape22 hF rfl rfl rfl rfl rfl rfl ?_
 refine L.move hF rfl rfl rfl ?_
 obtain ⟨r1, hr1, H⟩ := bindS H
 refine L.call [false, false] [] [] 17 hF rfl rfl rfl ent47 rfl rfl rfl rfl rfl (Flaws_szIntS_gives k g0 a0.Path a1 r1 hr1) rfl ?_
 refine L.assign hF rfl rfl rfl (L.nil ?_)
 refine WpC.seq (WpC.seq (WpC.regionL ?_))
 refine L.move hF rfl rfl rfl ?_
 refine L.bin hF rfl rfl rfl rfl rfl rfl (L.nil ?_)
 refine WpC.cond rfl (fun hc => ?_) (fun hc => ?_)
 ·replace H := condT hc H
  refine WpC.seq (WpC.regionL ?_)
  refine L.assign hF rfl rfl rfl (L.nil ?_)
  refine WpC.ret ?_
  cases H
  exact Leaves.ret rfl rfl rfl ⟨rfl, rfl⟩
 ·replace H := condF hc H
  refine WpC.skip (WpC.seq (WpC.regionL ?_))
  refine L.fieldAddr Tryz.underlying228 rfl info22 rfl hF rfl rfl rfl rfl rfl ?_
  refine L.loadPtr shape22 hF rfl rfl rfl rfl rfl rfl ?_
  refine L.move hF rfl rfl rfl ?_
  obtain ⟨r2, hr2, H⟩ := bindS H
  refine L.call [false, false] [] [] 18 hF rfl rfl rfl ent47 rfl rfl rfl rfl rfl (Flaws_szIntS_gives k g1 a0.Via r1 r2 hr2) rfl ?_
  refine L.assign hF rfl rfl rfl (L.nil ?_)
  refine WpC.seq (WpC.seq (WpC.regionL ?_))
  refine L.move hF rfl rfl rfl ?_
  refine L.bin hF rfl rfl rfl rfl rfl rfl (L.nil ?_)
  refine WpC.cond rfl (fun hc => ?_) (fun hc => ?_)
  ·replace H := condT hc H
   refine WpC.seq (WpC.regionL ?_)
   refine L.assign hF rfl rfl rfl (L.nil ?_)
   refine WpC.ret ?_
   cases H
   exact Leaves.ret rfl rfl rfl ⟨rfl, rfl⟩
  ·replace H := condF hc H
   refine WpC.skip (WpC.seq (WpC.regionL ?_))
   refine L.move hF rfl rfl rfl ?_
   refine L.fieldAddr Tryz.underlying228 rfl info9 rfl hF rfl rfl rfl rfl rfl ?_
   refine L.loadPtr shape9 hF rfl rfl rfl rfl rfl rfl ?_
   refine L.lenS Tryz.underlying9 hF rfl rfl rfl ?_
   refine L.bin hF rfl rfl rfl rfl rfl rfl ?_
   refine L.assign hF rfl rfl rfl (L.nil ?_)
   refine WpC.seq (WpC.seq (WpC.regionL ?_))
   refine L.move hF rfl rfl rfl ?_
   refine L.bin hF rfl rfl rfl rfl rfl rfl (L.nil ?_)
   refine WpC.cond rfl (fun hc => ?_) (fun hc => ?_)
   ·replace H := condT hc H
    refine WpC.seq (WpC.regionL ?_)
    refine L.assign hF rfl rfl rfl (L.nil ?_)
    refine WpC.ret ?_
    cases H
    exact Leaves.ret rfl rfl rfl ⟨rfl, rfl⟩
   ·replace H := condF hc H
    refine WpC.skip (WpC.seq (WpC.regionL ?_))
    refine L.move hF rfl rfl rfl ?_
    refine L.assign hF rfl rfl rfl (L.nil ?_)
    refine WpC.ret ?_
    cases H
    exact Leaves.ret rfl rfl rfl ⟨rfl, rfl⟩
/-! ### Flaws_szAcceptS -/
def Flaws_szAcceptS.l2 : Nat → (List Tlaws_Accept) → Int → Int → Option Int
 | 0, _, _, _ => none
 | k2 + 1, v34, v35, v36 => cond (decide (v36 < (v34.length : Int))) ((at? v34 v36).bind fun b39 => (Flaws_szAccept k2 b39 v35).bind fun r40 => cond (decide (r40 < (0 : Int))) (some (-1 : Int)) ((Flaws_szAcceptS.l2 k2) v34 r40 (IntKind.i64.wrap (v36 + (1 : Int))))) (some v35)
def Flaws_szAcceptS (k : Nat) (a0 : List Tlaws_Accept) (a1 : Int) : Option Int := cond (decide ((IntKind.i64.wrap (a1 - (a0.length : Int))) < (0 : Int))) (some (-1 : Int)) (Flaws_szAcceptS.l2 k a0 (IntKind.i64.wrap (a1 - (a0.length : Int))) (0 : Int))
theorem ent98 : MG.Enters Tryz.prog 98 := ⟨Tryz.f98, Tryz.func98, rfl, by decide⟩
set_option maxHeartbeats 8000000 in
set_option maxRecDepth 100000 in
theorem Flaws_szAcceptS_gives (k : Nat) (g0 : Bool) (a0 : List Tlaws_Accept) (a1 : Int) (r : Int) (H : Flaws_szAcceptS k a0 a1 = some r) : Gives Tryz.prog 98 [V.one (Cell.sl g0 (List.map eTlaws_Accept a0)), V.one (cI a1)] [] [V.one (cI r)] [] := by
 refine Gives.intro Tryz.func98 rfl rfl rfl rfl ?_
 intro F hF hm
 unfold Flaws_szAcceptS at H
 obtain ⟨K, hK⟩ : ∃ K, k ≤ K := ⟨k, Nat.le_refl k⟩
 refine WpC.seq (WpC.regionL ?_)
 refine L.assign hF rfl rfl rfl (L.nil ?_)
 refine WpC.seq (WpC.regionL ?_)
 refine L.move hF rfl rfl rfl ?_
 refine L.move hF rfl rfl rfl ?_
 refine L.lenR (xs := a0) (e := eTlaws_Accept) Tryz.underlying68 hF rfl rfl rfl rfl ?_
 refine L.bin hF rfl rfl rfl rfl rfl rfl ?_
 refine L.assign hF rfl rfl rfl (L.nil ?_)
 refine WpC.seq (WpC.seq (WpC.regionL ?_))
 refine L.move hF rfl rfl rfl ?_
 refine L.bin hF rfl rfl rfl rfl rfl rfl (L.nil ?_)
 refine WpC.cond rfl (fun hc => ?_) (fun hc => ?_)
 ·replace H := condT hc H
  refine WpC.seq (WpC.regionL ?_)
  refine L.assign hF rfl rfl rfl (L.nil ?_)
  refine WpC.ret ?_
  cases H
  exact Leaves.ret rfl rfl rfl ⟨rfl, rfl⟩
 ·replace H := condF hc H
  refine WpC.skip (WpC.seq (WpC.seq (WpC.regionL ?_)))
  refine L.assign hF rfl rfl rfl (L.nil ?_)
  refine WpC.block ?_
  refine WpC.loopL (P := Tryz.prog) (fun n σ => ∃ v34 : List Tlaws_Accept, ∃ v35 : Int, ∃ v36 : Int, n ≤ K ∧ Flaws_szAcceptS.l2 n v34 v35 v36 = some r ∧ σ = mkSt [(0, one (Cell.sl g0 (List.map eTlaws_Accept v34))), (1, one (cI v35)), (5, one (cI v36))] [] [] 0) k ⟨_, ⟨a0, (IntKind.i64.wrap (a1 - (a0.length : Int))), (0 : Int), by omega, H, rfl⟩, Le.mk [] hm rfl (Sa2 (Sa1 trivial)) trivial trivial⟩ ?_
  clear H
  rintro k2 _ ⟨v34, v35, v36, hk2, H, rfl⟩
  cases k2 with
  | zero => cases H
  | succ k2 =>
   rw [Flaws_szAcceptS.l2] at H
   refine WpC.seq (WpC.seq (WpC.regionL ?_))
   refine L.move hF rfl rfl rfl ?_
   refine L.move hF rfl rfl rfl ?_
   refine L.lenR (xs := v34) (e := eTlaws_Accept) Tryz.underlying68 hF rfl rfl rfl rfl ?_
   refine L.bin hF rfl rfl rfl rfl rfl rfl (L.nil ?_)
   refine WpC.cond rfl (fun hc => ?_) (fun hc => ?_)
   ·replace H := condT hc H
    refine WpC.skip (WpC.seq (WpC.block (WpC.seq (WpC.regionL ?_))))
    refine L.move hF rfl rfl rfl ?_
    refine L.move hF rfl rfl rfl ?_
    obtain ⟨b39, hb39, H⟩ := bindS H
    refine L.idxR (xs := v34) (e := eTlaws_Accept) Tryz.underlying68 info228 hF rfl rfl rfl rfl rfl hb39 rfl rfl ?_
    refine L.loadPe shape228 hF rfl rfl rfl rfl rfl ?_
    refine L.move hF rfl rfl rfl ?_
    obtain ⟨r40, hr40, H⟩ := bindS H
    refine L.call [false, false] [] [] 0 hF rfl rfl rfl ent182 rfl rfl rfl rfl rfl (Flaws_szAccept_gives k2 true true b39 v35 r40 hr40) rfl ?_
    refine L.assign hF rfl rfl rfl (L.nil ?_)
    refine WpC.seq (WpC.regionL ?_)
    refine L.move hF rfl rfl rfl ?_
    refine L.bin hF rfl rfl rfl rfl rfl rfl (L.nil ?_)
    refine WpC.cond rfl (fun hc => ?_) (fun hc => ?_)
    ·replace H := condT hc H
     refine WpC.seq (WpC.regionL ?_)
     refine L.assign hF rfl rfl rfl (L.nil ?_)
     refine WpC.ret ?_
     cases H
     exact Leaves.ret rfl rfl rfl ⟨rfl, rfl⟩
    ·replace H := condF hc H
     refine WpC.skip (WpC.regionL ?_)
     refine L.move hF rfl rfl rfl ?_
     refine L.bin hF rfl rfl rfl rfl rfl rfl ?_
     refine L.assign hF rfl rfl rfl (L.nil ?_)
     exact ⟨k2, _, by omega, ⟨v34, r40, (IntKind.i64.wrap (v36 + (1 : Int))), by omega, H, rfl⟩, Le.mk [] hm rfl (Sa2 (Sa1 trivial)) trivial trivial⟩
   ·replace H := condF hc H
    refine WpC.exit (WpC.seq (WpC.regionL ?_))
    refine L.move hF rfl rfl rfl ?_
    refine L.assign hF rfl rfl rfl (L.nil ?_)
    refine WpC.ret ?_
    cases H
    exact Leaves.ret rfl rfl rfl ⟨rfl, rfl⟩
/-! ### Flaws_szWorld -/
def Flaws_szWorld (k : Nat) (a0 : Tlaws_World) (a1 : Int) : Option Int := (Flaws_szConfig k (⟨a0.Config.UserRealm, a0.Config.ServiceRealm, a0.Config.Links, a0.Config.Proxy, a0.Config.Skew⟩ : Tlaws_Config) a1).bind fun r1 => cond (decide (r1 < (0 : Int))) (some (-1 : Int)) ((Flaws_szStringS k a0.Net r1).bind fun r2 => cond (decide (r2 < (0 : Int))) (some (-1 : Int)) ((Flaws_szKnown k (⟨a0.Known.Terms, a0.Known.Keys⟩ : Tlaws_Known) r2).bind fun r3 => cond (decide (r3 < (0 : Int))) (some (-1 : Int)) ((Flaws_szWaitS k a0.Waits r3).bind fun r4 => cond (decide (r4 < (0 : Int))) (some (-1 : Int)) ((Flaws_szCredS k a0.Creds r4).bind fun r5 => cond (decide (r5 < (0 : Int))) (some (-1 : Int)) ((Flaws_szCacheS k a0.Caches r5).bind fun r6 => cond (decide (r6 < (0 : Int))) (some (-1 : Int)) ((Flaws_szEventS k a0.Log r6).bind fun r7 => cond (decide (r7 < (0 : Int))) (some (-1 : Int)) ((Flaws_szAcceptS k a0.Accepts r7).bind fun r8 => cond (decide (r8 < (0 : Int))) (some (-1 : Int)) ((Flaws_szIntS k a0.Leaked r8).bind fun r9 => cond (decide (r9 < (0 : Int))) (some (-1 : Int)) (some r9)))))))))
theorem ent28 : MG.Enters Tryz.prog 28 := ⟨Tryz.f28, Tryz.func28, rfl, by decide⟩
set_option maxHeartbeats 8000000 in
set_option maxRecDepth 100000 in
theorem Flaws_szWorld_gives (k : Nat) (g0 : Bool) (g1 : Bool) (g2 : Bool) (g3 : Bool) (g4 : Bool) (g5 : Bool) (g6 : Bool) (g7 : Bool) (g8 : Bool) (g9 : Bool) (g10 : Bool) (g11 : Bool) (g12 : Bool) (a0 : Tlaws_World) (a1 : Int) (r : Int) (H : Flaws_szWorld k a0 a1 = some r) : Gives Tryz.prog 28 [V.agg [Cell.sl g0 (List.map eI a0.Config.UserRealm), Cell.sl g1 (List.map eI a0.Config.ServiceRealm), Cell.sl g2 (List.map eTlaws_Pair a0.Config.Links), Cell.sl g3 (List.map eTlaws_Pair a0.Config.Proxy), cI a0.Config.Skew, cI a0.Now, cI a0.Fresh, Cell.sl g4 (List.map eS a0.Net), Cell.sl g5 (List.map eS a0.Known.Terms), Cell.sl g6 (List.map eI a0.Known.Keys), Cell.sl g7 (List.map eTlaws_Wait a0.Waits), Cell.sl g8 (List.map eTlaws_Cred a0.Creds), Cell.sl g9 (List.map eTlaws_Cache a0.Caches), Cell.sl g10 (List.map eTlaws_Event a0.Log), Cell.sl g11 (List.map eTlaws_Accept a0.Accepts), Cell.sl g12 (List.map eI a0.Leaked)], V.one (cI a1)] [] [V.one (cI r)] [] := by
 refine Gives.intro Tryz.func28 rfl rfl rfl rfl ?_
 intro F hF hm
 unfold Flaws_szWorld at H
 obtain ⟨K, hK⟩ : ∃ K, k ≤ K := ⟨k, Nat.le_refl k⟩
 refine WpC.seq (WpC.regionL ?_)
 refine L.box 17 hF rfl rfl rfl rfl ?_
 refine L.assign hF rfl rfl rfl (L.nil ?_)
 refine WpC.seq (WpC.regionL ?_)
 refine L.fieldAddr Tryz.underlying70 rfl info25 rfl hF rfl rfl rfl rfl rfl ?_
 refine L.loadPtr shape25 hF rfl rfl rfl rfl rfl rfl ?_
 refine L.move hF rfl rfl rfl ?_
 obtain ⟨r1, hr1, H⟩ := bindS H
 refine L.call [false, false] [] [] 18 hF rfl rfl rfl ent9 rfl rfl rfl rfl rfl (Flaws_szConfig_gives k g0 g1 g2 g3 (⟨a0.Config.UserRealm, a0.Config.ServiceRealm, a0.Config.Links, a0.Config.Proxy, a0.Config.Skew⟩ : Tlaws_Config) a1 r1 hr1) rfl ?_
 refine L.assign hF rfl rfl rfl (L.nil ?_)
 refine WpC.seq (WpC.seq (WpC.regionL ?_))
 refine L.move hF rfl rfl rfl ?_
 refine L.bin hF rfl rfl rfl rfl rfl rfl (L.nil ?_)
 refine WpC.cond rfl (fun hc => ?_) (fun hc => ?_)
 ·replace H := condT hc H
  refine WpC.seq (WpC.regionL ?_)
  refine L.assign hF rfl rfl rfl (L.nil ?_)
  refine WpC.ret ?_
  cases H
  exact Leaves.ret rfl rfl rfl ⟨rfl, rfl⟩
 ·replace H := condF hc H
  refine WpC.skip (WpC.seq (WpC.regionL ?_))
  refine L.fieldAddr Tryz.underlying70 rfl info61 rfl hF rfl rfl rfl rfl rfl ?_
  refine L.loadPtr shape61 hF rfl rfl rfl rfl rfl rfl ?_
  refine L.move hF rfl rfl rfl ?_
  obtain ⟨r2, hr2, H⟩ := bindS H
  refine L.call [false, false] [] [] 19 hF rfl rfl rfl ent92 rfl rfl rfl rfl rfl (Flaws_szStringS_gives k g4 a0.Net r1 r2 hr2) rfl ?_
  refine L.assign hF rfl rfl rfl (L.nil ?_)
  refine WpC.seq (WpC.seq (WpC.regionL ?_))
  refine L.move hF rfl rfl rfl ?_
  refine L.bin hF rfl rfl rfl rfl rfl rfl (L.nil ?_)
  refine WpC.cond rfl (fun hc => ?_) (fun hc => ?_)
  ·replace H := condT hc H
   refine WpC.seq (WpC.regionL ?_)
   refine L.assign hF rfl rfl rfl (L.nil ?_)
   refine WpC.ret ?_
   cases H
   exact Leaves.ret rfl rfl rfl ⟨rfl, rfl⟩
  ·replace H := condF hc H
   refine WpC.skip (WpC.seq (WpC.regionL ?_))
   refine L.fieldAddr Tryz.underlying70 rfl info63 rfl hF rfl rfl rfl rfl rfl ?_
   refine L.loadPtr shape63 hF rfl rfl rfl rfl rfl rfl ?_
   refine L.move hF rfl rfl rfl ?_
   obtain ⟨r3, hr3, H⟩ := bindS H
   refine L.call [false, false] [] [] 20 hF rfl rfl rfl ent93 rfl rfl rfl rfl rfl (Flaws_szKnown_gives k g5 g6 (⟨a0.Known.Terms, a0.Known.Keys⟩ : Tlaws_Known) r2 r3 hr3) rfl ?_
   refine L.assign hF rfl rfl rfl (L.nil ?_)
   refine WpC.seq (WpC.seq (WpC.regionL ?_))
   refine L.move hF rfl rfl rfl ?_
   refine L.bin hF rfl rfl rfl rfl rfl rfl (L.nil ?_)
   refine WpC.cond rfl (fun hc => ?_) (fun hc => ?_)
   ·replace H := condT hc H
    refine WpC.seq (WpC.regionL ?_)
    refine L.assign hF rfl rfl rfl (L.nil ?_)
    refine WpC.ret ?_
    cases H
    exact Leaves.ret rfl rfl rfl ⟨rfl, rfl⟩
   ·replace H := condF hc H
    refine WpC.skip (WpC.seq (WpC.regionL ?_))
    refine L.fieldAddr Tryz.underlying70 rfl info64 rfl hF rfl rfl rfl rfl rfl ?_
    refine L.loadPtr shape64 hF rfl rfl rfl rfl rfl rfl ?_
    refine L.move hF rfl rfl rfl ?_
    obtain ⟨r4, hr4, H⟩ := bindS H
    refine L.call [false, false] [] [] 21 hF rfl rfl rfl ent94 rfl rfl rfl rfl rfl (Flaws_szWaitS_gives k g7 a0.Waits r3 r4 hr4) rfl ?_
    refine L.assign hF rfl rfl rfl (L.nil ?_)
    refine WpC.seq (WpC.seq (WpC.regionL ?_))
    refine L.move hF rfl rfl rfl ?_
    refine L.bin hF rfl rfl rfl rfl rfl rfl (L.nil ?_)
    refine WpC.cond rfl (fun hc => ?_) (fun hc => ?_)
    ·replace H := condT hc H
     refine WpC.seq (WpC.regionL ?_)
     refine L.assign hF rfl rfl rfl (L.nil ?_)
     refine WpC.ret ?_
     cases H
     exact Leaves.ret rfl rfl rfl ⟨rfl, rfl⟩
    ·replace H := condF hc H
     refine WpC.skip (WpC.seq (WpC.regionL ?_))
     refine L.fieldAddr Tryz.underlying70 rfl info65 rfl hF rfl rfl rfl rfl rfl ?_
     refine L.loadPtr shape65 hF rfl rfl rfl rfl rfl rfl ?_
     refine L.move hF rfl rfl rfl ?_
     obtain ⟨r5, hr5, H⟩ := bindS H
     refine L.call [false, false] [] [] 22 hF rfl rfl rfl ent95 rfl rfl rfl rfl rfl (Flaws_szCredS_gives k g8 a0.Creds r4 r5 hr5) rfl ?_
     refine L.assign hF rfl rfl rfl (L.nil ?_)
     refine WpC.seq (WpC.seq (WpC.regionL ?_))
     refine L.move hF rfl rfl rfl ?_
     refine L.bin hF rfl rfl rfl rfl rfl rfl (L.nil ?_)
     refine WpC.cond rfl (fun hc => ?_) (fun hc => ?_)
     ·replace H := condT hc H
      refine WpC.seq (WpC.regionL ?_)
      refine L.assign hF rfl rfl rfl (L.nil ?_)
      refine WpC.ret ?_
      cases H
      exact Leaves.ret rfl rfl rfl ⟨rfl, rfl⟩
     ·replace H := condF hc H
      refine WpC.skip (WpC.seq (WpC.regionL ?_))
      refine L.fieldAddr Tryz.underlying70 rfl info66 rfl hF rfl rfl rfl rfl rfl ?_
      refine L.loadPtr shape66 hF rfl rfl rfl rfl rfl rfl ?_
      refine L.move hF rfl rfl rfl ?_
      obtain ⟨r6, hr6, H⟩ := bindS H
      refine L.call [false, false] [] [] 23 hF rfl rfl rfl ent96 rfl rfl rfl rfl rfl (Flaws_szCacheS_gives k g9 a0.Caches r5 r6 hr6) rfl ?_
      refine L.assign hF rfl rfl rfl (L.nil ?_)
      refine WpC.seq (WpC.seq (WpC.regionL ?_))
      refine L.move hF rfl rfl rfl ?_
      refine L.bin hF rfl rfl rfl rfl rfl rfl (L.nil ?_)
      refine WpC.cond rfl (fun hc => ?_) (fun hc => ?_)
      ·replace H := condT hc H
       refine WpC.seq (WpC.regionL ?_)
       refine L.assign hF rfl rfl rfl (L.nil ?_)
       refine WpC.ret ?_
       cases H
       exact Leaves.ret rfl rfl rfl ⟨rfl, rfl⟩
      ·replace H := condF hc H
       refine WpC.skip (WpC.seq (WpC.regionL ?_))
       refine L.fieldAddr Tryz.underlying70 rfl info67 rfl hF rfl rfl rfl rfl rfl ?_
       refine L.loadPtr shape67 hF rfl rfl rfl rfl rfl rfl ?_
       refine L.move hF rfl rfl rfl ?_
       obtain ⟨r7, hr7, H⟩ := bindS H
       refine L.call [false, false] [] [] 24 hF rfl rfl rfl ent97 rfl rfl rfl rfl rfl (Flaws_szEventS_gives k g10 a0.Log r6 r7 hr7) rfl ?_
       refine L.assign hF rfl rfl rfl (L.nil ?_)
       refine WpC.seq (WpC.seq (WpC.regionL ?_))
       refine L.move hF rfl rfl rfl ?_
       refine L.bin hF rfl rfl rfl rfl rfl rfl (L.nil ?_)
       refine WpC.cond rfl (fun hc => ?_) (fun hc => ?_)
       ·replace H := condT hc H
        refine WpC.seq (WpC.regionL ?_)
        refine L.assign hF rfl rfl rfl (L.nil ?_)
        refine WpC.ret ?_
        cases H
        exact Leaves.ret rfl rfl rfl ⟨rfl, rfl⟩
       ·replace H := condF hc H
        refine WpC.skip (WpC.seq (WpC.regionL ?_))
        refine L.fieldAddr Tryz.underlying70 rfl info68 rfl hF rfl rfl rfl rfl rfl ?_
        refine L.loadPtr shape68 hF rfl rfl rfl rfl rfl rfl ?_
        refine L.move hF rfl rfl rfl ?_
        obtain ⟨r8, hr8, H⟩ := bindS H
        refine L.call [false, false] [] [] 25 hF rfl rfl rfl ent98 rfl rfl rfl rfl rfl (Flaws_szAcceptS_gives k g11 a0.Accepts r7 r8 hr8) rfl ?_
        refine L.assign hF rfl rfl rfl (L.nil ?_)
        refine WpC.seq (WpC.seq (WpC.regionL ?_))
        refine L.move hF rfl rfl rfl ?_
        refine L.bin hF rfl rfl rfl rfl rfl rfl (L.nil ?_)
        refine WpC.cond rfl (fun hc => ?_) (fun hc => ?_)
        ·replace H := condT hc H
         refine WpC.seq (WpC.regionL ?_)
         refine L.assign hF rfl rfl rfl (L.nil ?_)
         refine WpC.ret ?_
         cases H
         exact Leaves.ret rfl rfl rfl ⟨rfl, rfl⟩
        ·replace H := condF hc H
         refine WpC.skip (WpC.seq (WpC.regionL ?_))
         refine L.fieldAddr Tryz.underlying70 rfl info22 rfl hF rfl rfl rfl rfl rfl ?_
         refine L.loadPtr shape22 hF rfl rfl rfl rfl rfl rfl ?_
         refine L.move hF rfl rfl rfl ?_
         obtain ⟨r9, hr9, H⟩ := bindS H
         refine L.call [false, false] [] [] 26 hF rfl rfl rfl ent47 rfl rfl rfl rfl rfl (Flaws_szIntS_gives k g12 a0.Leaked r8 r9 hr9) rfl ?_
         refine L.assign hF rfl rfl rfl (L.nil ?_)
         refine WpC.seq (WpC.seq (WpC.regionL ?_))
         refine L.move hF rfl rfl rfl ?_
         refine L.bin hF rfl rfl rfl rfl rfl rfl (L.nil ?_)
         refine WpC.cond rfl (fun hc => ?_) (fun hc => ?_)
         ·replace H := condT hc H
          refine WpC.seq (WpC.regionL ?_)
          refine L.assign hF rfl rfl rfl (L.nil ?_)
          refine WpC.ret ?_
          cases H
          exact Leaves.ret rfl rfl rfl ⟨rfl, rfl⟩
         ·replace H := condF hc H
          refine WpC.skip (WpC.seq (WpC.regionL ?_))
          refine L.move hF rfl rfl rfl ?_
          refine L.assign hF rfl rfl rfl (L.nil ?_)
          refine WpC.ret ?_
          cases H
          exact Leaves.ret rfl rfl rfl ⟨rfl, rfl⟩
/-! ### Flaws_toIntS -/
def Flaws_toIntS.l2 : Nat → (List Int) → (List Int) → Int → Option (List Int)
 | 0, _, _, _ => none
 | k2 + 1, v35, v36, v37 => cond (decide (v37 < (v35.length : Int))) ((at? v35 v37).bind fun b40 => (at? v36 v37).bind fun b41 => (Flaws_toIntS.l2 k2) v35 (v36.set v37.toNat b40) (IntKind.i64.wrap (v37 + (1 : Int)))) (some v36)
def Flaws_toIntS (k : Nat) (a0 : List Int) : Option (List Int) := cond (decide (0 ≤ (a0.length : Int) ∧ (a0.length : Int) ≤ (a0.length : Int) ∧ 8 * (a0.length : Int) ≤ 281474976710656 ∧ (a0.length : Int) ≤ 9223372036854775807)) (Flaws_toIntS.l2 k a0 (List.replicate (a0.length : Int).toNat (0 : Int)) (0 : Int)) none
theorem ent56 : MG.Enters Tryz.prog 56 := ⟨Tryz.f56, Tryz.func56, rfl, by decide⟩
set_option maxHeartbeats 8000000 in
set_option maxRecDepth 100000 in
theorem Flaws_toIntS_gives (k : Nat) (g0 : Bool) (a0 : List Int) (r : List Int) (H : Flaws_toIntS k a0 = some r) : Gives Tryz.prog 56 [V.one (Cell.sl g0 (List.map eI a0))] [] [V.one (Cell.ow 1 (List.map eI r))] [] := by
 refine Gives.intro Tryz.func56 rfl rfl rfl rfl ?_
 intro F hF hm
 unfold Flaws_toIntS at H
 obtain ⟨K, hK⟩ : ∃ K, k ≤ K := ⟨k, Nat.le_refl k⟩
 refine WpC.seq (WpC.regionL ?_)
 refine L.assign hF rfl rfl rfl (L.nil ?_)
 refine WpC.seq (WpC.regionL ?_)
 refine L.move hF rfl rfl rfl ?_
 refine L.lenR (xs := a0) (e := eI) Tryz.underlying22 hF rfl rfl rfl rfl ?_
 obtain ⟨h1, H⟩ := condG H
 refine L.makeSlice (e := eI) 1 (0 : Int) Tryz.underlying22 info3 rfl rfl rfl hF rfl rfl rfl rfl (of_decide_eq_true h1) rfl rfl ?_
 refine L.assign hF rfl rfl rfl (L.nil ?_)
 refine WpC.seq (WpC.seq (WpC.regionL ?_))
 refine L.assign hF rfl rfl rfl (L.nil ?_)
 refine WpC.block ?_
 refine WpC.loopL (P := Tryz.prog) (fun n σ => ∃ v35 : List Int, ∃ v36 : List Int, ∃ v37 : Int, n ≤ K ∧ Flaws_toIntS.l2 n v35 v36 v37 = some r ∧ σ = mkSt [(0, one (Cell.sl g0 (List.map eI v35))), (3, one (Cell.own 0)), (4, one (cI v37))] [(0, ⟨1, List.map eI v36⟩)] [] 1) k ⟨_, ⟨a0, (List.replicate (a0.length : Int).toNat (0 : Int)), (0 : Int), by omega, H, rfl⟩, Le.mk [(0, 1)] hm rfl (Sa2 (Sa1 trivial)) (Ra1 trivial) trivial⟩ ?_
 clear H
 rintro k2 _ ⟨v35, v36, v37, hk2, H, rfl⟩
 cases k2 with
 | zero => cases H
 | succ k2 =>
  rw [Flaws_toIntS.l2] at H
  refine WpC.seq (WpC.seq (WpC.regionL ?_))
  refine L.move hF rfl rfl rfl ?_
  refine L.move hF rfl rfl rfl ?_
  refine L.lenR (xs := v35) (e := eI) Tryz.underlying22 hF rfl rfl rfl rfl ?_
  refine L.bin hF rfl rfl rfl rfl rfl rfl (L.nil ?_)
  refine WpC.cond rfl (fun hc => ?_) (fun hc => ?_)
  ·replace H := condT hc H
   refine WpC.skip (WpC.seq (WpC.block (WpC.regionL ?_)))
   refine L.move hF rfl rfl rfl ?_
   refine L.move hF rfl rfl rfl ?_
   refine L.move hF rfl rfl rfl ?_
   refine L.move hF rfl rfl rfl ?_
   obtain ⟨b40, hb40, H⟩ := bindS H
   refine L.idxR (xs := v35) (e := eI) Tryz.underlying22 info3 hF rfl rfl rfl rfl rfl hb40 rfl rfl ?_
   refine L.loadPe shape3 hF rfl rfl rfl rfl rfl ?_
   obtain ⟨b41, hb41, H⟩ := bindS H
   refine L.idxR (xs := v36) (e := eI) Tryz.underlying22 info3 hF rfl rfl rfl rfl rfl hb41 rfl rfl ?_
   refine L.storeEp (xs := v36) (e := eI) (a' := b40) shape3 hF rfl rfl rfl rfl rfl rfl rfl (at?_get hb41).2 rfl rfl ?_
   refine L.nil ?_
   refine WpC.regionL ?_
   refine L.move hF rfl rfl rfl ?_
   refine L.bin hF rfl rfl rfl rfl rfl rfl ?_
   refine L.assign hF rfl rfl rfl (L.nil ?_)
   exact ⟨k2, _, by omega, ⟨v35, (v36.set v37.toNat b40), (IntKind.i64.wrap (v37 + (1 : Int))), by omega, H, rfl⟩, Le.mk [(0, 0)] hm rfl (Sa2 (Sa1 trivial)) (Ra1 trivial) trivial⟩
  ·replace H := condF hc H
   refine WpC.exit (WpC.seq (WpC.regionL ?_))
   refine L.move hF rfl rfl rfl ?_
   refine L.assign hF rfl rfl rfl (L.nil ?_)
   refine WpC.ret ?_
   cases H
   exact Leaves.ret rfl rfl rfl ⟨rfl, rfl⟩
/-! ### Flaws_toPair -/
def Flaws_toPair (k : Nat) (a0 : Tlaws_Pair) : Option Timpl_Pair := some (⟨a0.A, a0.B⟩ : Timpl_Pair)
theorem ent152 : MG.Enters Tryz.prog 152 := ⟨Tryz.f152, Tryz.func152, rfl, by decide⟩
set_option maxHeartbeats 8000000 in
set_option maxRecDepth 100000 in
theorem Flaws_toPair_gives (k : Nat) (a0 : Tlaws_Pair) (r : Timpl_Pair) (H : Flaws_toPair k a0 = some r) : Gives Tryz.prog 152 [V.agg [cI a0.A, cI a0.B]] [] [V.agg [cI r.A, cI r.B]] [] := by
 refine Gives.intro Tryz.func152 rfl rfl rfl rfl ?_
 intro F hF hm
 unfold Flaws_toPair at H
 obtain ⟨K, hK⟩ : ∃ K, k ≤ K := ⟨k, Nat.le_refl k⟩
 refine WpC.seq (WpC.regionL ?_)
 refine L.box 2 hF rfl rfl rfl rfl ?_
 refine L.alloc 3 info199 rfl hF rfl rfl rfl rfl (L.nil ?_)
 refine WpC.seq (WpC.regionL ?_)
 refine L.alloc 4 info199 rfl hF rfl rfl rfl rfl (L.nil ?_)
 refine WpC.seq (WpC.regionL ?_)
 refine L.fieldAddr Tryz.underlying201 rfl info3 rfl hF rfl rfl rfl rfl rfl ?_
 refine L.loadPtr shape3 hF rfl rfl rfl rfl rfl rfl ?_
 refine L.fieldAddr Tryz.underlying199 rfl info3 rfl hF rfl rfl rfl rfl rfl ?_
 refine L.storePtr shape3 hF rfl rfl rfl rfl rfl rfl rfl (L.nil ?_)
 refine WpC.seq (WpC.regionL ?_)
 refine L.fieldAddr Tryz.underlying201 rfl info3 rfl hF rfl rfl rfl rfl rfl ?_
 refine L.loadPtr shape3 hF rfl rfl rfl rfl rfl rfl ?_
 refine L.fieldAddr Tryz.underlying199 rfl info3 rfl hF rfl rfl rfl rfl rfl ?_
 refine L.storePtr shape3 hF rfl rfl rfl rfl rfl rfl rfl (L.nil ?_)
 refine WpC.seq (WpC.regionL ?_)
 refine L.loadPtr shape199 hF rfl rfl rfl rfl rfl rfl ?_
 refine L.storePtr shape199 hF rfl rfl rfl rfl rfl rfl rfl (L.nil ?_)
 refine WpC.ret ?_
 cases H
 exact Leaves.ret rfl rfl rfl ⟨rfl, rfl⟩
/-! ### Flaws_toPairS -/
def Flaws_toPairS.l2 : Nat → (List Tlaws_Pair) → (List Timpl_Pair) → Int → Option (List Timpl_Pair)
 | 0, _, _, _ => none
 | k2 + 1, v45, v46, v47 => cond (decide (v47 < (v45.length : Int))) ((at? v45 v47).bind fun b51 => (Flaws_toPair k2 b51).bind fun r52 => (at? v46 v47).bind fun b53 => (Flaws_toPairS.l2 k2) v45 (v46.set v47.toNat r52) (IntKind.i64.wrap (v47 + (1 : Int)))) (some v46)
def Flaws_toPairS (k : Nat) (a0 : List Tlaws_Pair) : Option (List Timpl_Pair) := cond (decide (0 ≤ (a0.length : Int) ∧ (a0.length : Int) ≤ (a0.length : Int) ∧ 16 * (a0.length : Int) ≤ 281474976710656 ∧ (a0.length : Int) ≤ 9223372036854775807)) (Flaws_toPairS.l2 k a0 (List.replicate (a0.length : Int).toNat (⟨(0 : Int), (0 : Int)⟩ : Timpl_Pair)) (0 : Int)) none
theorem ent57 : MG.Enters Tryz.prog 57 := ⟨Tryz.f57, Tryz.func57, rfl, by decide⟩
set_option maxHeartbeats 8000000 in
set_option maxRecDepth 100000 in
theorem Flaws_toPairS_gives (k : Nat) (g0 : Bool) (a0 : List Tlaws_Pair) (r : List Timpl_Pair) (H : Flaws_toPairS k a0 = some r) : Gives Tryz.prog 57 [V.one (Cell.sl g0 (List.map eTlaws_Pair a0))] [] [V.one (Cell.ow 2 (List.map eTimpl_Pair r))] [] := by
 refine Gives.intro Tryz.func57 rfl rfl rfl rfl ?_
 intro F hF hm
 unfold Flaws_toPairS at H
 obtain ⟨K, hK⟩ : ∃ K, k ≤ K := ⟨k, Nat.le_refl k⟩
 refine WpC.seq (WpC.regionL ?_)
 refine L.assign hF rfl rfl rfl (L.nil ?_)
 refine WpC.seq (WpC.regionL ?_)
 refine L.move hF rfl rfl rfl ?_
 refine L.lenR (xs := a0) (e := eTlaws_Pair) Tryz.underlying23 hF rfl rfl rfl rfl ?_
 obtain ⟨h1, H⟩ := condG H
 refine L.makeSlice (e := eTimpl_Pair) 1 (⟨(0 : Int), (0 : Int)⟩ : Timpl_Pair) Tryz.underlying42 info199 rfl rfl rfl hF rfl rfl rfl rfl (of_decide_eq_true h1) rfl rfl ?_
 refine L.assign hF rfl rfl rfl (L.nil ?_)
 refine WpC.seq (WpC.seq (WpC.regionL ?_))
 refine L.assign hF rfl rfl rfl (L.nil ?_)
 refine WpC.block ?_
 refine WpC.loopL (P := Tryz.prog) (fun n σ => ∃ v45 : List Tlaws_Pair, ∃ v46 : List Timpl_Pair, ∃ v47 : Int, n ≤ K ∧ Flaws_toPairS.l2 n v45 v46 v47 = some r ∧ σ = mkSt [(0, one (Cell.sl g0 (List.map eTlaws_Pair v45))), (3, one (Cell.own 0)), (4, one (cI v47))] [(0, ⟨2, List.map eTimpl_Pair v46⟩)] [] 1) k ⟨_, ⟨a0, (List.replicate (a0.length : Int).toNat (⟨(0 : Int), (0 : Int)⟩ : Timpl_Pair)), (0 : Int), by omega, H, rfl⟩, Le.mk [(0, 1)] hm rfl (Sa2 (Sa1 trivial)) (Ra1 trivial) trivial⟩ ?_
 clear H
 rintro k2 _ ⟨v45, v46, v47, hk2, H, rfl⟩
 cases k2 with
 | zero => cases H
 | succ k2 =>
  rw [Flaws_toPairS.l2] at H
  refine WpC.seq (WpC.seq (WpC.regionL ?_))
  refine L.move hF rfl rfl rfl ?_
  refine L.move hF rfl rfl rfl ?_
  refine L.lenR (xs := v45) (e := eTlaws_Pair) Tryz.underlying23 hF rfl rfl rfl rfl ?_
  refine L.bin hF rfl rfl rfl rfl rfl rfl (L.nil ?_)
  refine WpC.cond rfl (fun hc => ?_) (fun hc => ?_)
  ·replace H := condT hc H
   refine WpC.skip (WpC.seq (WpC.block (WpC.regionL ?_)))
   refine L.move hF rfl rfl rfl ?_
   refine L.move hF rfl rfl rfl ?_
   refine L.move hF rfl rfl rfl ?_
   refine L.move hF rfl rfl rfl ?_
   obtain ⟨b51, hb51, H⟩ := bindS H
   refine L.idxR (xs := v45) (e := eTlaws_Pair) Tryz.underlying23 info201 hF rfl rfl rfl rfl rfl hb51 rfl rfl ?_
   refine L.loadPe shape201 hF rfl rfl rfl rfl rfl ?_
   obtain ⟨r52, hr52, H⟩ := bindS H
   refine L.call [false] [] [] 1 hF rfl rfl rfl ent152 rfl rfl rfl rfl rfl (Flaws_toPair_gives k2  b51 r52 hr52) rfl ?_
   obtain ⟨b53, hb53, H⟩ := bindS H
   refine L.idxR (xs := v46) (e := eTimpl_Pair) Tryz.underlying42 info199 hF rfl rfl rfl rfl rfl hb53 rfl rfl ?_
   refine L.storeEp (xs := v46) (e := eTimpl_Pair) (a' := r52) shape199 hF rfl rfl rfl rfl rfl rfl rfl (at?_get hb53).2 rfl rfl ?_
   refine L.nil ?_
   refine WpC.regionL ?_
   refine L.move hF rfl rfl rfl ?_
   refine L.bin hF rfl rfl rfl rfl rfl rfl ?_
   refine L.assign hF rfl rfl rfl (L.nil ?_)
   exact ⟨k2, _, by omega, ⟨v45, (v46.set v47.toNat r52), (IntKind.i64.wrap (v47 + (1 : Int))), by omega, H, rfl⟩, Le.mk [(0, 0)] hm rfl (Sa2 (Sa1 trivial)) (Ra1 trivial) trivial⟩
  ·replace H := condF hc H
   refine WpC.exit (WpC.seq (WpC.regionL ?_))
   refine L.move hF rfl rfl rfl ?_
   refine L.assign hF rfl rfl rfl (L.nil ?_)
   refine WpC.ret ?_
   cases H
   exact Leaves.ret rfl rfl rfl ⟨rfl, rfl⟩
/-! ### Flaws_toConfig -/
def Flaws_toConfig (k : Nat) (a0 : Tlaws_Config) : Option Timpl_Config := (Flaws_toIntS k a0.UserRealm).bind fun r1 => (Flaws_toIntS k a0.ServiceRealm).bind fun r2 => (Flaws_toPairS k a0.Links).bind fun r3 => (Flaws_toPairS k a0.Proxy).bind fun r4 => some (⟨r1, r2, r3, r4, a0.Skew⟩ : Timpl_Config)
theorem ent12 : MG.Enters Tryz.prog 12 := ⟨Tryz.f12, Tryz.func12, rfl, by decide⟩
set_option maxHeartbeats 8000000 in
set_option maxRecDepth 100000 in
theorem Flaws_toConfig_gives (k : Nat) (g0 : Bool) (g1 : Bool) (g2 : Bool) (g3 : Bool) (a0 : Tlaws_Config) (r : Timpl_Config) (H : Flaws_toConfig k a0 = some r) : Gives Tryz.prog 12 [V.agg [Cell.sl g0 (List.map eI a0.UserRealm), Cell.sl g1 (List.map eI a0.ServiceRealm), Cell.sl g2 (List.map eTlaws_Pair a0.Links), Cell.sl g3 (List.map eTlaws_Pair a0.Proxy), cI a0.Skew]] [] [V.agg [Cell.ow 1 (List.map eI r.UserRealm), Cell.ow 1 (List.map eI r.ServiceRealm), Cell.ow 2 (List.map eTimpl_Pair r.Links), Cell.ow 2 (List.map eTimpl_Pair r.Proxy), cI r.Skew]] [] := by
 refine Gives.intro Tryz.func12 rfl rfl rfl rfl ?_
 intro F hF hm
 unfold Flaws_toConfig at H
 obtain ⟨K, hK⟩ : ∃ K, k ≤ K := ⟨k, Nat.le_refl k⟩
 refine WpC.seq (WpC.regionL ?_)
 refine L.box 5 hF rfl rfl rfl rfl ?_
 refine L.alloc 6 info44 rfl hF rfl rfl rfl rfl ?_
 refine L.le (τ := mkSt [(1, one (Cell.ptr 0 0)), (2, one (Cell.ptr 1 0))] [] [(0, (bTlaws_Config g0 g1 g2 g3 a0)), (1, [Cell.nil, Cell.nil, Cell.nil, Cell.nil, cI (0 : Int)])] 2) (Le.mk [(0, 5), (1, 6)] hm rfl (Sa2 trivial) trivial (Ba2 trivial)) (L.nil ?_)
 refine WpC.seq (WpC.regionL ?_)
 refine L.alloc 2 info44 rfl hF rfl rfl rfl rfl ?_
 refine L.le (τ := mkSt [(1, one (Cell.ptr 0 0)), (2, one (Cell.ptr 1 0)), (3, one (Cell.ptr 2 0))] [] [(0, (bTlaws_Config g0 g1 g2 g3 a0)), (1, [Cell.nil, Cell.nil, Cell.nil, Cell.nil, cI (0 : Int)]), (2, [Cell.nil, Cell.nil, Cell.nil, Cell.nil, cI (0 : Int)])] 3) (Le.mk [(0, 0), (1, 1), (2, 2)] hm rfl (Sa2 (Sa1 trivial)) trivial (Ba2 (Ba1 trivial))) (L.nil ?_)
 refine WpC.seq (WpC.regionL ?_)
 refine L.fieldAddr Tryz.underlying25 rfl info22 rfl hF rfl rfl rfl rfl rfl ?_
 refine L.loadPtr shape22 hF rfl rfl rfl rfl rfl rfl ?_
 obtain ⟨r1, hr1, H⟩ := bindS H
 refine L.call [false] [] [] 3 hF rfl rfl rfl ent56 rfl rfl rfl rfl rfl (Flaws_toIntS_gives k g0 a0.UserRealm r1 hr1) rfl ?_
 refine L.fieldAddr Tryz.underlying44 rfl info22 rfl hF rfl rfl rfl rfl rfl ?_
 refine L.storePtr shape22 hF rfl rfl rfl rfl rfl rfl rfl ?_
 refine L.le (τ := mkSt [(1, one (Cell.ptr 0 0)), (2, one (Cell.ptr 1 0)), (3, one (Cell.ptr 2 0))] [(3, ⟨1, List.map eI r1⟩)] [(0, (bTlaws_Config g0 g1 g2 g3 a0)), (1, [Cell.nil, Cell.nil, Cell.nil, Cell.nil, cI (0 : Int)]), (2, [Cell.own 3, Cell.nil, Cell.nil, Cell.nil, cI (0 : Int)])] 4) (Le.mk [(0, 0), (1, 1), (2, 2), (3, 3)] hm rfl (Sa2 (Sa1 trivial)) (Ra1 trivial) (Ba2 (Ba1 trivial))) (L.nil ?_)
 refine WpC.seq (WpC.regionL ?_)
 refine L.fieldAddr Tryz.underlying25 rfl info22 rfl hF rfl rfl rfl rfl rfl ?_
 refine L.loadPtr shape22 hF rfl rfl rfl rfl rfl rfl ?_
 obtain ⟨r2, hr2, H⟩ := bindS H
 refine L.call [false] [] [] 4 hF rfl rfl rfl ent56 rfl rfl rfl rfl rfl (Flaws_toIntS_gives k g1 a0.ServiceRealm r2 hr2) rfl ?_
 refine L.fieldAddr Tryz.underlying44 rfl info22 rfl hF rfl rfl rfl rfl rfl ?_
 refine L.storePtr shape22 hF rfl rfl rfl rfl rfl rfl rfl ?_
 refine L.le (τ := mkSt [(1, one (Cell.ptr 0 0)), (2, one (Cell.ptr 1 0)), (3, one (Cell.ptr 2 0))] [(3, ⟨1, List.map eI r1⟩), (4, ⟨1, List.map eI r2⟩)] [(0, (bTlaws_Config g0 g1 g2 g3 a0)), (1, [Cell.nil, Cell.nil, Cell.nil, Cell.nil, cI (0 : Int)]), (2, [Cell.own 3, Cell.own 4, Cell.nil, Cell.nil, cI (0 : Int)])] 5) (Le.mk [(0, 0), (1, 1), (2, 2), (3, 3), (4, 4)] hm rfl (Sa2 (Sa1 trivial)) (Ra2 trivial) (Ba2 (Ba1 trivial))) (L.nil ?_)
 refine WpC.seq (WpC.regionL ?_)
 refine L.fieldAddr Tryz.underlying25 rfl info23 rfl hF rfl rfl rfl rfl rfl ?_
 refine L.loadPtr shape23 hF rfl rfl rfl rfl rfl rfl ?_
 obtain ⟨r3, hr3, H⟩ := bindS H
 refine L.call [false] [] [] 5 hF rfl rfl rfl ent57 rfl rfl rfl rfl rfl (Flaws_toPairS_gives k g2 a0.Links r3 hr3) rfl ?_
 refine L.fieldAddr Tryz.underlying44 rfl info42 rfl hF rfl rfl rfl rfl rfl ?_
 refine L.storePtr shape42 hF rfl rfl rfl rfl rfl rfl rfl ?_
 refine L.le (τ := mkSt [(1, one (Cell.ptr 0 0)), (2, one (Cell.ptr 1 0)), (3, one (Cell.ptr 2 0))] [(3, ⟨1, List.map eI r1⟩), (4, ⟨1, List.map eI r2⟩), (5, ⟨2, List.map eTimpl_Pair r3⟩)] [(0, (bTlaws_Config g0 g1 g2 g3 a0)), (1, [Cell.nil, Cell.nil, Cell.nil, Cell.nil, cI (0 : Int)]), (2, [Cell.own 3, Cell.own 4, Cell.own 5, Cell.nil, cI (0 : Int)])] 6) (Le.mk [(0, 0), (1, 1), (2, 2), (3, 3), (4, 4), (5, 5)] hm rfl (Sa2 (Sa1 trivial)) (Ra2 (Ra1 trivial)) (Ba2 (Ba1 trivial))) (L.nil ?_)
 refine WpC.seq (WpC.regionL ?_)
 refine L.fieldAddr Tryz.underlying25 rfl info23 rfl hF rfl rfl rfl rfl rfl ?_
 refine L.loadPtr shape23 hF rfl rfl rfl rfl rfl rfl ?_
 obtain ⟨r4, hr4, H⟩ := bindS H
 refine L.call [false] [] [] 6 hF rfl rfl rfl ent57 rfl rfl rfl rfl rfl (Flaws_toPairS_gives k g3 a0.Proxy r4 hr4) rfl ?_
 refine L.fieldAddr Tryz.underlying44 rfl info42 rfl hF rfl rfl rfl rfl rfl ?_
 refine L.storePtr shape42 hF rfl rfl rfl rfl rfl rfl rfl ?_
 refine L.le (τ := mkSt [(1, one (Cell.ptr 0 0)), (2, one (Cell.ptr 1 0)), (3, one (Cell.ptr 2 0))] [(3, ⟨1, List.map eI r1⟩), (4, ⟨1, List.map eI r2⟩), (5, ⟨2, List.map eTimpl_Pair r3⟩), (6, ⟨2, List.map eTimpl_Pair r4⟩)] [(0, (bTlaws_Config g0 g1 g2 g3 a0)), (1, [Cell.nil, Cell.nil, Cell.nil, Cell.nil, cI (0 : Int)]), (2, [Cell.own 3, Cell.own 4, Cell.own 5, Cell.own 6, cI (0 : Int)])] 7) (Le.mk [(0, 0), (1, 1), (2, 2), (3, 3), (4, 4), (5, 5), (6, 6)] hm rfl (Sa2 (Sa1 trivial)) (Ra4 trivial) (Ba2 (Ba1 trivial))) (L.nil ?_)
 refine WpC.seq (WpC.regionL ?_)
 refine L.fieldAddr Tryz.underlying25 rfl info3 rfl hF rfl rfl rfl rfl rfl ?_
 refine L.loadPtr shape3 hF rfl rfl rfl rfl rfl rfl ?_
 refine L.fieldAddr Tryz.underlying44 rfl info3 rfl hF rfl rfl rfl rfl rfl ?_
 refine L.storePtr shape3 hF rfl rfl rfl rfl rfl rfl rfl ?_
 refine L.le (τ := mkSt [(2, one (Cell.ptr 0 0)), (3, one (Cell.ptr 1 0))] [(2, ⟨1, List.map eI r1⟩), (3, ⟨1, List.map eI r2⟩), (4, ⟨2, List.map eTimpl_Pair r3⟩), (5, ⟨2, List.map eTimpl_Pair r4⟩)] [(0, [Cell.nil, Cell.nil, Cell.nil, Cell.nil, cI (0 : Int)]), (1, [Cell.own 2, Cell.own 3, Cell.own 4, Cell.own 5, cI a0.Skew])] 6) (Le.mk [(0, 1), (1, 2), (2, 3), (3, 4), (4, 5), (5, 6)] hm rfl (Sa2 trivial) (Ra4 trivial) (Ba2 trivial)) (L.nil ?_)
 refine WpC.seq (WpC.regionL ?_)
 refine L.loadPtr shape44 hF rfl rfl rfl rfl rfl rfl ?_
 refine L.storePtr shape44 hF rfl rfl rfl rfl rfl rfl rfl ?_
 refine L.le (τ := mkSt [(2, one (Cell.ptr 0 0))] [(1, ⟨1, List.map eI r1⟩), (2, ⟨1, List.map eI r2⟩), (3, ⟨2, List.map eTimpl_Pair r3⟩), (4, ⟨2, List.map eTimpl_Pair r4⟩)] [(0, [Cell.own 1, Cell.own 2, Cell.own 3, Cell.own 4, cI a0.Skew])] 5) (Le.mk [(0, 0), (1, 2), (2, 3), (3, 4), (4, 5)] hm rfl (Sa1 trivial) (Ra4 trivial) (Ba1 trivial)) (L.nil ?_)
 refine WpC.ret ?_
 cases H
 exact Leaves.ret rfl rfl rfl ⟨rfl, rfl⟩
/-! ### Flaws_toStringS -/
def Flaws_toStringS.l2 : Nat → (List (List UInt8)) → (List (List UInt8)) → Int → Option (List (List UInt8))
 | 0, _, _, _ => none
 | k2 + 1, v35, v36, v37 => cond (decide (v37 < (v35.length : Int))) ((at? v35 v37).bind fun b40 => (at? v36 v37).bind fun b41 => (Flaws_toStringS.l2 k2) v35 (v36.set v37.toNat b40) (IntKind.i64.wrap (v37 + (1 : Int)))) (some v36)
def Flaws_toStringS (k : Nat) (a0 : List (List UInt8)) : Option (List (List UInt8)) := cond (decide (0 ≤ (a0.length : Int) ∧ (a0.length : Int) ≤ (a0.length : Int) ∧ 16 * (a0.length : Int) ≤ 281474976710656 ∧ (a0.length : Int) ≤ 9223372036854775807)) (Flaws_toStringS.l2 k a0 (List.replicate (a0.length : Int).toNat ([] : List UInt8)) (0 : Int)) none
theorem ent105 : MG.Enters Tryz.prog 105 := ⟨Tryz.f105, Tryz.func105, rfl, by decide⟩
set_option maxHeartbeats 8000000 in
set_option maxRecDepth 100000 in
theorem Flaws_toStringS_gives (k : Nat) (g0 : Bool) (a0 : List (List UInt8)) (r : List (List UInt8)) (H : Flaws_toStringS k a0 = some r) : Gives Tryz.prog 105 [V.one (Cell.sl g0 (List.map eS a0))] [] [V.one (Cell.ow 1 (List.map eS r))] [] := by
 refine Gives.intro Tryz.func105 rfl rfl rfl rfl ?_
 intro F hF hm
 unfold Flaws_toStringS at H
 obtain ⟨K, hK⟩ : ∃ K, k ≤ K := ⟨k, Nat.le_refl k⟩
 refine WpC.seq (WpC.regionL ?_)
 refine L.assign hF rfl rfl rfl (L.nil ?_)
 refine WpC.seq (WpC.regionL ?_)
 refine L.move hF rfl rfl rfl ?_
 refine L.lenR (xs := a0) (e := eS) Tryz.underlying61 hF rfl rfl rfl rfl ?_
 obtain ⟨h1, H⟩ := condG H
 refine L.makeSlice (e := eS) 1 ([] : List UInt8) Tryz.underlying61 info9 rfl rfl rfl hF rfl rfl rfl rfl (of_decide_eq_true h1) rfl rfl ?_
 refine L.assign hF rfl rfl rfl (L.nil ?_)
 refine WpC.seq (WpC.seq (WpC.regionL ?_))
 refine L.assign hF rfl rfl rfl (L.nil ?_)
 refine WpC.block ?_
 refine WpC.loopL (P := Tryz.prog) (fun n σ => ∃ v35 : List (List UInt8), ∃ v36 : List (List UInt8), ∃ v37 : Int, n ≤ K ∧ Flaws_toStringS.l2 n v35 v36 v37 = some r ∧ σ = mkSt [(0, one (Cell.sl g0 (List.map eS v35))), (3, one (Cell.own 0)), (4, one (cI v37))] [(0, ⟨1, List.map eS v36⟩)] [] 1) k ⟨_, ⟨a0, (List.replicate (a0.length : Int).toNat ([] : List UInt8)), (0 : Int), by omega, H, rfl⟩, Le.mk [(0, 1)] hm rfl (Sa2 (Sa1 trivial)) (Ra1 trivial) trivial⟩ ?_
 clear H
 rintro k2 _ ⟨v35, v36, v37, hk2, H, rfl⟩
 cases k2 with
 | zero => cases H
 | succ k2 =>
  rw [Flaws_toStringS.l2] at H
  refine WpC.seq (WpC.seq (WpC.regionL ?_))
  refine L.move hF rfl rfl rfl ?_
  refine L.move hF rfl rfl rfl ?_
  refine L.lenR (xs := v35) (e := eS) Tryz.underlying61 hF rfl rfl rfl rfl ?_
  refine L.bin hF rfl rfl rfl rfl rfl rfl (L.nil ?_)
  refine WpC.cond rfl (fun hc => ?_) (fun hc => ?_)
  ·replace H := condT hc H
   refine WpC.skip (WpC.seq (WpC.block (WpC.regionL ?_)))
   refine L.move hF rfl rfl rfl ?_
   refine L.move hF rfl rfl rfl ?_
   refine L.move hF rfl rfl rfl ?_
   refine L.move hF rfl rfl rfl ?_
   obtain ⟨b40, hb40, H⟩ := bindS H
   refine L.idxR (xs := v35) (e := eS) Tryz.underlying61 info9 hF rfl rfl rfl rfl rfl hb40 rfl rfl ?_
   refine L.loadPe shape9 hF rfl rfl rfl rfl rfl ?_
   obtain ⟨b41, hb41, H⟩ := bindS H
   refine L.idxR (xs := v36) (e := eS) Tryz.underlying61 info9 hF rfl rfl rfl rfl rfl hb41 rfl rfl ?_
   refine L.storeEp (xs := v36) (e := eS) (a' := b40) shape9 hF rfl rfl rfl rfl rfl rfl rfl (at?_get hb41).2 rfl rfl ?_
   refine L.nil ?_
   refine WpC.regionL ?_
   refine L.move hF rfl rfl rfl ?_
   refine L.bin hF rfl rfl rfl rfl rfl rfl ?_
   refine L.assign hF rfl rfl rfl (L.nil ?_)
   exact ⟨k2, _, by omega, ⟨v35, (v36.set v37.toNat b40), (IntKind.i64.wrap (v37 + (1 : Int))), by omega, H, rfl⟩, Le.mk [(0, 0)] hm rfl (Sa2 (Sa1 trivial)) (Ra1 trivial) trivial⟩
  ·replace H := condF hc H
   refine WpC.exit (WpC.seq (WpC.regionL ?_))
   refine L.move hF rfl rfl rfl ?_
   refine L.assign hF rfl rfl rfl (L.nil ?_)
   refine WpC.ret ?_
   cases H
   exact Leaves.ret rfl rfl rfl ⟨rfl, rfl⟩
/-! ### Flaws_toKnown -/
def Flaws_toKnown (k : Nat) (a0 : Tlaws_Known) : Option Timpl_Known := (Flaws_toStringS k a0.Terms).bind fun r1 => (Flaws_toIntS k a0.Keys).bind fun r2 => some (⟨r1, r2⟩ : Timpl_Known)
theorem ent106 : MG.Enters Tryz.prog 106 := ⟨Tryz.f106, Tryz.func106, rfl, by decide⟩
set_option maxHeartbeats 8000000 in
set_option maxRecDepth 100000 in
theorem Flaws_toKnown_gives (k : Nat) (g0 : Bool) (g1 : Bool) (a0 : Tlaws_Known) (r : Timpl_Known) (H : Flaws_toKnown k a0 = some r) : Gives Tryz.prog 106 [V.agg [Cell.sl g0 (List.map eS a0.Terms), Cell.sl g1 (List.map eI a0.Keys)]] [] [V.agg [Cell.ow 1 (List.map eS r.Terms), Cell.ow 1 (List.map eI r.Keys)]] [] := by
 refine Gives.intro Tryz.func106 rfl rfl rfl rfl ?_
 intro F hF hm
 unfold Flaws_toKnown at H
 obtain ⟨K, hK⟩ : ∃ K, k ≤ K := ⟨k, Nat.le_refl k⟩
 refine WpC.seq (WpC.regionL ?_)
 refine L.box 2 hF rfl rfl rfl rfl ?_
 refine L.alloc 3 info73 rfl hF rfl rfl rfl rfl (L.nil ?_)
 refine WpC.seq (WpC.regionL ?_)
 refine L.alloc 4 info73 rfl hF rfl rfl rfl rfl (L.nil ?_)
 refine WpC.seq (WpC.regionL ?_)
 refine L.fieldAddr Tryz.underlying63 rfl info61 rfl hF rfl rfl rfl rfl rfl ?_
 refine L.loadPtr shape61 hF rfl rfl rfl rfl rfl rfl ?_
 obtain ⟨r1, hr1, H⟩ := bindS H
 refine L.call [false] [] [] 5 hF rfl rfl rfl ent105 rfl rfl rfl rfl rfl (Flaws_toStringS_gives k g0 a0.Terms r1 hr1) rfl ?_
 refine L.fieldAddr Tryz.underlying73 rfl info61 rfl hF rfl rfl rfl rfl rfl ?_
 refine L.storePtr shape61 hF rfl rfl rfl rfl rfl rfl rfl (L.nil ?_)
 refine WpC.seq (WpC.regionL ?_)
 refine L.fieldAddr Tryz.underlying63 rfl info22 rfl hF rfl rfl rfl rfl rfl ?_
 refine L.loadPtr shape22 hF rfl rfl rfl rfl rfl rfl ?_
 obtain ⟨r2, hr2, H⟩ := bindS H
 refine L.call [false] [] [] 6 hF rfl rfl rfl ent56 rfl rfl rfl rfl rfl (Flaws_toIntS_gives k g1 a0.Keys r2 hr2) rfl ?_
 refine L.fieldAddr Tryz.underlying73 rfl info22 rfl hF rfl rfl rfl rfl rfl ?_
 refine L.storePtr shape22 hF rfl rfl rfl rfl rfl rfl rfl (L.nil ?_)
 refine WpC.seq (WpC.regionL ?_)
 refine L.loadPtr shape73 hF rfl rfl rfl rfl rfl rfl ?_
 refine L.storePtr shape73 hF rfl rfl rfl rfl rfl rfl rfl (L.nil ?_)
 refine WpC.ret ?_
 cases H
 exact Leaves.ret rfl rfl rfl ⟨rfl, rfl⟩
/-! ### Flaws_toWait -/
def Flaws_toWait (k : Nat) (a0 : Tlaws_Wait) : Option Timpl_Wait := some (⟨a0.On, a0.Nonce, a0.Key, a0.Client⟩ : Timpl_Wait)
theorem ent185 : MG.Enters Tryz.prog 185 := ⟨Tryz.f185, Tryz.func185, rfl, by decide⟩
set_option maxHeartbeats 8000000 in
set_option maxRecDepth 100000 in
theorem Flaws_toWait_gives (k : Nat) (a0 : Tlaws_Wait) (r : Timpl_Wait) (H : Flaws_toWait k a0 = some r) : Gives Tryz.prog 185 [V.agg [cL a0.On, cI a0.Nonce, cI a0.Key, cI a0.Client]] [] [V.agg [cL r.On, cI r.Nonce, cI r.Key, cI r.Client]] [] := by
 refine Gives.intro Tryz.func185 rfl rfl rfl rfl ?_
 intro F hF hm
 unfold Flaws_toWait at H
 obtain ⟨K, hK⟩ : ∃ K, k ≤ K := ⟨k, Nat.le_refl k⟩
 refine WpC.seq (WpC.regionL ?_)
 refine L.box 4 hF rfl rfl rfl rfl ?_
 refine L.alloc 5 info159 rfl hF rfl rfl rfl rfl ?_
 refine L.le (τ := mkSt [(1, one (Cell.ptr 0 0)), (2, one (Cell.ptr 1 0))] [] [(0, (bTlaws_Wait a0)), (1, [cL false, cI (0 : Int), cI (0 : Int), cI (0 : Int)])] 2) (Le.mk [(0, 4), (1, 5)] hm rfl (Sa2 trivial) trivial (Ba2 trivial)) (L.nil ?_)
 refine WpC.seq (WpC.regionL ?_)
 refine L.alloc 2 info159 rfl hF rfl rfl rfl rfl ?_
 refine L.le (τ := mkSt [(1, one (Cell.ptr 0 0)), (2, one (Cell.ptr 1 0)), (3, one (Cell.ptr 2 0))] [] [(0, (bTlaws_Wait a0)), (1, [cL false, cI (0 : Int), cI (0 : Int), cI (0 : Int)]), (2, [cL false, cI (0 : Int), cI (0 : Int), cI (0 : Int)])] 3) (Le.mk [(0, 0), (1, 1), (2, 2)] hm rfl (Sa2 (Sa1 trivial)) trivial (Ba2 (Ba1 trivial))) (L.nil ?_)
 refine WpC.seq (WpC.regionL ?_)
 refine L.fieldAddr Tryz.underlying231 rfl info4 rfl hF rfl rfl rfl rfl rfl ?_
 refine L.loadPtr shape4 hF rfl rfl rfl rfl rfl rfl ?_
 refine L.fieldAddr Tryz.underlying159 rfl info4 rfl hF rfl rfl rfl rfl rfl ?_
 refine L.storePtr shape4 hF rfl rfl rfl rfl rfl rfl rfl ?_
 refine L.le (τ := mkSt [(1, one (Cell.ptr 0 0)), (2, one (Cell.ptr 1 0)), (3, one (Cell.ptr 2 0))] [] [(0, (bTlaws_Wait a0)), (1, [cL false, cI (0 : Int), cI (0 : Int), cI (0 : Int)]), (2, [cL a0.On, cI (0 : Int), cI (0 : Int), cI (0 : Int)])] 3) (Le.mk [(0, 0), (1, 1), (2, 2)] hm rfl (Sa2 (Sa1 trivial)) trivial (Ba2 (Ba1 trivial))) (L.nil ?_)
 refine WpC.seq (WpC.regionL ?_)
 refine L.fieldAddr Tryz.underlying231 rfl info3 rfl hF rfl rfl rfl rfl rfl ?_
 refine L.loadPtr shape3 hF rfl rfl rfl rfl rfl rfl ?_
 refine L.fieldAddr Tryz.underlying159 rfl info3 rfl hF rfl rfl rfl rfl rfl ?_
 refine L.storePtr shape3 hF rfl rfl rfl rfl rfl rfl rfl ?_
 refine L.le (τ := mkSt [(1, one (Cell.ptr 0 0)), (2, one (Cell.ptr 1 0)), (3, one (Cell.ptr 2 0))] [] [(0, (bTlaws_Wait a0)), (1, [cL false, cI (0 : Int), cI (0 : Int), cI (0 : Int)]), (2, [cL a0.On, cI a0.Nonce, cI (0 : Int), cI (0 : Int)])] 3) (Le.mk [(0, 0), (1, 1), (2, 2)] hm rfl (Sa2 (Sa1 trivial)) trivial (Ba2 (Ba1 trivial))) (L.nil ?_)
 refine WpC.seq (WpC.regionL ?_)
 refine L.fieldAddr Tryz.underlying231 rfl info3 rfl hF rfl rfl rfl rfl rfl ?_
 refine L.loadPtr shape3 hF rfl rfl rfl rfl rfl rfl ?_
 refine L.fieldAddr Tryz.underlying159 rfl info3 rfl hF rfl rfl rfl rfl rfl ?_
 refine L.storePtr shape3 hF rfl rfl rfl rfl rfl rfl rfl ?_
 refine L.le (τ := mkSt [(1, one (Cell.ptr 0 0)), (2, one (Cell.ptr 1 0)), (3, one (Cell.ptr 2 0))] [] [(0, (bTlaws_Wait a0)), (1, [cL false, cI (0 : Int), cI (0 : Int), cI (0 : Int)]), (2, [cL a0.On, cI a0.Nonce, cI a0.Key, cI (0 : Int)])] 3) (Le.mk [(0, 0), (1, 1), (2, 2)] hm rfl (Sa2 (Sa1 trivial)) trivial (Ba2 (Ba1 trivial))) (L.nil ?_)
 refine WpC.seq (WpC.regionL ?_)
 refine L.fieldAddr Tryz.underlying231 rfl info3 rfl hF rfl rfl rfl rfl rfl ?_
 refine L.loadPtr shape3 hF rfl rfl rfl rfl rfl rfl ?_
 refine L.fieldAddr Tryz.underlying159 rfl info3 rfl hF rfl rfl rfl rfl rfl ?_
 refine L.storePtr shape3 hF rfl rfl rfl rfl rfl rfl rfl ?_
 refine L.le (τ := mkSt [(2, one (Cell.ptr 0 0)), (3, one (Cell.ptr 1 0))] [] [(0, [cL false, cI (0 : Int), cI (0 : Int), cI (0 : Int)]), (1, [cL a0.On, cI a0.Nonce, cI a0.Key, cI a0.Client])] 2) (Le.mk [(0, 1), (1, 2)] hm rfl (Sa2 trivial) trivial (Ba2 trivial)) (L.nil ?_)
 refine WpC.seq (WpC.regionL ?_)
 refine L.loadPtr shape159 hF rfl rfl rfl rfl rfl rfl ?_
 refine L.storePtr shape159 hF rfl rfl rfl rfl rfl rfl rfl ?_
 refine L.le (τ := mkSt [(2, one (Cell.ptr 0 0))] [] [(0, [cL a0.On, cI a0.Nonce, cI a0.Key, cI a0.Client])] 1) (Le.mk [(0, 0)] hm rfl (Sa1 trivial) trivial (Ba1 trivial)) (L.nil ?_)
 refine WpC.ret ?_
 cases H
 exact Leaves.ret rfl rfl rfl ⟨rfl, rfl⟩
/-! ### Flaws_toWaitS -/
def Flaws_toWaitS.l2 : Nat → (List Tlaws_Wait) → (List Timpl_Wait) → Int → Option (List Timpl_Wait)
 | 0, _, _, _ => none
 | k2 + 1, v45, v46, v47 => cond (decide (v47 < (v45.length : Int))) ((at? v45 v47).bind fun b51 => (Flaws_toWait k2 b51).bind fun r52 => (at? v46 v47).bind fun b53 => (Flaws_toWaitS.l2 k2) v45 (v46.set v47.toNat r52) (IntKind.i64.wrap (v47 + (1 : Int)))) (some v46)
def Flaws_toWaitS (k : Nat) (a0 : List Tlaws_Wait) : Option (List Timpl_Wait) := cond (decide (0 ≤ (a0.length : Int) ∧ (a0.length : Int) ≤ (a0.length : Int) ∧ 32 * (a0.length : Int) ≤ 281474976710656 ∧ (a0.length : Int) ≤ 9223372036854775807)) (Flaws_toWaitS.l2 k a0 (List.replicate (a0.length : Int).toNat (⟨false, (0 : Int), (0 : Int), (0 : Int)⟩ : Timpl_Wait)) (0 : Int)) none
theorem ent107 : MG.Enters Tryz.prog 107 := ⟨Tryz.f107, Tryz.func107, rfl, by decide⟩
set_option maxHeartbeats 8000000 in
set_option maxRecDepth 100000 in
theorem Flaws_toWaitS_gives (k : Nat) (g0 : Bool) (a0 : List Tlaws_Wait) (r : List Timpl_Wait) (H : Flaws_toWaitS k a0 = some r) : Gives Tryz.prog 107 [V.one (Cell.sl g0 (List.map eTlaws_Wait a0))] [] [V.one (Cell.ow 4 (List.map eTimpl_Wait r))] [] := by
 refine Gives.intro Tryz.func107 rfl rfl rfl rfl ?_
 intro F hF hm
 unfold Flaws_toWaitS at H
 obtain ⟨K, hK⟩ : ∃ K, k ≤ K := ⟨k, Nat.le_refl k⟩
 refine WpC.seq (WpC.regionL ?_)
 refine L.assign hF rfl rfl rfl (L.nil ?_)
 refine WpC.seq (WpC.regionL ?_)
 refine L.move hF rfl rfl rfl ?_
 refine L.lenR (xs := a0) (e := eTlaws_Wait) Tryz.underlying64 hF rfl rfl rfl rfl ?_
 obtain ⟨h1, H⟩ := condG H
 refine L.makeSlice (e := eTimpl_Wait) 1 (⟨false, (0 : Int), (0 : Int), (0 : Int)⟩ : Timpl_Wait) Tryz.underlying74 info159 rfl rfl rfl hF rfl rfl rfl rfl (of_decide_eq_true h1) rfl rfl ?_
 refine L.assign hF rfl rfl rfl (L.nil ?_)
 refine WpC.seq (WpC.seq (WpC.regionL ?_))
 refine L.assign hF rfl rfl rfl (L.nil ?_)
 refine WpC.block ?_
 refine WpC.loopL (P := Tryz.prog) (fun n σ => ∃ v45 : List Tlaws_Wait, ∃ v46 : List Timpl_Wait, ∃ v47 : Int, n ≤ K ∧ Flaws_toWaitS.l2 n v45 v46 v47 = some r ∧ σ = mkSt [(0, one (Cell.sl g0 (List.map eTlaws_Wait v45))), (3, one (Cell.own 0)), (4, one (cI v47))] [(0, ⟨4, List.map eTimpl_Wait v46⟩)] [] 1) k ⟨_, ⟨a0, (List.replicate (a0.length : Int).toNat (⟨false, (0 : Int), (0 : Int), (0 : Int)⟩ : Timpl_Wait)), (0 : Int), by omega, H, rfl⟩, Le.mk [(0, 1)] hm rfl (Sa2 (Sa1 trivial)) (Ra1 trivial) trivial⟩ ?_
 clear H
 rintro k2 _ ⟨v45, v46, v47, hk2, H, rfl⟩
 cases k2 with
 | zero => cases H
 | succ k2 =>
  rw [Flaws_toWaitS.l2] at H
  refine WpC.seq (WpC.seq (WpC.regionL ?_))
  refine L.move hF rfl rfl rfl ?_
  refine L.move hF rfl rfl rfl ?_
  refine L.lenR (xs := v45) (e := eTlaws_Wait) Tryz.underlying64 hF rfl rfl rfl rfl ?_
  refine L.bin hF rfl rfl rfl rfl rfl rfl (L.nil ?_)
  refine WpC.cond rfl (fun hc => ?_) (fun hc => ?_)
  ·replace H := condT hc H
   refine WpC.skip (WpC.seq (WpC.block (WpC.regionL ?_)))
   refine L.move hF rfl rfl rfl ?_
   refine L.move hF rfl rfl rfl ?_
   refine L.move hF rfl rfl rfl ?_
   refine L.move hF rfl rfl rfl ?_
   obtain ⟨b51, hb51, H⟩ := bindS H
   refine L.idxR (xs := v45) (e := eTlaws_Wait) Tryz.underlying64 info231 hF rfl rfl rfl rfl rfl hb51 rfl rfl ?_
   refine L.loadPe shape231 hF rfl rfl rfl rfl rfl ?_
   obtain ⟨r52, hr52, H⟩ := bindS H
   refine L.call [false] [] [] 1 hF rfl rfl rfl ent185 rfl rfl rfl rfl rfl (Flaws_toWait_gives k2  b51 r52 hr52) rfl ?_
   obtain ⟨b53, hb53, H⟩ := bindS H
   refine L.idxR (xs := v46) (e := eTimpl_Wait) Tryz.underlying74 info159 hF rfl rfl rfl rfl rfl hb53 rfl rfl ?_
   refine L.storeEp (xs := v46) (e := eTimpl_Wait) (a' := r52) shape159 hF rfl rfl rfl rfl rfl rfl rfl (at?_get hb53).2 rfl rfl ?_
   refine L.nil ?_
   refine WpC.regionL ?_
   refine L.move hF rfl rfl rfl ?_
   refine L.bin hF rfl rfl rfl rfl rfl rfl ?_
   refine L.assign hF rfl rfl rfl (L.nil ?_)
   exact ⟨k2, _, by omega, ⟨v45, (v46.set v47.toNat r52), (IntKind.i64.wrap (v47 + (1 : Int))), by omega, H, rfl⟩, Le.mk [(0, 0)] hm rfl (Sa2 (Sa1 trivial)) (Ra1 trivial) trivial⟩
  ·replace H := condF hc H
   refine WpC.exit (WpC.seq (WpC.regionL ?_))
   refine L.move hF rfl rfl rfl ?_
   refine L.assign hF rfl rfl rfl (L.nil ?_)
   refine WpC.ret ?_
   cases H
   exact Leaves.ret rfl rfl rfl ⟨rfl, rfl⟩
/-! ### Flaws_toRest -/
def Flaws_toRest (k : Nat) (a0 : Tlaws_Rest) : Option Timpl_Rest := some (⟨a0.Servers, a0.Ops, a0.End⟩ : Timpl_Rest)
theorem ent235 : MG.Enters Tryz.prog 235 := ⟨Tryz.f235, Tryz.func235, rfl, by decide⟩
set_option maxHeartbeats 8000000 in
set_option maxRecDepth 100000 in
theorem Flaws_toRest_gives (k : Nat) (a0 : Tlaws_Rest) (r : Timpl_Rest) (H : Flaws_toRest k a0 = some r) : Gives Tryz.prog 235 [V.agg [cI a0.Servers, cI a0.Ops, cI a0.End]] [] [V.agg [cI r.Servers, cI r.Ops, cI r.End]] [] := by
 refine Gives.intro Tryz.func235 rfl rfl rfl rfl ?_
 intro F hF hm
 unfold Flaws_toRest at H
 obtain ⟨K, hK⟩ : ∃ K, k ≤ K := ⟨k, Nat.le_refl k⟩
 refine WpC.seq (WpC.regionL ?_)
 refine L.box 3 hF rfl rfl rfl rfl ?_
 refine L.alloc 4 info37 rfl hF rfl rfl rfl rfl (L.nil ?_)
 refine WpC.seq (WpC.regionL ?_)
 refine L.alloc 5 info37 rfl hF rfl rfl rfl rfl (L.nil ?_)
 refine WpC.seq (WpC.regionL ?_)
 refine L.fieldAddr Tryz.underlying223 rfl info3 rfl hF rfl rfl rfl rfl rfl ?_
 refine L.loadPtr shape3 hF rfl rfl rfl rfl rfl rfl ?_
 refine L.fieldAddr Tryz.underlying37 rfl info3 rfl hF rfl rfl rfl rfl rfl ?_
 refine L.storePtr shape3 hF rfl rfl rfl rfl rfl rfl rfl (L.nil ?_)
 refine WpC.seq (WpC.regionL ?_)
 refine L.fieldAddr Tryz.underlying223 rfl info3 rfl hF rfl rfl rfl rfl rfl ?_
 refine L.loadPtr shape3 hF rfl rfl rfl rfl rfl rfl ?_
 refine L.fieldAddr Tryz.underlying37 rfl info3 rfl hF rfl rfl rfl rfl rfl ?_
 refine L.storePtr shape3 hF rfl rfl rfl rfl rfl rfl rfl (L.nil ?_)
 refine WpC.seq (WpC.regionL ?_)
 refine L.fieldAddr Tryz.underlying223 rfl info3 rfl hF rfl rfl rfl rfl rfl ?_
 refine L.loadPtr shape3 hF rfl rfl rfl rfl rfl rfl ?_
 refine L.fieldAddr Tryz.underlying37 rfl info3 rfl hF rfl rfl rfl rfl rfl ?_
 refine L.storePtr shape3 hF rfl rfl rfl rfl rfl rfl rfl (L.nil ?_)
 refine WpC.seq (WpC.regionL ?_)
 refine L.loadPtr shape37 hF rfl rfl rfl rfl rfl rfl ?_
 refine L.storePtr shape37 hF rfl rfl rfl rfl rfl rfl rfl (L.nil ?_)
 refine WpC.ret ?_
 cases H
 exact Leaves.ret rfl rfl rfl ⟨rfl, rfl⟩
/-! ### Flaws_toCred -/
def Flaws_toCred (k : Nat) (a0 : Tlaws_Cred) : Option Timpl_Cred := (Flaws_toRest k (⟨a0.Rest.Servers, a0.Rest.Ops, a0.Rest.End⟩ : Tlaws_Rest)).bind fun r1 => some (⟨a0.Owner, a0.Client, a0.Service, a0.Key, r1, a0.Ticket⟩ : Timpl_Cred)
theorem ent186 : MG.Enters Tryz.prog 186 := ⟨Tryz.f186, Tryz.func186, rfl, by decide⟩
set_option maxHeartbeats 8000000 in
set_option maxRecDepth 100000 in
theorem Flaws_toCred_gives (k : Nat) (a0 : Tlaws_Cred) (r : Timpl_Cred) (H : Flaws_toCred k a0 = some r) : Gives Tryz.prog 186 [V.agg [cI a0.Owner, cI a0.Client, cI a0.Service, cI a0.Key, cI a0.Rest.Servers, cI a0.Rest.Ops, cI a0.Rest.End, cS a0.Ticket]] [] [V.agg [cI r.Owner, cI r.Client, cI r.Service, cI r.Key, cI r.Rest.Servers, cI r.Rest.Ops, cI r.Rest.End, cS r.Ticket]] [] := by
 refine Gives.intro Tryz.func186 rfl rfl rfl rfl ?_
 intro F hF hm
 unfold Flaws_toCred at H
 obtain ⟨K, hK⟩ : ∃ K, k ≤ K := ⟨k, Nat.le_refl k⟩
 refine WpC.seq (WpC.regionL ?_)
 refine L.box 8 hF rfl rfl rfl rfl ?_
 refine L.alloc 9 info142 rfl hF rfl rfl rfl rfl ?_
 refine L.le (τ := mkSt [(1, one (Cell.ptr 0 0)), (2, one (Cell.ptr 1 0))] [] [(0, (bTlaws_Cred a0)), (1, [cI (0 : Int), cI (0 : Int), cI (0 : Int), cI (0 : Int), cI (0 : Int), cI (0 : Int), cI (0 : Int), cS ([] : List UInt8)])] 2) (Le.mk [(0, 8), (1, 9)] hm rfl (Sa2 trivial) trivial (Ba2 trivial)) (L.nil ?_)
 refine WpC.seq (WpC.regionL ?_)
 refine L.alloc 2 info142 rfl hF rfl rfl rfl rfl ?_
 refine L.le (τ := mkSt [(1, one (Cell.ptr 0 0)), (2, one (Cell.ptr 1 0)), (3, one (Cell.ptr 2 0))] [] [(0, (bTlaws_Cred a0)), (1, [cI (0 : Int), cI (0 : Int), cI (0 : Int), cI (0 : Int), cI (0 : Int), cI (0 : Int), cI (0 : Int), cS ([] : List UInt8)]), (2, [cI (0 : Int), cI (0 : Int), cI (0 : Int), cI (0 : Int), cI (0 : Int), cI (0 : Int), cI (0 : Int), cS ([] : List UInt8)])] 3) (Le.mk [(0, 0), (1, 1), (2, 2)] hm rfl (Sa2 (Sa1 trivial)) trivial (Ba2 (Ba1 trivial))) (L.nil ?_)
 refine WpC.seq (WpC.regionL ?_)
 refine L.fieldAddr Tryz.underlying225 rfl info3 rfl hF rfl rfl rfl rfl rfl ?_
 refine L.loadPtr shape3 hF rfl rfl rfl rfl rfl rfl ?_
 refine L.fieldAddr Tryz.underlying142 rfl info3 rfl hF rfl rfl rfl rfl rfl ?_
 refine L.storePtr shape3 hF rfl rfl rfl rfl rfl rfl rfl ?_
 refine L.le (τ := mkSt [(1, one (Cell.ptr 0 0)), (2, one (Cell.ptr 1 0)), (3, one (Cell.ptr 2 0))] [] [(0, (bTlaws_Cred a0)), (1, [cI (0 : Int), cI (0 : Int), cI (0 : Int), cI (0 : Int), cI (0 : Int), cI (0 : Int), cI (0 : Int), cS ([] : List UInt8)]), (2, [cI a0.Owner, cI (0 : Int), cI (0 : Int), cI (0 : Int), cI (0 : Int), cI (0 : Int), cI (0 : Int), cS ([] : List UInt8)])] 3) (Le.mk [(0, 0), (1, 1), (2, 2)] hm rfl (Sa2 (Sa1 trivial)) trivial (Ba2 (Ba1 trivial))) (L.nil ?_)
 refine WpC.seq (WpC.regionL ?_)
 refine L.fieldAddr Tryz.underlying225 rfl info3 rfl hF rfl rfl rfl rfl rfl ?_
 refine L.loadPtr shape3 hF rfl rfl rfl rfl rfl rfl ?_
 refine L.fieldAddr Tryz.underlying142 rfl info3 rfl hF rfl rfl rfl rfl rfl ?_
 refine L.storePtr shape3 hF rfl rfl rfl rfl rfl rfl rfl ?_
 refine L.le (τ := mkSt [(1, one (Cell.ptr 0 0)), (2, one (Cell.ptr 1 0)), (3, one (Cell.ptr 2 0))] [] [(0, (bTlaws_Cred a0)), (1, [cI (0 : Int), cI (0 : Int), cI (0 : Int), cI (0 : Int), cI (0 : Int), cI (0 : Int), cI (0 : Int), cS ([] : List UInt8)]), (2, [cI a0.Owner, cI a0.Client, cI (0 : Int), cI (0 : Int), cI (0 : Int), cI (0 : Int), cI (0 : Int), cS ([] : List UInt8)])] 3) (Le.mk [(0, 0), (1, 1), (2, 2)] hm rfl (Sa2 (Sa1 trivial)) trivial (Ba2 (Ba1 trivial))) (L.nil ?_)
 refine WpC.seq (WpC.regionL ?_)
 refine L.fieldAddr Tryz.underlying225 rfl info3 rfl hF rfl rfl rfl rfl rfl ?_
 refine L.loadPtr shape3 hF rfl rfl rfl rfl rfl rfl ?_
 refine L.fieldAddr Tryz.underlying142 rfl info3 rfl hF rfl rfl rfl rfl rfl ?_
 refine L.storePtr shape3 hF rfl rfl rfl rfl rfl rfl rfl ?_
 refine L.le (τ := mkSt [(1, one (Cell.ptr 0 0)), (2, one (Cell.ptr 1 0)), (3, one (Cell.ptr 2 0))] [] [(0, (bTlaws_Cred a0)), (1, [cI (0 : Int), cI (0 : Int), cI (0 : Int), cI (0 : Int), cI (0 : Int), cI (0 : Int), cI (0 : Int), cS ([] : List UInt8)]), (2, [cI a0.Owner, cI a0.Client, cI a0.Service, cI (0 : Int), cI (0 : Int), cI (0 : Int), cI (0 : Int), cS ([] : List UInt8)])] 3) (Le.mk [(0, 0), (1, 1), (2, 2)] hm rfl (Sa2 (Sa1 trivial)) trivial (Ba2 (Ba1 trivial))) (L.nil ?_)
 refine WpC.seq (WpC.regionL ?_)
 refine L.fieldAddr Tryz.underlying225 rfl info3 rfl hF rfl rfl rfl rfl rfl ?_
 refine L.loadPtr shape3 hF rfl rfl rfl rfl rfl rfl ?_
 refine L.fieldAddr Tryz.underlying142 rfl info3 rfl hF rfl rfl rfl rfl rfl ?_
 refine L.storePtr shape3 hF rfl rfl rfl rfl rfl rfl rfl ?_
 refine L.le (τ := mkSt [(1, one (Cell.ptr 0 0)), (2, one (Cell.ptr 1 0)), (3, one (Cell.ptr 2 0))] [] [(0, (bTlaws_Cred a0)), (1, [cI (0 : Int), cI (0 : Int), cI (0 : Int), cI (0 : Int), cI (0 : Int), cI (0 : Int), cI (0 : Int), cS ([] : List UInt8)]), (2, [cI a0.Owner, cI a0.Client, cI a0.Service, cI a0.Key, cI (0 : Int), cI (0 : Int), cI (0 : Int), cS ([] : List UInt8)])] 3) (Le.mk [(0, 0), (1, 1), (2, 2)] hm rfl (Sa2 (Sa1 trivial)) trivial (Ba2 (Ba1 trivial))) (L.nil ?_)
 refine WpC.seq (WpC.regionL ?_)
 refine L.fieldAddr Tryz.underlying225 rfl info223 rfl hF rfl rfl rfl rfl rfl ?_
 refine L.loadPtr shape223 hF rfl rfl rfl rfl rfl rfl ?_
 obtain ⟨r1, hr1, H⟩ := bindS H
 refine L.call [false] [] [] 3 hF rfl rfl rfl ent235 rfl rfl rfl rfl rfl (Flaws_toRest_gives k  (⟨a0.Rest.Servers, a0.Rest.Ops, a0.Rest.End⟩ : Tlaws_Rest) r1 hr1) rfl ?_
 refine L.fieldAddr Tryz.underlying142 rfl info37 rfl hF rfl rfl rfl rfl rfl ?_
 refine L.storePtr shape37 hF rfl rfl rfl rfl rfl rfl rfl ?_
 refine L.le (τ := mkSt [(1, one (Cell.ptr 0 0)), (2, one (Cell.ptr 1 0)), (3, one (Cell.ptr 2 0))] [] [(0, (bTlaws_Cred a0)), (1, [cI (0 : Int), cI (0 : Int), cI (0 : Int), cI (0 : Int), cI (0 : Int), cI (0 : Int), cI (0 : Int), cS ([] : List UInt8)]), (2, [cI a0.Owner, cI a0.Client, cI a0.Service, cI a0.Key, cI r1.Servers, cI r1.Ops, cI r1.End, cS ([] : List UInt8)])] 3) (Le.mk [(0, 0), (1, 1), (2, 2)] hm rfl (Sa2 (Sa1 trivial)) trivial (Ba2 (Ba1 trivial))) (L.nil ?_)
 refine WpC.seq (WpC.regionL ?_)
 refine L.fieldAddr Tryz.underlying225 rfl info9 rfl hF rfl rfl rfl rfl rfl ?_
 refine L.loadPtr shape9 hF rfl rfl rfl rfl rfl rfl ?_
 refine L.fieldAddr Tryz.underlying142 rfl info9 rfl hF rfl rfl rfl rfl rfl ?_
 refine L.storePtr shape9 hF rfl rfl rfl rfl rfl rfl rfl ?_
 refine L.le (τ := mkSt [(2, one (Cell.ptr 0 0)), (3, one (Cell.ptr 1 0))] [] [(0, [cI (0 : Int), cI (0 : Int), cI (0 : Int), cI (0 : Int), cI (0 : Int), cI (0 : Int), cI (0 : Int), cS ([] : List UInt8)]), (1, [cI a0.Owner, cI a0.Client, cI a0.Service, cI a0.Key, cI r1.Servers, cI r1.Ops, cI r1.End, cS a0.Ticket])] 2) (Le.mk [(0, 1), (1, 2)] hm rfl (Sa2 trivial) trivial (Ba2 trivial)) (L.nil ?_)
 refine WpC.seq (WpC.regionL ?_)
 refine L.loadPtr shape142 hF rfl rfl rfl rfl rfl rfl ?_
 refine L.storePtr shape142 hF rfl rfl rfl rfl rfl rfl rfl ?_
 refine L.le (τ := mkSt [(2, one (Cell.ptr 0 0))] [] [(0, [cI a0.Owner, cI a0.Client, cI a0.Service, cI a0.Key, cI r1.Servers, cI r1.Ops, cI r1.End, cS a0.Ticket])] 1) (Le.mk [(0, 0)] hm rfl (Sa1 trivial) trivial (Ba1 trivial)) (L.nil ?_)
 refine WpC.ret ?_
 cases H
 exact Leaves.ret rfl rfl rfl ⟨rfl, rfl⟩
/-! ### Flaws_toCredS -/
def Flaws_toCredS.l2 : Nat → (List Tlaws_Cred) → (List Timpl_Cred) → Int → Option (List Timpl_Cred)
 | 0, _, _, _ => none
 | k2 + 1, v45, v46, v47 => cond (decide (v47 < (v45.length : Int))) ((at? v45 v47).bind fun b51 => (Flaws_toCred k2 b51).bind fun r52 => (at? v46 v47).bind fun b53 => (Flaws_toCredS.l2 k2) v45 (v46.set v47.toNat r52) (IntKind.i64.wrap (v47 + (1 : Int)))) (some v46)
def Flaws_toCredS (k : Nat) (a0 : List Tlaws_Cred) : Option (List Timpl_Cred) := cond (decide (0 ≤ (a0.length : Int) ∧ (a0.length : Int) ≤ (a0.length : Int) ∧ 72 * (a0.length : Int) ≤ 281474976710656 ∧ (a0.length : Int) ≤ 9223372036854775807)) (Flaws_toCredS.l2 k a0 (List.replicate (a0.length : Int).toNat (⟨(0 : Int), (0 : Int), (0 : Int), (0 : Int), (⟨(0 : Int), (0 : Int), (0 : Int)⟩ : Timpl_Rest), ([] : List UInt8)⟩ : Timpl_Cred)) (0 : Int)) none
theorem ent108 : MG.Enters Tryz.prog 108 := ⟨Tryz.f108, Tryz.func108, rfl, by decide⟩
set_option maxHeartbeats 8000000 in
set_option maxRecDepth 100000 in
theorem Flaws_toCredS_gives (k : Nat) (g0 : Bool) (a0 : List Tlaws_Cred) (r : List Timpl_Cred) (H : Flaws_toCredS k a0 = some r) : Gives Tryz.prog 108 [V.one (Cell.sl g0 (List.map eTlaws_Cred a0))] [] [V.one (Cell.ow 8 (List.map eTimpl_Cred r))] [] := by
 refine Gives.intro Tryz.func108 rfl rfl rfl rfl ?_
 intro F hF hm
 unfold Flaws_toCredS at H
 obtain ⟨K, hK⟩ : ∃ K, k ≤ K := ⟨k, Nat.le_refl k⟩
 refine WpC.seq (WpC.regionL ?_)
 refine L.assign hF rfl rfl rfl (L.nil ?_)
 refine WpC.seq (WpC.regionL ?_)
 refine L.move hF rfl rfl rfl ?_
 refine L.lenR (xs := a0) (e := eTlaws_Cred) Tryz.underlying65 hF rfl rfl rfl rfl ?_
 obtain ⟨h1, H⟩ := condG H
 refine L.makeSlice (e := eTimpl_Cred) 1 (⟨(0 : Int), (0 : Int), (0 : Int), (0 : Int), (⟨(0 : Int), (0 : Int), (0 : Int)⟩ : Timpl_Rest), ([] : List UInt8)⟩ : Timpl_Cred) Tryz.underlying75 info142 rfl rfl rfl hF rfl rfl rfl rfl (of_decide_eq_true h1) rfl rfl ?_
 refine L.assign hF rfl rfl rfl (L.nil ?_)
 refine WpC.seq (WpC.seq (WpC.regionL ?_))
 refine L.assign hF rfl rfl rfl (L.nil ?_)
 refine WpC.block ?_
 refine WpC.loopL (P := Tryz.prog) (fun n σ => ∃ v45 : List Tlaws_Cred, ∃ v46 : List Timpl_Cred, ∃ v47 : Int, n ≤ K ∧ Flaws_toCredS.l2 n v45 v46 v47 = some r ∧ σ = mkSt [(0, one (Cell.sl g0 (List.map eTlaws_Cred v45))), (3, one (Cell.own 0)), (4, one (cI v47))] [(0, ⟨8, List.map eTimpl_Cred v46⟩)] [] 1) k ⟨_, ⟨a0, (List.replicate (a0.length : Int).toNat (⟨(0 : Int), (0 : Int), (0 : Int), (0 : Int), (⟨(0 : Int), (0 : Int), (0 : Int)⟩ : Timpl_Rest), ([] : List UInt8)⟩ : Timpl_Cred)), (0 : Int), by omega, H, rfl⟩, Le.mk [(0, 1)] hm rfl (Sa2 (Sa1 trivial)) (Ra1 trivial) trivial⟩ ?_
 clear H
 rintro k2 _ ⟨v45, v46, v47, hk2, H, rfl⟩
 cases k2 with
 | zero => cases H
 | succ k2 =>
  rw [Flaws_toCredS.l2] at H
  refine WpC.seq (WpC.seq (WpC.regionL ?_))
  refine L.move hF rfl rfl rfl ?_
  refine L.move hF rfl rfl rfl ?_
  refine L.lenR (xs := v45) (e := eTlaws_Cred) Tryz.underlying65 hF rfl rfl rfl rfl ?_
  refine L.bin hF rfl rfl rfl rfl rfl rfl (L.nil ?_)
  refine WpC.cond rfl (fun hc => ?_) (fun hc => ?_)
  ·replace H := condT hc H
   refine WpC.skip (WpC.seq (WpC.block (WpC.regionL ?_)))
   refine L.move hF rfl rfl rfl ?_
   refine L.move hF rfl rfl rfl ?_
   refine L.move hF rfl rfl rfl ?_
   refine L.move hF rfl rfl rfl ?_
   obtain ⟨b51, hb51, H⟩ := bindS H
   refine L.idxR (xs := v45) (e := eTlaws_Cred) Tryz.underlying65 info225 hF rfl rfl rfl rfl rfl hb51 rfl rfl ?_
   refine L.loadPe shape225 hF rfl rfl rfl rfl rfl ?_
   obtain ⟨r52, hr52, H⟩ := bindS H
   refine L.call [false] [] [] 1 hF rfl rfl rfl ent186 rfl rfl rfl rfl rfl (Flaws_toCred_gives k2  b51 r52 hr52) rfl ?_
   obtain ⟨b53, hb53, H⟩ := bindS H
   refine L.idxR (xs := v46) (e := eTimpl_Cred) Tryz.underlying75 info142 hF rfl rfl rfl rfl rfl hb53 rfl rfl ?_
   refine L.storeEp (xs := v46) (e := eTimpl_Cred) (a' := r52) shape142 hF rfl rfl rfl rfl rfl rfl rfl (at?_get hb53).2 rfl rfl ?_
   refine L.nil ?_
   refine WpC.regionL ?_
   refine L.move hF rfl rfl rfl ?_
   refine L.bin hF rfl rfl rfl rfl rfl rfl ?_
   refine L.assign hF rfl rfl rfl (L.nil ?_)
   exact ⟨k2, _, by omega, ⟨v45, (v46.set v47.toNat r52), (IntKind.i64.wrap (v47 + (1 : Int))), by omega, H, rfl⟩, Le.mk [(0, 0)] hm rfl (Sa2 (Sa1 trivial)) (Ra1 trivial) trivial⟩
  ·replace H := condF hc H
   refine WpC.exit (WpC.seq (WpC.regionL ?_))
   refine L.move hF rfl rfl rfl ?_
   refine L.assign hF rfl rfl rfl (L.nil ?_)
   refine WpC.ret ?_
   cases H
   exact Leaves.ret rfl rfl rfl ⟨rfl, rfl⟩
/-! ### Flaws_toAuth -/
def Flaws_toAuth (k : Nat) (a0 : Tlaws_Auth) : Option Timpl_Auth := some (⟨a0.Client, a0.Time, a0.Seq⟩ : Timpl_Auth)
theorem ent153 : MG.Enters Tryz.prog 153 := ⟨Tryz.f153, Tryz.func153, rfl, by decide⟩
set_option maxHeartbeats 8000000 in
set_option maxRecDepth 100000 in
theorem Flaws_toAuth_gives (k : Nat) (a0 : Tlaws_Auth) (r : Timpl_Auth) (H : Flaws_toAuth k a0 = some r) : Gives Tryz.prog 153 [V.agg [cI a0.Client, cI a0.Time, cI a0.Seq]] [] [V.agg [cI r.Client, cI r.Time, cI r.Seq]] [] := by
 refine Gives.intro Tryz.func153 rfl rfl rfl rfl ?_
 intro F hF hm
 unfold Flaws_toAuth at H
 obtain ⟨K, hK⟩ : ∃ K, k ≤ K := ⟨k, Nat.le_refl k⟩
 refine WpC.seq (WpC.regionL ?_)
 refine L.box 3 hF rfl rfl rfl rfl ?_
 refine L.alloc 4 info35 rfl hF rfl rfl rfl rfl (L.nil ?_)
 refine WpC.seq (WpC.regionL ?_)
 refine L.alloc 5 info35 rfl hF rfl rfl rfl rfl (L.nil ?_)
 refine WpC.seq (WpC.regionL ?_)
 refine L.fieldAddr Tryz.underlying203 rfl info3 rfl hF rfl rfl rfl rfl rfl ?_
 refine L.loadPtr shape3 hF rfl rfl rfl rfl rfl rfl ?_
 refine L.fieldAddr Tryz.underlying35 rfl info3 rfl hF rfl rfl rfl rfl rfl ?_
 refine L.storePtr shape3 hF rfl rfl rfl rfl rfl rfl rfl (L.nil ?_)
 refine WpC.seq (WpC.regionL ?_)
 refine L.fieldAddr Tryz.underlying203 rfl info3 rfl hF rfl rfl rfl rfl rfl ?_
 refine L.loadPtr shape3 hF rfl rfl rfl rfl rfl rfl ?_
 refine L.fieldAddr Tryz.underlying35 rfl info3 rfl hF rfl rfl rfl rfl rfl ?_
 refine L.storePtr shape3 hF rfl rfl rfl rfl rfl rfl rfl (L.nil ?_)
 refine WpC.seq (WpC.regionL ?_)
 refine L.fieldAddr Tryz.underlying203 rfl info3 rfl hF rfl rfl rfl rfl rfl ?_
 refine L.loadPtr shape3 hF rfl rfl rfl rfl rfl rfl ?_
 refine L.fieldAddr Tryz.underlying35 rfl info3 rfl hF rfl rfl rfl rfl rfl ?_
 refine L.storePtr shape3 hF rfl rfl rfl rfl rfl rfl rfl (L.nil ?_)
 refine WpC.seq (WpC.regionL ?_)
 refine L.loadPtr shape35 hF rfl rfl rfl rfl rfl rfl ?_
 refine L.storePtr shape35 hF rfl rfl rfl rfl rfl rfl rfl (L.nil ?_)
 refine WpC.ret ?_
 cases H
 exact Leaves.ret rfl rfl rfl ⟨rfl, rfl⟩
/-! ### Flaws_toAuthS -/
def Flaws_toAuthS.l2 : Nat → (List Tlaws_Auth) → (List Timpl_Auth) → Int → Option (List Timpl_Auth)
 | 0, _, _, _ => none
 | k2 + 1, v45, v46, v47 => cond (decide (v47 < (v45.length : Int))) ((at? v45 v47).bind fun b51 => (Flaws_toAuth k2 b51).bind fun r52 => (at? v46 v47).bind fun b53 => (Flaws_toAuthS.l2 k2) v45 (v46.set v47.toNat r52) (IntKind.i64.wrap (v47 + (1 : Int)))) (some v46)
def Flaws_toAuthS (k : Nat) (a0 : List Tlaws_Auth) : Option (List Timpl_Auth) := cond (decide (0 ≤ (a0.length : Int) ∧ (a0.length : Int) ≤ (a0.length : Int) ∧ 24 * (a0.length : Int) ≤ 281474976710656 ∧ (a0.length : Int) ≤ 9223372036854775807)) (Flaws_toAuthS.l2 k a0 (List.replicate (a0.length : Int).toNat (⟨(0 : Int), (0 : Int), (0 : Int)⟩ : Timpl_Auth)) (0 : Int)) none
theorem ent58 : MG.Enters Tryz.prog 58 := ⟨Tryz.f58, Tryz.func58, rfl, by decide⟩
set_option maxHeartbeats 8000000 in
set_option maxRecDepth 100000 in
theorem Flaws_toAuthS_gives (k : Nat) (g0 : Bool) (a0 : List Tlaws_Auth) (r : List Timpl_Auth) (H : Flaws_toAuthS k a0 = some r) : Gives Tryz.prog 58 [V.one (Cell.sl g0 (List.map eTlaws_Auth a0))] [] [V.one (Cell.ow 3 (List.map eTimpl_Auth r))] [] := by
 refine Gives.intro Tryz.func58 rfl rfl rfl rfl ?_
 intro F hF hm
 unfold Flaws_toAuthS at H
 obtain ⟨K, hK⟩ : ∃ K, k ≤ K := ⟨k, Nat.le_refl k⟩
 refine WpC.seq (WpC.regionL ?_)
 refine L.assign hF rfl rfl rfl (L.nil ?_)
 refine WpC.seq (WpC.regionL ?_)
 refine L.move hF rfl rfl rfl ?_
 refine L.lenR (xs := a0) (e := eTlaws_Auth) Tryz.underlying26 hF rfl rfl rfl rfl ?_
 obtain ⟨h1, H⟩ := condG H
 refine L.makeSlice (e := eTimpl_Auth) 1 (⟨(0 : Int), (0 : Int), (0 : Int)⟩ : Timpl_Auth) Tryz.underlying31 info35 rfl rfl rfl hF rfl rfl rfl rfl (of_decide_eq_true h1) rfl rfl ?_
 refine L.assign hF rfl rfl rfl (L.nil ?_)
 refine WpC.seq (WpC.seq (WpC.regionL ?_))
 refine L.assign hF rfl rfl rfl (L.nil ?_)
 refine WpC.block ?_
 refine WpC.loopL (P := Tryz.prog) (fun n σ => ∃ v45 : List Tlaws_Auth, ∃ v46 : List Timpl_Auth, ∃ v47 : Int, n ≤ K ∧ Flaws_toAuthS.l2 n v45 v46 v47 = some r ∧ σ = mkSt [(0, one (Cell.sl g0 (List.map eTlaws_Auth v45))), (3, one (Cell.own 0)), (4, one (cI v47))] [(0, ⟨3, List.map eTimpl_Auth v46⟩)] [] 1) k ⟨_, ⟨a0, (List.replicate (a0.length : Int).toNat (⟨(0 : Int), (0 : Int), (0 : Int)⟩ : Timpl_Auth)), (0 : Int), by omega, H, rfl⟩, Le.mk [(0, 1)] hm rfl (Sa2 (Sa1 trivial)) (Ra1 trivial) trivial⟩ ?_
 clear H
 rintro k2 _ ⟨v45, v46, v47, hk2, H, rfl⟩
 cases k2 with
 | zero => cases H
 | succ k2 =>
  rw [Flaws_toAuthS.l2] at H
  refine WpC.seq (WpC.seq (WpC.regionL ?_))
  refine L.move hF rfl rfl rfl ?_
  refine L.move hF rfl rfl rfl ?_
  refine L.lenR (xs := v45) (e := eTlaws_Auth) Tryz.underlying26 hF rfl rfl rfl rfl ?_
  refine L.bin hF rfl rfl rfl rfl rfl rfl (L.nil ?_)
  refine WpC.cond rfl (fun hc => ?_) (fun hc => ?_)
  ·replace H := condT hc H
   refine WpC.skip (WpC.seq (WpC.block (WpC.regionL ?_)))
   refine L.move hF rfl rfl rfl ?_
   refine L.move hF rfl rfl rfl ?_
   refine L.move hF rfl rfl rfl ?_
   refine L.move hF rfl rfl rfl ?_
   obtain ⟨b51, hb51, H⟩ := bindS H
   refine L.idxR (xs := v45) (e := eTlaws_Auth) Tryz.underlying26 info203 hF rfl rfl rfl rfl rfl hb51 rfl rfl ?_
   refine L.loadPe shape203 hF rfl rfl rfl rfl rfl ?_
   obtain ⟨r52, hr52, H⟩ := bindS H
   refine L.call [false] [] [] 1 hF rfl rfl rfl ent153 rfl rfl rfl rfl rfl (Flaws_toAuth_gives k2  b51 r52 hr52) rfl ?_
   obtain ⟨b53, hb53, H⟩ := bindS H
   refine L.idxR (xs := v46) (e := eTimpl_Auth) Tryz.underlying31 info35 hF rfl rfl rfl rfl rfl hb53 rfl rfl ?_
   refine L.storeEp (xs := v46) (e := eTimpl_Auth) (a' := r52) shape35 hF rfl rfl rfl rfl rfl rfl rfl (at?_get hb53).2 rfl rfl ?_
   refine L.nil ?_
   refine WpC.regionL ?_
   refine L.move hF rfl rfl rfl ?_
   refine L.bin hF rfl rfl rfl rfl rfl rfl ?_
   refine L.assign hF rfl rfl rfl (L.nil ?_)
   exact ⟨k2, _, by omega, ⟨v45, (v46.set v47.toNat r52), (IntKind.i64.wrap (v47 + (1 : Int))), by omega, H, rfl⟩, Le.mk [(0, 0)] hm rfl (Sa2 (Sa1 trivial)) (Ra1 trivial) trivial⟩
  ·replace H := condF hc H
   refine WpC.exit (WpC.seq (WpC.regionL ?_))
   refine L.move hF rfl rfl rfl ?_
   refine L.assign hF rfl rfl rfl (L.nil ?_)
   refine WpC.ret ?_
   cases H
   exact Leaves.ret rfl rfl rfl ⟨rfl, rfl⟩
/-! ### Flaws_toCache -/
def Flaws_toCache (k : Nat) (a0 : Tlaws_Cache) : Option Timpl_Cache := (Flaws_toAuthS k a0.Seen).bind fun r1 => some (⟨a0.Quiet, r1⟩ : Timpl_Cache)
theorem ent13 : MG.Enters Tryz.prog 13 := ⟨Tryz.f13, Tryz.func13, rfl, by decide⟩
set_option maxHeartbeats 8000000 in
set_option maxRecDepth 100000 in
theorem Flaws_toCache_gives (k : Nat) (g0 : Bool) (a0 : Tlaws_Cache) (r : Timpl_Cache) (H : Flaws_toCache k a0 = some r) : Gives Tryz.prog 13 [V.agg [cI a0.Quiet, Cell.sl g0 (List.map eTlaws_Auth a0.Seen)]] [] [V.agg [cI r.Quiet, Cell.ow 3 (List.map eTimpl_Auth r.Seen)]] [] := by
 refine Gives.intro Tryz.func13 rfl rfl rfl rfl ?_
 intro F hF hm
 unfold Flaws_toCache at H
 obtain ⟨K, hK⟩ : ∃ K, k ≤ K := ⟨k, Nat.le_refl k⟩
 refine WpC.seq (WpC.regionL ?_)
 refine L.box 2 hF rfl rfl rfl rfl ?_
 refine L.alloc 3 info33 rfl hF rfl rfl rfl rfl ?_
 refine L.le (τ := mkSt [(1, one (Cell.ptr 0 0)), (2, one (Cell.ptr 1 0))] [] [(0, [cI a0.Quiet, Cell.sl g0 (List.map eTlaws_Auth a0.Seen)]), (1, [cI (0 : Int), Cell.nil])] 2) (Le.mk [(0, 2), (1, 3)] hm rfl (Sa2 trivial) trivial (Ba2 trivial)) (L.nil ?_)
 refine WpC.seq (WpC.regionL ?_)
 refine L.alloc 2 info33 rfl hF rfl rfl rfl rfl ?_
 refine L.le (τ := mkSt [(1, one (Cell.ptr 0 0)), (2, one (Cell.ptr 1 0)), (3, one (Cell.ptr 2 0))] [] [(0, [cI a0.Quiet, Cell.sl g0 (List.map eTlaws_Auth a0.Seen)]), (1, [cI (0 : Int), Cell.nil]), (2, [cI (0 : Int), Cell.nil])] 3) (Le.mk [(0, 0), (1, 1), (2, 2)] hm rfl (Sa2 (Sa1 trivial)) trivial (Ba2 (Ba1 trivial))) (L.nil ?_)
 refine WpC.seq (WpC.regionL ?_)
 refine L.fieldAddr Tryz.underlying28 rfl info3 rfl hF rfl rfl rfl rfl rfl ?_
 refine L.loadPtr shape3 hF rfl rfl rfl rfl rfl rfl ?_
 refine L.fieldAddr Tryz.underlying33 rfl info3 rfl hF rfl rfl rfl rfl rfl ?_
 refine L.storePtr shape3 hF rfl rfl rfl rfl rfl rfl rfl ?_
 refine L.le (τ := mkSt [(1, one (Cell.ptr 0 0)), (2, one (Cell.ptr 1 0)), (3, one (Cell.ptr 2 0))] [] [(0, [cI a0.Quiet, Cell.sl g0 (List.map eTlaws_Auth a0.Seen)]), (1, [cI (0 : Int), Cell.nil]), (2, [cI a0.Quiet, Cell.nil])] 3) (Le.mk [(0, 0), (1, 1), (2, 2)] hm rfl (Sa2 (Sa1 trivial)) trivial (Ba2 (Ba1 trivial))) (L.nil ?_)
 refine WpC.seq (WpC.regionL ?_)
 refine L.fieldAddr Tryz.underlying28 rfl info26 rfl hF rfl rfl rfl rfl rfl ?_
 refine L.loadPtr shape26 hF rfl rfl rfl rfl rfl rfl ?_
 obtain ⟨r1, hr1, H⟩ := bindS H
 refine L.call [false] [] [] 3 hF rfl rfl rfl ent58 rfl rfl rfl rfl rfl (Flaws_toAuthS_gives k g0 a0.Seen r1 hr1) rfl ?_
 refine L.fieldAddr Tryz.underlying33 rfl info31 rfl hF rfl rfl rfl rfl rfl ?_
 refine L.storePtr shape31 hF rfl rfl rfl rfl rfl rfl rfl ?_
 refine L.le (τ := mkSt [(2, one (Cell.ptr 0 0)), (3, one (Cell.ptr 1 0))] [(2, ⟨3, List.map eTimpl_Auth r1⟩)] [(0, [cI (0 : Int), Cell.nil]), (1, [cI a0.Quiet, Cell.own 2])] 3) (Le.mk [(0, 1), (1, 2), (2, 3)] hm rfl (Sa2 trivial) (Ra1 trivial) (Ba2 trivial)) (L.nil ?_)
 refine WpC.seq (WpC.regionL ?_)
 refine L.loadPtr shape33 hF rfl rfl rfl rfl rfl rfl ?_
 refine L.storePtr shape33 hF rfl rfl rfl rfl rfl rfl rfl ?_
 refine L.le (τ := mkSt [(2, one (Cell.ptr 0 0))] [(1, ⟨3, List.map eTimpl_Auth r1⟩)] [(0, [cI a0.Quiet, Cell.own 1])] 2) (Le.mk [(0, 0), (1, 2)] hm rfl (Sa1 trivial) (Ra1 trivial) (Ba1 trivial)) (L.nil ?_)
 refine WpC.ret ?_
 cases H
 exact Leaves.ret rfl rfl rfl ⟨rfl, rfl⟩
/-! ### Flaws_toCacheS -/
def Flaws_toCacheS.l2 : Nat → (List Tlaws_Cache) → (List Timpl_Cache) → Int → Option (List Timpl_Cache)
 | 0, _, _, _ => none
 | k2 + 1, v45, v46, v47 => cond (decide (v47 < (v45.length : Int))) ((at? v45 v47).bind fun b51 => (Flaws_toCache k2 b51).bind fun r52 => (at? v46 v47).bind fun b53 => (Flaws_toCacheS.l2 k2) v45 (v46.set v47.toNat r52) (IntKind.i64.wrap (v47 + (1 : Int)))) (some v46)
def Flaws_toCacheS (k : Nat) (a0 : List Tlaws_Cache) : Option (List Timpl_Cache) := cond (decide (0 ≤ (a0.length : Int) ∧ (a0.length : Int) ≤ (a0.length : Int) ∧ 32 * (a0.length : Int) ≤ 281474976710656 ∧ (a0.length : Int) ≤ 9223372036854775807)) (Flaws_toCacheS.l2 k a0 (List.replicate (a0.length : Int).toNat (⟨(0 : Int), []⟩ : Timpl_Cache)) (0 : Int)) none
theorem ent109 : MG.Enters Tryz.prog 109 := ⟨Tryz.f109, Tryz.func109, rfl, by decide⟩
set_option maxHeartbeats 8000000 in
set_option maxRecDepth 100000 in
theorem Flaws_toCacheS_gives (k : Nat) (g0 : Bool) (a0 : List Tlaws_Cache) (r : List Timpl_Cache) (H : Flaws_toCacheS k a0 = some r) : Gives Tryz.prog 109 [V.one (Cell.sl g0 (List.map eTlaws_Cache a0))] [] [V.one (Cell.ow 2 (List.map eTimpl_Cache r))] [] := by
 refine Gives.intro Tryz.func109 rfl rfl rfl rfl ?_
 intro F hF hm
 unfold Flaws_toCacheS at H
 obtain ⟨K, hK⟩ : ∃ K, k ≤ K := ⟨k, Nat.le_refl k⟩
 refine WpC.seq (WpC.regionL ?_)
 refine L.assign hF rfl rfl rfl (L.nil ?_)
 refine WpC.seq (WpC.regionL ?_)
 refine L.move hF rfl rfl rfl ?_
 refine L.lenR (xs := a0) (e := eTlaws_Cache) Tryz.underlying66 hF rfl rfl rfl rfl ?_
 obtain ⟨h1, H⟩ := condG H
 refine L.makeSliceN (e := eTimpl_Cache) 1 (⟨(0 : Int), []⟩ : Timpl_Cache) Tryz.underlying76 info33 rfl rfl rfl hF rfl rfl rfl rfl (of_decide_eq_true h1) rfl rfl ⟨rfl, rfl⟩ ?_
 refine L.assign hF rfl rfl rfl (L.nil ?_)
 refine WpC.seq (WpC.seq (WpC.regionL ?_))
 refine L.assign hF rfl rfl rfl (L.nil ?_)
 refine WpC.block ?_
 refine WpC.loopL (P := Tryz.prog) (fun n σ => ∃ v45 : List Tlaws_Cache, ∃ v46 : List Timpl_Cache, ∃ v47 : Int, n ≤ K ∧ Flaws_toCacheS.l2 n v45 v46 v47 = some r ∧ σ = mkSt [(0, one (Cell.sl g0 (List.map eTlaws_Cache v45))), (3, one (Cell.own 0)), (4, one (cI v47))] [(0, ⟨2, List.map eTimpl_Cache v46⟩)] [] 1) k ⟨_, ⟨a0, (List.replicate (a0.length : Int).toNat (⟨(0 : Int), []⟩ : Timpl_Cache)), (0 : Int), by omega, H, rfl⟩, Le.mk [(0, 1)] hm rfl (Sa2 (Sa1 trivial)) (Ra1 trivial) trivial⟩ ?_
 clear H
 rintro k2 _ ⟨v45, v46, v47, hk2, H, rfl⟩
 cases k2 with
 | zero => cases H
 | succ k2 =>
  rw [Flaws_toCacheS.l2] at H
  refine WpC.seq (WpC.seq (WpC.regionL ?_))
  refine L.move hF rfl rfl rfl ?_
  refine L.move hF rfl rfl rfl ?_
  refine L.lenR (xs := v45) (e := eTlaws_Cache) Tryz.underlying66 hF rfl rfl rfl rfl ?_
  refine L.bin hF rfl rfl rfl rfl rfl rfl (L.nil ?_)
  refine WpC.cond rfl (fun hc => ?_) (fun hc => ?_)
  ·replace H := condT hc H
   refine WpC.skip (WpC.seq (WpC.block (WpC.regionL ?_)))
   refine L.move hF rfl rfl rfl ?_
   refine L.move hF rfl rfl rfl ?_
   refine L.move hF rfl rfl rfl ?_
   refine L.move hF rfl rfl rfl ?_
   obtain ⟨b51, hb51, H⟩ := bindS H
   refine L.idxR (xs := v45) (e := eTlaws_Cache) Tryz.underlying66 info28 hF rfl rfl rfl rfl rfl hb51 rfl rfl ?_
   refine L.loadPe shape28 hF rfl rfl rfl rfl rfl ?_
   obtain ⟨r52, hr52, H⟩ := bindS H
   refine L.call [false] [] [] 1 hF rfl rfl rfl ent13 rfl rfl rfl rfl rfl (Flaws_toCache_gives k2 true b51 r52 hr52) rfl ?_
   obtain ⟨b53, hb53, H⟩ := bindS H
   refine L.idxR (xs := v46) (e := eTimpl_Cache) Tryz.underlying76 info33 hF rfl rfl rfl rfl rfl hb53 rfl rfl ?_
   refine L.storeEpN (xs := v46) (e := eTimpl_Cache) (a' := r52) 3 shape33 hF rfl rfl rfl rfl rfl rfl rfl (at?_get hb53).2 rfl rfl ?_
   refine L.nil ?_
   refine WpC.regionL ?_
   refine L.move hF rfl rfl rfl ?_
   refine L.bin hF rfl rfl rfl rfl rfl rfl ?_
   refine L.assign hF rfl rfl rfl (L.nil ?_)
   exact ⟨k2, _, by omega, ⟨v45, (v46.set v47.toNat r52), (IntKind.i64.wrap (v47 + (1 : Int))), by omega, H, rfl⟩, Le.mk [(0, 0)] hm rfl (Sa2 (Sa1 trivial)) (Ra1 trivial) trivial⟩
  ·replace H := condF hc H
   refine WpC.exit (WpC.seq (WpC.regionL ?_))
   refine L.move hF rfl rfl rfl ?_
   refine L.assign hF rfl rfl rfl (L.nil ?_)
   refine WpC.ret ?_
   cases H
   exact Leaves.ret rfl rfl rfl ⟨rfl, rfl⟩
/-! ### Flaws_toEvent -/
def Flaws_toEvent (k : Nat) (a0 : Tlaws_Event) : Option Timpl_Event := (Flaws_toRest k (⟨a0.Rest.Servers, a0.Rest.Ops, a0.Rest.End⟩ : Tlaws_Rest)).bind fun r1 => some (⟨a0.Kind, a0.Realm, a0.By, a0.Client, a0.Service, a0.Key, a0.Parent, a0.Evid, r1⟩ : Timpl_Event)
theorem ent187 : MG.Enters Tryz.prog 187 := ⟨Tryz.f187, Tryz.func187, rfl, by decide⟩
set_option maxHeartbeats 8000000 in
set_option maxRecDepth 100000 in
theorem Flaws_toEvent_gives (k : Nat) (a0 : Tlaws_Event) (r : Timpl_Event) (H : Flaws_toEvent k a0 = some r) : Gives Tryz.prog 187 [V.agg [cI a0.Kind, cI a0.Realm, cI a0.By, cI a0.Client, cI a0.Service, cI a0.Key, cI a0.Parent, cI a0.Evid, cI a0.Rest.Servers, cI a0.Rest.Ops, cI a0.Rest.End]] [] [V.agg [cI r.Kind, cI r.Realm, cI r.By, cI r.Client, cI r.Service, cI r.Key, cI r.Parent, cI r.Evid, cI r.Rest.Servers, cI r.Rest.Ops, cI r.Rest.End]] [] := by
 refine Gives.intro Tryz.func187 rfl rfl rfl rfl ?_
 intro F hF hm
 unfold Flaws_toEvent at H
 obtain ⟨K, hK⟩ : ∃ K, k ≤ K := ⟨k, Nat.le_refl k⟩
 refine WpC.seq (WpC.regionL ?_)
 refine L.box 11 hF rfl rfl rfl rfl ?_
 refine L.alloc 12 info85 rfl hF rfl rfl rfl rfl ?_
 refine L.le (τ := mkSt [(1, one (Cell.ptr 0 0)), (2, one (Cell.ptr 1 0))] [] [(0, (bTlaws_Event a0)), (1, [cI (0 : Int), cI (0 : Int), cI (0 : Int), cI (0 : Int), cI (0 : Int), cI (0 : Int), cI (0 : Int), cI (0 : Int), cI (0 : Int), cI (0 : Int), cI (0 : Int)])] 2) (Le.mk [(0, 11), (1, 12)] hm rfl (Sa2 trivial) trivial (Ba2 trivial)) (L.nil ?_)
 refine WpC.seq (WpC.regionL ?_)
 refine L.alloc 2 info85 rfl hF rfl rfl rfl rfl ?_
 refine L.le (τ := mkSt [(1, one (Cell.ptr 0 0)), (2, one (Cell.ptr 1 0)), (3, one (Cell.ptr 2 0))] [] [(0, (bTlaws_Event a0)), (1, [cI (0 : Int), cI (0 : Int), cI (0 : Int), cI (0 : Int), cI (0 : Int), cI (0 : Int), cI (0 : Int), cI (0 : Int), cI (0 : Int), cI (0 : Int), cI (0 : Int)]), (2, [cI (0 : Int), cI (0 : Int), cI (0 : Int), cI (0 : Int), cI (0 : Int), cI (0 : Int), cI (0 : Int), cI (0 : Int), cI (0 : Int), cI (0 : Int), cI (0 : Int)])] 3) (Le.mk [(0, 0), (1, 1), (2, 2)] hm rfl (Sa2 (Sa1 trivial)) trivial (Ba2 (Ba1 trivial))) (L.nil ?_)
 refine WpC.seq (WpC.regionL ?_)
 refine L.fieldAddr Tryz.underlying235 rfl info3 rfl hF rfl rfl rfl rfl rfl ?_
 refine L.loadPtr shape3 hF rfl rfl rfl rfl rfl rfl ?_
 refine L.fieldAddr Tryz.underlying85 rfl info3 rfl hF rfl rfl rfl rfl rfl ?_
 refine L.storePtr shape3 hF rfl rfl rfl rfl rfl rfl rfl ?_
 refine L.le (τ := mkSt [(1, one (Cell.ptr 0 0)), (2, one (Cell.ptr 1 0)), (3, one (Cell.ptr 2 0))] [] [(0, (bTlaws_Event a0)), (1, [cI (0 : Int), cI (0 : Int), cI (0 : Int), cI (0 : Int), cI (0 : Int), cI (0 : Int), cI (0 : Int), cI (0 : Int), cI (0 : Int), cI (0 : Int), cI (0 : Int)]), (2, [cI a0.Kind, cI (0 : Int), cI (0 : Int), cI (0 : Int), cI (0 : Int), cI (0 : Int), cI (0 : Int), cI (0 : Int), cI (0 : Int), cI (0 : Int), cI (0 : Int)])] 3) (Le.mk [(0, 0), (1, 1), (2, 2)] hm rfl (Sa2 (Sa1 trivial)) trivial (Ba2 (Ba1 trivial))) (L.nil ?_)
 refine WpC.seq (WpC.regionL ?_)
 refine L.fieldAddr Tryz.underlying235 rfl info3 rfl hF rfl rfl rfl rfl rfl ?_
 refine L.loadPtr shape3 hF rfl rfl rfl rfl rfl rfl ?_
 refine L.fieldAddr Tryz.underlying85 rfl info3 rfl hF rfl rfl rfl rfl rfl ?_
 refine L.storePtr shape3 hF rfl rfl rfl rfl rfl rfl rfl ?_
 refine L.le (τ := mkSt [(1, one (Cell.ptr 0 0)), (2, one (Cell.ptr 1 0)), (3, one (Cell.ptr 2 0))] [] [(0, (bTlaws_Event a0)), (1, [cI (0 : Int), cI (0 : Int), cI (0 : Int), cI (0 : Int), cI (0 : Int), cI (0 : Int), cI (0 : Int), cI (0 : Int), cI (0 : Int), cI (0 : Int), cI (0 : Int)]), (2, [cI a0.Kind, cI a0.Realm, cI (0 : Int), cI (0 : Int), cI (0 : Int), cI (0 : Int), cI (0 : Int), cI (0 : Int), cI (0 : Int), cI (0 : Int), cI (0 : Int)])] 3) (Le.mk [(0, 0), (1, 1), (2, 2)] hm rfl (Sa2 (Sa1 trivial)) trivial (Ba2 (Ba1 trivial))) (L.nil ?_)
 refine WpC.seq (WpC.regionL ?_)
 refine L.fieldAddr Tryz.underlying235 rfl info3 rfl hF rfl rfl rfl rfl rfl ?_
 refine L.loadPtr shape3 hF rfl rfl rfl rfl rfl rfl ?_
 refine L.fieldAddr Tryz.underlying85 rfl info3 rfl hF rfl rfl rfl rfl rfl ?_
 refine L.storePtr shape3 hF rfl rfl rfl rfl rfl rfl rfl ?_
 refine L.le (τ := mkSt [(1, one (Cell.ptr 0 0)), (2, one (Cell.ptr 1 0)), (3, one (Cell.ptr 2 0))] [] [(0, (bTlaws_Event a0)), (1, [cI (0 : Int), cI (0 : Int), cI (0 : Int), cI (0 : Int), cI (0 : Int), cI (0 : Int), cI (0 : Int), cI (0 : Int), cI (0 : Int), cI (0 : Int), cI (0 : Int)]), (2, [cI a0.Kind, cI a0.Realm, cI a0.By, cI (0 : Int), cI (0 : Int), cI (0 : Int), cI (0 : Int), cI (0 : Int), cI (0 : Int), cI (0 : Int), cI (0 : Int)])] 3) (Le.mk [(0, 0), (1, 1), (2, 2)] hm rfl (Sa2 (Sa1 trivial)) trivial (Ba2 (Ba1 trivial))) (L.nil ?_)
 refine WpC.seq (WpC.regionL ?_)
 refine L.fieldAddr Tryz.underlying235 rfl info3 rfl hF rfl rfl rfl rfl rfl ?_
 refine L.loadPtr shape3 hF rfl rfl rfl rfl rfl rfl ?_
 refine L.fieldAddr Tryz.underlying85 rfl info3 rfl hF rfl rfl rfl rfl rfl ?_
 refine L.storePtr shape3 hF rfl rfl rfl rfl rfl rfl rfl ?_
 refine L.le (τ := mkSt [(1, one (Cell.ptr 0 0)), (2, one (Cell.ptr 1 0)), (3, one (Cell.ptr 2 0))] [] [(0, (bTlaws_Event a0)), (1, [cI (0 : Int), cI (0 : Int), cI (0 : Int), cI (0 : Int), cI (0 : Int), cI (0 : Int), cI (0 : Int), cI (0 : Int), cI (0 : Int), cI (0 : Int), cI (0 : Int)]), (2, [cI a0.Kind, cI a0.Realm, cI a0.By, cI a0.Client, cI (0 : Int), cI (0 : Int), cI (0 : Int), cI (0 : Int), cI (0 : Int), cI (0 : Int), cI (0 : Int)])] 3) (Le.mk [(0, 0), (1, 1), (2, 2)] hm rfl (Sa2 (Sa1 trivial)) trivial (Ba2 (Ba1 trivial))) (L.nil ?_)
 refine WpC.seq (WpC.regionL ?_)
 refine L.fieldAddr Tryz.underlying235 rfl info3 rfl hF rfl rfl rfl rfl rfl ?_
 refine L.loadPtr shape3 hF rfl rfl rfl rfl rfl rfl ?_
 refine L.fieldAddr Tryz.underlying85 rfl info3 rfl hF rfl rfl rfl rfl rfl ?_
 refine L.storePtr shape3 hF rfl rfl rfl rfl rfl rfl rfl ?_
 refine L.le (τ := mkSt [(1, one (Cell.ptr 0 0)), (2, one (Cell.ptr 1 0)), (3, one (Cell.ptr 2 0))] [] [(0, (bTlaws_Event a0)), (1, [cI (0 : Int), cI (0 : Int), cI (0 : Int), cI (0 : Int), cI (0 : Int), cI (0 : Int), cI (0 : Int), cI (0 : Int), cI (0 : Int), cI (0 : Int), cI (0 : Int)]), (2, [cI a0.Kind, cI a0.Realm, cI a0.By, cI a0.Client, cI a0.Service, cI (0 : Int), cI (0 : Int), cI (0 : Int), cI (0 : Int), cI (0 : Int), cI (0 : Int)])] 3) (Le.mk [(0, 0), (1, 1), (2, 2)] hm rfl (Sa2 (Sa1 trivial)) trivial (Ba2 (Ba1 trivial))) (L.nil ?_)
 refine WpC.seq (WpC.regionL ?_)
 refine L.fieldAddr Tryz.underlying235 rfl info3 rfl hF rfl rfl rfl rfl rfl ?_
 refine L.loadPtr shape3 hF rfl rfl rfl rfl rfl rfl ?_
 refine L.fieldAddr Tryz.underlying85 rfl info3 rfl hF rfl rfl rfl rfl rfl ?_
 refine L.storePtr shape3 hF rfl rfl rfl rfl rfl rfl rfl ?_
 refine L.le (τ := mkSt [(1, one (Cell.ptr 0 0)), (2, one (Cell.ptr 1 0)), (3, one (Cell.ptr 2 0))] [] [(0, (bTlaws_Event a0)), (1, [cI (0 : Int), cI (0 : Int), cI (0 : Int), cI (0 : Int), cI (0 : Int), cI (0 : Int), cI (0 : Int), cI (0 : Int), cI (0 : Int), cI (0 : Int), cI (0 : Int)]), (2, [cI a0.Kind, cI a0.Realm, cI a0.By, cI a0.Client, cI a0.Service, cI a0.Key, cI (0 : Int), cI (0 : Int), cI (0 : Int), cI (0 : Int), cI (0 : Int)])] 3) (Le.mk [(0, 0), (1, 1), (2, 2)] hm rfl (Sa2 (Sa1 trivial)) trivial (Ba2 (Ba1 trivial))) (L.nil ?_)
 refine WpC.seq (WpC.regionL ?_)
 refine L.fieldAddr Tryz.underlying235 rfl info3 rfl hF rfl rfl rfl rfl rfl ?_
 refine L.loadPtr shape3 hF rfl rfl rfl rfl rfl rfl ?_
 refine L.fieldAddr Tryz.underlying85 rfl info3 rfl hF rfl rfl rfl rfl rfl ?_
 refine L.storePtr shape3 hF rfl rfl rfl rfl rfl rfl rfl ?_
 refine L.le (τ := mkSt [(1, one (Cell.ptr 0 0)), (2, one (Cell.ptr 1 0)), (3, one (Cell.ptr 2 0))] [] [(0, (bTlaws_Event a0)), (1, [cI (0 : Int), cI (0 : Int), cI (0 : Int), cI (0 : Int), cI (0 : Int), cI (0 : Int), cI (0 : Int), cI (0 : Int), cI (0 : Int), cI (0 : Int), cI (0 : Int)]), (2, [cI a0.Kind, cI a0.Realm, cI a0.By, cI a0.Client, cI a0.Service, cI a0.Key, cI a0.Parent, cI (0 : Int), cI (0 : Int), cI (0 : Int), cI (0 : Int)])] 3) (Le.mk [(0, 0), (1, 1), (2, 2)] hm rfl (Sa2 (Sa1 trivial)) trivial (Ba2 (Ba1 trivial))) (L.nil ?_)
 refine WpC.seq (WpC.regionL ?_)
 refine L.fieldAddr Tryz.underlying235 rfl info3 rfl hF rfl rfl rfl rfl rfl ?_
 refine L.loadPtr shape3 hF rfl rfl rfl rfl rfl rfl ?_
 refine L.fieldAddr Tryz.underlying85 rfl info3 rfl hF rfl rfl rfl rfl rfl ?_
 refine L.storePtr shape3 hF rfl rfl rfl rfl rfl rfl rfl ?_
 refine L.le (τ := mkSt [(1, one (Cell.ptr 0 0)), (2, one (Cell.ptr 1 0)), (3, one (Cell.ptr 2 0))] [] [(0, (bTlaws_Event a0)), (1, [cI (0 : Int), cI (0 : Int), cI (0 : Int), cI (0 : Int), cI (0 : Int), cI (0 : Int), cI (0 : Int), cI (0 : Int), cI (0 : Int), cI (0 : Int), cI (0 : Int)]), (2, [cI a0.Kind, cI a0.Realm, cI a0.By, cI a0.Client, cI a0.Service, cI a0.Key, cI a0.Parent, cI a0.Evid, cI (0 : Int), cI (0 : Int), cI (0 : Int)])] 3) (Le.mk [(0, 0), (1, 1), (2, 2)] hm rfl (Sa2 (Sa1 trivial)) trivial (Ba2 (Ba1 trivial))) (L.nil ?_)
 refine WpC.seq (WpC.regionL ?_)
 refine L.fieldAddr Tryz.underlying235 rfl info223 rfl hF rfl rfl rfl rfl rfl ?_
 refine L.loadPtr shape223 hF rfl rfl rfl rfl rfl rfl ?_
 obtain ⟨r1, hr1, H⟩ := bindS H
 refine L.call [false] [] [] 3 hF rfl rfl rfl ent235 rfl rfl rfl rfl rfl (Flaws_toRest_gives k  (⟨a0.Rest.Servers, a0.Rest.Ops, a0.Rest.End⟩ : Tlaws_Rest) r1 hr1) rfl ?_
 refine L.fieldAddr Tryz.underlying85 rfl info37 rfl hF rfl rfl rfl rfl rfl ?_
 refine L.storePtr shape37 hF rfl rfl rfl rfl rfl rfl rfl ?_
 refine L.le (τ := mkSt [(2, one (Cell.ptr 0 0)), (3, one (Cell.ptr 1 0))] [] [(0, [cI (0 : Int), cI (0 : Int), cI (0 : Int), cI (0 : Int), cI (0 : Int), cI (0 : Int), cI (0 : Int), cI (0 : Int), cI (0 : Int), cI (0 : Int), cI (0 : Int)]), (1, [cI a0.Kind, cI a0.Realm, cI a0.By, cI a0.Client, cI a0.Service, cI a0.Key, cI a0.Parent, cI a0.Evid, cI r1.Servers, cI r1.Ops, cI r1.End])] 2) (Le.mk [(0, 1), (1, 2)] hm rfl (Sa2 trivial) trivial (Ba2 trivial)) (L.nil ?_)
 refine WpC.seq (WpC.regionL ?_)
 refine L.loadPtr shape85 hF rfl rfl rfl rfl rfl rfl ?_
 refine L.storePtr shape85 hF rfl rfl rfl rfl rfl rfl rfl ?_
 refine L.le (τ := mkSt [(2, one (Cell.ptr 0 0))] [] [(0, [cI a0.Kind, cI a0.Realm, cI a0.By, cI a0.Client, cI a0.Service, cI a0.Key, cI a0.Parent, cI a0.Evid, cI r1.Servers, cI r1.Ops, cI r1.End])] 1) (Le.mk [(0, 0)] hm rfl (Sa1 trivial) trivial (Ba1 trivial)) (L.nil ?_)
 refine WpC.ret ?_
 cases H
 exact Leaves.ret rfl rfl rfl ⟨rfl, rfl⟩
/-! ### Flaws_toEventS -/
def Flaws_toEventS.l2 : Nat → (List Tlaws_Event) → (List Timpl_Event) → Int → Option (List Timpl_Event)
 | 0, _, _, _ => none
 | k2 + 1, v45, v46, v47 => cond (decide (v47 < (v45.length : Int))) ((at? v45 v47).bind fun b51 => (Flaws_toEvent k2 b51).bind fun r52 => (at? v46 v47).bind fun b53 => (Flaws_toEventS.l2 k2) v45 (v46.set v47.toNat r52) (IntKind.i64.wrap (v47 + (1 : Int)))) (some v46)
def Flaws_toEventS (k : Nat) (a0 : List Tlaws_Event) : Option (List Timpl_Event) := cond (decide (0 ≤ (a0.length : Int) ∧ (a0.length : Int) ≤ (a0.length : Int) ∧ 88 * (a0.length : Int) ≤ 281474976710656 ∧ (a0.length : Int) ≤ 9223372036854775807)) (Flaws_toEventS.l2 k a0 (List.replicate (a0.length : Int).toNat (⟨(0 : Int), (0 : Int), (0 : Int), (0 : Int), (0 : Int), (0 : Int), (0 : Int), (0 : Int), (⟨(0 : Int), (0 : Int), (0 : Int)⟩ : Timpl_Rest)⟩ : Timpl_Event)) (0 : Int)) none
theorem ent110 : MG.Enters Tryz.prog 110 := ⟨Tryz.f110, Tryz.func110, rfl, by decide⟩
set_option maxHeartbeats 8000000 in
set_option maxRecDepth 100000 in
theorem Flaws_toEventS_gives (k : Nat) (g0 : Bool) (a0 : List Tlaws_Event) (r : List Timpl_Event) (H : Flaws_toEventS k a0 = some r) : Gives Tryz.prog 110 [V.one (Cell.sl g0 (List.map eTlaws_Event a0))] [] [V.one (Cell.ow 11 (List.map eTimpl_Event r))] [] := by
 refine Gives.intro Tryz.func110 rfl rfl rfl rfl ?_
 intro F hF hm
 unfold Flaws_toEventS at H
 obtain ⟨K, hK⟩ : ∃ K, k ≤ K := ⟨k, Nat.le_refl k⟩
 refine WpC.seq (WpC.regionL ?_)
 refine L.assign hF rfl rfl rfl (L.nil ?_)
 refine WpC.seq (WpC.regionL ?_)
 refine L.move hF rfl rfl rfl ?_
 refine L.lenR (xs := a0) (e := eTlaws_Event) Tryz.underlying67 hF rfl rfl rfl rfl ?_
 obtain ⟨h1, H⟩ := condG H
 refine L.makeSlice (e := eTimpl_Event) 1 (⟨(0 : Int), (0 : Int), (0 : Int), (0 : Int), (0 : Int), (0 : Int), (0 : Int), (0 : Int), (⟨(0 : Int), (0 : Int), (0 : Int)⟩ : Timpl_Rest)⟩ : Timpl_Event) Tryz.underlying77 info85 rfl rfl rfl hF rfl rfl rfl rfl (of_decide_eq_true h1) rfl rfl ?_
 refine L.assign hF rfl rfl rfl (L.nil ?_)
 refine WpC.seq (WpC.seq (WpC.regionL ?_))
 refine L.assign hF rfl rfl rfl (L.nil ?_)
 refine WpC.block ?_
 refine WpC.loopL (P := Tryz.prog) (fun n σ => ∃ v45 : List Tlaws_Event, ∃ v46 : List Timpl_Event, ∃ v47 : Int, n ≤ K ∧ Flaws_toEventS.l2 n v45 v46 v47 = some r ∧ σ = mkSt [(0, one (Cell.sl g0 (List.map eTlaws_Event v45))), (3, one (Cell.own 0)), (4, one (cI v47))] [(0, ⟨11, List.map eTimpl_Event v46⟩)] [] 1) k ⟨_, ⟨a0, (List.replicate (a0.length : Int).toNat (⟨(0 : Int), (0 : Int), (0 : Int), (0 : Int), (0 : Int), (0 : Int), (0 : Int), (0 : Int), (⟨(0 : Int), (0 : Int), (0 : Int)⟩ : Timpl_Rest)⟩ : Timpl_Event)), (0 : Int), by omega, H, rfl⟩, Le.mk [(0, 1)] hm rfl (Sa2 (Sa1 trivial)) (Ra1 trivial) trivial⟩ ?_
 clear H
 rintro k2 _ ⟨v45, v46, v47, hk2, H, rfl⟩
 cases k2 with
 | zero => cases H
 | succ k2 =>
  rw [Flaws_toEventS.l2] at H
  refine WpC.seq (WpC.seq (WpC.regionL ?_))
  refine L.move hF rfl rfl rfl ?_
  refine L.move hF rfl rfl rfl ?_
  refine L.lenR (xs := v45) (e := eTlaws_Event) Tryz.underlying67 hF rfl rfl rfl rfl ?_
  refine L.bin hF rfl rfl rfl rfl rfl rfl (L.nil ?_)
  refine WpC.cond rfl (fun hc => ?_) (fun hc => ?_)
  ·replace H := condT hc H
   refine WpC.skip (WpC.seq (WpC.block (WpC.regionL ?_)))
   refine L.move hF rfl rfl rfl ?_
   refine L.move hF rfl rfl rfl ?_
   refine L.move hF rfl rfl rfl ?_
   refine L.move hF rfl rfl rfl ?_
   obtain ⟨b51, hb51, H⟩ := bindS H
   refine L.idxR (xs := v45) (e := eTlaws_Event) Tryz.underlying67 info235 hF rfl rfl rfl rfl rfl hb51 rfl rfl ?_
   refine L.loadPe shape235 hF rfl rfl rfl rfl rfl ?_
   obtain ⟨r52, hr52, H⟩ := bindS H
   refine L.call [false] [] [] 1 hF rfl rfl rfl ent187 rfl rfl rfl rfl rfl (Flaws_toEvent_gives k2  b51 r52 hr52) rfl ?_
   obtain ⟨b53, hb53, H⟩ := bindS H
   refine L.idxR (xs := v46) (e := eTimpl_Event) Tryz.underlying77 info85 hF rfl rfl rfl rfl rfl hb53 rfl rfl ?_
   refine L.storeEp (xs := v46) (e := eTimpl_Event) (a' := r52) shape85 hF rfl rfl rfl rfl rfl rfl rfl (at?_get hb53).2 rfl rfl ?_
   refine L.nil ?_
   refine WpC.regionL ?_
   refine L.move hF rfl rfl rfl ?_
   refine L.bin hF rfl rfl rfl rfl rfl rfl ?_
   refine L.assign hF rfl rfl rfl (L.nil ?_)
   exact ⟨k2, _, by omega, ⟨v45, (v46.set v47.toNat r52), (IntKind.i64.wrap (v47 + (1 : Int))), by omega, H, rfl⟩, Le.mk [(0, 0)] hm rfl (Sa2 (Sa1 trivial)) (Ra1 trivial) trivial⟩
  ·replace H := condF hc H
   refine WpC.exit (WpC.seq (WpC.regionL ?_))
   refine L.move hF rfl rfl rfl ?_
   refine L.assign hF rfl rfl rfl (L.nil ?_)
   refine WpC.ret ?_
   cases H
   exact Leaves.ret rfl rfl rfl ⟨rfl, rfl⟩
/-! ### Flaws_toAccept -/
def Flaws_toAccept (k : Nat) (a0 : Tlaws_Accept) : Option Timpl_Accept := (Flaws_toAuth k (⟨a0.Auth.Client, a0.Auth.Time, a0.Auth.Seq⟩ : Tlaws_Auth)).bind fun r1 => (Flaws_toRest k (⟨a0.Rest.Servers, a0.Rest.Ops, a0.Rest.End⟩ : Tlaws_Rest)).bind fun r2 => (Flaws_toIntS k a0.Path).bind fun r3 => (Flaws_toIntS k a0.Via).bind fun r4 => some (⟨a0.Server, a0.Client, a0.Key, a0.Op, a0.Now, r1, r2, r3, r4, a0.Leaks, a0.Ticket⟩ : Timpl_Accept)
theorem ent188 : MG.Enters Tryz.prog 188 := ⟨Tryz.f188, Tryz.func188, rfl, by decide⟩
set_option maxHeartbeats 8000000 in
set_option maxRecDepth 100000 in
theorem Flaws_toAccept_gives (k : Nat) (g0 : Bool) (g1 : Bool) (a0 : Tlaws_Accept) (r : Timpl_Accept) (H : Flaws_toAccept k a0 = some r) : Gives Tryz.prog 188 [V.agg [cI a0.Server, cI a0.Client, cI a0.Key, cI a0.Op, cI a0.Now, cI a0.Auth.Client, cI a0.Auth.Time, cI a0.Auth.Seq, cI a0.Rest.Servers, cI a0.Rest.Ops, cI a0.Rest.End, Cell.sl g0 (List.map eI a0.Path), Cell.sl g1 (List.map eI a0.Via), cI a0.Leaks, cS a0.Ticket]] [] [V.agg [cI r.Server, cI r.Client, cI r.Key, cI r.Op, cI r.Now, cI r.Auth.Client, cI r.Auth.Time, cI r.Auth.Seq, cI r.Rest.Servers, cI r.Rest.Ops, cI r.Rest.End, Cell.ow 1 (List.map eI r.Path), Cell.ow 1 (List.map eI r.Via), cI r.Leaks, cS r.Ticket]] [] := by
 refine Gives.intro Tryz.func188 rfl rfl rfl rfl ?_
 intro F hF hm
 unfold Flaws_toAccept at H
 obtain ⟨K, hK⟩ : ∃ K, k ≤ K := ⟨k, Nat.le_refl k⟩
 refine WpC.seq (WpC.regionL ?_)
 refine L.box 15 hF rfl rfl rfl rfl ?_
 refine L.alloc 16 info39 rfl hF rfl rfl rfl rfl ?_
 refine L.le (τ := mkSt [(1, one (Cell.ptr 0 0)), (2, one (Cell.ptr 1 0))] [] [(0, (bTlaws_Accept g0 g1 a0)), (1, [cI (0 : Int), cI (0 : Int), cI (0 : Int), cI (0 : Int), cI (0 : Int), cI (0 : Int), cI (0 : Int), cI (0 : Int), cI (0 : Int), cI (0 : Int), cI (0 : Int), Cell.nil, Cell.nil, cI (0 : Int), cS ([] : List UInt8)])] 2) (Le.mk [(0, 15), (1, 16)] hm rfl (Sa2 trivial) trivial (Ba2 trivial)) (L.nil ?_)
 refine WpC.seq (WpC.regionL ?_)
 refine L.alloc 2 info39 rfl hF rfl rfl rfl rfl ?_
 refine L.le (τ := mkSt [(1, one (Cell.ptr 0 0)), (2, one (Cell.ptr 1 0)), (3, one (Cell.ptr 2 0))] [] [(0, (bTlaws_Accept g0 g1 a0)), (1, [cI (0 : Int), cI (0 : Int), cI (0 : Int), cI (0 : Int), cI (0 : Int), cI (0 : Int), cI (0 : Int), cI (0 : Int), cI (0 : Int), cI (0 : Int), cI (0 : Int), Cell.nil, Cell.nil, cI (0 : Int), cS ([] : List UInt8)]), (2, [cI (0 : Int), cI (0 : Int), cI (0 : Int), cI (0 : Int), cI (0 : Int), cI (0 : Int), cI (0 : Int), cI (0 : Int), cI (0 : Int), cI (0 : Int), cI (0 : Int), Cell.nil, Cell.nil, cI (0 : Int), cS ([] : List UInt8)])] 3) (Le.mk [(0, 0), (1, 1), (2, 2)] hm rfl (Sa2 (Sa1 trivial)) trivial (Ba2 (Ba1 trivial))) (L.nil ?_)
 refine WpC.seq (WpC.regionL ?_)
 refine L.fieldAddr Tryz.underlying228 rfl info3 rfl hF rfl rfl rfl rfl rfl ?_
 refine L.loadPtr shape3 hF rfl rfl rfl rfl rfl rfl ?_
 refine L.fieldAddr Tryz.underlying39 rfl info3 rfl hF rfl rfl rfl rfl rfl ?_
 refine L.storePtr shape3 hF rfl rfl rfl rfl rfl rfl rfl ?_
 refine L.le (τ := mkSt [(1, one (Cell.ptr 0 0)), (2, one (Cell.ptr 1 0)), (3, one (Cell.ptr 2 0))] [] [(0, (bTlaws_Accept g0 g1 a0)), (1, [cI (0 : Int), cI (0 : Int), cI (0 : Int), cI (0 : Int), cI (0 : Int), cI (0 : Int), cI (0 : Int), cI (0 : Int), cI (0 : Int), cI (0 : Int), cI (0 : Int), Cell.nil, Cell.nil, cI (0 : Int), cS ([] : List UInt8)]), (2, [cI a0.Server, cI (0 : Int), cI (0 : Int), cI (0 : Int), cI (0 : Int), cI (0 : Int), cI (0 : Int), cI (0 : Int), cI (0 : Int), cI (0 : Int), cI (0 : Int), Cell.nil, Cell.nil, cI (0 : Int), cS ([] : List UInt8)])] 3) (Le.mk [(0, 0), (1, 1), (2, 2)] hm rfl (Sa2 (Sa1 trivial)) trivial (Ba2 (Ba1 trivial))) (L.nil ?_)
 refine WpC.seq (WpC.regionL ?_)
 refine L.fieldAddr Tryz.underlying228 rfl info3 rfl hF rfl rfl rfl rfl rfl ?_
 refine L.loadPtr shape3 hF rfl rfl rfl rfl rfl rfl ?_
 refine L.fieldAddr Tryz.underlying39 rfl info3 rfl hF rfl rfl rfl rfl rfl ?_
 refine L.storePtr shape3 hF rfl rfl rfl rfl rfl rfl rfl ?_
 refine L.le (τ := mkSt [(1, one (Cell.ptr 0 0)), (2, one (Cell.ptr 1 0)), (3, one (Cell.ptr 2 0))] [] [(0, (bTlaws_Accept g0 g1 a0)), (1, [cI (0 : Int), cI (0 : Int), cI (0 : Int), cI (0 : Int), cI (0 : Int), cI (0 : Int), cI (0 : Int), cI (0 : Int), cI (0 : Int), cI (0 : Int), cI (0 : Int), Cell.nil, Cell.nil, cI (0 : Int), cS ([] : List UInt8)]), (2, [cI a0.Server, cI a0.Client, cI (0 : Int), cI (0 : Int), cI (0 : Int), cI (0 : Int), cI (0 : Int), cI (0 : Int), cI (0 : Int), cI (0 : Int), cI (0 : Int), Cell.nil, Cell.nil, cI (0 : Int), cS ([] : List UInt8)])] 3) (Le.mk [(0, 0), (1, 1), (2, 2)] hm rfl (Sa2 (Sa1 trivial)) trivial (Ba2 (Ba1 trivial))) (L.nil ?_)
 refine WpC.seq (WpC.regionL ?_)
 refine L.fieldAddr Tryz.underlying228 rfl info3 rfl hF rfl rfl rfl rfl rfl ?_
 refine L.loadPtr shape3 hF rfl rfl rfl rfl rfl rfl ?_
 refine L.fieldAddr Tryz.underlying39 rfl info3 rfl hF rfl rfl rfl rfl rfl ?_
 refine L.storePtr shape3 hF rfl rfl rfl rfl rfl rfl rfl ?_
 refine L.le (τ := mkSt [(1, one (Cell.ptr 0 0)), (2, one (Cell.ptr 1 0)), (3, one (Cell.ptr 2 0))] [] [(0, (bTlaws_Accept g0 g1 a0)), (1, [cI (0 : Int), cI (0 : Int), cI (0 : Int), cI (0 : Int), cI (0 : Int), cI (0 : Int), cI (0 : Int), cI (0 : Int), cI (0 : Int), cI (0 : Int), cI (0 : Int), Cell.nil, Cell.nil, cI (0 : Int), cS ([] : List UInt8)]), (2, [cI a0.Server, cI a0.Client, cI a0.Key, cI (0 : Int), cI (0 : Int), cI (0 : Int), cI (0 : Int), cI (0 : Int), cI (0 : Int), cI (0 : Int), cI (0 : Int), Cell.nil, Cell.nil, cI (0 : Int), cS ([] : List UInt8)])] 3) (Le.mk [(0, 0), (1, 1), (2, 2)] hm rfl (Sa2 (Sa1 trivial)) trivial (Ba2 (Ba1 trivial))) (L.nil ?_)
 refine WpC.seq (WpC.regionL ?_)
 refine L.fieldAddr Tryz.underlying228 rfl info3 rfl hF rfl rfl rfl rfl rfl ?_
 refine L.loadPtr shape3 hF rfl rfl rfl rfl rfl rfl ?_
 refine L.fieldAddr Tryz.underlying39 rfl info3 rfl hF rfl rfl rfl rfl rfl ?_
 refine L.storePtr shape3 hF rfl rfl rfl rfl rfl rfl rfl ?_
 refine L.le (τ := mkSt [(1, one (Cell.ptr 0 0)), (2, one (Cell.ptr 1 0)), (3, one (Cell.ptr 2 0))] [] [(0, (bTlaws_Accept g0 g1 a0)), (1, [cI (0 : Int), cI (0 : Int), cI (0 : Int), cI (0 : Int), cI (0 : Int), cI (0 : Int), cI (0 : Int), cI (0 : Int), cI (0 : Int), cI (0 : Int), cI (0 : Int), Cell.nil, Cell.nil, cI (0 : Int), cS ([] : List UInt8)]), (2, [cI a0.Server, cI a0.Client, cI a0.Key, cI a0.Op, cI (0 : Int), cI (0 : Int), cI (0 : Int), cI (0 : Int), cI (0 : Int), cI (0 : Int), cI (0 : Int), Cell.nil, Cell.nil, cI (0 : Int), cS ([] : List UInt8)])] 3) (Le.mk [(0, 0), (1, 1), (2, 2)] hm rfl (Sa2 (Sa1 trivial)) trivial (Ba2 (Ba1 trivial))) (L.nil ?_)
 refine WpC.seq (WpC.regionL ?_)
 refine L.fieldAddr Tryz.underlying228 rfl info3 rfl hF rfl rfl rfl rfl rfl ?_
 refine L.loadPtr shape3 hF rfl rfl rfl rfl rfl rfl ?_
 refine L.fieldAddr Tryz.underlying39 rfl info3 rfl hF rfl rfl rfl rfl rfl ?_
 refine L.storePtr shape3 hF rfl rfl rfl rfl rfl rfl rfl ?_
 refine L.le (τ := mkSt [(1, one (Cell.ptr 0 0)), (2, one (Cell.ptr 1 0)), (3, one (Cell.ptr 2 0))] [] [(0, (bTlaws_Accept g0 g1 a0)), (1, [cI (0 : Int), cI (0 : Int), cI (0 : Int), cI (0 : Int), cI (0 : Int), cI (0 : Int), cI (0 : Int), cI (0 : Int), cI (0 : Int), cI (0 : Int), cI (0 : Int), Cell.nil, Cell.nil, cI (0 : Int), cS ([] : List UInt8)]), (2, [cI a0.Server, cI a0.Client, cI a0.Key, cI a0.Op, cI a0.Now, cI (0 : Int), cI (0 : Int), cI (0 : Int), cI (0 : Int), cI (0 : Int), cI (0 : Int), Cell.nil, Cell.nil, cI (0 : Int), cS ([] : List UInt8)])] 3) (Le.mk [(0, 0), (1, 1), (2, 2)] hm rfl (Sa2 (Sa1 trivial)) trivial (Ba2 (Ba1 trivial))) (L.nil ?_)
 refine WpC.seq (WpC.regionL ?_)
 refine L.fieldAddr Tryz.underlying228 rfl info203 rfl hF rfl rfl rfl rfl rfl ?_
 refine L.loadPtr shape203 hF rfl rfl rfl rfl rfl rfl ?_
 obtain ⟨r1, hr1, H⟩ := bindS H
 refine L.call [false] [] [] 3 hF rfl rfl rfl ent153 rfl rfl rfl rfl rfl (Flaws_toAuth_gives k  (⟨a0.Auth.Client, a0.Auth.Time, a0.Auth.Seq⟩ : Tlaws_Auth) r1 hr1) rfl ?_
 refine L.fieldAddr Tryz.underlying39 rfl info35 rfl hF rfl rfl rfl rfl rfl ?_
 refine L.storePtr shape35 hF rfl rfl rfl rfl rfl rfl rfl ?_
 refine L.le (τ := mkSt [(1, one (Cell.ptr 0 0)), (2, one (Cell.ptr 1 0)), (3, one (Cell.ptr 2 0))] [] [(0, (bTlaws_Accept g0 g1 a0)), (1, [cI (0 : Int), cI (0 : Int), cI (0 : Int), cI (0 : Int), cI (0 : Int), cI (0 : Int), cI (0 : Int), cI (0 : Int), cI (0 : Int), cI (0 : Int), cI (0 : Int), Cell.nil, Cell.nil, cI (0 : Int), cS ([] : List UInt8)]), (2, [cI a0.Server, cI a0.Client, cI a0.Key, cI a0.Op, cI a0.Now, cI r1.Client, cI r1.Time, cI r1.Seq, cI (0 : Int), cI (0 : Int), cI (0 : Int), Cell.nil, Cell.nil, cI (0 : Int), cS ([] : List UInt8)])] 3) (Le.mk [(0, 0), (1, 1), (2, 2)] hm rfl (Sa2 (Sa1 trivial)) trivial (Ba2 (Ba1 trivial))) (L.nil ?_)
 refine WpC.seq (WpC.regionL ?_)
 refine L.fieldAddr Tryz.underlying228 rfl info223 rfl hF rfl rfl rfl rfl rfl ?_
 refine L.loadPtr shape223 hF rfl rfl rfl rfl rfl rfl ?_
 obtain ⟨r2, hr2, H⟩ := bindS H
 refine L.call [false] [] [] 3 hF rfl rfl rfl ent235 rfl rfl rfl rfl rfl (Flaws_toRest_gives k  (⟨a0.Rest.Servers, a0.Rest.Ops, a0.Rest.End⟩ : Tlaws_Rest) r2 hr2) rfl ?_
 refine L.fieldAddr Tryz.underlying39 rfl info37 rfl hF rfl rfl rfl rfl rfl ?_
 refine L.storePtr shape37 hF rfl rfl rfl rfl rfl rfl rfl ?_
 refine L.le (τ := mkSt [(1, one (Cell.ptr 0 0)), (2, one (Cell.ptr 1 0)), (3, one (Cell.ptr 2 0))] [] [(0, (bTlaws_Accept g0 g1 a0)), (1, [cI (0 : Int), cI (0 : Int), cI (0 : Int), cI (0 : Int), cI (0 : Int), cI (0 : Int), cI (0 : Int), cI (0 : Int), cI (0 : Int), cI (0 : Int), cI (0 : Int), Cell.nil, Cell.nil, cI (0 : Int), cS ([] : List UInt8)]), (2, [cI a0.Server, cI a0.Client, cI a0.Key, cI a0.Op, cI a0.Now, cI r1.Client, cI r1.Time, cI r1.Seq, cI r2.Servers, cI r2.Ops, cI r2.End, Cell.nil, Cell.nil, cI (0 : Int), cS ([] : List UInt8)])] 3) (Le.mk [(0, 0), (1, 1), (2, 2)] hm rfl (Sa2 (Sa1 trivial)) trivial (Ba2 (Ba1 trivial))) (L.nil ?_)
 refine WpC.seq (WpC.regionL ?_)
 refine L.fieldAddr Tryz.underlying228 rfl info22 rfl hF rfl rfl rfl rfl rfl ?_
 refine L.loadPtr shape22 hF rfl rfl rfl rfl rfl rfl ?_
 obtain ⟨r3, hr3, H⟩ := bindS H
 refine L.call [false] [] [] 3 hF rfl rfl rfl ent56 rfl rfl rfl rfl rfl (Flaws_toIntS_gives k g0 a0.Path r3 hr3) rfl ?_
 refine L.fieldAddr Tryz.underlying39 rfl info22 rfl hF rfl rfl rfl rfl rfl ?_
 refine L.storePtr shape22 hF rfl rfl rfl rfl rfl rfl rfl ?_
 refine L.le (τ := mkSt [(1, one (Cell.ptr 0 0)), (2, one (Cell.ptr 1 0)), (3, one (Cell.ptr 2 0))] [(3, ⟨1, List.map eI r3⟩)] [(0, (bTlaws_Accept g0 g1 a0)), (1, [cI (0 : Int), cI (0 : Int), cI (0 : Int), cI (0 : Int), cI (0 : Int), cI (0 : Int), cI (0 : Int), cI (0 : Int), cI (0 : Int), cI (0 : Int), cI (0 : Int), Cell.nil, Cell.nil, cI (0 : Int), cS ([] : List UInt8)]), (2, [cI a0.Server, cI a0.Client, cI a0.Key, cI a0.Op, cI a0.Now, cI r1.Client, cI r1.Time, cI r1.Seq, cI r2.Servers, cI r2.Ops, cI r2.End, Cell.own 3, Cell.nil, cI (0 : Int), cS ([] : List UInt8)])] 4) (Le.mk [(0, 0), (1, 1), (2, 2), (3, 3)] hm rfl (Sa2 (Sa1 trivial)) (Ra1 trivial) (Ba2 (Ba1 trivial))) (L.nil ?_)
 refine WpC.seq (WpC.regionL ?_)
 refine L.fieldAddr Tryz.underlying228 rfl info22 rfl hF rfl rfl rfl rfl rfl ?_
 refine L.loadPtr shape22 hF rfl rfl rfl rfl rfl rfl ?_
 obtain ⟨r4, hr4, H⟩ := bindS H
 refine L.call [false] [] [] 4 hF rfl rfl rfl ent56 rfl rfl rfl rfl rfl (Flaws_toIntS_gives k g1 a0.Via r4 hr4) rfl ?_
 refine L.fieldAddr Tryz.underlying39 rfl info22 rfl hF rfl rfl rfl rfl rfl ?_
 refine L.storePtr shape22 hF rfl rfl rfl rfl rfl rfl rfl ?_
 refine L.le (τ := mkSt [(1, one (Cell.ptr 0 0)), (2, one (Cell.ptr 1 0)), (3, one (Cell.ptr 2 0))] [(3, ⟨1, List.map eI r3⟩), (4, ⟨1, List.map eI r4⟩)] [(0, (bTlaws_Accept g0 g1 a0)), (1, [cI (0 : Int), cI (0 : Int), cI (0 : Int), cI (0 : Int), cI (0 : Int), cI (0 : Int), cI (0 : Int), cI (0 : Int), cI (0 : Int), cI (0 : Int), cI (0 : Int), Cell.nil, Cell.nil, cI (0 : Int), cS ([] : List UInt8)]), (2, [cI a0.Server, cI a0.Client, cI a0.Key, cI a0.Op, cI a0.Now, cI r1.Client, cI r1.Time, cI r1.Seq, cI r2.Servers, cI r2.Ops, cI r2.End, Cell.own 3, Cell.own 4, cI (0 : Int), cS ([] : List UInt8)])] 5) (Le.mk [(0, 0), (1, 1), (2, 2), (3, 3), (4, 4)] hm rfl (Sa2 (Sa1 trivial)) (Ra2 trivial) (Ba2 (Ba1 trivial))) (L.nil ?_)
 refine WpC.seq (WpC.regionL ?_)
 refine L.fieldAddr Tryz.underlying228 rfl info3 rfl hF rfl rfl rfl rfl rfl ?_
 refine L.loadPtr shape3 hF rfl rfl rfl rfl rfl rfl ?_
 refine L.fieldAddr Tryz.underlying39 rfl info3 rfl hF rfl rfl rfl rfl rfl ?_
 refine L.storePtr shape3 hF rfl rfl rfl rfl rfl rfl rfl ?_
 refine L.le (τ := mkSt [(1, one (Cell.ptr 0 0)), (2, one (Cell.ptr 1 0)), (3, one (Cell.ptr 2 0))] [(3, ⟨1, List.map eI r3⟩), (4, ⟨1, List.map eI r4⟩)] [(0, (bTlaws_Accept g0 g1 a0)), (1, [cI (0 : Int), cI (0 : Int), cI (0 : Int), cI (0 : Int), cI (0 : Int), cI (0 : Int), cI (0 : Int), cI (0 : Int), cI (0 : Int), cI (0 : Int), cI (0 : Int), Cell.nil, Cell.nil, cI (0 : Int), cS ([] : List UInt8)]), (2, [cI a0.Server, cI a0.Client, cI a0.Key, cI a0.Op, cI a0.Now, cI r1.Client, cI r1.Time, cI r1.Seq, cI r2.Servers, cI r2.Ops, cI r2.End, Cell.own 3, Cell.own 4, cI a0.Leaks, cS ([] : List UInt8)])] 5) (Le.mk [(0, 0), (1, 1), (2, 2), (3, 3), (4, 4)] hm rfl (Sa2 (Sa1 trivial)) (Ra2 trivial) (Ba2 (Ba1 trivial))) (L.nil ?_)
 refine WpC.seq (WpC.regionL ?_)
 refine L.fieldAddr Tryz.underlying228 rfl info9 rfl hF rfl rfl rfl rfl rfl ?_
 refine L.loadPtr shape9 hF rfl rfl rfl rfl rfl rfl ?_
 refine L.fieldAddr Tryz.underlying39 rfl info9 rfl hF rfl rfl rfl rfl rfl ?_
 refine L.storePtr shape9 hF rfl rfl rfl rfl rfl rfl rfl ?_
 refine L.le (τ := mkSt [(2, one (Cell.ptr 0 0)), (3, one (Cell.ptr 1 0))] [(2, ⟨1, List.map eI r3⟩), (3, ⟨1, List.map eI r4⟩)] [(0, [cI (0 : Int), cI (0 : Int), cI (0 : Int), cI (0 : Int), cI (0 : Int), cI (0 : Int), cI (0 : Int), cI (0 : Int), cI (0 : Int), cI (0 : Int), cI (0 : Int), Cell.nil, Cell.nil, cI (0 : Int), cS ([] : List UInt8)]), (1, [cI a0.Server, cI a0.Client, cI a0.Key, cI a0.Op, cI a0.Now, cI r1.Client, cI r1.Time, cI r1.Seq, cI r2.Servers, cI r2.Ops, cI r2.End, Cell.own 2, Cell.own 3, cI a0.Leaks, cS a0.Ticket])] 4) (Le.mk [(0, 1), (1, 2), (2, 3), (3, 4)] hm rfl (Sa2 trivial) (Ra2 trivial) (Ba2 trivial)) (L.nil ?_)
 refine WpC.seq (WpC.regionL ?_)
 refine L.loadPtr shape39 hF rfl rfl rfl rfl rfl rfl ?_
 refine L.storePtr shape39 hF rfl rfl rfl rfl rfl rfl rfl ?_
 refine L.le (τ := mkSt [(2, one (Cell.ptr 0 0))] [(1, ⟨1, List.map eI r3⟩), (2, ⟨1, List.map eI r4⟩)] [(0, [cI a0.Server, cI a0.Client, cI a0.Key, cI a0.Op, cI a0.Now, cI r1.Client, cI r1.Time, cI r1.Seq, cI r2.Servers, cI r2.Ops, cI r2.End, Cell.own 1, Cell.own 2, cI a0.Leaks, cS a0.Ticket])] 3) (Le.mk [(0, 0), (1, 2), (2, 3)] hm rfl (Sa1 trivial) (Ra2 trivial) (Ba1 trivial)) (L.nil ?_)
 refine WpC.ret ?_
 cases H
 exact Leaves.ret rfl rfl rfl ⟨rfl, rfl⟩
/-! ### Flaws_toAcceptS -/
def Flaws_toAcceptS.l2 : Nat → (List Tlaws_Accept) → (List Timpl_Accept) → Int → Option (List Timpl_Accept)
 | 0, _, _, _ => none
 | k2 + 1, v45, v46, v47 => cond (decide (v47 < (v45.length : Int))) ((at? v45 v47).bind fun b51 => (Flaws_toAccept k2 b51).bind fun r52 => (at? v46 v47).bind fun b53 => (Flaws_toAcceptS.l2 k2) v45 (v46.set v47.toNat r52) (IntKind.i64.wrap (v47 + (1 : Int)))) (some v46)
def Flaws_toAcceptS (k : Nat) (a0 : List Tlaws_Accept) : Option (List Timpl_Accept) := cond (decide (0 ≤ (a0.length : Int) ∧ (a0.length : Int) ≤ (a0.length : Int) ∧ 160 * (a0.length : Int) ≤ 281474976710656 ∧ (a0.length : Int) ≤ 9223372036854775807)) (Flaws_toAcceptS.l2 k a0 (List.replicate (a0.length : Int).toNat (⟨(0 : Int), (0 : Int), (0 : Int), (0 : Int), (0 : Int), (⟨(0 : Int), (0 : Int), (0 : Int)⟩ : Timpl_Auth), (⟨(0 : Int), (0 : Int), (0 : Int)⟩ : Timpl_Rest), [], [], (0 : Int), ([] : List UInt8)⟩ : Timpl_Accept)) (0 : Int)) none
theorem ent111 : MG.Enters Tryz.prog 111 := ⟨Tryz.f111, Tryz.func111, rfl, by decide⟩
set_option maxHeartbeats 8000000 in
set_option maxRecDepth 100000 in
theorem Flaws_toAcceptS_gives (k : Nat) (g0 : Bool) (a0 : List Tlaws_Accept) (r : List Timpl_Accept) (H : Flaws_toAcceptS k a0 = some r) : Gives Tryz.prog 111 [V.one (Cell.sl g0 (List.map eTlaws_Accept a0))] [] [V.one (Cell.ow 15 (List.map eTimpl_Accept r))] [] := by
 refine Gives.intro Tryz.func111 rfl rfl rfl rfl ?_
 intro F hF hm
 unfold Flaws_toAcceptS at H
 obtain ⟨K, hK⟩ : ∃ K, k ≤ K := ⟨k, Nat.le_refl k⟩
 refine WpC.seq (WpC.regionL ?_)
 refine L.assign hF rfl rfl rfl (L.nil ?_)
 refine WpC.seq (WpC.regionL ?_)
 refine L.move hF rfl rfl rfl ?_
 refine L.lenR (xs := a0) (e := eTlaws_Accept) Tryz.underlying68 hF rfl rfl rfl rfl ?_
 obtain ⟨h1, H⟩ := condG H
 refine L.makeSliceN (e := eTimpl_Accept) 1 (⟨(0 : Int), (0 : Int), (0 : Int), (0 : Int), (0 : Int), (⟨(0 : Int), (0 : Int), (0 : Int)⟩ : Timpl_Auth), (⟨(0 : Int), (0 : Int), (0 : Int)⟩ : Timpl_Rest), [], [], (0 : Int), ([] : List UInt8)⟩ : Timpl_Accept) Tryz.underlying78 info39 rfl rfl rfl hF rfl rfl rfl rfl (of_decide_eq_true h1) rfl rfl ⟨rfl, rfl⟩ ?_
 refine L.assign hF rfl rfl rfl (L.nil ?_)
 refine WpC.seq (WpC.seq (WpC.regionL ?_))
 refine L.assign hF rfl rfl rfl (L.nil ?_)
 refine WpC.block ?_
 refine WpC.loopL (P := Tryz.prog) (fun n σ => ∃ v45 : List Tlaws_Accept, ∃ v46 : List Timpl_Accept, ∃ v47 : Int, n ≤ K ∧ Flaws_toAcceptS.l2 n v45 v46 v47 = some r ∧ σ = mkSt [(0, one (Cell.sl g0 (List.map eTlaws_Accept v45))), (3, one (Cell.own 0)), (4, one (cI v47))] [(0, ⟨15, List.map eTimpl_Accept v46⟩)] [] 1) k ⟨_, ⟨a0, (List.replicate (a0.length : Int).toNat (⟨(0 : Int), (0 : Int), (0 : Int), (0 : Int), (0 : Int), (⟨(0 : Int), (0 : Int), (0 : Int)⟩ : Timpl_Auth), (⟨(0 : Int), (0 : Int), (0 : Int)⟩ : Timpl_Rest), [], [], (0 : Int), ([] : List UInt8)⟩ : Timpl_Accept)), (0 : Int), by omega, H, rfl⟩, Le.mk [(0, 1)] hm rfl (Sa2 (Sa1 trivial)) (Ra1 trivial) trivial⟩ ?_
 clear H
 rintro k2 _ ⟨v45, v46, v47, hk2, H, rfl⟩
 cases k2 with
 | zero => cases H
 | succ k2 =>
  rw [Flaws_toAcceptS.l2] at H
  refine WpC.seq (WpC.seq (WpC.regionL ?_))
  refine L.move hF rfl rfl rfl ?_
  refine L.move hF rfl rfl rfl ?_
  refine L.lenR (xs := v45) (e := eTlaws_Accept) Tryz.underlying68 hF rfl rfl rfl rfl ?_
  refine L.bin hF rfl rfl rfl rfl rfl rfl (L.nil ?_)
  refine WpC.cond rfl (fun hc => ?_) (fun hc => ?_)
  ·replace H := condT hc H
   refine WpC.skip (WpC.seq (WpC.block (WpC.regionL ?_)))
   refine L.move hF rfl rfl rfl ?_
   refine L.move hF rfl rfl rfl ?_
   refine L.move hF rfl rfl rfl ?_
   refine L.move hF rfl rfl rfl ?_
   obtain ⟨b51, hb51, H⟩ := bindS H
   refine L.idxR (xs := v45) (e := eTlaws_Accept) Tryz.underlying68 info228 hF rfl rfl rfl rfl rfl hb51 rfl rfl ?_
   refine L.loadPe shape228 hF rfl rfl rfl rfl rfl ?_
   obtain ⟨r52, hr52, H⟩ := bindS H
   refine L.call [false] [] [] 1 hF rfl rfl rfl ent188 rfl rfl rfl rfl rfl (Flaws_toAccept_gives k2 true true b51 r52 hr52) rfl ?_
   obtain ⟨b53, hb53, H⟩ := bindS H
   refine L.idxR (xs := v46) (e := eTimpl_Accept) Tryz.underlying78 info39 hF rfl rfl rfl rfl rfl hb53 rfl rfl ?_
   refine L.storeEpN (xs := v46) (e := eTimpl_Accept) (a' := r52) 1 shape39 hF rfl rfl rfl rfl rfl rfl rfl (at?_get hb53).2 rfl rfl ?_
   refine L.nil ?_
   refine WpC.regionL ?_
   refine L.move hF rfl rfl rfl ?_
   refine L.bin hF rfl rfl rfl rfl rfl rfl ?_
   refine L.assign hF rfl rfl rfl (L.nil ?_)
   exact ⟨k2, _, by omega, ⟨v45, (v46.set v47.toNat r52), (IntKind.i64.wrap (v47 + (1 : Int))), by omega, H, rfl⟩, Le.mk [(0, 0)] hm rfl (Sa2 (Sa1 trivial)) (Ra1 trivial) trivial⟩
  ·replace H := condF hc H
   refine WpC.exit (WpC.seq (WpC.regionL ?_))
   refine L.move hF rfl rfl rfl ?_
   refine L.assign hF rfl rfl rfl (L.nil ?_)
   refine WpC.ret ?_
   cases H
   exact Leaves.ret rfl rfl rfl ⟨rfl, rfl⟩
/-! ### Flaws_toWorld -/
def Flaws_toWorld (k : Nat) (a0 : Tlaws_World) : Option Timpl_World := (Flaws_toConfig k (⟨a0.Config.UserRealm, a0.Config.ServiceRealm, a0.Config.Links, a0.Config.Proxy, a0.Config.Skew⟩ : Tlaws_Config)).bind fun r1 => (Flaws_toStringS k a0.Net).bind fun r2 => (Flaws_toKnown k (⟨a0.Known.Terms, a0.Known.Keys⟩ : Tlaws_Known)).bind fun r3 => (Flaws_toWaitS k a0.Waits).bind fun r4 => (Flaws_toCredS k a0.Creds).bind fun r5 => (Flaws_toCacheS k a0.Caches).bind fun r6 => (Flaws_toEventS k a0.Log).bind fun r7 => (Flaws_toAcceptS k a0.Accepts).bind fun r8 => (Flaws_toIntS k a0.Leaked).bind fun r9 => some (⟨r1, a0.Now, a0.Fresh, r2, r3, r4, r5, r6, r7, r8, r9⟩ : Timpl_World)
theorem ent30 : MG.Enters Tryz.prog 30 := ⟨Tryz.f30, Tryz.func30, rfl, by decide⟩
set_option maxHeartbeats 8000000 in
set_option maxRecDepth 100000 in
theorem Flaws_toWorld_gives (k : Nat) (g0 : Bool) (g1 : Bool) (g2 : Bool) (g3 : Bool) (g4 : Bool) (g5 : Bool) (g6 : Bool) (g7 : Bool) (g8 : Bool) (g9 : Bool) (g10 : Bool) (g11 : Bool) (g12 : Bool) (a0 : Tlaws_World) (r : Timpl_World) (H : Flaws_toWorld k a0 = some r) : Gives Tryz.prog 30 [V.agg [Cell.sl g0 (List.map eI a0.Config.UserRealm), Cell.sl g1 (List.map eI a0.Config.ServiceRealm), Cell.sl g2 (List.map eTlaws_Pair a0.Config.Links), Cell.sl g3 (List.map eTlaws_Pair a0.Config.Proxy), cI a0.Config.Skew, cI a0.Now, cI a0.Fresh, Cell.sl g4 (List.map eS a0.Net), Cell.sl g5 (List.map eS a0.Known.Terms), Cell.sl g6 (List.map eI a0.Known.Keys), Cell.sl g7 (List.map eTlaws_Wait a0.Waits), Cell.sl g8 (List.map eTlaws_Cred a0.Creds), Cell.sl g9 (List.map eTlaws_Cache a0.Caches), Cell.sl g10 (List.map eTlaws_Event a0.Log), Cell.sl g11 (List.map eTlaws_Accept a0.Accepts), Cell.sl g12 (List.map eI a0.Leaked)]] [] [V.agg [Cell.ow 1 (List.map eI r.Config.UserRealm), Cell.ow 1 (List.map eI r.Config.ServiceRealm), Cell.ow 2 (List.map eTimpl_Pair r.Config.Links), Cell.ow 2 (List.map eTimpl_Pair r.Config.Proxy), cI r.Config.Skew, cI r.Now, cI r.Fresh, Cell.ow 1 (List.map eS r.Net), Cell.ow 1 (List.map eS r.Known.Terms), Cell.ow 1 (List.map eI r.Known.Keys), Cell.ow 4 (List.map eTimpl_Wait r.Waits), Cell.ow 8 (List.map eTimpl_Cred r.Creds), Cell.ow 2 (List.map eTimpl_Cache r.Caches), Cell.ow 11 (List.map eTimpl_Event r.Log), Cell.ow 15 (List.map eTimpl_Accept r.Accepts), Cell.ow 1 (List.map eI r.Leaked)]] [] := by
 refine Gives.intro Tryz.func30 rfl rfl rfl rfl ?_
 intro F hF hm
 unfold Flaws_toWorld at H
 obtain ⟨K, hK⟩ : ∃ K, k ≤ K := ⟨k, Nat.le_refl k⟩
 refine WpC.seq (WpC.regionL ?_)
 refine L.box 16 hF rfl rfl rfl rfl ?_
 refine L.alloc 17 info80 rfl hF rfl rfl rfl rfl ?_
 refine L.le (τ := mkSt [(1, one (Cell.ptr 0 0)), (2, one (Cell.ptr 1 0))] [] [(0, (bTlaws_World g0 g1 g2 g3 g4 g5 g6 g7 g8 g9 g10 g11 g12 a0)), (1, [Cell.nil, Cell.nil, Cell.nil, Cell.nil, cI (0 : Int), cI (0 : Int), cI (0 : Int), Cell.nil, Cell.nil, Cell.nil, Cell.nil, Cell.nil, Cell.nil, Cell.nil, Cell.nil, Cell.nil])] 2) (Le.mk [(0, 16), (1, 17)] hm rfl (Sa2 trivial) trivial (Ba2 trivial)) (L.nil ?_)
 refine WpC.seq (WpC.regionL ?_)
 refine L.alloc 2 info80 rfl hF rfl rfl rfl rfl ?_
 refine L.le (τ := mkSt [(1, one (Cell.ptr 0 0)), (2, one (Cell.ptr 1 0)), (3, one (Cell.ptr 2 0))] [] [(0, (bTlaws_World g0 g1 g2 g3 g4 g5 g6 g7 g8 g9 g10 g11 g12 a0)), (1, [Cell.nil, Cell.nil, Cell.nil, Cell.nil, cI (0 : Int), cI (0 : Int), cI (0 : Int), Cell.nil, Cell.nil, Cell.nil, Cell.nil, Cell.nil, Cell.nil, Cell.nil, Cell.nil, Cell.nil]), (2, [Cell.nil, Cell.nil, Cell.nil, Cell.nil, cI (0 : Int), cI (0 : Int), cI (0 : Int), Cell.nil, Cell.nil, Cell.nil, Cell.nil, Cell.nil, Cell.nil, Cell.nil, Cell.nil, Cell.nil])] 3) (Le.mk [(0, 0), (1, 1), (2, 2)] hm rfl (Sa2 (Sa1 trivial)) trivial (Ba2 (Ba1 trivial))) (L.nil ?_)
 refine WpC.seq (WpC.regionL ?_)
 refine L.fieldAddr Tryz.underlying70 rfl info25 rfl hF rfl rfl rfl rfl rfl ?_
 refine L.loadPtr shape25 hF rfl rfl rfl rfl rfl rfl ?_
 obtain ⟨r1, hr1, H⟩ := bindS H
 refine L.call [false] [] [] 3 hF rfl rfl rfl ent12 rfl rfl rfl rfl rfl (Flaws_toConfig_gives k g0 g1 g2 g3 (⟨a0.Config.UserRealm, a0.Config.ServiceRealm, a0.Config.Links, a0.Config.Proxy, a0.Config.Skew⟩ : Tlaws_Config) r1 hr1) rfl ?_
 refine L.fieldAddr Tryz.underlying80 rfl info44 rfl hF rfl rfl rfl rfl rfl ?_
 refine L.storePtr shape44 hF rfl rfl rfl rfl rfl rfl rfl ?_
 refine L.le (τ := mkSt [(1, one (Cell.ptr 0 0)), (2, one (Cell.ptr 1 0)), (3, one (Cell.ptr 2 0))] [(3, ⟨1, List.map eI r1.UserRealm⟩), (4, ⟨1, List.map eI r1.ServiceRealm⟩), (5, ⟨2, List.map eTimpl_Pair r1.Links⟩), (6, ⟨2, List.map eTimpl_Pair r1.Proxy⟩)] [(0, (bTlaws_World g0 g1 g2 g3 g4 g5 g6 g7 g8 g9 g10 g11 g12 a0)), (1, [Cell.nil, Cell.nil, Cell.nil, Cell.nil, cI (0 : Int), cI (0 : Int), cI (0 : Int), Cell.nil, Cell.nil, Cell.nil, Cell.nil, Cell.nil, Cell.nil, Cell.nil, Cell.nil, Cell.nil]), (2, [Cell.own 3, Cell.own 4, Cell.own 5, Cell.own 6, cI r1.Skew, cI (0 : Int), cI (0 : Int), Cell.nil, Cell.nil, Cell.nil, Cell.nil, Cell.nil, Cell.nil, Cell.nil, Cell.nil, Cell.nil])] 7) (Le.mk [(0, 0), (1, 1), (2, 2), (3, 3), (4, 4), (5, 5), (6, 6)] hm rfl (Sa2 (Sa1 trivial)) (Ra4 trivial) (Ba2 (Ba1 trivial))) (L.nil ?_)
 refine WpC.seq (WpC.regionL ?_)
 refine L.fieldAddr Tryz.underlying70 rfl info3 rfl hF rfl rfl rfl rfl rfl ?_
 refine L.loadPtr shape3 hF rfl rfl rfl rfl rfl rfl ?_
 refine L.fieldAddr Tryz.underlying80 rfl info3 rfl hF rfl rfl rfl rfl rfl ?_
 refine L.storePtr shape3 hF rfl rfl rfl rfl rfl rfl rfl ?_
 refine L.le (τ := mkSt [(1, one (Cell.ptr 0 0)), (2, one (Cell.ptr 1 0)), (3, one (Cell.ptr 2 0))] [(3, ⟨1, List.map eI r1.UserRealm⟩), (4, ⟨1, List.map eI r1.ServiceRealm⟩), (5, ⟨2, List.map eTimpl_Pair r1.Links⟩), (6, ⟨2, List.map eTimpl_Pair r1.Proxy⟩)] [(0, (bTlaws_World g0 g1 g2 g3 g4 g5 g6 g7 g8 g9 g10 g11 g12 a0)), (1, [Cell.nil, Cell.nil, Cell.nil, Cell.nil, cI (0 : Int), cI (0 : Int), cI (0 : Int), Cell.nil, Cell.nil, Cell.nil, Cell.nil, Cell.nil, Cell.nil, Cell.nil, Cell.nil, Cell.nil]), (2, [Cell.own 3, Cell.own 4, Cell.own 5, Cell.own 6, cI r1.Skew, cI a0.Now, cI (0 : Int), Cell.nil, Cell.nil, Cell.nil, Cell.nil, Cell.nil, Cell.nil, Cell.nil, Cell.nil, Cell.nil])] 7) (Le.mk [(0, 0), (1, 1), (2, 2), (3, 3), (4, 4), (5, 5), (6, 6)] hm rfl (Sa2 (Sa1 trivial)) (Ra4 trivial) (Ba2 (Ba1 trivial))) (L.nil ?_)
 refine WpC.seq (WpC.regionL ?_)
 refine L.fieldAddr Tryz.underlying70 rfl info3 rfl hF rfl rfl rfl rfl rfl ?_
 refine L.loadPtr shape3 hF rfl rfl rfl rfl rfl rfl ?_
 refine L.fieldAddr Tryz.underlying80 rfl info3 rfl hF rfl rfl rfl rfl rfl ?_
 refine L.storePtr shape3 hF rfl rfl rfl rfl rfl rfl rfl ?_
 refine L.le (τ := mkSt [(1, one (Cell.ptr 0 0)), (2, one (Cell.ptr 1 0)), (3, one (Cell.ptr 2 0))] [(3, ⟨1, List.map eI r1.UserRealm⟩), (4, ⟨1, List.map eI r1.ServiceRealm⟩), (5, ⟨2, List.map eTimpl_Pair r1.Links⟩), (6, ⟨2, List.map eTimpl_Pair r1.Proxy⟩)] [(0, (bTlaws_World g0 g1 g2 g3 g4 g5 g6 g7 g8 g9 g10 g11 g12 a0)), (1, [Cell.nil, Cell.nil, Cell.nil, Cell.nil, cI (0 : Int), cI (0 : Int), cI (0 : Int), Cell.nil, Cell.nil, Cell.nil, Cell.nil, Cell.nil, Cell.nil, Cell.nil, Cell.nil, Cell.nil]), (2, [Cell.own 3, Cell.own 4, Cell.own 5, Cell.own 6, cI r1.Skew, cI a0.Now, cI a0.Fresh, Cell.nil, Cell.nil, Cell.nil, Cell.nil, Cell.nil, Cell.nil, Cell.nil, Cell.nil, Cell.nil])] 7) (Le.mk [(0, 0), (1, 1), (2, 2), (3, 3), (4, 4), (5, 5), (6, 6)] hm rfl (Sa2 (Sa1 trivial)) (Ra4 trivial) (Ba2 (Ba1 trivial))) (L.nil ?_)
 refine WpC.seq (WpC.regionL ?_)
 refine L.fieldAddr Tryz.underlying70 rfl info61 rfl hF rfl rfl rfl rfl rfl ?_
 refine L.loadPtr shape61 hF rfl rfl rfl rfl rfl rfl ?_
 obtain ⟨r2, hr2, H⟩ := bindS H
 refine L.call [false] [] [] 7 hF rfl rfl rfl ent105 rfl rfl rfl rfl rfl (Flaws_toStringS_gives k g4 a0.Net r2 hr2) rfl ?_
 refine L.fieldAddr Tryz.underlying80 rfl info61 rfl hF rfl rfl rfl rfl rfl ?_
 refine L.storePtr shape61 hF rfl rfl rfl rfl rfl rfl rfl ?_
 refine L.le (τ := mkSt [(1, one (Cell.ptr 0 0)), (2, one (Cell.ptr 1 0)), (3, one (Cell.ptr 2 0))] [(3, ⟨1, List.map eI r1.UserRealm⟩), (4, ⟨1, List.map eI r1.ServiceRealm⟩), (5, ⟨2, List.map eTimpl_Pair r1.Links⟩), (6, ⟨2, List.map eTimpl_Pair r1.Proxy⟩), (7, ⟨1, List.map eS r2⟩)] [(0, (bTlaws_World g0 g1 g2 g3 g4 g5 g6 g7 g8 g9 g10 g11 g12 a0)), (1, [Cell.nil, Cell.nil, Cell.nil, Cell.nil, cI (0 : Int), cI (0 : Int), cI (0 : Int), Cell.nil, Cell.nil, Cell.nil, Cell.nil, Cell.nil, Cell.nil, Cell.nil, Cell.nil, Cell.nil]), (2, [Cell.own 3, Cell.own 4, Cell.own 5, Cell.own 6, cI r1.Skew, cI a0.Now, cI a0.Fresh, Cell.own 7, Cell.nil, Cell.nil, Cell.nil, Cell.nil, Cell.nil, Cell.nil, Cell.nil, Cell.nil])] 8) (Le.mk [(0, 0), (1, 1), (2, 2), (3, 3), (4, 4), (5, 5), (6, 6), (7, 7)] hm rfl (Sa2 (Sa1 trivial)) (Ra4 (Ra1 trivial)) (Ba2 (Ba1 trivial))) (L.nil ?_)
 refine WpC.seq (WpC.regionL ?_)
 refine L.fieldAddr Tryz.underlying70 rfl info63 rfl hF rfl rfl rfl rfl rfl ?_
 refine L.loadPtr shape63 hF rfl rfl rfl rfl rfl rfl ?_
 obtain ⟨r3, hr3, H⟩ := bindS H
 refine L.call [false] [] [] 8 hF rfl rfl rfl ent106 rfl rfl rfl rfl rfl (Flaws_toKnown_gives k g5 g6 (⟨a0.Known.Terms, a0.Known.Keys⟩ : Tlaws_Known) r3 hr3) rfl ?_
 refine L.fieldAddr Tryz.underlying80 rfl info73 rfl hF rfl rfl rfl rfl rfl ?_
 refine L.storePtr shape73 hF rfl rfl rfl rfl rfl rfl rfl ?_
 refine L.le (τ := mkSt [(1, one (Cell.ptr 0 0)), (2, one (Cell.ptr 1 0)), (3, one (Cell.ptr 2 0))] [(3, ⟨1, List.map eI r1.UserRealm⟩), (4, ⟨1, List.map eI r1.ServiceRealm⟩), (5, ⟨2, List.map eTimpl_Pair r1.Links⟩), (6, ⟨2, List.map eTimpl_Pair r1.Proxy⟩), (7, ⟨1, List.map eS r2⟩), (8, ⟨1, List.map eS r3.Terms⟩), (9, ⟨1, List.map eI r3.Keys⟩)] [(0, (bTlaws_World g0 g1 g2 g3 g4 g5 g6 g7 g8 g9 g10 g11 g12 a0)), (1, [Cell.nil, Cell.nil, Cell.nil, Cell.nil, cI (0 : Int), cI (0 : Int), cI (0 : Int), Cell.nil, Cell.nil, Cell.nil, Cell.nil, Cell.nil, Cell.nil, Cell.nil, Cell.nil, Cell.nil]), (2, [Cell.own 3, Cell.own 4, Cell.own 5, Cell.own 6, cI r1.Skew, cI a0.Now, cI a0.Fresh, Cell.own 7, Cell.own 8, Cell.own 9, Cell.nil, Cell.nil, Cell.nil, Cell.nil, Cell.nil, Cell.nil])] 10) (Le.mk [(0, 0), (1, 1), (2, 2), (3, 3), (4, 4), (5, 5), (6, 6), (7, 7), (8, 8), (9, 9)] hm rfl (Sa2 (Sa1 trivial)) (Ra4 (Ra2 (Ra1 trivial))) (Ba2 (Ba1 trivial))) (L.nil ?_)
 refine WpC.seq (WpC.regionL ?_)
 refine L.fieldAddr Tryz.underlying70 rfl info64 rfl hF rfl rfl rfl rfl rfl ?_
 refine L.loadPtr shape64 hF rfl rfl rfl rfl rfl rfl ?_
 obtain ⟨r4, hr4, H⟩ := bindS H
 refine L.call [false] [] [] 10 hF rfl rfl rfl ent107 rfl rfl rfl rfl rfl (Flaws_toWaitS_gives k g7 a0.Waits r4 hr4) rfl ?_
 refine L.fieldAddr Tryz.underlying80 rfl info74 rfl hF rfl rfl rfl rfl rfl ?_
 refine L.storePtr shape74 hF rfl rfl rfl rfl rfl rfl rfl ?_
 refine L.le (τ := mkSt [(1, one (Cell.ptr 0 0)), (2, one (Cell.ptr 1 0)), (3, one (Cell.ptr 2 0))] [(3, ⟨1, List.map eI r1.UserRealm⟩), (4, ⟨1, List.map eI r1.ServiceRealm⟩), (5, ⟨2, List.map eTimpl_Pair r1.Links⟩), (6, ⟨2, List.map eTimpl_Pair r1.Proxy⟩), (7, ⟨1, List.map eS r2⟩), (8, ⟨1, List.map eS r3.Terms⟩), (9, ⟨1, List.map eI r3.Keys⟩), (10, ⟨4, List.map eTimpl_Wait r4⟩)] [(0, (bTlaws_World g0 g1 g2 g3 g4 g5 g6 g7 g8 g9 g10 g11 g12 a0)), (1, [Cell.nil, Cell.nil, Cell.nil, Cell.nil, cI (0 : Int), cI (0 : Int), cI (0 : Int), Cell.nil, Cell.nil, Cell.nil, Cell.nil, Cell.nil, Cell.nil, Cell.nil, Cell.nil, Cell.nil]), (2, [Cell.own 3, Cell.own 4, Cell.own 5, Cell.own 6, cI r1.Skew, cI a0.Now, cI a0.Fresh, Cell.own 7, Cell.own 8, Cell.own 9, Cell.own 10, Cell.nil, Cell.nil, Cell.nil, Cell.nil, Cell.nil])] 11) (Le.mk [(0, 0), (1, 1), (2, 2), (3, 3), (4, 4), (5, 5), (6, 6), (7, 7), (8, 8), (9, 9), (10, 10)] hm rfl (Sa2 (Sa1 trivial)) (Ra8 trivial) (Ba2 (Ba1 trivial))) (L.nil ?_)
 refine WpC.seq (WpC.regionL ?_)
 refine L.fieldAddr Tryz.underlying70 rfl info65 rfl hF rfl rfl rfl rfl rfl ?_
 refine L.loadPtr shape65 hF rfl rfl rfl rfl rfl rfl ?_
 obtain ⟨r5, hr5, H⟩ := bindS H
 refine L.call [false] [] [] 11 hF rfl rfl rfl ent108 rfl rfl rfl rfl rfl (Flaws_toCredS_gives k g8 a0.Creds r5 hr5) rfl ?_
 refine L.fieldAddr Tryz.underlying80 rfl info75 rfl hF rfl rfl rfl rfl rfl ?_
 refine L.storePtr shape75 hF rfl rfl rfl rfl rfl rfl rfl ?_
 refine L.le (τ := mkSt [(1, one (Cell.ptr 0 0)), (2, one (Cell.ptr 1 0)), (3, one (Cell.ptr 2 0))] [(3, ⟨1, List.map eI r1.UserRealm⟩), (4, ⟨1, List.map eI r1.ServiceRealm⟩), (5, ⟨2, List.map eTimpl_Pair r1.Links⟩), (6, ⟨2, List.map eTimpl_Pair r1.Proxy⟩), (7, ⟨1, List.map eS r2⟩), (8, ⟨1, List.map eS r3.Terms⟩), (9, ⟨1, List.map eI r3.Keys⟩), (10, ⟨4, List.map eTimpl_Wait r4⟩), (11, ⟨8, List.map eTimpl_Cred r5⟩)] [(0, (bTlaws_World g0 g1 g2 g3 g4 g5 g6 g7 g8 g9 g10 g11 g12 a0)), (1, [Cell.nil, Cell.nil, Cell.nil, Cell.nil, cI (0 : Int), cI (0 : Int), cI (0 : Int), Cell.nil, Cell.nil, Cell.nil, Cell.nil, Cell.nil, Cell.nil, Cell.nil, Cell.nil, Cell.nil]), (2, [Cell.own 3, Cell.own 4, Cell.own 5, Cell.own 6, cI r1.Skew, cI a0.Now, cI a0.Fresh, Cell.own 7, Cell.own 8, Cell.own 9, Cell.own 10, Cell.own 11, Cell.nil, Cell.nil, Cell.nil, Cell.nil])] 12) (Le.mk [(0, 0), (1, 1), (2, 2), (3, 3), (4, 4), (5, 5), (6, 6), (7, 7), (8, 8), (9, 9), (10, 10), (11, 11)] hm rfl (Sa2 (Sa1 trivial)) (Ra8 (Ra1 trivial)) (Ba2 (Ba1 trivial))) (L.nil ?_)
 refine WpC.seq (WpC.regionL ?_)
 refine L.fieldAddr Tryz.underlying70 rfl info66 rfl hF rfl rfl rfl rfl rfl ?_
 refine L.loadPtr shape66 hF rfl rfl rfl rfl rfl rfl ?_
 obtain ⟨r6, hr6, H⟩ := bindS H
 refine L.call [false] [] [] 12 hF rfl rfl rfl ent109 rfl rfl rfl rfl rfl (Flaws_toCacheS_gives k g9 a0.Caches r6 hr6) rfl ?_
 refine L.fieldAddr Tryz.underlying80 rfl info76 rfl hF rfl rfl rfl rfl rfl ?_
 refine L.storePtr shape76 hF rfl rfl rfl rfl rfl rfl rfl ?_
 refine L.le (τ := mkSt [(1, one (Cell.ptr 0 0)), (2, one (Cell.ptr 1 0)), (3, one (Cell.ptr 2 0))] [(3, ⟨1, List.map eI r1.UserRealm⟩), (4, ⟨1, List.map eI r1.ServiceRealm⟩), (5, ⟨2, List.map eTimpl_Pair r1.Links⟩), (6, ⟨2, List.map eTimpl_Pair r1.Proxy⟩), (7, ⟨1, List.map eS r2⟩), (8, ⟨1, List.map eS r3.Terms⟩), (9, ⟨1, List.map eI r3.Keys⟩), (10, ⟨4, List.map eTimpl_Wait r4⟩), (11, ⟨8, List.map eTimpl_Cred r5⟩), (12, ⟨2, List.map eTimpl_Cache r6⟩)] [(0, (bTlaws_World g0 g1 g2 g3 g4 g5 g6 g7 g8 g9 g10 g11 g12 a0)), (1, [Cell.nil, Cell.nil, Cell.nil, Cell.nil, cI (0 : Int), cI (0 : Int), cI (0 : Int), Cell.nil, Cell.nil, Cell.nil, Cell.nil, Cell.nil, Cell.nil, Cell.nil, Cell.nil, Cell.nil]), (2, [Cell.own 3, Cell.own 4, Cell.own 5, Cell.own 6, cI r1.Skew, cI a0.Now, cI a0.Fresh, Cell.own 7, Cell.own 8, Cell.own 9, Cell.own 10, Cell.own 11, Cell.own 12, Cell.nil, Cell.nil, Cell.nil])] 13) (Le.mk [(0, 0), (1, 1), (2, 2), (3, 3), (4, 4), (5, 5), (6, 6), (7, 7), (8, 8), (9, 9), (10, 10), (11, 11), (12, 12)] hm rfl (Sa2 (Sa1 trivial)) (Ra8 (Ra2 trivial)) (Ba2 (Ba1 trivial))) (L.nil ?_)
 refine WpC.seq (WpC.regionL ?_)
 refine L.fieldAddr Tryz.underlying70 rfl info67 rfl hF rfl rfl rfl rfl rfl ?_
 refine L.loadPtr shape67 hF rfl rfl rfl rfl rfl rfl ?_
 obtain ⟨r7, hr7, H⟩ := bindS H
 refine L.call [false] [] [] 13 hF rfl rfl rfl ent110 rfl rfl rfl rfl rfl (Flaws_toEventS_gives k g10 a0.Log r7 hr7) rfl ?_
 refine L.fieldAddr Tryz.underlying80 rfl info77 rfl hF rfl rfl rfl rfl rfl ?_
 refine L.storePtr shape77 hF rfl rfl rfl rfl rfl rfl rfl ?_
 refine L.le (τ := mkSt [(1, one (Cell.ptr 0 0)), (2, one (Cell.ptr 1 0)), (3, one (Cell.ptr 2 0))] [(3, ⟨1, List.map eI r1.UserRealm⟩), (4, ⟨1, List.map eI r1.ServiceRealm⟩), (5, ⟨2, List.map eTimpl_Pair r1.Links⟩), (6, ⟨2, List.map eTimpl_Pair r1.Proxy⟩), (7, ⟨1, List.map eS r2⟩), (8, ⟨1, List.map eS r3.Terms⟩), (9, ⟨1, List.map eI r3.Keys⟩), (10, ⟨4, List.map eTimpl_Wait r4⟩), (11, ⟨8, List.map eTimpl_Cred r5⟩), (12, ⟨2, List.map eTimpl_Cache r6⟩), (13, ⟨11, List.map eTimpl_Event r7⟩)] [(0, (bTlaws_World g0 g1 g2 g3 g4 g5 g6 g7 g8 g9 g10 g11 g12 a0)), (1, [Cell.nil, Cell.nil, Cell.nil, Cell.nil, cI (0 : Int), cI (0 : Int), cI (0 : Int), Cell.nil, Cell.nil, Cell.nil, Cell.nil, Cell.nil, Cell.nil, Cell.nil, Cell.nil, Cell.nil]), (2, [Cell.own 3, Cell.own 4, Cell.own 5, Cell.own 6, cI r1.Skew, cI a0.Now, cI a0.Fresh, Cell.own 7, Cell.own 8, Cell.own 9, Cell.own 10, Cell.own 11, Cell.own 12, Cell.own 13, Cell.nil, Cell.nil])] 14) (Le.mk [(0, 0), (1, 1), (2, 2), (3, 3), (4, 4), (5, 5), (6, 6), (7, 7), (8, 8), (9, 9), (10, 10), (11, 11), (12, 12), (13, 13)] hm rfl (Sa2 (Sa1 trivial)) (Ra8 (Ra2 (Ra1 trivial))) (Ba2 (Ba1 trivial))) (L.nil ?_)
 refine WpC.seq (WpC.regionL ?_)
 refine L.fieldAddr Tryz.underlying70 rfl info68 rfl hF rfl rfl rfl rfl rfl ?_
 refine L.loadPtr shape68 hF rfl rfl rfl rfl rfl rfl ?_
 obtain ⟨r8, hr8, H⟩ := bindS H
 refine L.call [false] [] [] 14 hF rfl rfl rfl ent111 rfl rfl rfl rfl rfl (Flaws_toAcceptS_gives k g11 a0.Accepts r8 hr8) rfl ?_
 refine L.fieldAddr Tryz.underlying80 rfl info78 rfl hF rfl rfl rfl rfl rfl ?_
 refine L.storePtr shape78 hF rfl rfl rfl rfl rfl rfl rfl ?_
 refine L.le (τ := mkSt [(1, one (Cell.ptr 0 0)), (2, one (Cell.ptr 1 0)), (3, one (Cell.ptr 2 0))] [(3, ⟨1, List.map eI r1.UserRealm⟩), (4, ⟨1, List.map eI r1.ServiceRealm⟩), (5, ⟨2, List.map eTimpl_Pair r1.Links⟩), (6, ⟨2, List.map eTimpl_Pair r1.Proxy⟩), (7, ⟨1, List.map eS r2⟩), (8, ⟨1, List.map eS r3.Terms⟩), (9, ⟨1, List.map eI r3.Keys⟩), (10, ⟨4, List.map eTimpl_Wait r4⟩), (11, ⟨8, List.map eTimpl_Cred r5⟩), (12, ⟨2, List.map eTimpl_Cache r6⟩), (13, ⟨11, List.map eTimpl_Event r7⟩), (14, ⟨15, List.map eTimpl_Accept r8⟩)] [(0, (bTlaws_World g0 g1 g2 g3 g4 g5 g6 g7 g8 g9 g10 g11 g12 a0)), (1, [Cell.nil, Cell.nil, Cell.nil, Cell.nil, cI (0 : Int), cI (0 : Int), cI (0 : Int), Cell.nil, Cell.nil, Cell.nil, Cell.nil, Cell.nil, Cell.nil, Cell.nil, Cell.nil, Cell.nil]), (2, [Cell.own 3, Cell.own 4, Cell.own 5, Cell.own 6, cI r1.Skew, cI a0.Now, cI a0.Fresh, Cell.own 7, Cell.own 8, Cell.own 9, Cell.own 10, Cell.own 11, Cell.own 12, Cell.own 13, Cell.own 14, Cell.nil])] 15) (Le.mk [(0, 0), (1, 1), (2, 2), (3, 3), (4, 4), (5, 5), (6, 6), (7, 7), (8, 8), (9, 9), (10, 10), (11, 11), (12, 12), (13, 13), (14, 14)] hm rfl (Sa2 (Sa1 trivial)) (Ra8 (Ra4 trivial)) (Ba2 (Ba1 trivial))) (L.nil ?_)
 refine WpC.seq (WpC.regionL ?_)
 refine L.fieldAddr Tryz.underlying70 rfl info22 rfl hF rfl rfl rfl rfl rfl ?_
 refine L.loadPtr shape22 hF rfl rfl rfl rfl rfl rfl ?_
 obtain ⟨r9, hr9, H⟩ := bindS H
 refine L.call [false] [] [] 15 hF rfl rfl rfl ent56 rfl rfl rfl rfl rfl (Flaws_toIntS_gives k g12 a0.Leaked r9 hr9) rfl ?_
 refine L.fieldAddr Tryz.underlying80 rfl info22 rfl hF rfl rfl rfl rfl rfl ?_
 refine L.storePtr shape22 hF rfl rfl rfl rfl rfl rfl rfl ?_
 refine L.le (τ := mkSt [(2, one (Cell.ptr 0 0)), (3, one (Cell.ptr 1 0))] [(2, ⟨1, List.map eI r1.UserRealm⟩), (3, ⟨1, List.map eI r1.ServiceRealm⟩), (4, ⟨2, List.map eTimpl_Pair r1.Links⟩), (5, ⟨2, List.map eTimpl_Pair r1.Proxy⟩), (6, ⟨1, List.map eS r2⟩), (7, ⟨1, List.map eS r3.Terms⟩), (8, ⟨1, List.map eI r3.Keys⟩), (9, ⟨4, List.map eTimpl_Wait r4⟩), (10, ⟨8, List.map eTimpl_Cred r5⟩), (11, ⟨2, List.map eTimpl_Cache r6⟩), (12, ⟨11, List.map eTimpl_Event r7⟩), (13, ⟨15, List.map eTimpl_Accept r8⟩), (14, ⟨1, List.map eI r9⟩)] [(0, [Cell.nil, Cell.nil, Cell.nil, Cell.nil, cI (0 : Int), cI (0 : Int), cI (0 : Int), Cell.nil, Cell.nil, Cell.nil, Cell.nil, Cell.nil, Cell.nil, Cell.nil, Cell.nil, Cell.nil]), (1, [Cell.own 2, Cell.own 3, Cell.own 4, Cell.own 5, cI r1.Skew, cI a0.Now, cI a0.Fresh, Cell.own 6, Cell.own 7, Cell.own 8, Cell.own 9, Cell.own 10, Cell.own 11, Cell.own 12, Cell.own 13, Cell.own 14])] 15) (Le.mk [(0, 1), (1, 2), (2, 3), (3, 4), (4, 5), (5, 6), (6, 7), (7, 8), (8, 9), (9, 10), (10, 11), (11, 12), (12, 13), (13, 14), (14, 15)] hm rfl (Sa2 trivial) (Ra8 (Ra4 (Ra1 trivial))) (Ba2 trivial)) (L.nil ?_)
 refine WpC.seq (WpC.regionL ?_)
 refine L.loadPtr shape80 hF rfl rfl rfl rfl rfl rfl ?_
 refine L.storePtr shape80 hF rfl rfl rfl rfl rfl rfl rfl ?_
 refine L.le (τ := mkSt [(2, one (Cell.ptr 0 0))] [(1, ⟨1, List.map eI r1.UserRealm⟩), (2, ⟨1, List.map eI r1.ServiceRealm⟩), (3, ⟨2, List.map eTimpl_Pair r1.Links⟩), (4, ⟨2, List.map eTimpl_Pair r1.Proxy⟩), (5, ⟨1, List.map eS r2⟩), (6, ⟨1, List.map eS r3.Terms⟩), (7, ⟨1, List.map eI r3.Keys⟩), (8, ⟨4, List.map eTimpl_Wait r4⟩), (9, ⟨8, List.map eTimpl_Cred r5⟩), (10, ⟨2, List.map eTimpl_Cache r6⟩), (11, ⟨11, List.map eTimpl_Event r7⟩), (12, ⟨15, List.map eTimpl_Accept r8⟩), (13, ⟨1, List.map eI r9⟩)] [(0, [Cell.own 1, Cell.own 2, Cell.own 3, Cell.own 4, cI r1.Skew, cI a0.Now, cI a0.Fresh, Cell.own 5, Cell.own 6, Cell.own 7, Cell.own 8, Cell.own 9, Cell.own 10, Cell.own 11, Cell.own 12, Cell.own 13])] 14) (Le.mk [(0, 0), (1, 2), (2, 3), (3, 4), (4, 5), (5, 6), (6, 7), (7, 8), (8, 9), (9, 10), (10, 11), (11, 12), (12, 13), (13, 14)] hm rfl (Sa1 trivial) (Ra8 (Ra4 (Ra1 trivial))) (Ba1 trivial)) (L.nil ?_)
 refine WpC.ret ?_
 cases H
 exact Leaves.ret rfl rfl rfl ⟨rfl, rfl⟩
/-! ### Fspec_l5All -/
def Fspec_l5All.l2 : Nat → (List Int) → Int → Int → Option Bool
 | 0, _, _, _ => none
 | k2 + 1, v54, v55, v56 => cond (decide (v56 < (v54.length : Int))) ((at? v54 v56).bind fun b63 => cond (decide (b63 < (0 : Int))) (some false) ((at? v54 v56).bind fun b64 => cond (decide (b64 ≥ v55)) (some false) ((Fspec_l5All.l2 k2) v54 v55 (IntKind.i64.wrap (v56 + (1 : Int)))))) (some true)
def Fspec_l5All (k : Nat) (a0 : List Int) (a1 : Int) (a2 : Int) : Option Bool := cond (decide ((a0.length : Int) > a1)) (some false) (Fspec_l5All.l2 k a0 a2 (0 : Int))
theorem ent104 : MG.Enters Tryz.prog 104 := ⟨Tryz.f104, Tryz.func104, rfl, by decide⟩
set_option maxHeartbeats 8000000 in
set_option maxRecDepth 100000 in
theorem Fspec_l5All_gives (k : Nat) (g0 : Bool) (a0 : List Int) (a1 : Int) (a2 : Int) (r : Bool) (H : Fspec_l5All k a0 a1 a2 = some r) : Gives Tryz.prog 104 [V.one (Cell.sl g0 (List.map eI a0)), V.one (cI a1), V.one (cI a2)] [] [V.one (cL r)] [] := by
 refine Gives.intro Tryz.func104 rfl rfl rfl rfl ?_
 intro F hF hm
 unfold Fspec_l5All at H
 obtain ⟨K, hK⟩ : ∃ K, k ≤ K := ⟨k, Nat.le_refl k⟩
 refine WpC.seq (WpC.regionL ?_)
 refine L.assign hF rfl rfl rfl (L.nil ?_)
 refine WpC.seq (WpC.seq (WpC.regionL ?_))
 refine L.move hF rfl rfl rfl ?_
 refine L.lenR (xs := a0) (e := eI) Tryz.underlying22 hF rfl rfl rfl rfl ?_
 refine L.move hF rfl rfl rfl ?_
 refine L.bin hF rfl rfl rfl rfl rfl rfl (L.nil ?_)
 refine WpC.cond rfl (fun hc => ?_) (fun hc => ?_)
 ·replace H := condT hc H
  refine WpC.seq (WpC.regionL ?_)
  refine L.assign hF rfl rfl rfl (L.nil ?_)
  refine WpC.ret ?_
  cases H
  exact Leaves.ret rfl rfl rfl ⟨rfl, rfl⟩
 ·replace H := condF hc H
  refine WpC.skip (WpC.seq (WpC.seq (WpC.regionL ?_)))
  refine L.assign hF rfl rfl rfl (L.nil ?_)
  refine WpC.block ?_
  refine WpC.loopL (P := Tryz.prog) (fun n σ => ∃ v54 : List Int, ∃ v55 : Int, ∃ v56 : Int, n ≤ K ∧ Fspec_l5All.l2 n v54 v55 v56 = some r ∧ σ = mkSt [(0, one (Cell.sl g0 (List.map eI v54))), (2, one (cI v55)), (7, one (cI v56))] [] [] 0) k ⟨_, ⟨a0, a2, (0 : Int), by omega, H, rfl⟩, Le.mk [] hm rfl (Sa2 (Sa1 trivial)) trivial trivial⟩ ?_
  clear H
  rintro k2 _ ⟨v54, v55, v56, hk2, H, rfl⟩
  cases k2 with
  | zero => cases H
  | succ k2 =>
   rw [Fspec_l5All.l2] at H
   refine WpC.seq (WpC.seq (WpC.regionL ?_))
   refine L.move hF rfl rfl rfl ?_
   refine L.move hF rfl rfl rfl ?_
   refine L.lenR (xs := v54) (e := eI) Tryz.underlying22 hF rfl rfl rfl rfl ?_
   refine L.bin hF rfl rfl rfl rfl rfl rfl (L.nil ?_)
   refine WpC.cond rfl (fun hc => ?_) (fun hc => ?_)
   ·replace H := condT hc H
    refine WpC.skip (WpC.seq (WpC.block (WpC.seq (WpC.regionL ?_))))
    refine L.move hF rfl rfl rfl ?_
    refine L.move hF rfl rfl rfl ?_
    obtain ⟨b63, hb63, H⟩ := bindS H
    refine L.idxR (xs := v54) (e := eI) Tryz.underlying22 info3 hF rfl rfl rfl rfl rfl hb63 rfl rfl ?_
    refine L.loadPe shape3 hF rfl rfl rfl rfl rfl ?_
    refine L.bin hF rfl rfl rfl rfl rfl rfl ?_
    refine L.move hF rfl rfl rfl ?_
    refine L.split (fun hc => ?_) (fun hc => ?_)
    ·replace H := condT hc H
     refine L.off hF rfl rfl ?_
     refine L.off hF rfl rfl ?_
     refine L.off hF rfl rfl ?_
     refine L.off hF rfl rfl ?_
     refine L.off hF rfl rfl ?_
     refine L.off hF rfl rfl ?_
     refine L.pick hF rfl rfl rfl rfl (L.nil ?_)
     refine WpC.cond rfl (fun _ => ?_) (fun hc => by cases hc)
     refine WpC.seq (WpC.regionL ?_)
     refine L.assign hF rfl rfl rfl (L.nil ?_)
     refine WpC.ret ?_
     cases H
     exact Leaves.ret rfl rfl rfl ⟨rfl, rfl⟩
    ·replace H := condF hc H
     refine L.move hF rfl rfl rfl ?_
     refine L.move hF rfl rfl rfl ?_
     obtain ⟨b64, hb64, H⟩ := bindS H
     refine L.idxR (xs := v54) (e := eI) Tryz.underlying22 info3 hF rfl rfl rfl rfl rfl hb64 rfl rfl ?_
     refine L.loadPe shape3 hF rfl rfl rfl rfl rfl ?_
     refine L.move hF rfl rfl rfl ?_
     refine L.bin hF rfl rfl rfl rfl rfl rfl ?_
     refine L.pick hF rfl rfl rfl rfl (L.nil ?_)
     refine WpC.cond rfl (fun hc => ?_) (fun hc => ?_)
     ·replace H := condT hc H
      refine WpC.seq (WpC.regionL ?_)
      refine L.assign hF rfl rfl rfl (L.nil ?_)
      refine WpC.ret ?_
      cases H
      exact Leaves.ret rfl rfl rfl ⟨rfl, rfl⟩
     ·replace H := condF hc H
      refine WpC.skip (WpC.regionL ?_)
      refine L.move hF rfl rfl rfl ?_
      refine L.bin hF rfl rfl rfl rfl rfl rfl ?_
      refine L.assign hF rfl rfl rfl (L.nil ?_)
      exact ⟨k2, _, by omega, ⟨v54, v55, (IntKind.i64.wrap (v56 + (1 : Int))), by omega, H, rfl⟩, Le.mk [] hm rfl (Sa2 (Sa1 trivial)) trivial trivial⟩
   ·replace H := condF hc H
    refine WpC.exit (WpC.seq (WpC.regionL ?_))
    refine L.assign hF rfl rfl rfl (L.nil ?_)
    refine WpC.ret ?_
    cases H
    exact Leaves.ret rfl rfl rfl ⟨rfl, rfl⟩
/-! ### Fspec_l6Has -/
def Fspec_l6Has.l2 : Nat → (List Timpl_Pair) → Int → Timpl_Pair → Option Bool
 | 0, _, _, _ => none
 | k2 + 1, v24, v25, v26 => cond (decide (v25 < (v24.length : Int))) ((at? v24 v25).bind fun b28 => cond ((b28.A == v26.A) && ((b28.B == v26.B) && true)) (some true) ((Fspec_l6Has.l2 k2) v24 (IntKind.i64.wrap (v25 + (1 : Int))) v26)) (some false)
def Fspec_l6Has (k : Nat) (a0 : List Timpl_Pair) (a1 : Timpl_Pair) : Option Bool := Fspec_l6Has.l2 k a0 (0 : Int) a1
theorem ent225 : MG.Enters Tryz.prog 225 := ⟨Tryz.f225, Tryz.func225, rfl, by decide⟩
set_option maxHeartbeats 8000000 in
set_option maxRecDepth 100000 in
theorem Fspec_l6Has_gives (k : Nat) (g0 : Bool) (a0 : List Timpl_Pair) (a1 : Timpl_Pair) (r : Bool) (H : Fspec_l6Has k a0 a1 = some r) : Gives Tryz.prog 225 [V.one (Cell.sl g0 (List.map eTimpl_Pair a0)), V.agg [cI a1.A, cI a1.B]] [] [V.one (cL r)] [] := by
 refine Gives.intro Tryz.func225 rfl rfl rfl rfl ?_
 intro F hF hm
 unfold Fspec_l6Has at H
 obtain ⟨K, hK⟩ : ∃ K, k ≤ K := ⟨k, Nat.le_refl k⟩
 refine WpC.seq (WpC.regionL ?_)
 refine L.box 3 hF rfl rfl rfl rfl ?_
 refine L.assign hF rfl rfl rfl (L.nil ?_)
 refine WpC.seq (WpC.seq (WpC.regionL ?_))
 refine L.assign hF rfl rfl rfl (L.nil ?_)
 refine WpC.block ?_
 refine WpC.loopL (P := Tryz.prog) (fun n σ => ∃ v24 : List Timpl_Pair, ∃ v25 : Int, ∃ v26 : Timpl_Pair, n ≤ K ∧ Fspec_l6Has.l2 n v24 v25 v26 = some r ∧ σ = mkSt [(0, one (Cell.sl g0 (List.map eTimpl_Pair v24))), (3, one (Cell.ptr 0 0)), (5, one (cI v25))] [] [(0, [cI v26.A, cI v26.B])] 1) k ⟨_, ⟨a0, (0 : Int), a1, by omega, H, rfl⟩, Le.mk [(0, 3)] hm rfl (Sa2 (Sa1 trivial)) trivial (Ba1 trivial)⟩ ?_
 clear H
 rintro k2 _ ⟨v24, v25, v26, hk2, H, rfl⟩
 cases k2 with
 | zero => cases H
 | succ k2 =>
  rw [Fspec_l6Has.l2] at H
  refine WpC.seq (WpC.seq (WpC.regionL ?_))
  refine L.move hF rfl rfl rfl ?_
  refine L.move hF rfl rfl rfl ?_
  refine L.lenR (xs := v24) (e := eTimpl_Pair) Tryz.underlying42 hF rfl rfl rfl rfl ?_
  refine L.bin hF rfl rfl rfl rfl rfl rfl (L.nil ?_)
  refine WpC.cond rfl (fun hc => ?_) (fun hc => ?_)
  ·replace H := condT hc H
   refine WpC.skip (WpC.seq (WpC.block (WpC.seq ?_)))
   refine S.begin mixed (by kernel_rfl) ?_
   refine S.st 0 rfl rfl ((Ca.move).quiet) (fun Q0 k0 => L.move hF rfl rfl rfl (L.nil k0)) ?_
   refine S.st 1 rfl rfl ((Ca.move).quiet) (fun Q0 k0 => L.move hF rfl rfl rfl (L.nil k0)) ?_
   obtain ⟨b28, hb28, H⟩ := bindS H
   refine S.st 2 rfl rfl ((Ca.indexAddr).quiet) (fun Q0 k0 => L.idxR (xs := v24) (e := eTimpl_Pair) Tryz.underlying42 info199 hF rfl rfl rfl rfl rfl hb28 rfl rfl (L.nil k0)) ?_
   refine S.st 3 rfl rfl (Qu.load) (fun Q0 k0 => L.loadPe shape199 hF rfl rfl rfl rfl rfl (L.nil k0)) ?_
   refine S.st 4 rfl rfl (Qu.load) (fun Q0 k0 => L.loadPtr shape199 hF rfl rfl rfl rfl rfl rfl (L.nil k0)) ?_
   refine S.st 5 rfl rfl ((Ca.eqA (r := ((b28.A == v26.A) && ((b28.B == v26.B) && true))) rfl rfl rfl rfl (by kernel_rfl) (by kernel_rfl)).quiet) (fun Q0 k0 => L.eqA (r := ((b28.A == v26.A) && ((b28.B == v26.B) && true))) hF rfl rfl rfl rfl rfl rfl (by kernel_rfl) (by kernel_rfl) (L.nil k0)) ?_
   refine S.nil ?_
   refine WpC.cond rfl (fun hc => ?_) (fun hc => ?_)
   ·replace H := condT hc H
    refine WpC.seq (WpC.regionL ?_)
    refine L.assign hF rfl rfl rfl (L.nil ?_)
    refine WpC.ret ?_
    cases H
    exact Leaves.ret rfl rfl rfl ⟨rfl, rfl⟩
   ·replace H := condF hc H
    refine WpC.skip (WpC.regionL ?_)
    refine L.move hF rfl rfl rfl ?_
    refine L.bin hF rfl rfl rfl rfl rfl rfl ?_
    refine L.assign hF rfl rfl rfl (L.nil ?_)
    exact ⟨k2, _, by omega, ⟨v24, (IntKind.i64.wrap (v25 + (1 : Int))), v26, by omega, H, rfl⟩, Le.mk [(0, 0)] hm rfl (Sa2 (Sa1 trivial)) trivial (Ba1 trivial)⟩
  ·replace H := condF hc H
   refine WpC.exit (WpC.seq (WpC.regionL ?_))
   refine L.assign hF rfl rfl rfl (L.nil ?_)
   refine WpC.ret ?_
   cases H
   exact Leaves.ret rfl rfl rfl ⟨rfl, rfl⟩
end Go.Proofs.YtgjbgakcfcomdaaGreat.M
