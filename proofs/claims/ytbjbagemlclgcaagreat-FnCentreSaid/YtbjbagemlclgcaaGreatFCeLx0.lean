import Derived.Test.YtbjbagemlclgcaaGreatKCeL1
import Derived.Test.YtbjbagemlclgcaaGreatProg
namespace Go.Proofs.YtbjbagemlclgcaaGreat.M
open Go Go.MG Tryz
set_option linter.unusedVariables false
set_option linter.unusedSimpArgs false
set_option maxHeartbeats 8000000
set_option maxRecDepth 100000
structure T_Auth where
  Client : Int
  Time : Int
  Seq : Int
def eT_Auth (x : T_Auth) : List Cell := [cI x.Client, cI x.Time, cI x.Seq]
def bT_Auth (x : T_Auth) : List Cell := [cI x.Client, cI x.Time, cI x.Seq]
structure T_Rest where
  Servers : Int
  Ops : Int
  End : Int
def eT_Rest (x : T_Rest) : List Cell := [cI x.Servers, cI x.Ops, cI x.End]
def bT_Rest (x : T_Rest) : List Cell := [cI x.Servers, cI x.Ops, cI x.End]
structure T_Pair where
  A : Int
  B : Int
def eT_Pair (x : T_Pair) : List Cell := [cI x.A, cI x.B]
structure T_Config where
  UserRealm : List Int
  ServiceRealm : List Int
  Links : List T_Pair
  Proxy : List T_Pair
  Skew : Int
def eT_Config (x : T_Config) : List Cell := [Cell.ow 1 (List.map eI x.UserRealm), Cell.ow 1 (List.map eI x.ServiceRealm), Cell.ow 2 (List.map eT_Pair x.Links), Cell.ow 2 (List.map eT_Pair x.Proxy), cI x.Skew]
def bT_Config (g0 : Bool) (g1 : Bool) (g2 : Bool) (g3 : Bool) (x : T_Config) : List Cell := [Cell.sl g0 (List.map eI x.UserRealm), Cell.sl g1 (List.map eI x.ServiceRealm), Cell.sl g2 (List.map eT_Pair x.Links), Cell.sl g3 (List.map eT_Pair x.Proxy), cI x.Skew]
structure T_Event where
  Kind : Int
  Realm : Int
  By : Int
  Client : Int
  Service : Int
  Key : Int
  Parent : Int
  Evid : Int
  Rest : T_Rest
def eT_Event (x : T_Event) : List Cell := [cI x.Kind, cI x.Realm, cI x.By, cI x.Client, cI x.Service, cI x.Key, cI x.Parent, cI x.Evid, cI x.Rest.Servers, cI x.Rest.Ops, cI x.Rest.End]
def bT_Event (x : T_Event) : List Cell := [cI x.Kind, cI x.Realm, cI x.By, cI x.Client, cI x.Service, cI x.Key, cI x.Parent, cI x.Evid, cI x.Rest.Servers, cI x.Rest.Ops, cI x.Rest.End]
structure T_Reply where
  Code : Int
  Term : List UInt8
  Event : T_Event
def eT_Reply (x : T_Reply) : List Cell := [cI x.Code, cS x.Term, cI x.Event.Kind, cI x.Event.Realm, cI x.Event.By, cI x.Event.Client, cI x.Event.Service, cI x.Event.Key, cI x.Event.Parent, cI x.Event.Evid, cI x.Event.Rest.Servers, cI x.Event.Rest.Ops, cI x.Event.Rest.End]
def bT_Reply (x : T_Reply) : List Cell := [cI x.Code, cS x.Term, cI x.Event.Kind, cI x.Event.Realm, cI x.Event.By, cI x.Event.Client, cI x.Event.Service, cI x.Event.Key, cI x.Event.Parent, cI x.Event.Evid, cI x.Event.Rest.Servers, cI x.Event.Rest.Ops, cI x.Event.Rest.End]
structure T_Ticket where
  Client : Int
  Service : Int
  Key : Int
  Rest : T_Rest
  Path : List Int
  Via : List Int
def eT_Ticket (x : T_Ticket) : List Cell := [cI x.Client, cI x.Service, cI x.Key, cI x.Rest.Servers, cI x.Rest.Ops, cI x.Rest.End, Cell.ow 1 (List.map eI x.Path), Cell.ow 1 (List.map eI x.Via)]
def bT_Ticket (g0 : Bool) (g1 : Bool) (x : T_Ticket) : List Cell := [cI x.Client, cI x.Service, cI x.Key, cI x.Rest.Servers, cI x.Rest.Ops, cI x.Rest.End, Cell.sl g0 (List.map eI x.Path), Cell.sl g1 (List.map eI x.Via)]
structure T_Grant where
  Key : Int
  Service : Int
  Nonce : Int
  Rest : T_Rest
def eT_Grant (x : T_Grant) : List Cell := [cI x.Key, cI x.Service, cI x.Nonce, cI x.Rest.Servers, cI x.Rest.Ops, cI x.Rest.End]
def bT_Grant (x : T_Grant) : List Cell := [cI x.Key, cI x.Service, cI x.Nonce, cI x.Rest.Servers, cI x.Rest.Ops, cI x.Rest.End]
structure T_asked where
  c : T_Config
  realm : Int
  now : Int
  fresh : Int
  nonce : Int
  parts : List (List UInt8)
def eT_asked (x : T_asked) : List Cell := [Cell.ow 1 (List.map eI x.c.UserRealm), Cell.ow 1 (List.map eI x.c.ServiceRealm), Cell.ow 2 (List.map eT_Pair x.c.Links), Cell.ow 2 (List.map eT_Pair x.c.Proxy), cI x.c.Skew, cI x.realm, cI x.now, cI x.fresh, cI x.nonce, Cell.ow 1 (List.map eS x.parts)]
def bT_asked (g0 : Bool) (g1 : Bool) (g2 : Bool) (g3 : Bool) (g4 : Bool) (x : T_asked) : List Cell := [Cell.sl g0 (List.map eI x.c.UserRealm), Cell.sl g1 (List.map eI x.c.ServiceRealm), Cell.sl g2 (List.map eT_Pair x.c.Links), Cell.sl g3 (List.map eT_Pair x.c.Proxy), cI x.c.Skew, cI x.realm, cI x.now, cI x.fresh, cI x.nonce, Cell.sl g4 (List.map eS x.parts)]
structure U_l1Cur where
  b : List UInt8
  i : Int
  h : Int
def eU_l1Cur (x : U_l1Cur) : List Cell := [Cell.sl true (List.map eB x.b), cI x.i, cI x.h]
def bU_l1Cur (g0 : Bool) (x : U_l1Cur) : List Cell := [Cell.sl g0 (List.map eB x.b), cI x.i, cI x.h]
theorem mixed : Tryz.prog.follows .mixedOrders = true := by kernel_rfl
theorem shape3 : MG.shape Tryz.prog 3 = some (false, 1) := by kernel_rfl
theorem shape5 : MG.shape Tryz.prog 5 = some (false, 1) := by kernel_rfl
theorem shape9 : MG.shape Tryz.prog 9 = some (false, 1) := by kernel_rfl
theorem shape22 : MG.shape Tryz.prog 22 = some (false, 1) := by kernel_rfl
theorem shape35 : MG.shape Tryz.prog 35 = some (true, 3) := by kernel_rfl
theorem shape37 : MG.shape Tryz.prog 37 = some (true, 3) := by kernel_rfl
theorem shape42 : MG.shape Tryz.prog 42 = some (false, 1) := by kernel_rfl
theorem shape44 : MG.shape Tryz.prog 44 = some (true, 5) := by kernel_rfl
theorem shape54 : MG.shape Tryz.prog 54 = some (false, 1) := by kernel_rfl
theorem shape62 : MG.shape Tryz.prog 62 = some (true, 11) := by kernel_rfl
theorem shape64 : MG.shape Tryz.prog 64 = some (true, 13) := by kernel_rfl
theorem shape70 : MG.shape Tryz.prog 70 = some (false, 1) := by kernel_rfl
theorem shape76 : MG.shape Tryz.prog 76 = some (true, 8) := by kernel_rfl
theorem shape80 : MG.shape Tryz.prog 80 = some (true, 6) := by kernel_rfl
theorem shape130 : MG.shape Tryz.prog 130 = some (true, 10) := by kernel_rfl
theorem shape147 : MG.shape Tryz.prog 147 = some (true, 2) := by kernel_rfl
theorem info3 : Tryz.prog.info? 3 = some Tryz.t3 := by kernel_rfl
theorem info5 : Tryz.prog.info? 5 = some Tryz.t5 := by kernel_rfl
theorem info9 : Tryz.prog.info? 9 = some Tryz.t9 := by kernel_rfl
theorem info22 : Tryz.prog.info? 22 = some Tryz.t22 := by kernel_rfl
theorem info35 : Tryz.prog.info? 35 = some Tryz.t35 := by kernel_rfl
theorem info37 : Tryz.prog.info? 37 = some Tryz.t37 := by kernel_rfl
theorem info42 : Tryz.prog.info? 42 = some Tryz.t42 := by kernel_rfl
theorem info44 : Tryz.prog.info? 44 = some Tryz.t44 := by kernel_rfl
theorem info54 : Tryz.prog.info? 54 = some Tryz.t54 := by kernel_rfl
theorem info62 : Tryz.prog.info? 62 = some Tryz.t62 := by kernel_rfl
theorem info64 : Tryz.prog.info? 64 = some Tryz.t64 := by kernel_rfl
theorem info70 : Tryz.prog.info? 70 = some Tryz.t70 := by kernel_rfl
theorem info76 : Tryz.prog.info? 76 = some Tryz.t76 := by kernel_rfl
theorem info80 : Tryz.prog.info? 80 = some Tryz.t80 := by kernel_rfl
theorem info130 : Tryz.prog.info? 130 = some Tryz.t130 := by kernel_rfl
theorem info147 : Tryz.prog.info? 147 = some Tryz.t147 := by kernel_rfl
theorem info157 : Tryz.prog.info? 157 = some Tryz.t157 := by kernel_rfl
theorem built35 : builtA Tryz.prog 35 = fillA (fun x => ([(0, 1), (1, 1), (2, 1)] : List (Nat × Nat))[x]?) [cI (0 : Int), cI (0 : Int), cI (0 : Int)] := by kernel_rfl
theorem built37 : builtA Tryz.prog 37 = fillA (fun x => ([(0, 1), (1, 1), (2, 1)] : List (Nat × Nat))[x]?) [cI (0 : Int), cI (0 : Int), cI (0 : Int)] := by kernel_rfl
theorem built44 : builtA Tryz.prog 44 = fillA (fun x => ([(0, 1), (1, 1), (2, 1), (3, 1), (4, 1)] : List (Nat × Nat))[x]?) [Cell.nil, Cell.nil, Cell.nil, Cell.nil, cI (0 : Int)] := by kernel_rfl
theorem built62 : builtA Tryz.prog 62 = fillA (fun x => ([(0, 1), (1, 1), (2, 1), (3, 1), (4, 1), (5, 1), (6, 1), (7, 1), (8, 3)] : List (Nat × Nat))[x]?) [cI (0 : Int), cI (0 : Int), cI (0 : Int), cI (0 : Int), cI (0 : Int), cI (0 : Int), cI (0 : Int), cI (0 : Int), cI (0 : Int), cI (0 : Int), cI (0 : Int)] := by kernel_rfl
theorem built64 : builtA Tryz.prog 64 = fillA (fun x => ([(0, 1), (1, 1), (2, 11)] : List (Nat × Nat))[x]?) [cI (0 : Int), cS ([] : List UInt8), cI (0 : Int), cI (0 : Int), cI (0 : Int), cI (0 : Int), cI (0 : Int), cI (0 : Int), cI (0 : Int), cI (0 : Int), cI (0 : Int), cI (0 : Int), cI (0 : Int)] := by kernel_rfl
theorem built76 : builtA Tryz.prog 76 = fillA (fun x => ([(0, 1), (1, 1), (2, 1), (3, 3), (6, 1), (7, 1)] : List (Nat × Nat))[x]?) [cI (0 : Int), cI (0 : Int), cI (0 : Int), cI (0 : Int), cI (0 : Int), cI (0 : Int), Cell.nil, Cell.nil] := by kernel_rfl
theorem built80 : builtA Tryz.prog 80 = fillA (fun x => ([(0, 1), (1, 1), (2, 1), (3, 3)] : List (Nat × Nat))[x]?) [cI (0 : Int), cI (0 : Int), cI (0 : Int), cI (0 : Int), cI (0 : Int), cI (0 : Int)] := by kernel_rfl
theorem built130 : builtA Tryz.prog 130 = fillA (fun x => ([(0, 5), (5, 1), (6, 1), (7, 1), (8, 1), (9, 1)] : List (Nat × Nat))[x]?) [Cell.nil, Cell.nil, Cell.nil, Cell.nil, cI (0 : Int), cI (0 : Int), cI (0 : Int), cI (0 : Int), cI (0 : Int), Cell.nil] := by kernel_rfl
theorem built147 : builtA Tryz.prog 147 = fillA (fun x => ([(0, 1), (1, 1)] : List (Nat × Nat))[x]?) [cI (0 : Int), cI (0 : Int)] := by kernel_rfl
theorem built157 : builtA Tryz.prog 157 = fillA (fun x => ([(0, 1), (1, 1), (2, 1)] : List (Nat × Nat))[x]?) [Cell.nil, cI (0 : Int), cI (0 : Int)] := by kernel_rfl
abbrev bx (a b c d : Int) : List Cell := [cI a, cI b, cI c, cI d]
abbrev zc0 : List Cell := [cI 0, cS ([] : List UInt8), cI 0, cI 0, cI 0, cI 0, cI 0, cI 0, cI 0, cI 0, cI 0, cI 0, cI 0]
abbrev zc1 : List Cell := [cI 0, cI 0, cI 0, cI 0, cI 0, cI 0, Cell.nil, Cell.nil]
abbrev zc2 : List Cell := [Cell.nil, Cell.nil, Cell.nil, Cell.nil, cI 0]
abbrev zc3 : List Cell := [cI 0, cI 0, cI 0, cI 0, cI 0, cI 0]
/-! ### W_big -/
def W_big (k : Nat) (a0 : List UInt8) : Option Bool := some (decide ((a0.length : Int) > 1048576))
theorem ent21 : MG.Enters Tryz.prog 21 := ⟨Tryz.f21, func21, rfl, by decide⟩
theorem g21 (k : Nat) (g0 : Bool) (a0 : List UInt8) (r : Bool) (H : W_big k a0 = some r) : Gives Tryz.prog 21 [V.one (Cell.sl g0 (List.map eB a0))] [] [V.one (cL r)] [] := by
 refine Gives.intro func21 rfl rfl rfl rfl ?_; refine fx fun w0 T S0 ob oh hm => ?_
 have hF := fxe w0 T S0 6 ob oh
 unfold W_big at H; obtain ⟨K, hK⟩ := leK k; refine sr ?_; refine ag (L.nil ?_); refine sr ?_; refine mv ?_; refine L.lenR (xs := a0) (e := eB) underlying54 hF rfl rfl rfl rfl ?_; refine bi ?_; refine ag (L.nil ?_); cases H; exact WpC.ret rt
/-! ### S_l1New -/
def S_l1New.j2 (k : Nat) (v15 : List UInt8) (v16 : Int) : Option U_l1Cur := some (⟨v15, 0, v16⟩ : U_l1Cur)
def S_l1New.l3 : Nat → (List UInt8) → Int → Int → Option U_l1Cur
 | 0, _, _, _ => none
 | k3 + 1, v26, v27, v28 => cond (decide (v28 < (v26.length : Int))) (cond (decide (v28 < 4000)) ((at? v26 v28).bind fun b30 => (S_l1New.l3 k3) v26 (Go.bits .and .i64 (IntKind.i64.wrap ((IntKind.i64.wrap ((IntKind.i64.wrap (v27 * 131)) + (b30.toNat : Int))) + 7)) 1073741823) (IntKind.i64.wrap (v28 + 1))) (S_l1New.j2 k3 v26 v27)) (S_l1New.j2 k3 v26 v27)
def S_l1New (k : Nat) (a0 : List UInt8) : Option U_l1Cur := S_l1New.l3 k a0 (IntKind.i64.wrap (10101 + (a0.length : Int))) 0
theorem ent69 : MG.Enters Tryz.prog 69 := ⟨Tryz.f69, func69, rfl, by decide⟩
theorem g69 (k : Nat) (a0 : List UInt8) (r : U_l1Cur) (H : S_l1New k a0 = some r) : Gives Tryz.prog 69 [V.one (Cell.sl true (List.map eB a0))] [] [V.one (Cell.bx [Cell.sl true (List.map eB r.b), cI r.i, cI r.h])] [] := by
 refine Gives.intro func69 rfl rfl rfl rfl ?_; refine fx fun w0 T S0 ob oh hm => ?_
 have hF := fxe w0 T S0 32 ob oh
 unfold S_l1New at H; obtain ⟨K, hK⟩ := leK k; refine sr ?_; refine ag (L.nil ?_); refine sr ?_; refine mv ?_; refine L.lenR (xs := a0) (e := eB) underlying54 hF rfl rfl rfl rfl ?_; refine bi ?_; refine ag (L.nil ?_); refine WpC.join (fun σ => ∃ (kj2 : Nat) (v15 : List UInt8) (v16 : Int), kj2 ≤ K ∧ S_l1New.j2 kj2 v15 v16 = some r ∧ σ = mkSt [(0, one (Cell.sl true (List.map eB v15))), (3, oI v16)] [] [] 0) ?_ ?_
 ·rintro _ ⟨kj2, v15, v16, hkj2, H, rfl⟩
  unfold S_l1New.j2 at H; refine sr ?_; refine mv ?_; refine mv ?_; refine bf built157 ?_; refine bo 0 ?_; refine ag (L.nil ?_); cases H; exact WpC.ret rt
 ·refine sr ?_; refine ag (L.nil ?_); refine WpC.block ?_; refine WpC.loopL (P := Tryz.prog) (fun n σ => ∃ (v26 : List UInt8) (v27 v28 : Int), n ≤ K ∧ S_l1New.l3 n v26 v27 v28 = some r ∧ σ = mkSt [(0, one (Cell.sl true (List.map eB v26))), (3, oI v27), (4, oI v28)] [] [] 0) k ⟨_, ⟨a0, (IntKind.i64.wrap (10101 + (a0.length : Int))), 0, by omega, H, rfl⟩, lm [] hm⟩ ?_; clear H
  rintro k3 _ ⟨v26, v27, v28, hk3, H, rfl⟩
  cases k3 with
  | zero => cases H
  | succ k3 =>
   rw [S_l1New.l3] at H
   refine WpC.seq (sr ?_); refine mv ?_; refine mv ?_; refine L.lenR (xs := v26) (e := eB) underlying54 hF rfl rfl rfl rfl ?_; refine bi ?_; refine mv ?_; refine sH H (fun hc H => ?_) (fun hc H => ?_)
   ·refine mv ?_; refine bi ?_; refine pk (L.nil ?_); refine cd H (fun hc H => ?_) (fun hc H => ?_)
    ·refine WpC.skip (WpC.seq (WpC.block (WpC.regionL ?_))); refine mv ?_; refine bi ?_; refine mv ?_; refine mv ?_; obtain ⟨b30, hb30, H⟩ := bindS H; refine ix underlying54 info5 hb30 ?_; refine le shape5 ?_; refine L.ofB underlying5 underlying3 hF rfl rfl rfl ?_; refine bi ?_; refine bi ?_; refine bi ?_; refine ag (L.nil ?_); refine WpC.regionL ?_; refine mv ?_; refine bi ?_; refine ag (L.nil ?_); exact ⟨k3, _, by omega, ⟨v26, (Go.bits .and .i64 (IntKind.i64.wrap ((IntKind.i64.wrap ((IntKind.i64.wrap (v27 * 131)) + (b30.toNat : Int))) + 7)) 1073741823), (IntKind.i64.wrap (v28 + 1)), by omega, H, rfl⟩, lm [] hm⟩
    ·refine WpC.exit ?_; exact ⟨_, ⟨k3, v26, v27, by omega, H, rfl⟩, lm [] hm⟩
   ·(repeat refine of ?_); refine pk (L.nil ?_); refine cF ?_; refine WpC.exit ?_; exact ⟨_, ⟨k3, v26, v27, by omega, H, rfl⟩, lm [] hm⟩
/-! ### S_l1Byte -/
def S_l1Byte (k : Nat) (o0 : U_l1Cur) : Option (Int × U_l1Cur) := cond (decide (o0.i < (o0.b.length : Int))) ((at? o0.b o0.i).bind fun b2 => some ((Go.bits .and .i64 (IntKind.i64.wrap ((Go.bits .and .i64 (Go.bits .xor .i64 (shrI .i64 (IntKind.i64.wrap ((IntKind.i64.wrap (o0.h * 6364136223846793005)) + 1442695040888963407)) 33) (shrI .i64 (IntKind.i64.wrap ((IntKind.i64.wrap (o0.h * 6364136223846793005)) + 1442695040888963407)) 45)) 255) + (b2.toNat : Int))) 255), (⟨o0.b, (IntKind.i64.wrap (o0.i + 1)), (IntKind.i64.wrap ((IntKind.i64.wrap (o0.h * 6364136223846793005)) + 1442695040888963407))⟩ : U_l1Cur))) (some ((Go.bits .and .i64 (Go.bits .xor .i64 (shrI .i64 (IntKind.i64.wrap ((IntKind.i64.wrap (o0.h * 6364136223846793005)) + 1442695040888963407)) 33) (shrI .i64 (IntKind.i64.wrap ((IntKind.i64.wrap (o0.h * 6364136223846793005)) + 1442695040888963407)) 45)) 255), (⟨o0.b, o0.i, (IntKind.i64.wrap ((IntKind.i64.wrap (o0.h * 6364136223846793005)) + 1442695040888963407))⟩ : U_l1Cur)))
theorem ent126 : MG.Enters Tryz.prog 126 := ⟨Tryz.f126, func126, rfl, by decide⟩
theorem g126 (k : Nat) (o0 : U_l1Cur) (r : Int × U_l1Cur) (H : S_l1Byte k o0 = some r) : Gives Tryz.prog 126 [V.one (Cell.ptr 0 0)] [[Cell.sl true (List.map eB o0.b), cI o0.i, cI o0.h]] [V.one (cI r.1)] [[Cell.sl true (List.map eB r.2.b), cI r.2.i, cI r.2.h]] := by
 refine Gives.intro func126 rfl rfl rfl rfl ?_; refine fx fun w0 T S0 ob oh hm => ?_
 have hF := fxe w0 T S0 58 ob oh
 unfold S_l1Byte at H; obtain ⟨K, hK⟩ := leK k; refine sr ?_; refine ag (L.nil ?_); refine sr ?_; refine mv ?_; refine mv ?_; refine L.nilCheck hF rfl rfl rfl rfl ?_; refine fa underlying157 info3 ?_; refine lp shape3 ?_; refine bi ?_; refine bi ?_; refine L.nilCheck hF rfl rfl rfl rfl ?_; refine fa underlying157 info3 ?_; refine sp shape3 (L.nil ?_); refine WpC.seq ?_; refine S.begin mixed (by kernel_rfl) ?_; refine S.st 0 rfl rfl ((Ca.move).quiet) (fun Q0 k0 => mv (L.nil k0)) ?_; refine S.st 1 rfl rfl ((Ca.nilCheck rfl rfl).quiet) (fun Q0 k0 => L.nilCheck hF rfl rfl rfl rfl (L.nil k0)) ?_; refine S.st 2 rfl rfl ((Ca.fieldAddr underlying157 rfl info3 rfl).quiet) (fun Q0 k0 => fa underlying157 info3 (L.nil k0)) ?_; refine S.st 3 rfl rfl (Qu.load) (fun Q0 k0 => lp shape3 (L.nil k0)) ?_; refine S.st 4 rfl rfl ((Ca.bin rfl rfl (calm_int _ _ _ _ _ _ _ _)).quiet) (fun Q0 k0 => L.shr hF rfl rfl rfl rfl (by decide) (L.nil k0)) ?_; refine S.st 5 rfl rfl ((Ca.move).quiet) (fun Q0 k0 => mv (L.nil k0)) ?_; refine S.st 6 rfl rfl ((Ca.nilCheck rfl rfl).quiet) (fun Q0 k0 => L.nilCheck hF rfl rfl rfl rfl (L.nil k0)) ?_; refine S.st 7 rfl rfl ((Ca.fieldAddr underlying157 rfl info3 rfl).quiet) (fun Q0 k0 => fa underlying157 info3 (L.nil k0)) ?_; refine S.st 8 rfl rfl (Qu.load) (fun Q0 k0 => lp shape3 (L.nil k0)) ?_
 refine S.st 9 rfl rfl ((Ca.bin rfl rfl (calm_int _ _ _ _ _ _ _ _)).quiet) (fun Q0 k0 => L.shr hF rfl rfl rfl rfl (by decide) (L.nil k0)) ?_; refine S.st 10 rfl rfl ((Ca.bin rfl rfl (calm_int _ _ _ _ _ _ _ _)).quiet) (fun Q0 k0 => bi (L.nil k0)) ?_; refine S.st 11 rfl rfl ((Ca.bin rfl rfl (calm_int _ _ _ _ _ _ _ _)).quiet) (fun Q0 k0 => bi (L.nil k0)) ?_; refine S.st 12 rfl rfl ((Ca.assign).quiet) (fun Q0 k0 => ag (L.nil k0)) ?_; refine S.nil ?_; refine WpC.seq (WpC.seq ?_); refine S.begin mixed (by kernel_rfl) ?_; refine S.st 0 rfl rfl ((Ca.move).quiet) (fun Q0 k0 => mv (L.nil k0)) ?_; refine S.st 1 rfl rfl ((Ca.nilCheck rfl rfl).quiet) (fun Q0 k0 => L.nilCheck hF rfl rfl rfl rfl (L.nil k0)) ?_; refine S.st 2 rfl rfl ((Ca.fieldAddr underlying157 rfl info3 rfl).quiet) (fun Q0 k0 => fa underlying157 info3 (L.nil k0)) ?_; refine S.st 3 rfl rfl (Qu.load) (fun Q0 k0 => lp shape3 (L.nil k0)) ?_; refine S.st 4 rfl rfl ((Ca.move).quiet) (fun Q0 k0 => mv (L.nil k0)) ?_; refine S.st 5 rfl rfl ((Ca.nilCheck rfl rfl).quiet) (fun Q0 k0 => L.nilCheck hF rfl rfl rfl rfl (L.nil k0)) ?_; refine S.st 6 rfl rfl ((Ca.fieldAddr underlying157 rfl info54 rfl).quiet) (fun Q0 k0 => fa underlying157 info54 (L.nil k0)) ?_; refine S.st 7 rfl rfl (Qu.load) (fun Q0 k0 => lp shape54 (L.nil k0)) ?_; refine S.st 8 rfl rfl ((Ca.lenR (xs := o0.b) (e := eB) underlying54 rfl rfl).quiet) (fun Q0 k0 => L.lenR (xs := o0.b) (e := eB) underlying54 hF rfl rfl rfl rfl (L.nil k0)) ?_
 refine S.st 9 rfl rfl ((Ca.bin rfl rfl (calm_int _ _ _ _ _ _ _ _)).quiet) (fun Q0 k0 => bi (L.nil k0)) ?_; refine S.nil ?_; refine cd H (fun hc H => ?_) (fun hc H => ?_)
 ·refine WpC.seq ?_; refine S.begin mixed (by kernel_rfl) ?_; refine S.st 0 rfl rfl ((Ca.move).quiet) (fun Q0 k0 => mv (L.nil k0)) ?_; refine S.st 1 rfl rfl ((Ca.move).quiet) (fun Q0 k0 => mv (L.nil k0)) ?_; refine S.st 2 rfl rfl ((Ca.nilCheck rfl rfl).quiet) (fun Q0 k0 => L.nilCheck hF rfl rfl rfl rfl (L.nil k0)) ?_; refine S.st 3 rfl rfl ((Ca.fieldAddr underlying157 rfl info54 rfl).quiet) (fun Q0 k0 => fa underlying157 info54 (L.nil k0)) ?_; refine S.st 4 rfl rfl (Qu.load) (fun Q0 k0 => lp shape54 (L.nil k0)) ?_; refine S.st 5 rfl rfl ((Ca.move).quiet) (fun Q0 k0 => mv (L.nil k0)) ?_; refine S.st 6 rfl rfl ((Ca.nilCheck rfl rfl).quiet) (fun Q0 k0 => L.nilCheck hF rfl rfl rfl rfl (L.nil k0)) ?_; refine S.st 7 rfl rfl ((Ca.fieldAddr underlying157 rfl info3 rfl).quiet) (fun Q0 k0 => fa underlying157 info3 (L.nil k0)) ?_; refine S.st 8 rfl rfl (Qu.load) (fun Q0 k0 => lp shape3 (L.nil k0)) ?_; obtain ⟨b2, hb2, H⟩ := bindS H; refine S.st 9 rfl rfl ((Ca.indexAddr).quiet) (fun Q0 k0 => ix underlying54 info5 hb2 (L.nil k0)) ?_; refine S.st 10 rfl rfl (Qu.load) (fun Q0 k0 => le shape5 (L.nil k0)) ?_; refine S.st 11 rfl rfl ((Ca.conv underlying5 underlying3 rfl).quiet) (fun Q0 k0 => L.ofB underlying5 underlying3 hF rfl rfl rfl (L.nil k0)) ?_; refine S.st 12 rfl rfl ((Ca.bin rfl rfl (calm_int _ _ _ _ _ _ _ _)).quiet) (fun Q0 k0 => bi (L.nil k0)) ?_
  refine S.st 13 rfl rfl ((Ca.bin rfl rfl (calm_int _ _ _ _ _ _ _ _)).quiet) (fun Q0 k0 => bi (L.nil k0)) ?_; refine S.st 14 rfl rfl ((Ca.assign).quiet) (fun Q0 k0 => ag (L.nil k0)) ?_; refine S.nil ?_; refine WpC.regionL ?_; refine mv ?_; refine mv ?_; refine L.nilCheck hF rfl rfl rfl rfl ?_; refine fa underlying157 info3 ?_; refine lp shape3 ?_; refine bi ?_; refine L.nilCheck hF rfl rfl rfl rfl ?_; refine fa underlying157 info3 ?_; refine sp shape3 (L.nil ?_); refine sr ?_; refine mv ?_; refine ag (L.nil ?_); cases H; exact WpC.ret rt
 ·refine WpC.skip (sr ?_); refine mv ?_; refine ag (L.nil ?_); cases H; exact WpC.ret rt
/-! ### S_l1Below -/
def S_l1Below (k : Nat) (a1 : Int) (o0 : U_l1Cur) : Option (Int × U_l1Cur) := cond (decide (a1 ≤ 0)) (some (0, o0)) (cond (decide (a1 ≤ 256)) ((S_l1Byte k o0).bind fun r3 => cond (!(a1 == 0)) (some ((Int.tmod r3.1 a1), r3.2)) none) ((S_l1Byte k o0).bind fun r5 => (S_l1Byte k r5.2).bind fun r6 => (S_l1Byte k r6.2).bind fun r7 => (S_l1Byte k r7.2).bind fun r8 => cond (!(a1 == 0)) (some ((Int.tmod (IntKind.i64.wrap ((IntKind.i64.wrap ((IntKind.i64.wrap ((IntKind.i64.wrap (r5.1 * 16777216)) + (IntKind.i64.wrap (r6.1 * 65536)))) + (IntKind.i64.wrap (r7.1 * 256)))) + r8.1)) a1), r8.2)) none))
theorem ent71 : MG.Enters Tryz.prog 71 := ⟨Tryz.f71, func71, rfl, by decide⟩
theorem g71 (k : Nat) (a1 : Int) (o0 : U_l1Cur) (r : Int × U_l1Cur) (H : S_l1Below k a1 o0 = some r) : Gives Tryz.prog 71 [V.one (Cell.ptr 0 0), V.one (cI a1)] [[Cell.sl true (List.map eB o0.b), cI o0.i, cI o0.h]] [V.one (cI r.1)] [[Cell.sl true (List.map eB r.2.b), cI r.2.i, cI r.2.h]] := by
 refine Gives.intro func71 rfl rfl rfl rfl ?_; refine fx fun w0 T S0 ob oh hm => ?_
 have hF := fxe w0 T S0 37 ob oh
 unfold S_l1Below at H; obtain ⟨K, hK⟩ := leK k; refine sr ?_; refine ag (L.nil ?_); refine WpC.seq (sr ?_); refine mv ?_; refine bi (L.nil ?_); refine cd H (fun hc H => ?_) (fun hc H => ?_)
 ·refine sr ?_; refine ag (L.nil ?_); cases H; exact WpC.ret rt
 ·refine WpC.skip (WpC.seq (sr ?_)); refine mv ?_; refine bi (L.nil ?_); refine cd H (fun hc H => ?_) (fun hc H => ?_)
  ·refine sr ?_; refine mv ?_; obtain ⟨r3, hr3, H⟩ := bindS H; refine ca [false] [] [0] 6 ent126 (g126 k  o0 r3 hr3) ?_; refine mv ?_; obtain ⟨h4, H⟩ := condG H; refine L.rem hF rfl rfl rfl rfl (by simpa using h4) ?_; refine ag (L.nil ?_); cases H; exact WpC.ret rt
  ·refine WpC.skip (sr ?_); refine mv ?_; obtain ⟨r5, hr5, H⟩ := bindS H; refine ca [false] [] [0] 6 ent126 (g126 k  o0 r5 hr5) ?_; refine ag (L.nil ?_); refine sr ?_; refine mv ?_; obtain ⟨r6, hr6, H⟩ := bindS H; refine ca [false] [] [0] 10 ent126 (g126 k  r5.2 r6 hr6) ?_; refine ag (L.nil ?_); refine sr ?_; refine mv ?_; obtain ⟨r7, hr7, H⟩ := bindS H; refine ca [false] [] [0] 14 ent126 (g126 k  r6.2 r7 hr7) ?_; refine ag (L.nil ?_); refine sr ?_; refine mv ?_; obtain ⟨r8, hr8, H⟩ := bindS H; refine ca [false] [] [0] 18 ent126 (g126 k  r7.2 r8 hr8) ?_; refine ag (L.nil ?_); refine sr ?_; refine mv ?_; refine bi ?_; refine mv ?_; refine bi ?_; refine bi ?_; refine mv ?_; refine bi ?_; refine bi ?_; refine mv ?_; refine bi ?_; refine mv ?_; obtain ⟨h9, H⟩ := condG H; refine L.rem hF rfl rfl rfl rfl (by simpa using h9) ?_; refine ag (L.nil ?_); cases H; exact WpC.ret rt
/-! ### S_l1PickInt -/
def S_l1PickInt (k : Nat) (a1 : List Int) (o0 : U_l1Cur) : Option (Int × U_l1Cur) := (S_l1Below k (a1.length : Int) o0).bind fun r1 => (at? a1 r1.1).bind fun b2 => some (b2, r1.2)
theorem ent96 : MG.Enters Tryz.prog 96 := ⟨Tryz.f96, func96, rfl, by decide⟩
theorem g96 (k : Nat) (g0 : Bool) (a1 : List Int) (o0 : U_l1Cur) (r : Int × U_l1Cur) (H : S_l1PickInt k a1 o0 = some r) : Gives Tryz.prog 96 [V.one (Cell.ptr 0 0), V.one (Cell.sl g0 (List.map eI a1))] [[Cell.sl true (List.map eB o0.b), cI o0.i, cI o0.h]] [V.one (cI r.1)] [[Cell.sl true (List.map eB r.2.b), cI r.2.i, cI r.2.h]] := by
 refine Gives.intro func96 rfl rfl rfl rfl ?_; refine fx fun w0 T S0 ob oh hm => ?_
 have hF := fxe w0 T S0 12 ob oh
 unfold S_l1PickInt at H; obtain ⟨K, hK⟩ := leK k; refine sr ?_; refine ag (L.nil ?_); refine sr ?_; refine mv ?_; refine mv ?_; refine mv ?_; refine L.lenR (xs := a1) (e := eI) underlying22 hF rfl rfl rfl rfl ?_; obtain ⟨r1, hr1, H⟩ := bindS H; refine ca [false, false] [] [0] 6 ent71 (g71 k  (a1.length : Int) o0 r1 hr1) ?_; obtain ⟨b2, hb2, H⟩ := bindS H; refine ix underlying22 info3 hb2 ?_; refine le shape3 ?_; refine ag (L.nil ?_); cases H; exact WpC.ret rt
/-! ### S_l1Once -/
def S_l1Once (k : Nat) (a1 : Int) (o0 : U_l1Cur) : Option (Bool × U_l1Cur) := (S_l1Below k a1 o0).bind fun r1 => some ((r1.1 == 0), r1.2)
theorem ent75 : MG.Enters Tryz.prog 75 := ⟨Tryz.f75, func75, rfl, by decide⟩
theorem g75 (k : Nat) (a1 : Int) (o0 : U_l1Cur) (r : Bool × U_l1Cur) (H : S_l1Once k a1 o0 = some r) : Gives Tryz.prog 75 [V.one (Cell.ptr 0 0), V.one (cI a1)] [[Cell.sl true (List.map eB o0.b), cI o0.i, cI o0.h]] [V.one (cL r.1)] [[Cell.sl true (List.map eB r.2.b), cI r.2.i, cI r.2.h]] := by
 refine Gives.intro func75 rfl rfl rfl rfl ?_; refine fx fun w0 T S0 ob oh hm => ?_
 have hF := fxe w0 T S0 9 ob oh
 unfold S_l1Once at H; obtain ⟨K, hK⟩ := leK k; refine sr ?_; refine ag (L.nil ?_); refine sr ?_; refine mv ?_; refine mv ?_; obtain ⟨r1, hr1, H⟩ := bindS H; refine ca [false, false] [] [0] 6 ent71 (g71 k  a1 o0 r1 hr1) ?_; refine bi ?_; refine ag (L.nil ?_); cases H; exact WpC.ret rt
/-! ### S_l6Config -/
def S_l6Config.j125 (cl123 : Int → Int → (List UInt8) → Int → Int → (List Int) → (List Int) → (List T_Pair) → Int → Option (T_Config × U_l1Cur)) (k : Nat) (v1618 v1619 : Int) (v1620 : List UInt8) (v1621 v1622 : Int) (v1623 v1624 : List Int) (v1625 : List T_Pair) (v1626 : Int) : Option (T_Config × U_l1Cur) := cl123 v1618 (IntKind.i64.wrap (v1619 + 1)) v1620 v1621 v1622 v1623 v1624 v1625 v1626
def S_l6Config.j126 (cl123 : Int → Int → (List UInt8) → Int → Int → (List Int) → (List Int) → (List T_Pair) → Int → Option (T_Config × U_l1Cur)) (k : Nat) (v1628 v1629 : Int) (v1630 : Bool) (v1631 : List UInt8) (v1632 v1633 : Int) (v1634 v1635 : List Int) (v1636 : List T_Pair) (v1637 : Int) : Option (T_Config × U_l1Cur) := cond v1630 (cond (decide ((2 * (v1636.length + ([(⟨v1628, v1629⟩ : T_Pair)] : List T_Pair).length) + 192) * 16 ≤ 281474976710656)) (S_l6Config.j125 cl123 k v1628 v1629 v1631 v1632 v1633 v1634 v1635 (v1636 ++ ([(⟨v1628, v1629⟩ : T_Pair)] : List T_Pair)) v1637) none) (S_l6Config.j125 cl123 k v1628 v1629 v1631 v1632 v1633 v1634 v1635 v1636 v1637)
def S_l6Config.l123 (cl106 : Int → (List UInt8) → Int → Int → (List Int) → (List Int) → (List T_Pair) → Int → Option (T_Config × U_l1Cur)) : Nat → Int → Int → (List UInt8) → Int → Int → (List Int) → (List Int) → (List T_Pair) → Int → Option (T_Config × U_l1Cur)
 | 0, _, _, _, _, _, _, _, _, _ => none
 | k123 + 1, v1596, v1597, v1598, v1599, v1600, v1601, v1602, v1603, v1604 => cond (decide (v1597 < 3)) (cond (v1596 != v1597) ((S_l1Once k123 3 (⟨v1598, v1599, v1600⟩ : U_l1Cur)).bind fun r1639 => S_l6Config.j126 (S_l6Config.l123 cl106 k123) k123 v1596 v1597 (!r1639.1) r1639.2.b r1639.2.i r1639.2.h v1601 v1602 v1603 v1604) (S_l6Config.j126 (S_l6Config.l123 cl106 k123) k123 v1596 v1597 false v1598 v1599 v1600 v1601 v1602 v1603 v1604)) (cl106 (IntKind.i64.wrap (v1596 + 1)) v1598 v1599 v1600 v1601 v1602 v1603 v1604)
def S_l6Config.j247 (cl245 : Int → Int → (List UInt8) → Int → Int → (List Int) → (List Int) → (List T_Pair) → (List T_Pair) → Int → Option (T_Config × U_l1Cur)) (k : Nat) (v3286 v3287 : Int) (v3288 : List UInt8) (v3289 v3290 : Int) (v3291 v3292 : List Int) (v3293 v3294 : List T_Pair) (v3295 : Int) : Option (T_Config × U_l1Cur) := cl245 v3286 (IntKind.i64.wrap (v3287 + 1)) v3288 v3289 v3290 v3291 v3292 v3293 v3294 v3295
def S_l6Config.j248 (cl245 : Int → Int → (List UInt8) → Int → Int → (List Int) → (List Int) → (List T_Pair) → (List T_Pair) → Int → Option (T_Config × U_l1Cur)) (k : Nat) (v3297 v3298 : Int) (v3299 : Bool) (v3300 : List UInt8) (v3301 v3302 : Int) (v3303 v3304 : List Int) (v3305 v3306 : List T_Pair) (v3307 : Int) : Option (T_Config × U_l1Cur) := cond v3299 (cond (decide ((2 * (v3306.length + ([(⟨v3297, v3298⟩ : T_Pair)] : List T_Pair).length) + 192) * 16 ≤ 281474976710656)) (S_l6Config.j247 cl245 k v3297 v3298 v3300 v3301 v3302 v3303 v3304 v3305 (v3306 ++ ([(⟨v3297, v3298⟩ : T_Pair)] : List T_Pair)) v3307) none) (S_l6Config.j247 cl245 k v3297 v3298 v3300 v3301 v3302 v3303 v3304 v3305 v3306 v3307)
def S_l6Config.l245 (cl228 : Int → (List UInt8) → Int → Int → (List Int) → (List Int) → (List T_Pair) → (List T_Pair) → Int → Option (T_Config × U_l1Cur)) : Nat → Int → Int → (List UInt8) → Int → Int → (List Int) → (List Int) → (List T_Pair) → (List T_Pair) → Int → Option (T_Config × U_l1Cur)
 | 0, _, _, _, _, _, _, _, _, _, _ => none
 | k245 + 1, v3262, v3263, v3264, v3265, v3266, v3267, v3268, v3269, v3270, v3271 => cond (decide (v3263 < 3)) (cond (v3262 != v3263) ((S_l1Once k245 3 (⟨v3264, v3265, v3266⟩ : U_l1Cur)).bind fun r3309 => S_l6Config.j248 (S_l6Config.l245 cl228 k245) k245 v3262 v3263 (!r3309.1) r3309.2.b r3309.2.i r3309.2.h v3267 v3268 v3269 v3270 v3271) (S_l6Config.j248 (S_l6Config.l245 cl228 k245) k245 v3262 v3263 false v3264 v3265 v3266 v3267 v3268 v3269 v3270 v3271)) (cl228 (IntKind.i64.wrap (v3262 + 1)) v3264 v3265 v3266 v3267 v3268 v3269 v3270 v3271)
def S_l6Config.l228 : Nat → Int → (List UInt8) → Int → Int → (List Int) → (List Int) → (List T_Pair) → (List T_Pair) → Int → Option (T_Config × U_l1Cur)
 | 0, _, _, _, _, _, _, _, _, _ => none
 | k228 + 1, v3021, v3022, v3023, v3024, v3025, v3026, v3027, v3028, v3029 => cond (decide (v3021 < 3)) (S_l6Config.l245 (S_l6Config.l228 k228) k228 v3021 0 v3022 v3023 v3024 v3025 v3026 v3027 v3028 v3029) ((S_l1Once k228 3 (⟨v3022, v3023, v3024⟩ : U_l1Cur)).bind fun r3314 => cond r3314.1 ((at? v3025 0).bind fun b3315 => (at? v3025 0).bind fun b3316 => (at? v3026 2).bind fun b3317 => some ((⟨v3025, ([b3315, b3316, b3317] : List Int), v3027, v3028, v3029⟩ : T_Config), r3314.2)) (some ((⟨v3025, v3026, v3027, v3028, v3029⟩ : T_Config), r3314.2)))
def S_l6Config.l106 : Nat → Int → (List UInt8) → Int → Int → (List Int) → (List Int) → (List T_Pair) → Int → Option (T_Config × U_l1Cur)
 | 0, _, _, _, _, _, _, _, _ => none
 | k106 + 1, v1376, v1377, v1378, v1379, v1380, v1381, v1382, v1383 => cond (decide (v1376 < 3)) (S_l6Config.l123 (S_l6Config.l106 k106) k106 v1376 0 v1377 v1378 v1379 v1380 v1381 v1382 v1383) (S_l6Config.l228 k106 0 v1377 v1378 v1379 v1380 v1381 v1382 [] v1383)
def S_l6Config.l4 : Nat → Int → (List UInt8) → Int → Int → (List Int) → (List Int) → Int → Option (T_Config × U_l1Cur)
 | 0, _, _, _, _, _, _, _ => none
 | k4 + 1, v109, v110, v111, v112, v113, v114, v115 => cond (decide (v109 < 3)) ((S_l1Below k4 3 (⟨v110, v111, v112⟩ : U_l1Cur)).bind fun r118 => cond (decide ((2 * (v114.length + ([r118.1] : List Int).length) + 192) * 8 ≤ 281474976710656)) ((S_l6Config.l4 k4) (IntKind.i64.wrap (v109 + 1)) r118.2.b r118.2.i r118.2.h v113 (v114 ++ ([r118.1] : List Int)) v115) none) (S_l6Config.l106 k4 0 v110 v111 v112 v113 v114 [] v115)
def S_l6Config.l2 : Nat → Int → (List UInt8) → Int → Int → (List Int) → Int → Option (T_Config × U_l1Cur)
 | 0, _, _, _, _, _, _ => none
 | k2 + 1, v48, v49, v50, v51, v52, v53 => cond (decide (v48 < 3)) ((S_l1Below k2 3 (⟨v49, v50, v51⟩ : U_l1Cur)).bind fun r56 => cond (decide ((2 * (v52.length + ([r56.1] : List Int).length) + 192) * 8 ≤ 281474976710656)) ((S_l6Config.l2 k2) (IntKind.i64.wrap (v48 + 1)) r56.2.b r56.2.i r56.2.h (v52 ++ ([r56.1] : List Int)) v53) none) (S_l6Config.l4 k2 0 v49 v50 v51 v52 [] v53)
def S_l6Config (k : Nat) (o0 : U_l1Cur) : Option (T_Config × U_l1Cur) := (S_l1PickInt k ([0, 2, 5, 5, 20] : List Int) o0).bind fun r1 => S_l6Config.l2 k 0 r1.2.b r1.2.i r1.2.h [] r1.1
theorem ent125 : MG.Enters Tryz.prog 125 := ⟨Tryz.f125, func125, rfl, by decide⟩
theorem g125 (k : Nat) (o0 : U_l1Cur) (r : T_Config × U_l1Cur) (H : S_l6Config k o0 = some r) : Gives Tryz.prog 125 [V.one (Cell.ptr 0 0)] [[Cell.sl true (List.map eB o0.b), cI o0.i, cI o0.h]] [V.agg [Cell.ow 1 (List.map eI r.1.UserRealm), Cell.ow 1 (List.map eI r.1.ServiceRealm), Cell.ow 2 (List.map eT_Pair r.1.Links), Cell.ow 2 (List.map eT_Pair r.1.Proxy), cI r.1.Skew]] [[Cell.sl true (List.map eB r.2.b), cI r.2.i, cI r.2.h]] := by
 refine Gives.intro func125 rfl rfl rfl rfl ?_; refine fx fun w0 T S0 ob oh hm => ?_
 have hF := fxe w0 T S0 101 ob oh
 unfold S_l6Config at H; obtain ⟨K, hK⟩ := leK k; refine sr ?_; refine alc 5 info44 (L.nil ?_); refine sr ?_; refine mv ?_; refine L.buildSlice (e := eI) 6 ([0, 2, 5, 5, 20] : List Int) underlying22 info3 rfl rfl rfl hF rfl rfl rfl rfl rfl rfl rfl rfl ?_; obtain ⟨r1, hr1, H⟩ := bindS H; refine ca [false, false] [6] [0] 7 ent96 (g96 k false ([0, 2, 5, 5, 20] : List Int) o0 r1 hr1) ?_; refine bf built44 ?_; refine alc 11 info44 ?_; refine sp shape44 (L.nil ?_); refine WpC.seq (sr ?_); refine ag (L.nil ?_); refine WpC.block ?_; refine WpC.loopL (P := Tryz.prog) (fun n σ => ∃ (v48 : Int) (v49 : List UInt8) (v50 v51 : Int) (v52 : List Int) (v53 : Int), n ≤ K ∧ S_l6Config.l2 n v48 v49 v50 v51 v52 v53 = some r ∧ σ = mkSt [(0, oP 0 0), (2, oP 1 0), (3, oP 2 0), (4, oI v48)] [(3, ⟨1, List.map eI v52⟩)] [(0, [Cell.sl true (List.map eB v49), cI v50, cI v51]), (1, zc2), (2, [Cell.own 3, Cell.nil, Cell.nil, Cell.nil, cI v53])] 4) k ⟨_, ⟨0, r1.2.b, r1.2.i, r1.2.h, [], r1.1, by omega, H, rfl⟩, (Le.ownB 11 0 12 1 rfl rfl rfl).trans (lm [(0, 0), (1, 5), (2, 11), (3, 12)] hm)⟩ ?_; clear H
 rintro k2 _ ⟨v48, v49, v50, v51, v52, v53, hk2, H, rfl⟩
 cases k2 with
 | zero => cases H
 | succ k2 =>
  rw [S_l6Config.l2] at H
  refine WpC.seq (sr ?_); refine mv ?_; refine bi (L.nil ?_); refine cd H (fun hc H => ?_) (fun hc H => ?_)
  ·refine WpC.skip (WpC.seq (WpC.block ?_)); obtain ⟨r56, hr56, H⟩ := bindS H; obtain ⟨h57, H⟩ := condG H; refine A.lin (fun β => mkStL [(0, iP 0 0), (2, iP 1 0), (3, iP 2 0), (4, iI v48), (18, lP (β 0) 2 0), (19, al (β 1) (one (Cell.own 3))), (20, lP (β 2) 0 0), (21, al (β 3) (one (cI r56.1))), (22, al (β 4) (one (Cell.own 8))), (23, al (β 5) (one (Cell.own 9))), (24, lP (β 6) 2 0)] [(3, [(β 5, none), (true, some (⟨1, List.map eI v52⟩))]), (8, al (β 4) (⟨1, List.map eI ([r56.1] : List Int)⟩)), (9, al (β 5) (⟨1, List.map eI (v52 ++ ([r56.1] : List Int))⟩))] [(0, [(β 3, some ((bU_l1Cur true r56.2))), (true, some ([Cell.sl true (List.map eB v49), cI v50, cI v51]))]), (1, ai (zc2)), (2, [(β 7, some ([Cell.own 9, Cell.nil, Cell.nil, Cell.nil, cI v53])), (true, some ([Cell.own 3, Cell.nil, Cell.nil, Cell.nil, cI v53]))])] 10) [([], [1, 5, 6, 7]), ([0], [5, 6, 7]), ([], [3, 4, 5, 6, 7]), ([2], [4, 5, 6, 7]), ([2, 3], [5, 6, 7]), ([0, 1, 2, 3, 4], [6, 7]), ([0, 1, 2, 3, 4, 5], [7]), ([0, 1, 2, 3, 4, 5, 6], [])] 8 mixed rfl (by kernel_rfl) ?_ ?_ ?_
   ·exact Le.lin [] hm rfl (sa4 (kn (kn2 (kn4 kz)))) (ra (kn2 kz)) (ba (ba (ba kz)))
   ·repeat' (first | exact trivial | refine ⟨⟨_, rfl, fun β => ?_⟩, ?_⟩ | fail)
    ·refine fa underlying44 info22 ?_; exact lx [] hm
    ·refine lp shape22 ?_; exact lx [] hm
    ·refine mv ?_; exact lx [] hm
    ·refine ca [false, false] [] [0] 10 ent71 (g71 k2  3 (⟨v49, v50, v51⟩ : U_l1Cur) r56 hr56) ?_; exact lx [(4, 10), (5, 11), (6, 12), (7, 13)] hm
    ·refine L.buildSlice (e := eI) 10 ([r56.1] : List Int) underlying22 info3 rfl rfl rfl hF rfl rfl rfl rfl rfl rfl rfl rfl ?_; exact lx [(8, 10)] hm
    ·refine L.append (xs := v52) (ys := ([r56.1] : List Int)) (e := eI) 10 underlying22 info3 rfl rfl hF rfl rfl rfl rfl rfl rfl rfl rfl (fun _ => rfl) (fun _ _ h1 h2 => by cases h1; cases h2; rfl) ⟨_, underlying22⟩ (of_decide_eq_true h57) rfl rfl ?_; exact lx [(9, 10)] hm
    ·refine fa underlying44 info22 ?_; exact lx [] hm
    ·refine sp shape22 ?_; exact lx [] hm
   refine ⟨_, (lm [(0, 0), (1, 1), (2, 2), (3, 9)] hm : Le _ _ (mkSt [(0, oP 0 0), (2, oP 1 0), (3, oP 2 0), (4, oI v48)] [(3, ⟨1, List.map eI (v52 ++ ([r56.1] : List Int))⟩)] [(0, (bU_l1Cur true r56.2)), (1, zc2), (2, [Cell.own 3, Cell.nil, Cell.nil, Cell.nil, cI v53])] 4)), ?_⟩; refine WpC.regionL ?_; refine mv ?_; refine bi ?_; refine ag (L.nil ?_); exact ⟨k2, _, by omega, ⟨(IntKind.i64.wrap (v48 + 1)), r56.2.b, r56.2.i, r56.2.h, (v52 ++ ([r56.1] : List Int)), v53, by omega, H, rfl⟩, lm [(0, 0), (1, 1), (2, 2), (3, 3)] hm⟩
  ·refine WpC.exit (WpC.seq (sr ?_)); refine ag (L.nil ?_); refine WpC.block ?_; refine WpC.loopL (P := Tryz.prog) (fun n σ => ∃ (v109 : Int) (v110 : List UInt8) (v111 v112 : Int) (v113 v114 : List Int) (v115 : Int), n ≤ K ∧ S_l6Config.l4 n v109 v110 v111 v112 v113 v114 v115 = some r ∧ σ = mkSt [(0, oP 0 0), (2, oP 1 0), (3, oP 2 0), (5, oI v109)] [(3, ⟨1, List.map eI v113⟩), (4, ⟨1, List.map eI v114⟩)] [(0, [Cell.sl true (List.map eB v110), cI v111, cI v112]), (1, zc2), (2, [Cell.own 3, Cell.own 4, Cell.nil, Cell.nil, cI v115])] 5) k2 ⟨_, ⟨0, v49, v50, v51, v52, [], v53, by omega, H, rfl⟩, (Le.ownB 2 1 4 1 rfl rfl rfl).trans (lm [(0, 0), (1, 1), (2, 2), (3, 3), (4, 4)] hm)⟩ ?_; clear H
   rintro k4 _ ⟨v109, v110, v111, v112, v113, v114, v115, hk4, H, rfl⟩
   cases k4 with
   | zero => cases H
   | succ k4 =>
    rw [S_l6Config.l4] at H
    refine WpC.seq (sr ?_); refine mv ?_; refine bi (L.nil ?_); refine cd H (fun hc H => ?_) (fun hc H => ?_)
    ·refine WpC.skip (WpC.seq (WpC.block ?_)); obtain ⟨r118, hr118, H⟩ := bindS H; obtain ⟨h119, H⟩ := condG H; refine A.lin (fun β => mkStL [(0, iP 0 0), (2, iP 1 0), (3, iP 2 0), (5, iI v109), (29, lP (β 0) 2 1), (30, al (β 1) (one (Cell.own 4))), (31, lP (β 2) 0 0), (32, al (β 3) (one (cI r118.1))), (33, al (β 4) (one (Cell.own 9))), (34, al (β 5) (one (Cell.own 10))), (35, lP (β 6) 2 1)] [(3, ai (⟨1, List.map eI v113⟩)), (4, [(β 5, none), (true, some (⟨1, List.map eI v114⟩))]), (9, al (β 4) (⟨1, List.map eI ([r118.1] : List Int)⟩)), (10, al (β 5) (⟨1, List.map eI (v114 ++ ([r118.1] : List Int))⟩))] [(0, [(β 3, some ((bU_l1Cur true r118.2))), (true, some ([Cell.sl true (List.map eB v110), cI v111, cI v112]))]), (1, ai (zc2)), (2, [(β 7, some ([Cell.own 3, Cell.own 10, Cell.nil, Cell.nil, cI v115])), (true, some ([Cell.own 3, Cell.own 4, Cell.nil, Cell.nil, cI v115]))])] 11) [([], [1, 5, 6, 7]), ([0], [5, 6, 7]), ([], [3, 4, 5, 6, 7]), ([2], [4, 5, 6, 7]), ([2, 3], [5, 6, 7]), ([0, 1, 2, 3, 4], [6, 7]), ([0, 1, 2, 3, 4, 5], [7]), ([0, 1, 2, 3, 4, 5, 6], [])] 8 mixed rfl (by kernel_rfl) ?_ ?_ ?_
     ·exact Le.lin [] hm rfl (sa4 (kn (kn2 (kn4 kz)))) (ra (ra (kn2 kz))) (ba (ba (ba kz)))
     ·repeat' (first | exact trivial | refine ⟨⟨_, rfl, fun β => ?_⟩, ?_⟩ | fail)
      ·refine fa underlying44 info22 ?_; exact lx [] hm
      ·refine lp shape22 ?_; exact lx [] hm
      ·refine mv ?_; exact lx [] hm
      ·refine ca [false, false] [] [0] 11 ent71 (g71 k4  3 (⟨v110, v111, v112⟩ : U_l1Cur) r118 hr118) ?_; exact lx [(5, 11), (6, 12), (7, 13), (8, 14)] hm
      ·refine L.buildSlice (e := eI) 11 ([r118.1] : List Int) underlying22 info3 rfl rfl rfl hF rfl rfl rfl rfl rfl rfl rfl rfl ?_; exact lx [(9, 11)] hm
      ·refine L.append (xs := v114) (ys := ([r118.1] : List Int)) (e := eI) 11 underlying22 info3 rfl rfl hF rfl rfl rfl rfl rfl rfl rfl rfl (fun _ => rfl) (fun _ _ h1 h2 => by cases h1; cases h2; rfl) ⟨_, underlying22⟩ (of_decide_eq_true h119) rfl rfl ?_; exact lx [(10, 11)] hm
      ·refine fa underlying44 info22 ?_; exact lx [] hm
      ·refine sp shape22 ?_; exact lx [] hm
     refine ⟨_, (lm [(0, 0), (1, 1), (2, 2), (3, 3), (4, 10)] hm : Le _ _ (mkSt [(0, oP 0 0), (2, oP 1 0), (3, oP 2 0), (5, oI v109)] [(3, ⟨1, List.map eI v113⟩), (4, ⟨1, List.map eI (v114 ++ ([r118.1] : List Int))⟩)] [(0, (bU_l1Cur true r118.2)), (1, zc2), (2, [Cell.own 3, Cell.own 4, Cell.nil, Cell.nil, cI v115])] 5)), ?_⟩; refine WpC.regionL ?_; refine mv ?_; refine bi ?_; refine ag (L.nil ?_); exact ⟨k4, _, by omega, ⟨(IntKind.i64.wrap (v109 + 1)), r118.2.b, r118.2.i, r118.2.h, v113, (v114 ++ ([r118.1] : List Int)), v115, by omega, H, rfl⟩, lm [(0, 0), (1, 1), (2, 2), (3, 3), (4, 4)] hm⟩
    ·refine WpC.exit (WpC.seq (sr ?_)); refine ag (L.nil ?_); refine WpC.block ?_; refine WpC.loopL (P := Tryz.prog) (fun n σ => ∃ (v1376 : Int) (v1377 : List UInt8) (v1378 v1379 : Int) (v1380 v1381 : List Int) (v1382 : List T_Pair) (v1383 : Int), n ≤ K ∧ S_l6Config.l106 n v1376 v1377 v1378 v1379 v1380 v1381 v1382 v1383 = some r ∧ σ = mkSt [(0, oP 0 0), (2, oP 1 0), (3, oP 2 0), (6, oI v1376)] [(3, ⟨1, List.map eI v1380⟩), (4, ⟨1, List.map eI v1381⟩), (5, ⟨2, List.map eT_Pair v1382⟩)] [(0, [Cell.sl true (List.map eB v1377), cI v1378, cI v1379]), (1, zc2), (2, [Cell.own 3, Cell.own 4, Cell.own 5, Cell.nil, cI v1383])] 6) k4 ⟨_, ⟨0, v110, v111, v112, v113, v114, [], v115, by omega, H, rfl⟩, (Le.ownB 2 2 5 2 rfl rfl rfl).trans (lm [(0, 0), (1, 1), (2, 2), (3, 3), (4, 4), (5, 5)] hm)⟩ ?_; clear H
     rintro k106 _ ⟨v1376, v1377, v1378, v1379, v1380, v1381, v1382, v1383, hk106, H, rfl⟩
     cases k106 with
     | zero => cases H
     | succ k106 =>
      rw [S_l6Config.l106] at H
      refine WpC.seq (sr ?_); refine mv ?_; refine bi (L.nil ?_); refine cd H (fun hc H => ?_) (fun hc H => ?_)
      ·refine WpC.skip (WpC.seq (WpC.block (sr ?_))); refine ag (L.nil ?_); refine WpC.block ?_; refine WpC.loopL (P := Tryz.prog) (fun n σ => ∃ (v1596 v1597 : Int) (v1598 : List UInt8) (v1599 v1600 : Int) (v1601 v1602 : List Int) (v1603 : List T_Pair) (v1604 : Int), n ≤ K ∧ S_l6Config.l123 (S_l6Config.l106 k106) n v1596 v1597 v1598 v1599 v1600 v1601 v1602 v1603 v1604 = some r ∧ σ = mkSt [(0, oP 0 0), (2, oP 1 0), (3, oP 2 0), (6, oI v1596), (7, oI v1597)] [(3, ⟨1, List.map eI v1601⟩), (4, ⟨1, List.map eI v1602⟩), (5, ⟨2, List.map eT_Pair v1603⟩)] [(0, [Cell.sl true (List.map eB v1598), cI v1599, cI v1600]), (1, zc2), (2, [Cell.own 3, Cell.own 4, Cell.own 5, Cell.nil, cI v1604])] 6) k106 ⟨_, ⟨v1376, 0, v1377, v1378, v1379, v1380, v1381, v1382, v1383, by omega, H, rfl⟩, lm [(0, 0), (1, 1), (2, 2), (3, 3), (4, 4), (5, 5)] hm⟩ ?_; clear H
       rintro k123 _ ⟨v1596, v1597, v1598, v1599, v1600, v1601, v1602, v1603, v1604, hk123, H, rfl⟩
       cases k123 with
       | zero => cases H
       | succ k123 =>
        rw [S_l6Config.l123] at H
        refine WpC.seq (sr ?_); refine mv ?_; refine bi (L.nil ?_); refine cd H (fun hc H => ?_) (fun hc H => ?_)
        ·refine WpC.skip ?_; refine WpC.join (fun σ => ∃ (kj125 : Nat) (v1618 v1619 : Int) (v1620 : List UInt8) (v1621 v1622 : Int) (v1623 v1624 : List Int) (v1625 : List T_Pair) (v1626 : Int), kj125 ≤ K ∧ S_l6Config.j125 (S_l6Config.l123 (S_l6Config.l106 k106) k123) kj125 v1618 v1619 v1620 v1621 v1622 v1623 v1624 v1625 v1626 = some r ∧ σ = mkSt [(0, oP 0 0), (2, oP 1 0), (3, oP 2 0), (6, oI v1618), (7, oI v1619)] [(3, ⟨1, List.map eI v1623⟩), (4, ⟨1, List.map eI v1624⟩), (5, ⟨2, List.map eT_Pair v1625⟩)] [(0, [Cell.sl true (List.map eB v1620), cI v1621, cI v1622]), (1, zc2), (2, [Cell.own 3, Cell.own 4, Cell.own 5, Cell.nil, cI v1626])] 6) ?_ ?_
         ·rintro _ ⟨kj125, v1618, v1619, v1620, v1621, v1622, v1623, v1624, v1625, v1626, hkj125, H, rfl⟩
          unfold S_l6Config.j125 at H; refine WpC.regionL ?_; refine mv ?_; refine bi ?_; refine ag (L.nil ?_); exact ⟨k123, _, by omega, ⟨v1618, (IntKind.i64.wrap (v1619 + 1)), v1620, v1621, v1622, v1623, v1624, v1625, v1626, by omega, H, rfl⟩, lm [(0, 0), (1, 1), (2, 2), (3, 3), (4, 4), (5, 5)] hm⟩
         ·refine WpC.block ?_; refine WpC.join (fun σ => ∃ (kj126 : Nat) (v1628 v1629 : Int) (v1630 : Bool) (v1631 : List UInt8) (v1632 v1633 : Int) (v1634 v1635 : List Int) (v1636 : List T_Pair) (v1637 : Int), kj126 ≤ K ∧ S_l6Config.j126 (S_l6Config.l123 (S_l6Config.l106 k106) k123) kj126 v1628 v1629 v1630 v1631 v1632 v1633 v1634 v1635 v1636 v1637 = some r ∧ σ = mkSt [(0, oP 0 0), (2, oP 1 0), (3, oP 2 0), (6, oI v1628), (7, oI v1629), (51, oL v1630)] [(3, ⟨1, List.map eI v1634⟩), (4, ⟨1, List.map eI v1635⟩), (5, ⟨2, List.map eT_Pair v1636⟩)] [(0, [Cell.sl true (List.map eB v1631), cI v1632, cI v1633]), (1, zc2), (2, [Cell.own 3, Cell.own 4, Cell.own 5, Cell.nil, cI v1637])] 6) ?_ ?_
          ·rintro _ ⟨kj126, v1628, v1629, v1630, v1631, v1632, v1633, v1634, v1635, v1636, v1637, hkj126, H, rfl⟩
           unfold S_l6Config.j126 at H; refine cd H (fun hc H => ?_) (fun hc H => ?_)
           ·refine WpC.regionL ?_; refine fa underlying44 info42 ?_; refine lp shape42 ?_; refine mv ?_; refine mv ?_; refine bf built147 ?_; refine L.buildSlice (e := eT_Pair) 6 ([(⟨v1628, v1629⟩ : T_Pair)] : List T_Pair) underlying42 info147 rfl rfl rfl hF rfl rfl rfl rfl rfl rfl rfl rfl ?_; obtain ⟨h1638, H⟩ := condG H; refine L.append (xs := v1636) (ys := ([(⟨v1628, v1629⟩ : T_Pair)] : List T_Pair)) (e := eT_Pair) 7 underlying42 info147 rfl rfl hF rfl rfl rfl rfl rfl rfl rfl rfl (fun _ => rfl) (fun _ _ h1 h2 => by cases h1; cases h2; rfl) ⟨_, underlying42⟩ (of_decide_eq_true h1638) rfl rfl ?_; refine fa underlying44 info42 ?_; refine sp shape42 (L.nil ?_); exact ⟨_, ⟨kj126, v1628, v1629, v1631, v1632, v1633, v1634, v1635, (v1636 ++ ([(⟨v1628, v1629⟩ : T_Pair)] : List T_Pair)), v1637, by omega, H, rfl⟩, lm [(0, 0), (1, 1), (2, 2), (3, 3), (4, 4), (5, 7)] hm⟩
           ·refine WpC.skip ?_; exact ⟨_, ⟨kj126, v1628, v1629, v1631, v1632, v1633, v1634, v1635, v1636, v1637, by omega, H, rfl⟩, lm [(0, 0), (1, 1), (2, 2), (3, 3), (4, 4), (5, 5)] hm⟩
          ·refine WpC.regionL ?_; refine mv ?_; refine mv ?_; refine bi ?_; refine mv ?_; refine sH H (fun hc H => ?_) (fun hc H => ?_)
           ·refine mv ?_; obtain ⟨r1639, hr1639, H⟩ := bindS H; refine ca [false, false] [] [0] 6 ent75 (g75 k123  3 (⟨v1598, v1599, v1600⟩ : U_l1Cur) r1639 hr1639) ?_; refine nt ?_; refine pk (L.nil ?_); exact ⟨_, ⟨k123, v1596, v1597, (!r1639.1), r1639.2.b, r1639.2.i, r1639.2.h, v1601, v1602, v1603, v1604, by omega, H, rfl⟩, lm [(0, 0), (1, 1), (2, 2), (3, 3), (4, 4), (5, 5)] hm⟩
           ·(repeat refine of ?_); refine pk (L.nil ?_); exact ⟨_, ⟨k123, v1596, v1597, false, v1598, v1599, v1600, v1601, v1602, v1603, v1604, by omega, H, rfl⟩, lm [(0, 0), (1, 1), (2, 2), (3, 3), (4, 4), (5, 5)] hm⟩
        ·refine WpC.exit (WpC.regionL ?_); refine mv ?_; refine bi ?_; refine ag (L.nil ?_); exact ⟨k106, _, by omega, ⟨(IntKind.i64.wrap (v1596 + 1)), v1598, v1599, v1600, v1601, v1602, v1603, v1604, by omega, H, rfl⟩, lm [(0, 0), (1, 1), (2, 2), (3, 3), (4, 4), (5, 5)] hm⟩
      ·refine WpC.exit (WpC.seq (sr ?_)); refine ag (L.nil ?_); refine WpC.block ?_; refine WpC.loopL (P := Tryz.prog) (fun n σ => ∃ (v3021 : Int) (v3022 : List UInt8) (v3023 v3024 : Int) (v3025 v3026 : List Int) (v3027 v3028 : List T_Pair) (v3029 : Int), n ≤ K ∧ S_l6Config.l228 n v3021 v3022 v3023 v3024 v3025 v3026 v3027 v3028 v3029 = some r ∧ σ = mkSt [(0, oP 0 0), (2, oP 1 0), (3, oP 2 0), (8, oI v3021)] [(3, ⟨1, List.map eI v3025⟩), (4, ⟨1, List.map eI v3026⟩), (5, ⟨2, List.map eT_Pair v3027⟩), (6, ⟨2, List.map eT_Pair v3028⟩)] [(0, [Cell.sl true (List.map eB v3022), cI v3023, cI v3024]), (1, zc2), (2, [Cell.own 3, Cell.own 4, Cell.own 5, Cell.own 6, cI v3029])] 7) k106 ⟨_, ⟨0, v1377, v1378, v1379, v1380, v1381, v1382, [], v1383, by omega, H, rfl⟩, (Le.ownB 2 3 6 2 rfl rfl rfl).trans (lm [(0, 0), (1, 1), (2, 2), (3, 3), (4, 4), (5, 5), (6, 6)] hm)⟩ ?_; clear H
       rintro k228 _ ⟨v3021, v3022, v3023, v3024, v3025, v3026, v3027, v3028, v3029, hk228, H, rfl⟩
       cases k228 with
       | zero => cases H
       | succ k228 =>
        rw [S_l6Config.l228] at H
        refine WpC.seq (sr ?_); refine mv ?_; refine bi (L.nil ?_); refine cd H (fun hc H => ?_) (fun hc H => ?_)
        ·refine WpC.skip (WpC.seq (WpC.block (sr ?_))); refine ag (L.nil ?_); refine WpC.block ?_; refine WpC.loopL (P := Tryz.prog) (fun n σ => ∃ (v3262 v3263 : Int) (v3264 : List UInt8) (v3265 v3266 : Int) (v3267 v3268 : List Int) (v3269 v3270 : List T_Pair) (v3271 : Int), n ≤ K ∧ S_l6Config.l245 (S_l6Config.l228 k228) n v3262 v3263 v3264 v3265 v3266 v3267 v3268 v3269 v3270 v3271 = some r ∧ σ = mkSt [(0, oP 0 0), (2, oP 1 0), (3, oP 2 0), (8, oI v3262), (9, oI v3263)] [(3, ⟨1, List.map eI v3267⟩), (4, ⟨1, List.map eI v3268⟩), (5, ⟨2, List.map eT_Pair v3269⟩), (6, ⟨2, List.map eT_Pair v3270⟩)] [(0, [Cell.sl true (List.map eB v3264), cI v3265, cI v3266]), (1, zc2), (2, [Cell.own 3, Cell.own 4, Cell.own 5, Cell.own 6, cI v3271])] 7) k228 ⟨_, ⟨v3021, 0, v3022, v3023, v3024, v3025, v3026, v3027, v3028, v3029, by omega, H, rfl⟩, lm [(0, 0), (1, 1), (2, 2), (3, 3), (4, 4), (5, 5), (6, 6)] hm⟩ ?_; clear H
         rintro k245 _ ⟨v3262, v3263, v3264, v3265, v3266, v3267, v3268, v3269, v3270, v3271, hk245, H, rfl⟩
         cases k245 with
         | zero => cases H
         | succ k245 =>
          rw [S_l6Config.l245] at H
          refine WpC.seq (sr ?_); refine mv ?_; refine bi (L.nil ?_); refine cd H (fun hc H => ?_) (fun hc H => ?_)
          ·refine WpC.skip ?_; refine WpC.join (fun σ => ∃ (kj247 : Nat) (v3286 v3287 : Int) (v3288 : List UInt8) (v3289 v3290 : Int) (v3291 v3292 : List Int) (v3293 v3294 : List T_Pair) (v3295 : Int), kj247 ≤ K ∧ S_l6Config.j247 (S_l6Config.l245 (S_l6Config.l228 k228) k245) kj247 v3286 v3287 v3288 v3289 v3290 v3291 v3292 v3293 v3294 v3295 = some r ∧ σ = mkSt [(0, oP 0 0), (2, oP 1 0), (3, oP 2 0), (8, oI v3286), (9, oI v3287)] [(3, ⟨1, List.map eI v3291⟩), (4, ⟨1, List.map eI v3292⟩), (5, ⟨2, List.map eT_Pair v3293⟩), (6, ⟨2, List.map eT_Pair v3294⟩)] [(0, [Cell.sl true (List.map eB v3288), cI v3289, cI v3290]), (1, zc2), (2, [Cell.own 3, Cell.own 4, Cell.own 5, Cell.own 6, cI v3295])] 7) ?_ ?_
           ·rintro _ ⟨kj247, v3286, v3287, v3288, v3289, v3290, v3291, v3292, v3293, v3294, v3295, hkj247, H, rfl⟩
            unfold S_l6Config.j247 at H; refine WpC.regionL ?_; refine mv ?_; refine bi ?_; refine ag (L.nil ?_); exact ⟨k245, _, by omega, ⟨v3286, (IntKind.i64.wrap (v3287 + 1)), v3288, v3289, v3290, v3291, v3292, v3293, v3294, v3295, by omega, H, rfl⟩, lm [(0, 0), (1, 1), (2, 2), (3, 3), (4, 4), (5, 5), (6, 6)] hm⟩
           ·refine WpC.block ?_; refine WpC.join (fun σ => ∃ (kj248 : Nat) (v3297 v3298 : Int) (v3299 : Bool) (v3300 : List UInt8) (v3301 v3302 : Int) (v3303 v3304 : List Int) (v3305 v3306 : List T_Pair) (v3307 : Int), kj248 ≤ K ∧ S_l6Config.j248 (S_l6Config.l245 (S_l6Config.l228 k228) k245) kj248 v3297 v3298 v3299 v3300 v3301 v3302 v3303 v3304 v3305 v3306 v3307 = some r ∧ σ = mkSt [(0, oP 0 0), (2, oP 1 0), (3, oP 2 0), (8, oI v3297), (9, oI v3298), (75, oL v3299)] [(3, ⟨1, List.map eI v3303⟩), (4, ⟨1, List.map eI v3304⟩), (5, ⟨2, List.map eT_Pair v3305⟩), (6, ⟨2, List.map eT_Pair v3306⟩)] [(0, [Cell.sl true (List.map eB v3300), cI v3301, cI v3302]), (1, zc2), (2, [Cell.own 3, Cell.own 4, Cell.own 5, Cell.own 6, cI v3307])] 7) ?_ ?_
            ·rintro _ ⟨kj248, v3297, v3298, v3299, v3300, v3301, v3302, v3303, v3304, v3305, v3306, v3307, hkj248, H, rfl⟩
             unfold S_l6Config.j248 at H; refine cd H (fun hc H => ?_) (fun hc H => ?_)
             ·refine WpC.regionL ?_; refine fa underlying44 info42 ?_; refine lp shape42 ?_; refine mv ?_; refine mv ?_; refine bf built147 ?_; refine L.buildSlice (e := eT_Pair) 7 ([(⟨v3297, v3298⟩ : T_Pair)] : List T_Pair) underlying42 info147 rfl rfl rfl hF rfl rfl rfl rfl rfl rfl rfl rfl ?_; obtain ⟨h3308, H⟩ := condG H; refine L.append (xs := v3306) (ys := ([(⟨v3297, v3298⟩ : T_Pair)] : List T_Pair)) (e := eT_Pair) 8 underlying42 info147 rfl rfl hF rfl rfl rfl rfl rfl rfl rfl rfl (fun _ => rfl) (fun _ _ h1 h2 => by cases h1; cases h2; rfl) ⟨_, underlying42⟩ (of_decide_eq_true h3308) rfl rfl ?_; refine fa underlying44 info42 ?_; refine sp shape42 (L.nil ?_); exact ⟨_, ⟨kj248, v3297, v3298, v3300, v3301, v3302, v3303, v3304, v3305, (v3306 ++ ([(⟨v3297, v3298⟩ : T_Pair)] : List T_Pair)), v3307, by omega, H, rfl⟩, lm [(0, 0), (1, 1), (2, 2), (3, 3), (4, 4), (5, 5), (6, 8)] hm⟩
             ·refine WpC.skip ?_; exact ⟨_, ⟨kj248, v3297, v3298, v3300, v3301, v3302, v3303, v3304, v3305, v3306, v3307, by omega, H, rfl⟩, lm [(0, 0), (1, 1), (2, 2), (3, 3), (4, 4), (5, 5), (6, 6)] hm⟩
            ·refine WpC.regionL ?_; refine mv ?_; refine mv ?_; refine bi ?_; refine mv ?_; refine sH H (fun hc H => ?_) (fun hc H => ?_)
             ·refine mv ?_; obtain ⟨r3309, hr3309, H⟩ := bindS H; refine ca [false, false] [] [0] 7 ent75 (g75 k245  3 (⟨v3264, v3265, v3266⟩ : U_l1Cur) r3309 hr3309) ?_; refine nt ?_; refine pk (L.nil ?_); exact ⟨_, ⟨k245, v3262, v3263, (!r3309.1), r3309.2.b, r3309.2.i, r3309.2.h, v3267, v3268, v3269, v3270, v3271, by omega, H, rfl⟩, lm [(0, 0), (1, 1), (2, 2), (3, 3), (4, 4), (5, 5), (6, 6)] hm⟩
             ·(repeat refine of ?_); refine pk (L.nil ?_); exact ⟨_, ⟨k245, v3262, v3263, false, v3264, v3265, v3266, v3267, v3268, v3269, v3270, v3271, by omega, H, rfl⟩, lm [(0, 0), (1, 1), (2, 2), (3, 3), (4, 4), (5, 5), (6, 6)] hm⟩
          ·refine WpC.exit (WpC.regionL ?_); refine mv ?_; refine bi ?_; refine ag (L.nil ?_); exact ⟨k228, _, by omega, ⟨(IntKind.i64.wrap (v3262 + 1)), v3264, v3265, v3266, v3267, v3268, v3269, v3270, v3271, by omega, H, rfl⟩, lm [(0, 0), (1, 1), (2, 2), (3, 3), (4, 4), (5, 5), (6, 6)] hm⟩
        ·refine WpC.exit (WpC.seq (sr ?_)); refine mv ?_; obtain ⟨r3314, hr3314, H⟩ := bindS H; refine ca [false, false] [] [0] 7 ent75 (g75 k228  3 (⟨v3022, v3023, v3024⟩ : U_l1Cur) r3314 hr3314) (L.nil ?_); refine cd H (fun hc H => ?_) (fun hc H => ?_)
         ·obtain ⟨b3315, hb3315, H⟩ := bindS H; obtain ⟨b3316, hb3316, H⟩ := bindS H; obtain ⟨b3317, hb3317, H⟩ := bindS H
          refine A.lin (fun β => mkStL [(2, iP 1 0), (3, iP 2 0), (86, lP (β 0) 2 0), (87, al (β 1) (one (Cell.own 3))), (88, al (β 2) (one (Cell.ep 3 ((0 : Int).toNat) 0))), (89, lI (β 3) b3315), (90, lP (β 4) 2 0), (91, al (β 5) (one (Cell.own 3))), (92, al (β 6) (one (Cell.ep 3 ((0 : Int).toNat) 0))), (93, lI (β 7) b3316), (94, lP (β 8) 2 1), (95, al (β 9) (one (Cell.own 4))), (96, al (β 10) (one (Cell.ep 4 ((2 : Int).toNat) 0))), (97, lI (β 11) b3317), (98, al (β 12) (one (Cell.own 11))), (99, lP (β 13) 2 1)] [(3, ai (⟨1, List.map eI v3025⟩)), (4, ai (⟨1, List.map eI v3026⟩)), (5, ai (⟨2, List.map eT_Pair v3027⟩)), (6, ai (⟨2, List.map eT_Pair v3028⟩)), (11, al (β 12) (⟨1, List.map eI ([b3315, b3316, b3317] : List Int)⟩))] [(0, ai ((bU_l1Cur true r3314.2))), (1, ai (zc2)), (2, [(β 14, some ([Cell.own 3, Cell.own 11, Cell.own 5, Cell.own 6, cI v3029])), (true, some ([Cell.own 3, Cell.own 4, Cell.own 5, Cell.own 6, cI v3029]))])] 12) [([], [1, 2, 3, 12, 13, 14]), ([0], [2, 3, 12, 13, 14]), ([0, 1], [3, 12, 13, 14]), ([0, 1, 2], [12, 13, 14]), ([], [5, 6, 7, 12, 13, 14]), ([4], [6, 7, 12, 13, 14]), ([4, 5], [7, 12, 13, 14]), ([4, 5, 6], [12, 13, 14]), ([], [9, 10, 11, 12, 13, 14]), ([8], [10, 11, 12, 13, 14]), ([8, 9], [11, 12, 13, 14]), ([8, 9, 10], [12, 13, 14]), ([0, 1, 2, 3, 4, 5, 6, 7, 8, 9, 10, 11], [13, 14]), ([0, 1, 2, 3, 4, 5, 6, 7, 8, 9, 10, 11, 12], [14]), ([0, 1, 2, 3, 4, 5, 6, 7, 8, 9, 10, 11, 12, 13], [])] 15 mixed rfl (by kernel_rfl) ?_ ?_ ?_
          ·exact Le.lin [] hm rfl (sa2 (kn2 (kn4 (kn8 kz)))) (ra (ra (ra (ra (kn kz))))) (ba (ba (ba kz)))
          ·repeat' (first | exact trivial | refine ⟨⟨_, rfl, fun β => ?_⟩, ?_⟩ | fail)
           ·refine fa underlying44 info22 ?_; exact lx [] hm
           ·refine lp shape22 ?_; exact lx [] hm
           ·refine ix underlying22 info3 hb3315 ?_; exact lx [] hm
           ·refine L.loadEp (xs := v3025) (e := eI) shape3 hF rfl rfl rfl rfl (at?_get hb3315).2 rfl rfl ?_; exact lx [] hm
           ·refine fa underlying44 info22 ?_; exact lx [] hm
           ·refine lp shape22 ?_; exact lx [] hm
           ·refine ix underlying22 info3 hb3316 ?_; exact lx [] hm
           ·refine L.loadEp (xs := v3025) (e := eI) shape3 hF rfl rfl rfl rfl (at?_get hb3316).2 rfl rfl ?_; exact lx [] hm
           ·refine fa underlying44 info22 ?_; exact lx [] hm
           ·refine lp shape22 ?_; exact lx [] hm
           ·refine ix underlying22 info3 hb3317 ?_; exact lx [] hm
           ·refine L.loadEp (xs := v3026) (e := eI) shape3 hF rfl rfl rfl rfl (at?_get hb3317).2 rfl rfl ?_; exact lx [] hm
           ·refine L.buildSlice (e := eI) 12 ([b3315, b3316, b3317] : List Int) underlying22 info3 rfl rfl rfl hF rfl rfl rfl rfl rfl rfl rfl rfl ?_; exact lx [(11, 12)] hm
           ·refine fa underlying44 info22 ?_; exact lx [] hm
           ·refine sp shape22 ?_; exact lx [] hm
          refine ⟨_, (lm [(0, 0), (1, 1), (2, 2), (3, 3), (4, 11), (5, 5), (6, 6)] hm : Le _ _ (mkSt [(2, oP 1 0), (3, oP 2 0)] [(3, ⟨1, List.map eI v3025⟩), (4, ⟨1, List.map eI ([b3315, b3316, b3317] : List Int)⟩), (5, ⟨2, List.map eT_Pair v3027⟩), (6, ⟨2, List.map eT_Pair v3028⟩)] [(0, (bU_l1Cur true r3314.2)), (1, zc2), (2, [Cell.own 3, Cell.own 4, Cell.own 5, Cell.own 6, cI v3029])] 7)), ?_⟩; refine sr ?_; refine lp shape44 ?_; refine sp shape44 (L.nil ?_); cases H; exact WpC.ret rt
         ·refine WpC.skip (sr ?_); refine lp shape44 ?_; refine sp shape44 (L.nil ?_); cases H; exact WpC.ret rt
/-! ### S_l6Any -/
def S_l6Any (k : Nat) (o0 : U_l1Cur) : Option (T_Config × U_l1Cur) := (S_l6Config k o0).bind fun r1 => (S_l1Once k 8 r1.2).bind fun r14 => cond r14.1 ((S_l1Below k 5 r14.2).bind fun r15 => cond (r15.1 == 0) ((S_l1PickInt k ([(-1), 3] : List Int) r15.2).bind fun r16 => (at? r1.1.UserRealm 0).bind fun b17 => some ((⟨(r1.1.UserRealm.set ((0 : Int).toNat) r16.1), r1.1.ServiceRealm, r1.1.Links, r1.1.Proxy, r1.1.Skew⟩ : T_Config), r16.2)) (cond (r15.1 == 1) (cond (decide ((2 * (r1.1.ServiceRealm.length + ([0] : List Int).length) + 192) * 8 ≤ 281474976710656)) (some ((⟨r1.1.UserRealm, (r1.1.ServiceRealm ++ ([0] : List Int)), r1.1.Links, r1.1.Proxy, r1.1.Skew⟩ : T_Config), r15.2)) none) (cond (r15.1 == 2) ((S_l1Below k 4 r15.2).bind fun r19 => (S_l1Below k 4 r19.2).bind fun r20 => cond (decide ((2 * (r1.1.Links.length + ([(⟨r19.1, r20.1⟩ : T_Pair)] : List T_Pair).length) + 192) * 16 ≤ 281474976710656)) (some ((⟨r1.1.UserRealm, r1.1.ServiceRealm, (r1.1.Links ++ ([(⟨r19.1, r20.1⟩ : T_Pair)] : List T_Pair)), r1.1.Proxy, r1.1.Skew⟩ : T_Config), r20.2)) none) (cond (r15.1 == 3) ((S_l1Below k 4 r15.2).bind fun r22 => (S_l1Below k 4 r22.2).bind fun r23 => cond (decide ((2 * (r1.1.Proxy.length + ([(⟨r22.1, r23.1⟩ : T_Pair)] : List T_Pair).length) + 192) * 16 ≤ 281474976710656)) (some ((⟨r1.1.UserRealm, r1.1.ServiceRealm, r1.1.Links, (r1.1.Proxy ++ ([(⟨r22.1, r23.1⟩ : T_Pair)] : List T_Pair)), r1.1.Skew⟩ : T_Config), r23.2)) none) ((S_l1PickInt k ([(-1), 20, 21] : List Int) r15.2).bind fun r25 => some ((⟨r1.1.UserRealm, r1.1.ServiceRealm, r1.1.Links, r1.1.Proxy, r25.1⟩ : T_Config), r25.2)))))) (some (r1.1, r14.2))
theorem ent70 : MG.Enters Tryz.prog 70 := ⟨Tryz.f70, func70, rfl, by decide⟩
theorem g70 (k : Nat) (o0 : U_l1Cur) (r : T_Config × U_l1Cur) (H : S_l6Any k o0 = some r) : Gives Tryz.prog 70 [V.one (Cell.ptr 0 0)] [[Cell.sl true (List.map eB o0.b), cI o0.i, cI o0.h]] [V.agg [Cell.ow 1 (List.map eI r.1.UserRealm), Cell.ow 1 (List.map eI r.1.ServiceRealm), Cell.ow 2 (List.map eT_Pair r.1.Links), Cell.ow 2 (List.map eT_Pair r.1.Proxy), cI r.1.Skew]] [[Cell.sl true (List.map eB r.2.b), cI r.2.i, cI r.2.h]] := by
 refine Gives.intro func70 rfl rfl rfl rfl ?_; refine fx fun w0 T S0 ob oh hm => ?_
 have hF := fxe w0 T S0 54 ob oh
 unfold S_l6Any at H; obtain ⟨K, hK⟩ := leK k; refine sr ?_; refine alc 5 info44 (L.nil ?_); refine sr ?_; refine mv ?_; obtain ⟨r1, hr1, H⟩ := bindS H; refine ca [false] [] [0] 6 ent125 (g125 k  o0 r1 hr1) ?_; refine alc 14 info44 ?_; refine sp shape44 (L.nil ?_); refine WpC.seq (sr ?_); refine mv ?_; obtain ⟨r14, hr14, H⟩ := bindS H; refine ca [false, false] [] [0] 15 ent75 (g75 k  8 r1.2 r14 hr14) (L.nil ?_); refine cd H (fun hc H => ?_) (fun hc H => ?_)
 ·refine sr ?_; refine mv ?_; obtain ⟨r15, hr15, H⟩ := bindS H; refine ca [false, false] [] [0] 19 ent71 (g71 k  5 r14.2 r15 hr15) (L.nil ?_); refine WpC.block (sr ?_); refine bi ?_; refine ag (L.nil ?_); refine cd H (fun hc H => ?_) (fun hc H => ?_)
  ·obtain ⟨r16, hr16, H⟩ := bindS H; obtain ⟨b17, hb17, H⟩ := bindS H; refine A.lin (fun β => mkStL [(0, iP 0 0), (2, iP 5 0), (3, iP 14 0), (16, lP (β 0) 14 0), (17, al (β 1) (one (Cell.own 6))), (18, lP (β 2) 0 0), (19, al (β 3) (one (Cell.own 23))), (20, al (β 4) (one (cI r16.1))), (21, al (β 5) (one (Cell.ep 6 ((0 : Int).toNat) 0)))] [(6, [(β 6, some (⟨1, List.map eI (r1.1.UserRealm.set ((0 : Int).toNat) r16.1)⟩)), (true, some (⟨1, List.map eI r1.1.UserRealm⟩))]), (7, ai (⟨1, List.map eI r1.1.ServiceRealm⟩)), (8, ai (⟨2, List.map eT_Pair r1.1.Links⟩)), (9, ai (⟨2, List.map eT_Pair r1.1.Proxy⟩)), (23, al (β 3) (⟨1, List.map eI ([(-1), 3] : List Int)⟩))] [(0, [(β 4, some ((bU_l1Cur true r16.2))), (true, some ((bU_l1Cur true r15.2)))]), (5, ai (zc2)), (14, ai ([Cell.own 6, Cell.own 7, Cell.own 8, Cell.own 9, cI r1.1.Skew]))] 28) [([], [1, 5, 6]), ([0], [5, 6]), ([], [4, 5, 6]), ([], [4, 5, 6]), ([2, 3], [5, 6]), ([0, 1, 2, 3, 4], [6]), ([0, 1, 2, 3, 4, 5], [])] 7 mixed rfl (by kernel_rfl) ?_ ?_ ?_
   ·exact Le.lin [] hm rfl (sa (sa2 (kn2 (kn4 kz)))) (ra (ra (ra (ra (kn kz))))) (ba (ba (ba kz)))
   ·repeat' (first | exact trivial | refine ⟨⟨_, rfl, fun β => ?_⟩, ?_⟩ | fail)
    ·refine fa underlying44 info22 ?_; exact lx [] hm
    ·refine lp shape22 ?_; exact lx [] hm
    ·refine mv ?_; exact lx [] hm
    ·refine L.buildSlice (e := eI) 28 ([(-1), 3] : List Int) underlying22 info3 rfl rfl rfl hF rfl rfl rfl rfl rfl rfl rfl rfl ?_; exact lx [(23, 28)] hm
    ·refine ca [false, false] [23] [0] 28 ent96 (g96 k false ([(-1), 3] : List Int) r15.2 r16 hr16) ?_; exact lx [(24, 28), (25, 29), (26, 30), (27, 31)] hm
    ·refine ix underlying22 info3 hb17 ?_; exact lx [] hm
    ·refine L.storeEp (xs := r1.1.UserRealm) (e := eI) (a' := r16.1) shape3 hF rfl rfl rfl rfl rfl rfl rfl (at?_get hb17).2 rfl rfl ?_; exact lx [] hm
   refine ⟨_, (lm [(0, 0), (1, 5), (2, 14), (3, 6), (4, 7), (5, 8), (6, 9)] hm : Le _ _ (mkSt [(2, oP 1 0), (3, oP 2 0)] [(3, ⟨1, List.map eI (r1.1.UserRealm.set ((0 : Int).toNat) r16.1)⟩), (4, ⟨1, List.map eI r1.1.ServiceRealm⟩), (5, ⟨2, List.map eT_Pair r1.1.Links⟩), (6, ⟨2, List.map eT_Pair r1.1.Proxy⟩)] [(0, (bU_l1Cur true r16.2)), (1, zc2), (2, [Cell.own 3, Cell.own 4, Cell.own 5, Cell.own 6, cI r1.1.Skew])] 7)), ?_⟩; refine sr ?_; refine lp shape44 ?_; refine sp shape44 (L.nil ?_); cases H; exact WpC.ret rt
  ·refine sr ?_; refine bi ?_; refine ag (L.nil ?_); refine cd H (fun hc H => ?_) (fun hc H => ?_)
   ·refine WpC.regionL ?_; refine fa underlying44 info22 ?_; refine lp shape22 ?_; refine L.buildSlice (e := eI) 23 ([0] : List Int) underlying22 info3 rfl rfl rfl hF rfl rfl rfl rfl rfl rfl rfl rfl ?_; obtain ⟨h18, H⟩ := condG H; refine L.append (xs := r1.1.ServiceRealm) (ys := ([0] : List Int)) (e := eI) 24 underlying22 info3 rfl rfl hF rfl rfl rfl rfl rfl rfl rfl rfl (fun _ => rfl) (fun _ _ h1 h2 => by cases h1; cases h2; rfl) ⟨_, underlying22⟩ (of_decide_eq_true h18) rfl rfl ?_; refine fa underlying44 info22 ?_; refine sp shape22 (L.nil ?_); refine sr ?_; refine lp shape44 ?_; refine sp shape44 (L.nil ?_); cases H; exact WpC.ret rt
   ·refine sr ?_; refine bi ?_; refine ag (L.nil ?_); refine cd H (fun hc H => ?_) (fun hc H => ?_)
    ·obtain ⟨r19, hr19, H⟩ := bindS H; obtain ⟨r20, hr20, H⟩ := bindS H; obtain ⟨h21, H⟩ := condG H
     refine A.lin (fun β => mkStL [(0, iP 0 0), (2, iP 5 0), (3, iP 14 0), (31, lP (β 0) 14 2), (32, al (β 1) (one (Cell.own 8))), (33, lP (β 2) 0 0), (34, al (β 3) (one (cI r19.1))), (35, lP (β 4) 0 0), (36, al (β 5) (one (cI r20.1))), (37, al (β 6) (agg [cI r19.1, cI r20.1])), (38, al (β 7) (one (Cell.own 31))), (39, al (β 8) (one (Cell.own 32))), (40, lP (β 9) 14 2)] [(6, ai (⟨1, List.map eI r1.1.UserRealm⟩)), (7, ai (⟨1, List.map eI r1.1.ServiceRealm⟩)), (8, [(β 8, none), (true, some (⟨2, List.map eT_Pair r1.1.Links⟩))]), (9, ai (⟨2, List.map eT_Pair r1.1.Proxy⟩)), (31, al (β 7) (⟨2, List.map eT_Pair ([(⟨r19.1, r20.1⟩ : T_Pair)] : List T_Pair)⟩)), (32, al (β 8) (⟨2, List.map eT_Pair (r1.1.Links ++ ([(⟨r19.1, r20.1⟩ : T_Pair)] : List T_Pair))⟩))] [(0, [(β 5, some ((bU_l1Cur true r20.2))), (β 3, some ((bU_l1Cur true r19.2))), (true, some ((bU_l1Cur true r15.2)))]), (5, ai (zc2)), (14, [(β 10, some ([Cell.own 6, Cell.own 7, Cell.own 32, Cell.own 9, cI r1.1.Skew])), (true, some ([Cell.own 6, Cell.own 7, Cell.own 8, Cell.own 9, cI r1.1.Skew]))])] 33) [([], [1, 8, 9, 10]), ([0], [8, 9, 10]), ([], [3, 5, 6, 7, 8, 9, 10]), ([2], [5, 6, 7, 8, 9, 10]), ([], [5, 6, 7, 8, 9, 10]), ([2, 3, 4], [6, 7, 8, 9, 10]), ([2, 3, 4, 5], [7, 8, 9, 10]), ([2, 3, 4, 5, 6], [8, 9, 10]), ([0, 1, 2, 3, 4, 5, 6, 7], [9, 10]), ([0, 1, 2, 3, 4, 5, 6, 7, 8], [10]), ([0, 1, 2, 3, 4, 5, 6, 7, 8, 9], [])] 11 mixed rfl (by kernel_rfl) ?_ ?_ ?_
     ·exact Le.lin [] hm rfl (sa (sa2 (kn2 (kn8 kz)))) (ra (ra (ra (ra (kn2 kz))))) (ba (ba (ba kz)))
     ·repeat' (first | exact trivial | refine ⟨⟨_, rfl, fun β => ?_⟩, ?_⟩ | fail)
      ·refine fa underlying44 info42 ?_; exact lx [] hm
      ·refine lp shape42 ?_; exact lx [] hm
      ·refine mv ?_; exact lx [] hm
      ·refine ca [false, false] [] [0] 33 ent71 (g71 k  4 r15.2 r19 hr19) ?_; exact lx [(23, 33), (24, 34), (25, 35), (26, 36)] hm
      ·refine mv ?_; exact lx [] hm
      ·refine ca [false, false] [] [0] 33 ent71 (g71 k  4 r19.2 r20 hr20) ?_; exact lx [(27, 33), (28, 34), (29, 35), (30, 36)] hm
      ·refine bf built147 ?_; exact lx [] hm
      ·refine L.buildSlice (e := eT_Pair) 33 ([(⟨r19.1, r20.1⟩ : T_Pair)] : List T_Pair) underlying42 info147 rfl rfl rfl hF rfl rfl rfl rfl rfl rfl rfl rfl ?_; exact lx [(31, 33)] hm
      ·refine L.append (xs := r1.1.Links) (ys := ([(⟨r19.1, r20.1⟩ : T_Pair)] : List T_Pair)) (e := eT_Pair) 33 underlying42 info147 rfl rfl hF rfl rfl rfl rfl rfl rfl rfl rfl (fun _ => rfl) (fun _ _ h1 h2 => by cases h1; cases h2; rfl) ⟨_, underlying42⟩ (of_decide_eq_true h21) rfl rfl ?_; exact lx [(32, 33)] hm
      ·refine fa underlying44 info42 ?_; exact lx [] hm
      ·refine sp shape42 ?_; exact lx [] hm
     refine ⟨_, (lm [(0, 0), (1, 5), (2, 14), (3, 6), (4, 7), (5, 32), (6, 9)] hm : Le _ _ (mkSt [(2, oP 1 0), (3, oP 2 0)] [(3, ⟨1, List.map eI r1.1.UserRealm⟩), (4, ⟨1, List.map eI r1.1.ServiceRealm⟩), (5, ⟨2, List.map eT_Pair (r1.1.Links ++ ([(⟨r19.1, r20.1⟩ : T_Pair)] : List T_Pair))⟩), (6, ⟨2, List.map eT_Pair r1.1.Proxy⟩)] [(0, (bU_l1Cur true r20.2)), (1, zc2), (2, [Cell.own 3, Cell.own 4, Cell.own 5, Cell.own 6, cI r1.1.Skew])] 7)), ?_⟩; refine sr ?_; refine lp shape44 ?_; refine sp shape44 (L.nil ?_); cases H; exact WpC.ret rt
    ·refine sr ?_; refine bi ?_; refine ag (L.nil ?_); refine cd H (fun hc H => ?_) (fun hc H => ?_)
     ·obtain ⟨r22, hr22, H⟩ := bindS H; obtain ⟨r23, hr23, H⟩ := bindS H; obtain ⟨h24, H⟩ := condG H
      refine A.lin (fun β => mkStL [(0, iP 0 0), (2, iP 5 0), (3, iP 14 0), (43, lP (β 0) 14 3), (44, al (β 1) (one (Cell.own 9))), (45, lP (β 2) 0 0), (46, al (β 3) (one (cI r22.1))), (47, lP (β 4) 0 0), (48, al (β 5) (one (cI r23.1))), (49, al (β 6) (agg [cI r22.1, cI r23.1])), (50, al (β 7) (one (Cell.own 31))), (51, al (β 8) (one (Cell.own 32))), (52, lP (β 9) 14 3)] [(6, ai (⟨1, List.map eI r1.1.UserRealm⟩)), (7, ai (⟨1, List.map eI r1.1.ServiceRealm⟩)), (8, ai (⟨2, List.map eT_Pair r1.1.Links⟩)), (9, [(β 8, none), (true, some (⟨2, List.map eT_Pair r1.1.Proxy⟩))]), (31, al (β 7) (⟨2, List.map eT_Pair ([(⟨r22.1, r23.1⟩ : T_Pair)] : List T_Pair)⟩)), (32, al (β 8) (⟨2, List.map eT_Pair (r1.1.Proxy ++ ([(⟨r22.1, r23.1⟩ : T_Pair)] : List T_Pair))⟩))] [(0, [(β 5, some ((bU_l1Cur true r23.2))), (β 3, some ((bU_l1Cur true r22.2))), (true, some ((bU_l1Cur true r15.2)))]), (5, ai (zc2)), (14, [(β 10, some ([Cell.own 6, Cell.own 7, Cell.own 8, Cell.own 32, cI r1.1.Skew])), (true, some ([Cell.own 6, Cell.own 7, Cell.own 8, Cell.own 9, cI r1.1.Skew]))])] 33) [([], [1, 8, 9, 10]), ([0], [8, 9, 10]), ([], [3, 5, 6, 7, 8, 9, 10]), ([2], [5, 6, 7, 8, 9, 10]), ([], [5, 6, 7, 8, 9, 10]), ([2, 3, 4], [6, 7, 8, 9, 10]), ([2, 3, 4, 5], [7, 8, 9, 10]), ([2, 3, 4, 5, 6], [8, 9, 10]), ([0, 1, 2, 3, 4, 5, 6, 7], [9, 10]), ([0, 1, 2, 3, 4, 5, 6, 7, 8], [10]), ([0, 1, 2, 3, 4, 5, 6, 7, 8, 9], [])] 11 mixed rfl (by kernel_rfl) ?_ ?_ ?_
      ·exact Le.lin [] hm rfl (sa (sa2 (kn2 (kn8 kz)))) (ra (ra (ra (ra (kn2 kz))))) (ba (ba (ba kz)))
      ·repeat' (first | exact trivial | refine ⟨⟨_, rfl, fun β => ?_⟩, ?_⟩ | fail)
       ·refine fa underlying44 info42 ?_; exact lx [] hm
       ·refine lp shape42 ?_; exact lx [] hm
       ·refine mv ?_; exact lx [] hm
       ·refine ca [false, false] [] [0] 33 ent71 (g71 k  4 r15.2 r22 hr22) ?_; exact lx [(23, 33), (24, 34), (25, 35), (26, 36)] hm
       ·refine mv ?_; exact lx [] hm
       ·refine ca [false, false] [] [0] 33 ent71 (g71 k  4 r22.2 r23 hr23) ?_; exact lx [(27, 33), (28, 34), (29, 35), (30, 36)] hm
       ·refine bf built147 ?_; exact lx [] hm
       ·refine L.buildSlice (e := eT_Pair) 33 ([(⟨r22.1, r23.1⟩ : T_Pair)] : List T_Pair) underlying42 info147 rfl rfl rfl hF rfl rfl rfl rfl rfl rfl rfl rfl ?_; exact lx [(31, 33)] hm
       ·refine L.append (xs := r1.1.Proxy) (ys := ([(⟨r22.1, r23.1⟩ : T_Pair)] : List T_Pair)) (e := eT_Pair) 33 underlying42 info147 rfl rfl hF rfl rfl rfl rfl rfl rfl rfl rfl (fun _ => rfl) (fun _ _ h1 h2 => by cases h1; cases h2; rfl) ⟨_, underlying42⟩ (of_decide_eq_true h24) rfl rfl ?_; exact lx [(32, 33)] hm
       ·refine fa underlying44 info42 ?_; exact lx [] hm
       ·refine sp shape42 ?_; exact lx [] hm
      refine ⟨_, (lm [(0, 0), (1, 5), (2, 14), (3, 6), (4, 7), (5, 8), (6, 32)] hm : Le _ _ (mkSt [(2, oP 1 0), (3, oP 2 0)] [(3, ⟨1, List.map eI r1.1.UserRealm⟩), (4, ⟨1, List.map eI r1.1.ServiceRealm⟩), (5, ⟨2, List.map eT_Pair r1.1.Links⟩), (6, ⟨2, List.map eT_Pair (r1.1.Proxy ++ ([(⟨r22.1, r23.1⟩ : T_Pair)] : List T_Pair))⟩)] [(0, (bU_l1Cur true r23.2)), (1, zc2), (2, [Cell.own 3, Cell.own 4, Cell.own 5, Cell.own 6, cI r1.1.Skew])] 7)), ?_⟩; refine sr ?_; refine lp shape44 ?_; refine sp shape44 (L.nil ?_); cases H; exact WpC.ret rt
     ·refine WpC.regionL ?_; refine mv ?_; refine L.buildSlice (e := eI) 23 ([(-1), 20, 21] : List Int) underlying22 info3 rfl rfl rfl hF rfl rfl rfl rfl rfl rfl rfl rfl ?_; obtain ⟨r25, hr25, H⟩ := bindS H; refine ca [false, false] [23] [0] 24 ent96 (g96 k false ([(-1), 20, 21] : List Int) r15.2 r25 hr25) ?_; refine fa underlying44 info3 ?_; refine sp shape3 (L.nil ?_); refine sr ?_; refine lp shape44 ?_; refine sp shape44 (L.nil ?_); cases H; exact WpC.ret rt
 ·refine WpC.skip (sr ?_); refine lp shape44 ?_; refine sp shape44 (L.nil ?_); cases H; exact WpC.ret rt
/-! ### S_l5All -/
def S_l5All.l2 : Nat → (List Int) → Int → Int → Option Bool
 | 0, _, _, _ => none
 | k2 + 1, v54, v55, v56 => cond (decide (v56 < (v54.length : Int))) ((at? v54 v56).bind fun b63 => cond (decide (b63 < 0)) (some false) ((at? v54 v56).bind fun b64 => cond (decide (b64 ≥ v55)) (some false) ((S_l5All.l2 k2) v54 v55 (IntKind.i64.wrap (v56 + 1))))) (some true)
def S_l5All (k : Nat) (a0 : List Int) (a1 a2 : Int) : Option Bool := cond (decide ((a0.length : Int) > a1)) (some false) (S_l5All.l2 k a0 a2 0)
theorem ent106 : MG.Enters Tryz.prog 106 := ⟨Tryz.f106, func106, rfl, by decide⟩
theorem g106 (k : Nat) (g0 : Bool) (a0 : List Int) (a1 a2 : Int) (r : Bool) (H : S_l5All k a0 a1 a2 = some r) : Gives Tryz.prog 106 [V.one (Cell.sl g0 (List.map eI a0)), V.one (cI a1), V.one (cI a2)] [] [V.one (cL r)] [] := by
 refine Gives.intro func106 rfl rfl rfl rfl ?_; refine fx fun w0 T S0 ob oh hm => ?_
 have hF := fxe w0 T S0 31 ob oh
 unfold S_l5All at H; obtain ⟨K, hK⟩ := leK k; refine sr ?_; refine ag (L.nil ?_); refine WpC.seq (sr ?_); refine mv ?_; refine L.lenR (xs := a0) (e := eI) underlying22 hF rfl rfl rfl rfl ?_; refine mv ?_; refine bi (L.nil ?_); refine cd H (fun hc H => ?_) (fun hc H => ?_)
 ·refine sr ?_; refine ag (L.nil ?_); cases H; exact WpC.ret rt
 ·refine WpC.skip (WpC.seq (sr ?_)); refine ag (L.nil ?_); refine WpC.block ?_; refine WpC.loopL (P := Tryz.prog) (fun n σ => ∃ (v54 : List Int) (v55 v56 : Int), n ≤ K ∧ S_l5All.l2 n v54 v55 v56 = some r ∧ σ = mkSt [(0, one (Cell.sl g0 (List.map eI v54))), (2, oI v55), (7, oI v56)] [] [] 0) k ⟨_, ⟨a0, a2, 0, by omega, H, rfl⟩, lm [] hm⟩ ?_; clear H
  rintro k2 _ ⟨v54, v55, v56, hk2, H, rfl⟩
  cases k2 with
  | zero => cases H
  | succ k2 =>
   rw [S_l5All.l2] at H
   refine WpC.seq (sr ?_); refine mv ?_; refine mv ?_; refine L.lenR (xs := v54) (e := eI) underlying22 hF rfl rfl rfl rfl ?_; refine bi (L.nil ?_); refine cd H (fun hc H => ?_) (fun hc H => ?_)
   ·refine WpC.skip (WpC.seq (WpC.block (sr ?_))); refine mv ?_; refine mv ?_; obtain ⟨b63, hb63, H⟩ := bindS H; refine ix underlying22 info3 hb63 ?_; refine le shape3 ?_; refine bi ?_; refine mv ?_; refine sH H (fun hc H => ?_) (fun hc H => ?_)
    ·(repeat refine of ?_); refine pk (L.nil ?_); refine cT ?_; refine sr ?_; refine ag (L.nil ?_); cases H; exact WpC.ret rt
    ·refine mv ?_; refine mv ?_; obtain ⟨b64, hb64, H⟩ := bindS H; refine ix underlying22 info3 hb64 ?_; refine le shape3 ?_; refine mv ?_; refine bi ?_; refine pk (L.nil ?_); refine cd H (fun hc H => ?_) (fun hc H => ?_)
     ·refine sr ?_; refine ag (L.nil ?_); cases H; exact WpC.ret rt
     ·refine WpC.skip (WpC.regionL ?_); refine mv ?_; refine bi ?_; refine ag (L.nil ?_); exact ⟨k2, _, by omega, ⟨v54, v55, (IntKind.i64.wrap (v56 + 1)), by omega, H, rfl⟩, lm [] hm⟩
   ·refine WpC.exit (sr ?_); refine ag (L.nil ?_); cases H; exact WpC.ret rt
/-! ### S_l6Has -/
def S_l6Has.l2 : Nat → (List T_Pair) → Int → T_Pair → Option Bool
 | 0, _, _, _ => none
 | k2 + 1, v24, v25, v26 => cond (decide (v25 < (v24.length : Int))) ((at? v24 v25).bind fun b28 => cond ((b28.A == v26.A) && ((b28.B == v26.B) && true)) (some true) ((S_l6Has.l2 k2) v24 (IntKind.i64.wrap (v25 + 1)) v26)) (some false)
def S_l6Has (k : Nat) (a0 : List T_Pair) (a1 : T_Pair) : Option Bool := S_l6Has.l2 k a0 0 a1
theorem ent168 : MG.Enters Tryz.prog 168 := ⟨Tryz.f168, func168, rfl, by decide⟩
theorem g168 (k : Nat) (g0 : Bool) (a0 : List T_Pair) (a1 : T_Pair) (r : Bool) (H : S_l6Has k a0 a1 = some r) : Gives Tryz.prog 168 [V.one (Cell.sl g0 (List.map eT_Pair a0)), V.agg [cI a1.A, cI a1.B]] [] [V.one (cL r)] [] := by
 refine Gives.intro func168 rfl rfl rfl rfl ?_; refine fx fun w0 T S0 ob oh hm => ?_
 have hF := fxe w0 T S0 18 ob oh
 unfold S_l6Has at H; obtain ⟨K, hK⟩ := leK k; refine sr ?_; refine bo 3 ?_; refine ag (L.nil ?_); refine WpC.seq (sr ?_); refine ag (L.nil ?_); refine WpC.block ?_; refine WpC.loopL (P := Tryz.prog) (fun n σ => ∃ (v24 : List T_Pair) (v25 : Int) (v26 : T_Pair), n ≤ K ∧ S_l6Has.l2 n v24 v25 v26 = some r ∧ σ = mkSt [(0, one (Cell.sl g0 (List.map eT_Pair v24))), (3, oP 0 0), (5, oI v25)] [] [(0, [cI v26.A, cI v26.B])] 1) k ⟨_, ⟨a0, 0, a1, by omega, H, rfl⟩, lm [(0, 3)] hm⟩ ?_; clear H
 rintro k2 _ ⟨v24, v25, v26, hk2, H, rfl⟩
 cases k2 with
 | zero => cases H
 | succ k2 =>
  rw [S_l6Has.l2] at H
  refine WpC.seq (sr ?_); refine mv ?_; refine mv ?_; refine L.lenR (xs := v24) (e := eT_Pair) underlying42 hF rfl rfl rfl rfl ?_; refine bi (L.nil ?_); refine cd H (fun hc H => ?_) (fun hc H => ?_)
  ·refine WpC.skip (WpC.seq (WpC.block (WpC.seq ?_))); refine S.begin mixed (by kernel_rfl) ?_; refine S.st 0 rfl rfl ((Ca.move).quiet) (fun Q0 k0 => mv (L.nil k0)) ?_; refine S.st 1 rfl rfl ((Ca.move).quiet) (fun Q0 k0 => mv (L.nil k0)) ?_; obtain ⟨b28, hb28, H⟩ := bindS H; refine S.st 2 rfl rfl ((Ca.indexAddr).quiet) (fun Q0 k0 => ix underlying42 info147 hb28 (L.nil k0)) ?_; refine S.st 3 rfl rfl (Qu.load) (fun Q0 k0 => le shape147 (L.nil k0)) ?_; refine S.st 4 rfl rfl (Qu.load) (fun Q0 k0 => lp shape147 (L.nil k0)) ?_; refine S.st 5 rfl rfl ((Ca.eqA (r := ((b28.A == v26.A) && ((b28.B == v26.B) && true))) rfl rfl rfl rfl (by kernel_rfl) (by kernel_rfl)).quiet) (fun Q0 k0 => L.eqA (r := ((b28.A == v26.A) && ((b28.B == v26.B) && true))) hF rfl rfl rfl rfl rfl rfl (by kernel_rfl) (by kernel_rfl) (L.nil k0)) ?_; refine S.nil ?_; refine cd H (fun hc H => ?_) (fun hc H => ?_)
   ·refine sr ?_; refine ag (L.nil ?_); cases H; exact WpC.ret rt
   ·refine WpC.skip (WpC.regionL ?_); refine mv ?_; refine bi ?_; refine ag (L.nil ?_); exact ⟨k2, _, by omega, ⟨v24, (IntKind.i64.wrap (v25 + 1)), v26, by omega, H, rfl⟩, lm [(0, 0)] hm⟩
  ·refine WpC.exit (sr ?_); refine ag (L.nil ?_); cases H; exact WpC.ret rt
/-! ### S_l6Pairs -/
def S_l6Pairs.j8 (cl7 : (List T_Pair) → Int → Bool → Int → Option Bool) (k : Nat) (v140 : List T_Pair) (v141 : Int) (v142 : Bool) (v143 : Int) : Option Bool := cl7 v140 v141 v142 (IntKind.i64.wrap (v143 + 1))
def S_l6Pairs.l7 : Nat → (List T_Pair) → Int → Bool → Int → Option Bool
 | 0, _, _, _, _ => none
 | k7 + 1, v127, v128, v129, v130 => cond (decide (v130 < (v127.length : Int))) ((at? v127 v130).bind fun b144 => cond (decide (b144.A < 0)) (some false) (cond (decide (b144.A ≥ v128)) (some false) (cond (decide (b144.B < 0)) (some false) (cond (decide (b144.B ≥ v128)) (some false) (cond v129 (cond (b144.A == b144.B) (some false) ((part? v127 0 v130).bind fun b155 => (S_l6Has k7 b155 b144).bind fun r156 => cond r156 (some false) (S_l6Pairs.j8 (S_l6Pairs.l7 k7) k7 v127 v128 v129 v130))) ((part? v127 0 v130).bind fun b157 => (S_l6Has k7 b157 b144).bind fun r158 => cond r158 (some false) (S_l6Pairs.j8 (S_l6Pairs.l7 k7) k7 v127 v128 v129 v130))))))) (some true)
def S_l6Pairs (k : Nat) (a0 : List T_Pair) (a1 : Int) (a2 : Bool) : Option Bool := cond (decide ((a0.length : Int) > 6)) (some false) (S_l6Pairs.l7 k a0 a1 a2 0)
theorem ent107 : MG.Enters Tryz.prog 107 := ⟨Tryz.f107, func107, rfl, by decide⟩
theorem g107 (k : Nat) (g0 : Bool) (a0 : List T_Pair) (a1 : Int) (a2 r : Bool) (H : S_l6Pairs k a0 a1 a2 = some r) : Gives Tryz.prog 107 [V.one (Cell.sl g0 (List.map eT_Pair a0)), V.one (cI a1), V.one (cL a2)] [] [V.one (cL r)] [] := by
 refine Gives.intro func107 rfl rfl rfl rfl ?_; refine fx fun w0 T S0 ob oh hm => ?_
 have hF := fxe w0 T S0 59 ob oh
 unfold S_l6Pairs at H; obtain ⟨K, hK⟩ := leK k; refine sr ?_; refine ag (L.nil ?_); refine WpC.seq (sr ?_); refine mv ?_; refine L.lenR (xs := a0) (e := eT_Pair) underlying42 hF rfl rfl rfl rfl ?_; refine bi (L.nil ?_); refine cd H (fun hc H => ?_) (fun hc H => ?_)
 ·refine sr ?_; refine ag (L.nil ?_); cases H; exact WpC.ret rt
 ·refine WpC.skip (WpC.seq (sr ?_)); refine ag (L.nil ?_); refine WpC.block ?_; refine WpC.loopL (P := Tryz.prog) (fun n σ => ∃ (v127 : List T_Pair) (v128 : Int) (v129 : Bool) (v130 : Int), n ≤ K ∧ S_l6Pairs.l7 n v127 v128 v129 v130 = some r ∧ σ = mkSt [(0, one (Cell.sl g0 (List.map eT_Pair v127))), (1, oI v128), (2, oL v129), (7, oI v130)] [] [] 0) k ⟨_, ⟨a0, a1, a2, 0, by omega, H, rfl⟩, lm [] hm⟩ ?_; clear H
  rintro k7 _ ⟨v127, v128, v129, v130, hk7, H, rfl⟩
  cases k7 with
  | zero => cases H
  | succ k7 =>
   rw [S_l6Pairs.l7] at H
   refine WpC.seq (sr ?_); refine mv ?_; refine mv ?_; refine L.lenR (xs := v127) (e := eT_Pair) underlying42 hF rfl rfl rfl rfl ?_; refine bi (L.nil ?_); refine cd H (fun hc H => ?_) (fun hc H => ?_)
   ·refine WpC.skip ?_; refine WpC.join (fun σ => ∃ (kj8 : Nat) (v140 : List T_Pair) (v141 : Int) (v142 : Bool) (v143 : Int), kj8 ≤ K ∧ S_l6Pairs.j8 (S_l6Pairs.l7 k7) kj8 v140 v141 v142 v143 = some r ∧ σ = mkSt [(0, one (Cell.sl g0 (List.map eT_Pair v140))), (1, oI v141), (2, oL v142), (7, oI v143)] [] [] 0) ?_ ?_
    ·rintro _ ⟨kj8, v140, v141, v142, v143, hkj8, H, rfl⟩
     unfold S_l6Pairs.j8 at H; refine WpC.regionL ?_; refine mv ?_; refine bi ?_; refine ag (L.nil ?_); exact ⟨k7, _, by omega, ⟨v140, v141, v142, (IntKind.i64.wrap (v143 + 1)), by omega, H, rfl⟩, lm [] hm⟩
    ·refine WpC.block (sr ?_); refine mv ?_; refine mv ?_; obtain ⟨b144, hb144, H⟩ := bindS H; refine ix underlying42 info147 hb144 ?_; refine le shape147 ?_; refine alc 0 info147 ?_; refine sp shape147 (L.nil ?_); refine WpC.seq ?_
     rcases Bool.eq_false_or_eq_true ((decide (b144.A < 0))) with hc149 | hc149
     ·replace H := condT hc149 H
      refine A.begin mixed rfl rfl ?_; intro W hI hO; refine hI _ _ _ ?_; refine tF 0 underlying147 info3 ?_; refine A.all [1] (by kernel_rfl) rfl ⟨⟨_, rfl, ?_⟩, trivial⟩; refine lp shape3 (L.nil ?_); refine Atk 2 rfl (Ca.bin rfl rfl (calm_int _ _ _ _ _ _ _ _)) (fun Q0 k0 => bi (L.nil k0)) ?_; refine tM 3 ?_; refine A.le (τ := mkSt [(0, one (Cell.sl g0 (List.map eT_Pair v127))), (1, oI v128), (2, oL v129), (7, oI v130), (8, oP 0 0), (25, oL true)] [] [(0, [cI b144.A, cI b144.B])] 1) (Le.mk [(0, 0)] hm rfl (Sa4 (Sa1 (Sa1 trivial rfl (congrArg (fun b => some (one (cL b))) hc149)))) trivial (Ba1 trivial)) ?_; refine tO 4 ?_; refine tO 5 ?_; refine tO 6 ?_; refine tO 7 ?_; refine tP 8 ?_; refine tM 9 ?_; refine tO 10 ?_; refine tO 11 ?_; refine tO 12 ?_; refine tP 13 ?_; refine A.le (τ := mkSt [(0, one (Cell.sl g0 (List.map eT_Pair v127))), (1, oI v128), (2, oL v129), (7, oI v130), (8, oP 0 0), (35, oL true)] [] [(0, [cI b144.A, cI b144.B])] 1) (lm [(0, 0)] hm) ?_; refine tM 14 ?_
      refine tO 15 ?_; refine tO 16 ?_; refine tO 17 ?_; refine tO 18 ?_; refine tP 19 ?_; refine tM 20 ?_; refine tO 21 ?_; refine tO 22 ?_; refine tO 23 ?_; refine A.le (τ := mkSt [(0, one (Cell.sl g0 (List.map eT_Pair v127))), (1, oI v128), (2, oL v129), (7, oI v130), (8, oP 0 0), (42, oL true), (44, Slot.tup []), (45, Slot.tup [])] [] [(0, [cI b144.A, cI b144.B])] 1) (lm [(0, 0)] hm) ?_; refine tO 24 ?_; refine tO 25 ?_; refine tO 26 ?_; refine tO 27 ?_; refine tO 28 ?_; refine tP 29 ?_; refine tM 30 ?_; refine tO 31 ?_; refine tO 32 ?_; refine tO 33 ?_; refine A.le (τ := mkSt [(0, one (Cell.sl g0 (List.map eT_Pair v127))), (1, oI v128), (2, oL v129), (7, oI v130), (8, oP 0 0), (52, oL true), (55, Slot.tup [])] [] [(0, [cI b144.A, cI b144.B])] 1) (lm [(0, 0)] hm) ?_; refine tO 34 ?_; refine A.all [35] (by kernel_rfl) rfl ⟨⟨_, rfl, ?_⟩, trivial⟩; refine of (L.nil ?_); refine tP 36 ?_
      refine A.le (τ := mkSt [(0, one (Cell.sl g0 (List.map eT_Pair v127))), (1, oI v128), (2, oL v129), (7, oI v130), (58, oL true)] [] [] 0) (lm [] hm) ?_; refine A.done (by kernel_rfl) ?_; refine cT ?_; refine sr ?_; refine ag (L.nil ?_); cases H; exact WpC.ret rt
     ·replace H := condF hc149 H
      rcases Bool.eq_false_or_eq_true ((decide (b144.A ≥ v128))) with hc150 | hc150
      ·replace H := condT hc150 H
       refine A.begin mixed rfl rfl ?_; intro W hI hO; refine hI _ _ _ ?_; refine tF 0 underlying147 info3 ?_; refine A.all [1] (by kernel_rfl) rfl ⟨⟨_, rfl, ?_⟩, trivial⟩; refine lp shape3 (L.nil ?_); refine Atk 2 rfl (Ca.bin rfl rfl (calm_int _ _ _ _ _ _ _ _)) (fun Q0 k0 => bi (L.nil k0)) ?_; refine tM 3 ?_; refine A.le (τ := mkSt [(0, one (Cell.sl g0 (List.map eT_Pair v127))), (1, oI v128), (2, oL v129), (7, oI v130), (8, oP 0 0), (25, oL false)] [] [(0, [cI b144.A, cI b144.B])] 1) (Le.mk [(0, 0)] hm rfl (Sa4 (Sa1 (Sa1 trivial rfl (congrArg (fun b => some (one (cL b))) hc149)))) trivial (Ba1 trivial)) ?_; refine tF 4 underlying147 info3 ?_; refine tM 6 ?_; refine A.all [5] (by kernel_rfl) rfl ⟨⟨_, rfl, ?_⟩, trivial⟩; refine lp shape3 (L.nil ?_); refine Atk 7 rfl (Ca.bin rfl rfl (calm_int _ _ _ _ _ _ _ _)) (fun Q0 k0 => bi (L.nil k0)) ?_; refine tP 8 ?_; refine tM 9 ?_
       refine A.le (τ := mkSt [(0, one (Cell.sl g0 (List.map eT_Pair v127))), (1, oI v128), (2, oL v129), (7, oI v130), (8, oP 0 0), (31, oL true)] [] [(0, [cI b144.A, cI b144.B])] 1) (Le.mk [(0, 0)] hm rfl (Sa4 (Sa1 (Sa1 trivial rfl (congrArg (fun b => some (one (cL b))) hc150)))) trivial (Ba1 trivial)) ?_; refine tO 10 ?_; refine tO 11 ?_; refine tO 12 ?_; refine tP 13 ?_; refine tM 14 ?_; refine tO 15 ?_; refine tO 16 ?_; refine tO 17 ?_; refine tO 18 ?_; refine tP 19 ?_; refine A.le (τ := mkSt [(0, one (Cell.sl g0 (List.map eT_Pair v127))), (1, oI v128), (2, oL v129), (7, oI v130), (8, oP 0 0), (41, oL true)] [] [(0, [cI b144.A, cI b144.B])] 1) (lm [(0, 0)] hm) ?_; refine tM 20 ?_; refine tO 21 ?_; refine tO 22 ?_; refine tO 23 ?_; refine tO 24 ?_; refine tO 25 ?_; refine tO 26 ?_; refine tO 27 ?_; refine tO 28 ?_; refine tP 29 ?_
       refine A.le (τ := mkSt [(0, one (Cell.sl g0 (List.map eT_Pair v127))), (1, oI v128), (2, oL v129), (7, oI v130), (8, oP 0 0), (51, oL true)] [] [(0, [cI b144.A, cI b144.B])] 1) (lm [(0, 0)] hm) ?_; refine tM 30 ?_; refine tO 31 ?_; refine tO 32 ?_; refine tO 33 ?_; refine tO 34 ?_; refine A.all [35] (by kernel_rfl) rfl ⟨⟨_, rfl, ?_⟩, trivial⟩; refine of (L.nil ?_); refine tP 36 ?_; refine A.le (τ := mkSt [(0, one (Cell.sl g0 (List.map eT_Pair v127))), (1, oI v128), (2, oL v129), (7, oI v130), (58, oL true)] [] [] 0) (lm [] hm) ?_; refine A.done (by kernel_rfl) ?_; refine cT ?_; refine sr ?_; refine ag (L.nil ?_); cases H; exact WpC.ret rt
      ·replace H := condF hc150 H
       rcases Bool.eq_false_or_eq_true ((decide (b144.B < 0))) with hc151 | hc151
       ·replace H := condT hc151 H
        refine A.begin mixed rfl rfl ?_; intro W hI hO; refine hI _ _ _ ?_; refine tF 0 underlying147 info3 ?_; refine A.all [1] (by kernel_rfl) rfl ⟨⟨_, rfl, ?_⟩, trivial⟩; refine lp shape3 (L.nil ?_); refine Atk 2 rfl (Ca.bin rfl rfl (calm_int _ _ _ _ _ _ _ _)) (fun Q0 k0 => bi (L.nil k0)) ?_; refine tM 3 ?_; refine A.le (τ := mkSt [(0, one (Cell.sl g0 (List.map eT_Pair v127))), (1, oI v128), (2, oL v129), (7, oI v130), (8, oP 0 0), (25, oL false)] [] [(0, [cI b144.A, cI b144.B])] 1) (Le.mk [(0, 0)] hm rfl (Sa4 (Sa1 (Sa1 trivial rfl (congrArg (fun b => some (one (cL b))) hc149)))) trivial (Ba1 trivial)) ?_; refine tF 4 underlying147 info3 ?_; refine tM 6 ?_; refine A.all [5] (by kernel_rfl) rfl ⟨⟨_, rfl, ?_⟩, trivial⟩; refine lp shape3 (L.nil ?_); refine Atk 7 rfl (Ca.bin rfl rfl (calm_int _ _ _ _ _ _ _ _)) (fun Q0 k0 => bi (L.nil k0)) ?_; refine tP 8 ?_; refine tM 9 ?_
        refine A.le (τ := mkSt [(0, one (Cell.sl g0 (List.map eT_Pair v127))), (1, oI v128), (2, oL v129), (7, oI v130), (8, oP 0 0), (31, oL false)] [] [(0, [cI b144.A, cI b144.B])] 1) (Le.mk [(0, 0)] hm rfl (Sa4 (Sa1 (Sa1 trivial rfl (congrArg (fun b => some (one (cL b))) hc150)))) trivial (Ba1 trivial)) ?_; refine tF 10 underlying147 info3 ?_; refine A.all [11] (by kernel_rfl) rfl ⟨⟨_, rfl, ?_⟩, trivial⟩; refine lp shape3 (L.nil ?_); refine Atk 12 rfl (Ca.bin rfl rfl (calm_int _ _ _ _ _ _ _ _)) (fun Q0 k0 => bi (L.nil k0)) ?_; refine tP 13 ?_; refine tM 14 ?_; refine A.le (τ := mkSt [(0, one (Cell.sl g0 (List.map eT_Pair v127))), (1, oI v128), (2, oL v129), (7, oI v130), (8, oP 0 0), (36, oL true)] [] [(0, [cI b144.A, cI b144.B])] 1) (Le.mk [(0, 0)] hm rfl (Sa4 (Sa1 (Sa1 trivial rfl (congrArg (fun b => some (one (cL b))) hc151)))) trivial (Ba1 trivial)) ?_; refine tO 15 ?_; refine tO 16 ?_; refine tO 17 ?_; refine tO 18 ?_; refine tP 19 ?_; refine tM 20 ?_; refine tO 21 ?_; refine tO 22 ?_; refine tO 23 ?_; refine tO 24 ?_
        refine A.le (τ := mkSt [(0, one (Cell.sl g0 (List.map eT_Pair v127))), (1, oI v128), (2, oL v129), (7, oI v130), (8, oP 0 0), (42, oL true), (44, Slot.tup []), (46, Slot.tup [])] [] [(0, [cI b144.A, cI b144.B])] 1) (lm [(0, 0)] hm) ?_; refine tO 25 ?_; refine tO 26 ?_; refine tO 27 ?_; refine tO 28 ?_; refine tP 29 ?_; refine tM 30 ?_; refine tO 31 ?_; refine tO 32 ?_; refine tO 33 ?_; refine tO 34 ?_; refine A.le (τ := mkSt [(0, one (Cell.sl g0 (List.map eT_Pair v127))), (1, oI v128), (2, oL v129), (7, oI v130), (52, oL true), (55, Slot.tup []), (56, Slot.tup [])] [] [] 0) (lm [] hm) ?_; refine A.all [35] (by kernel_rfl) rfl ⟨⟨_, rfl, ?_⟩, trivial⟩; refine of (L.nil ?_); refine tP 36 ?_; refine A.le (τ := mkSt [(0, one (Cell.sl g0 (List.map eT_Pair v127))), (1, oI v128), (2, oL v129), (7, oI v130), (58, oL true)] [] [] 0) (lm [] hm) ?_; refine A.done (by kernel_rfl) ?_; refine cT ?_; refine sr ?_; refine ag (L.nil ?_); cases H; exact WpC.ret rt
       ·replace H := condF hc151 H
        rcases Bool.eq_false_or_eq_true ((decide (b144.B ≥ v128))) with hc152 | hc152
        ·replace H := condT hc152 H
         refine A.begin mixed rfl rfl ?_; intro W hI hO; refine hI _ _ _ ?_; refine tF 0 underlying147 info3 ?_; refine A.all [1] (by kernel_rfl) rfl ⟨⟨_, rfl, ?_⟩, trivial⟩; refine lp shape3 (L.nil ?_); refine Atk 2 rfl (Ca.bin rfl rfl (calm_int _ _ _ _ _ _ _ _)) (fun Q0 k0 => bi (L.nil k0)) ?_; refine tM 3 ?_; refine A.le (τ := mkSt [(0, one (Cell.sl g0 (List.map eT_Pair v127))), (1, oI v128), (2, oL v129), (7, oI v130), (8, oP 0 0), (25, oL false)] [] [(0, [cI b144.A, cI b144.B])] 1) (Le.mk [(0, 0)] hm rfl (Sa4 (Sa1 (Sa1 trivial rfl (congrArg (fun b => some (one (cL b))) hc149)))) trivial (Ba1 trivial)) ?_; refine tF 4 underlying147 info3 ?_; refine tM 6 ?_; refine A.all [5] (by kernel_rfl) rfl ⟨⟨_, rfl, ?_⟩, trivial⟩; refine lp shape3 (L.nil ?_); refine Atk 7 rfl (Ca.bin rfl rfl (calm_int _ _ _ _ _ _ _ _)) (fun Q0 k0 => bi (L.nil k0)) ?_; refine tP 8 ?_; refine tM 9 ?_
         refine A.le (τ := mkSt [(0, one (Cell.sl g0 (List.map eT_Pair v127))), (1, oI v128), (2, oL v129), (7, oI v130), (8, oP 0 0), (31, oL false)] [] [(0, [cI b144.A, cI b144.B])] 1) (Le.mk [(0, 0)] hm rfl (Sa4 (Sa1 (Sa1 trivial rfl (congrArg (fun b => some (one (cL b))) hc150)))) trivial (Ba1 trivial)) ?_; refine tF 10 underlying147 info3 ?_; refine A.all [11] (by kernel_rfl) rfl ⟨⟨_, rfl, ?_⟩, trivial⟩; refine lp shape3 (L.nil ?_); refine Atk 12 rfl (Ca.bin rfl rfl (calm_int _ _ _ _ _ _ _ _)) (fun Q0 k0 => bi (L.nil k0)) ?_; refine tP 13 ?_; refine tM 14 ?_; refine A.le (τ := mkSt [(0, one (Cell.sl g0 (List.map eT_Pair v127))), (1, oI v128), (2, oL v129), (7, oI v130), (8, oP 0 0), (36, oL false)] [] [(0, [cI b144.A, cI b144.B])] 1) (Le.mk [(0, 0)] hm rfl (Sa4 (Sa1 (Sa1 trivial rfl (congrArg (fun b => some (one (cL b))) hc151)))) trivial (Ba1 trivial)) ?_; refine tF 15 underlying147 info3 ?_; refine tM 17 ?_; refine A.all [16] (by kernel_rfl) rfl ⟨⟨_, rfl, ?_⟩, trivial⟩; refine lp shape3 (L.nil ?_)
         refine Atk 18 rfl (Ca.bin rfl rfl (calm_int _ _ _ _ _ _ _ _)) (fun Q0 k0 => bi (L.nil k0)) ?_; refine tP 19 ?_; refine tM 20 ?_; refine A.le (τ := mkSt [(0, one (Cell.sl g0 (List.map eT_Pair v127))), (1, oI v128), (2, oL v129), (7, oI v130), (8, oP 0 0), (42, oL true)] [] [(0, [cI b144.A, cI b144.B])] 1) (Le.mk [(0, 0)] hm rfl (Sa4 (Sa1 (Sa1 trivial rfl (congrArg (fun b => some (one (cL b))) hc152)))) trivial (Ba1 trivial)) ?_; refine tO 21 ?_; refine tO 22 ?_; refine tO 23 ?_; refine tO 24 ?_; refine tO 25 ?_; refine tO 26 ?_; refine tO 27 ?_; refine tO 28 ?_; refine tP 29 ?_; refine tM 30 ?_; refine A.le (τ := mkSt [(0, one (Cell.sl g0 (List.map eT_Pair v127))), (1, oI v128), (2, oL v129), (7, oI v130), (8, oP 0 0), (52, oL true)] [] [(0, [cI b144.A, cI b144.B])] 1) (lm [(0, 0)] hm) ?_; refine tO 31 ?_; refine tO 32 ?_; refine tO 33 ?_; refine tO 34 ?_; refine A.all [35] (by kernel_rfl) rfl ⟨⟨_, rfl, ?_⟩, trivial⟩; refine of (L.nil ?_); refine tP 36 ?_
         refine A.le (τ := mkSt [(0, one (Cell.sl g0 (List.map eT_Pair v127))), (1, oI v128), (2, oL v129), (7, oI v130), (58, oL true)] [] [] 0) (lm [] hm) ?_; refine A.done (by kernel_rfl) ?_; refine cT ?_; refine sr ?_; refine ag (L.nil ?_); cases H; exact WpC.ret rt
        ·replace H := condF hc152 H
         rcases Bool.eq_false_or_eq_true (v129) with hc153 | hc153
         ·replace H := condT hc153 H
          rcases Bool.eq_false_or_eq_true ((b144.A == b144.B)) with hc154 | hc154
          ·replace H := condT hc154 H
           refine A.begin mixed rfl rfl ?_; intro W hI hO
           have n134217727 : W 10 #[true, true, true, true, true, true, true, true, true, true, true, true, true, true, true, true, true, true, true, true, true, true, true, true, true, true, true, false, false, false, false, false, false, false, false, false, false] (mkSt [(0, one (Cell.sl g0 (List.map eT_Pair v127))), (1, oI v128), (2, oL v129), (7, oI v130), (8, oP 0 0), (42, oL false), (44, oL true), (46, oI b144.A), (48, oI b144.B)] [] [(0, [cI b144.A, cI b144.B])] 1) := by
            refine hI _ _ _ ?_; refine Atk 27 rfl (Ca.bin rfl rfl (calm_int _ _ _ _ _ _ _ _)) (fun Q0 k0 => bi (L.nil k0)) ?_; refine tP 28 ?_; refine tP 29 ?_; refine tM 30 ?_; refine A.le (τ := mkSt [(0, one (Cell.sl g0 (List.map eT_Pair v127))), (1, oI v128), (2, oL v129), (7, oI v130), (8, oP 0 0), (52, oL true)] [] [(0, [cI b144.A, cI b144.B])] 1) (Le.mk [(0, 0)] hm rfl (Sa4 (Sa1 (Sa1 trivial rfl (congrArg (fun b => some (one (cL b))) hc154)))) trivial (Ba1 trivial)) ?_; refine tO 31 ?_; refine tO 32 ?_; refine tO 33 ?_; refine tO 34 ?_; refine A.all [35] (by kernel_rfl) rfl ⟨⟨_, rfl, ?_⟩, trivial⟩; refine of (L.nil ?_); refine tP 36 ?_; refine A.le (τ := mkSt [(0, one (Cell.sl g0 (List.map eT_Pair v127))), (1, oI v128), (2, oL v129), (7, oI v130), (58, oL true)] [] [] 0) (lm [] hm) ?_; refine A.done (by kernel_rfl) ?_; refine cT ?_; refine sr ?_; refine ag (L.nil ?_); cases H; exact WpC.ret rt
           refine hI _ _ _ ?_; refine tF 0 underlying147 info3 ?_; refine A.all [1] (by kernel_rfl) rfl ⟨⟨_, rfl, ?_⟩, trivial⟩; refine lp shape3 (L.nil ?_); refine Atk 2 rfl (Ca.bin rfl rfl (calm_int _ _ _ _ _ _ _ _)) (fun Q0 k0 => bi (L.nil k0)) ?_; refine tM 3 ?_; refine A.le (τ := mkSt [(0, one (Cell.sl g0 (List.map eT_Pair v127))), (1, oI v128), (2, oL v129), (7, oI v130), (8, oP 0 0), (25, oL false)] [] [(0, [cI b144.A, cI b144.B])] 1) (Le.mk [(0, 0)] hm rfl (Sa4 (Sa1 (Sa1 trivial rfl (congrArg (fun b => some (one (cL b))) hc149)))) trivial (Ba1 trivial)) ?_; refine tF 4 underlying147 info3 ?_; refine tM 6 ?_; refine A.all [5] (by kernel_rfl) rfl ⟨⟨_, rfl, ?_⟩, trivial⟩; refine lp shape3 (L.nil ?_); refine Atk 7 rfl (Ca.bin rfl rfl (calm_int _ _ _ _ _ _ _ _)) (fun Q0 k0 => bi (L.nil k0)) ?_; refine tP 8 ?_; refine tM 9 ?_
           refine A.le (τ := mkSt [(0, one (Cell.sl g0 (List.map eT_Pair v127))), (1, oI v128), (2, oL v129), (7, oI v130), (8, oP 0 0), (31, oL false)] [] [(0, [cI b144.A, cI b144.B])] 1) (Le.mk [(0, 0)] hm rfl (Sa4 (Sa1 (Sa1 trivial rfl (congrArg (fun b => some (one (cL b))) hc150)))) trivial (Ba1 trivial)) ?_; refine tF 10 underlying147 info3 ?_; refine A.all [11] (by kernel_rfl) rfl ⟨⟨_, rfl, ?_⟩, trivial⟩; refine lp shape3 (L.nil ?_); refine Atk 12 rfl (Ca.bin rfl rfl (calm_int _ _ _ _ _ _ _ _)) (fun Q0 k0 => bi (L.nil k0)) ?_; refine tP 13 ?_; refine tM 14 ?_; refine A.le (τ := mkSt [(0, one (Cell.sl g0 (List.map eT_Pair v127))), (1, oI v128), (2, oL v129), (7, oI v130), (8, oP 0 0), (36, oL false)] [] [(0, [cI b144.A, cI b144.B])] 1) (Le.mk [(0, 0)] hm rfl (Sa4 (Sa1 (Sa1 trivial rfl (congrArg (fun b => some (one (cL b))) hc151)))) trivial (Ba1 trivial)) ?_; refine tF 15 underlying147 info3 ?_; refine tM 17 ?_; refine A.all [16] (by kernel_rfl) rfl ⟨⟨_, rfl, ?_⟩, trivial⟩; refine lp shape3 (L.nil ?_)
           refine Atk 18 rfl (Ca.bin rfl rfl (calm_int _ _ _ _ _ _ _ _)) (fun Q0 k0 => bi (L.nil k0)) ?_; refine tP 19 ?_; refine tM 20 ?_; refine A.le (τ := mkSt [(0, one (Cell.sl g0 (List.map eT_Pair v127))), (1, oI v128), (2, oL v129), (7, oI v130), (8, oP 0 0), (42, oL false)] [] [(0, [cI b144.A, cI b144.B])] 1) (Le.mk [(0, 0)] hm rfl (Sa4 (Sa1 (Sa1 trivial rfl (congrArg (fun b => some (one (cL b))) hc152)))) trivial (Ba1 trivial)) ?_; refine tM 21 ?_; refine tM 22 ?_; refine A.le (τ := mkSt [(0, one (Cell.sl g0 (List.map eT_Pair v127))), (1, oI v128), (2, oL v129), (7, oI v130), (8, oP 0 0), (42, oL false), (44, oL true)] [] [(0, [cI b144.A, cI b144.B])] 1) (Le.mk [(0, 0)] hm rfl (Sa4 (Sa2 (Sa1 trivial rfl (congrArg (fun b => some (one (cL b))) hc153)))) trivial (Ba1 trivial)) ?_; refine tF 23 underlying147 info3 ?_; refine tF 25 underlying147 info3 ?_; refine A.all [24, 26] (by kernel_rfl) rfl ⟨⟨_, rfl, ?_⟩, ⟨_, rfl, ?_⟩, trivial⟩
           ·refine lp shape3 (L.nil ?_); refine A.all [26] (by kernel_rfl) rfl ⟨⟨_, rfl, ?_⟩, trivial⟩; refine lp shape3 (L.nil ?_); exact A.on (hO _ _ _ n134217727) (lm [(0, 0)] hm)
           ·refine lp shape3 (L.nil ?_); refine A.all [24] (by kernel_rfl) rfl ⟨⟨_, rfl, ?_⟩, trivial⟩; refine lp shape3 (L.nil ?_); exact A.on (hO _ _ _ n134217727) (lm [(0, 0)] hm)
          ·replace H := condF hc154 H
           obtain ⟨b155, hb155, H⟩ := bindS H; obtain ⟨r156, hr156, H⟩ := bindS H; refine A.begin mixed rfl rfl ?_; intro W hI hO
           have n134217727 : W 10 #[true, true, true, true, true, true, true, true, true, true, true, true, true, true, true, true, true, true, true, true, true, true, true, true, true, true, true, false, false, false, false, false, false, false, false, false, false] (mkSt [(0, one (Cell.sl g0 (List.map eT_Pair v127))), (1, oI v128), (2, oL v129), (7, oI v130), (8, oP 0 0), (42, oL false), (44, oL true), (46, oI b144.A), (48, oI b144.B)] [] [(0, [cI b144.A, cI b144.B])] 1) := by
            refine hI _ _ _ ?_; refine Atk 27 rfl (Ca.bin rfl rfl (calm_int _ _ _ _ _ _ _ _)) (fun Q0 k0 => bi (L.nil k0)) ?_; refine tP 28 ?_; refine tP 29 ?_; refine tM 30 ?_; refine A.le (τ := mkSt [(0, one (Cell.sl g0 (List.map eT_Pair v127))), (1, oI v128), (2, oL v129), (7, oI v130), (8, oP 0 0), (52, oL false)] [] [(0, [cI b144.A, cI b144.B])] 1) (Le.mk [(0, 0)] hm rfl (Sa4 (Sa1 (Sa1 trivial rfl (congrArg (fun b => some (one (cL b))) hc154)))) trivial (Ba1 trivial)) ?_; refine tM 31 ?_; refine tM 32 ?_; refine Atk 33 rfl (Ca.slice) (fun Q0 k0 => L.cutR (xs := v127) (ys := b155) (e := eT_Pair) underlying42 info147 hF rfl rfl rfl rfl rfl hb155 (fun _ => rfl) (L.nil k0)) ?_; refine A.all [34] (by kernel_rfl) rfl ⟨⟨_, rfl, ?_⟩, trivial⟩; refine lp shape147 (L.nil ?_); refine A.all [35] (by kernel_rfl) rfl ⟨⟨_, rfl, ?_⟩, trivial⟩; refine c0 1 ent168 (g168 k7 g0 b155 b144 r156 hr156) (L.nil ?_); refine tP 36 ?_; refine A.le (τ := mkSt [(0, one (Cell.sl g0 (List.map eT_Pair v127))), (1, oI v128), (2, oL v129), (7, oI v130), (58, oL r156)] [] [] 0) (lm [] hm) ?_
            refine A.done (by kernel_rfl) ?_; refine cd H (fun hc H => ?_) (fun hc H => ?_)
            ·refine sr ?_; refine ag (L.nil ?_); cases H; exact WpC.ret rt
            ·refine WpC.skip ?_; exact ⟨_, ⟨k7, v127, v128, v129, v130, by omega, H, rfl⟩, lm [] hm⟩
           refine hI _ _ _ ?_; refine tF 0 underlying147 info3 ?_; refine A.all [1] (by kernel_rfl) rfl ⟨⟨_, rfl, ?_⟩, trivial⟩; refine lp shape3 (L.nil ?_); refine Atk 2 rfl (Ca.bin rfl rfl (calm_int _ _ _ _ _ _ _ _)) (fun Q0 k0 => bi (L.nil k0)) ?_; refine tM 3 ?_; refine A.le (τ := mkSt [(0, one (Cell.sl g0 (List.map eT_Pair v127))), (1, oI v128), (2, oL v129), (7, oI v130), (8, oP 0 0), (25, oL false)] [] [(0, [cI b144.A, cI b144.B])] 1) (Le.mk [(0, 0)] hm rfl (Sa4 (Sa1 (Sa1 trivial rfl (congrArg (fun b => some (one (cL b))) hc149)))) trivial (Ba1 trivial)) ?_; refine tF 4 underlying147 info3 ?_; refine tM 6 ?_; refine A.all [5] (by kernel_rfl) rfl ⟨⟨_, rfl, ?_⟩, trivial⟩; refine lp shape3 (L.nil ?_); refine Atk 7 rfl (Ca.bin rfl rfl (calm_int _ _ _ _ _ _ _ _)) (fun Q0 k0 => bi (L.nil k0)) ?_; refine tP 8 ?_; refine tM 9 ?_
           refine A.le (τ := mkSt [(0, one (Cell.sl g0 (List.map eT_Pair v127))), (1, oI v128), (2, oL v129), (7, oI v130), (8, oP 0 0), (31, oL false)] [] [(0, [cI b144.A, cI b144.B])] 1) (Le.mk [(0, 0)] hm rfl (Sa4 (Sa1 (Sa1 trivial rfl (congrArg (fun b => some (one (cL b))) hc150)))) trivial (Ba1 trivial)) ?_; refine tF 10 underlying147 info3 ?_; refine A.all [11] (by kernel_rfl) rfl ⟨⟨_, rfl, ?_⟩, trivial⟩; refine lp shape3 (L.nil ?_); refine Atk 12 rfl (Ca.bin rfl rfl (calm_int _ _ _ _ _ _ _ _)) (fun Q0 k0 => bi (L.nil k0)) ?_; refine tP 13 ?_; refine tM 14 ?_; refine A.le (τ := mkSt [(0, one (Cell.sl g0 (List.map eT_Pair v127))), (1, oI v128), (2, oL v129), (7, oI v130), (8, oP 0 0), (36, oL false)] [] [(0, [cI b144.A, cI b144.B])] 1) (Le.mk [(0, 0)] hm rfl (Sa4 (Sa1 (Sa1 trivial rfl (congrArg (fun b => some (one (cL b))) hc151)))) trivial (Ba1 trivial)) ?_; refine tF 15 underlying147 info3 ?_; refine tM 17 ?_; refine A.all [16] (by kernel_rfl) rfl ⟨⟨_, rfl, ?_⟩, trivial⟩; refine lp shape3 (L.nil ?_)
           refine Atk 18 rfl (Ca.bin rfl rfl (calm_int _ _ _ _ _ _ _ _)) (fun Q0 k0 => bi (L.nil k0)) ?_; refine tP 19 ?_; refine tM 20 ?_; refine A.le (τ := mkSt [(0, one (Cell.sl g0 (List.map eT_Pair v127))), (1, oI v128), (2, oL v129), (7, oI v130), (8, oP 0 0), (42, oL false)] [] [(0, [cI b144.A, cI b144.B])] 1) (Le.mk [(0, 0)] hm rfl (Sa4 (Sa1 (Sa1 trivial rfl (congrArg (fun b => some (one (cL b))) hc152)))) trivial (Ba1 trivial)) ?_; refine tM 21 ?_; refine tM 22 ?_; refine A.le (τ := mkSt [(0, one (Cell.sl g0 (List.map eT_Pair v127))), (1, oI v128), (2, oL v129), (7, oI v130), (8, oP 0 0), (42, oL false), (44, oL true)] [] [(0, [cI b144.A, cI b144.B])] 1) (Le.mk [(0, 0)] hm rfl (Sa4 (Sa2 (Sa1 trivial rfl (congrArg (fun b => some (one (cL b))) hc153)))) trivial (Ba1 trivial)) ?_; refine tF 23 underlying147 info3 ?_; refine tF 25 underlying147 info3 ?_; refine A.all [24, 26] (by kernel_rfl) rfl ⟨⟨_, rfl, ?_⟩, ⟨_, rfl, ?_⟩, trivial⟩
           ·refine lp shape3 (L.nil ?_); refine A.all [26] (by kernel_rfl) rfl ⟨⟨_, rfl, ?_⟩, trivial⟩; refine lp shape3 (L.nil ?_); exact A.on (hO _ _ _ n134217727) (lm [(0, 0)] hm)
           ·refine lp shape3 (L.nil ?_); refine A.all [24] (by kernel_rfl) rfl ⟨⟨_, rfl, ?_⟩, trivial⟩; refine lp shape3 (L.nil ?_); exact A.on (hO _ _ _ n134217727) (lm [(0, 0)] hm)
         ·replace H := condF hc153 H
          obtain ⟨b157, hb157, H⟩ := bindS H; obtain ⟨r158, hr158, H⟩ := bindS H; refine A.begin mixed rfl rfl ?_; intro W hI hO; refine hI _ _ _ ?_; refine tF 0 underlying147 info3 ?_; refine A.all [1] (by kernel_rfl) rfl ⟨⟨_, rfl, ?_⟩, trivial⟩; refine lp shape3 (L.nil ?_); refine Atk 2 rfl (Ca.bin rfl rfl (calm_int _ _ _ _ _ _ _ _)) (fun Q0 k0 => bi (L.nil k0)) ?_; refine tM 3 ?_; refine A.le (τ := mkSt [(0, one (Cell.sl g0 (List.map eT_Pair v127))), (1, oI v128), (2, oL v129), (7, oI v130), (8, oP 0 0), (25, oL false)] [] [(0, [cI b144.A, cI b144.B])] 1) (Le.mk [(0, 0)] hm rfl (Sa4 (Sa1 (Sa1 trivial rfl (congrArg (fun b => some (one (cL b))) hc149)))) trivial (Ba1 trivial)) ?_; refine tF 4 underlying147 info3 ?_; refine tM 6 ?_; refine A.all [5] (by kernel_rfl) rfl ⟨⟨_, rfl, ?_⟩, trivial⟩; refine lp shape3 (L.nil ?_); refine Atk 7 rfl (Ca.bin rfl rfl (calm_int _ _ _ _ _ _ _ _)) (fun Q0 k0 => bi (L.nil k0)) ?_; refine tP 8 ?_; refine tM 9 ?_
          refine A.le (τ := mkSt [(0, one (Cell.sl g0 (List.map eT_Pair v127))), (1, oI v128), (2, oL v129), (7, oI v130), (8, oP 0 0), (31, oL false)] [] [(0, [cI b144.A, cI b144.B])] 1) (Le.mk [(0, 0)] hm rfl (Sa4 (Sa1 (Sa1 trivial rfl (congrArg (fun b => some (one (cL b))) hc150)))) trivial (Ba1 trivial)) ?_; refine tF 10 underlying147 info3 ?_; refine A.all [11] (by kernel_rfl) rfl ⟨⟨_, rfl, ?_⟩, trivial⟩; refine lp shape3 (L.nil ?_); refine Atk 12 rfl (Ca.bin rfl rfl (calm_int _ _ _ _ _ _ _ _)) (fun Q0 k0 => bi (L.nil k0)) ?_; refine tP 13 ?_; refine tM 14 ?_; refine A.le (τ := mkSt [(0, one (Cell.sl g0 (List.map eT_Pair v127))), (1, oI v128), (2, oL v129), (7, oI v130), (8, oP 0 0), (36, oL false)] [] [(0, [cI b144.A, cI b144.B])] 1) (Le.mk [(0, 0)] hm rfl (Sa4 (Sa1 (Sa1 trivial rfl (congrArg (fun b => some (one (cL b))) hc151)))) trivial (Ba1 trivial)) ?_; refine tF 15 underlying147 info3 ?_; refine tM 17 ?_; refine A.all [16] (by kernel_rfl) rfl ⟨⟨_, rfl, ?_⟩, trivial⟩; refine lp shape3 (L.nil ?_)
          refine Atk 18 rfl (Ca.bin rfl rfl (calm_int _ _ _ _ _ _ _ _)) (fun Q0 k0 => bi (L.nil k0)) ?_; refine tP 19 ?_; refine tM 20 ?_; refine A.le (τ := mkSt [(0, one (Cell.sl g0 (List.map eT_Pair v127))), (1, oI v128), (2, oL v129), (7, oI v130), (8, oP 0 0), (42, oL false)] [] [(0, [cI b144.A, cI b144.B])] 1) (Le.mk [(0, 0)] hm rfl (Sa4 (Sa1 (Sa1 trivial rfl (congrArg (fun b => some (one (cL b))) hc152)))) trivial (Ba1 trivial)) ?_; refine tM 21 ?_; refine tM 22 ?_; refine A.le (τ := mkSt [(0, one (Cell.sl g0 (List.map eT_Pair v127))), (1, oI v128), (2, oL v129), (7, oI v130), (8, oP 0 0), (42, oL false), (44, oL false)] [] [(0, [cI b144.A, cI b144.B])] 1) (Le.mk [(0, 0)] hm rfl (Sa4 (Sa2 (Sa1 trivial rfl (congrArg (fun b => some (one (cL b))) hc153)))) trivial (Ba1 trivial)) ?_; refine tO 23 ?_; refine tO 24 ?_; refine tO 25 ?_; refine tO 26 ?_; refine tO 27 ?_; refine tP 28 ?_; refine tP 29 ?_; refine tM 30 ?_; refine tM 31 ?_; refine tM 32 ?_
          refine A.le (τ := mkSt [(0, one (Cell.sl g0 (List.map eT_Pair v127))), (1, oI v128), (2, oL v129), (7, oI v130), (8, oP 0 0), (52, oL false), (53, one (Cell.sl g0 (List.map eT_Pair v127))), (54, oI v130)] [] [(0, [cI b144.A, cI b144.B])] 1) (lm [(0, 0)] hm) ?_; refine Atk 33 rfl (Ca.slice) (fun Q0 k0 => L.cutR (xs := v127) (ys := b157) (e := eT_Pair) underlying42 info147 hF rfl rfl rfl rfl rfl hb157 (fun _ => rfl) (L.nil k0)) ?_; refine A.all [34] (by kernel_rfl) rfl ⟨⟨_, rfl, ?_⟩, trivial⟩; refine lp shape147 (L.nil ?_); refine A.all [35] (by kernel_rfl) rfl ⟨⟨_, rfl, ?_⟩, trivial⟩; refine c0 1 ent168 (g168 k7 g0 b157 b144 r158 hr158) (L.nil ?_); refine tP 36 ?_; refine A.le (τ := mkSt [(0, one (Cell.sl g0 (List.map eT_Pair v127))), (1, oI v128), (2, oL v129), (7, oI v130), (58, oL r158)] [] [] 0) (lm [] hm) ?_; refine A.done (by kernel_rfl) ?_; refine cd H (fun hc H => ?_) (fun hc H => ?_)
          ·refine sr ?_; refine ag (L.nil ?_); cases H; exact WpC.ret rt
          ·refine WpC.skip ?_; exact ⟨_, ⟨k7, v127, v128, v129, v130, by omega, H, rfl⟩, lm [] hm⟩
   ·refine WpC.exit (sr ?_); refine ag (L.nil ?_); cases H; exact WpC.ret rt
/-! ### S_l1In -/
def S_l1In (k : Nat) (a0 a1 a2 : Int) : Option Bool := cond (decide (a0 ≥ a1)) (some (decide (a0 ≤ a2))) (some false)
theorem ent43 : MG.Enters Tryz.prog 43 := ⟨Tryz.f43, func43, rfl, by decide⟩
theorem g43 (k : Nat) (a0 a1 a2 : Int) (r : Bool) (H : S_l1In k a0 a1 a2 = some r) : Gives Tryz.prog 43 [V.one (cI a0), V.one (cI a1), V.one (cI a2)] [] [V.one (cL r)] [] := by
 refine Gives.intro func43 rfl rfl rfl rfl ?_; refine fx fun w0 T S0 ob oh hm => ?_
 have hF := fxe w0 T S0 15 ob oh
 unfold S_l1In at H; obtain ⟨K, hK⟩ := leK k; refine sr ?_; refine ag (L.nil ?_); refine sr ?_; refine mv ?_; refine mv ?_; refine bi ?_; refine mv ?_; refine sH H (fun hc H => ?_) (fun hc H => ?_)
 ·refine mv ?_; refine mv ?_; refine bi ?_; refine pk ?_; refine ag (L.nil ?_); cases H; exact WpC.ret rt
 ·(repeat refine of ?_); refine pk ?_; refine ag (L.nil ?_); cases H; exact WpC.ret rt
/-! ### S_ConfigOk -/
def S_ConfigOk (k : Nat) (a0 : T_Config) : Option Bool := cond ((a0.UserRealm.length : Int) == 3) ((S_l5All k a0.UserRealm 3 3).bind fun r6 => cond r6 (cond ((a0.ServiceRealm.length : Int) == 3) ((S_l5All k a0.ServiceRealm 3 3).bind fun r7 => cond r7 ((S_l6Pairs k a0.Links 3 true).bind fun r8 => cond r8 ((S_l6Pairs k a0.Proxy 3 false).bind fun r9 => cond r9 ((S_l1In k a0.Skew 0 20).bind fun r10 => some r10) (some false)) (some false)) (some false)) (some false)) (some false)) (some false)
theorem ent42 : MG.Enters Tryz.prog 42 := ⟨Tryz.f42, func42, rfl, by decide⟩
theorem g42 (k : Nat) (g0 g1 g2 g3 : Bool) (a0 : T_Config) (r : Bool) (H : S_ConfigOk k a0 = some r) : Gives Tryz.prog 42 [V.agg (bT_Config g0 g1 g2 g3 a0)] [] [V.one (cL r)] [] := by
 refine Gives.intro func42 rfl rfl rfl rfl ?_; refine fx fun w0 T S0 ob oh hm => ?_
 have hF := fxe w0 T S0 38 ob oh
 unfold S_ConfigOk at H; obtain ⟨K, hK⟩ := leK k; refine sr ?_; refine bo 5 ?_; refine ag (L.nil ?_); refine sr ?_; refine fa underlying44 info22 ?_; refine lp shape22 ?_; refine L.lenR (xs := a0.UserRealm) (e := eI) underlying22 hF rfl rfl rfl rfl ?_; refine bi ?_; refine mv ?_; refine sH H (fun hc H => ?_) (fun hc H => ?_)
 ·refine fa underlying44 info22 ?_; refine lp shape22 ?_; obtain ⟨r6, hr6, H⟩ := bindS H; refine c0 6 ent106 (g106 k g0 a0.UserRealm 3 3 r6 hr6) ?_; refine pk ?_; refine mv ?_; refine sH H (fun hc H => ?_) (fun hc H => ?_)
  ·refine fa underlying44 info22 ?_; refine lp shape22 ?_; refine L.lenR (xs := a0.ServiceRealm) (e := eI) underlying22 hF rfl rfl rfl rfl ?_; refine bi ?_; refine pk ?_; refine mv ?_; refine sH H (fun hc H => ?_) (fun hc H => ?_)
   ·refine fa underlying44 info22 ?_; refine lp shape22 ?_; obtain ⟨r7, hr7, H⟩ := bindS H; refine c0 7 ent106 (g106 k g1 a0.ServiceRealm 3 3 r7 hr7) ?_; refine pk ?_; refine mv ?_; refine sH H (fun hc H => ?_) (fun hc H => ?_)
    ·refine fa underlying44 info42 ?_; refine lp shape42 ?_; obtain ⟨r8, hr8, H⟩ := bindS H; refine c0 8 ent107 (g107 k g2 a0.Links 3 true r8 hr8) ?_; refine pk ?_; refine mv ?_; refine sH H (fun hc H => ?_) (fun hc H => ?_)
     ·refine fa underlying44 info42 ?_; refine lp shape42 ?_; obtain ⟨r9, hr9, H⟩ := bindS H; refine c0 9 ent107 (g107 k g3 a0.Proxy 3 false r9 hr9) ?_; refine pk ?_; refine mv ?_; refine sH H (fun hc H => ?_) (fun hc H => ?_)
      ·refine fa underlying44 info3 ?_; refine lp shape3 ?_; obtain ⟨r10, hr10, H⟩ := bindS H; refine c0 10 ent43 (g43 k  a0.Skew 0 20 r10 hr10) ?_; refine pk ?_; refine ag (L.nil ?_); cases H; exact WpC.ret rt
      ·(repeat refine of ?_); refine pk ?_; refine ag (L.nil ?_); cases H; exact WpC.ret rt
     ·(repeat refine of ?_); refine pk ?_; refine mv ?_; (repeat refine of ?_); refine pk ?_; refine ag (L.nil ?_); cases H; exact WpC.ret rt
    ·(repeat refine of ?_); refine pk ?_; refine mv ?_; (repeat refine of ?_); refine pk ?_; refine mv ?_; (repeat refine of ?_); refine pk ?_; refine ag (L.nil ?_); cases H; exact WpC.ret rt
   ·(repeat refine of ?_); refine pk ?_; refine mv ?_; (repeat refine of ?_); refine pk ?_; refine mv ?_; (repeat refine of ?_); refine pk ?_; refine mv ?_; (repeat refine of ?_); refine pk ?_; refine ag (L.nil ?_); cases H; exact WpC.ret rt
  ·(repeat refine of ?_); refine pk ?_; refine mv ?_; (repeat refine of ?_); refine pk ?_; refine mv ?_; (repeat refine of ?_); refine pk ?_; refine mv ?_; (repeat refine of ?_); refine pk ?_; refine mv ?_; (repeat refine of ?_); refine pk ?_; refine ag (L.nil ?_); cases H; exact WpC.ret rt
 ·(repeat refine of ?_); refine pk ?_; refine mv ?_; (repeat refine of ?_); refine pk ?_; refine mv ?_; (repeat refine of ?_); refine pk ?_; refine mv ?_; (repeat refine of ?_); refine pk ?_; refine mv ?_; (repeat refine of ?_); refine pk ?_; refine mv ?_; (repeat refine of ?_); refine pk ?_; refine ag (L.nil ?_); cases H; exact WpC.ret rt
/-! ### S_l5Principal -/
def S_l5Principal (k : Nat) (a0 : Int) : Option Bool := cond (decide (a0 ≥ 0)) (some (decide (a0 < 6))) (some false)
theorem ent101 : MG.Enters Tryz.prog 101 := ⟨Tryz.f101, func101, rfl, by decide⟩
theorem g101 (k : Nat) (a0 : Int) (r : Bool) (H : S_l5Principal k a0 = some r) : Gives Tryz.prog 101 [V.one (cI a0)] [] [V.one (cL r)] [] := by
 refine Gives.intro func101 rfl rfl rfl rfl ?_; refine fx fun w0 T S0 ob oh hm => ?_
 have hF := fxe w0 T S0 9 ob oh
 unfold S_l5Principal at H; obtain ⟨K, hK⟩ := leK k; refine sr ?_; refine ag (L.nil ?_); refine sr ?_; refine mv ?_; refine bi ?_; refine mv ?_; refine sH H (fun hc H => ?_) (fun hc H => ?_)
 ·refine mv ?_; refine bi ?_; refine pk ?_; refine ag (L.nil ?_); cases H; exact WpC.ret rt
 ·(repeat refine of ?_); refine pk ?_; refine ag (L.nil ?_); cases H; exact WpC.ret rt
/-! ### S_RealmOf -/
def S_RealmOf (k : Nat) (a0 : T_Config) (a1 : Int) : Option Int := (S_ConfigOk k a0).bind fun r7 => cond (!r7) (some (-1)) ((S_l5Principal k a1).bind fun r8 => cond (!r8) (some (-1)) (cond (decide (a1 < 3)) ((at? a0.UserRealm a1).bind fun b10 => some b10) ((at? a0.ServiceRealm (IntKind.i64.wrap (a1 - 3))).bind fun b11 => some b11)))
theorem ent140 : MG.Enters Tryz.prog 140 := ⟨Tryz.f140, func140, rfl, by decide⟩
theorem g140 (k : Nat) (g0 g1 g2 g3 : Bool) (a0 : T_Config) (a1 r : Int) (H : S_RealmOf k a0 a1 = some r) : Gives Tryz.prog 140 [V.agg (bT_Config g0 g1 g2 g3 a0), V.one (cI a1)] [] [V.one (cI r)] [] := by
 refine Gives.intro func140 rfl rfl rfl rfl ?_; refine fx fun w0 T S0 ob oh hm => ?_
 have hF := fxe w0 T S0 26 ob oh
 unfold S_RealmOf at H; obtain ⟨K, hK⟩ := leK k; refine sr ?_; refine bo 6 ?_; refine ag (L.nil ?_); refine WpC.seq (sr ?_); refine lp shape44 ?_; obtain ⟨r7, hr7, H⟩ := bindS H; refine c0 7 ent42 (g42 k g0 g1 g2 g3 a0 r7 hr7) ?_; refine nt ?_; refine mv ?_; refine sH H (fun hc H => ?_) (fun hc H => ?_)
 ·(repeat refine of ?_); refine pk (L.nil ?_); refine cT ?_; refine sr ?_; refine ag (L.nil ?_); cases H; exact WpC.ret rt
 ·refine mv ?_; obtain ⟨r8, hr8, H⟩ := bindS H; refine c0 8 ent101 (g101 k  a1 r8 hr8) ?_; refine nt ?_; refine pk (L.nil ?_); refine cd H (fun hc H => ?_) (fun hc H => ?_)
  ·refine sr ?_; refine ag (L.nil ?_); cases H; exact WpC.ret rt
  ·refine WpC.skip (WpC.seq (sr ?_)); refine mv ?_; refine bi (L.nil ?_); refine cd H (fun hc H => ?_) (fun hc H => ?_)
   ·refine sr ?_; refine fa underlying44 info22 ?_; refine lp shape22 ?_; refine mv ?_; obtain ⟨b10, hb10, H⟩ := bindS H; refine ix underlying22 info3 hb10 ?_; refine le shape3 ?_; refine ag (L.nil ?_); cases H; exact WpC.ret rt
   ·refine WpC.skip (sr ?_); refine fa underlying44 info22 ?_; refine lp shape22 ?_; refine mv ?_; refine bi ?_; obtain ⟨b11, hb11, H⟩ := bindS H; refine ix underlying22 info3 hb11 ?_; refine le shape3 ?_; refine ag (L.nil ?_); cases H; exact WpC.ret rt
/-! ### S_l8No -/
def S_l8No (k : Nat) (a0 : Int) : Option Bool := cond (decide (a0 < 0)) (some true) (some (decide (a0 > 1000000)))
theorem ent85 : MG.Enters Tryz.prog 85 := ⟨Tryz.f85, func85, rfl, by decide⟩
theorem g85 (k : Nat) (a0 : Int) (r : Bool) (H : S_l8No k a0 = some r) : Gives Tryz.prog 85 [V.one (cI a0)] [] [V.one (cL r)] [] := by
 refine Gives.intro func85 rfl rfl rfl rfl ?_; refine fx fun w0 T S0 ob oh hm => ?_
 have hF := fxe w0 T S0 9 ob oh
 unfold S_l8No at H; obtain ⟨K, hK⟩ := leK k; refine sr ?_; refine ag (L.nil ?_); refine sr ?_; refine mv ?_; refine bi ?_; refine mv ?_; refine sH H (fun hc H => ?_) (fun hc H => ?_)
 ·(repeat refine of ?_); refine pk ?_; refine ag (L.nil ?_); cases H; exact WpC.ret rt
 ·refine mv ?_; refine bi ?_; refine pk ?_; refine ag (L.nil ?_); cases H; exact WpC.ret rt
/-! ### S_Var -/
def S_Var.l2 : Nat → Int → (List UInt8) → Option (List UInt8)
 | 0, _, _ => none
 | k2 + 1, v16, v17 => cond (decide (v16 ≥ 128)) (cond (decide ((2 * (v17.length + ([(ofI (IntKind.i64.wrap (128 + (Int.tmod v16 128))))] : List UInt8).length) + 192) * 1 ≤ 281474976710656)) ((S_Var.l2 k2) (IntKind.i64.wrap (Int.tdiv v16 128)) (v17 ++ ([(ofI (IntKind.i64.wrap (128 + (Int.tmod v16 128))))] : List UInt8))) none) (cond (decide ((2 * (v17.length + ([(ofI v16)] : List UInt8).length) + 192) * 1 ≤ 281474976710656)) (some (v17 ++ ([(ofI v16)] : List UInt8))) none)
def S_Var (k : Nat) (a0 : Int) : Option (List UInt8) := (S_l1In k a0 0 562949953421311).bind fun r2 => cond (!r2) (some ([] : List UInt8)) (S_Var.l2 k a0 ([] : List UInt8))
theorem ent166 : MG.Enters Tryz.prog 166 := ⟨Tryz.f166, func166, rfl, by decide⟩
theorem g166 (k : Nat) (a0 : Int) (r : List UInt8) (H : S_Var k a0 = some r) : Gives Tryz.prog 166 [V.one (cI a0)] [] [V.one (cS r)] [] := by
 refine Gives.intro func166 rfl rfl rfl rfl ?_; refine fx fun w0 T S0 ob oh hm => ?_
 have hF := fxe w0 T S0 25 ob oh
 unfold S_Var at H; obtain ⟨K, hK⟩ := leK k; refine sr ?_; refine ag (L.nil ?_); refine WpC.seq (sr ?_); refine mv ?_; obtain ⟨r2, hr2, H⟩ := bindS H; refine c0 1 ent43 (g43 k  a0 0 562949953421311 r2 hr2) ?_; refine nt (L.nil ?_); refine cd H (fun hc H => ?_) (fun hc H => ?_)
 ·refine sr ?_; refine ag (L.nil ?_); cases H; exact WpC.ret rt
 ·refine WpC.skip (sr ?_); refine L.buildSlice (e := eB) 2 ([] : List UInt8) underlying54 info5 rfl rfl rfl hF rfl rfl rfl rfl rfl rfl rfl rfl ?_; refine ag (L.nil ?_); refine WpC.seq (WpC.block ?_); refine WpC.loopL (P := Tryz.prog) (fun n σ => ∃ (v16 : Int) (v17 : List UInt8), n ≤ K ∧ S_Var.l2 n v16 v17 = some r ∧ σ = mkSt [(0, oI v16), (3, one (Cell.own 0))] [(0, ⟨1, List.map eB v17⟩)] [] 1) k ⟨_, ⟨a0, ([] : List UInt8), by omega, H, rfl⟩, lm [(0, 2)] hm⟩ ?_; clear H
  rintro k2 _ ⟨v16, v17, hk2, H, rfl⟩
  cases k2 with
  | zero => cases H
  | succ k2 =>
   rw [S_Var.l2] at H
   refine WpC.seq (sr ?_); refine mv ?_; refine bi (L.nil ?_); refine cd H (fun hc H => ?_) (fun hc H => ?_)
   ·refine WpC.skip (WpC.block (sr ?_)); refine mv ?_; refine mv ?_; refine L.rem hF rfl rfl rfl rfl (by decide) ?_; refine bi ?_; refine L.toB underlying3 underlying5 hF rfl rfl rfl ?_; refine L.buildSlice (e := eB) 1 ([(ofI (IntKind.i64.wrap (128 + (Int.tmod v16 128))))] : List UInt8) underlying54 info5 rfl rfl rfl hF rfl rfl rfl rfl rfl rfl rfl rfl ?_; obtain ⟨h18, H⟩ := condG H; refine L.append (xs := v17) (ys := ([(ofI (IntKind.i64.wrap (128 + (Int.tmod v16 128))))] : List UInt8)) (e := eB) 2 underlying54 info5 rfl rfl hF rfl rfl rfl rfl rfl rfl rfl rfl (fun _ => rfl) (fun _ _ h1 h2 => by cases h1; cases h2; rfl) ⟨_, underlying54⟩ (of_decide_eq_true h18) rfl rfl ?_; refine ag (L.nil ?_); refine WpC.regionL ?_; refine mv ?_; refine L.quo hF rfl rfl rfl rfl (by decide) ?_; refine ag (L.nil ?_); exact ⟨k2, _, by omega, ⟨(IntKind.i64.wrap (Int.tdiv v16 128)), (v17 ++ ([(ofI (IntKind.i64.wrap (128 + (Int.tmod v16 128))))] : List UInt8)), by omega, H, rfl⟩, lm [(0, 2)] hm⟩
   ·refine WpC.exit (sr ?_); refine mv ?_; refine mv ?_; refine L.toB underlying3 underlying5 hF rfl rfl rfl ?_; refine L.buildSlice (e := eB) 1 ([(ofI v16)] : List UInt8) underlying54 info5 rfl rfl rfl hF rfl rfl rfl rfl rfl rfl rfl rfl ?_; obtain ⟨h19, H⟩ := condG H; refine L.append (xs := v17) (ys := ([(ofI v16)] : List UInt8)) (e := eB) 2 underlying54 info5 rfl rfl hF rfl rfl rfl rfl rfl rfl rfl rfl (fun _ => rfl) (fun _ _ h1 h2 => by cases h1; cases h2; rfl) ⟨_, underlying54⟩ (of_decide_eq_true h19) rfl rfl ?_; refine L.b2s (xs := (v17 ++ ([(ofI v16)] : List UInt8))) underlying54 underlying5 underlying9 hF rfl rfl rfl rfl ?_; refine ag (L.nil ?_); cases H; exact WpC.ret rt
/-! ### S_ReadVar -/
def S_ReadVar.l26 (cl22 : (List UInt8) → Int → Option (Int × Int)) : Nat → (List UInt8) → Int → Int → Int → Option (Int × Int)
 | 0, _, _, _, _ => none
 | k26 + 1, v411, v412, v413, v414 => cond (decide (v414 ≥ 0)) ((at? v411 v414).bind fun b416 => (S_ReadVar.l26 cl22 k26) v411 v412 (IntKind.i64.wrap ((IntKind.i64.wrap (v413 * 128)) + (Int.tmod (b416.toNat : Int) 128))) (IntKind.i64.wrap (v414 - 1))) ((S_Var k26 v413).bind fun r417 => (cut? v411 0 v412).bind fun b418 => cond (r417 == b418) (some (v413, v412)) (cl22 v411 (IntKind.i64.wrap (v412 + 1))))
def S_ReadVar.l22 : Nat → (List UInt8) → Int → Option (Int × Int)
 | 0, _, _ => none
 | k22 + 1, v345, v346 => cond (decide (v346 ≤ 7)) (cond (decide (v346 ≤ (v345.length : Int))) (S_ReadVar.l26 (S_ReadVar.l22 k22) k22 v345 v346 0 (IntKind.i64.wrap (v346 - 1))) (some (0, 0))) (some (0, 0))
def S_ReadVar (k : Nat) (a0 : List UInt8) : Option (Int × Int) := S_ReadVar.l22 k a0 1
theorem ent99 : MG.Enters Tryz.prog 99 := ⟨Tryz.f99, func99, rfl, by decide⟩
theorem g99 (k : Nat) (a0 : List UInt8) (r : Int × Int) (H : S_ReadVar k a0 = some r) : Gives Tryz.prog 99 [V.one (cS a0)] [] [V.one (cI r.1), V.one (cI r.2)] [] := by
 refine Gives.intro func99 rfl rfl rfl rfl ?_; refine fx fun w0 T S0 ob oh hm => ?_
 have hF := fxe w0 T S0 39 ob oh
 unfold S_ReadVar at H; obtain ⟨K, hK⟩ := leK k; refine sr ?_; refine ag ?_; refine ag (L.nil ?_); refine WpC.seq (sr ?_); refine ag (L.nil ?_); refine WpC.block ?_; refine WpC.loopL (P := Tryz.prog) (fun n σ => ∃ (v345 : List UInt8) (v346 : Int), n ≤ K ∧ S_ReadVar.l22 n v345 v346 = some r ∧ σ = mkSt [(0, oS v345), (4, oI v346)] [] [] 0) k ⟨_, ⟨a0, 1, by omega, H, rfl⟩, lm [] hm⟩ ?_; clear H
 rintro k22 _ ⟨v345, v346, hk22, H, rfl⟩
 cases k22 with
 | zero => cases H
 | succ k22 =>
  rw [S_ReadVar.l22] at H
  refine WpC.seq (sr ?_); refine mv ?_; refine bi ?_; refine mv ?_; refine sH H (fun hc H => ?_) (fun hc H => ?_)
  ·refine mv ?_; refine mv ?_; refine L.lenS underlying9 hF rfl rfl rfl ?_; refine bi ?_; refine pk (L.nil ?_); refine cd H (fun hc H => ?_) (fun hc H => ?_)
   ·refine WpC.skip (WpC.seq (WpC.block (sr ?_))); refine ag (L.nil ?_); refine WpC.seq (sr ?_); refine mv ?_; refine bi ?_; refine ag (L.nil ?_); refine WpC.block ?_; refine WpC.loopL (P := Tryz.prog) (fun n σ => ∃ (v411 : List UInt8) (v412 v413 v414 : Int), n ≤ K ∧ S_ReadVar.l26 (S_ReadVar.l22 k22) n v411 v412 v413 v414 = some r ∧ σ = mkSt [(0, oS v411), (4, oI v412), (5, oI v413), (6, oI v414)] [] [] 0) k22 ⟨_, ⟨v345, v346, 0, (IntKind.i64.wrap (v346 - 1)), by omega, H, rfl⟩, lm [] hm⟩ ?_; clear H
    rintro k26 _ ⟨v411, v412, v413, v414, hk26, H, rfl⟩
    cases k26 with
    | zero => cases H
    | succ k26 =>
     rw [S_ReadVar.l26] at H
     refine WpC.seq (sr ?_); refine mv ?_; refine bi (L.nil ?_); refine cd H (fun hc H => ?_) (fun hc H => ?_)
     ·refine WpC.skip (WpC.seq (WpC.block (WpC.regionL ?_))); refine mv ?_; refine bi ?_; refine mv ?_; refine mv ?_; obtain ⟨b416, hb416, H⟩ := bindS H; refine L.idxS underlying9 hF rfl rfl rfl rfl hb416 ?_; refine L.ofB underlying5 underlying3 hF rfl rfl rfl ?_; refine L.rem hF rfl rfl rfl rfl (by decide) ?_; refine bi ?_; refine ag (L.nil ?_); refine WpC.regionL ?_; refine mv ?_; refine bi ?_; refine ag (L.nil ?_); exact ⟨k26, _, by omega, ⟨v411, v412, (IntKind.i64.wrap ((IntKind.i64.wrap (v413 * 128)) + (Int.tmod (b416.toNat : Int) 128))), (IntKind.i64.wrap (v414 - 1)), by omega, H, rfl⟩, lm [] hm⟩
     ·refine WpC.exit (WpC.seq ?_); obtain ⟨r417, hr417, H⟩ := bindS H; obtain ⟨b418, hb418, H⟩ := bindS H; refine A.begin mixed rfl rfl ?_; intro W hI hO; refine hI _ _ _ ?_; refine tM 0 ?_; refine tM 2 ?_; refine tM 3 ?_; refine Atk 4 rfl (Ca.slice) (fun Q0 k0 => L.cutS underlying9 hF rfl rfl rfl rfl rfl hb418 (L.nil k0)) ?_; refine A.all [1] (by kernel_rfl) rfl ⟨⟨_, rfl, ?_⟩, trivial⟩; refine c0 0 ent166 (g166 k26  v413 r417 hr417) (L.nil ?_); refine Atk 5 rfl (Ca.bin rfl rfl (calm_str _ _ _ _ _ _)) (fun Q0 k0 => L.binS hF rfl rfl rfl rfl rfl (L.nil k0)) ?_; refine A.le (τ := mkSt [(0, oS v411), (4, oI v412), (5, oI v413), (36, oL (r417 == b418))] [] [] 0) (lm [] hm) ?_; refine A.done (by kernel_rfl) ?_; refine cd H (fun hc H => ?_) (fun hc H => ?_)
      ·refine sr ?_; refine mv ?_; refine mv ?_; refine ag ?_; refine ag (L.nil ?_); cases H; exact WpC.ret rt
      ·refine WpC.skip (WpC.regionL ?_); refine mv ?_; refine bi ?_; refine ag (L.nil ?_); exact ⟨k22, _, by omega, ⟨v411, (IntKind.i64.wrap (v412 + 1)), by omega, H, rfl⟩, lm [] hm⟩
   ·refine WpC.exit (sr ?_); refine ag ?_; refine ag (L.nil ?_); cases H; exact WpC.ret rt
  ·(repeat refine of ?_); refine pk (L.nil ?_); refine cF ?_; refine WpC.exit (sr ?_); refine ag ?_; refine ag (L.nil ?_); cases H; exact WpC.ret rt
/-! ### S_l2Term -/
def S_l2Term.j16 (cl15 : (List UInt8) → Int → Int → Int → Int → Int → Int → Option (Int × Int)) (k : Nat) (v191 : List UInt8) (v192 v193 v194 v195 v196 v197 : Int) : Option (Int × Int) := cl15 v191 v192 v193 v194 v195 v196 (IntKind.i64.wrap (v197 + 1))
def S_l2Term.l15 (cREC : (List UInt8) → Int → Int → Option (Int × Int)) : Nat → (List UInt8) → Int → Int → Int → Int → Int → Int → Option (Int × Int)
 | 0, _, _, _, _, _, _, _ => none
 | k15 + 1, v183, v184, v185, v186, v187, v188, v189 => cond (decide (v189 < v186)) ((cREC v183 v187 (IntKind.i64.wrap (v185 - 1))).bind fun r198 => cond (r198.1 == 0) (some (0, 0)) (cond (decide (r198.2 > v188)) (S_l2Term.j16 (S_l2Term.l15 cREC k15) k15 v183 v184 v185 v186 (IntKind.i64.wrap (v187 + r198.1)) r198.2 v189) (S_l2Term.j16 (S_l2Term.l15 cREC k15) k15 v183 v184 v185 v186 (IntKind.i64.wrap (v187 + r198.1)) v188 v189))) (some ((IntKind.i64.wrap (v187 - v184)), (IntKind.i64.wrap (1 + v188))))
def S_l2Term : Nat → (List UInt8) → Int → Int → Option (Int × Int)
 | 0, _, _, _ => none
 | k + 1, a0, a1, a2 => cond (decide (a1 ≥ (a0.length : Int))) (some (0, 0)) (cond (decide (a2 < 1)) (some (0, 0)) ((cut? a0 (IntKind.i64.wrap (a1 + 1)) (a0.length : Int)).bind fun b1 => (S_ReadVar k b1).bind fun r2 => cond (r2.2 == 0) (some (0, 0)) ((at? a0 a1).bind fun b101 => cond (b101 == (97 : UInt8)) (cond (decide (r2.1 > 40)) (some (0, 0)) (cond (decide (r2.1 > (IntKind.i64.wrap ((a0.length : Int) - (IntKind.i64.wrap ((IntKind.i64.wrap (a1 + 1)) + r2.2)))))) (some (0, 0)) (some ((IntKind.i64.wrap ((IntKind.i64.wrap (1 + r2.2)) + r2.1)), 1)))) (cond (b101 == (107 : UInt8)) ((S_l1In k r2.1 1 1000000).bind fun r103 => cond (!r103) (some (0, 0)) (some ((IntKind.i64.wrap (1 + r2.2)), 1))) (cond (b101 == (115 : UInt8)) (((S_l2Term k) a0 (IntKind.i64.wrap ((IntKind.i64.wrap (a1 + 1)) + r2.2)) (IntKind.i64.wrap (a2 - 1))).bind fun r104 => cond (r104.1 == 0) (some (0, 0)) ((S_l1In k r2.1 1 1000000).bind fun r108 => cond (!r108) (some (0, 0)) (some ((IntKind.i64.wrap ((IntKind.i64.wrap (1 + r2.2)) + r104.1)), (IntKind.i64.wrap (1 + r104.2)))))) (cond (b101 == (108 : UInt8)) (cond (decide (r2.1 > 12)) (some (0, 0)) (S_l2Term.l15 (S_l2Term k) k a0 a1 a2 r2.1 (IntKind.i64.wrap ((IntKind.i64.wrap (a1 + 1)) + r2.2)) 0 0)) (some (0, 0))))))))
theorem ent100 : MG.Enters Tryz.prog 100 := ⟨Tryz.f100, func100, rfl, by decide⟩
theorem g100 : ∀ (k : Nat) (a0 : List UInt8) (a1 a2 : Int) (r : Int × Int) (H : S_l2Term k a0 a1 a2 = some r), Gives Tryz.prog 100 [V.one (cS a0), V.one (cI a1), V.one (cI a2)] [] [V.one (cI r.1), V.one (cI r.2)] [] := by
 intro k
 induction k with
 | zero => intros; rename_i H; cases H
 | succ k ih =>
  intro a0 a1 a2 r H; refine Gives.intro func100 rfl rfl rfl rfl ?_; refine fx fun w0 T S0 ob oh hm => ?_
  have hF := fxe w0 T S0 119 ob oh
  rw [S_l2Term] at H
  obtain ⟨K, hK⟩ := leK k; refine sr ?_; refine ag ?_; refine ag (L.nil ?_); refine WpC.seq (sr ?_); refine mv ?_; refine mv ?_; refine L.lenS underlying9 hF rfl rfl rfl ?_; refine bi ?_; refine mv ?_; refine sH H (fun hc H => ?_) (fun hc H => ?_)
  ·(repeat refine of ?_); refine pk (L.nil ?_); refine cT ?_; refine sr ?_; refine ag ?_; refine ag (L.nil ?_); cases H; exact WpC.ret rt
  ·refine mv ?_; refine bi ?_; refine pk (L.nil ?_); refine cd H (fun hc H => ?_) (fun hc H => ?_)
   ·refine sr ?_; refine ag ?_; refine ag (L.nil ?_); cases H; exact WpC.ret rt
   ·refine WpC.skip (sr ?_); refine mv ?_; refine mv ?_; refine bi ?_; obtain ⟨b1, hb1, H⟩ := bindS H; refine L.cutS underlying9 hF rfl rfl rfl rfl rfl hb1 ?_; obtain ⟨r2, hr2, H⟩ := bindS H; refine c0 3 ent99 (g99 k  b1 r2 hr2) ?_; refine mv ?_; refine ex ?_; refine ex ?_; refine ag ?_; refine ag (L.nil ?_); refine WpC.seq (sr ?_); refine mv ?_; refine bi (L.nil ?_); refine cd H (fun hc H => ?_) (fun hc H => ?_)
    ·refine sr ?_; refine ag ?_; refine ag (L.nil ?_); cases H; exact WpC.ret rt
    ·refine WpC.skip (sr ?_); refine mv ?_; refine bi ?_; refine mv ?_; refine bi ?_; refine ag (L.nil ?_); refine WpC.seq (sr ?_); refine mv ?_; refine mv ?_; obtain ⟨b101, hb101, H⟩ := bindS H; refine L.idxS underlying9 hF rfl rfl rfl rfl hb101 (L.nil ?_); refine WpC.block (sr ?_); refine L.binB (a := b101) (b := (97 : UInt8)) hF rfl rfl rfl rfl rfl ?_; refine ag (L.nil ?_); refine cd H (fun hc H => ?_) (fun hc H => ?_)
     ·refine WpC.seq (sr ?_); refine mv ?_; refine bi ?_; refine mv ?_; refine sH H (fun hc H => ?_) (fun hc H => ?_)
      ·(repeat refine of ?_); refine pk (L.nil ?_); refine cT ?_; refine sr ?_; refine ag ?_; refine ag (L.nil ?_); cases H; exact WpC.ret rt
      ·refine mv ?_; refine mv ?_; refine L.lenS underlying9 hF rfl rfl rfl ?_; refine mv ?_; refine bi ?_; refine bi ?_; refine pk (L.nil ?_); refine cd H (fun hc H => ?_) (fun hc H => ?_)
       ·refine sr ?_; refine ag ?_; refine ag (L.nil ?_); cases H; exact WpC.ret rt
       ·refine WpC.skip (sr ?_); refine mv ?_; refine bi ?_; refine mv ?_; refine bi ?_; refine ag ?_; refine ag (L.nil ?_); cases H; exact WpC.ret rt
     ·refine sr ?_; refine L.binB (a := b101) (b := (107 : UInt8)) hF rfl rfl rfl rfl rfl ?_; refine ag (L.nil ?_); refine cd H (fun hc H => ?_) (fun hc H => ?_)
      ·refine WpC.seq (sr ?_); refine mv ?_; obtain ⟨r103, hr103, H⟩ := bindS H; refine c0 5 ent43 (g43 k  r2.1 1 1000000 r103 hr103) ?_; refine nt (L.nil ?_); refine cd H (fun hc H => ?_) (fun hc H => ?_)
       ·refine sr ?_; refine ag ?_; refine ag (L.nil ?_); cases H; exact WpC.ret rt
       ·refine WpC.skip (sr ?_); refine mv ?_; refine bi ?_; refine ag ?_; refine ag (L.nil ?_); cases H; exact WpC.ret rt
      ·refine sr ?_; refine L.binB (a := b101) (b := (115 : UInt8)) hF rfl rfl rfl rfl rfl ?_; refine ag (L.nil ?_); refine cd H (fun hc H => ?_) (fun hc H => ?_)
       ·refine sr ?_; refine mv ?_; refine mv ?_; refine mv ?_; refine bi ?_; obtain ⟨r104, hr104, H⟩ := bindS H; refine c0 5 ent100 (ih  a0 (IntKind.i64.wrap ((IntKind.i64.wrap (a1 + 1)) + r2.2)) (IntKind.i64.wrap (a2 - 1)) r104 hr104) ?_; refine mv ?_; refine ex ?_; refine ex ?_; refine ag ?_; refine ag (L.nil ?_); refine WpC.seq (sr ?_); refine mv ?_; refine bi ?_; refine mv ?_; refine sH H (fun hc H => ?_) (fun hc H => ?_)
        ·(repeat refine of ?_); refine pk (L.nil ?_); refine cT ?_; refine sr ?_; refine ag ?_; refine ag (L.nil ?_); cases H; exact WpC.ret rt
        ·refine mv ?_; obtain ⟨r108, hr108, H⟩ := bindS H; refine c0 7 ent43 (g43 k  r2.1 1 1000000 r108 hr108) ?_; refine nt ?_; refine pk (L.nil ?_); refine cd H (fun hc H => ?_) (fun hc H => ?_)
         ·refine sr ?_; refine ag ?_; refine ag (L.nil ?_); cases H; exact WpC.ret rt
         ·refine WpC.skip (sr ?_); refine mv ?_; refine bi ?_; refine mv ?_; refine bi ?_; refine mv ?_; refine bi ?_; refine ag ?_; refine ag (L.nil ?_); cases H; exact WpC.ret rt
       ·refine sr ?_; refine L.binB (a := b101) (b := (108 : UInt8)) hF rfl rfl rfl rfl rfl ?_; refine ag (L.nil ?_); refine cd H (fun hc H => ?_) (fun hc H => ?_)
        ·refine WpC.seq (sr ?_); refine mv ?_; refine bi (L.nil ?_); refine cd H (fun hc H => ?_) (fun hc H => ?_)
         ·refine sr ?_; refine ag ?_; refine ag (L.nil ?_); cases H; exact WpC.ret rt
         ·refine WpC.skip (sr ?_); refine ag (L.nil ?_); refine WpC.seq (sr ?_); refine ag (L.nil ?_); refine WpC.block ?_; refine WpC.loopL (P := Tryz.prog) (fun n σ => ∃ (v183 : List UInt8) (v184 v185 v186 v187 v188 v189 : Int), n ≤ K ∧ S_l2Term.l15 (S_l2Term k) n v183 v184 v185 v186 v187 v188 v189 = some r ∧ σ = mkSt [(0, oS v183), (1, oI v184), (2, oI v185), (8, oI v186), (10, oI v187), (13, oI v188), (14, oI v189)] [] [] 0) k ⟨_, ⟨a0, a1, a2, r2.1, (IntKind.i64.wrap ((IntKind.i64.wrap (a1 + 1)) + r2.2)), 0, 0, by omega, H, rfl⟩, lm [] hm⟩ ?_; clear H
          rintro k15 _ ⟨v183, v184, v185, v186, v187, v188, v189, hk15, H, rfl⟩
          cases k15 with
          | zero => cases H
          | succ k15 =>
           rw [S_l2Term.l15] at H
           refine WpC.seq (sr ?_); refine mv ?_; refine mv ?_; refine bi (L.nil ?_); refine cd H (fun hc H => ?_) (fun hc H => ?_)
           ·refine WpC.skip ?_; refine WpC.join (fun σ => ∃ (kj16 : Nat) (v191 : List UInt8) (v192 v193 v194 v195 v196 v197 : Int), kj16 ≤ K ∧ S_l2Term.j16 (S_l2Term.l15 (S_l2Term k) k15) kj16 v191 v192 v193 v194 v195 v196 v197 = some r ∧ σ = mkSt [(0, oS v191), (1, oI v192), (2, oI v193), (8, oI v194), (10, oI v195), (13, oI v196), (14, oI v197)] [] [] 0) ?_ ?_
            ·rintro _ ⟨kj16, v191, v192, v193, v194, v195, v196, v197, hkj16, H, rfl⟩
             unfold S_l2Term.j16 at H; refine WpC.regionL ?_; refine mv ?_; refine bi ?_; refine ag (L.nil ?_); exact ⟨k15, _, by omega, ⟨v191, v192, v193, v194, v195, v196, (IntKind.i64.wrap (v197 + 1)), by omega, H, rfl⟩, lm [] hm⟩
            ·refine WpC.block (sr ?_); refine mv ?_; refine mv ?_; refine mv ?_; refine bi ?_; obtain ⟨r198, hr198, H⟩ := bindS H; refine c0 0 ent100 (ih  v183 v187 (IntKind.i64.wrap (v185 - 1)) r198 hr198) ?_; refine mv ?_; refine ex ?_; refine ex ?_; refine ag ?_; refine ag (L.nil ?_); refine WpC.seq (sr ?_); refine mv ?_; refine bi (L.nil ?_); refine cd H (fun hc H => ?_) (fun hc H => ?_)
             ·refine sr ?_; refine ag ?_; refine ag (L.nil ?_); cases H; exact WpC.ret rt
             ·refine WpC.skip (sr ?_); refine mv ?_; refine mv ?_; refine bi ?_; refine ag (L.nil ?_); refine sr ?_; refine mv ?_; refine mv ?_; refine bi (L.nil ?_); refine cd H (fun hc H => ?_) (fun hc H => ?_)
              ·refine WpC.regionL ?_; refine mv ?_; refine ag (L.nil ?_); exact ⟨_, ⟨k15, v183, v184, v185, v186, (IntKind.i64.wrap (v187 + r198.1)), r198.2, v189, by omega, H, rfl⟩, lm [] hm⟩
              ·refine WpC.skip ?_; exact ⟨_, ⟨k15, v183, v184, v185, v186, (IntKind.i64.wrap (v187 + r198.1)), v188, v189, by omega, H, rfl⟩, lm [] hm⟩
           ·refine WpC.exit (sr ?_); refine mv ?_; refine mv ?_; refine bi ?_; refine mv ?_; refine bi ?_; refine ag ?_; refine ag (L.nil ?_); cases H; exact WpC.ret rt
        ·refine WpC.skip (sr ?_); refine ag ?_; refine ag (L.nil ?_); cases H; exact WpC.ret rt
/-! ### S_TermOk -/
def S_TermOk (k : Nat) (a0 : List UInt8) : Option Bool := (S_l2Term k a0 0 8).bind fun r1 => cond (decide (r1.1 > 0)) (cond (r1.1 == (a0.length : Int)) (some (decide (r1.1 ≤ 900))) (some false)) (some false)
theorem ent98 : MG.Enters Tryz.prog 98 := ⟨Tryz.f98, func98, rfl, by decide⟩
theorem g98 (k : Nat) (a0 : List UInt8) (r : Bool) (H : S_TermOk k a0 = some r) : Gives Tryz.prog 98 [V.one (cS a0)] [] [V.one (cL r)] [] := by
 refine Gives.intro func98 rfl rfl rfl rfl ?_; refine fx fun w0 T S0 ob oh hm => ?_
 have hF := fxe w0 T S0 22 ob oh
 unfold S_TermOk at H; obtain ⟨K, hK⟩ := leK k; refine sr ?_; refine ag (L.nil ?_); refine sr ?_; refine mv ?_; obtain ⟨r1, hr1, H⟩ := bindS H; refine c0 1 ent100 (g100 k  a0 0 8 r1 hr1) ?_; refine mv ?_; refine ex ?_; refine ex ?_; refine ag ?_; refine ag (L.nil ?_); refine sr ?_; refine mv ?_; refine bi ?_; refine mv ?_; refine sH H (fun hc H => ?_) (fun hc H => ?_)
 ·refine mv ?_; refine mv ?_; refine L.lenS underlying9 hF rfl rfl rfl ?_; refine bi ?_; refine pk ?_; refine mv ?_; refine sH H (fun hc H => ?_) (fun hc H => ?_)
  ·refine mv ?_; refine bi ?_; refine pk ?_; refine ag (L.nil ?_); cases H; exact WpC.ret rt
  ·(repeat refine of ?_); refine pk ?_; refine ag (L.nil ?_); cases H; exact WpC.ret rt
 ·(repeat refine of ?_); refine pk ?_; refine mv ?_; (repeat refine of ?_); refine pk ?_; refine ag (L.nil ?_); cases H; exact WpC.ret rt
/-! ### S_l2Ok -/
def S_l2Ok (k : Nat) (a0 : List UInt8) : Option (List UInt8) := (S_TermOk k a0).bind fun r2 => cond r2 (some a0) (some ([] : List UInt8))
theorem ent176 : MG.Enters Tryz.prog 176 := ⟨Tryz.f176, func176, rfl, by decide⟩
theorem g176 (k : Nat) (a0 r : List UInt8) (H : S_l2Ok k a0 = some r) : Gives Tryz.prog 176 [V.one (cS a0)] [] [V.one (cS r)] [] := by
 refine Gives.intro func176 rfl rfl rfl rfl ?_; refine fx fun w0 T S0 ob oh hm => ?_
 have hF := fxe w0 T S0 6 ob oh
 unfold S_l2Ok at H; obtain ⟨K, hK⟩ := leK k; refine sr ?_; refine ag (L.nil ?_); refine WpC.seq (sr ?_); refine mv ?_; obtain ⟨r2, hr2, H⟩ := bindS H; refine c0 1 ent98 (g98 k  a0 r2 hr2) (L.nil ?_); refine cd H (fun hc H => ?_) (fun hc H => ?_)
 ·refine sr ?_; refine mv ?_; refine ag (L.nil ?_); cases H; exact WpC.ret rt
 ·refine WpC.skip (sr ?_); refine ag (L.nil ?_); cases H; exact WpC.ret rt
/-! ### S_Atom -/
def S_Atom (k : Nat) (a0 : List UInt8) : Option (List UInt8) := cond (decide ((a0.length : Int) > 40)) (some ([] : List UInt8)) ((S_Var k (a0.length : Int)).bind fun r1 => cond (decide (([97] : List UInt8).length + r1.length ≤ 9223372036854775807)) (cond (decide ((([97] : List UInt8) ++ r1).length + a0.length ≤ 9223372036854775807)) ((S_l2Ok k ((([97] : List UInt8) ++ r1) ++ a0)).bind fun r4 => some r4) none) none)
theorem ent145 : MG.Enters Tryz.prog 145 := ⟨Tryz.f145, func145, rfl, by decide⟩
theorem g145 (k : Nat) (a0 r : List UInt8) (H : S_Atom k a0 = some r) : Gives Tryz.prog 145 [V.one (cS a0)] [] [V.one (cS r)] [] := by
 refine Gives.intro func145 rfl rfl rfl rfl ?_; refine fx fun w0 T S0 ob oh hm => ?_
 have hF := fxe w0 T S0 13 ob oh
 unfold S_Atom at H; obtain ⟨K, hK⟩ := leK k; refine sr ?_; refine ag (L.nil ?_); refine WpC.seq (sr ?_); refine mv ?_; refine L.lenS underlying9 hF rfl rfl rfl ?_; refine bi (L.nil ?_); refine cd H (fun hc H => ?_) (fun hc H => ?_)
 ·refine sr ?_; refine ag (L.nil ?_); cases H; exact WpC.ret rt
 ·refine WpC.skip (sr ?_); refine mv ?_; refine L.lenS underlying9 hF rfl rfl rfl ?_; obtain ⟨r1, hr1, H⟩ := bindS H; refine c0 1 ent166 (g166 k  (a0.length : Int) r1 hr1) ?_; obtain ⟨h2, H⟩ := condG H; refine L.catS hF rfl rfl rfl rfl (of_decide_eq_true h2) ?_; refine mv ?_; obtain ⟨h3, H⟩ := condG H; refine L.catS hF rfl rfl rfl rfl (of_decide_eq_true h3) ?_; obtain ⟨r4, hr4, H⟩ := bindS H; refine c0 2 ent176 (g176 k  ((([97] : List UInt8) ++ r1) ++ a0) r4 hr4) ?_; refine ag (L.nil ?_); cases H; exact WpC.ret rt
/-! ### S_Num -/
def S_Num (k : Nat) (a0 : Int) : Option (List UInt8) := (S_Var k a0).bind fun r1 => cond (r1 == ([] : List UInt8)) (some ([] : List UInt8)) ((S_Atom k r1).bind fun r2 => some r2)
theorem ent177 : MG.Enters Tryz.prog 177 := ⟨Tryz.f177, func177, rfl, by decide⟩
theorem g177 (k : Nat) (a0 : Int) (r : List UInt8) (H : S_Num k a0 = some r) : Gives Tryz.prog 177 [V.one (cI a0)] [] [V.one (cS r)] [] := by
 refine Gives.intro func177 rfl rfl rfl rfl ?_; refine fx fun w0 T S0 ob oh hm => ?_
 have hF := fxe w0 T S0 10 ob oh
 unfold S_Num at H; obtain ⟨K, hK⟩ := leK k; refine sr ?_; refine ag (L.nil ?_); refine sr ?_; refine mv ?_; obtain ⟨r1, hr1, H⟩ := bindS H; refine c0 1 ent166 (g166 k  a0 r1 hr1) ?_; refine ag (L.nil ?_); refine WpC.seq (sr ?_); refine mv ?_; refine L.binS hF rfl rfl rfl rfl rfl (L.nil ?_); refine cd H (fun hc H => ?_) (fun hc H => ?_)
 ·refine sr ?_; refine ag (L.nil ?_); cases H; exact WpC.ret rt
 ·refine WpC.skip (sr ?_); refine mv ?_; obtain ⟨r2, hr2, H⟩ := bindS H; refine c0 2 ent145 (g145 k  r1 r2 hr2) ?_; refine ag (L.nil ?_); cases H; exact WpC.ret rt
/-! ### S_List -/
def S_List.l2 : Nat → (List (List UInt8)) → (List UInt8) → Int → Option (List UInt8)
 | 0, _, _, _ => none
 | k2 + 1, v76, v77, v78 => cond (decide (v78 < (v76.length : Int))) ((at? v76 v78).bind fun b87 => (S_TermOk k2 b87).bind fun r88 => cond (!r88) (some ([] : List UInt8)) ((at? v76 v78).bind fun b89 => cond (decide (v77.length + b89.length ≤ 9223372036854775807)) ((S_List.l2 k2) v76 (v77 ++ b89) (IntKind.i64.wrap (v78 + 1))) none)) ((S_l2Ok k2 v77).bind fun r91 => some r91)
def S_List (k : Nat) (a0 : List (List UInt8)) : Option (List UInt8) := cond (decide ((a0.length : Int) > 12)) (some ([] : List UInt8)) ((S_Var k (a0.length : Int)).bind fun r1 => cond (decide (([108] : List UInt8).length + r1.length ≤ 9223372036854775807)) (S_List.l2 k a0 (([108] : List UInt8) ++ r1) 0) none)
theorem ent133 : MG.Enters Tryz.prog 133 := ⟨Tryz.f133, func133, rfl, by decide⟩
theorem g133 (k : Nat) (g0 : Bool) (a0 : List (List UInt8)) (r : List UInt8) (H : S_List k a0 = some r) : Gives Tryz.prog 133 [V.one (Cell.sl g0 (List.map eS a0))] [] [V.one (cS r)] [] := by
 refine Gives.intro func133 rfl rfl rfl rfl ?_; refine fx fun w0 T S0 ob oh hm => ?_
 have hF := fxe w0 T S0 32 ob oh
 unfold S_List at H; obtain ⟨K, hK⟩ := leK k; refine sr ?_; refine ag (L.nil ?_); refine WpC.seq (sr ?_); refine mv ?_; refine L.lenR (xs := a0) (e := eS) underlying70 hF rfl rfl rfl rfl ?_; refine bi (L.nil ?_); refine cd H (fun hc H => ?_) (fun hc H => ?_)
 ·refine sr ?_; refine ag (L.nil ?_); cases H; exact WpC.ret rt
 ·refine WpC.skip (sr ?_); refine mv ?_; refine L.lenR (xs := a0) (e := eS) underlying70 hF rfl rfl rfl rfl ?_; obtain ⟨r1, hr1, H⟩ := bindS H; refine c0 1 ent166 (g166 k  (a0.length : Int) r1 hr1) ?_; obtain ⟨h2, H⟩ := condG H; refine L.catS hF rfl rfl rfl rfl (of_decide_eq_true h2) ?_; refine ag (L.nil ?_); refine WpC.seq (sr ?_); refine ag (L.nil ?_); refine WpC.block ?_; refine WpC.loopL (P := Tryz.prog) (fun n σ => ∃ (v76 : List (List UInt8)) (v77 : List UInt8) (v78 : Int), n ≤ K ∧ S_List.l2 n v76 v77 v78 = some r ∧ σ = mkSt [(0, one (Cell.sl g0 (List.map eS v76))), (3, oS v77), (4, oI v78)] [] [] 0) k ⟨_, ⟨a0, (([108] : List UInt8) ++ r1), 0, by omega, H, rfl⟩, lm [] hm⟩ ?_; clear H
  rintro k2 _ ⟨v76, v77, v78, hk2, H, rfl⟩
  cases k2 with
  | zero => cases H
  | succ k2 =>
   rw [S_List.l2] at H
   refine WpC.seq (sr ?_); refine mv ?_; refine mv ?_; refine L.lenR (xs := v76) (e := eS) underlying70 hF rfl rfl rfl rfl ?_; refine bi (L.nil ?_); refine cd H (fun hc H => ?_) (fun hc H => ?_)
   ·refine WpC.skip (WpC.seq (WpC.block (WpC.seq (sr ?_)))); refine mv ?_; refine mv ?_; obtain ⟨b87, hb87, H⟩ := bindS H; refine ix underlying70 info9 hb87 ?_; refine le shape9 ?_; obtain ⟨r88, hr88, H⟩ := bindS H; refine c0 0 ent98 (g98 k2  b87 r88 hr88) ?_; refine nt (L.nil ?_); refine cd H (fun hc H => ?_) (fun hc H => ?_)
    ·refine sr ?_; refine ag (L.nil ?_); cases H; exact WpC.ret rt
    ·refine WpC.skip (WpC.regionL ?_); refine mv ?_; refine mv ?_; refine mv ?_; obtain ⟨b89, hb89, H⟩ := bindS H; refine ix underlying70 info9 hb89 ?_; refine le shape9 ?_; obtain ⟨h90, H⟩ := condG H; refine L.catS hF rfl rfl rfl rfl (of_decide_eq_true h90) ?_; refine ag (L.nil ?_); refine WpC.regionL ?_; refine mv ?_; refine bi ?_; refine ag (L.nil ?_); exact ⟨k2, _, by omega, ⟨v76, (v77 ++ b89), (IntKind.i64.wrap (v78 + 1)), by omega, H, rfl⟩, lm [] hm⟩
   ·refine WpC.exit (sr ?_); refine mv ?_; obtain ⟨r91, hr91, H⟩ := bindS H; refine c0 0 ent176 (g176 k2  v77 r91 hr91) ?_; refine ag (L.nil ?_); cases H; exact WpC.ret rt
/-! ### S_Nums -/
def S_Nums.j2 (k : Nat) (v27 : List (List UInt8)) : Option (List UInt8) := (S_List k v27).bind fun r28 => some r28
def S_Nums.l3 : Nat → (List Int) → (List (List UInt8)) → Int → Option (List UInt8)
 | 0, _, _, _ => none
 | k3 + 1, v46, v47, v48 => cond (decide (v48 < (v46.length : Int))) (cond (decide (v48 ≤ 12)) ((at? v46 v48).bind fun b52 => (S_Num k3 b52).bind fun r53 => cond (r53 == ([] : List UInt8)) (some ([] : List UInt8)) (cond (decide ((2 * (v47.length + ([r53] : List (List UInt8)).length) + 192) * 16 ≤ 281474976710656)) ((S_Nums.l3 k3) v46 (v47 ++ ([r53] : List (List UInt8))) (IntKind.i64.wrap (v48 + 1))) none)) (S_Nums.j2 k3 v47)) (S_Nums.j2 k3 v47)
def S_Nums (k : Nat) (a0 : List Int) : Option (List UInt8) := S_Nums.l3 k a0 ([] : List (List UInt8)) 0
theorem ent134 : MG.Enters Tryz.prog 134 := ⟨Tryz.f134, func134, rfl, by decide⟩
theorem g134 (k : Nat) (g0 : Bool) (a0 : List Int) (r : List UInt8) (H : S_Nums k a0 = some r) : Gives Tryz.prog 134 [V.one (Cell.sl g0 (List.map eI a0))] [] [V.one (cS r)] [] := by
 refine Gives.intro func134 rfl rfl rfl rfl ?_; refine fx fun w0 T S0 ob oh hm => ?_
 have hF := fxe w0 T S0 30 ob oh
 unfold S_Nums at H; obtain ⟨K, hK⟩ := leK k; refine sr ?_; refine ag (L.nil ?_); refine sr ?_; refine L.buildSlice (e := eS) 1 ([] : List (List UInt8)) underlying70 info9 rfl rfl rfl hF rfl rfl rfl rfl rfl rfl rfl rfl ?_; refine ag (L.nil ?_); refine WpC.join (fun σ => ∃ (kj2 : Nat) (v27 : List (List UInt8)), kj2 ≤ K ∧ S_Nums.j2 kj2 v27 = some r ∧ σ = mkSt [(3, one (Cell.own 0))] [(0, ⟨1, List.map eS v27⟩)] [] 1) ?_ ?_
 ·rintro _ ⟨kj2, v27, hkj2, H, rfl⟩
  unfold S_Nums.j2 at H; refine sr ?_; refine mv ?_; obtain ⟨r28, hr28, H⟩ := bindS H; refine ca [false] [0] [] 1 ent133 (g133 kj2 false v27 r28 hr28) ?_; refine ag (L.nil ?_); cases H; exact WpC.ret rt
 ·refine sr ?_; refine ag (L.nil ?_); refine WpC.block ?_; refine WpC.loopL (P := Tryz.prog) (fun n σ => ∃ (v46 : List Int) (v47 : List (List UInt8)) (v48 : Int), n ≤ K ∧ S_Nums.l3 n v46 v47 v48 = some r ∧ σ = mkSt [(0, one (Cell.sl g0 (List.map eI v46))), (3, one (Cell.own 0)), (4, oI v48)] [(0, ⟨1, List.map eS v47⟩)] [] 1) k ⟨_, ⟨a0, ([] : List (List UInt8)), 0, by omega, H, rfl⟩, lm [(0, 1)] hm⟩ ?_; clear H
  rintro k3 _ ⟨v46, v47, v48, hk3, H, rfl⟩
  cases k3 with
  | zero => cases H
  | succ k3 =>
   rw [S_Nums.l3] at H
   refine WpC.seq (sr ?_); refine mv ?_; refine mv ?_; refine L.lenR (xs := v46) (e := eI) underlying22 hF rfl rfl rfl rfl ?_; refine bi ?_; refine mv ?_; refine sH H (fun hc H => ?_) (fun hc H => ?_)
   ·refine mv ?_; refine bi ?_; refine pk (L.nil ?_); refine cd H (fun hc H => ?_) (fun hc H => ?_)
    ·refine WpC.skip (WpC.seq (WpC.block (sr ?_))); refine mv ?_; refine mv ?_; obtain ⟨b52, hb52, H⟩ := bindS H; refine ix underlying22 info3 hb52 ?_; refine le shape3 ?_; obtain ⟨r53, hr53, H⟩ := bindS H; refine c0 1 ent177 (g177 k3  b52 r53 hr53) ?_; refine ag (L.nil ?_); refine WpC.seq (sr ?_); refine mv ?_; refine L.binS hF rfl rfl rfl rfl rfl (L.nil ?_); refine cd H (fun hc H => ?_) (fun hc H => ?_)
     ·refine sr ?_; refine ag (L.nil ?_); cases H; exact WpC.ret rt
     ·refine WpC.skip (WpC.regionL ?_); refine mv ?_; refine mv ?_; refine L.buildSlice (e := eS) 2 ([r53] : List (List UInt8)) underlying70 info9 rfl rfl rfl hF rfl rfl rfl rfl rfl rfl rfl rfl ?_; obtain ⟨h54, H⟩ := condG H; refine L.append (xs := v47) (ys := ([r53] : List (List UInt8))) (e := eS) 3 underlying70 info9 rfl rfl hF rfl rfl rfl rfl rfl rfl rfl rfl (fun _ => rfl) (fun _ _ h1 h2 => by cases h1; cases h2; rfl) ⟨_, underlying70⟩ (of_decide_eq_true h54) rfl rfl ?_; refine ag (L.nil ?_); refine WpC.regionL ?_; refine mv ?_; refine bi ?_; refine ag (L.nil ?_); exact ⟨k3, _, by omega, ⟨v46, (v47 ++ ([r53] : List (List UInt8))), (IntKind.i64.wrap (v48 + 1)), by omega, H, rfl⟩, lm [(0, 3)] hm⟩
    ·refine WpC.exit ?_; exact ⟨_, ⟨k3, v47, by omega, H, rfl⟩, lm [(0, 0)] hm⟩
   ·(repeat refine of ?_); refine pk (L.nil ?_); refine cF ?_; refine WpC.exit ?_; exact ⟨_, ⟨k3, v47, by omega, H, rfl⟩, lm [(0, 0)] hm⟩
/-! ### S_PrincipalKey -/
def S_PrincipalKey (k : Nat) (a0 : Int) : Option Int := (S_l5Principal k a0).bind fun r2 => cond (!r2) (some 0) (cond (decide (a0 < 3)) (some (IntKind.i64.wrap (1 + a0))) (some (IntKind.i64.wrap ((IntKind.i64.wrap (11 + a0)) - 3))))
theorem ent31 : MG.Enters Tryz.prog 31 := ⟨Tryz.f31, func31, rfl, by decide⟩
theorem g31 (k : Nat) (a0 r : Int) (H : S_PrincipalKey k a0 = some r) : Gives Tryz.prog 31 [V.one (cI a0)] [] [V.one (cI r)] [] := by
 refine Gives.intro func31 rfl rfl rfl rfl ?_; refine fx fun w0 T S0 ob oh hm => ?_
 have hF := fxe w0 T S0 13 ob oh
 unfold S_PrincipalKey at H; obtain ⟨K, hK⟩ := leK k; refine sr ?_; refine ag (L.nil ?_); refine WpC.seq (sr ?_); refine mv ?_; obtain ⟨r2, hr2, H⟩ := bindS H; refine c0 1 ent101 (g101 k  a0 r2 hr2) ?_; refine nt (L.nil ?_); refine cd H (fun hc H => ?_) (fun hc H => ?_)
 ·refine sr ?_; refine ag (L.nil ?_); cases H; exact WpC.ret rt
 ·refine WpC.skip (WpC.seq (sr ?_)); refine mv ?_; refine bi (L.nil ?_); refine cd H (fun hc H => ?_) (fun hc H => ?_)
  ·refine sr ?_; refine mv ?_; refine bi ?_; refine ag (L.nil ?_); cases H; exact WpC.ret rt
  ·refine WpC.skip (sr ?_); refine mv ?_; refine bi ?_; refine bi ?_; refine ag (L.nil ?_); cases H; exact WpC.ret rt
/-! ### S_Seal -/
def S_Seal (k : Nat) (a0 : Int) (a1 : List UInt8) : Option (List UInt8) := (S_l1In k a0 1 1000000).bind fun r7 => cond (!r7) (some ([] : List UInt8)) ((S_TermOk k a1).bind fun r8 => cond (!r8) (some ([] : List UInt8)) ((S_Var k a0).bind fun r9 => cond (decide (([115] : List UInt8).length + r9.length ≤ 9223372036854775807)) (cond (decide ((([115] : List UInt8) ++ r9).length + a1.length ≤ 9223372036854775807)) ((S_l2Ok k ((([115] : List UInt8) ++ r9) ++ a1)).bind fun r12 => some r12) none) none))
theorem ent136 : MG.Enters Tryz.prog 136 := ⟨Tryz.f136, func136, rfl, by decide⟩
theorem g136 (k : Nat) (a0 : Int) (a1 r : List UInt8) (H : S_Seal k a0 a1 = some r) : Gives Tryz.prog 136 [V.one (cI a0), V.one (cS a1)] [] [V.one (cS r)] [] := by
 refine Gives.intro func136 rfl rfl rfl rfl ?_; refine fx fun w0 T S0 ob oh hm => ?_
 have hF := fxe w0 T S0 19 ob oh
 unfold S_Seal at H; obtain ⟨K, hK⟩ := leK k; refine sr ?_; refine ag (L.nil ?_); refine WpC.seq (sr ?_); refine mv ?_; obtain ⟨r7, hr7, H⟩ := bindS H; refine c0 2 ent43 (g43 k  a0 1 1000000 r7 hr7) ?_; refine nt ?_; refine mv ?_; refine sH H (fun hc H => ?_) (fun hc H => ?_)
 ·(repeat refine of ?_); refine pk (L.nil ?_); refine cT ?_; refine sr ?_; refine ag (L.nil ?_); cases H; exact WpC.ret rt
 ·refine mv ?_; obtain ⟨r8, hr8, H⟩ := bindS H; refine c0 3 ent98 (g98 k  a1 r8 hr8) ?_; refine nt ?_; refine pk (L.nil ?_); refine cd H (fun hc H => ?_) (fun hc H => ?_)
  ·refine sr ?_; refine ag (L.nil ?_); cases H; exact WpC.ret rt
  ·refine WpC.skip (sr ?_); refine mv ?_; obtain ⟨r9, hr9, H⟩ := bindS H; refine c0 4 ent166 (g166 k  a0 r9 hr9) ?_; obtain ⟨h10, H⟩ := condG H; refine L.catS hF rfl rfl rfl rfl (of_decide_eq_true h10) ?_; refine mv ?_; obtain ⟨h11, H⟩ := condG H; refine L.catS hF rfl rfl rfl rfl (of_decide_eq_true h11) ?_; obtain ⟨r12, hr12, H⟩ := bindS H; refine c0 5 ent176 (g176 k  ((([115] : List UInt8) ++ r9) ++ a1) r12 hr12) ?_; refine ag (L.nil ?_); cases H; exact WpC.ret rt
/-! ### S_LoginReq -/
def S_LoginReq (k : Nat) (a0 a1 a2 : Int) : Option (List UInt8) := (S_l5Principal k a0).bind fun r10 => cond (!r10) (some ([] : List UInt8)) ((S_l8No k a1).bind fun r11 => cond r11 (some ([] : List UInt8)) ((S_l8No k a2).bind fun r12 => cond r12 (some ([] : List UInt8)) ((S_Nums k ([1, a0, a2] : List Int)).bind fun r13 => (S_PrincipalKey k a0).bind fun r14 => (S_Nums k ([8, a1] : List Int)).bind fun r15 => (S_Seal k r14 r15).bind fun r16 => (S_List k ([r13, r16] : List (List UInt8))).bind fun r17 => some r17)))
theorem ent163 : MG.Enters Tryz.prog 163 := ⟨Tryz.f163, func163, rfl, by decide⟩
theorem g163 (k : Nat) (a0 a1 a2 : Int) (r : List UInt8) (H : S_LoginReq k a0 a1 a2 = some r) : Gives Tryz.prog 163 [V.one (cI a0), V.one (cI a1), V.one (cI a2)] [] [V.one (cS r)] [] := by
 refine Gives.intro func163 rfl rfl rfl rfl ?_; refine fx fun w0 T S0 ob oh hm => ?_
 have hF := fxe w0 T S0 30 ob oh
 unfold S_LoginReq at H; obtain ⟨K, hK⟩ := leK k; refine sr ?_; refine ag (L.nil ?_); refine WpC.seq (sr ?_); refine mv ?_; obtain ⟨r10, hr10, H⟩ := bindS H; refine c0 3 ent101 (g101 k  a0 r10 hr10) ?_; refine nt ?_; refine mv ?_; refine sH H (fun hc H => ?_) (fun hc H => ?_)
 ·(repeat refine of ?_); refine pk ?_; refine mv ?_; (repeat refine of ?_); refine pk (L.nil ?_); refine cT ?_; refine sr ?_; refine ag (L.nil ?_); cases H; exact WpC.ret rt
 ·refine mv ?_; obtain ⟨r11, hr11, H⟩ := bindS H; refine c0 4 ent85 (g85 k  a1 r11 hr11) ?_; refine pk ?_; refine mv ?_; refine sH H (fun hc H => ?_) (fun hc H => ?_)
  ·(repeat refine of ?_); refine pk (L.nil ?_); refine cT ?_; refine sr ?_; refine ag (L.nil ?_); cases H; exact WpC.ret rt
  ·refine mv ?_; obtain ⟨r12, hr12, H⟩ := bindS H; refine c0 5 ent85 (g85 k  a2 r12 hr12) ?_; refine pk (L.nil ?_); refine cd H (fun hc H => ?_) (fun hc H => ?_)
   ·refine sr ?_; refine ag (L.nil ?_); cases H; exact WpC.ret rt
   ·refine WpC.skip (sr ?_); refine mv ?_; refine mv ?_; refine L.buildSlice (e := eI) 6 ([1, a0, a2] : List Int) underlying22 info3 rfl rfl rfl hF rfl rfl rfl rfl rfl rfl rfl rfl ?_; obtain ⟨r13, hr13, H⟩ := bindS H; refine ca [false] [6] [] 7 ent134 (g134 k false ([1, a0, a2] : List Int) r13 hr13) ?_; refine mv ?_; obtain ⟨r14, hr14, H⟩ := bindS H; refine c0 8 ent31 (g31 k  a0 r14 hr14) ?_; refine mv ?_; refine L.buildSlice (e := eI) 9 ([8, a1] : List Int) underlying22 info3 rfl rfl rfl hF rfl rfl rfl rfl rfl rfl rfl rfl ?_; obtain ⟨r15, hr15, H⟩ := bindS H; refine ca [false] [9] [] 10 ent134 (g134 k false ([8, a1] : List Int) r15 hr15) ?_; obtain ⟨r16, hr16, H⟩ := bindS H; refine c0 11 ent136 (g136 k  r14 r15 r16 hr16) ?_; refine L.buildSlice (e := eS) 12 ([r13, r16] : List (List UInt8)) underlying70 info9 rfl rfl rfl hF rfl rfl rfl rfl rfl rfl rfl rfl ?_; obtain ⟨r17, hr17, H⟩ := bindS H; refine ca [false] [12] [] 13 ent133 (g133 k false ([r13, r16] : List (List UInt8)) r17 hr17) ?_; refine ag (L.nil ?_); cases H; exact WpC.ret rt
/-! ### S_l6Realm -/
def S_l6Realm (k : Nat) (a0 : Int) : Option Bool := cond (decide (a0 ≥ 0)) (some (decide (a0 < 3))) (some false)
theorem ent83 : MG.Enters Tryz.prog 83 := ⟨Tryz.f83, func83, rfl, by decide⟩
theorem g83 (k : Nat) (a0 : Int) (r : Bool) (H : S_l6Realm k a0 = some r) : Gives Tryz.prog 83 [V.one (cI a0)] [] [V.one (cL r)] [] := by
 refine Gives.intro func83 rfl rfl rfl rfl ?_; refine fx fun w0 T S0 ob oh hm => ?_
 have hF := fxe w0 T S0 9 ob oh
 unfold S_l6Realm at H; obtain ⟨K, hK⟩ := leK k; refine sr ?_; refine ag (L.nil ?_); refine sr ?_; refine mv ?_; refine bi ?_; refine mv ?_; refine sH H (fun hc H => ?_) (fun hc H => ?_)
 ·refine mv ?_; refine bi ?_; refine pk ?_; refine ag (L.nil ?_); cases H; exact WpC.ret rt
 ·(repeat refine of ?_); refine pk ?_; refine ag (L.nil ?_); cases H; exact WpC.ret rt
/-! ### S_CentreKey -/
def S_CentreKey (k : Nat) (a0 : Int) : Option Int := (S_l6Realm k a0).bind fun r2 => cond (!r2) (some 0) (some (IntKind.i64.wrap (21 + a0)))
theorem ent32 : MG.Enters Tryz.prog 32 := ⟨Tryz.f32, func32, rfl, by decide⟩
theorem g32 (k : Nat) (a0 r : Int) (H : S_CentreKey k a0 = some r) : Gives Tryz.prog 32 [V.one (cI a0)] [] [V.one (cI r)] [] := by
 refine Gives.intro func32 rfl rfl rfl rfl ?_; refine fx fun w0 T S0 ob oh hm => ?_
 have hF := fxe w0 T S0 8 ob oh
 unfold S_CentreKey at H; obtain ⟨K, hK⟩ := leK k; refine sr ?_; refine ag (L.nil ?_); refine WpC.seq (sr ?_); refine mv ?_; obtain ⟨r2, hr2, H⟩ := bindS H; refine c0 1 ent83 (g83 k  a0 r2 hr2) ?_; refine nt (L.nil ?_); refine cd H (fun hc H => ?_) (fun hc H => ?_)
 ·refine sr ?_; refine ag (L.nil ?_); cases H; exact WpC.ret rt
 ·refine WpC.skip (sr ?_); refine mv ?_; refine bi ?_; refine ag (L.nil ?_); cases H; exact WpC.ret rt
/-! ### S_l5Service -/
def S_l5Service (k : Nat) (a0 : Int) : Option Bool := (S_l1In k a0 0 2).bind fun r3 => cond r3 (some true) ((S_l1In k a0 10 12).bind fun r4 => some r4)
theorem ent167 : MG.Enters Tryz.prog 167 := ⟨Tryz.f167, func167, rfl, by decide⟩
theorem g167 (k : Nat) (a0 : Int) (r : Bool) (H : S_l5Service k a0 = some r) : Gives Tryz.prog 167 [V.one (cI a0)] [] [V.one (cL r)] [] := by
 refine Gives.intro func167 rfl rfl rfl rfl ?_; refine fx fun w0 T S0 ob oh hm => ?_
 have hF := fxe w0 T S0 9 ob oh
 unfold S_l5Service at H; obtain ⟨K, hK⟩ := leK k; refine sr ?_; refine ag (L.nil ?_); refine sr ?_; refine mv ?_; obtain ⟨r3, hr3, H⟩ := bindS H; refine c0 1 ent43 (g43 k  a0 0 2 r3 hr3) ?_; refine mv ?_; refine sH H (fun hc H => ?_) (fun hc H => ?_)
 ·(repeat refine of ?_); refine pk ?_; refine ag (L.nil ?_); cases H; exact WpC.ret rt
 ·refine mv ?_; obtain ⟨r4, hr4, H⟩ := bindS H; refine c0 2 ent43 (g43 k  a0 10 12 r4 hr4) ?_; refine pk ?_; refine ag (L.nil ?_); cases H; exact WpC.ret rt
/-! ### S_RestOk -/
def S_RestOk (k : Nat) (a0 : T_Rest) : Option Bool := (S_l1In k a0.Servers 0 7).bind fun r4 => cond r4 ((S_l1In k a0.Ops 0 255).bind fun r5 => cond r5 ((S_l1In k a0.End 0 100000).bind fun r6 => some r6) (some false)) (some false)
theorem ent81 : MG.Enters Tryz.prog 81 := ⟨Tryz.f81, func81, rfl, by decide⟩
theorem g81 (k : Nat) (a0 : T_Rest) (r : Bool) (H : S_RestOk k a0 = some r) : Gives Tryz.prog 81 [V.agg (bT_Rest a0)] [] [V.one (cL r)] [] := by
 refine Gives.intro func81 rfl rfl rfl rfl ?_; refine fx fun w0 T S0 ob oh hm => ?_
 have hF := fxe w0 T S0 16 ob oh
 unfold S_RestOk at H; obtain ⟨K, hK⟩ := leK k; refine sr ?_; refine bo 3 ?_; refine ag (L.nil ?_); refine sr ?_; refine fa underlying37 info3 ?_; refine lp shape3 ?_; obtain ⟨r4, hr4, H⟩ := bindS H; refine c0 4 ent43 (g43 k  a0.Servers 0 7 r4 hr4) ?_; refine mv ?_; refine sH H (fun hc H => ?_) (fun hc H => ?_)
 ·refine fa underlying37 info3 ?_; refine lp shape3 ?_; obtain ⟨r5, hr5, H⟩ := bindS H; refine c0 5 ent43 (g43 k  a0.Ops 0 255 r5 hr5) ?_; refine pk ?_; refine mv ?_; refine sH H (fun hc H => ?_) (fun hc H => ?_)
  ·refine fa underlying37 info3 ?_; refine lp shape3 ?_; obtain ⟨r6, hr6, H⟩ := bindS H; refine c0 6 ent43 (g43 k  a0.End 0 100000 r6 hr6) ?_; refine pk ?_; refine ag (L.nil ?_); cases H; exact WpC.ret rt
  ·(repeat refine of ?_); refine pk ?_; refine ag (L.nil ?_); cases H; exact WpC.ret rt
 ·(repeat refine of ?_); refine pk ?_; refine mv ?_; (repeat refine of ?_); refine pk ?_; refine ag (L.nil ?_); cases H; exact WpC.ret rt
/-! ### S_l5TicketOk -/
def S_l5TicketOk (k : Nat) (a0 : T_Ticket) : Option Bool := (S_l5Principal k a0.Client).bind fun r7 => cond r7 ((S_l5Service k a0.Service).bind fun r8 => cond r8 ((S_l1In k a0.Key 1 1000000).bind fun r9 => cond r9 ((S_RestOk k a0.Rest).bind fun r10 => cond r10 ((S_l5All k a0.Path 6 3).bind fun r11 => cond r11 ((S_l5All k a0.Via 4 3).bind fun r12 => some r12) (some false)) (some false)) (some false)) (some false)) (some false)
theorem ent104 : MG.Enters Tryz.prog 104 := ⟨Tryz.f104, func104, rfl, by decide⟩
theorem g104 (k : Nat) (g0 g1 : Bool) (a0 : T_Ticket) (r : Bool) (H : S_l5TicketOk k a0 = some r) : Gives Tryz.prog 104 [V.agg (bT_Ticket g0 g1 a0)] [] [V.one (cL r)] [] := by
 refine Gives.intro func104 rfl rfl rfl rfl ?_; refine fx fun w0 T S0 ob oh hm => ?_
 have hF := fxe w0 T S0 31 ob oh
 unfold S_l5TicketOk at H; obtain ⟨K, hK⟩ := leK k; refine sr ?_; refine bo 8 ?_; refine ag (L.nil ?_); refine sr ?_; refine fa underlying76 info3 ?_; refine lp shape3 ?_; obtain ⟨r7, hr7, H⟩ := bindS H; refine c0 9 ent101 (g101 k  a0.Client r7 hr7) ?_; refine mv ?_; refine sH H (fun hc H => ?_) (fun hc H => ?_)
 ·refine fa underlying76 info3 ?_; refine lp shape3 ?_; obtain ⟨r8, hr8, H⟩ := bindS H; refine c0 10 ent167 (g167 k  a0.Service r8 hr8) ?_; refine pk ?_; refine mv ?_; refine sH H (fun hc H => ?_) (fun hc H => ?_)
  ·refine fa underlying76 info3 ?_; refine lp shape3 ?_; obtain ⟨r9, hr9, H⟩ := bindS H; refine c0 11 ent43 (g43 k  a0.Key 1 1000000 r9 hr9) ?_; refine pk ?_; refine mv ?_; refine sH H (fun hc H => ?_) (fun hc H => ?_)
   ·refine fa underlying76 info37 ?_; refine lp shape37 ?_; obtain ⟨r10, hr10, H⟩ := bindS H; refine c0 12 ent81 (g81 k  a0.Rest r10 hr10) ?_; refine pk ?_; refine mv ?_; refine sH H (fun hc H => ?_) (fun hc H => ?_)
    ·refine fa underlying76 info22 ?_; refine lp shape22 ?_; obtain ⟨r11, hr11, H⟩ := bindS H; refine c0 13 ent106 (g106 k g0 a0.Path 6 3 r11 hr11) ?_; refine pk ?_; refine mv ?_; refine sH H (fun hc H => ?_) (fun hc H => ?_)
     ·refine fa underlying76 info22 ?_; refine lp shape22 ?_; obtain ⟨r12, hr12, H⟩ := bindS H; refine c0 14 ent106 (g106 k g1 a0.Via 4 3 r12 hr12) ?_; refine pk ?_; refine ag (L.nil ?_); cases H; exact WpC.ret rt
     ·(repeat refine of ?_); refine pk ?_; refine ag (L.nil ?_); cases H; exact WpC.ret rt
    ·(repeat refine of ?_); refine pk ?_; refine mv ?_; (repeat refine of ?_); refine pk ?_; refine ag (L.nil ?_); cases H; exact WpC.ret rt
   ·(repeat refine of ?_); refine pk ?_; refine mv ?_; (repeat refine of ?_); refine pk ?_; refine mv ?_; (repeat refine of ?_); refine pk ?_; refine ag (L.nil ?_); cases H; exact WpC.ret rt
  ·(repeat refine of ?_); refine pk ?_; refine mv ?_; (repeat refine of ?_); refine pk ?_; refine mv ?_; (repeat refine of ?_); refine pk ?_; refine mv ?_; (repeat refine of ?_); refine pk ?_; refine ag (L.nil ?_); cases H; exact WpC.ret rt
 ·(repeat refine of ?_); refine pk ?_; refine mv ?_; (repeat refine of ?_); refine pk ?_; refine mv ?_; (repeat refine of ?_); refine pk ?_; refine mv ?_; (repeat refine of ?_); refine pk ?_; refine mv ?_; (repeat refine of ?_); refine pk ?_; refine ag (L.nil ?_); cases H; exact WpC.ret rt
/-! ### S_KeyTerm -/
def S_KeyTerm (k : Nat) (a0 : Int) : Option (List UInt8) := (S_l1In k a0 1 1000000).bind fun r2 => cond (!r2) (some ([] : List UInt8)) ((S_Var k a0).bind fun r3 => cond (decide (([107] : List UInt8).length + r3.length ≤ 9223372036854775807)) (some (([107] : List UInt8) ++ r3)) none)
theorem ent137 : MG.Enters Tryz.prog 137 := ⟨Tryz.f137, func137, rfl, by decide⟩
theorem g137 (k : Nat) (a0 : Int) (r : List UInt8) (H : S_KeyTerm k a0 = some r) : Gives Tryz.prog 137 [V.one (cI a0)] [] [V.one (cS r)] [] := by
 refine Gives.intro func137 rfl rfl rfl rfl ?_; refine fx fun w0 T S0 ob oh hm => ?_
 have hF := fxe w0 T S0 9 ob oh
 unfold S_KeyTerm at H; obtain ⟨K, hK⟩ := leK k; refine sr ?_; refine ag (L.nil ?_); refine WpC.seq (sr ?_); refine mv ?_; obtain ⟨r2, hr2, H⟩ := bindS H; refine c0 1 ent43 (g43 k  a0 1 1000000 r2 hr2) ?_; refine nt (L.nil ?_); refine cd H (fun hc H => ?_) (fun hc H => ?_)
 ·refine sr ?_; refine ag (L.nil ?_); cases H; exact WpC.ret rt
 ·refine WpC.skip (sr ?_); refine mv ?_; obtain ⟨r3, hr3, H⟩ := bindS H; refine c0 2 ent166 (g166 k  a0 r3 hr3) ?_; obtain ⟨h4, H⟩ := condG H; refine L.catS hF rfl rfl rfl rfl (of_decide_eq_true h4) ?_; refine ag (L.nil ?_); cases H; exact WpC.ret rt
/-! ### S_ShowRest -/
def S_ShowRest (k : Nat) (a0 : T_Rest) : Option (List UInt8) := (S_RestOk k a0).bind fun r2 => cond (!r2) (some ([] : List UInt8)) ((S_Nums k ([a0.Servers, a0.Ops, a0.End] : List Int)).bind fun r3 => some r3)
theorem ent138 : MG.Enters Tryz.prog 138 := ⟨Tryz.f138, func138, rfl, by decide⟩
theorem g138 (k : Nat) (a0 : T_Rest) (r : List UInt8) (H : S_ShowRest k a0 = some r) : Gives Tryz.prog 138 [V.agg (bT_Rest a0)] [] [V.one (cS r)] [] := by
 refine Gives.intro func138 rfl rfl rfl rfl ?_; refine fx fun w0 T S0 ob oh hm => ?_
 have hF := fxe w0 T S0 14 ob oh
 unfold S_ShowRest at H; obtain ⟨K, hK⟩ := leK k; refine sr ?_; refine bo 3 ?_; refine ag (L.nil ?_); refine WpC.seq (sr ?_); refine lp shape37 ?_; obtain ⟨r2, hr2, H⟩ := bindS H; refine c0 4 ent81 (g81 k  a0 r2 hr2) ?_; refine nt (L.nil ?_); refine cd H (fun hc H => ?_) (fun hc H => ?_)
 ·refine sr ?_; refine ag (L.nil ?_); cases H; exact WpC.ret rt
 ·refine WpC.skip (sr ?_); refine fa underlying37 info3 ?_; refine lp shape3 ?_; refine fa underlying37 info3 ?_; refine lp shape3 ?_; refine fa underlying37 info3 ?_; refine lp shape3 ?_; refine L.buildSlice (e := eI) 5 ([a0.Servers, a0.Ops, a0.End] : List Int) underlying22 info3 rfl rfl rfl hF rfl rfl rfl rfl rfl rfl rfl rfl ?_; obtain ⟨r3, hr3, H⟩ := bindS H; refine ca [false] [5] [] 6 ent134 (g134 k false ([a0.Servers, a0.Ops, a0.End] : List Int) r3 hr3) ?_; refine ag (L.nil ?_); cases H; exact WpC.ret rt
/-! ### S_ShowTicket -/
def S_ShowTicket (k : Nat) (a0 : T_Ticket) (a1 : Int) : Option (List UInt8) := (S_l5TicketOk k a0).bind fun r2 => cond (!r2) (some ([] : List UInt8)) ((S_Nums k ([a0.Client, a0.Service] : List Int)).bind fun r3 => (S_KeyTerm k a0.Key).bind fun r4 => (S_ShowRest k a0.Rest).bind fun r5 => (S_Nums k a0.Path).bind fun r6 => (S_Nums k a0.Via).bind fun r7 => (S_List k ([r3, r4, r5, r6, r7] : List (List UInt8))).bind fun r8 => (S_Seal k a1 r8).bind fun r9 => some r9)
theorem ent77 : MG.Enters Tryz.prog 77 := ⟨Tryz.f77, func77, rfl, by decide⟩
theorem g77 (k : Nat) (g0 g1 : Bool) (a0 : T_Ticket) (a1 : Int) (r : List UInt8) (H : S_ShowTicket k a0 a1 = some r) : Gives Tryz.prog 77 [V.agg (bT_Ticket g0 g1 a0), V.one (cI a1)] [] [V.one (cS r)] [] := by
 refine Gives.intro func77 rfl rfl rfl rfl ?_; refine fx fun w0 T S0 ob oh hm => ?_
 have hF := fxe w0 T S0 30 ob oh
 unfold S_ShowTicket at H; obtain ⟨K, hK⟩ := leK k; refine sr ?_; refine bo 9 ?_; refine ag (L.nil ?_); refine WpC.seq (sr ?_); refine lp shape76 ?_; obtain ⟨r2, hr2, H⟩ := bindS H; refine c0 10 ent104 (g104 k g0 g1 a0 r2 hr2) ?_; refine nt (L.nil ?_); refine cd H (fun hc H => ?_) (fun hc H => ?_)
 ·refine sr ?_; refine ag (L.nil ?_); cases H; exact WpC.ret rt
 ·refine WpC.skip (WpC.seq ?_); obtain ⟨r3, hr3, H⟩ := bindS H; obtain ⟨r4, hr4, H⟩ := bindS H; obtain ⟨r5, hr5, H⟩ := bindS H; obtain ⟨r6, hr6, H⟩ := bindS H; obtain ⟨r7, hr7, H⟩ := bindS H; obtain ⟨r8, hr8, H⟩ := bindS H; obtain ⟨r9, hr9, H⟩ := bindS H
  refine A.lin (fun β => mkStL [(1, iI a1), (2, iP 9 0), (4, [(β 22, some (one (cS r9))), (true, some (one (cS ([] : List UInt8))))]), (8, lI (β 0) a1), (9, lP (β 1) 9 0), (10, al (β 2) (one (cI a0.Client))), (11, lP (β 3) 9 1), (12, al (β 4) (one (cI a0.Service))), (13, al (β 5) (one (Cell.own 11))), (14, al (β 6) (one (cS r3))), (15, lP (β 7) 9 2), (16, al (β 8) (one (cI a0.Key))), (17, al (β 9) (one (cS r4))), (18, lP (β 10) 9 3), (19, al (β 11) (agg (bT_Rest a0.Rest))), (20, al (β 12) (one (cS r5))), (21, lP (β 13) 9 6), (22, al (β 14) (one (Cell.sl g0 (List.map eI a0.Path)))), (23, al (β 15) (one (cS r6))), (24, lP (β 16) 9 7), (25, al (β 17) (one (Cell.sl g1 (List.map eI a0.Via)))), (26, al (β 18) (one (cS r7))), (27, al (β 19) (one (Cell.own 17))), (28, al (β 20) (one (cS r8))), (29, al (β 21) (one (cS r9)))] [(11, al (β 5) (⟨1, List.map eI ([a0.Client, a0.Service] : List Int)⟩)), (17, al (β 19) (⟨1, List.map eS ([r3, r4, r5, r6, r7] : List (List UInt8))⟩))] [(9, ai ((bT_Ticket g0 g1 a0)))] 20) [([], [21, 22]), ([], [2, 5, 6, 9, 12, 15, 18, 19, 20, 21, 22]), ([1], [5, 6, 9, 12, 15, 18, 19, 20, 21, 22]), ([], [4, 5, 6, 9, 12, 15, 18, 19, 20, 21, 22]), ([3], [5, 6, 9, 12, 15, 18, 19, 20, 21, 22]), ([1, 2, 3, 4], [6, 9, 12, 15, 18, 19, 20, 21, 22]), ([1, 2, 3, 4, 5], [9, 12, 15, 18, 19, 20, 21, 22]), ([], [8, 9, 12, 15, 18, 19, 20, 21, 22]), ([7], [9, 12, 15, 18, 19, 20, 21, 22]), ([1, 2, 3, 4, 5, 6, 7, 8], [12, 15, 18, 19, 20, 21, 22]), ([], [11, 12, 15, 18, 19, 20, 21, 22]), ([10], [12, 15, 18, 19, 20, 21, 22]), ([1, 2, 3, 4, 5, 6, 7, 8, 9, 10, 11], [15, 18, 19, 20, 21, 22]), ([], [14, 15, 18, 19, 20, 21, 22]), ([13], [15, 18, 19, 20, 21, 22]), ([1, 2, 3, 4, 5, 6, 7, 8, 9, 10, 11, 12, 13, 14], [18, 19, 20, 21, 22]), ([], [17, 18, 19, 20, 21, 22]), ([16], [18, 19, 20, 21, 22]), ([1, 2, 3, 4, 5, 6, 7, 8, 9, 10, 11, 12, 13, 14, 15, 16, 17], [19, 20, 21, 22]), ([1, 2, 3, 4, 5, 6, 7, 8, 9, 10, 11, 12, 13, 14, 15, 16, 17, 18], [20, 21, 22]), ([1, 2, 3, 4, 5, 6, 7, 8, 9, 10, 11, 12, 13, 14, 15, 16, 17, 18, 19], [21, 22]), ([0, 1, 2, 3, 4, 5, 6, 7, 8, 9, 10, 11, 12, 13, 14, 15, 16, 17, 18, 19, 20], [22]), ([0, 1, 2, 3, 4, 5, 6, 7, 8, 9, 10, 11, 12, 13, 14, 15, 16, 17, 18, 19, 20, 21], [])] 23 mixed rfl (by kernel_rfl) ?_ ?_ ?_
  ·exact Le.lin [] hm rfl (sa (sa2 (kn2 (kn4 (kn8 (kn8 kz)))))) (kn2 kz) (ba kz)
  ·repeat' (first | exact trivial | refine ⟨⟨_, rfl, fun β => ?_⟩, ?_⟩ | fail)
   ·refine mv ?_; exact lx [] hm
   ·refine fa underlying76 info3 ?_; exact lx [] hm
   ·refine lp shape3 ?_; exact lx [] hm
   ·refine fa underlying76 info3 ?_; exact lx [] hm
   ·refine lp shape3 ?_; exact lx [] hm
   ·refine L.buildSlice (e := eI) 20 ([a0.Client, a0.Service] : List Int) underlying22 info3 rfl rfl rfl hF rfl rfl rfl rfl rfl rfl rfl rfl ?_; exact lx [(11, 20)] hm
   ·refine ca [false] [11] [] 20 ent134 (g134 k false ([a0.Client, a0.Service] : List Int) r3 hr3) ?_; exact lx [(12, 20)] hm
   ·refine fa underlying76 info3 ?_; exact lx [] hm
   ·refine lp shape3 ?_; exact lx [] hm
   ·refine c0 20 ent137 (g137 k  a0.Key r4 hr4) ?_; exact lx [(13, 20)] hm
   ·refine fa underlying76 info37 ?_; exact lx [] hm
   ·refine lp shape37 ?_; exact lx [] hm
   ·refine c0 20 ent138 (g138 k  a0.Rest r5 hr5) ?_; exact lx [(14, 20)] hm
   ·refine fa underlying76 info22 ?_; exact lx [] hm
   ·refine lp shape22 ?_; exact lx [] hm
   ·refine c0 20 ent134 (g134 k g0 a0.Path r6 hr6) ?_; exact lx [(15, 20)] hm
   ·refine fa underlying76 info22 ?_; exact lx [] hm
   ·refine lp shape22 ?_; exact lx [] hm
   ·refine c0 20 ent134 (g134 k g1 a0.Via r7 hr7) ?_; exact lx [(16, 20)] hm
   ·refine L.buildSlice (e := eS) 20 ([r3, r4, r5, r6, r7] : List (List UInt8)) underlying70 info9 rfl rfl rfl hF rfl rfl rfl rfl rfl rfl rfl rfl ?_; exact lx [(17, 20)] hm
   ·refine ca [false] [17] [] 20 ent133 (g133 k false ([r3, r4, r5, r6, r7] : List (List UInt8)) r8 hr8) ?_; exact lx [(18, 20)] hm
   ·refine c0 20 ent136 (g136 k  a1 r8 r9 hr9) ?_; exact lx [(19, 20)] hm
   ·refine ag ?_; exact lx [] hm
  refine ⟨_, (lm [] hm : Le _ _ (mkSt [(4, oS r9)] [] [] 0)), ?_⟩; cases H; exact WpC.ret rt
/-! ### S_l8Own -/
def S_l8Own (k : Nat) (a0 : T_Config) (a1 a2 a3 : Int) : Option (List UInt8) := (S_RealmOf k a0 a1).bind fun r1 => (S_CentreKey k r1).bind fun r2 => (S_ShowTicket k (⟨a1, (IntKind.i64.wrap (10 + r1)), a2, (⟨7, 255, a3⟩ : T_Rest), [], []⟩ : T_Ticket) r2).bind fun r3 => some r3
theorem ent164 : MG.Enters Tryz.prog 164 := ⟨Tryz.f164, func164, rfl, by decide⟩
theorem g164 (k : Nat) (g0 g1 g2 g3 : Bool) (a0 : T_Config) (a1 a2 a3 : Int) (r : List UInt8) (H : S_l8Own k a0 a1 a2 a3 = some r) : Gives Tryz.prog 164 [V.agg (bT_Config g0 g1 g2 g3 a0), V.one (cI a1), V.one (cI a2), V.one (cI a3)] [] [V.one (cS r)] [] := by
 refine Gives.intro func164 rfl rfl rfl rfl ?_; refine fx fun w0 T S0 ob oh hm => ?_
 have hF := fxe w0 T S0 23 ob oh
 unfold S_l8Own at H; obtain ⟨K, hK⟩ := leK k; refine sr ?_; refine bo 8 ?_; refine ag (L.nil ?_); refine sr ?_; refine lp shape44 ?_; refine mv ?_; obtain ⟨r1, hr1, H⟩ := bindS H; refine c0 9 ent140 (g140 k g0 g1 g2 g3 a0 a1 r1 hr1) ?_; refine ag (L.nil ?_); refine sr ?_; refine mv ?_; refine mv ?_; refine bi ?_; refine mv ?_; refine mv ?_; refine bf built37 ?_; refine bf built76 ?_; refine mv ?_; obtain ⟨r2, hr2, H⟩ := bindS H; refine c0 10 ent32 (g32 k  r1 r2 hr2) ?_; obtain ⟨r3, hr3, H⟩ := bindS H; refine c0 11 ent77 (g77 k true true (⟨a1, (IntKind.i64.wrap (10 + r1)), a2, (⟨7, 255, a3⟩ : T_Rest), [], []⟩ : T_Ticket) r2 r3 hr3) ?_; refine ag (L.nil ?_); cases H; exact WpC.ret rt
/-! ### S_LinkKey -/
def S_LinkKey (k : Nat) (a0 a1 : Int) : Option Int := (S_l6Realm k a0).bind fun r7 => cond (!r7) (some 0) ((S_l6Realm k a1).bind fun r8 => cond (!r8) (some 0) (some (IntKind.i64.wrap ((IntKind.i64.wrap (31 + (IntKind.i64.wrap (3 * a0)))) + a1))))
theorem ent33 : MG.Enters Tryz.prog 33 := ⟨Tryz.f33, func33, rfl, by decide⟩
theorem g33 (k : Nat) (a0 a1 r : Int) (H : S_LinkKey k a0 a1 = some r) : Gives Tryz.prog 33 [V.one (cI a0), V.one (cI a1)] [] [V.one (cI r)] [] := by
 refine Gives.intro func33 rfl rfl rfl rfl ?_; refine fx fun w0 T S0 ob oh hm => ?_
 have hF := fxe w0 T S0 18 ob oh
 unfold S_LinkKey at H; obtain ⟨K, hK⟩ := leK k; refine sr ?_; refine ag (L.nil ?_); refine WpC.seq (sr ?_); refine mv ?_; obtain ⟨r7, hr7, H⟩ := bindS H; refine c0 2 ent83 (g83 k  a0 r7 hr7) ?_; refine nt ?_; refine mv ?_; refine sH H (fun hc H => ?_) (fun hc H => ?_)
 ·(repeat refine of ?_); refine pk (L.nil ?_); refine cT ?_; refine sr ?_; refine ag (L.nil ?_); cases H; exact WpC.ret rt
 ·refine mv ?_; obtain ⟨r8, hr8, H⟩ := bindS H; refine c0 3 ent83 (g83 k  a1 r8 hr8) ?_; refine nt ?_; refine pk (L.nil ?_); refine cd H (fun hc H => ?_) (fun hc H => ?_)
  ·refine sr ?_; refine ag (L.nil ?_); cases H; exact WpC.ret rt
  ·refine WpC.skip (sr ?_); refine mv ?_; refine bi ?_; refine bi ?_; refine mv ?_; refine bi ?_; refine ag (L.nil ?_); cases H; exact WpC.ret rt
/-! ### S_l4Rest -/
def S_l4Rest.j1 (k : Nat) (v5 : List UInt8) (v6 v7 v8 v9 v10 : Int) : Option (T_Rest × U_l1Cur) := (S_l1Once k 3 (⟨v5, v6, v7⟩ : U_l1Cur)).bind fun r12 => cond r12.1 (some ((⟨v8, 255, v10⟩ : T_Rest), r12.2)) (some ((⟨v8, v9, v10⟩ : T_Rest), r12.2))
def S_l4Rest (k : Nat) (o0 : U_l1Cur) : Option (T_Rest × U_l1Cur) := (S_l1Below k 8 o0).bind fun r1 => (S_l1Below k 256 r1.2).bind fun r2 => (S_l1Below k 90 r2.2).bind fun r3 => (S_l1Once k 3 r3.2).bind fun r13 => cond r13.1 (S_l4Rest.j1 k r13.2.b r13.2.i r13.2.h 7 r2.1 r3.1) (S_l4Rest.j1 k r13.2.b r13.2.i r13.2.h r1.1 r2.1 r3.1)
theorem ent130 : MG.Enters Tryz.prog 130 := ⟨Tryz.f130, func130, rfl, by decide⟩
theorem g130 (k : Nat) (o0 : U_l1Cur) (r : T_Rest × U_l1Cur) (H : S_l4Rest k o0 = some r) : Gives Tryz.prog 130 [V.one (Cell.ptr 0 0)] [[Cell.sl true (List.map eB o0.b), cI o0.i, cI o0.h]] [V.agg (bT_Rest r.1)] [[Cell.sl true (List.map eB r.2.b), cI r.2.i, cI r.2.h]] := by
 refine Gives.intro func130 rfl rfl rfl rfl ?_; refine fx fun w0 T S0 ob oh hm => ?_
 have hF := fxe w0 T S0 18 ob oh
 unfold S_l4Rest at H; obtain ⟨K, hK⟩ := leK k; refine sr ?_; refine alc 5 info37 (L.nil ?_); refine sr ?_; refine mv ?_; obtain ⟨r1, hr1, H⟩ := bindS H; refine ca [false, false] [] [0] 6 ent71 (g71 k  8 o0 r1 hr1) ?_; refine mv ?_; obtain ⟨r2, hr2, H⟩ := bindS H; refine ca [false, false] [] [0] 10 ent71 (g71 k  256 r1.2 r2 hr2) ?_; refine mv ?_; obtain ⟨r3, hr3, H⟩ := bindS H; refine ca [false, false] [] [0] 14 ent71 (g71 k  90 r2.2 r3 hr3) ?_; refine bf built37 ?_; refine alc 18 info37 ?_; refine sp shape37 (L.nil ?_); refine WpC.join (fun σ => ∃ (kj1 : Nat) (v5 : List UInt8) (v6 v7 v8 v9 v10 : Int), kj1 ≤ K ∧ S_l4Rest.j1 kj1 v5 v6 v7 v8 v9 v10 = some r ∧ σ = mkSt [(0, oP 0 0), (2, oP 1 0), (3, oP 2 0)] [] [(0, [Cell.sl true (List.map eB v5), cI v6, cI v7]), (1, [cI 0, cI 0, cI 0]), (2, [cI v8, cI v9, cI v10])] 3) ?_ ?_
 ·rintro _ ⟨kj1, v5, v6, v7, v8, v9, v10, hkj1, H, rfl⟩
  unfold S_l4Rest.j1 at H; refine WpC.seq (sr ?_); refine mv ?_; obtain ⟨r12, hr12, H⟩ := bindS H; refine ca [false, false] [] [0] 3 ent75 (g75 kj1  3 (⟨v5, v6, v7⟩ : U_l1Cur) r12 hr12) (L.nil ?_); refine cd H (fun hc H => ?_) (fun hc H => ?_)
  ·refine WpC.regionL ?_; refine fa underlying37 info3 ?_; refine sp shape3 (L.nil ?_); refine sr ?_; refine lp shape37 ?_; refine sp shape37 (L.nil ?_); cases H; exact WpC.ret rt
  ·refine WpC.skip (sr ?_); refine lp shape37 ?_; refine sp shape37 (L.nil ?_); cases H; exact WpC.ret rt
 ·refine sr ?_; refine mv ?_; obtain ⟨r13, hr13, H⟩ := bindS H; refine ca [false, false] [] [0] 19 ent75 (g75 k  3 r3.2 r13 hr13) (L.nil ?_); refine cd H (fun hc H => ?_) (fun hc H => ?_)
  ·refine WpC.regionL ?_; refine fa underlying37 info3 ?_; refine sp shape3 (L.nil ?_); exact ⟨_, ⟨k, r13.2.b, r13.2.i, r13.2.h, 7, r2.1, r3.1, by omega, H, rfl⟩, lm [(0, 0), (1, 5), (2, 18)] hm⟩
  ·refine WpC.skip ?_; exact ⟨_, ⟨k, r13.2.b, r13.2.i, r13.2.h, r1.1, r2.1, r3.1, by omega, H, rfl⟩, lm [(0, 0), (1, 5), (2, 18)] hm⟩
/-! ### S_l5AuthOk -/
def S_l5AuthOk (k : Nat) (a0 : T_Auth) : Option Bool := (S_l5Principal k a0.Client).bind fun r4 => cond r4 ((S_l1In k a0.Time 0 100000).bind fun r5 => cond r5 ((S_l1In k a0.Seq 0 1000000).bind fun r6 => some r6) (some false)) (some false)
theorem ent79 : MG.Enters Tryz.prog 79 := ⟨Tryz.f79, func79, rfl, by decide⟩
theorem g79 (k : Nat) (a0 : T_Auth) (r : Bool) (H : S_l5AuthOk k a0 = some r) : Gives Tryz.prog 79 [V.agg (bT_Auth a0)] [] [V.one (cL r)] [] := by
 refine Gives.intro func79 rfl rfl rfl rfl ?_; refine fx fun w0 T S0 ob oh hm => ?_
 have hF := fxe w0 T S0 16 ob oh
 unfold S_l5AuthOk at H; obtain ⟨K, hK⟩ := leK k; refine sr ?_; refine bo 3 ?_; refine ag (L.nil ?_); refine sr ?_; refine fa underlying35 info3 ?_; refine lp shape3 ?_; obtain ⟨r4, hr4, H⟩ := bindS H; refine c0 4 ent101 (g101 k  a0.Client r4 hr4) ?_; refine mv ?_; refine sH H (fun hc H => ?_) (fun hc H => ?_)
 ·refine fa underlying35 info3 ?_; refine lp shape3 ?_; obtain ⟨r5, hr5, H⟩ := bindS H; refine c0 5 ent43 (g43 k  a0.Time 0 100000 r5 hr5) ?_; refine pk ?_; refine mv ?_; refine sH H (fun hc H => ?_) (fun hc H => ?_)
  ·refine fa underlying35 info3 ?_; refine lp shape3 ?_; obtain ⟨r6, hr6, H⟩ := bindS H; refine c0 6 ent43 (g43 k  a0.Seq 0 1000000 r6 hr6) ?_; refine pk ?_; refine ag (L.nil ?_); cases H; exact WpC.ret rt
  ·(repeat refine of ?_); refine pk ?_; refine ag (L.nil ?_); cases H; exact WpC.ret rt
 ·(repeat refine of ?_); refine pk ?_; refine mv ?_; (repeat refine of ?_); refine pk ?_; refine ag (L.nil ?_); cases H; exact WpC.ret rt
/-! ### S_ShowAuth -/
def S_ShowAuth (k : Nat) (a0 : T_Auth) (a1 : Int) : Option (List UInt8) := (S_l5AuthOk k a0).bind fun r2 => cond (!r2) (some ([] : List UInt8)) ((S_Nums k ([7, a0.Client, a0.Time, a0.Seq] : List Int)).bind fun r3 => (S_Seal k a1 r3).bind fun r4 => some r4)
theorem ent135 : MG.Enters Tryz.prog 135 := ⟨Tryz.f135, func135, rfl, by decide⟩
theorem g135 (k : Nat) (a0 : T_Auth) (a1 : Int) (r : List UInt8) (H : S_ShowAuth k a0 a1 = some r) : Gives Tryz.prog 135 [V.agg (bT_Auth a0), V.one (cI a1)] [] [V.one (cS r)] [] := by
 refine Gives.intro func135 rfl rfl rfl rfl ?_; refine fx fun w0 T S0 ob oh hm => ?_
 have hF := fxe w0 T S0 18 ob oh
 unfold S_ShowAuth at H; obtain ⟨K, hK⟩ := leK k; refine sr ?_; refine bo 4 ?_; refine ag (L.nil ?_); refine WpC.seq (sr ?_); refine lp shape35 ?_; obtain ⟨r2, hr2, H⟩ := bindS H; refine c0 5 ent79 (g79 k  a0 r2 hr2) ?_; refine nt (L.nil ?_); refine cd H (fun hc H => ?_) (fun hc H => ?_)
 ·refine sr ?_; refine ag (L.nil ?_); cases H; exact WpC.ret rt
 ·refine WpC.skip (sr ?_); refine mv ?_; refine fa underlying35 info3 ?_; refine lp shape3 ?_; refine fa underlying35 info3 ?_; refine lp shape3 ?_; refine fa underlying35 info3 ?_; refine lp shape3 ?_; refine L.buildSlice (e := eI) 6 ([7, a0.Client, a0.Time, a0.Seq] : List Int) underlying22 info3 rfl rfl rfl hF rfl rfl rfl rfl rfl rfl rfl rfl ?_; obtain ⟨r3, hr3, H⟩ := bindS H; refine ca [false] [6] [] 7 ent134 (g134 k false ([7, a0.Client, a0.Time, a0.Seq] : List Int) r3 hr3) ?_; obtain ⟨r4, hr4, H⟩ := bindS H; refine c0 8 ent136 (g136 k  a1 r3 r4 hr4) ?_; refine ag (L.nil ?_); cases H; exact WpC.ret rt
/-! ### S_AskReq -/
def S_AskReq.j1 (k : Nat) (v2 : List UInt8) (v3 v4 v5 : Int) (v6 : List UInt8) (v7 : T_Auth) (v8 : T_Rest) : Option (List UInt8) := (S_Nums k ([2, v4, v5] : List Int)).bind fun r9 => (S_ShowAuth k v7 v3).bind fun r10 => (S_ShowRest k v8).bind fun r11 => (S_List k ([r9, v2, r10, r11, v6] : List (List UInt8))).bind fun r12 => some r12
def S_AskReq (k : Nat) (a0 : List UInt8) (a1 : Int) (a2 : T_Auth) (a3 : Int) (a4 : T_Rest) (a5 : Int) (a6 : List UInt8) : Option (List UInt8) := cond (a6 == ([] : List UInt8)) ((S_Atom k ([] : List UInt8)).bind fun r13 => S_AskReq.j1 k a0 a1 a3 a5 r13 a2 a4) (S_AskReq.j1 k a0 a1 a3 a5 a6 a2 a4)
theorem ent165 : MG.Enters Tryz.prog 165 := ⟨Tryz.f165, func165, rfl, by decide⟩
theorem g165 (k : Nat) (a0 : List UInt8) (a1 : Int) (a2 : T_Auth) (a3 : Int) (a4 : T_Rest) (a5 : Int) (a6 r : List UInt8) (H : S_AskReq k a0 a1 a2 a3 a4 a5 a6 = some r) : Gives Tryz.prog 165 [V.one (cS a0), V.one (cI a1), V.agg (bT_Auth a2), V.one (cI a3), V.agg (bT_Rest a4), V.one (cI a5), V.one (cS a6)] [] [V.one (cS r)] [] := by
 refine Gives.intro func165 rfl rfl rfl rfl ?_; refine fx fun w0 T S0 ob oh hm => ?_
 have hF := fxe w0 T S0 31 ob oh
 unfold S_AskReq at H; obtain ⟨K, hK⟩ := leK k; refine sr ?_; refine bo 11 ?_; refine bo 12 ?_; refine ag (L.nil ?_); refine WpC.join (fun σ => ∃ (kj1 : Nat) (v2 : List UInt8) (v3 v4 v5 : Int) (v6 : List UInt8) (v7 : T_Auth) (v8 : T_Rest), kj1 ≤ K ∧ S_AskReq.j1 kj1 v2 v3 v4 v5 v6 v7 v8 = some r ∧ σ = mkSt [(0, oS v2), (1, oI v3), (3, oI v4), (5, oI v5), (6, oS v6), (9, oP 0 0), (11, oP 1 0)] [] [(0, (bT_Auth v7)), (1, (bT_Rest v8))] 2) ?_ ?_
 ·rintro _ ⟨kj1, v2, v3, v4, v5, v6, v7, v8, hkj1, H, rfl⟩
  unfold S_AskReq.j1 at H; refine WpC.seq ?_; obtain ⟨r9, hr9, H⟩ := bindS H; obtain ⟨r10, hr10, H⟩ := bindS H; obtain ⟨r11, hr11, H⟩ := bindS H; obtain ⟨r12, hr12, H⟩ := bindS H
  refine A.lin (fun β => mkStL [(0, ai (one (cS v2))), (1, iI v3), (3, iI v4), (5, iI v5), (6, ai (one (cS v6))), (9, iP 0 0), (11, iP 1 0), (14, al (β 13) (one (cS r12))), (18, lI (β 0) v4), (19, lI (β 1) v5), (20, al (β 2) (one (Cell.own 2))), (21, al (β 3) (one (cS r9))), (22, al (β 4) (one (cS v2))), (23, al (β 5) (agg (bT_Auth v7))), (24, lI (β 6) v3), (25, al (β 7) (one (cS r10))), (26, al (β 8) (agg (bT_Rest v8))), (27, al (β 9) (one (cS r11))), (28, al (β 10) (one (cS v6))), (29, al (β 11) (one (Cell.own 6))), (30, al (β 12) (one (cS r12)))] [(2, al (β 2) (⟨1, List.map eI ([2, v4, v5] : List Int)⟩)), (6, al (β 11) (⟨1, List.map eS ([r9, v2, r10, r11, v6] : List (List UInt8))⟩))] [(0, ai ((bT_Auth v7))), (1, ai ((bT_Rest v8)))] 8) [([], [2, 3, 7, 9, 11, 12, 13]), ([], [2, 3, 7, 9, 11, 12, 13]), ([0, 1], [3, 7, 9, 11, 12, 13]), ([0, 1, 2], [7, 9, 11, 12, 13]), ([], [11, 12, 13]), ([], [7, 9, 11, 12, 13]), ([], [7, 9, 11, 12, 13]), ([0, 1, 2, 3, 5, 6], [9, 11, 12, 13]), ([], [9, 11, 12, 13]), ([0, 1, 2, 3, 5, 6, 7, 8], [11, 12, 13]), ([], [11, 12, 13]), ([0, 1, 2, 3, 4, 5, 6, 7, 8, 9, 10], [12, 13]), ([0, 1, 2, 3, 4, 5, 6, 7, 8, 9, 10, 11], [13]), ([0, 1, 2, 3, 4, 5, 6, 7, 8, 9, 10, 11, 12], [])] 14 mixed rfl (by kernel_rfl) ?_ ?_ ?_
  ·exact Le.lin [] hm rfl (sa (sa2 (sa4 (kn2 (kn4 (kn8 kz)))))) (kn2 kz) (ba (ba kz))
  ·repeat' (first | exact trivial | refine ⟨⟨_, rfl, fun β => ?_⟩, ?_⟩ | fail)
   ·refine mv ?_; exact lx [] hm
   ·refine mv ?_; exact lx [] hm
   ·refine L.buildSlice (e := eI) 8 ([2, v4, v5] : List Int) underlying22 info3 rfl rfl rfl hF rfl rfl rfl rfl rfl rfl rfl rfl ?_; exact lx [(2, 8)] hm
   ·refine ca [false] [2] [] 8 ent134 (g134 kj1 false ([2, v4, v5] : List Int) r9 hr9) ?_; exact lx [(3, 8)] hm
   ·refine mv ?_; exact lx [] hm
   ·refine lp shape35 ?_; exact lx [] hm
   ·refine mv ?_; exact lx [] hm
   ·refine c0 8 ent135 (g135 kj1  v7 v3 r10 hr10) ?_; exact lx [(4, 8)] hm
   ·refine lp shape37 ?_; exact lx [] hm
   ·refine c0 8 ent138 (g138 kj1  v8 r11 hr11) ?_; exact lx [(5, 8)] hm
   ·refine mv ?_; exact lx [] hm
   ·refine L.buildSlice (e := eS) 8 ([r9, v2, r10, r11, v6] : List (List UInt8)) underlying70 info9 rfl rfl rfl hF rfl rfl rfl rfl rfl rfl rfl rfl ?_; exact lx [(6, 8)] hm
   ·refine ca [false] [6] [] 8 ent133 (g133 kj1 false ([r9, v2, r10, r11, v6] : List (List UInt8)) r12 hr12) ?_; exact lx [(7, 8)] hm
   ·refine ag ?_; exact lx [] hm
  refine ⟨_, (lm [] hm : Le _ _ (mkSt [(14, oS r12)] [] [] 0)), ?_⟩; cases H; exact WpC.ret rt
 ·refine sr ?_; refine mv ?_; refine L.binS hF rfl rfl rfl rfl rfl (L.nil ?_); refine cd H (fun hc H => ?_) (fun hc H => ?_)
  ·refine WpC.regionL ?_; obtain ⟨r13, hr13, H⟩ := bindS H; refine c0 13 ent145 (g145 k  ([] : List UInt8) r13 hr13) ?_; refine ag (L.nil ?_); exact ⟨_, ⟨k, a0, a1, a3, a5, r13, a2, a4, by omega, H, rfl⟩, lm [(0, 11), (1, 12)] hm⟩
  ·refine WpC.skip ?_; exact ⟨_, ⟨k, a0, a1, a3, a5, a6, a2, a4, by omega, H, rfl⟩, lm [(0, 11), (1, 12)] hm⟩
/-! ### S_l8Req -/
def S_l8Req.j19 (cl17 : Int → Int → Int → Int → (List UInt8) → Int → Int → T_Config → Option (List UInt8 × U_l1Cur)) (k : Nat) (v225 v226 v227 v228 : Int) (v229 : List UInt8) (v230 v231 : Int) (v232 : T_Config) : Option (List UInt8 × U_l1Cur) := cl17 v225 v226 v227 (IntKind.i64.wrap (v228 + 1)) v229 v230 v231 v232
def S_l8Req.j20 (cl17 : Int → Int → Int → Int → (List UInt8) → Int → Int → T_Config → Option (List UInt8 × U_l1Cur)) (k : Nat) (v235 v236 v237 v238 : Int) (v239 : Bool) (v240 : List UInt8) (v241 v242 : Int) (v243 : T_Config) : Option (List UInt8 × U_l1Cur) := cond v239 (S_l8Req.j19 cl17 k v235 v236 (Int.tmod (IntKind.i64.wrap (v237 + 1)) 6) v238 v240 v241 v242 v243) (S_l8Req.j19 cl17 k v235 v236 v237 v238 v240 v241 v242 v243)
def S_l8Req.j24 (k : Nat) (v291 v292 v293 : Int) (v294 v295 v296 : List UInt8) (v297 v298 : Int) : Option (List UInt8 × U_l1Cur) := (S_l1Below k 3 (⟨v296, v297, v298⟩ : U_l1Cur)).bind fun r299 => (S_l4Rest k r299.2).bind fun r300 => (S_l1Below k 5 r300.2).bind fun r301 => (S_AskReq k v294 v293 (⟨v291, v292, 1⟩ : T_Auth) r299.1 r300.1 (IntKind.i64.wrap (200 + r301.1)) v295).bind fun r302 => some (r302, r301.2)
def S_l8Req.j25 (k : Nat) (v304 v305 v306 : Int) (v307 : List UInt8) (v308 : Bool) (v309 : List UInt8) (v310 v311 : Int) : Option (List UInt8 × U_l1Cur) := cond v308 ((S_l1Below k 3 (⟨v309, v310, v311⟩ : U_l1Cur)).bind fun r312 => (S_l4Rest k r312.2).bind fun r313 => (S_l1Below k 3 r313.2).bind fun r314 => (S_PrincipalKey k v304).bind fun r315 => (S_ShowTicket k (⟨r312.1, (IntKind.i64.wrap (v304 - 3)), 105, r313.1, [], ([r314.1] : List Int)⟩ : T_Ticket) r315).bind fun r316 => S_l8Req.j24 k v304 v305 v306 v307 r316 r314.2.b r314.2.i r314.2.h) (S_l8Req.j24 k v304 v305 v306 v307 ([] : List UInt8) v309 v310 v311)
def S_l8Req.j22 (k : Nat) (v269 v270 v271 : Int) (v272 v273 : List UInt8) (v274 v275 : Int) : Option (List UInt8 × U_l1Cur) := cond (decide (v269 ≥ 3)) ((S_l1Once k 2 (⟨v273, v274, v275⟩ : U_l1Cur)).bind fun r317 => S_l8Req.j25 k v269 v270 v271 v272 r317.1 r317.2.b r317.2.i r317.2.h) (S_l8Req.j25 k v269 v270 v271 v272 false v273 v274 v275)
def S_l8Req.j21 (k : Nat) (v247 v248 v249 v250 : Int) (v251 : List UInt8) (v252 v253 : Int) (v254 : T_Config) : Option (List UInt8 × U_l1Cur) := (S_l1Once k 3 (⟨v251, v252, v253⟩ : U_l1Cur)).bind fun r258 => cond r258.1 ((S_l1Below k 5 r258.2).bind fun r259 => (S_LoginReq k v249 v250 (IntKind.i64.wrap (200 + r259.1))).bind fun r260 => some (r260, r259.2)) ((S_l1Below k 3 r258.2).bind fun r261 => (S_l1PickInt k ([40, 40, 1, (-1), 0] : List Int) r261.2).bind fun r262 => (S_l8Own k v254 v249 (IntKind.i64.wrap (101 + r261.1)) (IntKind.i64.wrap (v248 + r262.1))).bind fun r263 => (S_l1Once k 3 r262.2).bind fun r318 => cond r318.1 ((S_l1Below k 3 r318.2).bind fun r319 => (S_l1Below k 256 r319.2).bind fun r320 => (S_LinkKey k r319.1 v247).bind fun r321 => (S_ShowTicket k (⟨v249, (IntKind.i64.wrap (10 + v247)), (IntKind.i64.wrap (101 + r261.1)), (⟨7, r320.1, (IntKind.i64.wrap (v248 + 30))⟩ : T_Rest), ([r319.1] : List Int), []⟩ : T_Ticket) r321).bind fun r322 => S_l8Req.j22 k v249 v250 (IntKind.i64.wrap (101 + r261.1)) r322 r320.2.b r320.2.i r320.2.h) (S_l8Req.j22 k v249 v250 (IntKind.i64.wrap (101 + r261.1)) r263 r318.2.b r318.2.i r318.2.h))
def S_l8Req.l17 : Nat → Int → Int → Int → Int → (List UInt8) → Int → Int → T_Config → Option (List UInt8 × U_l1Cur)
 | 0, _, _, _, _, _, _, _, _ => none
 | k17 + 1, v204, v205, v206, v207, v208, v209, v210, v211 => cond (decide (v207 < 6)) ((S_RealmOf k17 v211 v206).bind fun r244 => cond (r244 != v204) ((S_l1Once k17 8 (⟨v208, v209, v210⟩ : U_l1Cur)).bind fun r245 => S_l8Req.j20 (S_l8Req.l17 k17) k17 v204 v205 v206 v207 (!r245.1) r245.2.b r245.2.i r245.2.h v211) (S_l8Req.j20 (S_l8Req.l17 k17) k17 v204 v205 v206 v207 false v208 v209 v210 v211)) ((S_l1Below k17 3 (⟨v208, v209, v210⟩ : U_l1Cur)).bind fun r246 => cond (decide ((IntKind.i64.wrap ((IntKind.i64.wrap (v205 + r246.1)) - 1)) < 0)) (S_l8Req.j21 k17 v204 v205 v206 0 r246.2.b r246.2.i r246.2.h v211) (S_l8Req.j21 k17 v204 v205 v206 (IntKind.i64.wrap ((IntKind.i64.wrap (v205 + r246.1)) - 1)) r246.2.b r246.2.i r246.2.h v211))
def S_l8Req (k : Nat) (a1 : T_Config) (a2 a3 : Int) (o0 : U_l1Cur) : Option (List UInt8 × U_l1Cur) := (S_l1Below k 6 o0).bind fun r1 => S_l8Req.l17 k a2 a3 r1.1 0 r1.2.b r1.2.i r1.2.h a1
theorem ent97 : MG.Enters Tryz.prog 97 := ⟨Tryz.f97, func97, rfl, by decide⟩
theorem g97 (k : Nat) (g0 g1 g2 g3 : Bool) (a1 : T_Config) (a2 a3 : Int) (o0 : U_l1Cur) (r : List UInt8 × U_l1Cur) (H : S_l8Req k a1 a2 a3 o0 = some r) : Gives Tryz.prog 97 [V.one (Cell.ptr 0 0), V.agg (bT_Config g0 g1 g2 g3 a1), V.one (cI a2), V.one (cI a3)] [[Cell.sl true (List.map eB o0.b), cI o0.i, cI o0.h]] [V.one (cS r.1)] [[Cell.sl true (List.map eB r.2.b), cI r.2.i, cI r.2.h]] := by
 refine Gives.intro func97 rfl rfl rfl rfl ?_; refine fx fun w0 T S0 ob oh hm => ?_
 have hF := fxe w0 T S0 115 ob oh
 unfold S_l8Req at H; obtain ⟨K, hK⟩ := leK k; refine sr ?_; refine bo 12 ?_; refine ag (L.nil ?_); refine sr ?_; refine mv ?_; obtain ⟨r1, hr1, H⟩ := bindS H; refine ca [false, false] [] [0] 13 ent71 (g71 k  6 o0 r1 hr1) ?_; refine ag (L.nil ?_); refine WpC.seq (sr ?_); refine ag (L.nil ?_); refine WpC.block ?_; refine WpC.loopL (P := Tryz.prog) (fun n σ => ∃ (v204 v205 v206 v207 : Int) (v208 : List UInt8) (v209 v210 : Int) (v211 : T_Config), n ≤ K ∧ S_l8Req.l17 n v204 v205 v206 v207 v208 v209 v210 v211 = some r ∧ σ = mkSt [(0, oP 0 0), (2, oI v204), (3, oI v205), (5, oP 1 0), (9, oI v206), (10, oI v207)] [] [(0, [Cell.sl true (List.map eB v208), cI v209, cI v210]), (1, (bT_Config g0 g1 g2 g3 v211))] 2) k ⟨_, ⟨a2, a3, r1.1, 0, r1.2.b, r1.2.i, r1.2.h, a1, by omega, H, rfl⟩, lm [(0, 0), (1, 12)] hm⟩ ?_; clear H
 rintro k17 _ ⟨v204, v205, v206, v207, v208, v209, v210, v211, hk17, H, rfl⟩
 cases k17 with
 | zero => cases H
 | succ k17 =>
  rw [S_l8Req.l17] at H
  refine WpC.seq (sr ?_); refine mv ?_; refine bi (L.nil ?_); refine cd H (fun hc H => ?_) (fun hc H => ?_)
  ·refine WpC.skip ?_; refine WpC.join (fun σ => ∃ (kj19 : Nat) (v225 v226 v227 v228 : Int) (v229 : List UInt8) (v230 v231 : Int) (v232 : T_Config), kj19 ≤ K ∧ S_l8Req.j19 (S_l8Req.l17 k17) kj19 v225 v226 v227 v228 v229 v230 v231 v232 = some r ∧ σ = mkSt [(0, oP 0 0), (2, oI v225), (3, oI v226), (5, oP 1 0), (9, oI v227), (10, oI v228)] [] [(0, [Cell.sl true (List.map eB v229), cI v230, cI v231]), (1, (bT_Config g0 g1 g2 g3 v232))] 2) ?_ ?_
   ·rintro _ ⟨kj19, v225, v226, v227, v228, v229, v230, v231, v232, hkj19, H, rfl⟩
    unfold S_l8Req.j19 at H; refine WpC.regionL ?_; refine mv ?_; refine bi ?_; refine ag (L.nil ?_); exact ⟨k17, _, by omega, ⟨v225, v226, v227, (IntKind.i64.wrap (v228 + 1)), v229, v230, v231, v232, by omega, H, rfl⟩, lm [(0, 0), (1, 1)] hm⟩
   ·refine WpC.block ?_; refine WpC.join (fun σ => ∃ (kj20 : Nat) (v235 v236 v237 v238 : Int) (v239 : Bool) (v240 : List UInt8) (v241 v242 : Int) (v243 : T_Config), kj20 ≤ K ∧ S_l8Req.j20 (S_l8Req.l17 k17) kj20 v235 v236 v237 v238 v239 v240 v241 v242 v243 = some r ∧ σ = mkSt [(0, oP 0 0), (2, oI v235), (3, oI v236), (5, oP 1 0), (9, oI v237), (10, oI v238), (31, oL v239)] [] [(0, [Cell.sl true (List.map eB v240), cI v241, cI v242]), (1, (bT_Config g0 g1 g2 g3 v243))] 2) ?_ ?_
    ·rintro _ ⟨kj20, v235, v236, v237, v238, v239, v240, v241, v242, v243, hkj20, H, rfl⟩
     unfold S_l8Req.j20 at H; refine cd H (fun hc H => ?_) (fun hc H => ?_)
     ·refine WpC.regionL ?_; refine mv ?_; refine bi ?_; refine L.rem hF rfl rfl rfl rfl (by decide) ?_; refine ag (L.nil ?_); exact ⟨_, ⟨kj20, v235, v236, (Int.tmod (IntKind.i64.wrap (v237 + 1)) 6), v238, v240, v241, v242, v243, by omega, H, rfl⟩, lm [(0, 0), (1, 1)] hm⟩
     ·refine WpC.skip ?_; exact ⟨_, ⟨kj20, v235, v236, v237, v238, v240, v241, v242, v243, by omega, H, rfl⟩, lm [(0, 0), (1, 1)] hm⟩
    ·refine WpC.regionL ?_; refine lp shape44 ?_; refine mv ?_; obtain ⟨r244, hr244, H⟩ := bindS H; refine c0 2 ent140 (g140 k17 g0 g1 g2 g3 v211 v206 r244 hr244) ?_; refine mv ?_; refine bi ?_; refine mv ?_; refine sH H (fun hc H => ?_) (fun hc H => ?_)
     ·refine mv ?_; obtain ⟨r245, hr245, H⟩ := bindS H; refine ca [false, false] [] [0] 3 ent75 (g75 k17  8 (⟨v208, v209, v210⟩ : U_l1Cur) r245 hr245) ?_; refine nt ?_; refine pk (L.nil ?_); exact ⟨_, ⟨k17, v204, v205, v206, v207, (!r245.1), r245.2.b, r245.2.i, r245.2.h, v211, by omega, H, rfl⟩, lm [(0, 0), (1, 1)] hm⟩
     ·(repeat refine of ?_); refine pk (L.nil ?_); exact ⟨_, ⟨k17, v204, v205, v206, v207, false, v208, v209, v210, v211, by omega, H, rfl⟩, lm [(0, 0), (1, 1)] hm⟩
  ·refine WpC.exit (sr ?_); refine mv ?_; refine mv ?_; obtain ⟨r246, hr246, H⟩ := bindS H; refine ca [false, false] [] [0] 2 ent71 (g71 k17  3 (⟨v208, v209, v210⟩ : U_l1Cur) r246 hr246) ?_; refine bi ?_; refine bi ?_; refine ag (L.nil ?_); refine WpC.join (fun σ => ∃ (kj21 : Nat) (v247 v248 v249 v250 : Int) (v251 : List UInt8) (v252 v253 : Int) (v254 : T_Config), kj21 ≤ K ∧ S_l8Req.j21 kj21 v247 v248 v249 v250 v251 v252 v253 v254 = some r ∧ σ = mkSt [(0, oP 0 0), (2, oI v247), (3, oI v248), (5, oP 1 0), (9, oI v249), (11, oI v250)] [] [(0, [Cell.sl true (List.map eB v251), cI v252, cI v253]), (1, (bT_Config g0 g1 g2 g3 v254))] 2) ?_ ?_
   ·rintro _ ⟨kj21, v247, v248, v249, v250, v251, v252, v253, v254, hkj21, H, rfl⟩
    unfold S_l8Req.j21 at H; refine WpC.seq (sr ?_); refine mv ?_; obtain ⟨r258, hr258, H⟩ := bindS H; refine ca [false, false] [] [0] 2 ent75 (g75 kj21  3 (⟨v251, v252, v253⟩ : U_l1Cur) r258 hr258) (L.nil ?_); refine cd H (fun hc H => ?_) (fun hc H => ?_)
    ·refine sr ?_; refine mv ?_; refine mv ?_; refine mv ?_; obtain ⟨r259, hr259, H⟩ := bindS H; refine ca [false, false] [] [0] 6 ent71 (g71 kj21  5 r258.2 r259 hr259) ?_; refine bi ?_; obtain ⟨r260, hr260, H⟩ := bindS H; refine c0 10 ent163 (g163 kj21  v249 v250 (IntKind.i64.wrap (200 + r259.1)) r260 hr260) ?_; refine ag (L.nil ?_); cases H; exact WpC.ret rt
    ·refine WpC.skip (sr ?_); refine mv ?_; obtain ⟨r261, hr261, H⟩ := bindS H; refine ca [false, false] [] [0] 6 ent71 (g71 kj21  3 r258.2 r261 hr261) ?_; refine bi ?_; refine ag (L.nil ?_); refine WpC.seq ?_; obtain ⟨r262, hr262, H⟩ := bindS H; obtain ⟨r263, hr263, H⟩ := bindS H
     refine A.lin (fun β => mkStL [(0, iP 0 0), (2, iI v247), (3, iI v248), (5, iP 1 0), (9, iI v249), (11, iI v250), (12, ai (one (cI (IntKind.i64.wrap (101 + r261.1))))), (13, al (β 9) (one (cS r263))), (53, al (β 0) (agg (bT_Config g0 g1 g2 g3 v254))), (54, lI (β 1) v249), (55, al (β 2) (one (cI (IntKind.i64.wrap (101 + r261.1))))), (56, lI (β 3) v248), (57, lP (β 4) 0 0), (58, al (β 5) (one (Cell.own 10))), (59, al (β 6) (one (cI r262.1))), (60, al (β 7) (one (cI (IntKind.i64.wrap (v248 + r262.1))))), (61, al (β 8) (one (cS r263)))] [(10, al (β 5) (⟨1, List.map eI ([40, 40, 1, (-1), 0] : List Int)⟩))] [(0, [(β 6, some ((bU_l1Cur true r262.2))), (true, some ((bU_l1Cur true r261.2)))]), (1, ai ((bT_Config g0 g1 g2 g3 v254)))] 16) [([], [8, 9]), ([], [8, 9]), ([], [8, 9]), ([], [7, 8, 9]), ([], [6, 7, 8, 9]), ([], [6, 7, 8, 9]), ([4, 5], [7, 8, 9]), ([3, 4, 5, 6], [8, 9]), ([0, 1, 2, 3, 4, 5, 6, 7], [9]), ([0, 1, 2, 3, 4, 5, 6, 7, 8], [])] 10 mixed rfl (by kernel_rfl) ?_ ?_ ?_
     ·exact Le.lin [] hm rfl (sa (sa2 (sa4 (kn2 (kn8 kz))))) (kn kz) (ba (ba kz))
     ·repeat' (first | exact trivial | refine ⟨⟨_, rfl, fun β => ?_⟩, ?_⟩ | fail)
      ·refine lp shape44 ?_; exact lx [] hm
      ·refine mv ?_; exact lx [] hm
      ·refine mv ?_; exact lx [] hm
      ·refine mv ?_; exact lx [] hm
      ·refine mv ?_; exact lx [] hm
      ·refine L.buildSlice (e := eI) 16 ([40, 40, 1, (-1), 0] : List Int) underlying22 info3 rfl rfl rfl hF rfl rfl rfl rfl rfl rfl rfl rfl ?_; exact lx [(10, 16)] hm
      ·refine ca [false, false] [10] [0] 16 ent96 (g96 kj21 false ([40, 40, 1, (-1), 0] : List Int) r261.2 r262 hr262) ?_; exact lx [(11, 16), (12, 17), (13, 18), (14, 19)] hm
      ·refine bi ?_; exact lx [] hm
      ·refine c0 16 ent164 (g164 kj21 g0 g1 g2 g3 v254 v249 (IntKind.i64.wrap (101 + r261.1)) (IntKind.i64.wrap (v248 + r262.1)) r263 hr263) ?_; exact lx [(15, 16)] hm
      ·refine ag ?_; exact lx [] hm
     refine ⟨_, (lm [(0, 0)] hm : Le _ _ (mkSt [(0, oP 0 0), (2, oI v247), (3, oI v248), (9, oI v249), (11, oI v250), (12, one (cI (IntKind.i64.wrap (101 + r261.1)))), (13, oS r263)] [] [(0, (bU_l1Cur true r262.2))] 1)), ?_⟩; refine WpC.join (fun σ => ∃ (kj22 : Nat) (v269 v270 v271 : Int) (v272 v273 : List UInt8) (v274 v275 : Int), kj22 ≤ K ∧ S_l8Req.j22 kj22 v269 v270 v271 v272 v273 v274 v275 = some r ∧ σ = mkSt [(0, oP 0 0), (9, oI v269), (11, oI v270), (12, oI v271), (13, oS v272)] [] [(0, [Cell.sl true (List.map eB v273), cI v274, cI v275])] 1) ?_ ?_
     ·rintro _ ⟨kj22, v269, v270, v271, v272, v273, v274, v275, hkj22, H, rfl⟩
      unfold S_l8Req.j22 at H; refine sr ?_; refine ag (L.nil ?_); refine WpC.join (fun σ => ∃ (kj24 : Nat) (v291 v292 v293 : Int) (v294 v295 v296 : List UInt8) (v297 v298 : Int), kj24 ≤ K ∧ S_l8Req.j24 kj24 v291 v292 v293 v294 v295 v296 v297 v298 = some r ∧ σ = mkSt [(0, oP 0 0), (9, oI v291), (11, oI v292), (12, oI v293), (13, oS v294), (15, oS v295)] [] [(0, [Cell.sl true (List.map eB v296), cI v297, cI v298])] 1) ?_ ?_
      ·rintro _ ⟨kj24, v291, v292, v293, v294, v295, v296, v297, v298, hkj24, H, rfl⟩
       unfold S_l8Req.j24 at H; refine sr ?_; refine mv ?_; refine mv ?_; refine mv ?_; refine mv ?_; refine bf built35 ?_; refine mv ?_; obtain ⟨r299, hr299, H⟩ := bindS H; refine ca [false, false] [] [0] 1 ent71 (g71 kj24  3 (⟨v296, v297, v298⟩ : U_l1Cur) r299 hr299) ?_; refine mv ?_; obtain ⟨r300, hr300, H⟩ := bindS H; refine ca [false] [] [0] 5 ent130 (g130 kj24  r299.2 r300 hr300) ?_; refine mv ?_; obtain ⟨r301, hr301, H⟩ := bindS H; refine ca [false, false] [] [0] 11 ent71 (g71 kj24  5 r300.2 r301 hr301) ?_; refine bi ?_; refine mv ?_; obtain ⟨r302, hr302, H⟩ := bindS H; refine c0 15 ent165 (g165 kj24  v294 v293 (⟨v291, v292, 1⟩ : T_Auth) r299.1 r300.1 (IntKind.i64.wrap (200 + r301.1)) v295 r302 hr302) ?_; refine ag (L.nil ?_); cases H; exact WpC.ret rt
      ·refine WpC.join (fun σ => ∃ (kj25 : Nat) (v304 v305 v306 : Int) (v307 : List UInt8) (v308 : Bool) (v309 : List UInt8) (v310 v311 : Int), kj25 ≤ K ∧ S_l8Req.j25 kj25 v304 v305 v306 v307 v308 v309 v310 v311 = some r ∧ σ = mkSt [(0, oP 0 0), (9, oI v304), (11, oI v305), (12, oI v306), (13, oS v307), (15, oS ([] : List UInt8)), (87, oL v308)] [] [(0, [Cell.sl true (List.map eB v309), cI v310, cI v311])] 1) ?_ ?_
       ·rintro _ ⟨kj25, v304, v305, v306, v307, v308, v309, v310, v311, hkj25, H, rfl⟩
        unfold S_l8Req.j25 at H; refine cd H (fun hc H => ?_) (fun hc H => ?_)
        ·refine WpC.regionL ?_; refine mv ?_; obtain ⟨r312, hr312, H⟩ := bindS H; refine ca [false, false] [] [0] 1 ent71 (g71 kj25  3 (⟨v309, v310, v311⟩ : U_l1Cur) r312 hr312) ?_; refine mv ?_; refine bi ?_; refine mv ?_; obtain ⟨r313, hr313, H⟩ := bindS H; refine ca [false] [] [0] 5 ent130 (g130 kj25  r312.2 r313 hr313) ?_; refine mv ?_; obtain ⟨r314, hr314, H⟩ := bindS H; refine ca [false, false] [] [0] 11 ent71 (g71 kj25  3 r313.2 r314 hr314) ?_; refine L.buildSlice (e := eI) 15 ([r314.1] : List Int) underlying22 info3 rfl rfl rfl hF rfl rfl rfl rfl rfl rfl rfl rfl ?_; refine bf built76 ?_; refine mv ?_; obtain ⟨r315, hr315, H⟩ := bindS H; refine c0 16 ent31 (g31 kj25  v304 r315 hr315) ?_; obtain ⟨r316, hr316, H⟩ := bindS H; refine ca [false, false] [15] [] 17 ent77 (g77 kj25 true false (⟨r312.1, (IntKind.i64.wrap (v304 - 3)), 105, r313.1, [], ([r314.1] : List Int)⟩ : T_Ticket) r315 r316 hr316) ?_; refine ag (L.nil ?_); exact ⟨_, ⟨kj25, v304, v305, v306, v307, r316, r314.2.b, r314.2.i, r314.2.h, by omega, H, rfl⟩, lm [(0, 0)] hm⟩
        ·refine WpC.skip ?_; exact ⟨_, ⟨kj25, v304, v305, v306, v307, ([] : List UInt8), v309, v310, v311, by omega, H, rfl⟩, lm [(0, 0)] hm⟩
       ·refine WpC.regionL ?_; refine mv ?_; refine bi ?_; refine mv ?_; refine sH H (fun hc H => ?_) (fun hc H => ?_)
        ·refine mv ?_; obtain ⟨r317, hr317, H⟩ := bindS H; refine ca [false, false] [] [0] 1 ent75 (g75 kj22  2 (⟨v273, v274, v275⟩ : U_l1Cur) r317 hr317) ?_; refine pk (L.nil ?_); exact ⟨_, ⟨kj22, v269, v270, v271, v272, r317.1, r317.2.b, r317.2.i, r317.2.h, by omega, H, rfl⟩, lm [(0, 0)] hm⟩
        ·(repeat refine of ?_); refine pk (L.nil ?_); exact ⟨_, ⟨kj22, v269, v270, v271, v272, false, v273, v274, v275, by omega, H, rfl⟩, lm [(0, 0)] hm⟩
     ·refine sr ?_; refine mv ?_; obtain ⟨r318, hr318, H⟩ := bindS H; refine ca [false, false] [] [0] 1 ent75 (g75 kj21  3 r262.2 r318 hr318) (L.nil ?_); refine cd H (fun hc H => ?_) (fun hc H => ?_)
      ·refine sr ?_; refine mv ?_; obtain ⟨r319, hr319, H⟩ := bindS H; refine ca [false, false] [] [0] 5 ent71 (g71 kj21  3 r318.2 r319 hr319) ?_; refine ag (L.nil ?_); refine WpC.regionL ?_; refine mv ?_; refine mv ?_; refine bi ?_; refine mv ?_; refine mv ?_; obtain ⟨r320, hr320, H⟩ := bindS H; refine ca [false, false] [] [0] 9 ent71 (g71 kj21  256 r319.2 r320 hr320) ?_; refine mv ?_; refine bi ?_; refine bf built37 ?_; refine mv ?_; refine L.buildSlice (e := eI) 13 ([r319.1] : List Int) underlying22 info3 rfl rfl rfl hF rfl rfl rfl rfl rfl rfl rfl rfl ?_; refine bf built76 ?_; refine mv ?_; refine mv ?_; obtain ⟨r321, hr321, H⟩ := bindS H; refine c0 14 ent33 (g33 kj21  r319.1 v247 r321 hr321) ?_; obtain ⟨r322, hr322, H⟩ := bindS H; refine ca [false, false] [13] [] 15 ent77 (g77 kj21 false true (⟨v249, (IntKind.i64.wrap (10 + v247)), (IntKind.i64.wrap (101 + r261.1)), (⟨7, r320.1, (IntKind.i64.wrap (v248 + 30))⟩ : T_Rest), ([r319.1] : List Int), []⟩ : T_Ticket) r321 r322 hr322) ?_; refine ag (L.nil ?_); exact ⟨_, ⟨kj21, v249, v250, (IntKind.i64.wrap (101 + r261.1)), r322, r320.2.b, r320.2.i, r320.2.h, by omega, H, rfl⟩, lm [(0, 0)] hm⟩
      ·refine WpC.skip ?_; exact ⟨_, ⟨kj21, v249, v250, (IntKind.i64.wrap (101 + r261.1)), r263, r318.2.b, r318.2.i, r318.2.h, by omega, H, rfl⟩, lm [(0, 0)] hm⟩
   ·refine sr ?_; refine mv ?_; refine bi (L.nil ?_); refine cd H (fun hc H => ?_) (fun hc H => ?_)
    ·refine WpC.regionL ?_; refine ag (L.nil ?_); exact ⟨_, ⟨k17, v204, v205, v206, 0, r246.2.b, r246.2.i, r246.2.h, v211, by omega, H, rfl⟩, lm [(0, 0), (1, 1)] hm⟩
    ·refine WpC.skip ?_; exact ⟨_, ⟨k17, v204, v205, v206, (IntKind.i64.wrap ((IntKind.i64.wrap (v205 + r246.1)) - 1)), r246.2.b, r246.2.i, r246.2.h, v211, by omega, H, rfl⟩, lm [(0, 0), (1, 1)] hm⟩
/-! ### S_l1Text -/
def S_l1Text.j26 (cl22 : (List UInt8) → Int → Int → (List UInt8) → Int → Int → Option (List UInt8 × U_l1Cur)) (k : Nat) (v214 : List UInt8) (v215 v216 v217 : Int) (v218 : List UInt8) (v219 v220 : Int) : Option (List UInt8 × U_l1Cur) := cond (decide ((2 * (v214.length + ([(ofI v217)] : List UInt8).length) + 192) * 1 ≤ 281474976710656)) (cl22 (v214 ++ ([(ofI v217)] : List UInt8)) v215 (IntKind.i64.wrap (v216 - 1)) v218 v219 v220) none
def S_l1Text.j25 (cl22 : (List UInt8) → Int → Int → (List UInt8) → Int → Int → Option (List UInt8 × U_l1Cur)) (k : Nat) (v207 : List UInt8) (v208 v209 v210 : Int) (v211 : List UInt8) (v212 v213 : Int) : Option (List UInt8 × U_l1Cur) := cond (v208 == 2) (S_l1Text.j26 cl22 k v207 v208 v209 (IntKind.i64.wrap (97 + (Int.tmod v210 4))) v211 v212 v213) (S_l1Text.j26 cl22 k v207 v208 v209 v210 v211 v212 v213)
def S_l1Text.l22 : Nat → (List UInt8) → Int → Int → (List UInt8) → Int → Int → Option (List UInt8 × U_l1Cur)
 | 0, _, _, _, _, _, _ => none
 | k22 + 1, v184, v185, v186, v187, v188, v189 => cond (decide (v186 > 0)) ((S_l1Byte k22 (⟨v187, v188, v189⟩ : U_l1Cur)).bind fun r206 => cond (v185 == 1) (S_l1Text.j25 (S_l1Text.l22 k22) k22 v184 v185 v186 (Int.tmod r206.1 2) r206.2.b r206.2.i r206.2.h) (S_l1Text.j25 (S_l1Text.l22 k22) k22 v184 v185 v186 r206.1 r206.2.b r206.2.i r206.2.h)) (some (v184, (⟨v187, v188, v189⟩ : U_l1Cur)))
def S_l1Text (k : Nat) (a1 : Int) (o0 : U_l1Cur) : Option (List UInt8 × U_l1Cur) := (S_l1Below k 4 o0).bind fun r1 => (S_l1Below k (IntKind.i64.wrap (a1 + 1)) r1.2).bind fun r112 => S_l1Text.l22 k ([] : List UInt8) r1.1 r112.1 r112.2.b r112.2.i r112.2.h
theorem ent178 : MG.Enters Tryz.prog 178 := ⟨Tryz.f178, func178, rfl, by decide⟩
theorem g178 (k : Nat) (a1 : Int) (o0 : U_l1Cur) (r : List UInt8 × U_l1Cur) (H : S_l1Text k a1 o0 = some r) : Gives Tryz.prog 178 [V.one (Cell.ptr 0 0), V.one (cI a1)] [[Cell.sl true (List.map eB o0.b), cI o0.i, cI o0.h]] [V.one (cS r.1)] [[Cell.sl true (List.map eB r.2.b), cI r.2.i, cI r.2.h]] := by
 refine Gives.intro func178 rfl rfl rfl rfl ?_; refine fx fun w0 T S0 ob oh hm => ?_
 have hF := fxe w0 T S0 38 ob oh
 unfold S_l1Text at H; obtain ⟨K, hK⟩ := leK k; refine sr ?_; refine ag (L.nil ?_); refine sr ?_; refine L.buildSlice (e := eB) 6 ([] : List UInt8) underlying54 info5 rfl rfl rfl hF rfl rfl rfl rfl rfl rfl rfl rfl ?_; refine ag (L.nil ?_); refine sr ?_; refine mv ?_; obtain ⟨r1, hr1, H⟩ := bindS H; refine ca [false, false] [] [0] 7 ent71 (g71 k  4 o0 r1 hr1) ?_; refine ag (L.nil ?_); refine WpC.seq (sr ?_); refine mv ?_; refine mv ?_; refine bi ?_; obtain ⟨r112, hr112, H⟩ := bindS H; refine ca [false, false] [] [0] 11 ent71 (g71 k  (IntKind.i64.wrap (a1 + 1)) r1.2 r112 hr112) ?_; refine ag (L.nil ?_); refine WpC.block ?_; refine WpC.loopL (P := Tryz.prog) (fun n σ => ∃ (v184 : List UInt8) (v185 v186 : Int) (v187 : List UInt8) (v188 v189 : Int), n ≤ K ∧ S_l1Text.l22 n v184 v185 v186 v187 v188 v189 = some r ∧ σ = mkSt [(0, oP 0 0), (5, one (Cell.own 1)), (6, oI v185), (7, oI v186)] [(1, ⟨1, List.map eB v184⟩)] [(0, [Cell.sl true (List.map eB v187), cI v188, cI v189])] 2) k ⟨_, ⟨([] : List UInt8), r1.1, r112.1, r112.2.b, r112.2.i, r112.2.h, by omega, H, rfl⟩, lm [(0, 0), (1, 6)] hm⟩ ?_; clear H
 rintro k22 _ ⟨v184, v185, v186, v187, v188, v189, hk22, H, rfl⟩
 cases k22 with
 | zero => cases H
 | succ k22 =>
  rw [S_l1Text.l22] at H
  refine WpC.seq (sr ?_); refine mv ?_; refine bi (L.nil ?_); refine cd H (fun hc H => ?_) (fun hc H => ?_)
  ·refine WpC.skip (WpC.seq (WpC.block (sr ?_))); refine mv ?_; obtain ⟨r206, hr206, H⟩ := bindS H; refine ca [false] [] [0] 2 ent126 (g126 k22  (⟨v187, v188, v189⟩ : U_l1Cur) r206 hr206) ?_; refine ag (L.nil ?_); refine WpC.join (fun σ => ∃ (kj25 : Nat) (v207 : List UInt8) (v208 v209 v210 : Int) (v211 : List UInt8) (v212 v213 : Int), kj25 ≤ K ∧ S_l1Text.j25 (S_l1Text.l22 k22) kj25 v207 v208 v209 v210 v211 v212 v213 = some r ∧ σ = mkSt [(0, oP 0 0), (5, one (Cell.own 1)), (6, oI v208), (7, oI v209), (8, oI v210)] [(1, ⟨1, List.map eB v207⟩)] [(0, [Cell.sl true (List.map eB v211), cI v212, cI v213])] 2) ?_ ?_
   ·rintro _ ⟨kj25, v207, v208, v209, v210, v211, v212, v213, hkj25, H, rfl⟩
    unfold S_l1Text.j25 at H; refine WpC.join (fun σ => ∃ (kj26 : Nat) (v214 : List UInt8) (v215 v216 v217 : Int) (v218 : List UInt8) (v219 v220 : Int), kj26 ≤ K ∧ S_l1Text.j26 (S_l1Text.l22 k22) kj26 v214 v215 v216 v217 v218 v219 v220 = some r ∧ σ = mkSt [(0, oP 0 0), (5, one (Cell.own 1)), (6, oI v215), (7, oI v216), (8, oI v217)] [(1, ⟨1, List.map eB v214⟩)] [(0, [Cell.sl true (List.map eB v218), cI v219, cI v220])] 2) ?_ ?_
    ·rintro _ ⟨kj26, v214, v215, v216, v217, v218, v219, v220, hkj26, H, rfl⟩
     unfold S_l1Text.j26 at H; refine WpC.regionL ?_; refine mv ?_; refine mv ?_; refine L.toB underlying3 underlying5 hF rfl rfl rfl ?_; refine L.buildSlice (e := eB) 2 ([(ofI v217)] : List UInt8) underlying54 info5 rfl rfl rfl hF rfl rfl rfl rfl rfl rfl rfl rfl ?_; obtain ⟨h221, H⟩ := condG H; refine L.append (xs := v214) (ys := ([(ofI v217)] : List UInt8)) (e := eB) 3 underlying54 info5 rfl rfl hF rfl rfl rfl rfl rfl rfl rfl rfl (fun _ => rfl) (fun _ _ h1 h2 => by cases h1; cases h2; rfl) ⟨_, underlying54⟩ (of_decide_eq_true h221) rfl rfl ?_; refine ag (L.nil ?_); refine WpC.regionL ?_; refine mv ?_; refine bi ?_; refine ag (L.nil ?_); exact ⟨k22, _, by omega, ⟨(v214 ++ ([(ofI v217)] : List UInt8)), v215, (IntKind.i64.wrap (v216 - 1)), v218, v219, v220, by omega, H, rfl⟩, lm [(0, 0), (1, 3)] hm⟩
    ·refine sr ?_; refine mv ?_; refine bi (L.nil ?_); refine cd H (fun hc H => ?_) (fun hc H => ?_)
     ·refine WpC.regionL ?_; refine mv ?_; refine L.rem hF rfl rfl rfl rfl (by decide) ?_; refine bi ?_; refine ag (L.nil ?_); exact ⟨_, ⟨kj25, v207, v208, v209, (IntKind.i64.wrap (97 + (Int.tmod v210 4))), v211, v212, v213, by omega, H, rfl⟩, lm [(0, 0), (1, 1)] hm⟩
     ·refine WpC.skip ?_; exact ⟨_, ⟨kj25, v207, v208, v209, v210, v211, v212, v213, by omega, H, rfl⟩, lm [(0, 0), (1, 1)] hm⟩
   ·refine sr ?_; refine mv ?_; refine bi (L.nil ?_); refine cd H (fun hc H => ?_) (fun hc H => ?_)
    ·refine WpC.regionL ?_; refine mv ?_; refine L.rem hF rfl rfl rfl rfl (by decide) ?_; refine ag (L.nil ?_); exact ⟨_, ⟨k22, v184, v185, v186, (Int.tmod r206.1 2), r206.2.b, r206.2.i, r206.2.h, by omega, H, rfl⟩, lm [(0, 0), (1, 1)] hm⟩
    ·refine WpC.skip ?_; exact ⟨_, ⟨k22, v184, v185, v186, r206.1, r206.2.b, r206.2.i, r206.2.h, by omega, H, rfl⟩, lm [(0, 0), (1, 1)] hm⟩
  ·refine WpC.exit (sr ?_); refine mv ?_; refine L.b2s (xs := v184) underlying54 underlying5 underlying9 hF rfl rfl rfl rfl ?_; refine ag (L.nil ?_); cases H; exact WpC.ret rt
/-! ### S_l1Spoil -/
def S_l1Spoil (k : Nat) (a1 : List UInt8) (o0 : U_l1Cur) : Option (List UInt8 × U_l1Cur) := cond ((a1.length : Int) == 0) ((S_l1Text k 3 o0).bind fun r2 => some (r2.1, r2.2)) ((S_l1Below k (a1.length : Int) o0).bind fun r3 => (S_l1Below k 4 r3.2).bind fun r14 => cond (r14.1 == 0) ((cut? a1 0 r3.1).bind fun b15 => (cut? a1 (IntKind.i64.wrap (r3.1 + 1)) (a1.length : Int)).bind fun b16 => cond (decide (b15.length + b16.length ≤ 9223372036854775807)) (some ((b15 ++ b16), r14.2)) none) (cond (r14.1 == 1) ((cut? a1 0 r3.1).bind fun b18 => (S_l1Byte k r14.2).bind fun r19 => cond (decide (b18.length + ([(ofI r19.1)] : List UInt8).length ≤ 9223372036854775807)) ((cut? a1 r3.1 (a1.length : Int)).bind fun b21 => cond (decide ((b18 ++ ([(ofI r19.1)] : List UInt8)).length + b21.length ≤ 9223372036854775807)) (some (((b18 ++ ([(ofI r19.1)] : List UInt8)) ++ b21), r19.2)) none) none) (cond (r14.1 == 2) ((cut? a1 0 r3.1).bind fun b23 => some (b23, r14.2)) ((cut? a1 0 r3.1).bind fun b24 => (at? a1 r3.1).bind fun b25 => (S_l1Below k 255 r14.2).bind fun r26 => cond (decide (b24.length + ([(ofI (Go.bits .xor .i64 (b25.toNat : Int) (IntKind.i64.wrap (1 + r26.1))))] : List UInt8).length ≤ 9223372036854775807)) ((cut? a1 (IntKind.i64.wrap (r3.1 + 1)) (a1.length : Int)).bind fun b28 => cond (decide ((b24 ++ ([(ofI (Go.bits .xor .i64 (b25.toNat : Int) (IntKind.i64.wrap (1 + r26.1))))] : List UInt8)).length + b28.length ≤ 9223372036854775807)) (some (((b24 ++ ([(ofI (Go.bits .xor .i64 (b25.toNat : Int) (IntKind.i64.wrap (1 + r26.1))))] : List UInt8)) ++ b28), r26.2)) none) none))))
theorem ent139 : MG.Enters Tryz.prog 139 := ⟨Tryz.f139, func139, rfl, by decide⟩
theorem g139 (k : Nat) (a1 : List UInt8) (o0 : U_l1Cur) (r : List UInt8 × U_l1Cur) (H : S_l1Spoil k a1 o0 = some r) : Gives Tryz.prog 139 [V.one (Cell.ptr 0 0), V.one (cS a1)] [[Cell.sl true (List.map eB o0.b), cI o0.i, cI o0.h]] [V.one (cS r.1)] [[Cell.sl true (List.map eB r.2.b), cI r.2.i, cI r.2.h]] := by
 refine Gives.intro func139 rfl rfl rfl rfl ?_; refine fx fun w0 T S0 ob oh hm => ?_
 have hF := fxe w0 T S0 67 ob oh
 unfold S_l1Spoil at H; obtain ⟨K, hK⟩ := leK k; refine sr ?_; refine ag (L.nil ?_); refine WpC.seq (sr ?_); refine mv ?_; refine L.lenS underlying9 hF rfl rfl rfl ?_; refine bi (L.nil ?_); refine cd H (fun hc H => ?_) (fun hc H => ?_)
 ·refine sr ?_; refine mv ?_; obtain ⟨r2, hr2, H⟩ := bindS H; refine ca [false, false] [] [0] 6 ent178 (g178 k  3 o0 r2 hr2) ?_; refine ag (L.nil ?_); cases H; exact WpC.ret rt
 ·refine WpC.skip (sr ?_); refine mv ?_; refine mv ?_; refine L.lenS underlying9 hF rfl rfl rfl ?_; obtain ⟨r3, hr3, H⟩ := bindS H; refine ca [false, false] [] [0] 6 ent71 (g71 k  (a1.length : Int) o0 r3 hr3) ?_; refine ag (L.nil ?_); refine WpC.seq (sr ?_); refine mv ?_; obtain ⟨r14, hr14, H⟩ := bindS H; refine ca [false, false] [] [0] 10 ent71 (g71 k  4 r3.2 r14 hr14) (L.nil ?_); refine WpC.block (sr ?_); refine bi ?_; refine ag (L.nil ?_); refine cd H (fun hc H => ?_) (fun hc H => ?_)
  ·refine WpC.seq ?_; refine S.begin mixed (by kernel_rfl) ?_; refine S.st 0 rfl rfl ((Ca.move).quiet) (fun Q0 k0 => mv (L.nil k0)) ?_; refine S.st 1 rfl rfl ((Ca.move).quiet) (fun Q0 k0 => mv (L.nil k0)) ?_; obtain ⟨b15, hb15, H⟩ := bindS H; refine S.st 2 rfl rfl ((Ca.slice).quiet) (fun Q0 k0 => L.cutS underlying9 hF rfl rfl rfl rfl rfl hb15 (L.nil k0)) ?_; refine S.st 3 rfl rfl ((Ca.move).quiet) (fun Q0 k0 => mv (L.nil k0)) ?_; refine S.st 4 rfl rfl ((Ca.move).quiet) (fun Q0 k0 => mv (L.nil k0)) ?_; refine S.st 5 rfl rfl ((Ca.bin rfl rfl (calm_int _ _ _ _ _ _ _ _)).quiet) (fun Q0 k0 => bi (L.nil k0)) ?_; obtain ⟨b16, hb16, H⟩ := bindS H; refine S.st 6 rfl rfl ((Ca.slice).quiet) (fun Q0 k0 => L.cutS underlying9 hF rfl rfl rfl rfl rfl hb16 (L.nil k0)) ?_; obtain ⟨h17, H⟩ := condG H; refine S.st 7 rfl rfl ((Ca.bin rfl rfl (calm_str _ _ _ _ _ _)).quiet) (fun Q0 k0 => L.catS hF rfl rfl rfl rfl (of_decide_eq_true h17) (L.nil k0)) ?_; refine S.st 8 rfl rfl ((Ca.assign).quiet) (fun Q0 k0 => ag (L.nil k0)) ?_; refine S.nil ?_; cases H; exact WpC.ret rt
  ·refine sr ?_; refine bi ?_; refine ag (L.nil ?_); refine cd H (fun hc H => ?_) (fun hc H => ?_)
   ·refine WpC.seq ?_; obtain ⟨b18, hb18, H⟩ := bindS H; obtain ⟨r19, hr19, H⟩ := bindS H; obtain ⟨h20, H⟩ := condG H; obtain ⟨b21, hb21, H⟩ := bindS H; obtain ⟨h22, H⟩ := condG H; refine A.begin mixed rfl rfl ?_; intro W hI hO; refine hI _ _ _ ?_; refine tM 0 ?_; refine tM 1 ?_; refine Atk 2 rfl (Ca.slice) (fun Q0 k0 => L.cutS underlying9 hF rfl rfl rfl rfl rfl hb18 (L.nil k0)) ?_; refine tM 3 ?_; refine tM 9 ?_; refine tM 10 ?_; refine Atk 11 rfl (Ca.slice) (fun Q0 k0 => L.cutS underlying9 hF rfl rfl rfl rfl rfl hb21 (L.nil k0)) ?_; refine A.all [4] (by kernel_rfl) rfl ⟨⟨_, rfl, ?_⟩, trivial⟩; refine ca [false] [] [0] 14 ent126 (g126 k  r14.2 r19 hr19) (L.nil ?_); refine Atk 5 rfl (Ca.conv underlying3 underlying5 rfl) (fun Q0 k0 => L.toB underlying3 underlying5 hF rfl rfl rfl (L.nil k0)) ?_; refine A.all [6] (by kernel_rfl) rfl ⟨⟨_, rfl, ?_⟩, trivial⟩; refine L.buildSlice (e := eB) 18 ([(ofI r19.1)] : List UInt8) underlying54 info5 rfl rfl rfl hF rfl rfl rfl rfl rfl rfl rfl rfl (L.nil ?_)
    refine A.le (τ := mkSt [(4, oS ([] : List UInt8)), (31, oS b18), (35, one (Cell.own 1)), (40, oS b21)] [(1, ⟨1, List.map eB ([(ofI r19.1)] : List UInt8)⟩)] [(0, (bU_l1Cur true r19.2))] 2) (lm [(0, 0), (1, 18)] hm) ?_; refine A.all [7] (by kernel_rfl) rfl ⟨⟨_, rfl, ?_⟩, trivial⟩; refine L.b2s (xs := ([(ofI r19.1)] : List UInt8)) underlying54 underlying5 underlying9 hF rfl rfl rfl rfl (L.nil ?_); refine Atk 8 rfl (Ca.bin rfl rfl (calm_str _ _ _ _ _ _)) (fun Q0 k0 => L.catS hF rfl rfl rfl rfl (of_decide_eq_true h20) (L.nil k0)) ?_; refine Atk 12 rfl (Ca.bin rfl rfl (calm_str _ _ _ _ _ _)) (fun Q0 k0 => L.catS hF rfl rfl rfl rfl (of_decide_eq_true h22) (L.nil k0)) ?_; refine tA 13 ?_; refine A.le (τ := mkSt [(4, one (cS ((b18 ++ ([(ofI r19.1)] : List UInt8)) ++ b21)))] [] [(0, (bU_l1Cur true r19.2))] 1) (lm [(0, 0)] hm) ?_; refine A.done (by kernel_rfl) ?_; cases H; exact WpC.ret rt
   ·refine sr ?_; refine bi ?_; refine ag (L.nil ?_); refine cd H (fun hc H => ?_) (fun hc H => ?_)
    ·refine sr ?_; refine mv ?_; refine mv ?_; obtain ⟨b23, hb23, H⟩ := bindS H; refine L.cutS underlying9 hF rfl rfl rfl rfl rfl hb23 ?_; refine ag (L.nil ?_); cases H; exact WpC.ret rt
    ·refine WpC.skip (WpC.seq ?_); obtain ⟨b24, hb24, H⟩ := bindS H; obtain ⟨b25, hb25, H⟩ := bindS H; obtain ⟨r26, hr26, H⟩ := bindS H; obtain ⟨h27, H⟩ := condG H; obtain ⟨b28, hb28, H⟩ := bindS H; obtain ⟨h29, H⟩ := condG H; refine A.begin mixed rfl rfl ?_; intro W hI hO; refine hI _ _ _ ?_; refine tM 0 ?_; refine tM 1 ?_; refine Atk 2 rfl (Ca.slice) (fun Q0 k0 => L.cutS underlying9 hF rfl rfl rfl rfl rfl hb24 (L.nil k0)) ?_; refine tM 3 ?_; refine tM 4 ?_; refine Atk 5 rfl (Ca.index) (fun Q0 k0 => L.idxS underlying9 hF rfl rfl rfl rfl hb25 (L.nil k0)) ?_; refine Atk 6 rfl (Ca.conv underlying5 underlying3 rfl) (fun Q0 k0 => L.ofB underlying5 underlying3 hF rfl rfl rfl (L.nil k0)) ?_; refine tM 7 ?_; refine tM 15 ?_; refine tM 16 ?_; refine A.le (τ := mkSt [(4, oS ([] : List UInt8)), (49, oS b24), (53, oI (b25.toNat : Int)), (54, oP 0 0), (62, oS a1), (63, oI r3.1)] [] [(0, (bU_l1Cur true r14.2))] 1) (lm [(0, 0)] hm) ?_; refine Atk 17 rfl (Ca.bin rfl rfl (calm_int _ _ _ _ _ _ _ _)) (fun Q0 k0 => bi (L.nil k0)) ?_
     refine Atk 18 rfl (Ca.slice) (fun Q0 k0 => L.cutS underlying9 hF rfl rfl rfl rfl rfl hb28 (L.nil k0)) ?_; refine A.all [8] (by kernel_rfl) rfl ⟨⟨_, rfl, ?_⟩, trivial⟩; refine ca [false, false] [] [0] 1 ent71 (g71 k  255 r14.2 r26 hr26) (L.nil ?_); refine Atk 9 rfl (Ca.bin rfl rfl (calm_int _ _ _ _ _ _ _ _)) (fun Q0 k0 => bi (L.nil k0)) ?_; refine Atk 10 rfl (Ca.bin rfl rfl (calm_int _ _ _ _ _ _ _ _)) (fun Q0 k0 => bi (L.nil k0)) ?_; refine Atk 11 rfl (Ca.conv underlying3 underlying5 rfl) (fun Q0 k0 => L.toB underlying3 underlying5 hF rfl rfl rfl (L.nil k0)) ?_; refine A.all [12] (by kernel_rfl) rfl ⟨⟨_, rfl, ?_⟩, trivial⟩; refine L.buildSlice (e := eB) 5 ([(ofI (Go.bits .xor .i64 (b25.toNat : Int) (IntKind.i64.wrap (1 + r26.1))))] : List UInt8) underlying54 info5 rfl rfl rfl hF rfl rfl rfl rfl rfl rfl rfl rfl (L.nil ?_); refine A.all [13] (by kernel_rfl) rfl ⟨⟨_, rfl, ?_⟩, trivial⟩; refine L.b2s (xs := ([(ofI (Go.bits .xor .i64 (b25.toNat : Int) (IntKind.i64.wrap (1 + r26.1))))] : List UInt8)) underlying54 underlying5 underlying9 hF rfl rfl rfl rfl (L.nil ?_); refine Atk 14 rfl (Ca.bin rfl rfl (calm_str _ _ _ _ _ _)) (fun Q0 k0 => L.catS hF rfl rfl rfl rfl (of_decide_eq_true h27) (L.nil k0)) ?_; refine Atk 19 rfl (Ca.bin rfl rfl (calm_str _ _ _ _ _ _)) (fun Q0 k0 => L.catS hF rfl rfl rfl rfl (of_decide_eq_true h29) (L.nil k0)) ?_
     refine A.le (τ := mkSt [(4, oS ([] : List UInt8)), (66, one (cS ((b24 ++ ([(ofI (Go.bits .xor .i64 (b25.toNat : Int) (IntKind.i64.wrap (1 + r26.1))))] : List UInt8)) ++ b28)))] [] [(0, (bU_l1Cur true r26.2))] 1) (lm [(0, 0)] hm) ?_; refine tA 20 ?_; refine A.le (τ := mkSt [(4, one (cS ((b24 ++ ([(ofI (Go.bits .xor .i64 (b25.toNat : Int) (IntKind.i64.wrap (1 + r26.1))))] : List UInt8)) ++ b28)))] [] [(0, (bU_l1Cur true r26.2))] 1) (lm [(0, 0)] hm) ?_; refine A.done (by kernel_rfl) ?_; cases H; exact WpC.ret rt
/-! ### S_l5Spoilt -/
def S_l5Spoilt (k : Nat) (a1 : List UInt8) (o0 : U_l1Cur) : Option (List UInt8 × U_l1Cur) := (S_l1Once k 4 o0).bind fun r3 => cond r3.1 ((S_l1Spoil k a1 r3.2).bind fun r4 => some (r4.1, r4.2)) (some (a1, r3.2))
theorem ent78 : MG.Enters Tryz.prog 78 := ⟨Tryz.f78, func78, rfl, by decide⟩
theorem g78 (k : Nat) (a1 : List UInt8) (o0 : U_l1Cur) (r : List UInt8 × U_l1Cur) (H : S_l5Spoilt k a1 o0 = some r) : Gives Tryz.prog 78 [V.one (Cell.ptr 0 0), V.one (cS a1)] [[Cell.sl true (List.map eB o0.b), cI o0.i, cI o0.h]] [V.one (cS r.1)] [[Cell.sl true (List.map eB r.2.b), cI r.2.i, cI r.2.h]] := by
 refine Gives.intro func78 rfl rfl rfl rfl ?_; refine fx fun w0 T S0 ob oh hm => ?_
 have hF := fxe w0 T S0 11 ob oh
 unfold S_l5Spoilt at H; obtain ⟨K, hK⟩ := leK k; refine sr ?_; refine ag (L.nil ?_); refine WpC.seq (sr ?_); refine mv ?_; obtain ⟨r3, hr3, H⟩ := bindS H; refine ca [false, false] [] [0] 6 ent75 (g75 k  4 o0 r3 hr3) (L.nil ?_); refine cd H (fun hc H => ?_) (fun hc H => ?_)
 ·refine sr ?_; refine mv ?_; refine mv ?_; obtain ⟨r4, hr4, H⟩ := bindS H; refine ca [false, false] [] [0] 10 ent139 (g139 k  a1 r3.2 r4 hr4) ?_; refine ag (L.nil ?_); cases H; exact WpC.ret rt
 ·refine WpC.skip (sr ?_); refine mv ?_; refine ag (L.nil ?_); cases H; exact WpC.ret rt
/-! ### S_DrawCentre -/
def S_DrawCentre.j2 (k : Nat) (v20 v21 v22 : Int) (v23 : List UInt8) (v24 v25 : Int) (v26 v27 : List Int) (v28 v29 : List T_Pair) (v30 : Int) : Option (T_Config × Int × Int × Int × List UInt8) := (S_l8Req k (⟨v26, v27, v28, v29, v30⟩ : T_Config) v20 v21 (⟨v23, v24, v25⟩ : U_l1Cur)).bind fun r31 => (S_l5Spoilt k r31.1 r31.2).bind fun r32 => some ((⟨v26, v27, v28, v29, v30⟩ : T_Config), v20, v21, v22, r32.1)
def S_DrawCentre.j1 (k : Nat) (v7 v8 : Int) (v9 : List UInt8) (v10 v11 : Int) (v12 v13 : List Int) (v14 v15 : List T_Pair) (v16 : Int) : Option (T_Config × Int × Int × Int × List UInt8) := (S_l1Below k 9 (⟨v9, v10, v11⟩ : U_l1Cur)).bind fun r17 => (S_l1Once k 20 r17.2).bind fun r33 => cond r33.1 ((S_l1PickInt k ([0, 100, 101, 1000000, 1000001] : List Int) r33.2).bind fun r34 => S_DrawCentre.j2 k v7 v8 r34.1 r34.2.b r34.2.i r34.2.h v12 v13 v14 v15 v16) (S_DrawCentre.j2 k v7 v8 (IntKind.i64.wrap (110 + r17.1)) r33.2.b r33.2.i r33.2.h v12 v13 v14 v15 v16)
def S_DrawCentre (k : Nat) (a0 : List UInt8) : Option (T_Config × Int × Int × Int × List UInt8) := (S_l1New k a0).bind fun r1 => (S_l6Any k r1).bind fun r2 => (S_l1PickInt k ([0, 1, 2, 0, 1, 2, (-1), 3] : List Int) r2.2).bind fun r3 => (S_l1Below k 40 r3.2).bind fun r4 => (S_l1Once k 15 r4.2).bind fun r35 => cond r35.1 ((S_l1PickInt k ([(-1), 100000, 99950, 100001] : List Int) r35.2).bind fun r36 => S_DrawCentre.j1 k r3.1 r36.1 r36.2.b r36.2.i r36.2.h r2.1.UserRealm r2.1.ServiceRealm r2.1.Links r2.1.Proxy r2.1.Skew) (S_DrawCentre.j1 k r3.1 r4.1 r35.2.b r35.2.i r35.2.h r2.1.UserRealm r2.1.ServiceRealm r2.1.Links r2.1.Proxy r2.1.Skew)
theorem ent29 : MG.Enters Tryz.prog 29 := ⟨Tryz.f29, func29, rfl, by decide⟩
theorem g29 (k : Nat) (a0 : List UInt8) (r : T_Config × Int × Int × Int × List UInt8) (H : S_DrawCentre k a0 = some r) : Gives Tryz.prog 29 [V.one (Cell.sl true (List.map eB a0))] [] [V.agg [Cell.ow 1 (List.map eI r.1.UserRealm), Cell.ow 1 (List.map eI r.1.ServiceRealm), Cell.ow 2 (List.map eT_Pair r.1.Links), Cell.ow 2 (List.map eT_Pair r.1.Proxy), cI r.1.Skew], V.one (cI r.2.1), V.one (cI r.2.2.1), V.one (cI r.2.2.2.1), V.one (cS r.2.2.2.2)] [] := by
 refine Gives.intro func29 rfl rfl rfl rfl ?_; refine fx fun w0 T S0 ob oh hm => ?_
 have hF := fxe w0 T S0 47 ob oh
 unfold S_DrawCentre at H; obtain ⟨K, hK⟩ := leK k; refine sr ?_; refine alc 1 info44 ?_; refine ag ?_; refine ag ?_; refine ag ?_; refine ag (L.nil ?_); refine sr ?_; refine mv ?_; obtain ⟨r1, hr1, H⟩ := bindS H; refine c0 2 ent69 (g69 k  a0 r1 hr1) ?_; refine ag (L.nil ?_); refine sr ?_; refine mv ?_; obtain ⟨r2, hr2, H⟩ := bindS H; refine ca [false] [] [2] 3 ent70 (g70 k  r1 r2 hr2) ?_; refine alc 11 info44 ?_; refine sp shape44 (L.nil ?_); refine sr ?_; refine mv ?_; refine L.buildSlice (e := eI) 12 ([0, 1, 2, 0, 1, 2, (-1), 3] : List Int) underlying22 info3 rfl rfl rfl hF rfl rfl rfl rfl rfl rfl rfl rfl ?_; obtain ⟨r3, hr3, H⟩ := bindS H; refine ca [false, false] [12] [2] 13 ent96 (g96 k false ([0, 1, 2, 0, 1, 2, (-1), 3] : List Int) r2.2 r3 hr3) ?_; refine ag (L.nil ?_); refine sr ?_; refine mv ?_; obtain ⟨r4, hr4, H⟩ := bindS H; refine ca [false, false] [] [2] 17 ent71 (g71 k  40 r3.2 r4 hr4) ?_; refine ag (L.nil ?_)
 refine WpC.join (fun σ => ∃ (kj1 : Nat) (v7 v8 : Int) (v9 : List UInt8) (v10 v11 : Int) (v12 v13 : List Int) (v14 v15 : List T_Pair) (v16 : Int), kj1 ≤ K ∧ S_DrawCentre.j1 kj1 v7 v8 v9 v10 v11 v12 v13 v14 v15 v16 = some r ∧ σ = mkSt [(2, oP 0 0), (7, oP 1 0), (8, oP 2 0), (9, oI v7), (10, oI v8)] [(3, ⟨1, List.map eI v12⟩), (4, ⟨1, List.map eI v13⟩), (5, ⟨2, List.map eT_Pair v14⟩), (6, ⟨2, List.map eT_Pair v15⟩)] [(0, zc2), (1, [Cell.sl true (List.map eB v9), cI v10, cI v11]), (2, [Cell.own 3, Cell.own 4, Cell.own 5, Cell.own 6, cI v16])] 7) ?_ ?_
 ·rintro _ ⟨kj1, v7, v8, v9, v10, v11, v12, v13, v14, v15, v16, hkj1, H, rfl⟩
  unfold S_DrawCentre.j1 at H; refine sr ?_; refine mv ?_; obtain ⟨r17, hr17, H⟩ := bindS H; refine ca [false, false] [] [1] 7 ent71 (g71 kj1  9 (⟨v9, v10, v11⟩ : U_l1Cur) r17 hr17) ?_; refine bi ?_; refine ag (L.nil ?_); refine WpC.join (fun σ => ∃ (kj2 : Nat) (v20 v21 v22 : Int) (v23 : List UInt8) (v24 v25 : Int) (v26 v27 : List Int) (v28 v29 : List T_Pair) (v30 : Int), kj2 ≤ K ∧ S_DrawCentre.j2 kj2 v20 v21 v22 v23 v24 v25 v26 v27 v28 v29 v30 = some r ∧ σ = mkSt [(2, oP 0 0), (7, oP 1 0), (8, oP 2 0), (9, oI v20), (10, oI v21), (11, oI v22)] [(3, ⟨1, List.map eI v26⟩), (4, ⟨1, List.map eI v27⟩), (5, ⟨2, List.map eT_Pair v28⟩), (6, ⟨2, List.map eT_Pair v29⟩)] [(0, zc2), (1, [Cell.sl true (List.map eB v23), cI v24, cI v25]), (2, [Cell.own 3, Cell.own 4, Cell.own 5, Cell.own 6, cI v30])] 7) ?_ ?_
  ·rintro _ ⟨kj2, v20, v21, v22, v23, v24, v25, v26, v27, v28, v29, v30, hkj2, H, rfl⟩
   unfold S_DrawCentre.j2 at H; refine sr ?_; refine mv ?_; refine lp shape44 ?_; refine mv ?_; refine mv ?_; obtain ⟨r31, hr31, H⟩ := bindS H; refine ca [false, false, false, false] [3, 4, 5, 6] [1] 7 ent97 (g97 kj2 false false false false (⟨v26, v27, v28, v29, v30⟩ : T_Config) v20 v21 (⟨v23, v24, v25⟩ : U_l1Cur) r31 hr31) ?_; refine ag (L.nil ?_); refine WpC.seq ?_; obtain ⟨r32, hr32, H⟩ := bindS H; refine A.begin mixed rfl rfl ?_; intro W hI hO
   have n127 : W 5 #[true, true, true, true, true, true, true, false, false, false, false, false] (mkSt [(2, oP 0 0), (40, agg [Cell.own 1, Cell.own 2, Cell.own 3, Cell.own 4, cI v30]), (41, oI v20), (42, oI v21), (43, oI v22), (46, oS r32.1)] [(1, ⟨1, List.map eI v26⟩), (2, ⟨1, List.map eI v27⟩), (3, ⟨2, List.map eT_Pair v28⟩), (4, ⟨2, List.map eT_Pair v29⟩)] [(0, zc2)] 5) := by
    refine hI _ _ _ ?_; refine A.all [7] (by kernel_rfl) rfl ⟨⟨_, rfl, ?_⟩, trivial⟩; refine sp shape44 (L.nil ?_); refine tA 8 ?_; refine tA 9 ?_; refine tA 10 ?_; refine tA 11 ?_; refine A.le (τ := mkSt [(2, oP 0 0), (3, oI v20), (4, oI v21), (5, oI v22), (6, oS r32.1)] [(1, ⟨1, List.map eI v26⟩), (2, ⟨1, List.map eI v27⟩), (3, ⟨2, List.map eT_Pair v28⟩), (4, ⟨2, List.map eT_Pair v29⟩)] [(0, [Cell.own 1, Cell.own 2, Cell.own 3, Cell.own 4, cI v30])] 5) (lm [(0, 0), (1, 1), (2, 2), (3, 3), (4, 4)] hm) ?_; refine A.done (by kernel_rfl) ?_; cases H; exact WpC.ret rt
   refine hI _ _ _ ?_; refine tM 1 ?_; refine tM 2 ?_; refine tM 3 ?_; refine tM 4 ?_; refine tM 5 ?_; refine A.all [0, 6] (by kernel_rfl) rfl ⟨⟨_, rfl, ?_⟩, ⟨_, rfl, ?_⟩, trivial⟩
   ·refine lp shape44 (L.nil ?_); refine A.all [6] (by kernel_rfl) rfl ⟨⟨_, rfl, ?_⟩, trivial⟩; refine ca [false, false] [] [1] 11 ent78 (g78 kj2  r31.1 r31.2 r32 hr32) (L.nil ?_); exact A.on (hO _ _ _ n127) (lm [(0, 0), (1, 3), (2, 4), (3, 5), (4, 6)] hm)
   ·refine ca [false, false] [] [1] 11 ent78 (g78 kj2  r31.1 r31.2 r32 hr32) (L.nil ?_); refine A.all [0] (by kernel_rfl) rfl ⟨⟨_, rfl, ?_⟩, trivial⟩; refine lp shape44 (L.nil ?_); exact A.on (hO _ _ _ n127) (lm [(0, 0), (1, 3), (2, 4), (3, 5), (4, 6)] hm)
  ·refine sr ?_; refine mv ?_; obtain ⟨r33, hr33, H⟩ := bindS H; refine ca [false, false] [] [1] 11 ent75 (g75 kj1  20 r17.2 r33 hr33) (L.nil ?_); refine cd H (fun hc H => ?_) (fun hc H => ?_)
   ·refine WpC.regionL ?_; refine mv ?_; refine L.buildSlice (e := eI) 15 ([0, 100, 101, 1000000, 1000001] : List Int) underlying22 info3 rfl rfl rfl hF rfl rfl rfl rfl rfl rfl rfl rfl ?_; obtain ⟨r34, hr34, H⟩ := bindS H; refine ca [false, false] [15] [1] 16 ent96 (g96 kj1 false ([0, 100, 101, 1000000, 1000001] : List Int) r33.2 r34 hr34) ?_; refine ag (L.nil ?_); exact ⟨_, ⟨kj1, v7, v8, r34.1, r34.2.b, r34.2.i, r34.2.h, v12, v13, v14, v15, v16, by omega, H, rfl⟩, lm [(0, 0), (1, 1), (2, 2), (3, 3), (4, 4), (5, 5), (6, 6)] hm⟩
   ·refine WpC.skip ?_; exact ⟨_, ⟨kj1, v7, v8, (IntKind.i64.wrap (110 + r17.1)), r33.2.b, r33.2.i, r33.2.h, v12, v13, v14, v15, v16, by omega, H, rfl⟩, lm [(0, 0), (1, 1), (2, 2), (3, 3), (4, 4), (5, 5), (6, 6)] hm⟩
 ·refine sr ?_; refine mv ?_; obtain ⟨r35, hr35, H⟩ := bindS H; refine ca [false, false] [] [2] 21 ent75 (g75 k  15 r4.2 r35 hr35) (L.nil ?_); refine cd H (fun hc H => ?_) (fun hc H => ?_)
  ·refine WpC.regionL ?_; refine mv ?_; refine L.buildSlice (e := eI) 25 ([(-1), 100000, 99950, 100001] : List Int) underlying22 info3 rfl rfl rfl hF rfl rfl rfl rfl rfl rfl rfl rfl ?_; obtain ⟨r36, hr36, H⟩ := bindS H; refine ca [false, false] [25] [2] 26 ent96 (g96 k false ([(-1), 100000, 99950, 100001] : List Int) r35.2 r36 hr36) ?_; refine ag (L.nil ?_); exact ⟨_, ⟨k, r3.1, r36.1, r36.2.b, r36.2.i, r36.2.h, r2.1.UserRealm, r2.1.ServiceRealm, r2.1.Links, r2.1.Proxy, r2.1.Skew, by omega, H, rfl⟩, lm [(0, 1), (1, 2), (2, 11), (3, 3), (4, 4), (5, 5), (6, 6)] hm⟩
  ·refine WpC.skip ?_; exact ⟨_, ⟨k, r3.1, r4.1, r35.2.b, r35.2.i, r35.2.h, r2.1.UserRealm, r2.1.ServiceRealm, r2.1.Links, r2.1.Proxy, r2.1.Skew, by omega, H, rfl⟩, lm [(0, 1), (1, 2), (2, 11), (3, 3), (4, 4), (5, 5), (6, 6)] hm⟩
/-! ### I_within -/
def I_within (k : Nat) (a0 a1 a2 : Int) : Option Bool := cond (decide (a0 ≥ a1)) (some (decide (a0 ≤ a2))) (some false)
theorem ent90 : MG.Enters Tryz.prog 90 := ⟨Tryz.f90, func90, rfl, by decide⟩
theorem g90 (k : Nat) (a0 a1 a2 : Int) (r : Bool) (H : I_within k a0 a1 a2 = some r) : Gives Tryz.prog 90 [V.one (cI a0), V.one (cI a1), V.one (cI a2)] [] [V.one (cL r)] [] := by
 refine Gives.intro func90 rfl rfl rfl rfl ?_; refine fx fun w0 T S0 ob oh hm => ?_
 have hF := fxe w0 T S0 15 ob oh
 unfold I_within at H; obtain ⟨K, hK⟩ := leK k; refine sr ?_; refine ag (L.nil ?_); refine sr ?_; refine mv ?_; refine mv ?_; refine bi ?_; refine mv ?_; refine sH H (fun hc H => ?_) (fun hc H => ?_)
 ·refine mv ?_; refine mv ?_; refine bi ?_; refine pk ?_; refine ag (L.nil ?_); cases H; exact WpC.ret rt
 ·(repeat refine of ?_); refine pk ?_; refine ag (L.nil ?_); cases H; exact WpC.ret rt
/-! ### I_Var -/
def I_Var.l2 : Nat → Int → (List UInt8) → Option (List UInt8)
 | 0, _, _ => none
 | k2 + 1, v16, v17 => cond (decide (v16 > 127)) (cond (decide ((2 * (v17.length + ([(ofI (Go.bits .or .i64 (Go.bits .and .i64 v16 127) 128))] : List UInt8).length) + 192) * 1 ≤ 281474976710656)) ((I_Var.l2 k2) (shrI .i64 v16 7) (v17 ++ ([(ofI (Go.bits .or .i64 (Go.bits .and .i64 v16 127) 128))] : List UInt8))) none) (cond (decide ((2 * (v17.length + ([(ofI v16)] : List UInt8).length) + 192) * 1 ≤ 281474976710656)) (some (v17 ++ ([(ofI v16)] : List UInt8))) none)
def I_Var (k : Nat) (a0 : Int) : Option (List UInt8) := (I_within k a0 0 562949953421311).bind fun r2 => cond (!r2) (some ([] : List UInt8)) (I_Var.l2 k a0 ([] : List UInt8))
theorem ent189 : MG.Enters Tryz.prog 189 := ⟨Tryz.f189, func189, rfl, by decide⟩
theorem g189 (k : Nat) (a0 : Int) (r : List UInt8) (H : I_Var k a0 = some r) : Gives Tryz.prog 189 [V.one (cI a0)] [] [V.one (cS r)] [] := by
 refine Gives.intro func189 rfl rfl rfl rfl ?_; refine fx fun w0 T S0 ob oh hm => ?_
 have hF := fxe w0 T S0 25 ob oh
 unfold I_Var at H; obtain ⟨K, hK⟩ := leK k; refine sr ?_; refine ag (L.nil ?_); refine WpC.seq (sr ?_); refine mv ?_; obtain ⟨r2, hr2, H⟩ := bindS H; refine c0 1 ent90 (g90 k  a0 0 562949953421311 r2 hr2) ?_; refine nt (L.nil ?_); refine cd H (fun hc H => ?_) (fun hc H => ?_)
 ·refine sr ?_; refine ag (L.nil ?_); cases H; exact WpC.ret rt
 ·refine WpC.skip (sr ?_); refine L.buildSlice (e := eB) 2 ([] : List UInt8) underlying54 info5 rfl rfl rfl hF rfl rfl rfl rfl rfl rfl rfl rfl ?_; refine ag (L.nil ?_); refine WpC.seq (WpC.block ?_); refine WpC.loopL (P := Tryz.prog) (fun n σ => ∃ (v16 : Int) (v17 : List UInt8), n ≤ K ∧ I_Var.l2 n v16 v17 = some r ∧ σ = mkSt [(0, oI v16), (3, one (Cell.own 0))] [(0, ⟨1, List.map eB v17⟩)] [] 1) k ⟨_, ⟨a0, ([] : List UInt8), by omega, H, rfl⟩, lm [(0, 2)] hm⟩ ?_; clear H
  rintro k2 _ ⟨v16, v17, hk2, H, rfl⟩
  cases k2 with
  | zero => cases H
  | succ k2 =>
   rw [I_Var.l2] at H
   refine WpC.seq (sr ?_); refine mv ?_; refine bi (L.nil ?_); refine cd H (fun hc H => ?_) (fun hc H => ?_)
   ·refine WpC.skip (WpC.block (sr ?_)); refine mv ?_; refine mv ?_; refine bi ?_; refine bi ?_; refine L.toB underlying3 underlying5 hF rfl rfl rfl ?_; refine L.buildSlice (e := eB) 1 ([(ofI (Go.bits .or .i64 (Go.bits .and .i64 v16 127) 128))] : List UInt8) underlying54 info5 rfl rfl rfl hF rfl rfl rfl rfl rfl rfl rfl rfl ?_; obtain ⟨h18, H⟩ := condG H; refine L.append (xs := v17) (ys := ([(ofI (Go.bits .or .i64 (Go.bits .and .i64 v16 127) 128))] : List UInt8)) (e := eB) 2 underlying54 info5 rfl rfl hF rfl rfl rfl rfl rfl rfl rfl rfl (fun _ => rfl) (fun _ _ h1 h2 => by cases h1; cases h2; rfl) ⟨_, underlying54⟩ (of_decide_eq_true h18) rfl rfl ?_; refine ag (L.nil ?_); refine WpC.regionL ?_; refine mv ?_; refine L.shr hF rfl rfl rfl rfl (by decide) ?_; refine ag (L.nil ?_); exact ⟨k2, _, by omega, ⟨(shrI .i64 v16 7), (v17 ++ ([(ofI (Go.bits .or .i64 (Go.bits .and .i64 v16 127) 128))] : List UInt8)), by omega, H, rfl⟩, lm [(0, 2)] hm⟩
   ·refine WpC.exit (sr ?_); refine mv ?_; refine mv ?_; refine L.toB underlying3 underlying5 hF rfl rfl rfl ?_; refine L.buildSlice (e := eB) 1 ([(ofI v16)] : List UInt8) underlying54 info5 rfl rfl rfl hF rfl rfl rfl rfl rfl rfl rfl rfl ?_; obtain ⟨h19, H⟩ := condG H; refine L.append (xs := v17) (ys := ([(ofI v16)] : List UInt8)) (e := eB) 2 underlying54 info5 rfl rfl hF rfl rfl rfl rfl rfl rfl rfl rfl (fun _ => rfl) (fun _ _ h1 h2 => by cases h1; cases h2; rfl) ⟨_, underlying54⟩ (of_decide_eq_true h19) rfl rfl ?_; refine L.b2s (xs := (v17 ++ ([(ofI v16)] : List UInt8))) underlying54 underlying5 underlying9 hF rfl rfl rfl rfl ?_; refine ag (L.nil ?_); cases H; exact WpC.ret rt
end Go.Proofs.YtbjbagemlclgcaaGreat.M
