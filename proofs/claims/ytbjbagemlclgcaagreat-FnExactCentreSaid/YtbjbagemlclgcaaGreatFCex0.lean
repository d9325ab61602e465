import Derived.Test.YtbjbagemlclgcaaGreatKCe1
import Derived.Test.YtbjbagemlclgcaaGreatProg
namespace Go.Proofs.YtbjbagemlclgcaaGreat.M
open Go Go.MG Tryz
set_option linter.unusedVariables false
set_option linter.unusedSimpArgs false
set_option maxHeartbeats 8000000
set_option maxRecDepth 100000
structure L_Pair where
  A : Int
  B : Int
def eL_Pair (x : L_Pair) : List Cell := [cI x.A, cI x.B]
structure L_Config where
  UserRealm : List Int
  ServiceRealm : List Int
  Links : List L_Pair
  Proxy : List L_Pair
  Skew : Int
def eL_Config (x : L_Config) : List Cell := [Cell.sl true (List.map eI x.UserRealm), Cell.sl true (List.map eI x.ServiceRealm), Cell.sl true (List.map eL_Pair x.Links), Cell.sl true (List.map eL_Pair x.Proxy), cI x.Skew]
def bL_Config (g0 : Bool) (g1 : Bool) (g2 : Bool) (g3 : Bool) (x : L_Config) : List Cell := [Cell.sl g0 (List.map eI x.UserRealm), Cell.sl g1 (List.map eI x.ServiceRealm), Cell.sl g2 (List.map eL_Pair x.Links), Cell.sl g3 (List.map eL_Pair x.Proxy), cI x.Skew]
structure T_Auth where
  Client : Int
  Time : Int
  Seq : Int
def eT_Auth (x : T_Auth) : List Cell := [cI x.Client, cI x.Time, cI x.Seq]
def bT_Auth (x : T_Auth) : List Cell := [cI x.Client, cI x.Time, cI x.Seq]
structure T_Rest where
  Servers : Int
  Ops : Int
  End : Int
def eT_Rest (x : T_Rest) : List Cell := [cI x.Servers, cI x.Ops, cI x.End]
def bT_Rest (x : T_Rest) : List Cell := [cI x.Servers, cI x.Ops, cI x.End]
structure T_Pair where
  A : Int
  B : Int
def eT_Pair (x : T_Pair) : List Cell := [cI x.A, cI x.B]
structure T_Config where
  UserRealm : List Int
  ServiceRealm : List Int
  Links : List T_Pair
  Proxy : List T_Pair
  Skew : Int
def eT_Config (x : T_Config) : List Cell := [Cell.ow 1 (List.map eI x.UserRealm), Cell.ow 1 (List.map eI x.ServiceRealm), Cell.ow 2 (List.map eT_Pair x.Links), Cell.ow 2 (List.map eT_Pair x.Proxy), cI x.Skew]
def bT_Config (g0 : Bool) (g1 : Bool) (g2 : Bool) (g3 : Bool) (x : T_Config) : List Cell := [Cell.sl g0 (List.map eI x.UserRealm), Cell.sl g1 (List.map eI x.ServiceRealm), Cell.sl g2 (List.map eT_Pair x.Links), Cell.sl g3 (List.map eT_Pair x.Proxy), cI x.Skew]
structure T_Event where
  Kind : Int
  Realm : Int
  By : Int
  Client : Int
  Service : Int
  Key : Int
  Parent : Int
  Evid : Int
  Rest : T_Rest
def eT_Event (x : T_Event) : List Cell := [cI x.Kind, cI x.Realm, cI x.By, cI x.Client, cI x.Service, cI x.Key, cI x.Parent, cI x.Evid, cI x.Rest.Servers, cI x.Rest.Ops, cI x.Rest.End]
def bT_Event (x : T_Event) : List Cell := [cI x.Kind, cI x.Realm, cI x.By, cI x.Client, cI x.Service, cI x.Key, cI x.Parent, cI x.Evid, cI x.Rest.Servers, cI x.Rest.Ops, cI x.Rest.End]
structure T_Reply where
  Code : Int
  Term : List UInt8
  Event : T_Event
def eT_Reply (x : T_Reply) : List Cell := [cI x.Code, cS x.Term, cI x.Event.Kind, cI x.Event.Realm, cI x.Event.By, cI x.Event.Client, cI x.Event.Service, cI x.Event.Key, cI x.Event.Parent, cI x.Event.Evid, cI x.Event.Rest.Servers, cI x.Event.Rest.Ops, cI x.Event.Rest.End]
def bT_Reply (x : T_Reply) : List Cell := [cI x.Code, cS x.Term, cI x.Event.Kind, cI x.Event.Realm, cI x.Event.By, cI x.Event.Client, cI x.Event.Service, cI x.Event.Key, cI x.Event.Parent, cI x.Event.Evid, cI x.Event.Rest.Servers, cI x.Event.Rest.Ops, cI x.Event.Rest.End]
structure T_Ticket where
  Client : Int
  Service : Int
  Key : Int
  Rest : T_Rest
  Path : List Int
  Via : List Int
def eT_Ticket (x : T_Ticket) : List Cell := [cI x.Client, cI x.Service, cI x.Key, cI x.Rest.Servers, cI x.Rest.Ops, cI x.Rest.End, Cell.ow 1 (List.map eI x.Path), Cell.ow 1 (List.map eI x.Via)]
def bT_Ticket (g0 : Bool) (g1 : Bool) (x : T_Ticket) : List Cell := [cI x.Client, cI x.Service, cI x.Key, cI x.Rest.Servers, cI x.Rest.Ops, cI x.Rest.End, Cell.sl g0 (List.map eI x.Path), Cell.sl g1 (List.map eI x.Via)]
structure T_Grant where
  Key : Int
  Service : Int
  Nonce : Int
  Rest : T_Rest
def eT_Grant (x : T_Grant) : List Cell := [cI x.Key, cI x.Service, cI x.Nonce, cI x.Rest.Servers, cI x.Rest.Ops, cI x.Rest.End]
def bT_Grant (x : T_Grant) : List Cell := [cI x.Key, cI x.Service, cI x.Nonce, cI x.Rest.Servers, cI x.Rest.Ops, cI x.Rest.End]
structure T_asked where
  c : T_Config
  realm : Int
  now : Int
  fresh : Int
  nonce : Int
  parts : List (List UInt8)
def eT_asked (x : T_asked) : List Cell := [Cell.ow 1 (List.map eI x.c.UserRealm), Cell.ow 1 (List.map eI x.c.ServiceRealm), Cell.ow 2 (List.map eT_Pair x.c.Links), Cell.ow 2 (List.map eT_Pair x.c.Proxy), cI x.c.Skew, cI x.realm, cI x.now, cI x.fresh, cI x.nonce, Cell.ow 1 (List.map eS x.parts)]
def bT_asked (g0 : Bool) (g1 : Bool) (g2 : Bool) (g3 : Bool) (g4 : Bool) (x : T_asked) : List Cell := [Cell.sl g0 (List.map eI x.c.UserRealm), Cell.sl g1 (List.map eI x.c.ServiceRealm), Cell.sl g2 (List.map eT_Pair x.c.Links), Cell.sl g3 (List.map eT_Pair x.c.Proxy), cI x.c.Skew, cI x.realm, cI x.now, cI x.fresh, cI x.nonce, Cell.sl g4 (List.map eS x.parts)]
theorem mixed : Tryz.prog.follows .mixedOrders = true := by kernel_rfl
theorem shape3 : MG.shape Tryz.prog 3 = some (false, 1) := by kernel_rfl
theorem shape9 : MG.shape Tryz.prog 9 = some (false, 1) := by kernel_rfl
theorem shape22 : MG.shape Tryz.prog 22 = some (false, 1) := by kernel_rfl
theorem shape23 : MG.shape Tryz.prog 23 = some (false, 1) := by kernel_rfl
theorem shape25 : MG.shape Tryz.prog 25 = some (true, 5) := by kernel_rfl
theorem shape35 : MG.shape Tryz.prog 35 = some (true, 3) := by kernel_rfl
theorem shape37 : MG.shape Tryz.prog 37 = some (true, 3) := by kernel_rfl
theorem shape42 : MG.shape Tryz.prog 42 = some (false, 1) := by kernel_rfl
theorem shape44 : MG.shape Tryz.prog 44 = some (true, 5) := by kernel_rfl
theorem shape62 : MG.shape Tryz.prog 62 = some (true, 11) := by kernel_rfl
theorem shape64 : MG.shape Tryz.prog 64 = some (true, 13) := by kernel_rfl
theorem shape70 : MG.shape Tryz.prog 70 = some (false, 1) := by kernel_rfl
theorem shape76 : MG.shape Tryz.prog 76 = some (true, 8) := by kernel_rfl
theorem shape80 : MG.shape Tryz.prog 80 = some (true, 6) := by kernel_rfl
theorem shape130 : MG.shape Tryz.prog 130 = some (true, 10) := by kernel_rfl
theorem shape147 : MG.shape Tryz.prog 147 = some (true, 2) := by kernel_rfl
theorem shape149 : MG.shape Tryz.prog 149 = some (true, 2) := by kernel_rfl
theorem info3 : Tryz.prog.info? 3 = some Tryz.t3 := by kernel_rfl
theorem info5 : Tryz.prog.info? 5 = some Tryz.t5 := by kernel_rfl
theorem info9 : Tryz.prog.info? 9 = some Tryz.t9 := by kernel_rfl
theorem info22 : Tryz.prog.info? 22 = some Tryz.t22 := by kernel_rfl
theorem info23 : Tryz.prog.info? 23 = some Tryz.t23 := by kernel_rfl
theorem info35 : Tryz.prog.info? 35 = some Tryz.t35 := by kernel_rfl
theorem info37 : Tryz.prog.info? 37 = some Tryz.t37 := by kernel_rfl
theorem info42 : Tryz.prog.info? 42 = some Tryz.t42 := by kernel_rfl
theorem info44 : Tryz.prog.info? 44 = some Tryz.t44 := by kernel_rfl
theorem info62 : Tryz.prog.info? 62 = some Tryz.t62 := by kernel_rfl
theorem info64 : Tryz.prog.info? 64 = some Tryz.t64 := by kernel_rfl
theorem info70 : Tryz.prog.info? 70 = some Tryz.t70 := by kernel_rfl
theorem info76 : Tryz.prog.info? 76 = some Tryz.t76 := by kernel_rfl
theorem info80 : Tryz.prog.info? 80 = some Tryz.t80 := by kernel_rfl
theorem info130 : Tryz.prog.info? 130 = some Tryz.t130 := by kernel_rfl
theorem info147 : Tryz.prog.info? 147 = some Tryz.t147 := by kernel_rfl
theorem info149 : Tryz.prog.info? 149 = some Tryz.t149 := by kernel_rfl
theorem built35 : builtA Tryz.prog 35 = fillA (fun x => ([(0, 1), (1, 1), (2, 1)] : List (Nat × Nat))[x]?) [cI (0 : Int), cI (0 : Int), cI (0 : Int)] := by kernel_rfl
theorem built37 : builtA Tryz.prog 37 = fillA (fun x => ([(0, 1), (1, 1), (2, 1)] : List (Nat × Nat))[x]?) [cI (0 : Int), cI (0 : Int), cI (0 : Int)] := by kernel_rfl
theorem built62 : builtA Tryz.prog 62 = fillA (fun x => ([(0, 1), (1, 1), (2, 1), (3, 1), (4, 1), (5, 1), (6, 1), (7, 1), (8, 3)] : List (Nat × Nat))[x]?) [cI (0 : Int), cI (0 : Int), cI (0 : Int), cI (0 : Int), cI (0 : Int), cI (0 : Int), cI (0 : Int), cI (0 : Int), cI (0 : Int), cI (0 : Int), cI (0 : Int)] := by kernel_rfl
theorem built64 : builtA Tryz.prog 64 = fillA (fun x => ([(0, 1), (1, 1), (2, 11)] : List (Nat × Nat))[x]?) [cI (0 : Int), cS ([] : List UInt8), cI (0 : Int), cI (0 : Int), cI (0 : Int), cI (0 : Int), cI (0 : Int), cI (0 : Int), cI (0 : Int), cI (0 : Int), cI (0 : Int), cI (0 : Int), cI (0 : Int)] := by kernel_rfl
theorem built76 : builtA Tryz.prog 76 = fillA (fun x => ([(0, 1), (1, 1), (2, 1), (3, 3), (6, 1), (7, 1)] : List (Nat × Nat))[x]?) [cI (0 : Int), cI (0 : Int), cI (0 : Int), cI (0 : Int), cI (0 : Int), cI (0 : Int), Cell.nil, Cell.nil] := by kernel_rfl
theorem built80 : builtA Tryz.prog 80 = fillA (fun x => ([(0, 1), (1, 1), (2, 1), (3, 3)] : List (Nat × Nat))[x]?) [cI (0 : Int), cI (0 : Int), cI (0 : Int), cI (0 : Int), cI (0 : Int), cI (0 : Int)] := by kernel_rfl
theorem built130 : builtA Tryz.prog 130 = fillA (fun x => ([(0, 5), (5, 1), (6, 1), (7, 1), (8, 1), (9, 1)] : List (Nat × Nat))[x]?) [Cell.nil, Cell.nil, Cell.nil, Cell.nil, cI (0 : Int), cI (0 : Int), cI (0 : Int), cI (0 : Int), cI (0 : Int), Cell.nil] := by kernel_rfl
theorem built147 : builtA Tryz.prog 147 = fillA (fun x => ([(0, 1), (1, 1)] : List (Nat × Nat))[x]?) [cI (0 : Int), cI (0 : Int)] := by kernel_rfl
abbrev bx (a b c d : Int) : List Cell := [cI a, cI b, cI c, cI d]
abbrev zc0 : List Cell := [cI 0, cS ([] : List UInt8), cI 0, cI 0, cI 0, cI 0, cI 0, cI 0, cI 0, cI 0, cI 0, cI 0, cI 0]
abbrev zc1 : List Cell := [cI 0, cI 0, cI 0, cI 0, cI 0, cI 0, Cell.nil, Cell.nil]
/-! ### W_szIntS -/
def W_szIntS (k : Nat) (a0 : List Int) (a1 : Int) : Option Int := cond (decide ((IntKind.i64.wrap (a1 - (a0.length : Int))) < 0)) (some (-1)) (some (IntKind.i64.wrap (a1 - (a0.length : Int))))
theorem ent38 : MG.Enters Tryz.prog 38 := ⟨Tryz.f38, func38, rfl, by decide⟩
theorem g38 (k : Nat) (g0 : Bool) (a0 : List Int) (a1 r : Int) (H : W_szIntS k a0 a1 = some r) : Gives Tryz.prog 38 [V.one (Cell.sl g0 (List.map eI a0)), V.one (cI a1)] [] [V.one (cI r)] [] := by
 refine Gives.intro func38 rfl rfl rfl rfl ?_; refine fx fun w0 T S0 ob oh hm => ?_
 have hF := fxe w0 T S0 12 ob oh
 unfold W_szIntS at H; obtain ⟨K, hK⟩ := leK k; refine sr ?_; refine ag (L.nil ?_); refine sr ?_; refine mv ?_; refine mv ?_; refine L.lenR (xs := a0) (e := eI) underlying22 hF rfl rfl rfl rfl ?_; refine bi ?_; refine ag (L.nil ?_); refine WpC.seq (sr ?_); refine mv ?_; refine bi (L.nil ?_); refine cd H (fun hc H => ?_) (fun hc H => ?_)
 ·refine sr ?_; refine ag (L.nil ?_); cases H; exact WpC.ret rt
 ·refine WpC.skip (sr ?_); refine mv ?_; refine ag (L.nil ?_); cases H; exact WpC.ret rt
/-! ### W_szPairS -/
def W_szPairS (k : Nat) (a0 : List L_Pair) (a1 : Int) : Option Int := cond (decide ((IntKind.i64.wrap (a1 - (a0.length : Int))) < 0)) (some (-1)) (some (IntKind.i64.wrap (a1 - (a0.length : Int))))
theorem ent39 : MG.Enters Tryz.prog 39 := ⟨Tryz.f39, func39, rfl, by decide⟩
theorem g39 (k : Nat) (g0 : Bool) (a0 : List L_Pair) (a1 r : Int) (H : W_szPairS k a0 a1 = some r) : Gives Tryz.prog 39 [V.one (Cell.sl g0 (List.map eL_Pair a0)), V.one (cI a1)] [] [V.one (cI r)] [] := by
 refine Gives.intro func39 rfl rfl rfl rfl ?_; refine fx fun w0 T S0 ob oh hm => ?_
 have hF := fxe w0 T S0 12 ob oh
 unfold W_szPairS at H; obtain ⟨K, hK⟩ := leK k; refine sr ?_; refine ag (L.nil ?_); refine sr ?_; refine mv ?_; refine mv ?_; refine L.lenR (xs := a0) (e := eL_Pair) underlying23 hF rfl rfl rfl rfl ?_; refine bi ?_; refine ag (L.nil ?_); refine WpC.seq (sr ?_); refine mv ?_; refine bi (L.nil ?_); refine cd H (fun hc H => ?_) (fun hc H => ?_)
 ·refine sr ?_; refine ag (L.nil ?_); cases H; exact WpC.ret rt
 ·refine WpC.skip (sr ?_); refine mv ?_; refine ag (L.nil ?_); cases H; exact WpC.ret rt
/-! ### W_szConfig -/
def W_szConfig (k : Nat) (a0 : L_Config) (a1 : Int) : Option Int := (W_szIntS k a0.UserRealm a1).bind fun r1 => cond (decide (r1 < 0)) (some (-1)) ((W_szIntS k a0.ServiceRealm r1).bind fun r2 => cond (decide (r2 < 0)) (some (-1)) ((W_szPairS k a0.Links r2).bind fun r3 => cond (decide (r3 < 0)) (some (-1)) ((W_szPairS k a0.Proxy r3).bind fun r4 => cond (decide (r4 < 0)) (some (-1)) (some r4))))
theorem ent7 : MG.Enters Tryz.prog 7 := ⟨Tryz.f7, func7, rfl, by decide⟩
theorem g7 (k : Nat) (g0 g1 g2 g3 : Bool) (a0 : L_Config) (a1 r : Int) (H : W_szConfig k a0 a1 = some r) : Gives Tryz.prog 7 [V.agg (bL_Config g0 g1 g2 g3 a0), V.one (cI a1)] [] [V.one (cI r)] [] := by
 refine Gives.intro func7 rfl rfl rfl rfl ?_; refine fx fun w0 T S0 ob oh hm => ?_
 have hF := fxe w0 T S0 30 ob oh
 unfold W_szConfig at H; obtain ⟨K, hK⟩ := leK k; refine sr ?_; refine bo 6 ?_; refine ag (L.nil ?_); refine sr ?_; refine fa underlying25 info22 ?_; refine lp shape22 ?_; refine mv ?_; obtain ⟨r1, hr1, H⟩ := bindS H; refine c0 7 ent38 (g38 k g0 a0.UserRealm a1 r1 hr1) ?_; refine ag (L.nil ?_); refine WpC.seq (sr ?_); refine mv ?_; refine bi (L.nil ?_); refine cd H (fun hc H => ?_) (fun hc H => ?_)
 ·refine sr ?_; refine ag (L.nil ?_); cases H; exact WpC.ret rt
 ·refine WpC.skip (sr ?_); refine fa underlying25 info22 ?_; refine lp shape22 ?_; refine mv ?_; obtain ⟨r2, hr2, H⟩ := bindS H; refine c0 8 ent38 (g38 k g1 a0.ServiceRealm r1 r2 hr2) ?_; refine ag (L.nil ?_); refine WpC.seq (sr ?_); refine mv ?_; refine bi (L.nil ?_); refine cd H (fun hc H => ?_) (fun hc H => ?_)
  ·refine sr ?_; refine ag (L.nil ?_); cases H; exact WpC.ret rt
  ·refine WpC.skip (sr ?_); refine fa underlying25 info23 ?_; refine lp shape23 ?_; refine mv ?_; obtain ⟨r3, hr3, H⟩ := bindS H; refine c0 9 ent39 (g39 k g2 a0.Links r2 r3 hr3) ?_; refine ag (L.nil ?_); refine WpC.seq (sr ?_); refine mv ?_; refine bi (L.nil ?_); refine cd H (fun hc H => ?_) (fun hc H => ?_)
   ·refine sr ?_; refine ag (L.nil ?_); cases H; exact WpC.ret rt
   ·refine WpC.skip (sr ?_); refine fa underlying25 info23 ?_; refine lp shape23 ?_; refine mv ?_; obtain ⟨r4, hr4, H⟩ := bindS H; refine c0 10 ent39 (g39 k g3 a0.Proxy r3 r4 hr4) ?_; refine ag (L.nil ?_); refine WpC.seq (sr ?_); refine mv ?_; refine bi (L.nil ?_); refine cd H (fun hc H => ?_) (fun hc H => ?_)
    ·refine sr ?_; refine ag (L.nil ?_); cases H; exact WpC.ret rt
    ·refine WpC.skip (sr ?_); refine mv ?_; refine ag (L.nil ?_); cases H; exact WpC.ret rt
/-! ### W_toIntS -/
def W_toIntS.l2 : Nat → (List Int) → (List Int) → Int → Option (List Int)
 | 0, _, _, _ => none
 | k2 + 1, v35, v36, v37 => cond (decide (v37 < (v35.length : Int))) ((at? v35 v37).bind fun b40 => (at? v36 v37).bind fun b41 => (W_toIntS.l2 k2) v35 (v36.set v37.toNat b40) (IntKind.i64.wrap (v37 + 1))) (some v36)
def W_toIntS (k : Nat) (a0 : List Int) : Option (List Int) := cond (decide (0 ≤ (a0.length : Int) ∧ (a0.length : Int) ≤ (a0.length : Int) ∧ 8 * (a0.length : Int) ≤ 281474976710656 ∧ (a0.length : Int) ≤ 9223372036854775807)) (W_toIntS.l2 k a0 (List.replicate (a0.length : Int).toNat 0) 0) none
theorem ent47 : MG.Enters Tryz.prog 47 := ⟨Tryz.f47, func47, rfl, by decide⟩
theorem g47 (k : Nat) (g0 : Bool) (a0 r : List Int) (H : W_toIntS k a0 = some r) : Gives Tryz.prog 47 [V.one (Cell.sl g0 (List.map eI a0))] [] [V.one (Cell.ow 1 (List.map eI r))] [] := by
 refine Gives.intro func47 rfl rfl rfl rfl ?_; refine fx fun w0 T S0 ob oh hm => ?_
 have hF := fxe w0 T S0 22 ob oh
 unfold W_toIntS at H; obtain ⟨K, hK⟩ := leK k; refine sr ?_; refine ag (L.nil ?_); refine sr ?_; refine mv ?_; refine L.lenR (xs := a0) (e := eI) underlying22 hF rfl rfl rfl rfl ?_; obtain ⟨h1, H⟩ := condG H; refine L.makeSlice (e := eI) 1 0 underlying22 info3 rfl rfl rfl hF rfl rfl rfl rfl (of_decide_eq_true h1) rfl rfl ?_; refine ag (L.nil ?_); refine WpC.seq (sr ?_); refine ag (L.nil ?_); refine WpC.block ?_; refine WpC.loopL (P := Tryz.prog) (fun n σ => ∃ (v35 v36 : List Int) (v37 : Int), n ≤ K ∧ W_toIntS.l2 n v35 v36 v37 = some r ∧ σ = mkSt [(0, one (Cell.sl g0 (List.map eI v35))), (3, one (Cell.own 0)), (4, oI v37)] [(0, ⟨1, List.map eI v36⟩)] [] 1) k ⟨_, ⟨a0, (List.replicate (a0.length : Int).toNat 0), 0, by omega, H, rfl⟩, lm [(0, 1)] hm⟩ ?_; clear H
 rintro k2 _ ⟨v35, v36, v37, hk2, H, rfl⟩
 cases k2 with
 | zero => cases H
 | succ k2 =>
  rw [W_toIntS.l2] at H
  refine WpC.seq (sr ?_); refine mv ?_; refine mv ?_; refine L.lenR (xs := v35) (e := eI) underlying22 hF rfl rfl rfl rfl ?_; refine bi (L.nil ?_); refine cd H (fun hc H => ?_) (fun hc H => ?_)
  ·refine WpC.skip (WpC.seq (WpC.block (WpC.regionL ?_))); refine mv ?_; refine mv ?_; refine mv ?_; refine mv ?_; obtain ⟨b40, hb40, H⟩ := bindS H; refine ix underlying22 info3 hb40 ?_; refine le shape3 ?_; obtain ⟨b41, hb41, H⟩ := bindS H; refine ix underlying22 info3 hb41 ?_; refine L.storeEp (xs := v36) (e := eI) (a' := b40) shape3 hF rfl rfl rfl rfl rfl rfl rfl (at?_get hb41).2 rfl rfl ?_; refine L.nil ?_; refine WpC.regionL ?_; refine mv ?_; refine bi ?_; refine ag (L.nil ?_); exact ⟨k2, _, by omega, ⟨v35, (v36.set v37.toNat b40), (IntKind.i64.wrap (v37 + 1)), by omega, H, rfl⟩, lm [(0, 0)] hm⟩
  ·refine WpC.exit (sr ?_); refine mv ?_; refine ag (L.nil ?_); cases H; exact WpC.ret rt
/-! ### W_toPair -/
def W_toPair (k : Nat) (a0 : L_Pair) : Option T_Pair := some (⟨a0.A, a0.B⟩ : T_Pair)
theorem ent110 : MG.Enters Tryz.prog 110 := ⟨Tryz.f110, func110, rfl, by decide⟩
theorem g110 (k : Nat) (a0 : L_Pair) (r : T_Pair) (H : W_toPair k a0 = some r) : Gives Tryz.prog 110 [V.agg [cI a0.A, cI a0.B]] [] [V.agg [cI r.A, cI r.B]] [] := by
 refine Gives.intro func110 rfl rfl rfl rfl ?_; refine fx fun w0 T S0 ob oh hm => ?_
 have hF := fxe w0 T S0 11 ob oh
 unfold W_toPair at H; obtain ⟨K, hK⟩ := leK k; refine sr ?_; refine bo 2 ?_; refine alc 3 info147 (L.nil ?_); refine sr ?_; refine alc 4 info147 (L.nil ?_); refine sr ?_; refine fa underlying149 info3 ?_; refine lp shape3 ?_; refine fa underlying147 info3 ?_; refine sp shape3 (L.nil ?_); refine sr ?_; refine fa underlying149 info3 ?_; refine lp shape3 ?_; refine fa underlying147 info3 ?_; refine sp shape3 (L.nil ?_); refine sr ?_; refine lp shape147 ?_; refine sp shape147 (L.nil ?_); cases H; exact WpC.ret rt
/-! ### W_toPairS -/
def W_toPairS.l2 : Nat → (List L_Pair) → (List T_Pair) → Int → Option (List T_Pair)
 | 0, _, _, _ => none
 | k2 + 1, v45, v46, v47 => cond (decide (v47 < (v45.length : Int))) ((at? v45 v47).bind fun b51 => (W_toPair k2 b51).bind fun r52 => (at? v46 v47).bind fun b53 => (W_toPairS.l2 k2) v45 (v46.set v47.toNat r52) (IntKind.i64.wrap (v47 + 1))) (some v46)
def W_toPairS (k : Nat) (a0 : List L_Pair) : Option (List T_Pair) := cond (decide (0 ≤ (a0.length : Int) ∧ (a0.length : Int) ≤ (a0.length : Int) ∧ 16 * (a0.length : Int) ≤ 281474976710656 ∧ (a0.length : Int) ≤ 9223372036854775807)) (W_toPairS.l2 k a0 (List.replicate (a0.length : Int).toNat (⟨0, 0⟩ : T_Pair)) 0) none
theorem ent48 : MG.Enters Tryz.prog 48 := ⟨Tryz.f48, func48, rfl, by decide⟩
theorem g48 (k : Nat) (g0 : Bool) (a0 : List L_Pair) (r : List T_Pair) (H : W_toPairS k a0 = some r) : Gives Tryz.prog 48 [V.one (Cell.sl g0 (List.map eL_Pair a0))] [] [V.one (Cell.ow 2 (List.map eT_Pair r))] [] := by
 refine Gives.intro func48 rfl rfl rfl rfl ?_; refine fx fun w0 T S0 ob oh hm => ?_
 have hF := fxe w0 T S0 23 ob oh
 unfold W_toPairS at H; obtain ⟨K, hK⟩ := leK k; refine sr ?_; refine ag (L.nil ?_); refine sr ?_; refine mv ?_; refine L.lenR (xs := a0) (e := eL_Pair) underlying23 hF rfl rfl rfl rfl ?_; obtain ⟨h1, H⟩ := condG H; refine L.makeSlice (e := eT_Pair) 1 (⟨0, 0⟩ : T_Pair) underlying42 info147 rfl rfl rfl hF rfl rfl rfl rfl (of_decide_eq_true h1) rfl rfl ?_; refine ag (L.nil ?_); refine WpC.seq (sr ?_); refine ag (L.nil ?_); refine WpC.block ?_; refine WpC.loopL (P := Tryz.prog) (fun n σ => ∃ (v45 : List L_Pair) (v46 : List T_Pair) (v47 : Int), n ≤ K ∧ W_toPairS.l2 n v45 v46 v47 = some r ∧ σ = mkSt [(0, one (Cell.sl g0 (List.map eL_Pair v45))), (3, one (Cell.own 0)), (4, oI v47)] [(0, ⟨2, List.map eT_Pair v46⟩)] [] 1) k ⟨_, ⟨a0, (List.replicate (a0.length : Int).toNat (⟨0, 0⟩ : T_Pair)), 0, by omega, H, rfl⟩, lm [(0, 1)] hm⟩ ?_; clear H
 rintro k2 _ ⟨v45, v46, v47, hk2, H, rfl⟩
 cases k2 with
 | zero => cases H
 | succ k2 =>
  rw [W_toPairS.l2] at H
  refine WpC.seq (sr ?_); refine mv ?_; refine mv ?_; refine L.lenR (xs := v45) (e := eL_Pair) underlying23 hF rfl rfl rfl rfl ?_; refine bi (L.nil ?_); refine cd H (fun hc H => ?_) (fun hc H => ?_)
  ·refine WpC.skip (WpC.seq (WpC.block (WpC.regionL ?_))); refine mv ?_; refine mv ?_; refine mv ?_; refine mv ?_; obtain ⟨b51, hb51, H⟩ := bindS H; refine ix underlying23 info149 hb51 ?_; refine le shape149 ?_; obtain ⟨r52, hr52, H⟩ := bindS H; refine c0 1 ent110 (g110 k2  b51 r52 hr52) ?_; obtain ⟨b53, hb53, H⟩ := bindS H; refine ix underlying42 info147 hb53 ?_; refine L.storeEp (xs := v46) (e := eT_Pair) (a' := r52) shape147 hF rfl rfl rfl rfl rfl rfl rfl (at?_get hb53).2 rfl rfl ?_; refine L.nil ?_; refine WpC.regionL ?_; refine mv ?_; refine bi ?_; refine ag (L.nil ?_); exact ⟨k2, _, by omega, ⟨v45, (v46.set v47.toNat r52), (IntKind.i64.wrap (v47 + 1)), by omega, H, rfl⟩, lm [(0, 0)] hm⟩
  ·refine WpC.exit (sr ?_); refine mv ?_; refine ag (L.nil ?_); cases H; exact WpC.ret rt
/-! ### W_toConfig -/
def W_toConfig (k : Nat) (a0 : L_Config) : Option T_Config := (W_toIntS k a0.UserRealm).bind fun r1 => (W_toIntS k a0.ServiceRealm).bind fun r2 => (W_toPairS k a0.Links).bind fun r3 => (W_toPairS k a0.Proxy).bind fun r4 => some (⟨r1, r2, r3, r4, a0.Skew⟩ : T_Config)
theorem ent10 : MG.Enters Tryz.prog 10 := ⟨Tryz.f10, func10, rfl, by decide⟩
theorem g10 (k : Nat) (g0 g1 g2 g3 : Bool) (a0 : L_Config) (r : T_Config) (H : W_toConfig k a0 = some r) : Gives Tryz.prog 10 [V.agg (bL_Config g0 g1 g2 g3 a0)] [] [V.agg [Cell.ow 1 (List.map eI r.UserRealm), Cell.ow 1 (List.map eI r.ServiceRealm), Cell.ow 2 (List.map eT_Pair r.Links), Cell.ow 2 (List.map eT_Pair r.Proxy), cI r.Skew]] [] := by
 refine Gives.intro func10 rfl rfl rfl rfl ?_; refine fx fun w0 T S0 ob oh hm => ?_
 have hF := fxe w0 T S0 24 ob oh
 unfold W_toConfig at H; obtain ⟨K, hK⟩ := leK k; refine sr ?_; refine bo 5 ?_; refine alc 6 info44 (L.nil ?_); refine sr ?_; refine alc 7 info44 (L.nil ?_); refine sr ?_; refine fa underlying25 info22 ?_; refine lp shape22 ?_; obtain ⟨r1, hr1, H⟩ := bindS H; refine c0 8 ent47 (g47 k g0 a0.UserRealm r1 hr1) ?_; refine fa underlying44 info22 ?_; refine sp shape22 (L.nil ?_); refine sr ?_; refine fa underlying25 info22 ?_; refine lp shape22 ?_; obtain ⟨r2, hr2, H⟩ := bindS H; refine c0 9 ent47 (g47 k g1 a0.ServiceRealm r2 hr2) ?_; refine fa underlying44 info22 ?_; refine sp shape22 (L.nil ?_); refine sr ?_; refine fa underlying25 info23 ?_; refine lp shape23 ?_; obtain ⟨r3, hr3, H⟩ := bindS H; refine c0 10 ent48 (g48 k g2 a0.Links r3 hr3) ?_; refine fa underlying44 info42 ?_; refine sp shape42 (L.nil ?_); refine sr ?_; refine fa underlying25 info23 ?_; refine lp shape23 ?_; obtain ⟨r4, hr4, H⟩ := bindS H; refine c0 11 ent48 (g48 k g3 a0.Proxy r4 hr4) ?_; refine fa underlying44 info42 ?_; refine sp shape42 (L.nil ?_); refine sr ?_; refine fa underlying25 info3 ?_; refine lp shape3 ?_; refine fa underlying44 info3 ?_; refine sp shape3 (L.nil ?_); refine sr ?_; refine lp shape44 ?_; refine sp shape44 (L.nil ?_)
 cases H; exact WpC.ret rt
/-! ### S_l1In -/
def S_l1In (k : Nat) (a0 a1 a2 : Int) : Option Bool := cond (decide (a0 ≥ a1)) (some (decide (a0 ≤ a2))) (some false)
theorem ent43 : MG.Enters Tryz.prog 43 := ⟨Tryz.f43, func43, rfl, by decide⟩
theorem g43 (k : Nat) (a0 a1 a2 : Int) (r : Bool) (H : S_l1In k a0 a1 a2 = some r) : Gives Tryz.prog 43 [V.one (cI a0), V.one (cI a1), V.one (cI a2)] [] [V.one (cL r)] [] := by
 refine Gives.intro func43 rfl rfl rfl rfl ?_; refine fx fun w0 T S0 ob oh hm => ?_
 have hF := fxe w0 T S0 15 ob oh
 unfold S_l1In at H; obtain ⟨K, hK⟩ := leK k; refine sr ?_; refine ag (L.nil ?_); refine sr ?_; refine mv ?_; refine mv ?_; refine bi ?_; refine mv ?_; refine sH H (fun hc H => ?_) (fun hc H => ?_)
 ·refine mv ?_; refine mv ?_; refine bi ?_; refine pk ?_; refine ag (L.nil ?_); cases H; exact WpC.ret rt
 ·(repeat refine of ?_); refine pk ?_; refine ag (L.nil ?_); cases H; exact WpC.ret rt
/-! ### S_Var -/
def S_Var.l2 : Nat → Int → (List UInt8) → Option (List UInt8)
 | 0, _, _ => none
 | k2 + 1, v16, v17 => cond (decide (v16 ≥ 128)) (cond (decide ((2 * (v17.length + ([(ofI (IntKind.i64.wrap (128 + (Int.tmod v16 128))))] : List UInt8).length) + 192) * 1 ≤ 281474976710656)) ((S_Var.l2 k2) (IntKind.i64.wrap (Int.tdiv v16 128)) (v17 ++ ([(ofI (IntKind.i64.wrap (128 + (Int.tmod v16 128))))] : List UInt8))) none) (cond (decide ((2 * (v17.length + ([(ofI v16)] : List UInt8).length) + 192) * 1 ≤ 281474976710656)) (some (v17 ++ ([(ofI v16)] : List UInt8))) none)
def S_Var (k : Nat) (a0 : Int) : Option (List UInt8) := (S_l1In k a0 0 562949953421311).bind fun r2 => cond (!r2) (some ([] : List UInt8)) (S_Var.l2 k a0 ([] : List UInt8))
theorem ent166 : MG.Enters Tryz.prog 166 := ⟨Tryz.f166, func166, rfl, by decide⟩
theorem g166 (k : Nat) (a0 : Int) (r : List UInt8) (H : S_Var k a0 = some r) : Gives Tryz.prog 166 [V.one (cI a0)] [] [V.one (cS r)] [] := by
 refine Gives.intro func166 rfl rfl rfl rfl ?_; refine fx fun w0 T S0 ob oh hm => ?_
 have hF := fxe w0 T S0 25 ob oh
 unfold S_Var at H; obtain ⟨K, hK⟩ := leK k; refine sr ?_; refine ag (L.nil ?_); refine WpC.seq (sr ?_); refine mv ?_; obtain ⟨r2, hr2, H⟩ := bindS H; refine c0 1 ent43 (g43 k  a0 0 562949953421311 r2 hr2) ?_; refine nt (L.nil ?_); refine cd H (fun hc H => ?_) (fun hc H => ?_)
 ·refine sr ?_; refine ag (L.nil ?_); cases H; exact WpC.ret rt
 ·refine WpC.skip (sr ?_); refine L.buildSlice (e := eB) 2 ([] : List UInt8) underlying54 info5 rfl rfl rfl hF rfl rfl rfl rfl rfl rfl rfl rfl ?_; refine ag (L.nil ?_); refine WpC.seq (WpC.block ?_); refine WpC.loopL (P := Tryz.prog) (fun n σ => ∃ (v16 : Int) (v17 : List UInt8), n ≤ K ∧ S_Var.l2 n v16 v17 = some r ∧ σ = mkSt [(0, oI v16), (3, one (Cell.own 0))] [(0, ⟨1, List.map eB v17⟩)] [] 1) k ⟨_, ⟨a0, ([] : List UInt8), by omega, H, rfl⟩, lm [(0, 2)] hm⟩ ?_; clear H
  rintro k2 _ ⟨v16, v17, hk2, H, rfl⟩
  cases k2 with
  | zero => cases H
  | succ k2 =>
   rw [S_Var.l2] at H
   refine WpC.seq (sr ?_); refine mv ?_; refine bi (L.nil ?_); refine cd H (fun hc H => ?_) (fun hc H => ?_)
   ·refine WpC.skip (WpC.block (sr ?_)); refine mv ?_; refine mv ?_; refine L.rem hF rfl rfl rfl rfl (by decide) ?_; refine bi ?_; refine L.toB underlying3 underlying5 hF rfl rfl rfl ?_; refine L.buildSlice (e := eB) 1 ([(ofI (IntKind.i64.wrap (128 + (Int.tmod v16 128))))] : List UInt8) underlying54 info5 rfl rfl rfl hF rfl rfl rfl rfl rfl rfl rfl rfl ?_; obtain ⟨h18, H⟩ := condG H; refine L.append (xs := v17) (ys := ([(ofI (IntKind.i64.wrap (128 + (Int.tmod v16 128))))] : List UInt8)) (e := eB) 2 underlying54 info5 rfl rfl hF rfl rfl rfl rfl rfl rfl rfl rfl (fun _ => rfl) (fun _ _ h1 h2 => by cases h1; cases h2; rfl) ⟨_, underlying54⟩ (of_decide_eq_true h18) rfl rfl ?_; refine ag (L.nil ?_); refine WpC.regionL ?_; refine mv ?_; refine L.quo hF rfl rfl rfl rfl (by decide) ?_; refine ag (L.nil ?_); exact ⟨k2, _, by omega, ⟨(IntKind.i64.wrap (Int.tdiv v16 128)), (v17 ++ ([(ofI (IntKind.i64.wrap (128 + (Int.tmod v16 128))))] : List UInt8)), by omega, H, rfl⟩, lm [(0, 2)] hm⟩
   ·refine WpC.exit (sr ?_); refine mv ?_; refine mv ?_; refine L.toB underlying3 underlying5 hF rfl rfl rfl ?_; refine L.buildSlice (e := eB) 1 ([(ofI v16)] : List UInt8) underlying54 info5 rfl rfl rfl hF rfl rfl rfl rfl rfl rfl rfl rfl ?_; obtain ⟨h19, H⟩ := condG H; refine L.append (xs := v17) (ys := ([(ofI v16)] : List UInt8)) (e := eB) 2 underlying54 info5 rfl rfl hF rfl rfl rfl rfl rfl rfl rfl rfl (fun _ => rfl) (fun _ _ h1 h2 => by cases h1; cases h2; rfl) ⟨_, underlying54⟩ (of_decide_eq_true h19) rfl rfl ?_; refine L.b2s (xs := (v17 ++ ([(ofI v16)] : List UInt8))) underlying54 underlying5 underlying9 hF rfl rfl rfl rfl ?_; refine ag (L.nil ?_); cases H; exact WpC.ret rt
/-! ### S_ReadVar -/
def S_ReadVar.l26 (cl22 : (List UInt8) → Int → Option (Int × Int)) : Nat → (List UInt8) → Int → Int → Int → Option (Int × Int)
 | 0, _, _, _, _ => none
 | k26 + 1, v411, v412, v413, v414 => cond (decide (v414 ≥ 0)) ((at? v411 v414).bind fun b416 => (S_ReadVar.l26 cl22 k26) v411 v412 (IntKind.i64.wrap ((IntKind.i64.wrap (v413 * 128)) + (Int.tmod (b416.toNat : Int) 128))) (IntKind.i64.wrap (v414 - 1))) ((S_Var k26 v413).bind fun r417 => (cut? v411 0 v412).bind fun b418 => cond (r417 == b418) (some (v413, v412)) (cl22 v411 (IntKind.i64.wrap (v412 + 1))))
def S_ReadVar.l22 : Nat → (List UInt8) → Int → Option (Int × Int)
 | 0, _, _ => none
 | k22 + 1, v345, v346 => cond (decide (v346 ≤ 7)) (cond (decide (v346 ≤ (v345.length : Int))) (S_ReadVar.l26 (S_ReadVar.l22 k22) k22 v345 v346 0 (IntKind.i64.wrap (v346 - 1))) (some (0, 0))) (some (0, 0))
def S_ReadVar (k : Nat) (a0 : List UInt8) : Option (Int × Int) := S_ReadVar.l22 k a0 1
theorem ent99 : MG.Enters Tryz.prog 99 := ⟨Tryz.f99, func99, rfl, by decide⟩
theorem g99 (k : Nat) (a0 : List UInt8) (r : Int × Int) (H : S_ReadVar k a0 = some r) : Gives Tryz.prog 99 [V.one (cS a0)] [] [V.one (cI r.1), V.one (cI r.2)] [] := by
 refine Gives.intro func99 rfl rfl rfl rfl ?_; refine fx fun w0 T S0 ob oh hm => ?_
 have hF := fxe w0 T S0 39 ob oh
 unfold S_ReadVar at H; obtain ⟨K, hK⟩ := leK k; refine sr ?_; refine ag ?_; refine ag (L.nil ?_); refine WpC.seq (sr ?_); refine ag (L.nil ?_); refine WpC.block ?_; refine WpC.loopL (P := Tryz.prog) (fun n σ => ∃ (v345 : List UInt8) (v346 : Int), n ≤ K ∧ S_ReadVar.l22 n v345 v346 = some r ∧ σ = mkSt [(0, oS v345), (4, oI v346)] [] [] 0) k ⟨_, ⟨a0, 1, by omega, H, rfl⟩, lm [] hm⟩ ?_; clear H
 rintro k22 _ ⟨v345, v346, hk22, H, rfl⟩
 cases k22 with
 | zero => cases H
 | succ k22 =>
  rw [S_ReadVar.l22] at H
  refine WpC.seq (sr ?_); refine mv ?_; refine bi ?_; refine mv ?_; refine sH H (fun hc H => ?_) (fun hc H => ?_)
  ·refine mv ?_; refine mv ?_; refine L.lenS underlying9 hF rfl rfl rfl ?_; refine bi ?_; refine pk (L.nil ?_); refine cd H (fun hc H => ?_) (fun hc H => ?_)
   ·refine WpC.skip (WpC.seq (WpC.block (sr ?_))); refine ag (L.nil ?_); refine WpC.seq (sr ?_); refine mv ?_; refine bi ?_; refine ag (L.nil ?_); refine WpC.block ?_; refine WpC.loopL (P := Tryz.prog) (fun n σ => ∃ (v411 : List UInt8) (v412 v413 v414 : Int), n ≤ K ∧ S_ReadVar.l26 (S_ReadVar.l22 k22) n v411 v412 v413 v414 = some r ∧ σ = mkSt [(0, oS v411), (4, oI v412), (5, oI v413), (6, oI v414)] [] [] 0) k22 ⟨_, ⟨v345, v346, 0, (IntKind.i64.wrap (v346 - 1)), by omega, H, rfl⟩, lm [] hm⟩ ?_; clear H
    rintro k26 _ ⟨v411, v412, v413, v414, hk26, H, rfl⟩
    cases k26 with
    | zero => cases H
    | succ k26 =>
     rw [S_ReadVar.l26] at H
     refine WpC.seq (sr ?_); refine mv ?_; refine bi (L.nil ?_); refine cd H (fun hc H => ?_) (fun hc H => ?_)
     ·refine WpC.skip (WpC.seq (WpC.block (WpC.regionL ?_))); refine mv ?_; refine bi ?_; refine mv ?_; refine mv ?_; obtain ⟨b416, hb416, H⟩ := bindS H; refine L.idxS underlying9 hF rfl rfl rfl rfl hb416 ?_; refine L.ofB underlying5 underlying3 hF rfl rfl rfl ?_; refine L.rem hF rfl rfl rfl rfl (by decide) ?_; refine bi ?_; refine ag (L.nil ?_); refine WpC.regionL ?_; refine mv ?_; refine bi ?_; refine ag (L.nil ?_); exact ⟨k26, _, by omega, ⟨v411, v412, (IntKind.i64.wrap ((IntKind.i64.wrap (v413 * 128)) + (Int.tmod (b416.toNat : Int) 128))), (IntKind.i64.wrap (v414 - 1)), by omega, H, rfl⟩, lm [] hm⟩
     ·refine WpC.exit (WpC.seq ?_); obtain ⟨r417, hr417, H⟩ := bindS H; obtain ⟨b418, hb418, H⟩ := bindS H; refine A.begin mixed rfl rfl ?_; intro W hI hO; refine hI _ _ _ ?_; refine tM 0 ?_; refine tM 2 ?_; refine tM 3 ?_; refine Atk 4 rfl (Ca.slice) (fun Q0 k0 => L.cutS underlying9 hF rfl rfl rfl rfl rfl hb418 (L.nil k0)) ?_; refine A.all [1] (by kernel_rfl) rfl ⟨⟨_, rfl, ?_⟩, trivial⟩; refine c0 0 ent166 (g166 k26  v413 r417 hr417) (L.nil ?_); refine Atk 5 rfl (Ca.bin rfl rfl (calm_str _ _ _ _ _ _)) (fun Q0 k0 => L.binS hF rfl rfl rfl rfl rfl (L.nil k0)) ?_; refine A.le (τ := mkSt [(0, oS v411), (4, oI v412), (5, oI v413), (36, oL (r417 == b418))] [] [] 0) (lm [] hm) ?_; refine A.done (by kernel_rfl) ?_; refine cd H (fun hc H => ?_) (fun hc H => ?_)
      ·refine sr ?_; refine mv ?_; refine mv ?_; refine ag ?_; refine ag (L.nil ?_); cases H; exact WpC.ret rt
      ·refine WpC.skip (WpC.regionL ?_); refine mv ?_; refine bi ?_; refine ag (L.nil ?_); exact ⟨k22, _, by omega, ⟨v411, (IntKind.i64.wrap (v412 + 1)), by omega, H, rfl⟩, lm [] hm⟩
   ·refine WpC.exit (sr ?_); refine ag ?_; refine ag (L.nil ?_); cases H; exact WpC.ret rt
  ·(repeat refine of ?_); refine pk (L.nil ?_); refine cF ?_; refine WpC.exit (sr ?_); refine ag ?_; refine ag (L.nil ?_); cases H; exact WpC.ret rt
/-! ### S_l2Term -/
def S_l2Term.j16 (cl15 : (List UInt8) → Int → Int → Int → Int → Int → Int → Option (Int × Int)) (k : Nat) (v191 : List UInt8) (v192 v193 v194 v195 v196 v197 : Int) : Option (Int × Int) := cl15 v191 v192 v193 v194 v195 v196 (IntKind.i64.wrap (v197 + 1))
def S_l2Term.l15 (cREC : (List UInt8) → Int → Int → Option (Int × Int)) : Nat → (List UInt8) → Int → Int → Int → Int → Int → Int → Option (Int × Int)
 | 0, _, _, _, _, _, _, _ => none
 | k15 + 1, v183, v184, v185, v186, v187, v188, v189 => cond (decide (v189 < v186)) ((cREC v183 v187 (IntKind.i64.wrap (v185 - 1))).bind fun r198 => cond (r198.1 == 0) (some (0, 0)) (cond (decide (r198.2 > v188)) (S_l2Term.j16 (S_l2Term.l15 cREC k15) k15 v183 v184 v185 v186 (IntKind.i64.wrap (v187 + r198.1)) r198.2 v189) (S_l2Term.j16 (S_l2Term.l15 cREC k15) k15 v183 v184 v185 v186 (IntKind.i64.wrap (v187 + r198.1)) v188 v189))) (some ((IntKind.i64.wrap (v187 - v184)), (IntKind.i64.wrap (1 + v188))))
def S_l2Term : Nat → (List UInt8) → Int → Int → Option (Int × Int)
 | 0, _, _, _ => none
 | k + 1, a0, a1, a2 => cond (decide (a1 ≥ (a0.length : Int))) (some (0, 0)) (cond (decide (a2 < 1)) (some (0, 0)) ((cut? a0 (IntKind.i64.wrap (a1 + 1)) (a0.length : Int)).bind fun b1 => (S_ReadVar k b1).bind fun r2 => cond (r2.2 == 0) (some (0, 0)) ((at? a0 a1).bind fun b101 => cond (b101 == (97 : UInt8)) (cond (decide (r2.1 > 40)) (some (0, 0)) (cond (decide (r2.1 > (IntKind.i64.wrap ((a0.length : Int) - (IntKind.i64.wrap ((IntKind.i64.wrap (a1 + 1)) + r2.2)))))) (some (0, 0)) (some ((IntKind.i64.wrap ((IntKind.i64.wrap (1 + r2.2)) + r2.1)), 1)))) (cond (b101 == (107 : UInt8)) ((S_l1In k r2.1 1 1000000).bind fun r103 => cond (!r103) (some (0, 0)) (some ((IntKind.i64.wrap (1 + r2.2)), 1))) (cond (b101 == (115 : UInt8)) (((S_l2Term k) a0 (IntKind.i64.wrap ((IntKind.i64.wrap (a1 + 1)) + r2.2)) (IntKind.i64.wrap (a2 - 1))).bind fun r104 => cond (r104.1 == 0) (some (0, 0)) ((S_l1In k r2.1 1 1000000).bind fun r108 => cond (!r108) (some (0, 0)) (some ((IntKind.i64.wrap ((IntKind.i64.wrap (1 + r2.2)) + r104.1)), (IntKind.i64.wrap (1 + r104.2)))))) (cond (b101 == (108 : UInt8)) (cond (decide (r2.1 > 12)) (some (0, 0)) (S_l2Term.l15 (S_l2Term k) k a0 a1 a2 r2.1 (IntKind.i64.wrap ((IntKind.i64.wrap (a1 + 1)) + r2.2)) 0 0)) (some (0, 0))))))))
theorem ent100 : MG.Enters Tryz.prog 100 := ⟨Tryz.f100, func100, rfl, by decide⟩
theorem g100 : ∀ (k : Nat) (a0 : List UInt8) (a1 a2 : Int) (r : Int × Int) (H : S_l2Term k a0 a1 a2 = some r), Gives Tryz.prog 100 [V.one (cS a0), V.one (cI a1), V.one (cI a2)] [] [V.one (cI r.1), V.one (cI r.2)] [] := by
 intro k
 induction k with
 | zero => intros; rename_i H; cases H
 | succ k ih =>
  intro a0 a1 a2 r H; refine Gives.intro func100 rfl rfl rfl rfl ?_; refine fx fun w0 T S0 ob oh hm => ?_
  have hF := fxe w0 T S0 119 ob oh
  rw [S_l2Term] at H
  obtain ⟨K, hK⟩ := leK k; refine sr ?_; refine ag ?_; refine ag (L.nil ?_); refine WpC.seq (sr ?_); refine mv ?_; refine mv ?_; refine L.lenS underlying9 hF rfl rfl rfl ?_; refine bi ?_; refine mv ?_; refine sH H (fun hc H => ?_) (fun hc H => ?_)
  ·(repeat refine of ?_); refine pk (L.nil ?_); refine cT ?_; refine sr ?_; refine ag ?_; refine ag (L.nil ?_); cases H; exact WpC.ret rt
  ·refine mv ?_; refine bi ?_; refine pk (L.nil ?_); refine cd H (fun hc H => ?_) (fun hc H => ?_)
   ·refine sr ?_; refine ag ?_; refine ag (L.nil ?_); cases H; exact WpC.ret rt
   ·refine WpC.skip (sr ?_); refine mv ?_; refine mv ?_; refine bi ?_; obtain ⟨b1, hb1, H⟩ := bindS H; refine L.cutS underlying9 hF rfl rfl rfl rfl rfl hb1 ?_; obtain ⟨r2, hr2, H⟩ := bindS H; refine c0 3 ent99 (g99 k  b1 r2 hr2) ?_; refine mv ?_; refine ex ?_; refine ex ?_; refine ag ?_; refine ag (L.nil ?_); refine WpC.seq (sr ?_); refine mv ?_; refine bi (L.nil ?_); refine cd H (fun hc H => ?_) (fun hc H => ?_)
    ·refine sr ?_; refine ag ?_; refine ag (L.nil ?_); cases H; exact WpC.ret rt
    ·refine WpC.skip (sr ?_); refine mv ?_; refine bi ?_; refine mv ?_; refine bi ?_; refine ag (L.nil ?_); refine WpC.seq (sr ?_); refine mv ?_; refine mv ?_; obtain ⟨b101, hb101, H⟩ := bindS H; refine L.idxS underlying9 hF rfl rfl rfl rfl hb101 (L.nil ?_); refine WpC.block (sr ?_); refine L.binB (a := b101) (b := (97 : UInt8)) hF rfl rfl rfl rfl rfl ?_; refine ag (L.nil ?_); refine cd H (fun hc H => ?_) (fun hc H => ?_)
     ·refine WpC.seq (sr ?_); refine mv ?_; refine bi ?_; refine mv ?_; refine sH H (fun hc H => ?_) (fun hc H => ?_)
      ·(repeat refine of ?_); refine pk (L.nil ?_); refine cT ?_; refine sr ?_; refine ag ?_; refine ag (L.nil ?_); cases H; exact WpC.ret rt
      ·refine mv ?_; refine mv ?_; refine L.lenS underlying9 hF rfl rfl rfl ?_; refine mv ?_; refine bi ?_; refine bi ?_; refine pk (L.nil ?_); refine cd H (fun hc H => ?_) (fun hc H => ?_)
       ·refine sr ?_; refine ag ?_; refine ag (L.nil ?_); cases H; exact WpC.ret rt
       ·refine WpC.skip (sr ?_); refine mv ?_; refine bi ?_; refine mv ?_; refine bi ?_; refine ag ?_; refine ag (L.nil ?_); cases H; exact WpC.ret rt
     ·refine sr ?_; refine L.binB (a := b101) (b := (107 : UInt8)) hF rfl rfl rfl rfl rfl ?_; refine ag (L.nil ?_); refine cd H (fun hc H => ?_) (fun hc H => ?_)
      ·refine WpC.seq (sr ?_); refine mv ?_; obtain ⟨r103, hr103, H⟩ := bindS H; refine c0 5 ent43 (g43 k  r2.1 1 1000000 r103 hr103) ?_; refine nt (L.nil ?_); refine cd H (fun hc H => ?_) (fun hc H => ?_)
       ·refine sr ?_; refine ag ?_; refine ag (L.nil ?_); cases H; exact WpC.ret rt
       ·refine WpC.skip (sr ?_); refine mv ?_; refine bi ?_; refine ag ?_; refine ag (L.nil ?_); cases H; exact WpC.ret rt
      ·refine sr ?_; refine L.binB (a := b101) (b := (115 : UInt8)) hF rfl rfl rfl rfl rfl ?_; refine ag (L.nil ?_); refine cd H (fun hc H => ?_) (fun hc H => ?_)
       ·refine sr ?_; refine mv ?_; refine mv ?_; refine mv ?_; refine bi ?_; obtain ⟨r104, hr104, H⟩ := bindS H; refine c0 5 ent100 (ih  a0 (IntKind.i64.wrap ((IntKind.i64.wrap (a1 + 1)) + r2.2)) (IntKind.i64.wrap (a2 - 1)) r104 hr104) ?_; refine mv ?_; refine ex ?_; refine ex ?_; refine ag ?_; refine ag (L.nil ?_); refine WpC.seq (sr ?_); refine mv ?_; refine bi ?_; refine mv ?_; refine sH H (fun hc H => ?_) (fun hc H => ?_)
        ·(repeat refine of ?_); refine pk (L.nil ?_); refine cT ?_; refine sr ?_; refine ag ?_; refine ag (L.nil ?_); cases H; exact WpC.ret rt
        ·refine mv ?_; obtain ⟨r108, hr108, H⟩ := bindS H; refine c0 7 ent43 (g43 k  r2.1 1 1000000 r108 hr108) ?_; refine nt ?_; refine pk (L.nil ?_); refine cd H (fun hc H => ?_) (fun hc H => ?_)
         ·refine sr ?_; refine ag ?_; refine ag (L.nil ?_); cases H; exact WpC.ret rt
         ·refine WpC.skip (sr ?_); refine mv ?_; refine bi ?_; refine mv ?_; refine bi ?_; refine mv ?_; refine bi ?_; refine ag ?_; refine ag (L.nil ?_); cases H; exact WpC.ret rt
       ·refine sr ?_; refine L.binB (a := b101) (b := (108 : UInt8)) hF rfl rfl rfl rfl rfl ?_; refine ag (L.nil ?_); refine cd H (fun hc H => ?_) (fun hc H => ?_)
        ·refine WpC.seq (sr ?_); refine mv ?_; refine bi (L.nil ?_); refine cd H (fun hc H => ?_) (fun hc H => ?_)
         ·refine sr ?_; refine ag ?_; refine ag (L.nil ?_); cases H; exact WpC.ret rt
         ·refine WpC.skip (sr ?_); refine ag (L.nil ?_); refine WpC.seq (sr ?_); refine ag (L.nil ?_); refine WpC.block ?_; refine WpC.loopL (P := Tryz.prog) (fun n σ => ∃ (v183 : List UInt8) (v184 v185 v186 v187 v188 v189 : Int), n ≤ K ∧ S_l2Term.l15 (S_l2Term k) n v183 v184 v185 v186 v187 v188 v189 = some r ∧ σ = mkSt [(0, oS v183), (1, oI v184), (2, oI v185), (8, oI v186), (10, oI v187), (13, oI v188), (14, oI v189)] [] [] 0) k ⟨_, ⟨a0, a1, a2, r2.1, (IntKind.i64.wrap ((IntKind.i64.wrap (a1 + 1)) + r2.2)), 0, 0, by omega, H, rfl⟩, lm [] hm⟩ ?_; clear H
          rintro k15 _ ⟨v183, v184, v185, v186, v187, v188, v189, hk15, H, rfl⟩
          cases k15 with
          | zero => cases H
          | succ k15 =>
           rw [S_l2Term.l15] at H
           refine WpC.seq (sr ?_); refine mv ?_; refine mv ?_; refine bi (L.nil ?_); refine cd H (fun hc H => ?_) (fun hc H => ?_)
           ·refine WpC.skip ?_; refine WpC.join (fun σ => ∃ (kj16 : Nat) (v191 : List UInt8) (v192 v193 v194 v195 v196 v197 : Int), kj16 ≤ K ∧ S_l2Term.j16 (S_l2Term.l15 (S_l2Term k) k15) kj16 v191 v192 v193 v194 v195 v196 v197 = some r ∧ σ = mkSt [(0, oS v191), (1, oI v192), (2, oI v193), (8, oI v194), (10, oI v195), (13, oI v196), (14, oI v197)] [] [] 0) ?_ ?_
            ·rintro _ ⟨kj16, v191, v192, v193, v194, v195, v196, v197, hkj16, H, rfl⟩
             unfold S_l2Term.j16 at H; refine WpC.regionL ?_; refine mv ?_; refine bi ?_; refine ag (L.nil ?_); exact ⟨k15, _, by omega, ⟨v191, v192, v193, v194, v195, v196, (IntKind.i64.wrap (v197 + 1)), by omega, H, rfl⟩, lm [] hm⟩
            ·refine WpC.block (sr ?_); refine mv ?_; refine mv ?_; refine mv ?_; refine bi ?_; obtain ⟨r198, hr198, H⟩ := bindS H; refine c0 0 ent100 (ih  v183 v187 (IntKind.i64.wrap (v185 - 1)) r198 hr198) ?_; refine mv ?_; refine ex ?_; refine ex ?_; refine ag ?_; refine ag (L.nil ?_); refine WpC.seq (sr ?_); refine mv ?_; refine bi (L.nil ?_); refine cd H (fun hc H => ?_) (fun hc H => ?_)
             ·refine sr ?_; refine ag ?_; refine ag (L.nil ?_); cases H; exact WpC.ret rt
             ·refine WpC.skip (sr ?_); refine mv ?_; refine mv ?_; refine bi ?_; refine ag (L.nil ?_); refine sr ?_; refine mv ?_; refine mv ?_; refine bi (L.nil ?_); refine cd H (fun hc H => ?_) (fun hc H => ?_)
              ·refine WpC.regionL ?_; refine mv ?_; refine ag (L.nil ?_); exact ⟨_, ⟨k15, v183, v184, v185, v186, (IntKind.i64.wrap (v187 + r198.1)), r198.2, v189, by omega, H, rfl⟩, lm [] hm⟩
              ·refine WpC.skip ?_; exact ⟨_, ⟨k15, v183, v184, v185, v186, (IntKind.i64.wrap (v187 + r198.1)), v188, v189, by omega, H, rfl⟩, lm [] hm⟩
           ·refine WpC.exit (sr ?_); refine mv ?_; refine mv ?_; refine bi ?_; refine mv ?_; refine bi ?_; refine ag ?_; refine ag (L.nil ?_); cases H; exact WpC.ret rt
        ·refine WpC.skip (sr ?_); refine ag ?_; refine ag (L.nil ?_); cases H; exact WpC.ret rt
/-! ### S_TermOk -/
def S_TermOk (k : Nat) (a0 : List UInt8) : Option Bool := (S_l2Term k a0 0 8).bind fun r1 => cond (decide (r1.1 > 0)) (cond (r1.1 == (a0.length : Int)) (some (decide (r1.1 ≤ 900))) (some false)) (some false)
theorem ent98 : MG.Enters Tryz.prog 98 := ⟨Tryz.f98, func98, rfl, by decide⟩
theorem g98 (k : Nat) (a0 : List UInt8) (r : Bool) (H : S_TermOk k a0 = some r) : Gives Tryz.prog 98 [V.one (cS a0)] [] [V.one (cL r)] [] := by
 refine Gives.intro func98 rfl rfl rfl rfl ?_; refine fx fun w0 T S0 ob oh hm => ?_
 have hF := fxe w0 T S0 22 ob oh
 unfold S_TermOk at H; obtain ⟨K, hK⟩ := leK k; refine sr ?_; refine ag (L.nil ?_); refine sr ?_; refine mv ?_; obtain ⟨r1, hr1, H⟩ := bindS H; refine c0 1 ent100 (g100 k  a0 0 8 r1 hr1) ?_; refine mv ?_; refine ex ?_; refine ex ?_; refine ag ?_; refine ag (L.nil ?_); refine sr ?_; refine mv ?_; refine bi ?_; refine mv ?_; refine sH H (fun hc H => ?_) (fun hc H => ?_)
 ·refine mv ?_; refine mv ?_; refine L.lenS underlying9 hF rfl rfl rfl ?_; refine bi ?_; refine pk ?_; refine mv ?_; refine sH H (fun hc H => ?_) (fun hc H => ?_)
  ·refine mv ?_; refine bi ?_; refine pk ?_; refine ag (L.nil ?_); cases H; exact WpC.ret rt
  ·(repeat refine of ?_); refine pk ?_; refine ag (L.nil ?_); cases H; exact WpC.ret rt
 ·(repeat refine of ?_); refine pk ?_; refine mv ?_; (repeat refine of ?_); refine pk ?_; refine ag (L.nil ?_); cases H; exact WpC.ret rt
/-! ### S_Parts -/
def S_Parts.l4 : Nat → (List UInt8) → (List (List UInt8)) → Int → Int → Int → Option (List (List UInt8) × Bool)
 | 0, _, _, _, _, _ => none
 | k4 + 1, v68, v69, v70, v71, v72 => cond (decide (v72 < v70)) ((S_l2Term k4 v68 v71 8).bind fun r76 => (cut? v68 v71 (IntKind.i64.wrap (v71 + r76.1))).bind fun b77 => cond (decide ((2 * (v69.length + ([b77] : List (List UInt8)).length) + 192) * 16 ≤ 281474976710656)) ((S_Parts.l4 k4) v68 (v69 ++ ([b77] : List (List UInt8))) v70 (IntKind.i64.wrap (v71 + r76.1)) (IntKind.i64.wrap (v72 + 1))) none) (some (v69, true))
def S_Parts.j2 (k : Nat) (v10 : List UInt8) (v11 : List (List UInt8)) (v12 : Bool) : Option (List (List UInt8) × Bool) := cond v12 (some (v11, false)) ((cut? v10 1 (v10.length : Int)).bind fun b13 => (S_ReadVar k b13).bind fun r14 => S_Parts.l4 k v10 v11 r14.1 (IntKind.i64.wrap (1 + r14.2)) 0)
def S_Parts (k : Nat) (a0 : List UInt8) : Option (List (List UInt8) × Bool) := (S_TermOk k a0).bind fun r79 => cond (!r79) (S_Parts.j2 k a0 ([] : List (List UInt8)) true) ((at? a0 0).bind fun b80 => S_Parts.j2 k a0 ([] : List (List UInt8)) (b80 != (108 : UInt8)))
theorem ent30 : MG.Enters Tryz.prog 30 := ⟨Tryz.f30, func30, rfl, by decide⟩
theorem g30 (k : Nat) (a0 : List UInt8) (r : List (List UInt8) × Bool) (H : S_Parts k a0 = some r) : Gives Tryz.prog 30 [V.one (cS a0)] [] [V.one (Cell.ow 1 (List.map eS r.1)), V.one (cL r.2)] [] := by
 refine Gives.intro func30 rfl rfl rfl rfl ?_; refine fx fun w0 T S0 ob oh hm => ?_
 have hF := fxe w0 T S0 53 ob oh
 unfold S_Parts at H; obtain ⟨K, hK⟩ := leK k; refine sr ?_; refine ag ?_; refine ag (L.nil ?_); refine sr ?_; refine L.buildSlice (e := eS) 1 ([] : List (List UInt8)) underlying70 info9 rfl rfl rfl hF rfl rfl rfl rfl rfl rfl rfl rfl ?_; refine ag (L.nil ?_); refine WpC.seq ?_; refine WpC.join (fun σ => ∃ (kj2 : Nat) (v10 : List UInt8) (v11 : List (List UInt8)) (v12 : Bool), kj2 ≤ K ∧ S_Parts.j2 kj2 v10 v11 v12 = some r ∧ σ = mkSt [(0, oS v10), (4, one (Cell.own 0)), (19, oL v12)] [(0, ⟨1, List.map eS v11⟩)] [] 1) ?_ ?_
 ·rintro _ ⟨kj2, v10, v11, v12, hkj2, H, rfl⟩
  unfold S_Parts.j2 at H; refine cd H (fun hc H => ?_) (fun hc H => ?_)
  ·refine sr ?_; refine mv ?_; refine ag ?_; refine ag (L.nil ?_); cases H; exact WpC.ret rt
  ·refine WpC.skip (sr ?_); refine mv ?_; obtain ⟨b13, hb13, H⟩ := bindS H; refine L.cutS underlying9 hF rfl rfl rfl rfl rfl hb13 ?_; obtain ⟨r14, hr14, H⟩ := bindS H; refine c0 1 ent99 (g99 kj2  b13 r14 hr14) ?_; refine mv ?_; refine ex ?_; refine ex ?_; refine ag ?_; refine ag (L.nil ?_); refine sr ?_; refine mv ?_; refine bi ?_; refine ag (L.nil ?_); refine WpC.seq (sr ?_); refine ag (L.nil ?_); refine WpC.block ?_; refine WpC.loopL (P := Tryz.prog) (fun n σ => ∃ (v68 : List UInt8) (v69 : List (List UInt8)) (v70 v71 v72 : Int), n ≤ K ∧ S_Parts.l4 n v68 v69 v70 v71 v72 = some r ∧ σ = mkSt [(0, oS v68), (4, one (Cell.own 0)), (5, oI v70), (7, oI v71), (8, oI v72)] [(0, ⟨1, List.map eS v69⟩)] [] 1) kj2 ⟨_, ⟨v10, v11, r14.1, (IntKind.i64.wrap (1 + r14.2)), 0, by omega, H, rfl⟩, lm [(0, 0)] hm⟩ ?_; clear H
   rintro k4 _ ⟨v68, v69, v70, v71, v72, hk4, H, rfl⟩
   cases k4 with
   | zero => cases H
   | succ k4 =>
    rw [S_Parts.l4] at H
    refine WpC.seq (sr ?_); refine mv ?_; refine mv ?_; refine bi (L.nil ?_); refine cd H (fun hc H => ?_) (fun hc H => ?_)
    ·refine WpC.skip (WpC.seq (WpC.block (sr ?_))); refine mv ?_; refine mv ?_; obtain ⟨r76, hr76, H⟩ := bindS H; refine c0 1 ent100 (g100 k4  v68 v71 8 r76 hr76) ?_; refine mv ?_; refine ex ?_; refine ex ?_; refine ag ?_; refine ag (L.nil ?_); refine sr ?_; refine mv ?_; refine mv ?_; refine mv ?_; refine mv ?_; refine mv ?_; refine bi ?_; obtain ⟨b77, hb77, H⟩ := bindS H; refine L.cutS underlying9 hF rfl rfl rfl rfl rfl hb77 ?_; refine L.buildSlice (e := eS) 3 ([b77] : List (List UInt8)) underlying70 info9 rfl rfl rfl hF rfl rfl rfl rfl rfl rfl rfl rfl ?_; obtain ⟨h78, H⟩ := condG H; refine L.append (xs := v69) (ys := ([b77] : List (List UInt8))) (e := eS) 4 underlying70 info9 rfl rfl hF rfl rfl rfl rfl rfl rfl rfl rfl (fun _ => rfl) (fun _ _ h1 h2 => by cases h1; cases h2; rfl) ⟨_, underlying70⟩ (of_decide_eq_true h78) rfl rfl ?_; refine ag (L.nil ?_); refine WpC.regionL ?_; refine mv ?_; refine mv ?_; refine bi ?_; refine ag (L.nil ?_); refine WpC.regionL ?_; refine mv ?_; refine bi ?_; refine ag (L.nil ?_); exact ⟨k4, _, by omega, ⟨v68, (v69 ++ ([b77] : List (List UInt8))), v70, (IntKind.i64.wrap (v71 + r76.1)), (IntKind.i64.wrap (v72 + 1)), by omega, H, rfl⟩, lm [(0, 4)] hm⟩
    ·refine WpC.exit (sr ?_); refine mv ?_; refine ag ?_; refine ag (L.nil ?_); cases H; exact WpC.ret rt
 ·refine WpC.regionL ?_; refine mv ?_; obtain ⟨r79, hr79, H⟩ := bindS H; refine c0 2 ent98 (g98 k  a0 r79 hr79) ?_; refine nt ?_; refine mv ?_; refine sH H (fun hc H => ?_) (fun hc H => ?_)
  ·(repeat refine of ?_); refine pk (L.nil ?_); exact ⟨_, ⟨k, a0, ([] : List (List UInt8)), true, by omega, H, rfl⟩, lm [(0, 1)] hm⟩
  ·refine mv ?_; obtain ⟨b80, hb80, H⟩ := bindS H; refine L.idxS underlying9 hF rfl rfl rfl rfl hb80 ?_; refine L.binB (a := b80) (b := (108 : UInt8)) hF rfl rfl rfl rfl rfl ?_; refine pk (L.nil ?_); exact ⟨_, ⟨k, a0, ([] : List (List UInt8)), (b80 != (108 : UInt8)), by omega, H, rfl⟩, lm [(0, 1)] hm⟩
/-! ### S_l5All -/
def S_l5All.l2 : Nat → (List Int) → Int → Int → Option Bool
 | 0, _, _, _ => none
 | k2 + 1, v54, v55, v56 => cond (decide (v56 < (v54.length : Int))) ((at? v54 v56).bind fun b63 => cond (decide (b63 < 0)) (some false) ((at? v54 v56).bind fun b64 => cond (decide (b64 ≥ v55)) (some false) ((S_l5All.l2 k2) v54 v55 (IntKind.i64.wrap (v56 + 1))))) (some true)
def S_l5All (k : Nat) (a0 : List Int) (a1 a2 : Int) : Option Bool := cond (decide ((a0.length : Int) > a1)) (some false) (S_l5All.l2 k a0 a2 0)
theorem ent106 : MG.Enters Tryz.prog 106 := ⟨Tryz.f106, func106, rfl, by decide⟩
theorem g106 (k : Nat) (g0 : Bool) (a0 : List Int) (a1 a2 : Int) (r : Bool) (H : S_l5All k a0 a1 a2 = some r) : Gives Tryz.prog 106 [V.one (Cell.sl g0 (List.map eI a0)), V.one (cI a1), V.one (cI a2)] [] [V.one (cL r)] [] := by
 refine Gives.intro func106 rfl rfl rfl rfl ?_; refine fx fun w0 T S0 ob oh hm => ?_
 have hF := fxe w0 T S0 31 ob oh
 unfold S_l5All at H; obtain ⟨K, hK⟩ := leK k; refine sr ?_; refine ag (L.nil ?_); refine WpC.seq (sr ?_); refine mv ?_; refine L.lenR (xs := a0) (e := eI) underlying22 hF rfl rfl rfl rfl ?_; refine mv ?_; refine bi (L.nil ?_); refine cd H (fun hc H => ?_) (fun hc H => ?_)
 ·refine sr ?_; refine ag (L.nil ?_); cases H; exact WpC.ret rt
 ·refine WpC.skip (WpC.seq (sr ?_)); refine ag (L.nil ?_); refine WpC.block ?_; refine WpC.loopL (P := Tryz.prog) (fun n σ => ∃ (v54 : List Int) (v55 v56 : Int), n ≤ K ∧ S_l5All.l2 n v54 v55 v56 = some r ∧ σ = mkSt [(0, one (Cell.sl g0 (List.map eI v54))), (2, oI v55), (7, oI v56)] [] [] 0) k ⟨_, ⟨a0, a2, 0, by omega, H, rfl⟩, lm [] hm⟩ ?_; clear H
  rintro k2 _ ⟨v54, v55, v56, hk2, H, rfl⟩
  cases k2 with
  | zero => cases H
  | succ k2 =>
   rw [S_l5All.l2] at H
   refine WpC.seq (sr ?_); refine mv ?_; refine mv ?_; refine L.lenR (xs := v54) (e := eI) underlying22 hF rfl rfl rfl rfl ?_; refine bi (L.nil ?_); refine cd H (fun hc H => ?_) (fun hc H => ?_)
   ·refine WpC.skip (WpC.seq (WpC.block (sr ?_))); refine mv ?_; refine mv ?_; obtain ⟨b63, hb63, H⟩ := bindS H; refine ix underlying22 info3 hb63 ?_; refine le shape3 ?_; refine bi ?_; refine mv ?_; refine sH H (fun hc H => ?_) (fun hc H => ?_)
    ·(repeat refine of ?_); refine pk (L.nil ?_); refine cT ?_; refine sr ?_; refine ag (L.nil ?_); cases H; exact WpC.ret rt
    ·refine mv ?_; refine mv ?_; obtain ⟨b64, hb64, H⟩ := bindS H; refine ix underlying22 info3 hb64 ?_; refine le shape3 ?_; refine mv ?_; refine bi ?_; refine pk (L.nil ?_); refine cd H (fun hc H => ?_) (fun hc H => ?_)
     ·refine sr ?_; refine ag (L.nil ?_); cases H; exact WpC.ret rt
     ·refine WpC.skip (WpC.regionL ?_); refine mv ?_; refine bi ?_; refine ag (L.nil ?_); exact ⟨k2, _, by omega, ⟨v54, v55, (IntKind.i64.wrap (v56 + 1)), by omega, H, rfl⟩, lm [] hm⟩
   ·refine WpC.exit (sr ?_); refine ag (L.nil ?_); cases H; exact WpC.ret rt
/-! ### S_l6Has -/
def S_l6Has.l2 : Nat → (List T_Pair) → Int → T_Pair → Option Bool
 | 0, _, _, _ => none
 | k2 + 1, v24, v25, v26 => cond (decide (v25 < (v24.length : Int))) ((at? v24 v25).bind fun b28 => cond ((b28.A == v26.A) && ((b28.B == v26.B) && true)) (some true) ((S_l6Has.l2 k2) v24 (IntKind.i64.wrap (v25 + 1)) v26)) (some false)
def S_l6Has (k : Nat) (a0 : List T_Pair) (a1 : T_Pair) : Option Bool := S_l6Has.l2 k a0 0 a1
theorem ent168 : MG.Enters Tryz.prog 168 := ⟨Tryz.f168, func168, rfl, by decide⟩
theorem g168 (k : Nat) (g0 : Bool) (a0 : List T_Pair) (a1 : T_Pair) (r : Bool) (H : S_l6Has k a0 a1 = some r) : Gives Tryz.prog 168 [V.one (Cell.sl g0 (List.map eT_Pair a0)), V.agg [cI a1.A, cI a1.B]] [] [V.one (cL r)] [] := by
 refine Gives.intro func168 rfl rfl rfl rfl ?_; refine fx fun w0 T S0 ob oh hm => ?_
 have hF := fxe w0 T S0 18 ob oh
 unfold S_l6Has at H; obtain ⟨K, hK⟩ := leK k; refine sr ?_; refine bo 3 ?_; refine ag (L.nil ?_); refine WpC.seq (sr ?_); refine ag (L.nil ?_); refine WpC.block ?_; refine WpC.loopL (P := Tryz.prog) (fun n σ => ∃ (v24 : List T_Pair) (v25 : Int) (v26 : T_Pair), n ≤ K ∧ S_l6Has.l2 n v24 v25 v26 = some r ∧ σ = mkSt [(0, one (Cell.sl g0 (List.map eT_Pair v24))), (3, oP 0 0), (5, oI v25)] [] [(0, [cI v26.A, cI v26.B])] 1) k ⟨_, ⟨a0, 0, a1, by omega, H, rfl⟩, lm [(0, 3)] hm⟩ ?_; clear H
 rintro k2 _ ⟨v24, v25, v26, hk2, H, rfl⟩
 cases k2 with
 | zero => cases H
 | succ k2 =>
  rw [S_l6Has.l2] at H
  refine WpC.seq (sr ?_); refine mv ?_; refine mv ?_; refine L.lenR (xs := v24) (e := eT_Pair) underlying42 hF rfl rfl rfl rfl ?_; refine bi (L.nil ?_); refine cd H (fun hc H => ?_) (fun hc H => ?_)
  ·refine WpC.skip (WpC.seq (WpC.block (WpC.seq ?_))); refine S.begin mixed (by kernel_rfl) ?_; refine S.st 0 rfl rfl ((Ca.move).quiet) (fun Q0 k0 => mv (L.nil k0)) ?_; refine S.st 1 rfl rfl ((Ca.move).quiet) (fun Q0 k0 => mv (L.nil k0)) ?_; obtain ⟨b28, hb28, H⟩ := bindS H; refine S.st 2 rfl rfl ((Ca.indexAddr).quiet) (fun Q0 k0 => ix underlying42 info147 hb28 (L.nil k0)) ?_; refine S.st 3 rfl rfl (Qu.load) (fun Q0 k0 => le shape147 (L.nil k0)) ?_; refine S.st 4 rfl rfl (Qu.load) (fun Q0 k0 => lp shape147 (L.nil k0)) ?_; refine S.st 5 rfl rfl ((Ca.eqA (r := ((b28.A == v26.A) && ((b28.B == v26.B) && true))) rfl rfl rfl rfl (by kernel_rfl) (by kernel_rfl)).quiet) (fun Q0 k0 => L.eqA (r := ((b28.A == v26.A) && ((b28.B == v26.B) && true))) hF rfl rfl rfl rfl rfl rfl (by kernel_rfl) (by kernel_rfl) (L.nil k0)) ?_; refine S.nil ?_; refine cd H (fun hc H => ?_) (fun hc H => ?_)
   ·refine sr ?_; refine ag (L.nil ?_); cases H; exact WpC.ret rt
   ·refine WpC.skip (WpC.regionL ?_); refine mv ?_; refine bi ?_; refine ag (L.nil ?_); exact ⟨k2, _, by omega, ⟨v24, (IntKind.i64.wrap (v25 + 1)), v26, by omega, H, rfl⟩, lm [(0, 0)] hm⟩
  ·refine WpC.exit (sr ?_); refine ag (L.nil ?_); cases H; exact WpC.ret rt
/-! ### S_l6Pairs -/
def S_l6Pairs.j8 (cl7 : (List T_Pair) → Int → Bool → Int → Option Bool) (k : Nat) (v140 : List T_Pair) (v141 : Int) (v142 : Bool) (v143 : Int) : Option Bool := cl7 v140 v141 v142 (IntKind.i64.wrap (v143 + 1))
def S_l6Pairs.l7 : Nat → (List T_Pair) → Int → Bool → Int → Option Bool
 | 0, _, _, _, _ => none
 | k7 + 1, v127, v128, v129, v130 => cond (decide (v130 < (v127.length : Int))) ((at? v127 v130).bind fun b144 => cond (decide (b144.A < 0)) (some false) (cond (decide (b144.A ≥ v128)) (some false) (cond (decide (b144.B < 0)) (some false) (cond (decide (b144.B ≥ v128)) (some false) (cond v129 (cond (b144.A == b144.B) (some false) ((part? v127 0 v130).bind fun b155 => (S_l6Has k7 b155 b144).bind fun r156 => cond r156 (some false) (S_l6Pairs.j8 (S_l6Pairs.l7 k7) k7 v127 v128 v129 v130))) ((part? v127 0 v130).bind fun b157 => (S_l6Has k7 b157 b144).bind fun r158 => cond r158 (some false) (S_l6Pairs.j8 (S_l6Pairs.l7 k7) k7 v127 v128 v129 v130))))))) (some true)
def S_l6Pairs (k : Nat) (a0 : List T_Pair) (a1 : Int) (a2 : Bool) : Option Bool := cond (decide ((a0.length : Int) > 6)) (some false) (S_l6Pairs.l7 k a0 a1 a2 0)
theorem ent107 : MG.Enters Tryz.prog 107 := ⟨Tryz.f107, func107, rfl, by decide⟩
theorem g107 (k : Nat) (g0 : Bool) (a0 : List T_Pair) (a1 : Int) (a2 r : Bool) (H : S_l6Pairs k a0 a1 a2 = some r) : Gives Tryz.prog 107 [V.one (Cell.sl g0 (List.map eT_Pair a0)), V.one (cI a1), V.one (cL a2)] [] [V.one (cL r)] [] := by
 refine Gives.intro func107 rfl rfl rfl rfl ?_; refine fx fun w0 T S0 ob oh hm => ?_
 have hF := fxe w0 T S0 59 ob oh
 unfold S_l6Pairs at H; obtain ⟨K, hK⟩ := leK k; refine sr ?_; refine ag (L.nil ?_); refine WpC.seq (sr ?_); refine mv ?_; refine L.lenR (xs := a0) (e := eT_Pair) underlying42 hF rfl rfl rfl rfl ?_; refine bi (L.nil ?_); refine cd H (fun hc H => ?_) (fun hc H => ?_)
 ·refine sr ?_; refine ag (L.nil ?_); cases H; exact WpC.ret rt
 ·refine WpC.skip (WpC.seq (sr ?_)); refine ag (L.nil ?_); refine WpC.block ?_; refine WpC.loopL (P := Tryz.prog) (fun n σ => ∃ (v127 : List T_Pair) (v128 : Int) (v129 : Bool) (v130 : Int), n ≤ K ∧ S_l6Pairs.l7 n v127 v128 v129 v130 = some r ∧ σ = mkSt [(0, one (Cell.sl g0 (List.map eT_Pair v127))), (1, oI v128), (2, oL v129), (7, oI v130)] [] [] 0) k ⟨_, ⟨a0, a1, a2, 0, by omega, H, rfl⟩, lm [] hm⟩ ?_; clear H
  rintro k7 _ ⟨v127, v128, v129, v130, hk7, H, rfl⟩
  cases k7 with
  | zero => cases H
  | succ k7 =>
   rw [S_l6Pairs.l7] at H
   refine WpC.seq (sr ?_); refine mv ?_; refine mv ?_; refine L.lenR (xs := v127) (e := eT_Pair) underlying42 hF rfl rfl rfl rfl ?_; refine bi (L.nil ?_); refine cd H (fun hc H => ?_) (fun hc H => ?_)
   ·refine WpC.skip ?_; refine WpC.join (fun σ => ∃ (kj8 : Nat) (v140 : List T_Pair) (v141 : Int) (v142 : Bool) (v143 : Int), kj8 ≤ K ∧ S_l6Pairs.j8 (S_l6Pairs.l7 k7) kj8 v140 v141 v142 v143 = some r ∧ σ = mkSt [(0, one (Cell.sl g0 (List.map eT_Pair v140))), (1, oI v141), (2, oL v142), (7, oI v143)] [] [] 0) ?_ ?_
    ·rintro _ ⟨kj8, v140, v141, v142, v143, hkj8, H, rfl⟩
     unfold S_l6Pairs.j8 at H; refine WpC.regionL ?_; refine mv ?_; refine bi ?_; refine ag (L.nil ?_); exact ⟨k7, _, by omega, ⟨v140, v141, v142, (IntKind.i64.wrap (v143 + 1)), by omega, H, rfl⟩, lm [] hm⟩
    ·refine WpC.block (sr ?_); refine mv ?_; refine mv ?_; obtain ⟨b144, hb144, H⟩ := bindS H; refine ix underlying42 info147 hb144 ?_; refine le shape147 ?_; refine alc 0 info147 ?_; refine sp shape147 (L.nil ?_); refine WpC.seq ?_
     rcases Bool.eq_false_or_eq_true ((decide (b144.A < 0))) with hc149 | hc149
     ·replace H := condT hc149 H
      refine A.begin mixed rfl rfl ?_; intro W hI hO; refine hI _ _ _ ?_; refine tF 0 underlying147 info3 ?_; refine A.all [1] (by kernel_rfl) rfl ⟨⟨_, rfl, ?_⟩, trivial⟩; refine lp shape3 (L.nil ?_); refine Atk 2 rfl (Ca.bin rfl rfl (calm_int _ _ _ _ _ _ _ _)) (fun Q0 k0 => bi (L.nil k0)) ?_; refine tM 3 ?_; refine A.le (τ := mkSt [(0, one (Cell.sl g0 (List.map eT_Pair v127))), (1, oI v128), (2, oL v129), (7, oI v130), (8, oP 0 0), (25, oL true)] [] [(0, [cI b144.A, cI b144.B])] 1) (Le.mk [(0, 0)] hm rfl (Sa4 (Sa1 (Sa1 trivial rfl (congrArg (fun b => some (one (cL b))) hc149)))) trivial (Ba1 trivial)) ?_; refine tO 4 ?_; refine tO 5 ?_; refine tO 6 ?_; refine tO 7 ?_; refine tP 8 ?_; refine tM 9 ?_; refine tO 10 ?_; refine tO 11 ?_; refine tO 12 ?_; refine tP 13 ?_; refine A.le (τ := mkSt [(0, one (Cell.sl g0 (List.map eT_Pair v127))), (1, oI v128), (2, oL v129), (7, oI v130), (8, oP 0 0), (35, oL true)] [] [(0, [cI b144.A, cI b144.B])] 1) (lm [(0, 0)] hm) ?_; refine tM 14 ?_
      refine tO 15 ?_; refine tO 16 ?_; refine tO 17 ?_; refine tO 18 ?_; refine tP 19 ?_; refine tM 20 ?_; refine tO 21 ?_; refine tO 22 ?_; refine tO 23 ?_; refine A.le (τ := mkSt [(0, one (Cell.sl g0 (List.map eT_Pair v127))), (1, oI v128), (2, oL v129), (7, oI v130), (8, oP 0 0), (42, oL true), (44, Slot.tup []), (45, Slot.tup [])] [] [(0, [cI b144.A, cI b144.B])] 1) (lm [(0, 0)] hm) ?_; refine tO 24 ?_; refine tO 25 ?_; refine tO 26 ?_; refine tO 27 ?_; refine tO 28 ?_; refine tP 29 ?_; refine tM 30 ?_; refine tO 31 ?_; refine tO 32 ?_; refine tO 33 ?_; refine A.le (τ := mkSt [(0, one (Cell.sl g0 (List.map eT_Pair v127))), (1, oI v128), (2, oL v129), (7, oI v130), (8, oP 0 0), (52, oL true), (55, Slot.tup [])] [] [(0, [cI b144.A, cI b144.B])] 1) (lm [(0, 0)] hm) ?_; refine tO 34 ?_; refine A.all [35] (by kernel_rfl) rfl ⟨⟨_, rfl, ?_⟩, trivial⟩; refine of (L.nil ?_); refine tP 36 ?_
      refine A.le (τ := mkSt [(0, one (Cell.sl g0 (List.map eT_Pair v127))), (1, oI v128), (2, oL v129), (7, oI v130), (58, oL true)] [] [] 0) (lm [] hm) ?_; refine A.done (by kernel_rfl) ?_; refine cT ?_; refine sr ?_; refine ag (L.nil ?_); cases H; exact WpC.ret rt
     ·replace H := condF hc149 H
      rcases Bool.eq_false_or_eq_true ((decide (b144.A ≥ v128))) with hc150 | hc150
      ·replace H := condT hc150 H
       refine A.begin mixed rfl rfl ?_; intro W hI hO; refine hI _ _ _ ?_; refine tF 0 underlying147 info3 ?_; refine A.all [1] (by kernel_rfl) rfl ⟨⟨_, rfl, ?_⟩, trivial⟩; refine lp shape3 (L.nil ?_); refine Atk 2 rfl (Ca.bin rfl rfl (calm_int _ _ _ _ _ _ _ _)) (fun Q0 k0 => bi (L.nil k0)) ?_; refine tM 3 ?_; refine A.le (τ := mkSt [(0, one (Cell.sl g0 (List.map eT_Pair v127))), (1, oI v128), (2, oL v129), (7, oI v130), (8, oP 0 0), (25, oL false)] [] [(0, [cI b144.A, cI b144.B])] 1) (Le.mk [(0, 0)] hm rfl (Sa4 (Sa1 (Sa1 trivial rfl (congrArg (fun b => some (one (cL b))) hc149)))) trivial (Ba1 trivial)) ?_; refine tF 4 underlying147 info3 ?_; refine tM 6 ?_; refine A.all [5] (by kernel_rfl) rfl ⟨⟨_, rfl, ?_⟩, trivial⟩; refine lp shape3 (L.nil ?_); refine Atk 7 rfl (Ca.bin rfl rfl (calm_int _ _ _ _ _ _ _ _)) (fun Q0 k0 => bi (L.nil k0)) ?_; refine tP 8 ?_; refine tM 9 ?_
       refine A.le (τ := mkSt [(0, one (Cell.sl g0 (List.map eT_Pair v127))), (1, oI v128), (2, oL v129), (7, oI v130), (8, oP 0 0), (31, oL true)] [] [(0, [cI b144.A, cI b144.B])] 1) (Le.mk [(0, 0)] hm rfl (Sa4 (Sa1 (Sa1 trivial rfl (congrArg (fun b => some (one (cL b))) hc150)))) trivial (Ba1 trivial)) ?_; refine tO 10 ?_; refine tO 11 ?_; refine tO 12 ?_; refine tP 13 ?_; refine tM 14 ?_; refine tO 15 ?_; refine tO 16 ?_; refine tO 17 ?_; refine tO 18 ?_; refine tP 19 ?_; refine A.le (τ := mkSt [(0, one (Cell.sl g0 (List.map eT_Pair v127))), (1, oI v128), (2, oL v129), (7, oI v130), (8, oP 0 0), (41, oL true)] [] [(0, [cI b144.A, cI b144.B])] 1) (lm [(0, 0)] hm) ?_; refine tM 20 ?_; refine tO 21 ?_; refine tO 22 ?_; refine tO 23 ?_; refine tO 24 ?_; refine tO 25 ?_; refine tO 26 ?_; refine tO 27 ?_; refine tO 28 ?_; refine tP 29 ?_
       refine A.le (τ := mkSt [(0, one (Cell.sl g0 (List.map eT_Pair v127))), (1, oI v128), (2, oL v129), (7, oI v130), (8, oP 0 0), (51, oL true)] [] [(0, [cI b144.A, cI b144.B])] 1) (lm [(0, 0)] hm) ?_; refine tM 30 ?_; refine tO 31 ?_; refine tO 32 ?_; refine tO 33 ?_; refine tO 34 ?_; refine A.all [35] (by kernel_rfl) rfl ⟨⟨_, rfl, ?_⟩, trivial⟩; refine of (L.nil ?_); refine tP 36 ?_; refine A.le (τ := mkSt [(0, one (Cell.sl g0 (List.map eT_Pair v127))), (1, oI v128), (2, oL v129), (7, oI v130), (58, oL true)] [] [] 0) (lm [] hm) ?_; refine A.done (by kernel_rfl) ?_; refine cT ?_; refine sr ?_; refine ag (L.nil ?_); cases H; exact WpC.ret rt
      ·replace H := condF hc150 H
       rcases Bool.eq_false_or_eq_true ((decide (b144.B < 0))) with hc151 | hc151
       ·replace H := condT hc151 H
        refine A.begin mixed rfl rfl ?_; intro W hI hO; refine hI _ _ _ ?_; refine tF 0 underlying147 info3 ?_; refine A.all [1] (by kernel_rfl) rfl ⟨⟨_, rfl, ?_⟩, trivial⟩; refine lp shape3 (L.nil ?_); refine Atk 2 rfl (Ca.bin rfl rfl (calm_int _ _ _ _ _ _ _ _)) (fun Q0 k0 => bi (L.nil k0)) ?_; refine tM 3 ?_; refine A.le (τ := mkSt [(0, one (Cell.sl g0 (List.map eT_Pair v127))), (1, oI v128), (2, oL v129), (7, oI v130), (8, oP 0 0), (25, oL false)] [] [(0, [cI b144.A, cI b144.B])] 1) (Le.mk [(0, 0)] hm rfl (Sa4 (Sa1 (Sa1 trivial rfl (congrArg (fun b => some (one (cL b))) hc149)))) trivial (Ba1 trivial)) ?_; refine tF 4 underlying147 info3 ?_; refine tM 6 ?_; refine A.all [5] (by kernel_rfl) rfl ⟨⟨_, rfl, ?_⟩, trivial⟩; refine lp shape3 (L.nil ?_); refine Atk 7 rfl (Ca.bin rfl rfl (calm_int _ _ _ _ _ _ _ _)) (fun Q0 k0 => bi (L.nil k0)) ?_; refine tP 8 ?_; refine tM 9 ?_
        refine A.le (τ := mkSt [(0, one (Cell.sl g0 (List.map eT_Pair v127))), (1, oI v128), (2, oL v129), (7, oI v130), (8, oP 0 0), (31, oL false)] [] [(0, [cI b144.A, cI b144.B])] 1) (Le.mk [(0, 0)] hm rfl (Sa4 (Sa1 (Sa1 trivial rfl (congrArg (fun b => some (one (cL b))) hc150)))) trivial (Ba1 trivial)) ?_; refine tF 10 underlying147 info3 ?_; refine A.all [11] (by kernel_rfl) rfl ⟨⟨_, rfl, ?_⟩, trivial⟩; refine lp shape3 (L.nil ?_); refine Atk 12 rfl (Ca.bin rfl rfl (calm_int _ _ _ _ _ _ _ _)) (fun Q0 k0 => bi (L.nil k0)) ?_; refine tP 13 ?_; refine tM 14 ?_; refine A.le (τ := mkSt [(0, one (Cell.sl g0 (List.map eT_Pair v127))), (1, oI v128), (2, oL v129), (7, oI v130), (8, oP 0 0), (36, oL true)] [] [(0, [cI b144.A, cI b144.B])] 1) (Le.mk [(0, 0)] hm rfl (Sa4 (Sa1 (Sa1 trivial rfl (congrArg (fun b => some (one (cL b))) hc151)))) trivial (Ba1 trivial)) ?_; refine tO 15 ?_; refine tO 16 ?_; refine tO 17 ?_; refine tO 18 ?_; refine tP 19 ?_; refine tM 20 ?_; refine tO 21 ?_; refine tO 22 ?_; refine tO 23 ?_; refine tO 24 ?_
        refine A.le (τ := mkSt [(0, one (Cell.sl g0 (List.map eT_Pair v127))), (1, oI v128), (2, oL v129), (7, oI v130), (8, oP 0 0), (42, oL true), (44, Slot.tup []), (46, Slot.tup [])] [] [(0, [cI b144.A, cI b144.B])] 1) (lm [(0, 0)] hm) ?_; refine tO 25 ?_; refine tO 26 ?_; refine tO 27 ?_; refine tO 28 ?_; refine tP 29 ?_; refine tM 30 ?_; refine tO 31 ?_; refine tO 32 ?_; refine tO 33 ?_; refine tO 34 ?_; refine A.le (τ := mkSt [(0, one (Cell.sl g0 (List.map eT_Pair v127))), (1, oI v128), (2, oL v129), (7, oI v130), (52, oL true), (55, Slot.tup []), (56, Slot.tup [])] [] [] 0) (lm [] hm) ?_; refine A.all [35] (by kernel_rfl) rfl ⟨⟨_, rfl, ?_⟩, trivial⟩; refine of (L.nil ?_); refine tP 36 ?_; refine A.le (τ := mkSt [(0, one (Cell.sl g0 (List.map eT_Pair v127))), (1, oI v128), (2, oL v129), (7, oI v130), (58, oL true)] [] [] 0) (lm [] hm) ?_; refine A.done (by kernel_rfl) ?_; refine cT ?_; refine sr ?_; refine ag (L.nil ?_); cases H; exact WpC.ret rt
       ·replace H := condF hc151 H
        rcases Bool.eq_false_or_eq_true ((decide (b144.B ≥ v128))) with hc152 | hc152
        ·replace H := condT hc152 H
         refine A.begin mixed rfl rfl ?_; intro W hI hO; refine hI _ _ _ ?_; refine tF 0 underlying147 info3 ?_; refine A.all [1] (by kernel_rfl) rfl ⟨⟨_, rfl, ?_⟩, trivial⟩; refine lp shape3 (L.nil ?_); refine Atk 2 rfl (Ca.bin rfl rfl (calm_int _ _ _ _ _ _ _ _)) (fun Q0 k0 => bi (L.nil k0)) ?_; refine tM 3 ?_; refine A.le (τ := mkSt [(0, one (Cell.sl g0 (List.map eT_Pair v127))), (1, oI v128), (2, oL v129), (7, oI v130), (8, oP 0 0), (25, oL false)] [] [(0, [cI b144.A, cI b144.B])] 1) (Le.mk [(0, 0)] hm rfl (Sa4 (Sa1 (Sa1 trivial rfl (congrArg (fun b => some (one (cL b))) hc149)))) trivial (Ba1 trivial)) ?_; refine tF 4 underlying147 info3 ?_; refine tM 6 ?_; refine A.all [5] (by kernel_rfl) rfl ⟨⟨_, rfl, ?_⟩, trivial⟩; refine lp shape3 (L.nil ?_); refine Atk 7 rfl (Ca.bin rfl rfl (calm_int _ _ _ _ _ _ _ _)) (fun Q0 k0 => bi (L.nil k0)) ?_; refine tP 8 ?_; refine tM 9 ?_
         refine A.le (τ := mkSt [(0, one (Cell.sl g0 (List.map eT_Pair v127))), (1, oI v128), (2, oL v129), (7, oI v130), (8, oP 0 0), (31, oL false)] [] [(0, [cI b144.A, cI b144.B])] 1) (Le.mk [(0, 0)] hm rfl (Sa4 (Sa1 (Sa1 trivial rfl (congrArg (fun b => some (one (cL b))) hc150)))) trivial (Ba1 trivial)) ?_; refine tF 10 underlying147 info3 ?_; refine A.all [11] (by kernel_rfl) rfl ⟨⟨_, rfl, ?_⟩, trivial⟩; refine lp shape3 (L.nil ?_); refine Atk 12 rfl (Ca.bin rfl rfl (calm_int _ _ _ _ _ _ _ _)) (fun Q0 k0 => bi (L.nil k0)) ?_; refine tP 13 ?_; refine tM 14 ?_; refine A.le (τ := mkSt [(0, one (Cell.sl g0 (List.map eT_Pair v127))), (1, oI v128), (2, oL v129), (7, oI v130), (8, oP 0 0), (36, oL false)] [] [(0, [cI b144.A, cI b144.B])] 1) (Le.mk [(0, 0)] hm rfl (Sa4 (Sa1 (Sa1 trivial rfl (congrArg (fun b => some (one (cL b))) hc151)))) trivial (Ba1 trivial)) ?_; refine tF 15 underlying147 info3 ?_; refine tM 17 ?_; refine A.all [16] (by kernel_rfl) rfl ⟨⟨_, rfl, ?_⟩, trivial⟩; refine lp shape3 (L.nil ?_)
         refine Atk 18 rfl (Ca.bin rfl rfl (calm_int _ _ _ _ _ _ _ _)) (fun Q0 k0 => bi (L.nil k0)) ?_; refine tP 19 ?_; refine tM 20 ?_; refine A.le (τ := mkSt [(0, one (Cell.sl g0 (List.map eT_Pair v127))), (1, oI v128), (2, oL v129), (7, oI v130), (8, oP 0 0), (42, oL true)] [] [(0, [cI b144.A, cI b144.B])] 1) (Le.mk [(0, 0)] hm rfl (Sa4 (Sa1 (Sa1 trivial rfl (congrArg (fun b => some (one (cL b))) hc152)))) trivial (Ba1 trivial)) ?_; refine tO 21 ?_; refine tO 22 ?_; refine tO 23 ?_; refine tO 24 ?_; refine tO 25 ?_; refine tO 26 ?_; refine tO 27 ?_; refine tO 28 ?_; refine tP 29 ?_; refine tM 30 ?_; refine A.le (τ := mkSt [(0, one (Cell.sl g0 (List.map eT_Pair v127))), (1, oI v128), (2, oL v129), (7, oI v130), (8, oP 0 0), (52, oL true)] [] [(0, [cI b144.A, cI b144.B])] 1) (lm [(0, 0)] hm) ?_; refine tO 31 ?_; refine tO 32 ?_; refine tO 33 ?_; refine tO 34 ?_; refine A.all [35] (by kernel_rfl) rfl ⟨⟨_, rfl, ?_⟩, trivial⟩; refine of (L.nil ?_); refine tP 36 ?_
         refine A.le (τ := mkSt [(0, one (Cell.sl g0 (List.map eT_Pair v127))), (1, oI v128), (2, oL v129), (7, oI v130), (58, oL true)] [] [] 0) (lm [] hm) ?_; refine A.done (by kernel_rfl) ?_; refine cT ?_; refine sr ?_; refine ag (L.nil ?_); cases H; exact WpC.ret rt
        ·replace H := condF hc152 H
         rcases Bool.eq_false_or_eq_true (v129) with hc153 | hc153
         ·replace H := condT hc153 H
          rcases Bool.eq_false_or_eq_true ((b144.A == b144.B)) with hc154 | hc154
          ·replace H := condT hc154 H
           refine A.begin mixed rfl rfl ?_; intro W hI hO
           have n134217727 : W 10 #[true, true, true, true, true, true, true, true, true, true, true, true, true, true, true, true, true, true, true, true, true, true, true, true, true, true, true, false, false, false, false, false, false, false, false, false, false] (mkSt [(0, one (Cell.sl g0 (List.map eT_Pair v127))), (1, oI v128), (2, oL v129), (7, oI v130), (8, oP 0 0), (42, oL false), (44, oL true), (46, oI b144.A), (48, oI b144.B)] [] [(0, [cI b144.A, cI b144.B])] 1) := by
            refine hI _ _ _ ?_; refine Atk 27 rfl (Ca.bin rfl rfl (calm_int _ _ _ _ _ _ _ _)) (fun Q0 k0 => bi (L.nil k0)) ?_; refine tP 28 ?_; refine tP 29 ?_; refine tM 30 ?_; refine A.le (τ := mkSt [(0, one (Cell.sl g0 (List.map eT_Pair v127))), (1, oI v128), (2, oL v129), (7, oI v130), (8, oP 0 0), (52, oL true)] [] [(0, [cI b144.A, cI b144.B])] 1) (Le.mk [(0, 0)] hm rfl (Sa4 (Sa1 (Sa1 trivial rfl (congrArg (fun b => some (one (cL b))) hc154)))) trivial (Ba1 trivial)) ?_; refine tO 31 ?_; refine tO 32 ?_; refine tO 33 ?_; refine tO 34 ?_; refine A.all [35] (by kernel_rfl) rfl ⟨⟨_, rfl, ?_⟩, trivial⟩; refine of (L.nil ?_); refine tP 36 ?_; refine A.le (τ := mkSt [(0, one (Cell.sl g0 (List.map eT_Pair v127))), (1, oI v128), (2, oL v129), (7, oI v130), (58, oL true)] [] [] 0) (lm [] hm) ?_; refine A.done (by kernel_rfl) ?_; refine cT ?_; refine sr ?_; refine ag (L.nil ?_); cases H; exact WpC.ret rt
           refine hI _ _ _ ?_; refine tF 0 underlying147 info3 ?_; refine A.all [1] (by kernel_rfl) rfl ⟨⟨_, rfl, ?_⟩, trivial⟩; refine lp shape3 (L.nil ?_); refine Atk 2 rfl (Ca.bin rfl rfl (calm_int _ _ _ _ _ _ _ _)) (fun Q0 k0 => bi (L.nil k0)) ?_; refine tM 3 ?_; refine A.le (τ := mkSt [(0, one (Cell.sl g0 (List.map eT_Pair v127))), (1, oI v128), (2, oL v129), (7, oI v130), (8, oP 0 0), (25, oL false)] [] [(0, [cI b144.A, cI b144.B])] 1) (Le.mk [(0, 0)] hm rfl (Sa4 (Sa1 (Sa1 trivial rfl (congrArg (fun b => some (one (cL b))) hc149)))) trivial (Ba1 trivial)) ?_; refine tF 4 underlying147 info3 ?_; refine tM 6 ?_; refine A.all [5] (by kernel_rfl) rfl ⟨⟨_, rfl, ?_⟩, trivial⟩; refine lp shape3 (L.nil ?_); refine Atk 7 rfl (Ca.bin rfl rfl (calm_int _ _ _ _ _ _ _ _)) (fun Q0 k0 => bi (L.nil k0)) ?_; refine tP 8 ?_; refine tM 9 ?_
           refine A.le (τ := mkSt [(0, one (Cell.sl g0 (List.map eT_Pair v127))), (1, oI v128), (2, oL v129), (7, oI v130), (8, oP 0 0), (31, oL false)] [] [(0, [cI b144.A, cI b144.B])] 1) (Le.mk [(0, 0)] hm rfl (Sa4 (Sa1 (Sa1 trivial rfl (congrArg (fun b => some (one (cL b))) hc150)))) trivial (Ba1 trivial)) ?_; refine tF 10 underlying147 info3 ?_; refine A.all [11] (by kernel_rfl) rfl ⟨⟨_, rfl, ?_⟩, trivial⟩; refine lp shape3 (L.nil ?_); refine Atk 12 rfl (Ca.bin rfl rfl (calm_int _ _ _ _ _ _ _ _)) (fun Q0 k0 => bi (L.nil k0)) ?_; refine tP 13 ?_; refine tM 14 ?_; refine A.le (τ := mkSt [(0, one (Cell.sl g0 (List.map eT_Pair v127))), (1, oI v128), (2, oL v129), (7, oI v130), (8, oP 0 0), (36, oL false)] [] [(0, [cI b144.A, cI b144.B])] 1) (Le.mk [(0, 0)] hm rfl (Sa4 (Sa1 (Sa1 trivial rfl (congrArg (fun b => some (one (cL b))) hc151)))) trivial (Ba1 trivial)) ?_; refine tF 15 underlying147 info3 ?_; refine tM 17 ?_; refine A.all [16] (by kernel_rfl) rfl ⟨⟨_, rfl, ?_⟩, trivial⟩; refine lp shape3 (L.nil ?_)
           refine Atk 18 rfl (Ca.bin rfl rfl (calm_int _ _ _ _ _ _ _ _)) (fun Q0 k0 => bi (L.nil k0)) ?_; refine tP 19 ?_; refine tM 20 ?_; refine A.le (τ := mkSt [(0, one (Cell.sl g0 (List.map eT_Pair v127))), (1, oI v128), (2, oL v129), (7, oI v130), (8, oP 0 0), (42, oL false)] [] [(0, [cI b144.A, cI b144.B])] 1) (Le.mk [(0, 0)] hm rfl (Sa4 (Sa1 (Sa1 trivial rfl (congrArg (fun b => some (one (cL b))) hc152)))) trivial (Ba1 trivial)) ?_; refine tM 21 ?_; refine tM 22 ?_; refine A.le (τ := mkSt [(0, one (Cell.sl g0 (List.map eT_Pair v127))), (1, oI v128), (2, oL v129), (7, oI v130), (8, oP 0 0), (42, oL false), (44, oL true)] [] [(0, [cI b144.A, cI b144.B])] 1) (Le.mk [(0, 0)] hm rfl (Sa4 (Sa2 (Sa1 trivial rfl (congrArg (fun b => some (one (cL b))) hc153)))) trivial (Ba1 trivial)) ?_; refine tF 23 underlying147 info3 ?_; refine tF 25 underlying147 info3 ?_; refine A.all [24, 26] (by kernel_rfl) rfl ⟨⟨_, rfl, ?_⟩, ⟨_, rfl, ?_⟩, trivial⟩
           ·refine lp shape3 (L.nil ?_); refine A.all [26] (by kernel_rfl) rfl ⟨⟨_, rfl, ?_⟩, trivial⟩; refine lp shape3 (L.nil ?_); exact A.on (hO _ _ _ n134217727) (lm [(0, 0)] hm)
           ·refine lp shape3 (L.nil ?_); refine A.all [24] (by kernel_rfl) rfl ⟨⟨_, rfl, ?_⟩, trivial⟩; refine lp shape3 (L.nil ?_); exact A.on (hO _ _ _ n134217727) (lm [(0, 0)] hm)
          ·replace H := condF hc154 H
           obtain ⟨b155, hb155, H⟩ := bindS H; obtain ⟨r156, hr156, H⟩ := bindS H; refine A.begin mixed rfl rfl ?_; intro W hI hO
           have n134217727 : W 10 #[true, true, true, true, true, true, true, true, true, true, true, true, true, true, true, true, true, true, true, true, true, true, true, true, true, true, true, false, false, false, false, false, false, false, false, false, false] (mkSt [(0, one (Cell.sl g0 (List.map eT_Pair v127))), (1, oI v128), (2, oL v129), (7, oI v130), (8, oP 0 0), (42, oL false), (44, oL true), (46, oI b144.A), (48, oI b144.B)] [] [(0, [cI b144.A, cI b144.B])] 1) := by
            refine hI _ _ _ ?_; refine Atk 27 rfl (Ca.bin rfl rfl (calm_int _ _ _ _ _ _ _ _)) (fun Q0 k0 => bi (L.nil k0)) ?_; refine tP 28 ?_; refine tP 29 ?_; refine tM 30 ?_; refine A.le (τ := mkSt [(0, one (Cell.sl g0 (List.map eT_Pair v127))), (1, oI v128), (2, oL v129), (7, oI v130), (8, oP 0 0), (52, oL false)] [] [(0, [cI b144.A, cI b144.B])] 1) (Le.mk [(0, 0)] hm rfl (Sa4 (Sa1 (Sa1 trivial rfl (congrArg (fun b => some (one (cL b))) hc154)))) trivial (Ba1 trivial)) ?_; refine tM 31 ?_; refine tM 32 ?_; refine Atk 33 rfl (Ca.slice) (fun Q0 k0 => L.cutR (xs := v127) (ys := b155) (e := eT_Pair) underlying42 info147 hF rfl rfl rfl rfl rfl hb155 (fun _ => rfl) (L.nil k0)) ?_; refine A.all [34] (by kernel_rfl) rfl ⟨⟨_, rfl, ?_⟩, trivial⟩; refine lp shape147 (L.nil ?_); refine A.all [35] (by kernel_rfl) rfl ⟨⟨_, rfl, ?_⟩, trivial⟩; refine c0 1 ent168 (g168 k7 g0 b155 b144 r156 hr156) (L.nil ?_); refine tP 36 ?_; refine A.le (τ := mkSt [(0, one (Cell.sl g0 (List.map eT_Pair v127))), (1, oI v128), (2, oL v129), (7, oI v130), (58, oL r156)] [] [] 0) (lm [] hm) ?_
            refine A.done (by kernel_rfl) ?_; refine cd H (fun hc H => ?_) (fun hc H => ?_)
            ·refine sr ?_; refine ag (L.nil ?_); cases H; exact WpC.ret rt
            ·refine WpC.skip ?_; exact ⟨_, ⟨k7, v127, v128, v129, v130, by omega, H, rfl⟩, lm [] hm⟩
           refine hI _ _ _ ?_; refine tF 0 underlying147 info3 ?_; refine A.all [1] (by kernel_rfl) rfl ⟨⟨_, rfl, ?_⟩, trivial⟩; refine lp shape3 (L.nil ?_); refine Atk 2 rfl (Ca.bin rfl rfl (calm_int _ _ _ _ _ _ _ _)) (fun Q0 k0 => bi (L.nil k0)) ?_; refine tM 3 ?_; refine A.le (τ := mkSt [(0, one (Cell.sl g0 (List.map eT_Pair v127))), (1, oI v128), (2, oL v129), (7, oI v130), (8, oP 0 0), (25, oL false)] [] [(0, [cI b144.A, cI b144.B])] 1) (Le.mk [(0, 0)] hm rfl (Sa4 (Sa1 (Sa1 trivial rfl (congrArg (fun b => some (one (cL b))) hc149)))) trivial (Ba1 trivial)) ?_; refine tF 4 underlying147 info3 ?_; refine tM 6 ?_; refine A.all [5] (by kernel_rfl) rfl ⟨⟨_, rfl, ?_⟩, trivial⟩; refine lp shape3 (L.nil ?_); refine Atk 7 rfl (Ca.bin rfl rfl (calm_int _ _ _ _ _ _ _ _)) (fun Q0 k0 => bi (L.nil k0)) ?_; refine tP 8 ?_; refine tM 9 ?_
           refine A.le (τ := mkSt [(0, one (Cell.sl g0 (List.map eT_Pair v127))), (1, oI v128), (2, oL v129), (7, oI v130), (8, oP 0 0), (31, oL false)] [] [(0, [cI b144.A, cI b144.B])] 1) (Le.mk [(0, 0)] hm rfl (Sa4 (Sa1 (Sa1 trivial rfl (congrArg (fun b => some (one (cL b))) hc150)))) trivial (Ba1 trivial)) ?_; refine tF 10 underlying147 info3 ?_; refine A.all [11] (by kernel_rfl) rfl ⟨⟨_, rfl, ?_⟩, trivial⟩; refine lp shape3 (L.nil ?_); refine Atk 12 rfl (Ca.bin rfl rfl (calm_int _ _ _ _ _ _ _ _)) (fun Q0 k0 => bi (L.nil k0)) ?_; refine tP 13 ?_; refine tM 14 ?_; refine A.le (τ := mkSt [(0, one (Cell.sl g0 (List.map eT_Pair v127))), (1, oI v128), (2, oL v129), (7, oI v130), (8, oP 0 0), (36, oL false)] [] [(0, [cI b144.A, cI b144.B])] 1) (Le.mk [(0, 0)] hm rfl (Sa4 (Sa1 (Sa1 trivial rfl (congrArg (fun b => some (one (cL b))) hc151)))) trivial (Ba1 trivial)) ?_; refine tF 15 underlying147 info3 ?_; refine tM 17 ?_; refine A.all [16] (by kernel_rfl) rfl ⟨⟨_, rfl, ?_⟩, trivial⟩; refine lp shape3 (L.nil ?_)
           refine Atk 18 rfl (Ca.bin rfl rfl (calm_int _ _ _ _ _ _ _ _)) (fun Q0 k0 => bi (L.nil k0)) ?_; refine tP 19 ?_; refine tM 20 ?_; refine A.le (τ := mkSt [(0, one (Cell.sl g0 (List.map eT_Pair v127))), (1, oI v128), (2, oL v129), (7, oI v130), (8, oP 0 0), (42, oL false)] [] [(0, [cI b144.A, cI b144.B])] 1) (Le.mk [(0, 0)] hm rfl (Sa4 (Sa1 (Sa1 trivial rfl (congrArg (fun b => some (one (cL b))) hc152)))) trivial (Ba1 trivial)) ?_; refine tM 21 ?_; refine tM 22 ?_; refine A.le (τ := mkSt [(0, one (Cell.sl g0 (List.map eT_Pair v127))), (1, oI v128), (2, oL v129), (7, oI v130), (8, oP 0 0), (42, oL false), (44, oL true)] [] [(0, [cI b144.A, cI b144.B])] 1) (Le.mk [(0, 0)] hm rfl (Sa4 (Sa2 (Sa1 trivial rfl (congrArg (fun b => some (one (cL b))) hc153)))) trivial (Ba1 trivial)) ?_; refine tF 23 underlying147 info3 ?_; refine tF 25 underlying147 info3 ?_; refine A.all [24, 26] (by kernel_rfl) rfl ⟨⟨_, rfl, ?_⟩, ⟨_, rfl, ?_⟩, trivial⟩
           ·refine lp shape3 (L.nil ?_); refine A.all [26] (by kernel_rfl) rfl ⟨⟨_, rfl, ?_⟩, trivial⟩; refine lp shape3 (L.nil ?_); exact A.on (hO _ _ _ n134217727) (lm [(0, 0)] hm)
           ·refine lp shape3 (L.nil ?_); refine A.all [24] (by kernel_rfl) rfl ⟨⟨_, rfl, ?_⟩, trivial⟩; refine lp shape3 (L.nil ?_); exact A.on (hO _ _ _ n134217727) (lm [(0, 0)] hm)
         ·replace H := condF hc153 H
          obtain ⟨b157, hb157, H⟩ := bindS H; obtain ⟨r158, hr158, H⟩ := bindS H; refine A.begin mixed rfl rfl ?_; intro W hI hO; refine hI _ _ _ ?_; refine tF 0 underlying147 info3 ?_; refine A.all [1] (by kernel_rfl) rfl ⟨⟨_, rfl, ?_⟩, trivial⟩; refine lp shape3 (L.nil ?_); refine Atk 2 rfl (Ca.bin rfl rfl (calm_int _ _ _ _ _ _ _ _)) (fun Q0 k0 => bi (L.nil k0)) ?_; refine tM 3 ?_; refine A.le (τ := mkSt [(0, one (Cell.sl g0 (List.map eT_Pair v127))), (1, oI v128), (2, oL v129), (7, oI v130), (8, oP 0 0), (25, oL false)] [] [(0, [cI b144.A, cI b144.B])] 1) (Le.mk [(0, 0)] hm rfl (Sa4 (Sa1 (Sa1 trivial rfl (congrArg (fun b => some (one (cL b))) hc149)))) trivial (Ba1 trivial)) ?_; refine tF 4 underlying147 info3 ?_; refine tM 6 ?_; refine A.all [5] (by kernel_rfl) rfl ⟨⟨_, rfl, ?_⟩, trivial⟩; refine lp shape3 (L.nil ?_); refine Atk 7 rfl (Ca.bin rfl rfl (calm_int _ _ _ _ _ _ _ _)) (fun Q0 k0 => bi (L.nil k0)) ?_; refine tP 8 ?_; refine tM 9 ?_
          refine A.le (τ := mkSt [(0, one (Cell.sl g0 (List.map eT_Pair v127))), (1, oI v128), (2, oL v129), (7, oI v130), (8, oP 0 0), (31, oL false)] [] [(0, [cI b144.A, cI b144.B])] 1) (Le.mk [(0, 0)] hm rfl (Sa4 (Sa1 (Sa1 trivial rfl (congrArg (fun b => some (one (cL b))) hc150)))) trivial (Ba1 trivial)) ?_; refine tF 10 underlying147 info3 ?_; refine A.all [11] (by kernel_rfl) rfl ⟨⟨_, rfl, ?_⟩, trivial⟩; refine lp shape3 (L.nil ?_); refine Atk 12 rfl (Ca.bin rfl rfl (calm_int _ _ _ _ _ _ _ _)) (fun Q0 k0 => bi (L.nil k0)) ?_; refine tP 13 ?_; refine tM 14 ?_; refine A.le (τ := mkSt [(0, one (Cell.sl g0 (List.map eT_Pair v127))), (1, oI v128), (2, oL v129), (7, oI v130), (8, oP 0 0), (36, oL false)] [] [(0, [cI b144.A, cI b144.B])] 1) (Le.mk [(0, 0)] hm rfl (Sa4 (Sa1 (Sa1 trivial rfl (congrArg (fun b => some (one (cL b))) hc151)))) trivial (Ba1 trivial)) ?_; refine tF 15 underlying147 info3 ?_; refine tM 17 ?_; refine A.all [16] (by kernel_rfl) rfl ⟨⟨_, rfl, ?_⟩, trivial⟩; refine lp shape3 (L.nil ?_)
          refine Atk 18 rfl (Ca.bin rfl rfl (calm_int _ _ _ _ _ _ _ _)) (fun Q0 k0 => bi (L.nil k0)) ?_; refine tP 19 ?_; refine tM 20 ?_; refine A.le (τ := mkSt [(0, one (Cell.sl g0 (List.map eT_Pair v127))), (1, oI v128), (2, oL v129), (7, oI v130), (8, oP 0 0), (42, oL false)] [] [(0, [cI b144.A, cI b144.B])] 1) (Le.mk [(0, 0)] hm rfl (Sa4 (Sa1 (Sa1 trivial rfl (congrArg (fun b => some (one (cL b))) hc152)))) trivial (Ba1 trivial)) ?_; refine tM 21 ?_; refine tM 22 ?_; refine A.le (τ := mkSt [(0, one (Cell.sl g0 (List.map eT_Pair v127))), (1, oI v128), (2, oL v129), (7, oI v130), (8, oP 0 0), (42, oL false), (44, oL false)] [] [(0, [cI b144.A, cI b144.B])] 1) (Le.mk [(0, 0)] hm rfl (Sa4 (Sa2 (Sa1 trivial rfl (congrArg (fun b => some (one (cL b))) hc153)))) trivial (Ba1 trivial)) ?_; refine tO 23 ?_; refine tO 24 ?_; refine tO 25 ?_; refine tO 26 ?_; refine tO 27 ?_; refine tP 28 ?_; refine tP 29 ?_; refine tM 30 ?_; refine tM 31 ?_; refine tM 32 ?_
          refine A.le (τ := mkSt [(0, one (Cell.sl g0 (List.map eT_Pair v127))), (1, oI v128), (2, oL v129), (7, oI v130), (8, oP 0 0), (52, oL false), (53, one (Cell.sl g0 (List.map eT_Pair v127))), (54, oI v130)] [] [(0, [cI b144.A, cI b144.B])] 1) (lm [(0, 0)] hm) ?_; refine Atk 33 rfl (Ca.slice) (fun Q0 k0 => L.cutR (xs := v127) (ys := b157) (e := eT_Pair) underlying42 info147 hF rfl rfl rfl rfl rfl hb157 (fun _ => rfl) (L.nil k0)) ?_; refine A.all [34] (by kernel_rfl) rfl ⟨⟨_, rfl, ?_⟩, trivial⟩; refine lp shape147 (L.nil ?_); refine A.all [35] (by kernel_rfl) rfl ⟨⟨_, rfl, ?_⟩, trivial⟩; refine c0 1 ent168 (g168 k7 g0 b157 b144 r158 hr158) (L.nil ?_); refine tP 36 ?_; refine A.le (τ := mkSt [(0, one (Cell.sl g0 (List.map eT_Pair v127))), (1, oI v128), (2, oL v129), (7, oI v130), (58, oL r158)] [] [] 0) (lm [] hm) ?_; refine A.done (by kernel_rfl) ?_; refine cd H (fun hc H => ?_) (fun hc H => ?_)
          ·refine sr ?_; refine ag (L.nil ?_); cases H; exact WpC.ret rt
          ·refine WpC.skip ?_; exact ⟨_, ⟨k7, v127, v128, v129, v130, by omega, H, rfl⟩, lm [] hm⟩
   ·refine WpC.exit (sr ?_); refine ag (L.nil ?_); cases H; exact WpC.ret rt
/-! ### S_ConfigOk -/
def S_ConfigOk (k : Nat) (a0 : T_Config) : Option Bool := cond ((a0.UserRealm.length : Int) == 3) ((S_l5All k a0.UserRealm 3 3).bind fun r6 => cond r6 (cond ((a0.ServiceRealm.length : Int) == 3) ((S_l5All k a0.ServiceRealm 3 3).bind fun r7 => cond r7 ((S_l6Pairs k a0.Links 3 true).bind fun r8 => cond r8 ((S_l6Pairs k a0.Proxy 3 false).bind fun r9 => cond r9 ((S_l1In k a0.Skew 0 20).bind fun r10 => some r10) (some false)) (some false)) (some false)) (some false)) (some false)) (some false)
theorem ent42 : MG.Enters Tryz.prog 42 := ⟨Tryz.f42, func42, rfl, by decide⟩
theorem g42 (k : Nat) (g0 g1 g2 g3 : Bool) (a0 : T_Config) (r : Bool) (H : S_ConfigOk k a0 = some r) : Gives Tryz.prog 42 [V.agg (bT_Config g0 g1 g2 g3 a0)] [] [V.one (cL r)] [] := by
 refine Gives.intro func42 rfl rfl rfl rfl ?_; refine fx fun w0 T S0 ob oh hm => ?_
 have hF := fxe w0 T S0 38 ob oh
 unfold S_ConfigOk at H; obtain ⟨K, hK⟩ := leK k; refine sr ?_; refine bo 5 ?_; refine ag (L.nil ?_); refine sr ?_; refine fa underlying44 info22 ?_; refine lp shape22 ?_; refine L.lenR (xs := a0.UserRealm) (e := eI) underlying22 hF rfl rfl rfl rfl ?_; refine bi ?_; refine mv ?_; refine sH H (fun hc H => ?_) (fun hc H => ?_)
 ·refine fa underlying44 info22 ?_; refine lp shape22 ?_; obtain ⟨r6, hr6, H⟩ := bindS H; refine c0 6 ent106 (g106 k g0 a0.UserRealm 3 3 r6 hr6) ?_; refine pk ?_; refine mv ?_; refine sH H (fun hc H => ?_) (fun hc H => ?_)
  ·refine fa underlying44 info22 ?_; refine lp shape22 ?_; refine L.lenR (xs := a0.ServiceRealm) (e := eI) underlying22 hF rfl rfl rfl rfl ?_; refine bi ?_; refine pk ?_; refine mv ?_; refine sH H (fun hc H => ?_) (fun hc H => ?_)
   ·refine fa underlying44 info22 ?_; refine lp shape22 ?_; obtain ⟨r7, hr7, H⟩ := bindS H; refine c0 7 ent106 (g106 k g1 a0.ServiceRealm 3 3 r7 hr7) ?_; refine pk ?_; refine mv ?_; refine sH H (fun hc H => ?_) (fun hc H => ?_)
    ·refine fa underlying44 info42 ?_; refine lp shape42 ?_; obtain ⟨r8, hr8, H⟩ := bindS H; refine c0 8 ent107 (g107 k g2 a0.Links 3 true r8 hr8) ?_; refine pk ?_; refine mv ?_; refine sH H (fun hc H => ?_) (fun hc H => ?_)
     ·refine fa underlying44 info42 ?_; refine lp shape42 ?_; obtain ⟨r9, hr9, H⟩ := bindS H; refine c0 9 ent107 (g107 k g3 a0.Proxy 3 false r9 hr9) ?_; refine pk ?_; refine mv ?_; refine sH H (fun hc H => ?_) (fun hc H => ?_)
      ·refine fa underlying44 info3 ?_; refine lp shape3 ?_; obtain ⟨r10, hr10, H⟩ := bindS H; refine c0 10 ent43 (g43 k  a0.Skew 0 20 r10 hr10) ?_; refine pk ?_; refine ag (L.nil ?_); cases H; exact WpC.ret rt
      ·(repeat refine of ?_); refine pk ?_; refine ag (L.nil ?_); cases H; exact WpC.ret rt
     ·(repeat refine of ?_); refine pk ?_; refine mv ?_; (repeat refine of ?_); refine pk ?_; refine ag (L.nil ?_); cases H; exact WpC.ret rt
    ·(repeat refine of ?_); refine pk ?_; refine mv ?_; (repeat refine of ?_); refine pk ?_; refine mv ?_; (repeat refine of ?_); refine pk ?_; refine ag (L.nil ?_); cases H; exact WpC.ret rt
   ·(repeat refine of ?_); refine pk ?_; refine mv ?_; (repeat refine of ?_); refine pk ?_; refine mv ?_; (repeat refine of ?_); refine pk ?_; refine mv ?_; (repeat refine of ?_); refine pk ?_; refine ag (L.nil ?_); cases H; exact WpC.ret rt
  ·(repeat refine of ?_); refine pk ?_; refine mv ?_; (repeat refine of ?_); refine pk ?_; refine mv ?_; (repeat refine of ?_); refine pk ?_; refine mv ?_; (repeat refine of ?_); refine pk ?_; refine mv ?_; (repeat refine of ?_); refine pk ?_; refine ag (L.nil ?_); cases H; exact WpC.ret rt
 ·(repeat refine of ?_); refine pk ?_; refine mv ?_; (repeat refine of ?_); refine pk ?_; refine mv ?_; (repeat refine of ?_); refine pk ?_; refine mv ?_; (repeat refine of ?_); refine pk ?_; refine mv ?_; (repeat refine of ?_); refine pk ?_; refine mv ?_; (repeat refine of ?_); refine pk ?_; refine ag (L.nil ?_); cases H; exact WpC.ret rt
/-! ### S_l6Realm -/
def S_l6Realm (k : Nat) (a0 : Int) : Option Bool := cond (decide (a0 ≥ 0)) (some (decide (a0 < 3))) (some false)
theorem ent83 : MG.Enters Tryz.prog 83 := ⟨Tryz.f83, func83, rfl, by decide⟩
theorem g83 (k : Nat) (a0 : Int) (r : Bool) (H : S_l6Realm k a0 = some r) : Gives Tryz.prog 83 [V.one (cI a0)] [] [V.one (cL r)] [] := by
 refine Gives.intro func83 rfl rfl rfl rfl ?_; refine fx fun w0 T S0 ob oh hm => ?_
 have hF := fxe w0 T S0 9 ob oh
 unfold S_l6Realm at H; obtain ⟨K, hK⟩ := leK k; refine sr ?_; refine ag (L.nil ?_); refine sr ?_; refine mv ?_; refine bi ?_; refine mv ?_; refine sH H (fun hc H => ?_) (fun hc H => ?_)
 ·refine mv ?_; refine bi ?_; refine pk ?_; refine ag (L.nil ?_); cases H; exact WpC.ret rt
 ·(repeat refine of ?_); refine pk ?_; refine ag (L.nil ?_); cases H; exact WpC.ret rt
/-! ### S_l8Fail -/
def S_l8Fail (k : Nat) (a0 : Int) : Option T_Reply := some (⟨a0, ([] : List UInt8), (⟨0, 0, 0, 0, 0, 0, 0, 0, (⟨0, 0, 0⟩ : T_Rest)⟩ : T_Event)⟩ : T_Reply)
theorem ent84 : MG.Enters Tryz.prog 84 := ⟨Tryz.f84, func84, rfl, by decide⟩
theorem g84 (k : Nat) (a0 : Int) (r : T_Reply) (H : S_l8Fail k a0 = some r) : Gives Tryz.prog 84 [V.one (cI a0)] [] [V.agg (bT_Reply r)] [] := by
 refine Gives.intro func84 rfl rfl rfl rfl ?_; refine fx fun w0 T S0 ob oh hm => ?_
 have hF := fxe w0 T S0 5 ob oh
 unfold S_l8Fail at H; obtain ⟨K, hK⟩ := leK k; refine sr ?_; refine alc 1 info64 (L.nil ?_); refine sr ?_; refine mv ?_; refine bf built64 ?_; refine sp shape64 (L.nil ?_); cases H; exact WpC.ret rt
/-! ### S_ReadAtom -/
def S_ReadAtom (k : Nat) (a0 : List UInt8) : Option (List UInt8 × Bool) := (S_TermOk k a0).bind fun r7 => cond (!r7) (some (([] : List UInt8), false)) ((at? a0 0).bind fun b8 => cond (b8 != (97 : UInt8)) (some (([] : List UInt8), false)) ((cut? a0 1 (a0.length : Int)).bind fun b9 => (S_ReadVar k b9).bind fun r10 => (cut? a0 (IntKind.i64.wrap (1 + r10.2)) (a0.length : Int)).bind fun b11 => some (b11, true)))
theorem ent169 : MG.Enters Tryz.prog 169 := ⟨Tryz.f169, func169, rfl, by decide⟩
theorem g169 (k : Nat) (a0 : List UInt8) (r : List UInt8 × Bool) (H : S_ReadAtom k a0 = some r) : Gives Tryz.prog 169 [V.one (cS a0)] [] [V.one (cS r.1), V.one (cL r.2)] [] := by
 refine Gives.intro func169 rfl rfl rfl rfl ?_; refine fx fun w0 T S0 ob oh hm => ?_
 have hF := fxe w0 T S0 24 ob oh
 unfold S_ReadAtom at H; obtain ⟨K, hK⟩ := leK k; refine sr ?_; refine ag ?_; refine ag (L.nil ?_); refine WpC.seq (sr ?_); refine mv ?_; obtain ⟨r7, hr7, H⟩ := bindS H; refine c0 1 ent98 (g98 k  a0 r7 hr7) ?_; refine nt ?_; refine mv ?_; refine sH H (fun hc H => ?_) (fun hc H => ?_)
 ·(repeat refine of ?_); refine pk (L.nil ?_); refine cT ?_; refine sr ?_; refine ag ?_; refine ag (L.nil ?_); cases H; exact WpC.ret rt
 ·refine mv ?_; obtain ⟨b8, hb8, H⟩ := bindS H; refine L.idxS underlying9 hF rfl rfl rfl rfl hb8 ?_; refine L.binB (a := b8) (b := (97 : UInt8)) hF rfl rfl rfl rfl rfl ?_; refine pk (L.nil ?_); refine cd H (fun hc H => ?_) (fun hc H => ?_)
  ·refine sr ?_; refine ag ?_; refine ag (L.nil ?_); cases H; exact WpC.ret rt
  ·refine WpC.skip (sr ?_); refine mv ?_; obtain ⟨b9, hb9, H⟩ := bindS H; refine L.cutS underlying9 hF rfl rfl rfl rfl rfl hb9 ?_; obtain ⟨r10, hr10, H⟩ := bindS H; refine c0 2 ent99 (g99 k  b9 r10 hr10) ?_; refine mv ?_; refine ex ?_; refine ex ?_; refine ag ?_; refine ag (L.nil ?_); refine sr ?_; refine mv ?_; refine mv ?_; refine bi ?_; obtain ⟨b11, hb11, H⟩ := bindS H; refine L.cutS underlying9 hF rfl rfl rfl rfl rfl hb11 ?_; refine ag ?_; refine ag (L.nil ?_); cases H; exact WpC.ret rt
/-! ### S_ReadNum -/
def S_ReadNum (k : Nat) (a0 : List UInt8) : Option (Int × Bool) := (S_ReadAtom k a0).bind fun r1 => (S_ReadVar k r1.1).bind fun r2 => cond (!r1.2) (some (0, false)) (cond (r2.2 == 0) (some (0, false)) (cond (r2.2 != (r1.1.length : Int)) (some (0, false)) (some (r2.1, true))))
theorem ent108 : MG.Enters Tryz.prog 108 := ⟨Tryz.f108, func108, rfl, by decide⟩
theorem g108 (k : Nat) (a0 : List UInt8) (r : Int × Bool) (H : S_ReadNum k a0 = some r) : Gives Tryz.prog 108 [V.one (cS a0)] [] [V.one (cI r.1), V.one (cL r.2)] [] := by
 refine Gives.intro func108 rfl rfl rfl rfl ?_; refine fx fun w0 T S0 ob oh hm => ?_
 have hF := fxe w0 T S0 31 ob oh
 unfold S_ReadNum at H; obtain ⟨K, hK⟩ := leK k; refine sr ?_; refine ag ?_; refine ag (L.nil ?_); refine sr ?_; refine mv ?_; obtain ⟨r1, hr1, H⟩ := bindS H; refine c0 1 ent169 (g169 k  a0 r1 hr1) ?_; refine mv ?_; refine ex ?_; refine ex ?_; refine ag ?_; refine ag (L.nil ?_); refine sr ?_; refine mv ?_; obtain ⟨r2, hr2, H⟩ := bindS H; refine c0 3 ent99 (g99 k  r1.1 r2 hr2) ?_; refine mv ?_; refine ex ?_; refine ex ?_; refine ag ?_; refine ag (L.nil ?_); refine WpC.seq (sr ?_); refine mv ?_; refine nt ?_; refine mv ?_; refine sH H (fun hc H => ?_) (fun hc H => ?_)
 ·(repeat refine of ?_); refine pk ?_; refine mv ?_; (repeat refine of ?_); refine pk (L.nil ?_); refine cT ?_; refine sr ?_; refine ag ?_; refine ag (L.nil ?_); cases H; exact WpC.ret rt
 ·refine mv ?_; refine bi ?_; refine pk ?_; refine mv ?_; refine sH H (fun hc H => ?_) (fun hc H => ?_)
  ·(repeat refine of ?_); refine pk (L.nil ?_); refine cT ?_; refine sr ?_; refine ag ?_; refine ag (L.nil ?_); cases H; exact WpC.ret rt
  ·refine mv ?_; refine mv ?_; refine L.lenS underlying9 hF rfl rfl rfl ?_; refine bi ?_; refine pk (L.nil ?_); refine cd H (fun hc H => ?_) (fun hc H => ?_)
   ·refine sr ?_; refine ag ?_; refine ag (L.nil ?_); cases H; exact WpC.ret rt
   ·refine WpC.skip (sr ?_); refine mv ?_; refine ag ?_; refine ag (L.nil ?_); cases H; exact WpC.ret rt
/-! ### S_ReadNums -/
def S_ReadNums.j14 (cl12 : (List Int) → (List (List UInt8)) → Bool → Int → Option (List Int × Bool)) (k : Nat) (v104 : List Int) (v105 : List (List UInt8)) (v106 : Bool) (v107 v108 : Int) : Option (List Int × Bool) := cond (decide ((2 * (v104.length + ([v108] : List Int).length) + 192) * 8 ≤ 281474976710656)) (cl12 (v104 ++ ([v108] : List Int)) v105 v106 (IntKind.i64.wrap (v107 + 1))) none
def S_ReadNums.l12 : Nat → (List Int) → (List (List UInt8)) → Bool → Int → Option (List Int × Bool)
 | 0, _, _, _, _ => none
 | k12 + 1, v90, v91, v92, v93 => cond (decide (v93 < (v91.length : Int))) ((at? v91 v93).bind fun b102 => (S_ReadNum k12 b102).bind fun r103 => cond v92 (S_ReadNums.j14 (S_ReadNums.l12 k12) k12 v90 v91 r103.2 v93 r103.1) (S_ReadNums.j14 (S_ReadNums.l12 k12) k12 v90 v91 false v93 r103.1)) (cond (!v92) (some (([] : List Int), false)) (some (v90, true)))
def S_ReadNums (k : Nat) (a0 : List UInt8) : Option (List Int × Bool) := (S_Parts k a0).bind fun r1 => S_ReadNums.l12 k ([] : List Int) r1.1 r1.2 0
theorem ent44 : MG.Enters Tryz.prog 44 := ⟨Tryz.f44, func44, rfl, by decide⟩
theorem g44 (k : Nat) (a0 : List UInt8) (r : List Int × Bool) (H : S_ReadNums k a0 = some r) : Gives Tryz.prog 44 [V.one (cS a0)] [] [V.one (Cell.ow 1 (List.map eI r.1)), V.one (cL r.2)] [] := by
 refine Gives.intro func44 rfl rfl rfl rfl ?_; refine fx fun w0 T S0 ob oh hm => ?_
 have hF := fxe w0 T S0 42 ob oh
 unfold S_ReadNums at H; obtain ⟨K, hK⟩ := leK k; refine sr ?_; refine ag ?_; refine ag (L.nil ?_); refine sr ?_; refine L.buildSlice (e := eI) 1 ([] : List Int) underlying22 info3 rfl rfl rfl hF rfl rfl rfl rfl rfl rfl rfl rfl ?_; refine ag (L.nil ?_); refine sr ?_; refine mv ?_; obtain ⟨r1, hr1, H⟩ := bindS H; refine c0 2 ent30 (g30 k  a0 r1 hr1) ?_; refine mv ?_; refine ex ?_; refine ex ?_; refine ag ?_; refine ag (L.nil ?_); refine WpC.seq (sr ?_); refine ag (L.nil ?_); refine WpC.block ?_; refine WpC.loopL (P := Tryz.prog) (fun n σ => ∃ (v90 : List Int) (v91 : List (List UInt8)) (v92 : Bool) (v93 : Int), n ≤ K ∧ S_ReadNums.l12 n v90 v91 v92 v93 = some r ∧ σ = mkSt [(4, one (Cell.own 0)), (5, one (Cell.own 1)), (6, oL v92), (7, oI v93)] [(0, ⟨1, List.map eI v90⟩), (1, ⟨1, List.map eS v91⟩)] [] 2) k ⟨_, ⟨([] : List Int), r1.1, r1.2, 0, by omega, H, rfl⟩, lm [(0, 1), (1, 2)] hm⟩ ?_; clear H
 rintro k12 _ ⟨v90, v91, v92, v93, hk12, H, rfl⟩
 cases k12 with
 | zero => cases H
 | succ k12 =>
  rw [S_ReadNums.l12] at H
  refine WpC.seq (sr ?_); refine mv ?_; refine mv ?_; refine L.lenR (xs := v91) (e := eS) underlying70 hF rfl rfl rfl rfl ?_; refine bi (L.nil ?_); refine cd H (fun hc H => ?_) (fun hc H => ?_)
  ·refine WpC.skip (WpC.seq (WpC.block (sr ?_))); refine mv ?_; refine mv ?_; obtain ⟨b102, hb102, H⟩ := bindS H; refine ix underlying70 info9 hb102 ?_; refine L.loadEp (xs := v91) (e := eS) shape9 hF rfl rfl rfl rfl (at?_get hb102).2 rfl rfl ?_; obtain ⟨r103, hr103, H⟩ := bindS H; refine c0 2 ent108 (g108 k12  b102 r103 hr103) ?_; refine mv ?_; refine ex ?_; refine ex ?_; refine ag ?_; refine ag (L.nil ?_); refine WpC.join (fun σ => ∃ (kj14 : Nat) (v104 : List Int) (v105 : List (List UInt8)) (v106 : Bool) (v107 v108 : Int), kj14 ≤ K ∧ S_ReadNums.j14 (S_ReadNums.l12 k12) kj14 v104 v105 v106 v107 v108 = some r ∧ σ = mkSt [(4, one (Cell.own 0)), (5, one (Cell.own 1)), (6, oL v106), (7, oI v107), (8, oI v108)] [(0, ⟨1, List.map eI v104⟩), (1, ⟨1, List.map eS v105⟩)] [] 2) ?_ ?_
   ·rintro _ ⟨kj14, v104, v105, v106, v107, v108, hkj14, H, rfl⟩
    unfold S_ReadNums.j14 at H; refine WpC.regionL ?_; refine mv ?_; refine mv ?_; refine L.buildSlice (e := eI) 2 ([v108] : List Int) underlying22 info3 rfl rfl rfl hF rfl rfl rfl rfl rfl rfl rfl rfl ?_; obtain ⟨h109, H⟩ := condG H; refine L.append (xs := v104) (ys := ([v108] : List Int)) (e := eI) 3 underlying22 info3 rfl rfl hF rfl rfl rfl rfl rfl rfl rfl rfl (fun _ => rfl) (fun _ _ h1 h2 => by cases h1; cases h2; rfl) ⟨_, underlying22⟩ (of_decide_eq_true h109) rfl rfl ?_; refine ag (L.nil ?_); refine WpC.regionL ?_; refine mv ?_; refine bi ?_; refine ag (L.nil ?_); exact ⟨k12, _, by omega, ⟨(v104 ++ ([v108] : List Int)), v105, v106, (IntKind.i64.wrap (v107 + 1)), by omega, H, rfl⟩, lm [(0, 3), (1, 1)] hm⟩
   ·refine WpC.regionL ?_; refine mv ?_; refine mv ?_; refine sH H (fun hc H => ?_) (fun hc H => ?_)
    ·refine mv ?_; refine pk ?_; refine ag (L.nil ?_); exact ⟨_, ⟨k12, v90, v91, r103.2, v93, r103.1, by omega, H, rfl⟩, lm [(0, 0), (1, 1)] hm⟩
    ·refine of ?_; refine pk ?_; refine ag (L.nil ?_); exact ⟨_, ⟨k12, v90, v91, false, v93, r103.1, by omega, H, rfl⟩, lm [(0, 0), (1, 1)] hm⟩
  ·refine WpC.exit (WpC.seq (sr ?_)); refine mv ?_; refine nt (L.nil ?_); refine cd H (fun hc H => ?_) (fun hc H => ?_)
   ·refine sr ?_; refine L.buildSlice (e := eI) 2 ([] : List Int) underlying22 info3 rfl rfl rfl hF rfl rfl rfl rfl rfl rfl rfl rfl ?_; refine ag ?_; refine ag (L.nil ?_); cases H; exact WpC.ret rt
   ·refine WpC.skip (sr ?_); refine mv ?_; refine ag ?_; refine ag (L.nil ?_); cases H; exact WpC.ret rt
/-! ### S_l8No -/
def S_l8No (k : Nat) (a0 : Int) : Option Bool := cond (decide (a0 < 0)) (some true) (some (decide (a0 > 1000000)))
theorem ent85 : MG.Enters Tryz.prog 85 := ⟨Tryz.f85, func85, rfl, by decide⟩
theorem g85 (k : Nat) (a0 : Int) (r : Bool) (H : S_l8No k a0 = some r) : Gives Tryz.prog 85 [V.one (cI a0)] [] [V.one (cL r)] [] := by
 refine Gives.intro func85 rfl rfl rfl rfl ?_; refine fx fun w0 T S0 ob oh hm => ?_
 have hF := fxe w0 T S0 9 ob oh
 unfold S_l8No at H; obtain ⟨K, hK⟩ := leK k; refine sr ?_; refine ag (L.nil ?_); refine sr ?_; refine mv ?_; refine bi ?_; refine mv ?_; refine sH H (fun hc H => ?_) (fun hc H => ?_)
 ·(repeat refine of ?_); refine pk ?_; refine ag (L.nil ?_); cases H; exact WpC.ret rt
 ·refine mv ?_; refine bi ?_; refine pk ?_; refine ag (L.nil ?_); cases H; exact WpC.ret rt
/-! ### S_l5Principal -/
def S_l5Principal (k : Nat) (a0 : Int) : Option Bool := cond (decide (a0 ≥ 0)) (some (decide (a0 < 6))) (some false)
theorem ent101 : MG.Enters Tryz.prog 101 := ⟨Tryz.f101, func101, rfl, by decide⟩
theorem g101 (k : Nat) (a0 : Int) (r : Bool) (H : S_l5Principal k a0 = some r) : Gives Tryz.prog 101 [V.one (cI a0)] [] [V.one (cL r)] [] := by
 refine Gives.intro func101 rfl rfl rfl rfl ?_; refine fx fun w0 T S0 ob oh hm => ?_
 have hF := fxe w0 T S0 9 ob oh
 unfold S_l5Principal at H; obtain ⟨K, hK⟩ := leK k; refine sr ?_; refine ag (L.nil ?_); refine sr ?_; refine mv ?_; refine bi ?_; refine mv ?_; refine sH H (fun hc H => ?_) (fun hc H => ?_)
 ·refine mv ?_; refine bi ?_; refine pk ?_; refine ag (L.nil ?_); cases H; exact WpC.ret rt
 ·(repeat refine of ?_); refine pk ?_; refine ag (L.nil ?_); cases H; exact WpC.ret rt
/-! ### S_RealmOf -/
def S_RealmOf (k : Nat) (a0 : T_Config) (a1 : Int) : Option Int := (S_ConfigOk k a0).bind fun r7 => cond (!r7) (some (-1)) ((S_l5Principal k a1).bind fun r8 => cond (!r8) (some (-1)) (cond (decide (a1 < 3)) ((at? a0.UserRealm a1).bind fun b10 => some b10) ((at? a0.ServiceRealm (IntKind.i64.wrap (a1 - 3))).bind fun b11 => some b11)))
theorem ent140 : MG.Enters Tryz.prog 140 := ⟨Tryz.f140, func140, rfl, by decide⟩
theorem g140 (k : Nat) (g0 g1 g2 g3 : Bool) (a0 : T_Config) (a1 r : Int) (H : S_RealmOf k a0 a1 = some r) : Gives Tryz.prog 140 [V.agg (bT_Config g0 g1 g2 g3 a0), V.one (cI a1)] [] [V.one (cI r)] [] := by
 refine Gives.intro func140 rfl rfl rfl rfl ?_; refine fx fun w0 T S0 ob oh hm => ?_
 have hF := fxe w0 T S0 26 ob oh
 unfold S_RealmOf at H; obtain ⟨K, hK⟩ := leK k; refine sr ?_; refine bo 6 ?_; refine ag (L.nil ?_); refine WpC.seq (sr ?_); refine lp shape44 ?_; obtain ⟨r7, hr7, H⟩ := bindS H; refine c0 7 ent42 (g42 k g0 g1 g2 g3 a0 r7 hr7) ?_; refine nt ?_; refine mv ?_; refine sH H (fun hc H => ?_) (fun hc H => ?_)
 ·(repeat refine of ?_); refine pk (L.nil ?_); refine cT ?_; refine sr ?_; refine ag (L.nil ?_); cases H; exact WpC.ret rt
 ·refine mv ?_; obtain ⟨r8, hr8, H⟩ := bindS H; refine c0 8 ent101 (g101 k  a1 r8 hr8) ?_; refine nt ?_; refine pk (L.nil ?_); refine cd H (fun hc H => ?_) (fun hc H => ?_)
  ·refine sr ?_; refine ag (L.nil ?_); cases H; exact WpC.ret rt
  ·refine WpC.skip (WpC.seq (sr ?_)); refine mv ?_; refine bi (L.nil ?_); refine cd H (fun hc H => ?_) (fun hc H => ?_)
   ·refine sr ?_; refine fa underlying44 info22 ?_; refine lp shape22 ?_; refine mv ?_; obtain ⟨b10, hb10, H⟩ := bindS H; refine ix underlying22 info3 hb10 ?_; refine le shape3 ?_; refine ag (L.nil ?_); cases H; exact WpC.ret rt
   ·refine WpC.skip (sr ?_); refine fa underlying44 info22 ?_; refine lp shape22 ?_; refine mv ?_; refine bi ?_; obtain ⟨b11, hb11, H⟩ := bindS H; refine ix underlying22 info3 hb11 ?_; refine le shape3 ?_; refine ag (L.nil ?_); cases H; exact WpC.ret rt
/-! ### S_PrincipalKey -/
def S_PrincipalKey (k : Nat) (a0 : Int) : Option Int := (S_l5Principal k a0).bind fun r2 => cond (!r2) (some 0) (cond (decide (a0 < 3)) (some (IntKind.i64.wrap (1 + a0))) (some (IntKind.i64.wrap ((IntKind.i64.wrap (11 + a0)) - 3))))
theorem ent31 : MG.Enters Tryz.prog 31 := ⟨Tryz.f31, func31, rfl, by decide⟩
theorem g31 (k : Nat) (a0 r : Int) (H : S_PrincipalKey k a0 = some r) : Gives Tryz.prog 31 [V.one (cI a0)] [] [V.one (cI r)] [] := by
 refine Gives.intro func31 rfl rfl rfl rfl ?_; refine fx fun w0 T S0 ob oh hm => ?_
 have hF := fxe w0 T S0 13 ob oh
 unfold S_PrincipalKey at H; obtain ⟨K, hK⟩ := leK k; refine sr ?_; refine ag (L.nil ?_); refine WpC.seq (sr ?_); refine mv ?_; obtain ⟨r2, hr2, H⟩ := bindS H; refine c0 1 ent101 (g101 k  a0 r2 hr2) ?_; refine nt (L.nil ?_); refine cd H (fun hc H => ?_) (fun hc H => ?_)
 ·refine sr ?_; refine ag (L.nil ?_); cases H; exact WpC.ret rt
 ·refine WpC.skip (WpC.seq (sr ?_)); refine mv ?_; refine bi (L.nil ?_); refine cd H (fun hc H => ?_) (fun hc H => ?_)
  ·refine sr ?_; refine mv ?_; refine bi ?_; refine ag (L.nil ?_); cases H; exact WpC.ret rt
  ·refine WpC.skip (sr ?_); refine mv ?_; refine bi ?_; refine bi ?_; refine ag (L.nil ?_); cases H; exact WpC.ret rt
/-! ### S_Open -/
def S_Open (k : Nat) (a0 : List UInt8) (a1 : Int) : Option (List UInt8 × Bool) := (S_TermOk k a0).bind fun r7 => cond (!r7) (some (([] : List UInt8), false)) ((at? a0 0).bind fun b8 => cond (b8 != (115 : UInt8)) (some (([] : List UInt8), false)) ((cut? a0 1 (a0.length : Int)).bind fun b9 => (S_ReadVar k b9).bind fun r10 => cond (r10.1 != a1) (some (([] : List UInt8), false)) ((cut? a0 (IntKind.i64.wrap (1 + r10.2)) (a0.length : Int)).bind fun b11 => some (b11, true))))
theorem ent102 : MG.Enters Tryz.prog 102 := ⟨Tryz.f102, func102, rfl, by decide⟩
theorem g102 (k : Nat) (a0 : List UInt8) (a1 : Int) (r : List UInt8 × Bool) (H : S_Open k a0 a1 = some r) : Gives Tryz.prog 102 [V.one (cS a0), V.one (cI a1)] [] [V.one (cS r.1), V.one (cL r.2)] [] := by
 refine Gives.intro func102 rfl rfl rfl rfl ?_; refine fx fun w0 T S0 ob oh hm => ?_
 have hF := fxe w0 T S0 29 ob oh
 unfold S_Open at H; obtain ⟨K, hK⟩ := leK k; refine sr ?_; refine ag ?_; refine ag (L.nil ?_); refine WpC.seq (sr ?_); refine mv ?_; obtain ⟨r7, hr7, H⟩ := bindS H; refine c0 2 ent98 (g98 k  a0 r7 hr7) ?_; refine nt ?_; refine mv ?_; refine sH H (fun hc H => ?_) (fun hc H => ?_)
 ·(repeat refine of ?_); refine pk (L.nil ?_); refine cT ?_; refine sr ?_; refine ag ?_; refine ag (L.nil ?_); cases H; exact WpC.ret rt
 ·refine mv ?_; obtain ⟨b8, hb8, H⟩ := bindS H; refine L.idxS underlying9 hF rfl rfl rfl rfl hb8 ?_; refine L.binB (a := b8) (b := (115 : UInt8)) hF rfl rfl rfl rfl rfl ?_; refine pk (L.nil ?_); refine cd H (fun hc H => ?_) (fun hc H => ?_)
  ·refine sr ?_; refine ag ?_; refine ag (L.nil ?_); cases H; exact WpC.ret rt
  ·refine WpC.skip (sr ?_); refine mv ?_; obtain ⟨b9, hb9, H⟩ := bindS H; refine L.cutS underlying9 hF rfl rfl rfl rfl rfl hb9 ?_; obtain ⟨r10, hr10, H⟩ := bindS H; refine c0 3 ent99 (g99 k  b9 r10 hr10) ?_; refine mv ?_; refine ex ?_; refine ex ?_; refine ag ?_; refine ag (L.nil ?_); refine WpC.seq (sr ?_); refine mv ?_; refine mv ?_; refine bi (L.nil ?_); refine cd H (fun hc H => ?_) (fun hc H => ?_)
   ·refine sr ?_; refine ag ?_; refine ag (L.nil ?_); cases H; exact WpC.ret rt
   ·refine WpC.skip (sr ?_); refine mv ?_; refine mv ?_; refine bi ?_; obtain ⟨b11, hb11, H⟩ := bindS H; refine L.cutS underlying9 hF rfl rfl rfl rfl rfl hb11 ?_; refine ag ?_; refine ag (L.nil ?_); cases H; exact WpC.ret rt
/-! ### S_l7Apart -/
def S_l7Apart (k : Nat) (a0 a1 a2 : Int) : Option Bool := cond (decide ((IntKind.i64.wrap (a0 - a1)) > a2)) (some true) (some (decide ((IntKind.i64.wrap (a1 - a0)) > a2)))
theorem ent109 : MG.Enters Tryz.prog 109 := ⟨Tryz.f109, func109, rfl, by decide⟩
theorem g109 (k : Nat) (a0 a1 a2 : Int) (r : Bool) (H : S_l7Apart k a0 a1 a2 = some r) : Gives Tryz.prog 109 [V.one (cI a0), V.one (cI a1), V.one (cI a2)] [] [V.one (cL r)] [] := by
 refine Gives.intro func109 rfl rfl rfl rfl ?_; refine fx fun w0 T S0 ob oh hm => ?_
 have hF := fxe w0 T S0 19 ob oh
 unfold S_l7Apart at H; obtain ⟨K, hK⟩ := leK k; refine sr ?_; refine ag (L.nil ?_); refine sr ?_; refine mv ?_; refine mv ?_; refine bi ?_; refine mv ?_; refine bi ?_; refine mv ?_; refine sH H (fun hc H => ?_) (fun hc H => ?_)
 ·(repeat refine of ?_); refine pk ?_; refine ag (L.nil ?_); cases H; exact WpC.ret rt
 ·refine mv ?_; refine mv ?_; refine bi ?_; refine mv ?_; refine bi ?_; refine pk ?_; refine ag (L.nil ?_); cases H; exact WpC.ret rt
/-! ### S_CentreKey -/
def S_CentreKey (k : Nat) (a0 : Int) : Option Int := (S_l6Realm k a0).bind fun r2 => cond (!r2) (some 0) (some (IntKind.i64.wrap (21 + a0)))
theorem ent32 : MG.Enters Tryz.prog 32 := ⟨Tryz.f32, func32, rfl, by decide⟩
theorem g32 (k : Nat) (a0 r : Int) (H : S_CentreKey k a0 = some r) : Gives Tryz.prog 32 [V.one (cI a0)] [] [V.one (cI r)] [] := by
 refine Gives.intro func32 rfl rfl rfl rfl ?_; refine fx fun w0 T S0 ob oh hm => ?_
 have hF := fxe w0 T S0 8 ob oh
 unfold S_CentreKey at H; obtain ⟨K, hK⟩ := leK k; refine sr ?_; refine ag (L.nil ?_); refine WpC.seq (sr ?_); refine mv ?_; obtain ⟨r2, hr2, H⟩ := bindS H; refine c0 1 ent83 (g83 k  a0 r2 hr2) ?_; refine nt (L.nil ?_); refine cd H (fun hc H => ?_) (fun hc H => ?_)
 ·refine sr ?_; refine ag (L.nil ?_); cases H; exact WpC.ret rt
 ·refine WpC.skip (sr ?_); refine mv ?_; refine bi ?_; refine ag (L.nil ?_); cases H; exact WpC.ret rt
/-! ### S_l5Service -/
def S_l5Service (k : Nat) (a0 : Int) : Option Bool := (S_l1In k a0 0 2).bind fun r3 => cond r3 (some true) ((S_l1In k a0 10 12).bind fun r4 => some r4)
theorem ent167 : MG.Enters Tryz.prog 167 := ⟨Tryz.f167, func167, rfl, by decide⟩
theorem g167 (k : Nat) (a0 : Int) (r : Bool) (H : S_l5Service k a0 = some r) : Gives Tryz.prog 167 [V.one (cI a0)] [] [V.one (cL r)] [] := by
 refine Gives.intro func167 rfl rfl rfl rfl ?_; refine fx fun w0 T S0 ob oh hm => ?_
 have hF := fxe w0 T S0 9 ob oh
 unfold S_l5Service at H; obtain ⟨K, hK⟩ := leK k; refine sr ?_; refine ag (L.nil ?_); refine sr ?_; refine mv ?_; obtain ⟨r3, hr3, H⟩ := bindS H; refine c0 1 ent43 (g43 k  a0 0 2 r3 hr3) ?_; refine mv ?_; refine sH H (fun hc H => ?_) (fun hc H => ?_)
 ·(repeat refine of ?_); refine pk ?_; refine ag (L.nil ?_); cases H; exact WpC.ret rt
 ·refine mv ?_; obtain ⟨r4, hr4, H⟩ := bindS H; refine c0 2 ent43 (g43 k  a0 10 12 r4 hr4) ?_; refine pk ?_; refine ag (L.nil ?_); cases H; exact WpC.ret rt
/-! ### S_RestOk -/
def S_RestOk (k : Nat) (a0 : T_Rest) : Option Bool := (S_l1In k a0.Servers 0 7).bind fun r4 => cond r4 ((S_l1In k a0.Ops 0 255).bind fun r5 => cond r5 ((S_l1In k a0.End 0 100000).bind fun r6 => some r6) (some false)) (some false)
theorem ent81 : MG.Enters Tryz.prog 81 := ⟨Tryz.f81, func81, rfl, by decide⟩
theorem g81 (k : Nat) (a0 : T_Rest) (r : Bool) (H : S_RestOk k a0 = some r) : Gives Tryz.prog 81 [V.agg (bT_Rest a0)] [] [V.one (cL r)] [] := by
 refine Gives.intro func81 rfl rfl rfl rfl ?_; refine fx fun w0 T S0 ob oh hm => ?_
 have hF := fxe w0 T S0 16 ob oh
 unfold S_RestOk at H; obtain ⟨K, hK⟩ := leK k; refine sr ?_; refine bo 3 ?_; refine ag (L.nil ?_); refine sr ?_; refine fa underlying37 info3 ?_; refine lp shape3 ?_; obtain ⟨r4, hr4, H⟩ := bindS H; refine c0 4 ent43 (g43 k  a0.Servers 0 7 r4 hr4) ?_; refine mv ?_; refine sH H (fun hc H => ?_) (fun hc H => ?_)
 ·refine fa underlying37 info3 ?_; refine lp shape3 ?_; obtain ⟨r5, hr5, H⟩ := bindS H; refine c0 5 ent43 (g43 k  a0.Ops 0 255 r5 hr5) ?_; refine pk ?_; refine mv ?_; refine sH H (fun hc H => ?_) (fun hc H => ?_)
  ·refine fa underlying37 info3 ?_; refine lp shape3 ?_; obtain ⟨r6, hr6, H⟩ := bindS H; refine c0 6 ent43 (g43 k  a0.End 0 100000 r6 hr6) ?_; refine pk ?_; refine ag (L.nil ?_); cases H; exact WpC.ret rt
  ·(repeat refine of ?_); refine pk ?_; refine ag (L.nil ?_); cases H; exact WpC.ret rt
 ·(repeat refine of ?_); refine pk ?_; refine mv ?_; (repeat refine of ?_); refine pk ?_; refine ag (L.nil ?_); cases H; exact WpC.ret rt
/-! ### S_l5TicketOk -/
def S_l5TicketOk (k : Nat) (a0 : T_Ticket) : Option Bool := (S_l5Principal k a0.Client).bind fun r7 => cond r7 ((S_l5Service k a0.Service).bind fun r8 => cond r8 ((S_l1In k a0.Key 1 1000000).bind fun r9 => cond r9 ((S_RestOk k a0.Rest).bind fun r10 => cond r10 ((S_l5All k a0.Path 6 3).bind fun r11 => cond r11 ((S_l5All k a0.Via 4 3).bind fun r12 => some r12) (some false)) (some false)) (some false)) (some false)) (some false)
theorem ent104 : MG.Enters Tryz.prog 104 := ⟨Tryz.f104, func104, rfl, by decide⟩
theorem g104 (k : Nat) (g0 g1 : Bool) (a0 : T_Ticket) (r : Bool) (H : S_l5TicketOk k a0 = some r) : Gives Tryz.prog 104 [V.agg (bT_Ticket g0 g1 a0)] [] [V.one (cL r)] [] := by
 refine Gives.intro func104 rfl rfl rfl rfl ?_; refine fx fun w0 T S0 ob oh hm => ?_
 have hF := fxe w0 T S0 31 ob oh
 unfold S_l5TicketOk at H; obtain ⟨K, hK⟩ := leK k; refine sr ?_; refine bo 8 ?_; refine ag (L.nil ?_); refine sr ?_; refine fa underlying76 info3 ?_; refine lp shape3 ?_; obtain ⟨r7, hr7, H⟩ := bindS H; refine c0 9 ent101 (g101 k  a0.Client r7 hr7) ?_; refine mv ?_; refine sH H (fun hc H => ?_) (fun hc H => ?_)
 ·refine fa underlying76 info3 ?_; refine lp shape3 ?_; obtain ⟨r8, hr8, H⟩ := bindS H; refine c0 10 ent167 (g167 k  a0.Service r8 hr8) ?_; refine pk ?_; refine mv ?_; refine sH H (fun hc H => ?_) (fun hc H => ?_)
  ·refine fa underlying76 info3 ?_; refine lp shape3 ?_; obtain ⟨r9, hr9, H⟩ := bindS H; refine c0 11 ent43 (g43 k  a0.Key 1 1000000 r9 hr9) ?_; refine pk ?_; refine mv ?_; refine sH H (fun hc H => ?_) (fun hc H => ?_)
   ·refine fa underlying76 info37 ?_; refine lp shape37 ?_; obtain ⟨r10, hr10, H⟩ := bindS H; refine c0 12 ent81 (g81 k  a0.Rest r10 hr10) ?_; refine pk ?_; refine mv ?_; refine sH H (fun hc H => ?_) (fun hc H => ?_)
    ·refine fa underlying76 info22 ?_; refine lp shape22 ?_; obtain ⟨r11, hr11, H⟩ := bindS H; refine c0 13 ent106 (g106 k g0 a0.Path 6 3 r11 hr11) ?_; refine pk ?_; refine mv ?_; refine sH H (fun hc H => ?_) (fun hc H => ?_)
     ·refine fa underlying76 info22 ?_; refine lp shape22 ?_; obtain ⟨r12, hr12, H⟩ := bindS H; refine c0 14 ent106 (g106 k g1 a0.Via 4 3 r12 hr12) ?_; refine pk ?_; refine ag (L.nil ?_); cases H; exact WpC.ret rt
     ·(repeat refine of ?_); refine pk ?_; refine ag (L.nil ?_); cases H; exact WpC.ret rt
    ·(repeat refine of ?_); refine pk ?_; refine mv ?_; (repeat refine of ?_); refine pk ?_; refine ag (L.nil ?_); cases H; exact WpC.ret rt
   ·(repeat refine of ?_); refine pk ?_; refine mv ?_; (repeat refine of ?_); refine pk ?_; refine mv ?_; (repeat refine of ?_); refine pk ?_; refine ag (L.nil ?_); cases H; exact WpC.ret rt
  ·(repeat refine of ?_); refine pk ?_; refine mv ?_; (repeat refine of ?_); refine pk ?_; refine mv ?_; (repeat refine of ?_); refine pk ?_; refine mv ?_; (repeat refine of ?_); refine pk ?_; refine ag (L.nil ?_); cases H; exact WpC.ret rt
 ·(repeat refine of ?_); refine pk ?_; refine mv ?_; (repeat refine of ?_); refine pk ?_; refine mv ?_; (repeat refine of ?_); refine pk ?_; refine mv ?_; (repeat refine of ?_); refine pk ?_; refine mv ?_; (repeat refine of ?_); refine pk ?_; refine ag (L.nil ?_); cases H; exact WpC.ret rt
/-! ### S_l2Ok -/
def S_l2Ok (k : Nat) (a0 : List UInt8) : Option (List UInt8) := (S_TermOk k a0).bind fun r2 => cond r2 (some a0) (some ([] : List UInt8))
theorem ent176 : MG.Enters Tryz.prog 176 := ⟨Tryz.f176, func176, rfl, by decide⟩
theorem g176 (k : Nat) (a0 r : List UInt8) (H : S_l2Ok k a0 = some r) : Gives Tryz.prog 176 [V.one (cS a0)] [] [V.one (cS r)] [] := by
 refine Gives.intro func176 rfl rfl rfl rfl ?_; refine fx fun w0 T S0 ob oh hm => ?_
 have hF := fxe w0 T S0 6 ob oh
 unfold S_l2Ok at H; obtain ⟨K, hK⟩ := leK k; refine sr ?_; refine ag (L.nil ?_); refine WpC.seq (sr ?_); refine mv ?_; obtain ⟨r2, hr2, H⟩ := bindS H; refine c0 1 ent98 (g98 k  a0 r2 hr2) (L.nil ?_); refine cd H (fun hc H => ?_) (fun hc H => ?_)
 ·refine sr ?_; refine mv ?_; refine ag (L.nil ?_); cases H; exact WpC.ret rt
 ·refine WpC.skip (sr ?_); refine ag (L.nil ?_); cases H; exact WpC.ret rt
/-! ### S_Atom -/
def S_Atom (k : Nat) (a0 : List UInt8) : Option (List UInt8) := cond (decide ((a0.length : Int) > 40)) (some ([] : List UInt8)) ((S_Var k (a0.length : Int)).bind fun r1 => cond (decide (([97] : List UInt8).length + r1.length ≤ 9223372036854775807)) (cond (decide ((([97] : List UInt8) ++ r1).length + a0.length ≤ 9223372036854775807)) ((S_l2Ok k ((([97] : List UInt8) ++ r1) ++ a0)).bind fun r4 => some r4) none) none)
theorem ent145 : MG.Enters Tryz.prog 145 := ⟨Tryz.f145, func145, rfl, by decide⟩
theorem g145 (k : Nat) (a0 r : List UInt8) (H : S_Atom k a0 = some r) : Gives Tryz.prog 145 [V.one (cS a0)] [] [V.one (cS r)] [] := by
 refine Gives.intro func145 rfl rfl rfl rfl ?_; refine fx fun w0 T S0 ob oh hm => ?_
 have hF := fxe w0 T S0 13 ob oh
 unfold S_Atom at H; obtain ⟨K, hK⟩ := leK k; refine sr ?_; refine ag (L.nil ?_); refine WpC.seq (sr ?_); refine mv ?_; refine L.lenS underlying9 hF rfl rfl rfl ?_; refine bi (L.nil ?_); refine cd H (fun hc H => ?_) (fun hc H => ?_)
 ·refine sr ?_; refine ag (L.nil ?_); cases H; exact WpC.ret rt
 ·refine WpC.skip (sr ?_); refine mv ?_; refine L.lenS underlying9 hF rfl rfl rfl ?_; obtain ⟨r1, hr1, H⟩ := bindS H; refine c0 1 ent166 (g166 k  (a0.length : Int) r1 hr1) ?_; obtain ⟨h2, H⟩ := condG H; refine L.catS hF rfl rfl rfl rfl (of_decide_eq_true h2) ?_; refine mv ?_; obtain ⟨h3, H⟩ := condG H; refine L.catS hF rfl rfl rfl rfl (of_decide_eq_true h3) ?_; obtain ⟨r4, hr4, H⟩ := bindS H; refine c0 2 ent176 (g176 k  ((([97] : List UInt8) ++ r1) ++ a0) r4 hr4) ?_; refine ag (L.nil ?_); cases H; exact WpC.ret rt
/-! ### S_Num -/
def S_Num (k : Nat) (a0 : Int) : Option (List UInt8) := (S_Var k a0).bind fun r1 => cond (r1 == ([] : List UInt8)) (some ([] : List UInt8)) ((S_Atom k r1).bind fun r2 => some r2)
theorem ent177 : MG.Enters Tryz.prog 177 := ⟨Tryz.f177, func177, rfl, by decide⟩
theorem g177 (k : Nat) (a0 : Int) (r : List UInt8) (H : S_Num k a0 = some r) : Gives Tryz.prog 177 [V.one (cI a0)] [] [V.one (cS r)] [] := by
 refine Gives.intro func177 rfl rfl rfl rfl ?_; refine fx fun w0 T S0 ob oh hm => ?_
 have hF := fxe w0 T S0 10 ob oh
 unfold S_Num at H; obtain ⟨K, hK⟩ := leK k; refine sr ?_; refine ag (L.nil ?_); refine sr ?_; refine mv ?_; obtain ⟨r1, hr1, H⟩ := bindS H; refine c0 1 ent166 (g166 k  a0 r1 hr1) ?_; refine ag (L.nil ?_); refine WpC.seq (sr ?_); refine mv ?_; refine L.binS hF rfl rfl rfl rfl rfl (L.nil ?_); refine cd H (fun hc H => ?_) (fun hc H => ?_)
 ·refine sr ?_; refine ag (L.nil ?_); cases H; exact WpC.ret rt
 ·refine WpC.skip (sr ?_); refine mv ?_; obtain ⟨r2, hr2, H⟩ := bindS H; refine c0 2 ent145 (g145 k  r1 r2 hr2) ?_; refine ag (L.nil ?_); cases H; exact WpC.ret rt
/-! ### S_List -/
def S_List.l2 : Nat → (List (List UInt8)) → (List UInt8) → Int → Option (List UInt8)
 | 0, _, _, _ => none
 | k2 + 1, v76, v77, v78 => cond (decide (v78 < (v76.length : Int))) ((at? v76 v78).bind fun b87 => (S_TermOk k2 b87).bind fun r88 => cond (!r88) (some ([] : List UInt8)) ((at? v76 v78).bind fun b89 => cond (decide (v77.length + b89.length ≤ 9223372036854775807)) ((S_List.l2 k2) v76 (v77 ++ b89) (IntKind.i64.wrap (v78 + 1))) none)) ((S_l2Ok k2 v77).bind fun r91 => some r91)
def S_List (k : Nat) (a0 : List (List UInt8)) : Option (List UInt8) := cond (decide ((a0.length : Int) > 12)) (some ([] : List UInt8)) ((S_Var k (a0.length : Int)).bind fun r1 => cond (decide (([108] : List UInt8).length + r1.length ≤ 9223372036854775807)) (S_List.l2 k a0 (([108] : List UInt8) ++ r1) 0) none)
theorem ent133 : MG.Enters Tryz.prog 133 := ⟨Tryz.f133, func133, rfl, by decide⟩
theorem g133 (k : Nat) (g0 : Bool) (a0 : List (List UInt8)) (r : List UInt8) (H : S_List k a0 = some r) : Gives Tryz.prog 133 [V.one (Cell.sl g0 (List.map eS a0))] [] [V.one (cS r)] [] := by
 refine Gives.intro func133 rfl rfl rfl rfl ?_; refine fx fun w0 T S0 ob oh hm => ?_
 have hF := fxe w0 T S0 32 ob oh
 unfold S_List at H; obtain ⟨K, hK⟩ := leK k; refine sr ?_; refine ag (L.nil ?_); refine WpC.seq (sr ?_); refine mv ?_; refine L.lenR (xs := a0) (e := eS) underlying70 hF rfl rfl rfl rfl ?_; refine bi (L.nil ?_); refine cd H (fun hc H => ?_) (fun hc H => ?_)
 ·refine sr ?_; refine ag (L.nil ?_); cases H; exact WpC.ret rt
 ·refine WpC.skip (sr ?_); refine mv ?_; refine L.lenR (xs := a0) (e := eS) underlying70 hF rfl rfl rfl rfl ?_; obtain ⟨r1, hr1, H⟩ := bindS H; refine c0 1 ent166 (g166 k  (a0.length : Int) r1 hr1) ?_; obtain ⟨h2, H⟩ := condG H; refine L.catS hF rfl rfl rfl rfl (of_decide_eq_true h2) ?_; refine ag (L.nil ?_); refine WpC.seq (sr ?_); refine ag (L.nil ?_); refine WpC.block ?_; refine WpC.loopL (P := Tryz.prog) (fun n σ => ∃ (v76 : List (List UInt8)) (v77 : List UInt8) (v78 : Int), n ≤ K ∧ S_List.l2 n v76 v77 v78 = some r ∧ σ = mkSt [(0, one (Cell.sl g0 (List.map eS v76))), (3, oS v77), (4, oI v78)] [] [] 0) k ⟨_, ⟨a0, (([108] : List UInt8) ++ r1), 0, by omega, H, rfl⟩, lm [] hm⟩ ?_; clear H
  rintro k2 _ ⟨v76, v77, v78, hk2, H, rfl⟩
  cases k2 with
  | zero => cases H
  | succ k2 =>
   rw [S_List.l2] at H
   refine WpC.seq (sr ?_); refine mv ?_; refine mv ?_; refine L.lenR (xs := v76) (e := eS) underlying70 hF rfl rfl rfl rfl ?_; refine bi (L.nil ?_); refine cd H (fun hc H => ?_) (fun hc H => ?_)
   ·refine WpC.skip (WpC.seq (WpC.block (WpC.seq (sr ?_)))); refine mv ?_; refine mv ?_; obtain ⟨b87, hb87, H⟩ := bindS H; refine ix underlying70 info9 hb87 ?_; refine le shape9 ?_; obtain ⟨r88, hr88, H⟩ := bindS H; refine c0 0 ent98 (g98 k2  b87 r88 hr88) ?_; refine nt (L.nil ?_); refine cd H (fun hc H => ?_) (fun hc H => ?_)
    ·refine sr ?_; refine ag (L.nil ?_); cases H; exact WpC.ret rt
    ·refine WpC.skip (WpC.regionL ?_); refine mv ?_; refine mv ?_; refine mv ?_; obtain ⟨b89, hb89, H⟩ := bindS H; refine ix underlying70 info9 hb89 ?_; refine le shape9 ?_; obtain ⟨h90, H⟩ := condG H; refine L.catS hF rfl rfl rfl rfl (of_decide_eq_true h90) ?_; refine ag (L.nil ?_); refine WpC.regionL ?_; refine mv ?_; refine bi ?_; refine ag (L.nil ?_); exact ⟨k2, _, by omega, ⟨v76, (v77 ++ b89), (IntKind.i64.wrap (v78 + 1)), by omega, H, rfl⟩, lm [] hm⟩
   ·refine WpC.exit (sr ?_); refine mv ?_; obtain ⟨r91, hr91, H⟩ := bindS H; refine c0 0 ent176 (g176 k2  v77 r91 hr91) ?_; refine ag (L.nil ?_); cases H; exact WpC.ret rt
/-! ### S_Nums -/
def S_Nums.j2 (k : Nat) (v27 : List (List UInt8)) : Option (List UInt8) := (S_List k v27).bind fun r28 => some r28
def S_Nums.l3 : Nat → (List Int) → (List (List UInt8)) → Int → Option (List UInt8)
 | 0, _, _, _ => none
 | k3 + 1, v46, v47, v48 => cond (decide (v48 < (v46.length : Int))) (cond (decide (v48 ≤ 12)) ((at? v46 v48).bind fun b52 => (S_Num k3 b52).bind fun r53 => cond (r53 == ([] : List UInt8)) (some ([] : List UInt8)) (cond (decide ((2 * (v47.length + ([r53] : List (List UInt8)).length) + 192) * 16 ≤ 281474976710656)) ((S_Nums.l3 k3) v46 (v47 ++ ([r53] : List (List UInt8))) (IntKind.i64.wrap (v48 + 1))) none)) (S_Nums.j2 k3 v47)) (S_Nums.j2 k3 v47)
def S_Nums (k : Nat) (a0 : List Int) : Option (List UInt8) := S_Nums.l3 k a0 ([] : List (List UInt8)) 0
theorem ent134 : MG.Enters Tryz.prog 134 := ⟨Tryz.f134, func134, rfl, by decide⟩
theorem g134 (k : Nat) (g0 : Bool) (a0 : List Int) (r : List UInt8) (H : S_Nums k a0 = some r) : Gives Tryz.prog 134 [V.one (Cell.sl g0 (List.map eI a0))] [] [V.one (cS r)] [] := by
 refine Gives.intro func134 rfl rfl rfl rfl ?_; refine fx fun w0 T S0 ob oh hm => ?_
 have hF := fxe w0 T S0 30 ob oh
 unfold S_Nums at H; obtain ⟨K, hK⟩ := leK k; refine sr ?_; refine ag (L.nil ?_); refine sr ?_; refine L.buildSlice (e := eS) 1 ([] : List (List UInt8)) underlying70 info9 rfl rfl rfl hF rfl rfl rfl rfl rfl rfl rfl rfl ?_; refine ag (L.nil ?_); refine WpC.join (fun σ => ∃ (kj2 : Nat) (v27 : List (List UInt8)), kj2 ≤ K ∧ S_Nums.j2 kj2 v27 = some r ∧ σ = mkSt [(3, one (Cell.own 0))] [(0, ⟨1, List.map eS v27⟩)] [] 1) ?_ ?_
 ·rintro _ ⟨kj2, v27, hkj2, H, rfl⟩
  unfold S_Nums.j2 at H; refine sr ?_; refine mv ?_; obtain ⟨r28, hr28, H⟩ := bindS H; refine ca [false] [0] [] 1 ent133 (g133 kj2 false v27 r28 hr28) ?_; refine ag (L.nil ?_); cases H; exact WpC.ret rt
 ·refine sr ?_; refine ag (L.nil ?_); refine WpC.block ?_; refine WpC.loopL (P := Tryz.prog) (fun n σ => ∃ (v46 : List Int) (v47 : List (List UInt8)) (v48 : Int), n ≤ K ∧ S_Nums.l3 n v46 v47 v48 = some r ∧ σ = mkSt [(0, one (Cell.sl g0 (List.map eI v46))), (3, one (Cell.own 0)), (4, oI v48)] [(0, ⟨1, List.map eS v47⟩)] [] 1) k ⟨_, ⟨a0, ([] : List (List UInt8)), 0, by omega, H, rfl⟩, lm [(0, 1)] hm⟩ ?_; clear H
  rintro k3 _ ⟨v46, v47, v48, hk3, H, rfl⟩
  cases k3 with
  | zero => cases H
  | succ k3 =>
   rw [S_Nums.l3] at H
   refine WpC.seq (sr ?_); refine mv ?_; refine mv ?_; refine L.lenR (xs := v46) (e := eI) underlying22 hF rfl rfl rfl rfl ?_; refine bi ?_; refine mv ?_; refine sH H (fun hc H => ?_) (fun hc H => ?_)
   ·refine mv ?_; refine bi ?_; refine pk (L.nil ?_); refine cd H (fun hc H => ?_) (fun hc H => ?_)
    ·refine WpC.skip (WpC.seq (WpC.block (sr ?_))); refine mv ?_; refine mv ?_; obtain ⟨b52, hb52, H⟩ := bindS H; refine ix underlying22 info3 hb52 ?_; refine le shape3 ?_; obtain ⟨r53, hr53, H⟩ := bindS H; refine c0 1 ent177 (g177 k3  b52 r53 hr53) ?_; refine ag (L.nil ?_); refine WpC.seq (sr ?_); refine mv ?_; refine L.binS hF rfl rfl rfl rfl rfl (L.nil ?_); refine cd H (fun hc H => ?_) (fun hc H => ?_)
     ·refine sr ?_; refine ag (L.nil ?_); cases H; exact WpC.ret rt
     ·refine WpC.skip (WpC.regionL ?_); refine mv ?_; refine mv ?_; refine L.buildSlice (e := eS) 2 ([r53] : List (List UInt8)) underlying70 info9 rfl rfl rfl hF rfl rfl rfl rfl rfl rfl rfl rfl ?_; obtain ⟨h54, H⟩ := condG H; refine L.append (xs := v47) (ys := ([r53] : List (List UInt8))) (e := eS) 3 underlying70 info9 rfl rfl hF rfl rfl rfl rfl rfl rfl rfl rfl (fun _ => rfl) (fun _ _ h1 h2 => by cases h1; cases h2; rfl) ⟨_, underlying70⟩ (of_decide_eq_true h54) rfl rfl ?_; refine ag (L.nil ?_); refine WpC.regionL ?_; refine mv ?_; refine bi ?_; refine ag (L.nil ?_); exact ⟨k3, _, by omega, ⟨v46, (v47 ++ ([r53] : List (List UInt8))), (IntKind.i64.wrap (v48 + 1)), by omega, H, rfl⟩, lm [(0, 3)] hm⟩
    ·refine WpC.exit ?_; exact ⟨_, ⟨k3, v47, by omega, H, rfl⟩, lm [(0, 0)] hm⟩
   ·(repeat refine of ?_); refine pk (L.nil ?_); refine cF ?_; refine WpC.exit ?_; exact ⟨_, ⟨k3, v47, by omega, H, rfl⟩, lm [(0, 0)] hm⟩
/-! ### S_KeyTerm -/
def S_KeyTerm (k : Nat) (a0 : Int) : Option (List UInt8) := (S_l1In k a0 1 1000000).bind fun r2 => cond (!r2) (some ([] : List UInt8)) ((S_Var k a0).bind fun r3 => cond (decide (([107] : List UInt8).length + r3.length ≤ 9223372036854775807)) (some (([107] : List UInt8) ++ r3)) none)
theorem ent137 : MG.Enters Tryz.prog 137 := ⟨Tryz.f137, func137, rfl, by decide⟩
theorem g137 (k : Nat) (a0 : Int) (r : List UInt8) (H : S_KeyTerm k a0 = some r) : Gives Tryz.prog 137 [V.one (cI a0)] [] [V.one (cS r)] [] := by
 refine Gives.intro func137 rfl rfl rfl rfl ?_; refine fx fun w0 T S0 ob oh hm => ?_
 have hF := fxe w0 T S0 9 ob oh
 unfold S_KeyTerm at H; obtain ⟨K, hK⟩ := leK k; refine sr ?_; refine ag (L.nil ?_); refine WpC.seq (sr ?_); refine mv ?_; obtain ⟨r2, hr2, H⟩ := bindS H; refine c0 1 ent43 (g43 k  a0 1 1000000 r2 hr2) ?_; refine nt (L.nil ?_); refine cd H (fun hc H => ?_) (fun hc H => ?_)
 ·refine sr ?_; refine ag (L.nil ?_); cases H; exact WpC.ret rt
 ·refine WpC.skip (sr ?_); refine mv ?_; obtain ⟨r3, hr3, H⟩ := bindS H; refine c0 2 ent166 (g166 k  a0 r3 hr3) ?_; obtain ⟨h4, H⟩ := condG H; refine L.catS hF rfl rfl rfl rfl (of_decide_eq_true h4) ?_; refine ag (L.nil ?_); cases H; exact WpC.ret rt
/-! ### S_ShowRest -/
def S_ShowRest (k : Nat) (a0 : T_Rest) : Option (List UInt8) := (S_RestOk k a0).bind fun r2 => cond (!r2) (some ([] : List UInt8)) ((S_Nums k ([a0.Servers, a0.Ops, a0.End] : List Int)).bind fun r3 => some r3)
theorem ent138 : MG.Enters Tryz.prog 138 := ⟨Tryz.f138, func138, rfl, by decide⟩
theorem g138 (k : Nat) (a0 : T_Rest) (r : List UInt8) (H : S_ShowRest k a0 = some r) : Gives Tryz.prog 138 [V.agg (bT_Rest a0)] [] [V.one (cS r)] [] := by
 refine Gives.intro func138 rfl rfl rfl rfl ?_; refine fx fun w0 T S0 ob oh hm => ?_
 have hF := fxe w0 T S0 14 ob oh
 unfold S_ShowRest at H; obtain ⟨K, hK⟩ := leK k; refine sr ?_; refine bo 3 ?_; refine ag (L.nil ?_); refine WpC.seq (sr ?_); refine lp shape37 ?_; obtain ⟨r2, hr2, H⟩ := bindS H; refine c0 4 ent81 (g81 k  a0 r2 hr2) ?_; refine nt (L.nil ?_); refine cd H (fun hc H => ?_) (fun hc H => ?_)
 ·refine sr ?_; refine ag (L.nil ?_); cases H; exact WpC.ret rt
 ·refine WpC.skip (sr ?_); refine fa underlying37 info3 ?_; refine lp shape3 ?_; refine fa underlying37 info3 ?_; refine lp shape3 ?_; refine fa underlying37 info3 ?_; refine lp shape3 ?_; refine L.buildSlice (e := eI) 5 ([a0.Servers, a0.Ops, a0.End] : List Int) underlying22 info3 rfl rfl rfl hF rfl rfl rfl rfl rfl rfl rfl rfl ?_; obtain ⟨r3, hr3, H⟩ := bindS H; refine ca [false] [5] [] 6 ent134 (g134 k false ([a0.Servers, a0.Ops, a0.End] : List Int) r3 hr3) ?_; refine ag (L.nil ?_); cases H; exact WpC.ret rt
/-! ### S_Seal -/
def S_Seal (k : Nat) (a0 : Int) (a1 : List UInt8) : Option (List UInt8) := (S_l1In k a0 1 1000000).bind fun r7 => cond (!r7) (some ([] : List UInt8)) ((S_TermOk k a1).bind fun r8 => cond (!r8) (some ([] : List UInt8)) ((S_Var k a0).bind fun r9 => cond (decide (([115] : List UInt8).length + r9.length ≤ 9223372036854775807)) (cond (decide ((([115] : List UInt8) ++ r9).length + a1.length ≤ 9223372036854775807)) ((S_l2Ok k ((([115] : List UInt8) ++ r9) ++ a1)).bind fun r12 => some r12) none) none))
theorem ent136 : MG.Enters Tryz.prog 136 := ⟨Tryz.f136, func136, rfl, by decide⟩
theorem g136 (k : Nat) (a0 : Int) (a1 r : List UInt8) (H : S_Seal k a0 a1 = some r) : Gives Tryz.prog 136 [V.one (cI a0), V.one (cS a1)] [] [V.one (cS r)] [] := by
 refine Gives.intro func136 rfl rfl rfl rfl ?_; refine fx fun w0 T S0 ob oh hm => ?_
 have hF := fxe w0 T S0 19 ob oh
 unfold S_Seal at H; obtain ⟨K, hK⟩ := leK k; refine sr ?_; refine ag (L.nil ?_); refine WpC.seq (sr ?_); refine mv ?_; obtain ⟨r7, hr7, H⟩ := bindS H; refine c0 2 ent43 (g43 k  a0 1 1000000 r7 hr7) ?_; refine nt ?_; refine mv ?_; refine sH H (fun hc H => ?_) (fun hc H => ?_)
 ·(repeat refine of ?_); refine pk (L.nil ?_); refine cT ?_; refine sr ?_; refine ag (L.nil ?_); cases H; exact WpC.ret rt
 ·refine mv ?_; obtain ⟨r8, hr8, H⟩ := bindS H; refine c0 3 ent98 (g98 k  a1 r8 hr8) ?_; refine nt ?_; refine pk (L.nil ?_); refine cd H (fun hc H => ?_) (fun hc H => ?_)
  ·refine sr ?_; refine ag (L.nil ?_); cases H; exact WpC.ret rt
  ·refine WpC.skip (sr ?_); refine mv ?_; obtain ⟨r9, hr9, H⟩ := bindS H; refine c0 4 ent166 (g166 k  a0 r9 hr9) ?_; obtain ⟨h10, H⟩ := condG H; refine L.catS hF rfl rfl rfl rfl (of_decide_eq_true h10) ?_; refine mv ?_; obtain ⟨h11, H⟩ := condG H; refine L.catS hF rfl rfl rfl rfl (of_decide_eq_true h11) ?_; obtain ⟨r12, hr12, H⟩ := bindS H; refine c0 5 ent176 (g176 k  ((([115] : List UInt8) ++ r9) ++ a1) r12 hr12) ?_; refine ag (L.nil ?_); cases H; exact WpC.ret rt
/-! ### S_ShowTicket -/
def S_ShowTicket (k : Nat) (a0 : T_Ticket) (a1 : Int) : Option (List UInt8) := (S_l5TicketOk k a0).bind fun r2 => cond (!r2) (some ([] : List UInt8)) ((S_Nums k ([a0.Client, a0.Service] : List Int)).bind fun r3 => (S_KeyTerm k a0.Key).bind fun r4 => (S_ShowRest k a0.Rest).bind fun r5 => (S_Nums k a0.Path).bind fun r6 => (S_Nums k a0.Via).bind fun r7 => (S_List k ([r3, r4, r5, r6, r7] : List (List UInt8))).bind fun r8 => (S_Seal k a1 r8).bind fun r9 => some r9)
theorem ent77 : MG.Enters Tryz.prog 77 := ⟨Tryz.f77, func77, rfl, by decide⟩
theorem g77 (k : Nat) (g0 g1 : Bool) (a0 : T_Ticket) (a1 : Int) (r : List UInt8) (H : S_ShowTicket k a0 a1 = some r) : Gives Tryz.prog 77 [V.agg (bT_Ticket g0 g1 a0), V.one (cI a1)] [] [V.one (cS r)] [] := by
 refine Gives.intro func77 rfl rfl rfl rfl ?_; refine fx fun w0 T S0 ob oh hm => ?_
 have hF := fxe w0 T S0 30 ob oh
 unfold S_ShowTicket at H; obtain ⟨K, hK⟩ := leK k; refine sr ?_; refine bo 9 ?_; refine ag (L.nil ?_); refine WpC.seq (sr ?_); refine lp shape76 ?_; obtain ⟨r2, hr2, H⟩ := bindS H; refine c0 10 ent104 (g104 k g0 g1 a0 r2 hr2) ?_; refine nt (L.nil ?_); refine cd H (fun hc H => ?_) (fun hc H => ?_)
 ·refine sr ?_; refine ag (L.nil ?_); cases H; exact WpC.ret rt
 ·refine WpC.skip (WpC.seq ?_); obtain ⟨r3, hr3, H⟩ := bindS H; obtain ⟨r4, hr4, H⟩ := bindS H; obtain ⟨r5, hr5, H⟩ := bindS H; obtain ⟨r6, hr6, H⟩ := bindS H; obtain ⟨r7, hr7, H⟩ := bindS H; obtain ⟨r8, hr8, H⟩ := bindS H; obtain ⟨r9, hr9, H⟩ := bindS H
  refine A.lin (fun β => mkStL [(1, iI a1), (2, iP 9 0), (4, [(β 22, some (one (cS r9))), (true, some (one (cS ([] : List UInt8))))]), (8, lI (β 0) a1), (9, lP (β 1) 9 0), (10, al (β 2) (one (cI a0.Client))), (11, lP (β 3) 9 1), (12, al (β 4) (one (cI a0.Service))), (13, al (β 5) (one (Cell.own 11))), (14, al (β 6) (one (cS r3))), (15, lP (β 7) 9 2), (16, al (β 8) (one (cI a0.Key))), (17, al (β 9) (one (cS r4))), (18, lP (β 10) 9 3), (19, al (β 11) (agg (bT_Rest a0.Rest))), (20, al (β 12) (one (cS r5))), (21, lP (β 13) 9 6), (22, al (β 14) (one (Cell.sl g0 (List.map eI a0.Path)))), (23, al (β 15) (one (cS r6))), (24, lP (β 16) 9 7), (25, al (β 17) (one (Cell.sl g1 (List.map eI a0.Via)))), (26, al (β 18) (one (cS r7))), (27, al (β 19) (one (Cell.own 17))), (28, al (β 20) (one (cS r8))), (29, al (β 21) (one (cS r9)))] [(11, al (β 5) (⟨1, List.map eI ([a0.Client, a0.Service] : List Int)⟩)), (17, al (β 19) (⟨1, List.map eS ([r3, r4, r5, r6, r7] : List (List UInt8))⟩))] [(9, ai ((bT_Ticket g0 g1 a0)))] 20) [([], [21, 22]), ([], [2, 5, 6, 9, 12, 15, 18, 19, 20, 21, 22]), ([1], [5, 6, 9, 12, 15, 18, 19, 20, 21, 22]), ([], [4, 5, 6, 9, 12, 15, 18, 19, 20, 21, 22]), ([3], [5, 6, 9, 12, 15, 18, 19, 20, 21, 22]), ([1, 2, 3, 4], [6, 9, 12, 15, 18, 19, 20, 21, 22]), ([1, 2, 3, 4, 5], [9, 12, 15, 18, 19, 20, 21, 22]), ([], [8, 9, 12, 15, 18, 19, 20, 21, 22]), ([7], [9, 12, 15, 18, 19, 20, 21, 22]), ([1, 2, 3, 4, 5, 6, 7, 8], [12, 15, 18, 19, 20, 21, 22]), ([], [11, 12, 15, 18, 19, 20, 21, 22]), ([10], [12, 15, 18, 19, 20, 21, 22]), ([1, 2, 3, 4, 5, 6, 7, 8, 9, 10, 11], [15, 18, 19, 20, 21, 22]), ([], [14, 15, 18, 19, 20, 21, 22]), ([13], [15, 18, 19, 20, 21, 22]), ([1, 2, 3, 4, 5, 6, 7, 8, 9, 10, 11, 12, 13, 14], [18, 19, 20, 21, 22]), ([], [17, 18, 19, 20, 21, 22]), ([16], [18, 19, 20, 21, 22]), ([1, 2, 3, 4, 5, 6, 7, 8, 9, 10, 11, 12, 13, 14, 15, 16, 17], [19, 20, 21, 22]), ([1, 2, 3, 4, 5, 6, 7, 8, 9, 10, 11, 12, 13, 14, 15, 16, 17, 18], [20, 21, 22]), ([1, 2, 3, 4, 5, 6, 7, 8, 9, 10, 11, 12, 13, 14, 15, 16, 17, 18, 19], [21, 22]), ([0, 1, 2, 3, 4, 5, 6, 7, 8, 9, 10, 11, 12, 13, 14, 15, 16, 17, 18, 19, 20], [22]), ([0, 1, 2, 3, 4, 5, 6, 7, 8, 9, 10, 11, 12, 13, 14, 15, 16, 17, 18, 19, 20, 21], [])] 23 mixed rfl (by kernel_rfl) ?_ ?_ ?_
  ·exact Le.lin [] hm rfl (sa (sa2 (kn2 (kn4 (kn8 (kn8 kz)))))) (kn2 kz) (ba kz)
  ·repeat' (first | exact trivial | refine ⟨⟨_, rfl, fun β => ?_⟩, ?_⟩ | fail)
   ·refine mv ?_; exact lx [] hm
   ·refine fa underlying76 info3 ?_; exact lx [] hm
   ·refine lp shape3 ?_; exact lx [] hm
   ·refine fa underlying76 info3 ?_; exact lx [] hm
   ·refine lp shape3 ?_; exact lx [] hm
   ·refine L.buildSlice (e := eI) 20 ([a0.Client, a0.Service] : List Int) underlying22 info3 rfl rfl rfl hF rfl rfl rfl rfl rfl rfl rfl rfl ?_; exact lx [(11, 20)] hm
   ·refine ca [false] [11] [] 20 ent134 (g134 k false ([a0.Client, a0.Service] : List Int) r3 hr3) ?_; exact lx [(12, 20)] hm
   ·refine fa underlying76 info3 ?_; exact lx [] hm
   ·refine lp shape3 ?_; exact lx [] hm
   ·refine c0 20 ent137 (g137 k  a0.Key r4 hr4) ?_; exact lx [(13, 20)] hm
   ·refine fa underlying76 info37 ?_; exact lx [] hm
   ·refine lp shape37 ?_; exact lx [] hm
   ·refine c0 20 ent138 (g138 k  a0.Rest r5 hr5) ?_; exact lx [(14, 20)] hm
   ·refine fa underlying76 info22 ?_; exact lx [] hm
   ·refine lp shape22 ?_; exact lx [] hm
   ·refine c0 20 ent134 (g134 k g0 a0.Path r6 hr6) ?_; exact lx [(15, 20)] hm
   ·refine fa underlying76 info22 ?_; exact lx [] hm
   ·refine lp shape22 ?_; exact lx [] hm
   ·refine c0 20 ent134 (g134 k g1 a0.Via r7 hr7) ?_; exact lx [(16, 20)] hm
   ·refine L.buildSlice (e := eS) 20 ([r3, r4, r5, r6, r7] : List (List UInt8)) underlying70 info9 rfl rfl rfl hF rfl rfl rfl rfl rfl rfl rfl rfl ?_; exact lx [(17, 20)] hm
   ·refine ca [false] [17] [] 20 ent133 (g133 k false ([r3, r4, r5, r6, r7] : List (List UInt8)) r8 hr8) ?_; exact lx [(18, 20)] hm
   ·refine c0 20 ent136 (g136 k  a1 r8 r9 hr9) ?_; exact lx [(19, 20)] hm
   ·refine ag ?_; exact lx [] hm
  refine ⟨_, (lm [] hm : Le _ _ (mkSt [(4, oS r9)] [] [] 0)), ?_⟩; cases H; exact WpC.ret rt
/-! ### S_l5GrantOk -/
def S_l5GrantOk (k : Nat) (a0 : T_Grant) : Option Bool := (S_l1In k a0.Key 1 1000000).bind fun r5 => cond r5 ((S_l5Service k a0.Service).bind fun r6 => cond r6 ((S_l1In k a0.Nonce 0 1000000).bind fun r7 => cond r7 ((S_RestOk k a0.Rest).bind fun r8 => some r8) (some false)) (some false)) (some false)
theorem ent105 : MG.Enters Tryz.prog 105 := ⟨Tryz.f105, func105, rfl, by decide⟩
theorem g105 (k : Nat) (a0 : T_Grant) (r : Bool) (H : S_l5GrantOk k a0 = some r) : Gives Tryz.prog 105 [V.agg (bT_Grant a0)] [] [V.one (cL r)] [] := by
 refine Gives.intro func105 rfl rfl rfl rfl ?_; refine fx fun w0 T S0 ob oh hm => ?_
 have hF := fxe w0 T S0 21 ob oh
 unfold S_l5GrantOk at H; obtain ⟨K, hK⟩ := leK k; refine sr ?_; refine bo 6 ?_; refine ag (L.nil ?_); refine sr ?_; refine fa underlying80 info3 ?_; refine lp shape3 ?_; obtain ⟨r5, hr5, H⟩ := bindS H; refine c0 7 ent43 (g43 k  a0.Key 1 1000000 r5 hr5) ?_; refine mv ?_; refine sH H (fun hc H => ?_) (fun hc H => ?_)
 ·refine fa underlying80 info3 ?_; refine lp shape3 ?_; obtain ⟨r6, hr6, H⟩ := bindS H; refine c0 8 ent167 (g167 k  a0.Service r6 hr6) ?_; refine pk ?_; refine mv ?_; refine sH H (fun hc H => ?_) (fun hc H => ?_)
  ·refine fa underlying80 info3 ?_; refine lp shape3 ?_; obtain ⟨r7, hr7, H⟩ := bindS H; refine c0 9 ent43 (g43 k  a0.Nonce 0 1000000 r7 hr7) ?_; refine pk ?_; refine mv ?_; refine sH H (fun hc H => ?_) (fun hc H => ?_)
   ·refine fa underlying80 info37 ?_; refine lp shape37 ?_; obtain ⟨r8, hr8, H⟩ := bindS H; refine c0 10 ent81 (g81 k  a0.Rest r8 hr8) ?_; refine pk ?_; refine ag (L.nil ?_); cases H; exact WpC.ret rt
   ·(repeat refine of ?_); refine pk ?_; refine ag (L.nil ?_); cases H; exact WpC.ret rt
  ·(repeat refine of ?_); refine pk ?_; refine mv ?_; (repeat refine of ?_); refine pk ?_; refine ag (L.nil ?_); cases H; exact WpC.ret rt
 ·(repeat refine of ?_); refine pk ?_; refine mv ?_; (repeat refine of ?_); refine pk ?_; refine mv ?_; (repeat refine of ?_); refine pk ?_; refine ag (L.nil ?_); cases H; exact WpC.ret rt
/-! ### S_ShowGrant -/
def S_ShowGrant (k : Nat) (a0 : T_Grant) (a1 : Int) : Option (List UInt8) := (S_l5GrantOk k a0).bind fun r2 => cond (!r2) (some ([] : List UInt8)) ((S_KeyTerm k a0.Key).bind fun r3 => (S_Nums k ([a0.Service, a0.Nonce] : List Int)).bind fun r4 => (S_ShowRest k a0.Rest).bind fun r5 => (S_List k ([r3, r4, r5] : List (List UInt8))).bind fun r6 => (S_Seal k a1 r6).bind fun r7 => some r7)
theorem ent142 : MG.Enters Tryz.prog 142 := ⟨Tryz.f142, func142, rfl, by decide⟩
theorem g142 (k : Nat) (a0 : T_Grant) (a1 : Int) (r : List UInt8) (H : S_ShowGrant k a0 a1 = some r) : Gives Tryz.prog 142 [V.agg (bT_Grant a0), V.one (cI a1)] [] [V.one (cS r)] [] := by
 refine Gives.intro func142 rfl rfl rfl rfl ?_; refine fx fun w0 T S0 ob oh hm => ?_
 have hF := fxe w0 T S0 24 ob oh
 unfold S_ShowGrant at H; obtain ⟨K, hK⟩ := leK k; refine sr ?_; refine bo 7 ?_; refine ag (L.nil ?_); refine WpC.seq (sr ?_); refine lp shape80 ?_; obtain ⟨r2, hr2, H⟩ := bindS H; refine c0 8 ent105 (g105 k  a0 r2 hr2) ?_; refine nt (L.nil ?_); refine cd H (fun hc H => ?_) (fun hc H => ?_)
 ·refine sr ?_; refine ag (L.nil ?_); cases H; exact WpC.ret rt
 ·refine WpC.skip (WpC.seq ?_); obtain ⟨r3, hr3, H⟩ := bindS H; obtain ⟨r4, hr4, H⟩ := bindS H; obtain ⟨r5, hr5, H⟩ := bindS H; obtain ⟨r6, hr6, H⟩ := bindS H; obtain ⟨r7, hr7, H⟩ := bindS H
  refine A.lin (fun β => mkStL [(1, iI a1), (2, iP 7 0), (4, [(β 16, some (one (cS r7))), (true, some (one (cS ([] : List UInt8))))]), (8, lI (β 0) a1), (9, lP (β 1) 7 0), (10, al (β 2) (one (cI a0.Key))), (11, al (β 3) (one (cS r3))), (12, lP (β 4) 7 1), (13, al (β 5) (one (cI a0.Service))), (14, lP (β 6) 7 2), (15, al (β 7) (one (cI a0.Nonce))), (16, al (β 8) (one (Cell.own 10))), (17, al (β 9) (one (cS r4))), (18, lP (β 10) 7 3), (19, al (β 11) (agg (bT_Rest a0.Rest))), (20, al (β 12) (one (cS r5))), (21, al (β 13) (one (Cell.own 13))), (22, al (β 14) (one (cS r6))), (23, al (β 15) (one (cS r7)))] [(10, al (β 8) (⟨1, List.map eI ([a0.Service, a0.Nonce] : List Int)⟩)), (13, al (β 13) (⟨1, List.map eS ([r3, r4, r5] : List (List UInt8))⟩))] [(7, ai ((bT_Grant a0)))] 16) [([], [15, 16]), ([], [2, 3, 9, 12, 13, 14, 15, 16]), ([1], [3, 9, 12, 13, 14, 15, 16]), ([1, 2], [9, 12, 13, 14, 15, 16]), ([], [5, 8, 9, 12, 13, 14, 15, 16]), ([4], [8, 9, 12, 13, 14, 15, 16]), ([], [7, 8, 9, 12, 13, 14, 15, 16]), ([6], [8, 9, 12, 13, 14, 15, 16]), ([4, 5, 6, 7], [9, 12, 13, 14, 15, 16]), ([1, 2, 3, 4, 5, 6, 7, 8], [12, 13, 14, 15, 16]), ([], [11, 12, 13, 14, 15, 16]), ([10], [12, 13, 14, 15, 16]), ([1, 2, 3, 4, 5, 6, 7, 8, 9, 10, 11], [13, 14, 15, 16]), ([1, 2, 3, 4, 5, 6, 7, 8, 9, 10, 11, 12], [14, 15, 16]), ([1, 2, 3, 4, 5, 6, 7, 8, 9, 10, 11, 12, 13], [15, 16]), ([0, 1, 2, 3, 4, 5, 6, 7, 8, 9, 10, 11, 12, 13, 14], [16]), ([0, 1, 2, 3, 4, 5, 6, 7, 8, 9, 10, 11, 12, 13, 14, 15], [])] 17 mixed rfl (by kernel_rfl) ?_ ?_ ?_
  ·exact Le.lin [] hm rfl (sa (sa2 (kn8 (kn8 kz)))) (kn2 kz) (ba kz)
  ·repeat' (first | exact trivial | refine ⟨⟨_, rfl, fun β => ?_⟩, ?_⟩ | fail)
   ·refine mv ?_; exact lx [] hm
   ·refine fa underlying80 info3 ?_; exact lx [] hm
   ·refine lp shape3 ?_; exact lx [] hm
   ·refine c0 16 ent137 (g137 k  a0.Key r3 hr3) ?_; exact lx [(9, 16)] hm
   ·refine fa underlying80 info3 ?_; exact lx [] hm
   ·refine lp shape3 ?_; exact lx [] hm
   ·refine fa underlying80 info3 ?_; exact lx [] hm
   ·refine lp shape3 ?_; exact lx [] hm
   ·refine L.buildSlice (e := eI) 16 ([a0.Service, a0.Nonce] : List Int) underlying22 info3 rfl rfl rfl hF rfl rfl rfl rfl rfl rfl rfl rfl ?_; exact lx [(10, 16)] hm
   ·refine ca [false] [10] [] 16 ent134 (g134 k false ([a0.Service, a0.Nonce] : List Int) r4 hr4) ?_; exact lx [(11, 16)] hm
   ·refine fa underlying80 info37 ?_; exact lx [] hm
   ·refine lp shape37 ?_; exact lx [] hm
   ·refine c0 16 ent138 (g138 k  a0.Rest r5 hr5) ?_; exact lx [(12, 16)] hm
   ·refine L.buildSlice (e := eS) 16 ([r3, r4, r5] : List (List UInt8)) underlying70 info9 rfl rfl rfl hF rfl rfl rfl rfl rfl rfl rfl rfl ?_; exact lx [(13, 16)] hm
   ·refine ca [false] [13] [] 16 ent133 (g133 k false ([r3, r4, r5] : List (List UInt8)) r6 hr6) ?_; exact lx [(14, 16)] hm
   ·refine c0 16 ent136 (g136 k  a1 r6 r7 hr7) ?_; exact lx [(15, 16)] hm
   ·refine ag ?_; exact lx [] hm
  refine ⟨_, (lm [] hm : Le _ _ (mkSt [(4, oS r7)] [] [] 0)), ?_⟩; cases H; exact WpC.ret rt
/-! ### S_l8Reply -/
def S_l8Reply (k : Nat) (a0 : Int) (a1 a2 : List UInt8) (a3 : T_Event) : Option T_Reply := (S_Nums k ([3, a0] : List Int)).bind fun r1 => (S_List k ([r1, a1, a2] : List (List UInt8))).bind fun r2 => cond (r2 == ([] : List UInt8)) ((S_l8Fail k 1).bind fun r4 => some r4) (some (⟨0, r2, a3⟩ : T_Reply))
theorem ent141 : MG.Enters Tryz.prog 141 := ⟨Tryz.f141, func141, rfl, by decide⟩
theorem g141 (k : Nat) (a0 : Int) (a1 a2 : List UInt8) (a3 : T_Event) (r : T_Reply) (H : S_l8Reply k a0 a1 a2 a3 = some r) : Gives Tryz.prog 141 [V.one (cI a0), V.one (cS a1), V.one (cS a2), V.agg (bT_Event a3)] [] [V.agg (bT_Reply r)] [] := by
 refine Gives.intro func141 rfl rfl rfl rfl ?_; refine fx fun w0 T S0 ob oh hm => ?_
 have hF := fxe w0 T S0 23 ob oh
 unfold S_l8Reply at H; obtain ⟨K, hK⟩ := leK k; refine sr ?_; refine bo 14 ?_; refine alc 15 info64 (L.nil ?_); refine sr ?_; refine mv ?_; refine L.buildSlice (e := eI) 16 ([3, a0] : List Int) underlying22 info3 rfl rfl rfl hF rfl rfl rfl rfl rfl rfl rfl rfl ?_; obtain ⟨r1, hr1, H⟩ := bindS H; refine ca [false] [16] [] 17 ent134 (g134 k false ([3, a0] : List Int) r1 hr1) ?_; refine mv ?_; refine mv ?_; refine L.buildSlice (e := eS) 18 ([r1, a1, a2] : List (List UInt8)) underlying70 info9 rfl rfl rfl hF rfl rfl rfl rfl rfl rfl rfl rfl ?_; obtain ⟨r2, hr2, H⟩ := bindS H; refine ca [false] [18] [] 19 ent133 (g133 k false ([r1, a1, a2] : List (List UInt8)) r2 hr2) ?_; refine ag (L.nil ?_); refine WpC.seq (sr ?_); refine mv ?_; refine L.binS hF rfl rfl rfl rfl rfl (L.nil ?_); refine cd H (fun hc H => ?_) (fun hc H => ?_)
 ·refine sr ?_; obtain ⟨r4, hr4, H⟩ := bindS H; refine c0 20 ent84 (g84 k  1 r4 hr4) ?_; refine sp shape64 (L.nil ?_); cases H; exact WpC.ret rt
 ·refine WpC.skip (sr ?_); refine mv ?_; refine lp shape62 ?_; refine bf built64 ?_; refine sp shape64 (L.nil ?_); cases H; exact WpC.ret rt
/-! ### S_l8Login -/
def S_l8Login (k : Nat) (a0 : T_Config) (a1 a2 a3 a4 a5 : Int) (a6 : List UInt8) : Option T_Reply := (S_RealmOf k a0 a4).bind fun r3 => cond (r3 != a1) ((S_l8Fail k 1).bind fun r4 => some r4) ((S_PrincipalKey k a4).bind fun r5 => (S_Open k a6 r5).bind fun r6 => (S_ReadNums k r6.1).bind fun r7 => cond (!r7.2) ((S_l8Fail k 2).bind fun r14 => some r14) (cond ((r7.1.length : Int) != 2) ((S_l8Fail k 2).bind fun r15 => some r15) ((at? r7.1 0).bind fun b16 => cond (b16 != 8) ((S_l8Fail k 2).bind fun r17 => some r17) ((at? r7.1 1).bind fun b21 => (S_l7Apart k a2 b21 a0.Skew).bind fun r22 => cond r22 ((S_l8Fail k 3).bind fun r23 => some r23) (cond (decide ((IntKind.i64.wrap (a2 + 50)) > 100000)) ((S_l8Fail k 4).bind fun r25 => some r25) ((S_CentreKey k a1).bind fun r26 => (S_ShowTicket k (⟨a4, (IntKind.i64.wrap (10 + a1)), a3, (⟨7, 255, (IntKind.i64.wrap (a2 + 50))⟩ : T_Rest), [], []⟩ : T_Ticket) r26).bind fun r27 => (S_PrincipalKey k a4).bind fun r28 => (S_ShowGrant k (⟨a3, (IntKind.i64.wrap (10 + a1)), a5, (⟨7, 255, (IntKind.i64.wrap (a2 + 50))⟩ : T_Rest)⟩ : T_Grant) r28).bind fun r29 => (S_l8Reply k a5 r27 r29 (⟨1, a1, a4, a4, (IntKind.i64.wrap (10 + a1)), a3, 0, 0, (⟨7, 255, (IntKind.i64.wrap (a2 + 50))⟩ : T_Rest)⟩ : T_Event)).bind fun r30 => some r30))))))
theorem ent86 : MG.Enters Tryz.prog 86 := ⟨Tryz.f86, func86, rfl, by decide⟩
theorem g86 (k : Nat) (g0 g1 g2 g3 : Bool) (a0 : T_Config) (a1 a2 a3 a4 a5 : Int) (a6 : List UInt8) (r : T_Reply) (H : S_l8Login k a0 a1 a2 a3 a4 a5 a6 = some r) : Gives Tryz.prog 86 [V.agg (bT_Config g0 g1 g2 g3 a0), V.one (cI a1), V.one (cI a2), V.one (cI a3), V.one (cI a4), V.one (cI a5), V.one (cS a6)] [] [V.agg (bT_Reply r)] [] := by
 refine Gives.intro func86 rfl rfl rfl rfl ?_; refine fx fun w0 T S0 ob oh hm => ?_
 have hF := fxe w0 T S0 101 ob oh
 unfold S_l8Login at H; obtain ⟨K, hK⟩ := leK k; refine sr ?_; refine bo 11 ?_; refine alc 12 info64 (L.nil ?_); refine WpC.seq (sr ?_); refine lp shape44 ?_; refine mv ?_; obtain ⟨r3, hr3, H⟩ := bindS H; refine c0 13 ent140 (g140 k g0 g1 g2 g3 a0 a4 r3 hr3) ?_; refine mv ?_; refine bi (L.nil ?_); refine cd H (fun hc H => ?_) (fun hc H => ?_)
 ·refine sr ?_; obtain ⟨r4, hr4, H⟩ := bindS H; refine c0 14 ent84 (g84 k  1 r4 hr4) ?_; refine sp shape64 (L.nil ?_); cases H; exact WpC.ret rt
 ·refine WpC.skip (sr ?_); refine mv ?_; refine mv ?_; obtain ⟨r5, hr5, H⟩ := bindS H; refine c0 14 ent31 (g31 k  a4 r5 hr5) ?_; obtain ⟨r6, hr6, H⟩ := bindS H; refine c0 15 ent102 (g102 k  a6 r5 r6 hr6) ?_; refine mv ?_; refine ex ?_; refine ex ?_; refine ag ?_; refine ag (L.nil ?_); refine sr ?_; refine mv ?_; obtain ⟨r7, hr7, H⟩ := bindS H; refine c0 17 ent44 (g44 k  r6.1 r7 hr7) ?_; refine mv ?_; refine ex ?_; refine ex ?_; refine ag ?_; refine ag (L.nil ?_); refine WpC.seq (sr ?_); refine mv ?_; refine nt ?_; refine mv ?_; refine sH H (fun hc H => ?_) (fun hc H => ?_)
  ·(repeat refine of ?_); refine pk ?_; refine mv ?_; (repeat refine of ?_); refine pk (L.nil ?_); refine cT ?_; refine sr ?_; obtain ⟨r14, hr14, H⟩ := bindS H; refine c0 19 ent84 (g84 k  2 r14 hr14) ?_; refine sp shape64 (L.nil ?_); cases H; exact WpC.ret rt
  ·refine mv ?_; refine L.lenR (xs := r7.1) (e := eI) underlying22 hF rfl rfl rfl rfl ?_; refine bi ?_; refine pk ?_; refine mv ?_; refine sH H (fun hc H => ?_) (fun hc H => ?_)
   ·(repeat refine of ?_); refine pk (L.nil ?_); refine cT ?_; refine sr ?_; obtain ⟨r15, hr15, H⟩ := bindS H; refine c0 19 ent84 (g84 k  2 r15 hr15) ?_; refine sp shape64 (L.nil ?_); cases H; exact WpC.ret rt
   ·refine mv ?_; obtain ⟨b16, hb16, H⟩ := bindS H; refine ix underlying22 info3 hb16 ?_; refine L.loadEp (xs := r7.1) (e := eI) shape3 hF rfl rfl rfl rfl (at?_get hb16).2 rfl rfl ?_; refine bi ?_; refine pk (L.nil ?_); refine cd H (fun hc H => ?_) (fun hc H => ?_)
    ·refine sr ?_; obtain ⟨r17, hr17, H⟩ := bindS H; refine c0 19 ent84 (g84 k  2 r17 hr17) ?_; refine sp shape64 (L.nil ?_); cases H; exact WpC.ret rt
    ·refine WpC.skip (WpC.seq (WpC.seq ?_)); obtain ⟨b21, hb21, H⟩ := bindS H; obtain ⟨r22, hr22, H⟩ := bindS H; refine A.begin mixed rfl rfl ?_; intro W hI hO
     have n63 : W 1 #[true, true, true, true, true, true, false] (mkSt [(1, oI a1), (2, oI a2), (3, oI a3), (4, oI a4), (5, oI a5), (14, oP 0 0), (55, oI a2), (58, oI b21), (60, oI a0.Skew)] [] [(0, zc0)] 1) := by
      refine hI _ _ _ ?_; refine A.all [6] (by kernel_rfl) rfl ⟨⟨_, rfl, ?_⟩, trivial⟩; refine c0 1 ent109 (g109 k  a2 b21 a0.Skew r22 hr22) (L.nil ?_); refine A.le (τ := mkSt [(1, oI a1), (2, oI a2), (3, oI a3), (4, oI a4), (5, oI a5), (14, oP 0 0), (61, oL r22)] [] [(0, zc0)] 1) (lm [(0, 0)] hm) ?_; refine A.done (by kernel_rfl) ?_; refine cd H (fun hc H => ?_) (fun hc H => ?_)
      ·refine sr ?_; obtain ⟨r23, hr23, H⟩ := bindS H; refine c0 1 ent84 (g84 k  3 r23 hr23) ?_; refine sp shape64 (L.nil ?_); cases H; exact WpC.ret rt
      ·refine WpC.skip (WpC.seq (sr ?_)); refine mv ?_; refine bi ?_; refine bi (L.nil ?_); refine cd H (fun hc H => ?_) (fun hc H => ?_)
       ·refine sr ?_; obtain ⟨r25, hr25, H⟩ := bindS H; refine c0 1 ent84 (g84 k  4 r25 hr25) ?_; refine sp shape64 (L.nil ?_); cases H; exact WpC.ret rt
       ·refine WpC.skip (sr ?_); refine mv ?_; refine bi ?_; refine bf built37 ?_; refine alc 1 info37 ?_; refine sp shape37 (L.nil ?_); refine sr ?_; refine mv ?_; refine mv ?_; refine bi ?_; refine mv ?_; refine lp shape37 ?_; refine bf built76 ?_; refine alc 2 info76 ?_; refine sp shape76 (L.nil ?_); refine sr ?_; refine mv ?_; refine mv ?_; refine bi ?_; refine mv ?_; refine lp shape37 ?_; refine bf built80 ?_; refine alc 3 info80 ?_; refine sp shape80 (L.nil ?_); refine sr ?_; refine mv ?_; refine mv ?_; refine mv ?_; refine mv ?_; refine bi ?_; refine mv ?_; refine lp shape37 ?_; refine bf built62 ?_; refine alc 4 info62 ?_; refine sp shape62 (L.nil ?_); refine WpC.seq ?_; obtain ⟨r26, hr26, H⟩ := bindS H; obtain ⟨r27, hr27, H⟩ := bindS H; obtain ⟨r28, hr28, H⟩ := bindS H; obtain ⟨r29, hr29, H⟩ := bindS H; obtain ⟨r30, hr30, H⟩ := bindS H
        refine A.lin (fun β => mkStL [(1, iI a1), (4, iI a4), (5, iI a5), (14, iP 0 0), (20, iP 2 0), (21, iP 3 0), (22, iP 4 0), (90, lI (β 0) a5), (91, al (β 1) (agg [cI a4, cI (IntKind.i64.wrap (10 + a1)), cI a3, cI 7, cI 255, cI (IntKind.i64.wrap (a2 + 50)), Cell.nil, Cell.nil])), (92, lI (β 2) a1), (93, lI (β 3) r26), (94, al (β 4) (one (cS r27))), (95, al (β 5) (agg [cI a3, cI (IntKind.i64.wrap (10 + a1)), cI a5, cI 7, cI 255, cI (IntKind.i64.wrap (a2 + 50))])), (96, lI (β 6) a4), (97, lI (β 7) r28), (98, al (β 8) (one (cS r29))), (99, al (β 9) (agg [cI 1, cI a1, cI a4, cI a4, cI (IntKind.i64.wrap (10 + a1)), cI a3, cI 0, cI 0, cI 7, cI 255, cI (IntKind.i64.wrap (a2 + 50))])), (100, al (β 10) (agg (bT_Reply r30)))] [] [(0, [(β 11, some ((bT_Reply r30))), (true, some (zc0))]), (2, ai ([cI a4, cI (IntKind.i64.wrap (10 + a1)), cI a3, cI 7, cI 255, cI (IntKind.i64.wrap (a2 + 50)), Cell.nil, Cell.nil])), (3, ai ([cI a3, cI (IntKind.i64.wrap (10 + a1)), cI a5, cI 7, cI 255, cI (IntKind.i64.wrap (a2 + 50))])), (4, ai ([cI 1, cI a1, cI a4, cI a4, cI (IntKind.i64.wrap (10 + a1)), cI a3, cI 0, cI 0, cI 7, cI 255, cI (IntKind.i64.wrap (a2 + 50))]))] 22) [([], [10, 11]), ([], [4, 7, 8, 10, 11]), ([], [3, 4, 7, 8, 10, 11]), ([2], [4, 7, 8, 10, 11]), ([1, 2, 3], [7, 8, 10, 11]), ([], [8, 10, 11]), ([], [7, 8, 10, 11]), ([1, 2, 3, 4, 6], [8, 10, 11]), ([1, 2, 3, 4, 5, 6, 7], [10, 11]), ([], [10, 11]), ([0, 1, 2, 3, 4, 5, 6, 7, 8, 9], [11]), ([0, 1, 2, 3, 4, 5, 6, 7, 8, 9, 10], [])] 12 mixed rfl (by kernel_rfl) ?_ ?_ ?_
        ·exact Le.lin [] hm rfl (sa (sa2 (sa4 (kn (kn2 (kn8 kz)))))) kz (ba (ba (ba (ba kz))))
        ·repeat' (first | exact trivial | refine ⟨⟨_, rfl, fun β => ?_⟩, ?_⟩ | fail)
         ·refine mv ?_; exact lx [] hm
         ·refine lp shape76 ?_; exact lx [] hm
         ·refine mv ?_; exact lx [] hm
         ·refine c0 22 ent32 (g32 k  a1 r26 hr26) ?_; exact lx [(5, 22)] hm
         ·refine c0 22 ent77 (g77 k true true (⟨a4, (IntKind.i64.wrap (10 + a1)), a3, (⟨7, 255, (IntKind.i64.wrap (a2 + 50))⟩ : T_Rest), [], []⟩ : T_Ticket) r26 r27 hr27) ?_; exact lx [(6, 22)] hm
         ·refine lp shape80 ?_; exact lx [] hm
         ·refine mv ?_; exact lx [] hm
         ·refine c0 22 ent31 (g31 k  a4 r28 hr28) ?_; exact lx [(7, 22)] hm
         ·refine c0 22 ent142 (g142 k  (⟨a3, (IntKind.i64.wrap (10 + a1)), a5, (⟨7, 255, (IntKind.i64.wrap (a2 + 50))⟩ : T_Rest)⟩ : T_Grant) r28 r29 hr29) ?_; exact lx [(8, 22)] hm
         ·refine lp shape62 ?_; exact lx [] hm
         ·refine c0 22 ent141 (g141 k  a5 r27 r29 (⟨1, a1, a4, a4, (IntKind.i64.wrap (10 + a1)), a3, 0, 0, (⟨7, 255, (IntKind.i64.wrap (a2 + 50))⟩ : T_Rest)⟩ : T_Event) r30 hr30) ?_; exact lx [(9, 22), (10, 23), (11, 24), (12, 25), (13, 26), (14, 27), (15, 28), (16, 29), (17, 30), (18, 31), (19, 32), (20, 33), (21, 34)] hm
         ·refine sp shape64 ?_; exact lx [] hm
        refine ⟨_, (lm [(0, 0)] hm : Le _ _ (mkSt [(14, oP 0 0)] [] [(0, (bT_Reply r30))] 1)), ?_⟩; cases H; exact WpC.ret rt
     refine hI _ _ _ ?_; refine tM 0 ?_; refine tM 1 ?_; refine Atk 2 rfl (Ca.indexAddr) (fun Q0 k0 => ix underlying22 info3 hb21 (L.nil k0)) ?_; refine tF 4 underlying44 info3 ?_; refine A.all [3, 5] (by kernel_rfl) rfl ⟨⟨_, rfl, ?_⟩, ⟨_, rfl, ?_⟩, trivial⟩
     ·refine L.loadEp (xs := r7.1) (e := eI) shape3 hF rfl rfl rfl rfl (at?_get hb21).2 rfl rfl ?_; refine L.nil ?_; refine A.all [5] (by kernel_rfl) rfl ⟨⟨_, rfl, ?_⟩, trivial⟩; refine lp shape3 (L.nil ?_); exact A.on (hO _ _ _ n63) (lm [(0, 12)] hm)
     ·refine lp shape3 (L.nil ?_); refine A.all [3] (by kernel_rfl) rfl ⟨⟨_, rfl, ?_⟩, trivial⟩; refine L.loadEp (xs := r7.1) (e := eI) shape3 hF rfl rfl rfl rfl (at?_get hb21).2 rfl rfl ?_; refine L.nil ?_; exact A.on (hO _ _ _ n63) (lm [(0, 12)] hm)
/-! ### S_ReadRest -/
def S_ReadRest.j2 (k : Nat) (v4 : List Int) (v5 : Bool) : Option (T_Rest × Bool) := cond v5 (some ((⟨0, 0, 0⟩ : T_Rest), false)) ((at? v4 0).bind fun b6 => (at? v4 1).bind fun b7 => (at? v4 2).bind fun b8 => (S_RestOk k (⟨b6, b7, b8⟩ : T_Rest)).bind fun r10 => cond (!r10) (some ((⟨0, 0, 0⟩ : T_Rest), false)) (some ((⟨b6, b7, b8⟩ : T_Rest), true)))
def S_ReadRest (k : Nat) (a0 : List UInt8) : Option (T_Rest × Bool) := (S_ReadNums k a0).bind fun r1 => cond (!r1.2) (S_ReadRest.j2 k r1.1 true) (S_ReadRest.j2 k r1.1 ((r1.1.length : Int) != 3))
theorem ent36 : MG.Enters Tryz.prog 36 := ⟨Tryz.f36, func36, rfl, by decide⟩
theorem g36 (k : Nat) (a0 : List UInt8) (r : T_Rest × Bool) (H : S_ReadRest k a0 = some r) : Gives Tryz.prog 36 [V.one (cS a0)] [] [V.agg (bT_Rest r.1), V.one (cL r.2)] [] := by
 refine Gives.intro func36 rfl rfl rfl rfl ?_; refine fx fun w0 T S0 ob oh hm => ?_
 have hF := fxe w0 T S0 35 ob oh
 unfold S_ReadRest at H; obtain ⟨K, hK⟩ := leK k; refine sr ?_; refine alc 1 info37 ?_; refine ag (L.nil ?_); refine sr ?_; refine mv ?_; obtain ⟨r1, hr1, H⟩ := bindS H; refine c0 2 ent44 (g44 k  a0 r1 hr1) ?_; refine mv ?_; refine ex ?_; refine ex ?_; refine ag ?_; refine ag (L.nil ?_); refine WpC.seq ?_; refine WpC.join (fun σ => ∃ (kj2 : Nat) (v4 : List Int) (v5 : Bool), kj2 ≤ K ∧ S_ReadRest.j2 kj2 v4 v5 = some r ∧ σ = mkSt [(2, oP 0 0), (4, one (Cell.own 1)), (18, oL v5)] [(1, ⟨1, List.map eI v4⟩)] [(0, [cI 0, cI 0, cI 0])] 2) ?_ ?_
 ·rintro _ ⟨kj2, v4, v5, hkj2, H, rfl⟩
  unfold S_ReadRest.j2 at H; refine cd H (fun hc H => ?_) (fun hc H => ?_)
  ·refine sr ?_; refine bf built37 ?_; refine sp shape37 ?_; refine ag (L.nil ?_); cases H; exact WpC.ret rt
  ·refine WpC.skip (WpC.seq ?_); obtain ⟨b6, hb6, H⟩ := bindS H; obtain ⟨b7, hb7, H⟩ := bindS H; obtain ⟨b8, hb8, H⟩ := bindS H; refine A.lin (fun β => mkStL [(2, iP 0 0), (4, ai (one (Cell.own 1))), (6, lP (β 10) 2 0), (20, al (β 0) (one (Cell.own 1))), (21, al (β 1) (one (Cell.ep 1 ((0 : Int).toNat) 0))), (22, lI (β 2) b6), (23, al (β 3) (one (Cell.own 1))), (24, al (β 4) (one (Cell.ep 1 ((1 : Int).toNat) 0))), (25, lI (β 5) b7), (26, al (β 6) (one (Cell.own 1))), (27, al (β 7) (one (Cell.ep 1 ((2 : Int).toNat) 0))), (28, lI (β 8) b8), (29, al (β 9) (agg [cI b6, cI b7, cI b8]))] [(1, ai (⟨1, List.map eI v4⟩))] [(0, ai ([cI 0, cI 0, cI 0])), (2, [(β 11, some ([cI b6, cI b7, cI b8])), (β 10, some ([cI 0, cI 0, cI 0]))])] 3) [([], [1, 2, 9, 11]), ([0], [2, 9, 11]), ([0, 1], [9, 11]), ([], [4, 5, 9, 11]), ([3], [5, 9, 11]), ([3, 4], [9, 11]), ([], [7, 8, 9, 11]), ([6], [8, 9, 11]), ([6, 7], [9, 11]), ([0, 1, 2, 3, 4, 5, 6, 7, 8], [11]), ([], [11]), ([0, 1, 2, 3, 4, 5, 6, 7, 8, 9, 10], [])] 12 mixed rfl (by kernel_rfl) ?_ ?_ ?_
   ·exact Le.lin [] hm rfl (sa2 (kn (kn2 (kn8 kz)))) (ra kz) (ba (kn kz))
   ·repeat' (first | exact trivial | refine ⟨⟨_, rfl, fun β => ?_⟩, ?_⟩ | fail)
    ·refine mv ?_; exact lx [] hm
    ·refine ix underlying22 info3 hb6 ?_; exact lx [] hm
    ·refine L.loadEp (xs := v4) (e := eI) shape3 hF rfl rfl rfl rfl (at?_get hb6).2 rfl rfl ?_; exact lx [] hm
    ·refine mv ?_; exact lx [] hm
    ·refine ix underlying22 info3 hb7 ?_; exact lx [] hm
    ·refine L.loadEp (xs := v4) (e := eI) shape3 hF rfl rfl rfl rfl (at?_get hb7).2 rfl rfl ?_; exact lx [] hm
    ·refine mv ?_; exact lx [] hm
    ·refine ix underlying22 info3 hb8 ?_; exact lx [] hm
    ·refine L.loadEp (xs := v4) (e := eI) shape3 hF rfl rfl rfl rfl (at?_get hb8).2 rfl rfl ?_; exact lx [] hm
    ·refine bf built37 ?_; exact lx [] hm
    ·refine alc 3 info37 ?_; exact lx [(2, 3)] hm
    ·refine sp shape37 ?_; exact lx [] hm
   refine ⟨_, (lm [(0, 0), (1, 2)] hm : Le _ _ (mkSt [(2, oP 0 0), (6, oP 1 0)] [] [(0, [cI 0, cI 0, cI 0]), (1, [cI b6, cI b7, cI b8])] 2)), ?_⟩; refine WpC.seq (sr ?_); refine lp shape37 ?_; obtain ⟨r10, hr10, H⟩ := bindS H; refine c0 2 ent81 (g81 kj2  (⟨b6, b7, b8⟩ : T_Rest) r10 hr10) ?_; refine nt (L.nil ?_); refine cd H (fun hc H => ?_) (fun hc H => ?_)
   ·refine sr ?_; refine bf built37 ?_; refine sp shape37 ?_; refine ag (L.nil ?_); cases H; exact WpC.ret rt
   ·refine WpC.skip (sr ?_); refine lp shape37 ?_; refine sp shape37 ?_; refine ag (L.nil ?_); cases H; exact WpC.ret rt
 ·refine WpC.regionL ?_; refine mv ?_; refine nt ?_; refine mv ?_; refine sH H (fun hc H => ?_) (fun hc H => ?_)
  ·(repeat refine of ?_); refine pk (L.nil ?_); exact ⟨_, ⟨k, r1.1, true, by omega, H, rfl⟩, lm [(0, 1), (1, 2)] hm⟩
  ·refine mv ?_; refine L.lenR (xs := r1.1) (e := eI) underlying22 hF rfl rfl rfl rfl ?_; refine bi ?_; refine pk (L.nil ?_); exact ⟨_, ⟨k, r1.1, ((r1.1.length : Int) != 3), by omega, H, rfl⟩, lm [(0, 1), (1, 2)] hm⟩
/-! ### S_ReadKey -/
def S_ReadKey (k : Nat) (a0 : List UInt8) : Option (Int × Bool) := (S_TermOk k a0).bind fun r7 => cond (!r7) (some (0, false)) ((at? a0 0).bind fun b8 => cond (b8 != (107 : UInt8)) (some (0, false)) ((cut? a0 1 (a0.length : Int)).bind fun b9 => (S_ReadVar k b9).bind fun r10 => some (r10.1, true)))
theorem ent103 : MG.Enters Tryz.prog 103 := ⟨Tryz.f103, func103, rfl, by decide⟩
theorem g103 (k : Nat) (a0 : List UInt8) (r : Int × Bool) (H : S_ReadKey k a0 = some r) : Gives Tryz.prog 103 [V.one (cS a0)] [] [V.one (cI r.1), V.one (cL r.2)] [] := by
 refine Gives.intro func103 rfl rfl rfl rfl ?_; refine fx fun w0 T S0 ob oh hm => ?_
 have hF := fxe w0 T S0 21 ob oh
 unfold S_ReadKey at H; obtain ⟨K, hK⟩ := leK k; refine sr ?_; refine ag ?_; refine ag (L.nil ?_); refine WpC.seq (sr ?_); refine mv ?_; obtain ⟨r7, hr7, H⟩ := bindS H; refine c0 1 ent98 (g98 k  a0 r7 hr7) ?_; refine nt ?_; refine mv ?_; refine sH H (fun hc H => ?_) (fun hc H => ?_)
 ·(repeat refine of ?_); refine pk (L.nil ?_); refine cT ?_; refine sr ?_; refine ag ?_; refine ag (L.nil ?_); cases H; exact WpC.ret rt
 ·refine mv ?_; obtain ⟨b8, hb8, H⟩ := bindS H; refine L.idxS underlying9 hF rfl rfl rfl rfl hb8 ?_; refine L.binB (a := b8) (b := (107 : UInt8)) hF rfl rfl rfl rfl rfl ?_; refine pk (L.nil ?_); refine cd H (fun hc H => ?_) (fun hc H => ?_)
  ·refine sr ?_; refine ag ?_; refine ag (L.nil ?_); cases H; exact WpC.ret rt
  ·refine WpC.skip (sr ?_); refine mv ?_; obtain ⟨b9, hb9, H⟩ := bindS H; refine L.cutS underlying9 hF rfl rfl rfl rfl rfl hb9 ?_; obtain ⟨r10, hr10, H⟩ := bindS H; refine c0 2 ent99 (g99 k  b9 r10 hr10) ?_; refine mv ?_; refine ex ?_; refine ex ?_; refine ag ?_; refine ag (L.nil ?_); refine sr ?_; refine mv ?_; refine ag ?_; refine ag (L.nil ?_); cases H; exact WpC.ret rt
/-! ### S_ReadTicket -/
def S_ReadTicket.j2 (k : Nat) (v21 : List Int) (v22 : Int) (v23 v24 : List Int) (v25 : Bool) (v26 v27 v28 : Int) : Option (T_Ticket × Bool) := cond v25 (some ((⟨0, 0, 0, (⟨0, 0, 0⟩ : T_Rest), [], []⟩ : T_Ticket), false)) ((at? v21 0).bind fun b29 => (at? v21 1).bind fun b30 => (S_l5TicketOk k (⟨b29, b30, v22, (⟨v26, v27, v28⟩ : T_Rest), v23, v24⟩ : T_Ticket)).bind fun r32 => cond (!r32) (some ((⟨0, 0, 0, (⟨0, 0, 0⟩ : T_Rest), [], []⟩ : T_Ticket), false)) (some ((⟨b29, b30, v22, (⟨v26, v27, v28⟩ : T_Rest), v23, v24⟩ : T_Ticket), true)))
def S_ReadTicket (k : Nat) (a0 : List UInt8) (a1 : Int) : Option (T_Ticket × Bool) := (S_Open k a0 a1).bind fun r1 => (S_Parts k r1.1).bind fun r2 => cond ((r2.1.length : Int) != 5) (some ((⟨0, 0, 0, (⟨0, 0, 0⟩ : T_Rest), [], []⟩ : T_Ticket), false)) ((at? r2.1 0).bind fun b3 => (S_ReadNums k b3).bind fun r4 => (at? r2.1 1).bind fun b5 => (S_ReadKey k b5).bind fun r6 => (at? r2.1 2).bind fun b7 => (S_ReadRest k b7).bind fun r8 => (at? r2.1 3).bind fun b9 => (S_ReadNums k b9).bind fun r10 => (at? r2.1 4).bind fun b11 => (S_ReadNums k b11).bind fun r12 => cond (!r4.2) (S_ReadTicket.j2 k r4.1 r6.1 r10.1 r12.1 true r8.1.Servers r8.1.Ops r8.1.End) (cond (!r6.2) (S_ReadTicket.j2 k r4.1 r6.1 r10.1 r12.1 true r8.1.Servers r8.1.Ops r8.1.End) (cond (!r8.2) (S_ReadTicket.j2 k r4.1 r6.1 r10.1 r12.1 true r8.1.Servers r8.1.Ops r8.1.End) (cond (!r10.2) (S_ReadTicket.j2 k r4.1 r6.1 r10.1 r12.1 true r8.1.Servers r8.1.Ops r8.1.End) (cond (!r12.2) (S_ReadTicket.j2 k r4.1 r6.1 r10.1 r12.1 true r8.1.Servers r8.1.Ops r8.1.End) (S_ReadTicket.j2 k r4.1 r6.1 r10.1 r12.1 ((r4.1.length : Int) != 2) r8.1.Servers r8.1.Ops r8.1.End))))))
theorem ent34 : MG.Enters Tryz.prog 34 := ⟨Tryz.f34, func34, rfl, by decide⟩
theorem g34 (k : Nat) (a0 : List UInt8) (a1 : Int) (r : T_Ticket × Bool) (H : S_ReadTicket k a0 a1 = some r) : Gives Tryz.prog 34 [V.one (cS a0), V.one (cI a1)] [] [V.agg [cI r.1.Client, cI r.1.Service, cI r.1.Key, cI r.1.Rest.Servers, cI r.1.Rest.Ops, cI r.1.Rest.End, Cell.ow 1 (List.map eI r.1.Path), Cell.ow 1 (List.map eI r.1.Via)], V.one (cL r.2)] [] := by
 refine Gives.intro func34 rfl rfl rfl rfl ?_; refine fx fun w0 T S0 ob oh hm => ?_
 have hF := fxe w0 T S0 111 ob oh
 unfold S_ReadTicket at H; obtain ⟨K, hK⟩ := leK k; refine sr ?_; refine alc 2 info76 ?_; refine ag (L.nil ?_); refine sr ?_; refine mv ?_; refine mv ?_; obtain ⟨r1, hr1, H⟩ := bindS H; refine c0 3 ent102 (g102 k  a0 a1 r1 hr1) ?_; refine mv ?_; refine ex ?_; refine ex ?_; refine ag ?_; refine ag (L.nil ?_); refine sr ?_; refine mv ?_; obtain ⟨r2, hr2, H⟩ := bindS H; refine c0 5 ent30 (g30 k  r1.1 r2 hr2) ?_; refine mv ?_; refine ex ?_; refine ex ?_; refine ag ?_; refine ag (L.nil ?_); refine WpC.seq (sr ?_); refine mv ?_; refine L.lenR (xs := r2.1) (e := eS) underlying70 hF rfl rfl rfl rfl ?_; refine bi (L.nil ?_); refine cd H (fun hc H => ?_) (fun hc H => ?_)
 ·refine sr ?_; refine bf built76 ?_; refine sp shape76 ?_; refine ag (L.nil ?_); refine WpC.le (Le.ownB 2 6 7 1 rfl rfl rfl) ?_; refine WpC.le (Le.ownB 2 7 8 1 rfl rfl rfl) ?_; cases H; exact WpC.ret rt
 ·refine WpC.skip (sr ?_); refine mv ?_; obtain ⟨b3, hb3, H⟩ := bindS H; refine ix underlying70 info9 hb3 ?_; refine L.loadEp (xs := r2.1) (e := eS) shape9 hF rfl rfl rfl rfl (at?_get hb3).2 rfl rfl ?_; obtain ⟨r4, hr4, H⟩ := bindS H; refine c0 7 ent44 (g44 k  b3 r4 hr4) ?_; refine mv ?_; refine ex ?_; refine ex ?_; refine ag ?_; refine ag (L.nil ?_); refine sr ?_; refine mv ?_; obtain ⟨b5, hb5, H⟩ := bindS H; refine ix underlying70 info9 hb5 ?_; refine L.loadEp (xs := r2.1) (e := eS) shape9 hF rfl rfl rfl rfl (at?_get hb5).2 rfl rfl ?_; obtain ⟨r6, hr6, H⟩ := bindS H; refine c0 9 ent103 (g103 k  b5 r6 hr6) ?_; refine mv ?_; refine ex ?_; refine ex ?_; refine ag ?_; refine ag (L.nil ?_); refine sr ?_; refine mv ?_; obtain ⟨b7, hb7, H⟩ := bindS H; refine ix underlying70 info9 hb7 ?_; refine L.loadEp (xs := r2.1) (e := eS) shape9 hF rfl rfl rfl rfl (at?_get hb7).2 rfl rfl ?_; obtain ⟨r8, hr8, H⟩ := bindS H; refine c0 11 ent36 (g36 k  b7 r8 hr8) ?_; refine mv ?_; refine ex ?_; refine ex ?_; refine alc 15 info37 ?_; refine sp shape37 ?_; refine ag (L.nil ?_); refine sr ?_; refine mv ?_; obtain ⟨b9, hb9, H⟩ := bindS H; refine ix underlying70 info9 hb9 ?_; refine L.loadEp (xs := r2.1) (e := eS) shape9 hF rfl rfl rfl rfl (at?_get hb9).2 rfl rfl ?_; obtain ⟨r10, hr10, H⟩ := bindS H
  refine c0 16 ent44 (g44 k  b9 r10 hr10) ?_; refine mv ?_; refine ex ?_; refine ex ?_; refine ag ?_; refine ag (L.nil ?_); refine sr ?_; refine mv ?_; obtain ⟨b11, hb11, H⟩ := bindS H; refine ix underlying70 info9 hb11 ?_; refine L.loadEp (xs := r2.1) (e := eS) shape9 hF rfl rfl rfl rfl (at?_get hb11).2 rfl rfl ?_; obtain ⟨r12, hr12, H⟩ := bindS H; refine c0 18 ent44 (g44 k  b11 r12 hr12) ?_; refine mv ?_; refine ex ?_; refine ex ?_; refine ag ?_; refine ag (L.nil ?_); refine WpC.seq ?_; refine WpC.join (fun σ => ∃ (kj2 : Nat) (v21 : List Int) (v22 : Int) (v23 v24 : List Int) (v25 : Bool) (v26 v27 v28 : Int), kj2 ≤ K ∧ S_ReadTicket.j2 kj2 v21 v22 v23 v24 v25 v26 v27 v28 = some r ∧ σ = mkSt [(4, oP 0 0), (10, one (Cell.own 1)), (12, oI v22), (14, oP 2 0), (16, one (Cell.own 3)), (18, one (Cell.own 4)), (93, oL v25)] [(1, ⟨1, List.map eI v21⟩), (3, ⟨1, List.map eI v23⟩), (4, ⟨1, List.map eI v24⟩)] [(0, zc1), (2, [cI v26, cI v27, cI v28])] 5) ?_ ?_
  ·rintro _ ⟨kj2, v21, v22, v23, v24, v25, v26, v27, v28, hkj2, H, rfl⟩
   unfold S_ReadTicket.j2 at H; refine cd H (fun hc H => ?_) (fun hc H => ?_)
   ·refine sr ?_; refine bf built76 ?_; refine sp shape76 ?_; refine ag (L.nil ?_); refine WpC.le (Le.ownB 0 6 5 1 rfl rfl rfl) ?_; refine WpC.le (Le.ownB 0 7 6 1 rfl rfl rfl) ?_; cases H; exact WpC.ret rt
   ·refine WpC.skip (WpC.seq ?_); obtain ⟨b29, hb29, H⟩ := bindS H; obtain ⟨b30, hb30, H⟩ := bindS H
    refine A.lin (fun β => mkStL [(4, iP 0 0), (10, ai (one (Cell.own 1))), (12, iI v22), (14, iP 2 0), (16, ai (one (Cell.own 3))), (18, ai (one (Cell.own 4))), (20, lP (β 11) 5 0), (95, al (β 0) (one (Cell.own 1))), (96, al (β 1) (one (Cell.ep 1 ((0 : Int).toNat) 0))), (97, lI (β 2) b29), (98, al (β 3) (one (Cell.own 1))), (99, al (β 4) (one (Cell.ep 1 ((1 : Int).toNat) 0))), (100, lI (β 5) b30), (101, lI (β 6) v22), (102, al (β 7) (agg [cI v26, cI v27, cI v28])), (103, al (β 8) (one (Cell.own 3))), (104, al (β 9) (one (Cell.own 4))), (105, al (β 10) (agg [cI b29, cI b30, cI v22, cI v26, cI v27, cI v28, Cell.own 3, Cell.own 4]))] [(1, ai (⟨1, List.map eI v21⟩)), (3, ai (⟨1, List.map eI v23⟩)), (4, ai (⟨1, List.map eI v24⟩))] [(0, ai (zc1)), (2, ai ([cI v26, cI v27, cI v28])), (5, [(β 12, some ([cI b29, cI b30, cI v22, cI v26, cI v27, cI v28, Cell.own 3, Cell.own 4])), (β 11, some (zc1))])] 6) [([], [1, 2, 10, 12]), ([0], [2, 10, 12]), ([0, 1], [10, 12]), ([], [4, 5, 10, 12]), ([3], [5, 10, 12]), ([3, 4], [10, 12]), ([], [10, 12]), ([], [10, 12]), ([], [10, 12]), ([], [10, 12]), ([0, 1, 2, 3, 4, 5, 6, 7, 8, 9], [12]), ([], [12]), ([0, 1, 2, 3, 4, 5, 6, 7, 8, 9, 10, 11], [])] 13 mixed rfl (by kernel_rfl) ?_ ?_ ?_
    ·exact Le.lin [] hm rfl (sa2 (sa4 (kn4 (kn8 kz)))) (ra (ra (ra kz))) (ba (ba (kn kz)))
    ·repeat' (first | exact trivial | refine ⟨⟨_, rfl, fun β => ?_⟩, ?_⟩ | fail)
     ·refine mv ?_; exact lx [] hm
     ·refine ix underlying22 info3 hb29 ?_; exact lx [] hm
     ·refine L.loadEp (xs := v21) (e := eI) shape3 hF rfl rfl rfl rfl (at?_get hb29).2 rfl rfl ?_; exact lx [] hm
     ·refine mv ?_; exact lx [] hm
     ·refine ix underlying22 info3 hb30 ?_; exact lx [] hm
     ·refine L.loadEp (xs := v21) (e := eI) shape3 hF rfl rfl rfl rfl (at?_get hb30).2 rfl rfl ?_; exact lx [] hm
     ·refine mv ?_; exact lx [] hm
     ·refine lp shape37 ?_; exact lx [] hm
     ·refine mv ?_; exact lx [] hm
     ·refine mv ?_; exact lx [] hm
     ·refine bf built76 ?_; exact lx [] hm
     ·refine alc 6 info76 ?_; exact lx [(5, 6)] hm
     ·refine sp shape76 ?_; exact lx [] hm
    refine ⟨_, (lm [(0, 0), (1, 5), (2, 3), (3, 4)] hm : Le _ _ (mkSt [(4, oP 0 0), (20, oP 1 0)] [(2, ⟨1, List.map eI v23⟩), (3, ⟨1, List.map eI v24⟩)] [(0, zc1), (1, [cI b29, cI b30, cI v22, cI v26, cI v27, cI v28, Cell.own 2, Cell.own 3])] 4)), ?_⟩; refine WpC.seq (sr ?_); refine lp shape76 ?_; obtain ⟨r32, hr32, H⟩ := bindS H; refine ca [false] [2, 3] [] 4 ent104 (g104 kj2 false false (⟨b29, b30, v22, (⟨v26, v27, v28⟩ : T_Rest), v23, v24⟩ : T_Ticket) r32 hr32) ?_; refine nt (L.nil ?_); refine cd H (fun hc H => ?_) (fun hc H => ?_)
    ·refine sr ?_; refine bf built76 ?_; refine sp shape76 ?_; refine ag (L.nil ?_); refine WpC.le (Le.ownB 0 6 5 1 rfl rfl rfl) ?_; refine WpC.le (Le.ownB 0 7 6 1 rfl rfl rfl) ?_; cases H; exact WpC.ret rt
    ·refine WpC.skip (sr ?_); refine lp shape76 ?_; refine sp shape76 ?_; refine ag (L.nil ?_); cases H; exact WpC.ret rt
  ·refine WpC.regionL ?_; refine mv ?_; refine nt ?_; refine mv ?_; refine sH H (fun hc H => ?_) (fun hc H => ?_)
   ·(repeat refine of ?_); refine pk ?_; refine mv ?_; (repeat refine of ?_); refine pk ?_; refine mv ?_; (repeat refine of ?_); refine pk ?_; refine mv ?_; (repeat refine of ?_); refine pk ?_; refine mv ?_; (repeat refine of ?_); refine pk (L.nil ?_); exact ⟨_, ⟨k, r4.1, r6.1, r10.1, r12.1, true, r8.1.Servers, r8.1.Ops, r8.1.End, by omega, H, rfl⟩, lm [(0, 2), (1, 7), (2, 15), (3, 16), (4, 18)] hm⟩
   ·refine mv ?_; refine nt ?_; refine pk ?_; refine mv ?_; refine sH H (fun hc H => ?_) (fun hc H => ?_)
    ·(repeat refine of ?_); refine pk ?_; refine mv ?_; (repeat refine of ?_); refine pk ?_; refine mv ?_; (repeat refine of ?_); refine pk ?_; refine mv ?_; (repeat refine of ?_); refine pk (L.nil ?_); exact ⟨_, ⟨k, r4.1, r6.1, r10.1, r12.1, true, r8.1.Servers, r8.1.Ops, r8.1.End, by omega, H, rfl⟩, lm [(0, 2), (1, 7), (2, 15), (3, 16), (4, 18)] hm⟩
    ·refine mv ?_; refine nt ?_; refine pk ?_; refine mv ?_; refine sH H (fun hc H => ?_) (fun hc H => ?_)
     ·(repeat refine of ?_); refine pk ?_; refine mv ?_; (repeat refine of ?_); refine pk ?_; refine mv ?_; (repeat refine of ?_); refine pk (L.nil ?_); exact ⟨_, ⟨k, r4.1, r6.1, r10.1, r12.1, true, r8.1.Servers, r8.1.Ops, r8.1.End, by omega, H, rfl⟩, lm [(0, 2), (1, 7), (2, 15), (3, 16), (4, 18)] hm⟩
     ·refine mv ?_; refine nt ?_; refine pk ?_; refine mv ?_; refine sH H (fun hc H => ?_) (fun hc H => ?_)
      ·(repeat refine of ?_); refine pk ?_; refine mv ?_; (repeat refine of ?_); refine pk (L.nil ?_); exact ⟨_, ⟨k, r4.1, r6.1, r10.1, r12.1, true, r8.1.Servers, r8.1.Ops, r8.1.End, by omega, H, rfl⟩, lm [(0, 2), (1, 7), (2, 15), (3, 16), (4, 18)] hm⟩
      ·refine mv ?_; refine nt ?_; refine pk ?_; refine mv ?_; refine sH H (fun hc H => ?_) (fun hc H => ?_)
       ·(repeat refine of ?_); refine pk (L.nil ?_); exact ⟨_, ⟨k, r4.1, r6.1, r10.1, r12.1, true, r8.1.Servers, r8.1.Ops, r8.1.End, by omega, H, rfl⟩, lm [(0, 2), (1, 7), (2, 15), (3, 16), (4, 18)] hm⟩
       ·refine mv ?_; refine L.lenR (xs := r4.1) (e := eI) underlying22 hF rfl rfl rfl rfl ?_; refine bi ?_; refine pk (L.nil ?_); exact ⟨_, ⟨k, r4.1, r6.1, r10.1, r12.1, ((r4.1.length : Int) != 2), r8.1.Servers, r8.1.Ops, r8.1.End, by omega, H, rfl⟩, lm [(0, 2), (1, 7), (2, 15), (3, 16), (4, 18)] hm⟩
/-! ### S_LinkKey -/
def S_LinkKey (k : Nat) (a0 a1 : Int) : Option Int := (S_l6Realm k a0).bind fun r7 => cond (!r7) (some 0) ((S_l6Realm k a1).bind fun r8 => cond (!r8) (some 0) (some (IntKind.i64.wrap ((IntKind.i64.wrap (31 + (IntKind.i64.wrap (3 * a0)))) + a1))))
theorem ent33 : MG.Enters Tryz.prog 33 := ⟨Tryz.f33, func33, rfl, by decide⟩
theorem g33 (k : Nat) (a0 a1 r : Int) (H : S_LinkKey k a0 a1 = some r) : Gives Tryz.prog 33 [V.one (cI a0), V.one (cI a1)] [] [V.one (cI r)] [] := by
 refine Gives.intro func33 rfl rfl rfl rfl ?_; refine fx fun w0 T S0 ob oh hm => ?_
 have hF := fxe w0 T S0 18 ob oh
 unfold S_LinkKey at H; obtain ⟨K, hK⟩ := leK k; refine sr ?_; refine ag (L.nil ?_); refine WpC.seq (sr ?_); refine mv ?_; obtain ⟨r7, hr7, H⟩ := bindS H; refine c0 2 ent83 (g83 k  a0 r7 hr7) ?_; refine nt ?_; refine mv ?_; refine sH H (fun hc H => ?_) (fun hc H => ?_)
 ·(repeat refine of ?_); refine pk (L.nil ?_); refine cT ?_; refine sr ?_; refine ag (L.nil ?_); cases H; exact WpC.ret rt
 ·refine mv ?_; obtain ⟨r8, hr8, H⟩ := bindS H; refine c0 3 ent83 (g83 k  a1 r8 hr8) ?_; refine nt ?_; refine pk (L.nil ?_); refine cd H (fun hc H => ?_) (fun hc H => ?_)
  ·refine sr ?_; refine ag (L.nil ?_); cases H; exact WpC.ret rt
  ·refine WpC.skip (sr ?_); refine mv ?_; refine bi ?_; refine bi ?_; refine mv ?_; refine bi ?_; refine ag (L.nil ?_); cases H; exact WpC.ret rt
/-! ### S_l8Shown -/
def S_l8Shown.j21 (cl19 : Int → (List UInt8) → Int → T_Config → Option (T_Ticket × Int × Bool)) (k : Nat) (v250 : Int) (v251 : List UInt8) (v252 : Int) (v253 : T_Config) : Option (T_Ticket × Int × Bool) := cl19 v250 v251 (IntKind.i64.wrap (v252 + 1)) v253
def S_l8Shown.j22 (cl19 : Int → (List UInt8) → Int → T_Config → Option (T_Ticket × Int × Bool)) (k : Nat) (v258 : Int) (v259 : List UInt8) (v260 : Int) (v261 : Bool) (v262 : T_Config) (v263 v264 v265 v266 v267 v268 : Int) (v269 v270 : List Int) : Option (T_Ticket × Int × Bool) := cond v261 (some ((⟨v263, v264, v265, (⟨v266, v267, v268⟩ : T_Rest), v269, v270⟩ : T_Ticket), v260, true)) (S_l8Shown.j21 cl19 k v258 v259 v260 v262)
def S_l8Shown.l19 : Nat → Int → (List UInt8) → Int → T_Config → Option (T_Ticket × Int × Bool)
 | 0, _, _, _, _ => none
 | k19 + 1, v229, v230, v231, v232 => cond (decide (v231 < 3)) ((S_l6Has k19 v232.Links (⟨v231, v229⟩ : T_Pair)).bind fun r255 => cond (!r255) (S_l8Shown.j21 (S_l8Shown.l19 k19) k19 v229 v230 v231 v232) ((S_LinkKey k19 v231 v229).bind fun r256 => (S_ReadTicket k19 v230 r256).bind fun r257 => cond r257.2 (S_l8Shown.j22 (S_l8Shown.l19 k19) k19 v229 v230 v231 (r257.1.Service == (IntKind.i64.wrap (10 + v229))) v232 r257.1.Client r257.1.Service r257.1.Key r257.1.Rest.Servers r257.1.Rest.Ops r257.1.Rest.End r257.1.Path r257.1.Via) (S_l8Shown.j22 (S_l8Shown.l19 k19) k19 v229 v230 v231 false v232 r257.1.Client r257.1.Service r257.1.Key r257.1.Rest.Servers r257.1.Rest.Ops r257.1.Rest.End r257.1.Path r257.1.Via))) (some ((⟨0, 0, 0, (⟨0, 0, 0⟩ : T_Rest), [], []⟩ : T_Ticket), (-1), false))
def S_l8Shown.j2 (k : Nat) (v15 : Int) (v16 : List UInt8) (v17 : Bool) (v18 : T_Config) (v19 v20 v21 v22 v23 v24 : Int) (v25 v26 : List Int) : Option (T_Ticket × Int × Bool) := cond v17 (some ((⟨v19, v20, v21, (⟨v22, v23, v24⟩ : T_Rest), v25, v26⟩ : T_Ticket), (-1), true)) (S_l8Shown.l19 k v15 v16 0 v18)
def S_l8Shown (k : Nat) (a0 : T_Config) (a1 : Int) (a2 : List UInt8) : Option (T_Ticket × Int × Bool) := (S_CentreKey k a1).bind fun r1 => (S_ReadTicket k a2 r1).bind fun r2 => cond r2.2 (S_l8Shown.j2 k a1 a2 (r2.1.Service == (IntKind.i64.wrap (10 + a1))) a0 r2.1.Client r2.1.Service r2.1.Key r2.1.Rest.Servers r2.1.Rest.Ops r2.1.Rest.End r2.1.Path r2.1.Via) (S_l8Shown.j2 k a1 a2 false a0 r2.1.Client r2.1.Service r2.1.Key r2.1.Rest.Servers r2.1.Rest.Ops r2.1.Rest.End r2.1.Path r2.1.Via)
theorem ent143 : MG.Enters Tryz.prog 143 := ⟨Tryz.f143, func143, rfl, by decide⟩
theorem g143 (k : Nat) (g0 g1 g2 g3 : Bool) (a0 : T_Config) (a1 : Int) (a2 : List UInt8) (r : T_Ticket × Int × Bool) (H : S_l8Shown k a0 a1 a2 = some r) : Gives Tryz.prog 143 [V.agg (bT_Config g0 g1 g2 g3 a0), V.one (cI a1), V.one (cS a2)] [] [V.agg [cI r.1.Client, cI r.1.Service, cI r.1.Key, cI r.1.Rest.Servers, cI r.1.Rest.Ops, cI r.1.Rest.End, Cell.ow 1 (List.map eI r.1.Path), Cell.ow 1 (List.map eI r.1.Via)], V.one (cI r.2.1), V.one (cL r.2.2)] [] := by
 refine Gives.intro func143 rfl rfl rfl rfl ?_; refine fx fun w0 T S0 ob oh hm => ?_
 have hF := fxe w0 T S0 60 ob oh
 unfold S_l8Shown at H; obtain ⟨K, hK⟩ := leK k; refine sr ?_; refine bo 7 ?_; refine alc 8 info76 ?_; refine ag ?_; refine ag (L.nil ?_); refine sr ?_; refine mv ?_; refine mv ?_; obtain ⟨r1, hr1, H⟩ := bindS H; refine c0 9 ent32 (g32 k  a1 r1 hr1) ?_; obtain ⟨r2, hr2, H⟩ := bindS H; refine c0 10 ent34 (g34 k  a2 r1 r2 hr2) ?_; refine mv ?_; refine ex ?_; refine ex ?_; refine alc 19 info76 ?_; refine sp shape76 ?_; refine ag (L.nil ?_); refine WpC.seq ?_; refine WpC.join (fun σ => ∃ (kj2 : Nat) (v15 : Int) (v16 : List UInt8) (v17 : Bool) (v18 : T_Config) (v19 v20 v21 v22 v23 v24 : Int) (v25 v26 : List Int), kj2 ≤ K ∧ S_l8Shown.j2 kj2 v15 v16 v17 v18 v19 v20 v21 v22 v23 v24 v25 v26 = some r ∧ σ = mkSt [(1, oI v15), (2, oS v16), (3, oP 0 0), (6, oP 1 0), (9, oP 2 0), (28, oL v17)] [(3, ⟨1, List.map eI v25⟩), (4, ⟨1, List.map eI v26⟩)] [(0, (bT_Config g0 g1 g2 g3 v18)), (1, zc1), (2, [cI v19, cI v20, cI v21, cI v22, cI v23, cI v24, Cell.own 3, Cell.own 4])] 5) ?_ ?_
 ·rintro _ ⟨kj2, v15, v16, v17, v18, v19, v20, v21, v22, v23, v24, v25, v26, hkj2, H, rfl⟩
  unfold S_l8Shown.j2 at H; refine cd H (fun hc H => ?_) (fun hc H => ?_)
  ·refine sr ?_; refine lp shape76 ?_; refine sp shape76 ?_; refine ag ?_; refine ag (L.nil ?_); cases H; exact WpC.ret rt
  ·refine WpC.skip (WpC.seq (sr ?_)); refine ag (L.nil ?_); refine WpC.block ?_; refine WpC.loopL (P := Tryz.prog) (fun n σ => ∃ (v229 : Int) (v230 : List UInt8) (v231 : Int) (v232 : T_Config), n ≤ K ∧ S_l8Shown.l19 n v229 v230 v231 v232 = some r ∧ σ = mkSt [(1, oI v229), (2, oS v230), (3, oP 0 0), (6, oP 1 0), (11, oI v231)] [] [(0, (bT_Config g0 g1 g2 g3 v232)), (1, zc1)] 2) kj2 ⟨_, ⟨v15, v16, 0, v18, by omega, H, rfl⟩, lm [(0, 0), (1, 1)] hm⟩ ?_; clear H
   rintro k19 _ ⟨v229, v230, v231, v232, hk19, H, rfl⟩
   cases k19 with
   | zero => cases H
   | succ k19 =>
    rw [S_l8Shown.l19] at H
    refine WpC.seq (sr ?_); refine mv ?_; refine bi (L.nil ?_); refine cd H (fun hc H => ?_) (fun hc H => ?_)
    ·refine WpC.skip ?_; refine WpC.join (fun σ => ∃ (kj21 : Nat) (v250 : Int) (v251 : List UInt8) (v252 : Int) (v253 : T_Config), kj21 ≤ K ∧ S_l8Shown.j21 (S_l8Shown.l19 k19) kj21 v250 v251 v252 v253 = some r ∧ σ = mkSt [(1, oI v250), (2, oS v251), (3, oP 0 0), (6, oP 1 0), (11, oI v252)] [] [(0, (bT_Config g0 g1 g2 g3 v253)), (1, zc1)] 2) ?_ ?_
     ·rintro _ ⟨kj21, v250, v251, v252, v253, hkj21, H, rfl⟩
      unfold S_l8Shown.j21 at H; refine WpC.regionL ?_; refine mv ?_; refine bi ?_; refine ag (L.nil ?_); exact ⟨k19, _, by omega, ⟨v250, v251, (IntKind.i64.wrap (v252 + 1)), v253, by omega, H, rfl⟩, lm [(0, 0), (1, 1)] hm⟩
     ·refine WpC.block (WpC.seq (sr ?_)); refine fa underlying44 info42 ?_; refine lp shape42 ?_; refine mv ?_; refine mv ?_; refine bf built147 ?_; obtain ⟨r255, hr255, H⟩ := bindS H; refine c0 2 ent168 (g168 k19 g2 v232.Links (⟨v231, v229⟩ : T_Pair) r255 hr255) ?_; refine nt (L.nil ?_); refine cd H (fun hc H => ?_) (fun hc H => ?_)
      ·refine WpC.exit ?_; exact ⟨_, ⟨k19, v229, v230, v231, v232, by omega, H, rfl⟩, lm [(0, 0), (1, 1)] hm⟩
      ·refine WpC.skip (sr ?_); refine mv ?_; refine mv ?_; refine mv ?_; obtain ⟨r256, hr256, H⟩ := bindS H; refine c0 3 ent33 (g33 k19  v231 v229 r256 hr256) ?_; obtain ⟨r257, hr257, H⟩ := bindS H; refine c0 4 ent34 (g34 k19  v230 r256 r257 hr257) ?_; refine mv ?_; refine ex ?_; refine ex ?_; refine alc 13 info76 ?_; refine sp shape76 ?_; refine ag (L.nil ?_); refine WpC.join (fun σ => ∃ (kj22 : Nat) (v258 : Int) (v259 : List UInt8) (v260 : Int) (v261 : Bool) (v262 : T_Config) (v263 v264 v265 v266 v267 v268 : Int) (v269 v270 : List Int), kj22 ≤ K ∧ S_l8Shown.j22 (S_l8Shown.l19 k19) kj22 v258 v259 v260 v261 v262 v263 v264 v265 v266 v267 v268 v269 v270 = some r ∧ σ = mkSt [(1, oI v258), (2, oS v259), (3, oP 0 0), (6, oP 1 0), (11, oI v260), (12, oP 2 0), (56, oL v261)] [(3, ⟨1, List.map eI v269⟩), (4, ⟨1, List.map eI v270⟩)] [(0, (bT_Config g0 g1 g2 g3 v262)), (1, zc1), (2, [cI v263, cI v264, cI v265, cI v266, cI v267, cI v268, Cell.own 3, Cell.own 4])] 5) ?_ ?_
       ·rintro _ ⟨kj22, v258, v259, v260, v261, v262, v263, v264, v265, v266, v267, v268, v269, v270, hkj22, H, rfl⟩
        unfold S_l8Shown.j22 at H; refine cd H (fun hc H => ?_) (fun hc H => ?_)
        ·refine sr ?_; refine lp shape76 ?_; refine mv ?_; refine sp shape76 ?_; refine ag ?_; refine ag (L.nil ?_); cases H; exact WpC.ret rt
        ·refine WpC.skip ?_; exact ⟨_, ⟨kj22, v258, v259, v260, v262, by omega, H, rfl⟩, lm [(0, 0), (1, 1)] hm⟩
       ·refine WpC.regionL ?_; refine mv ?_; refine mv ?_; refine sH H (fun hc H => ?_) (fun hc H => ?_)
        ·refine fa underlying76 info3 ?_; refine lp shape3 ?_; refine mv ?_; refine bi ?_; refine bi ?_; refine pk (L.nil ?_); exact ⟨_, ⟨k19, v229, v230, v231, (r257.1.Service == (IntKind.i64.wrap (10 + v229))), v232, r257.1.Client, r257.1.Service, r257.1.Key, r257.1.Rest.Servers, r257.1.Rest.Ops, r257.1.Rest.End, r257.1.Path, r257.1.Via, by omega, H, rfl⟩, lm [(0, 0), (1, 1), (2, 13), (3, 10), (4, 11)] hm⟩
        ·(repeat refine of ?_); refine pk (L.nil ?_); exact ⟨_, ⟨k19, v229, v230, v231, false, v232, r257.1.Client, r257.1.Service, r257.1.Key, r257.1.Rest.Servers, r257.1.Rest.Ops, r257.1.Rest.End, r257.1.Path, r257.1.Via, by omega, H, rfl⟩, lm [(0, 0), (1, 1), (2, 13), (3, 10), (4, 11)] hm⟩
    ·refine WpC.exit (sr ?_); refine bf built76 ?_; refine sp shape76 ?_; refine ag ?_; refine ag (L.nil ?_); refine WpC.le (Le.ownB 1 6 2 1 rfl rfl rfl) ?_; refine WpC.le (Le.ownB 1 7 3 1 rfl rfl rfl) ?_; cases H; exact WpC.ret rt
 ·refine WpC.regionL ?_; refine mv ?_; refine mv ?_; refine sH H (fun hc H => ?_) (fun hc H => ?_)
  ·refine fa underlying76 info3 ?_; refine lp shape3 ?_; refine mv ?_; refine bi ?_; refine bi ?_; refine pk (L.nil ?_); exact ⟨_, ⟨k, a1, a2, (r2.1.Service == (IntKind.i64.wrap (10 + a1))), a0, r2.1.Client, r2.1.Service, r2.1.Key, r2.1.Rest.Servers, r2.1.Rest.Ops, r2.1.Rest.End, r2.1.Path, r2.1.Via, by omega, H, rfl⟩, lm [(0, 7), (1, 8), (2, 19), (3, 16), (4, 17)] hm⟩
  ·(repeat refine of ?_); refine pk (L.nil ?_); exact ⟨_, ⟨k, a1, a2, false, a0, r2.1.Client, r2.1.Service, r2.1.Key, r2.1.Rest.Servers, r2.1.Rest.Ops, r2.1.Rest.End, r2.1.Path, r2.1.Via, by omega, H, rfl⟩, lm [(0, 7), (1, 8), (2, 19), (3, 16), (4, 17)] hm⟩
/-! ### S_l5AuthOk -/
def S_l5AuthOk (k : Nat) (a0 : T_Auth) : Option Bool := (S_l5Principal k a0.Client).bind fun r4 => cond r4 ((S_l1In k a0.Time 0 100000).bind fun r5 => cond r5 ((S_l1In k a0.Seq 0 1000000).bind fun r6 => some r6) (some false)) (some false)
theorem ent79 : MG.Enters Tryz.prog 79 := ⟨Tryz.f79, func79, rfl, by decide⟩
theorem g79 (k : Nat) (a0 : T_Auth) (r : Bool) (H : S_l5AuthOk k a0 = some r) : Gives Tryz.prog 79 [V.agg (bT_Auth a0)] [] [V.one (cL r)] [] := by
 refine Gives.intro func79 rfl rfl rfl rfl ?_; refine fx fun w0 T S0 ob oh hm => ?_
 have hF := fxe w0 T S0 16 ob oh
 unfold S_l5AuthOk at H; obtain ⟨K, hK⟩ := leK k; refine sr ?_; refine bo 3 ?_; refine ag (L.nil ?_); refine sr ?_; refine fa underlying35 info3 ?_; refine lp shape3 ?_; obtain ⟨r4, hr4, H⟩ := bindS H; refine c0 4 ent101 (g101 k  a0.Client r4 hr4) ?_; refine mv ?_; refine sH H (fun hc H => ?_) (fun hc H => ?_)
 ·refine fa underlying35 info3 ?_; refine lp shape3 ?_; obtain ⟨r5, hr5, H⟩ := bindS H; refine c0 5 ent43 (g43 k  a0.Time 0 100000 r5 hr5) ?_; refine pk ?_; refine mv ?_; refine sH H (fun hc H => ?_) (fun hc H => ?_)
  ·refine fa underlying35 info3 ?_; refine lp shape3 ?_; obtain ⟨r6, hr6, H⟩ := bindS H; refine c0 6 ent43 (g43 k  a0.Seq 0 1000000 r6 hr6) ?_; refine pk ?_; refine ag (L.nil ?_); cases H; exact WpC.ret rt
  ·(repeat refine of ?_); refine pk ?_; refine ag (L.nil ?_); cases H; exact WpC.ret rt
 ·(repeat refine of ?_); refine pk ?_; refine mv ?_; (repeat refine of ?_); refine pk ?_; refine ag (L.nil ?_); cases H; exact WpC.ret rt
/-! ### S_ReadAuth -/
def S_ReadAuth.j2 (k : Nat) (v8 : List Int) (v9 : Bool) : Option (T_Auth × Bool) := cond v9 (some ((⟨0, 0, 0⟩ : T_Auth), false)) ((at? v8 1).bind fun b10 => (at? v8 2).bind fun b11 => (at? v8 3).bind fun b12 => (S_l5AuthOk k (⟨b10, b11, b12⟩ : T_Auth)).bind fun r14 => cond (!r14) (some ((⟨0, 0, 0⟩ : T_Auth), false)) (some ((⟨b10, b11, b12⟩ : T_Auth), true)))
def S_ReadAuth (k : Nat) (a0 : List UInt8) (a1 : Int) : Option (T_Auth × Bool) := (S_Open k a0 a1).bind fun r1 => (S_ReadNums k r1.1).bind fun r2 => cond (!r2.2) (S_ReadAuth.j2 k r2.1 true) (cond ((r2.1.length : Int) != 4) (S_ReadAuth.j2 k r2.1 true) ((at? r2.1 0).bind fun b15 => S_ReadAuth.j2 k r2.1 (b15 != 7)))
theorem ent45 : MG.Enters Tryz.prog 45 := ⟨Tryz.f45, func45, rfl, by decide⟩
theorem g45 (k : Nat) (a0 : List UInt8) (a1 : Int) (r : T_Auth × Bool) (H : S_ReadAuth k a0 a1 = some r) : Gives Tryz.prog 45 [V.one (cS a0), V.one (cI a1)] [] [V.agg (bT_Auth r.1), V.one (cL r.2)] [] := by
 refine Gives.intro func45 rfl rfl rfl rfl ?_; refine fx fun w0 T S0 ob oh hm => ?_
 have hF := fxe w0 T S0 51 ob oh
 unfold S_ReadAuth at H; obtain ⟨K, hK⟩ := leK k; refine sr ?_; refine alc 2 info35 ?_; refine ag (L.nil ?_); refine sr ?_; refine mv ?_; refine mv ?_; obtain ⟨r1, hr1, H⟩ := bindS H; refine c0 3 ent102 (g102 k  a0 a1 r1 hr1) ?_; refine mv ?_; refine ex ?_; refine ex ?_; refine ag ?_; refine ag (L.nil ?_); refine sr ?_; refine mv ?_; obtain ⟨r2, hr2, H⟩ := bindS H; refine c0 5 ent44 (g44 k  r1.1 r2 hr2) ?_; refine mv ?_; refine ex ?_; refine ex ?_; refine ag ?_; refine ag (L.nil ?_); refine WpC.seq ?_; refine WpC.join (fun σ => ∃ (kj2 : Nat) (v8 : List Int) (v9 : Bool), kj2 ≤ K ∧ S_ReadAuth.j2 kj2 v8 v9 = some r ∧ σ = mkSt [(4, oP 0 0), (8, one (Cell.own 1)), (34, oL v9)] [(1, ⟨1, List.map eI v8⟩)] [(0, [cI 0, cI 0, cI 0])] 2) ?_ ?_
 ·rintro _ ⟨kj2, v8, v9, hkj2, H, rfl⟩
  unfold S_ReadAuth.j2 at H; refine cd H (fun hc H => ?_) (fun hc H => ?_)
  ·refine sr ?_; refine bf built35 ?_; refine sp shape35 ?_; refine ag (L.nil ?_); cases H; exact WpC.ret rt
  ·refine WpC.skip (WpC.seq ?_); obtain ⟨b10, hb10, H⟩ := bindS H; obtain ⟨b11, hb11, H⟩ := bindS H; obtain ⟨b12, hb12, H⟩ := bindS H; refine A.lin (fun β => mkStL [(4, iP 0 0), (8, ai (one (Cell.own 1))), (10, lP (β 10) 2 0), (36, al (β 0) (one (Cell.own 1))), (37, al (β 1) (one (Cell.ep 1 ((1 : Int).toNat) 0))), (38, lI (β 2) b10), (39, al (β 3) (one (Cell.own 1))), (40, al (β 4) (one (Cell.ep 1 ((2 : Int).toNat) 0))), (41, lI (β 5) b11), (42, al (β 6) (one (Cell.own 1))), (43, al (β 7) (one (Cell.ep 1 ((3 : Int).toNat) 0))), (44, lI (β 8) b12), (45, al (β 9) (agg [cI b10, cI b11, cI b12]))] [(1, ai (⟨1, List.map eI v8⟩))] [(0, ai ([cI 0, cI 0, cI 0])), (2, [(β 11, some ([cI b10, cI b11, cI b12])), (β 10, some ([cI 0, cI 0, cI 0]))])] 3) [([], [1, 2, 9, 11]), ([0], [2, 9, 11]), ([0, 1], [9, 11]), ([], [4, 5, 9, 11]), ([3], [5, 9, 11]), ([3, 4], [9, 11]), ([], [7, 8, 9, 11]), ([6], [8, 9, 11]), ([6, 7], [9, 11]), ([0, 1, 2, 3, 4, 5, 6, 7, 8], [11]), ([], [11]), ([0, 1, 2, 3, 4, 5, 6, 7, 8, 9, 10], [])] 12 mixed rfl (by kernel_rfl) ?_ ?_ ?_
   ·exact Le.lin [] hm rfl (sa2 (kn (kn2 (kn8 kz)))) (ra kz) (ba (kn kz))
   ·repeat' (first | exact trivial | refine ⟨⟨_, rfl, fun β => ?_⟩, ?_⟩ | fail)
    ·refine mv ?_; exact lx [] hm
    ·refine ix underlying22 info3 hb10 ?_; exact lx [] hm
    ·refine L.loadEp (xs := v8) (e := eI) shape3 hF rfl rfl rfl rfl (at?_get hb10).2 rfl rfl ?_; exact lx [] hm
    ·refine mv ?_; exact lx [] hm
    ·refine ix underlying22 info3 hb11 ?_; exact lx [] hm
    ·refine L.loadEp (xs := v8) (e := eI) shape3 hF rfl rfl rfl rfl (at?_get hb11).2 rfl rfl ?_; exact lx [] hm
    ·refine mv ?_; exact lx [] hm
    ·refine ix underlying22 info3 hb12 ?_; exact lx [] hm
    ·refine L.loadEp (xs := v8) (e := eI) shape3 hF rfl rfl rfl rfl (at?_get hb12).2 rfl rfl ?_; exact lx [] hm
    ·refine bf built35 ?_; exact lx [] hm
    ·refine alc 3 info35 ?_; exact lx [(2, 3)] hm
    ·refine sp shape35 ?_; exact lx [] hm
   refine ⟨_, (lm [(0, 0), (1, 2)] hm : Le _ _ (mkSt [(4, oP 0 0), (10, oP 1 0)] [] [(0, [cI 0, cI 0, cI 0]), (1, [cI b10, cI b11, cI b12])] 2)), ?_⟩; refine WpC.seq (sr ?_); refine lp shape35 ?_; obtain ⟨r14, hr14, H⟩ := bindS H; refine c0 2 ent79 (g79 kj2  (⟨b10, b11, b12⟩ : T_Auth) r14 hr14) ?_; refine nt (L.nil ?_); refine cd H (fun hc H => ?_) (fun hc H => ?_)
   ·refine sr ?_; refine bf built35 ?_; refine sp shape35 ?_; refine ag (L.nil ?_); cases H; exact WpC.ret rt
   ·refine WpC.skip (sr ?_); refine lp shape35 ?_; refine sp shape35 ?_; refine ag (L.nil ?_); cases H; exact WpC.ret rt
 ·refine WpC.regionL ?_; refine mv ?_; refine nt ?_; refine mv ?_; refine sH H (fun hc H => ?_) (fun hc H => ?_)
  ·(repeat refine of ?_); refine pk ?_; refine mv ?_; (repeat refine of ?_); refine pk (L.nil ?_); exact ⟨_, ⟨k, r2.1, true, by omega, H, rfl⟩, lm [(0, 2), (1, 5)] hm⟩
  ·refine mv ?_; refine L.lenR (xs := r2.1) (e := eI) underlying22 hF rfl rfl rfl rfl ?_; refine bi ?_; refine pk ?_; refine mv ?_; refine sH H (fun hc H => ?_) (fun hc H => ?_)
   ·(repeat refine of ?_); refine pk (L.nil ?_); exact ⟨_, ⟨k, r2.1, true, by omega, H, rfl⟩, lm [(0, 2), (1, 5)] hm⟩
   ·refine mv ?_; obtain ⟨b15, hb15, H⟩ := bindS H; refine ix underlying22 info3 hb15 ?_; refine L.loadEp (xs := r2.1) (e := eI) shape3 hF rfl rfl rfl rfl (at?_get hb15).2 rfl rfl ?_; refine bi ?_; refine pk (L.nil ?_); exact ⟨_, ⟨k, r2.1, (b15 != 7), by omega, H, rfl⟩, lm [(0, 2), (1, 5)] hm⟩
/-! ### S_Meet -/
def S_Meet (k : Nat) (a0 a1 : T_Rest) : Option T_Rest := (S_RestOk k a0).bind fun r7 => cond (!r7) (some (⟨0, 0, 0⟩ : T_Rest)) ((S_RestOk k a1).bind fun r8 => cond (!r8) (some (⟨0, 0, 0⟩ : T_Rest)) (cond (decide (a1.End < a0.End)) (some (⟨(Go.bits .and .i64 a0.Servers a1.Servers), (Go.bits .and .i64 a0.Ops a1.Ops), a1.End⟩ : T_Rest)) (some (⟨(Go.bits .and .i64 a0.Servers a1.Servers), (Go.bits .and .i64 a0.Ops a1.Ops), a0.End⟩ : T_Rest))))
theorem ent144 : MG.Enters Tryz.prog 144 := ⟨Tryz.f144, func144, rfl, by decide⟩
theorem g144 (k : Nat) (a0 a1 r : T_Rest) (H : S_Meet k a0 a1 = some r) : Gives Tryz.prog 144 [V.agg (bT_Rest a0), V.agg (bT_Rest a1)] [] [V.agg (bT_Rest r)] [] := by
 refine Gives.intro func144 rfl rfl rfl rfl ?_; refine fx fun w0 T S0 ob oh hm => ?_
 have hF := fxe w0 T S0 37 ob oh
 unfold S_Meet at H; obtain ⟨K, hK⟩ := leK k; refine sr ?_; refine bo 6 ?_; refine bo 7 ?_; refine alc 8 info37 (L.nil ?_); refine WpC.seq (sr ?_); refine lp shape37 ?_; obtain ⟨r7, hr7, H⟩ := bindS H; refine c0 9 ent81 (g81 k  a0 r7 hr7) ?_; refine nt ?_; refine mv ?_; refine sH H (fun hc H => ?_) (fun hc H => ?_)
 ·(repeat refine of ?_); refine pk (L.nil ?_); refine cT ?_; refine sr ?_; refine bf built37 ?_; refine sp shape37 (L.nil ?_); cases H; exact WpC.ret rt
 ·refine lp shape37 ?_; obtain ⟨r8, hr8, H⟩ := bindS H; refine c0 10 ent81 (g81 k  a1 r8 hr8) ?_; refine nt ?_; refine pk (L.nil ?_); refine cd H (fun hc H => ?_) (fun hc H => ?_)
  ·refine sr ?_; refine bf built37 ?_; refine sp shape37 (L.nil ?_); cases H; exact WpC.ret rt
  ·refine WpC.skip (sr ?_); refine fa underlying37 info3 ?_; refine lp shape3 ?_; refine fa underlying37 info3 ?_; refine lp shape3 ?_; refine bi ?_; refine fa underlying37 info3 ?_; refine lp shape3 ?_; refine fa underlying37 info3 ?_; refine lp shape3 ?_; refine bi ?_; refine fa underlying37 info3 ?_; refine lp shape3 ?_; refine bf built37 ?_; refine alc 11 info37 ?_; refine sp shape37 (L.nil ?_); refine WpC.seq (sr ?_); refine fa underlying37 info3 ?_; refine lp shape3 ?_; refine fa underlying37 info3 ?_; refine lp shape3 ?_; refine bi (L.nil ?_); refine cd H (fun hc H => ?_) (fun hc H => ?_)
   ·refine WpC.regionL ?_; refine fa underlying37 info3 ?_; refine lp shape3 ?_; refine fa underlying37 info3 ?_; refine sp shape3 (L.nil ?_); refine sr ?_; refine lp shape37 ?_; refine sp shape37 (L.nil ?_); cases H; exact WpC.ret rt
   ·refine WpC.skip (sr ?_); refine lp shape37 ?_; refine sp shape37 (L.nil ?_); cases H; exact WpC.ret rt
/-! ### S_l8Evid -/
def S_l8Evid.j6 (k : Nat) (v72 : Int) (v73 : Bool) (v74 : T_Rest) (v75 : T_Ticket) (v76 v77 v78 v79 v80 v81 : Int) (v82 v83 : List Int) : Option (T_Ticket × Int) := cond v73 (some (v75, 6)) ((S_Meet k (⟨v79, v80, v81⟩ : T_Rest) v74).bind fun r84 => cond (decide ((2 * (([] : List Int).length + v83.length) + 192) * 8 ≤ 281474976710656)) (cond (decide ((2 * ((([] : List Int) ++ v83).length + ([v72] : List Int).length) + 192) * 8 ≤ 281474976710656)) (some ((⟨v76, v75.Service, v75.Key, r84, v82, ((([] : List Int) ++ v83) ++ ([v72] : List Int))⟩ : T_Ticket), 0)) none) none)
def S_l8Evid.j4 (k : Nat) (v42 v43 v44 : Int) (v45 : Bool) (v46 : T_Config) (v47 : T_Rest) (v48 : T_Ticket) (v49 v50 v51 v52 v53 v54 : Int) (v55 v56 : List Int) : Option (T_Ticket × Int) := cond v45 (some (v48, 1)) (cond (decide (v42 > v54)) (some (v48, 4)) ((S_l6Has k v46.Proxy (⟨v44, v43⟩ : T_Pair)).bind fun r87 => cond (!r87) (S_l8Evid.j6 k v44 true v47 v48 v49 v50 v51 v52 v53 v54 v55 v56) (S_l8Evid.j6 k v44 (decide ((v56.length : Int) ≥ 4)) v47 v48 v49 v50 v51 v52 v53 v54 v55 v56)))
def S_l8Evid.j2 (k : Nat) (v16 v17 : Int) (v18 : List UInt8) (v19 : Int) (v20 : Bool) (v21 : T_Config) (v22 : T_Ticket) (v23 : T_Rest) (v24 : T_Ticket) : Option (T_Ticket × Int) := cond v20 (some (v24, 6)) ((S_PrincipalKey k v22.Client).bind fun r25 => (S_ReadTicket k v18 r25).bind fun r26 => cond (!r26.2) (S_l8Evid.j4 k v16 v17 v19 true v21 v23 v24 r26.1.Client r26.1.Service r26.1.Key r26.1.Rest.Servers r26.1.Rest.Ops r26.1.Rest.End r26.1.Path r26.1.Via) (S_l8Evid.j4 k v16 v17 v19 (r26.1.Service != v19) v21 v23 v24 r26.1.Client r26.1.Service r26.1.Key r26.1.Rest.Servers r26.1.Rest.Ops r26.1.Rest.End r26.1.Path r26.1.Via))
def S_l8Evid (k : Nat) (a0 : T_Config) (a1 a2 : Int) (a3 : T_Ticket) (a4 : Int) (a5 : T_Rest) (a6 : List UInt8) (a7 : T_Ticket) : Option (T_Ticket × Int) := cond (decide ((IntKind.i64.wrap (a3.Client - 3)) < 0)) (S_l8Evid.j2 k a2 a4 a6 (IntKind.i64.wrap (a3.Client - 3)) true a0 a3 a5 a7) ((at? a0.ServiceRealm (IntKind.i64.wrap (a3.Client - 3))).bind fun b88 => cond (b88 != a1) (S_l8Evid.j2 k a2 a4 a6 (IntKind.i64.wrap (a3.Client - 3)) true a0 a3 a5 a7) ((at? a0.ServiceRealm a4).bind fun b89 => S_l8Evid.j2 k a2 a4 a6 (IntKind.i64.wrap (a3.Client - 3)) (b89 != a1) a0 a3 a5 a7))
theorem ent146 : MG.Enters Tryz.prog 146 := ⟨Tryz.f146, func146, rfl, by decide⟩
theorem g146 (k : Nat) (g0 g1 g2 g3 g4 g5 : Bool) (a0 : T_Config) (a1 a2 : Int) (a3 : T_Ticket) (a4 : Int) (a5 : T_Rest) (a6 : List UInt8) (a7 : T_Ticket) (r : T_Ticket × Int) (H : S_l8Evid k a0 a1 a2 a3 a4 a5 a6 a7 = some r) : Gives Tryz.prog 146 [V.agg (bT_Config g0 g1 g2 g3 a0), V.one (cI a1), V.one (cI a2), V.agg (bT_Ticket g4 g5 a3), V.one (cI a4), V.agg (bT_Rest a5), V.one (cS a6), V.agg (bT_Ticket true true a7)] [] [V.agg (bT_Ticket true true r.1), V.one (cI r.2)] [] := by
 refine Gives.intro func146 rfl rfl rfl rfl ?_; refine fx fun w0 T S0 ob oh hm => ?_
 have hF := fxe w0 T S0 102 ob oh
 unfold S_l8Evid at H; obtain ⟨K, hK⟩ := leK k; refine sr ?_; refine bo 28 ?_; refine bo 29 ?_; refine bo 30 ?_; refine bo 31 ?_; refine alc 32 info76 ?_; refine ag (L.nil ?_); refine sr ?_; refine fa underlying76 info3 ?_; refine lp shape3 ?_; refine bi ?_; refine ag (L.nil ?_); refine WpC.seq ?_; refine WpC.join (fun σ => ∃ (kj2 : Nat) (v16 v17 : Int) (v18 : List UInt8) (v19 : Int) (v20 : Bool) (v21 : T_Config) (v22 : T_Ticket) (v23 : T_Rest) (v24 : T_Ticket), kj2 ≤ K ∧ S_l8Evid.j2 kj2 v16 v17 v18 v19 v20 v21 v22 v23 v24 = some r ∧ σ = mkSt [(2, oI v16), (4, oI v17), (6, oS v18), (8, oP 0 0), (11, oP 1 0), (13, oP 2 0), (15, oP 3 0), (16, oP 4 0), (18, oI v19), (43, oL v20)] [] [(0, (bT_Config g0 g1 g2 g3 v21)), (1, (bT_Ticket g4 g5 v22)), (2, (bT_Rest v23)), (3, (bT_Ticket true true v24)), (4, zc1)] 5) ?_ ?_
 ·rintro _ ⟨kj2, v16, v17, v18, v19, v20, v21, v22, v23, v24, hkj2, H, rfl⟩
  unfold S_l8Evid.j2 at H; refine cd H (fun hc H => ?_) (fun hc H => ?_)
  ·refine sr ?_; refine lp shape76 ?_; refine sp shape76 ?_; refine ag (L.nil ?_); cases H; exact WpC.ret rt
  ·refine WpC.skip (sr ?_); refine mv ?_; refine fa underlying76 info3 ?_; refine lp shape3 ?_; obtain ⟨r25, hr25, H⟩ := bindS H; refine c0 5 ent31 (g31 kj2  v22.Client r25 hr25) ?_; obtain ⟨r26, hr26, H⟩ := bindS H; refine c0 6 ent34 (g34 kj2  v18 r25 r26 hr26) ?_; refine mv ?_; refine ex ?_; refine ex ?_; refine alc 15 info76 ?_; refine sp shape76 ?_; refine ag (L.nil ?_); refine WpC.seq ?_; refine WpC.join (fun σ => ∃ (kj4 : Nat) (v42 v43 v44 : Int) (v45 : Bool) (v46 : T_Config) (v47 : T_Rest) (v48 : T_Ticket) (v49 v50 v51 v52 v53 v54 : Int) (v55 v56 : List Int), kj4 ≤ K ∧ S_l8Evid.j4 kj4 v42 v43 v44 v45 v46 v47 v48 v49 v50 v51 v52 v53 v54 v55 v56 = some r ∧ σ = mkSt [(2, oI v42), (4, oI v43), (8, oP 0 0), (13, oP 1 0), (15, oP 2 0), (16, oP 3 0), (18, oI v44), (19, oP 4 0), (60, oL v45)] [(5, ⟨1, List.map eI v55⟩), (6, ⟨1, List.map eI v56⟩)] [(0, (bT_Config g0 g1 g2 g3 v46)), (1, (bT_Rest v47)), (2, (bT_Ticket true true v48)), (3, zc1), (4, [cI v49, cI v50, cI v51, cI v52, cI v53, cI v54, Cell.own 5, Cell.own 6])] 7) ?_ ?_
   ·rintro _ ⟨kj4, v42, v43, v44, v45, v46, v47, v48, v49, v50, v51, v52, v53, v54, v55, v56, hkj4, H, rfl⟩
    unfold S_l8Evid.j4 at H; refine cd H (fun hc H => ?_) (fun hc H => ?_)
    ·refine sr ?_; refine lp shape76 ?_; refine sp shape76 ?_; refine ag (L.nil ?_); cases H; exact WpC.ret rt
    ·refine WpC.skip (WpC.seq (sr ?_)); refine mv ?_; refine fa underlying76 info37 ?_; refine fa underlying37 info3 ?_; refine lp shape3 ?_; refine bi (L.nil ?_); refine cd H (fun hc H => ?_) (fun hc H => ?_)
     ·refine sr ?_; refine lp shape76 ?_; refine sp shape76 ?_; refine ag (L.nil ?_); cases H; exact WpC.ret rt
     ·refine WpC.skip (WpC.seq ?_); refine WpC.join (fun σ => ∃ (kj6 : Nat) (v72 : Int) (v73 : Bool) (v74 : T_Rest) (v75 : T_Ticket) (v76 v77 v78 v79 v80 v81 : Int) (v82 v83 : List Int), kj6 ≤ K ∧ S_l8Evid.j6 kj6 v72 v73 v74 v75 v76 v77 v78 v79 v80 v81 v82 v83 = some r ∧ σ = mkSt [(13, oP 0 0), (15, oP 1 0), (16, oP 2 0), (18, oI v72), (19, oP 3 0), (80, oL v73)] [(4, ⟨1, List.map eI v82⟩), (5, ⟨1, List.map eI v83⟩)] [(0, (bT_Rest v74)), (1, (bT_Ticket true true v75)), (2, zc1), (3, [cI v76, cI v77, cI v78, cI v79, cI v80, cI v81, Cell.own 4, Cell.own 5])] 6) ?_ ?_
      ·rintro _ ⟨kj6, v72, v73, v74, v75, v76, v77, v78, v79, v80, v81, v82, v83, hkj6, H, rfl⟩
       unfold S_l8Evid.j6 at H; refine cd H (fun hc H => ?_) (fun hc H => ?_)
       ·refine sr ?_; refine lp shape76 ?_; refine sp shape76 ?_; refine ag (L.nil ?_); cases H; exact WpC.ret rt
       ·refine WpC.skip (sr ?_); refine fa underlying76 info3 ?_; refine lp shape3 ?_; refine fa underlying76 info3 ?_; refine sp shape3 (L.nil ?_); refine sr ?_; refine fa underlying76 info37 ?_; refine lp shape37 ?_; refine lp shape37 ?_; obtain ⟨r84, hr84, H⟩ := bindS H; refine c0 6 ent144 (g144 kj6  (⟨v79, v80, v81⟩ : T_Rest) v74 r84 hr84) ?_; refine fa underlying76 info37 ?_; refine sp shape37 (L.nil ?_); refine sr ?_; refine fa underlying76 info22 ?_; refine lp shape22 ?_; refine fa underlying76 info22 ?_; refine sp shape22 (L.nil ?_); refine sr ?_; refine L.buildSlice (e := eI) 9 ([] : List Int) underlying22 info3 rfl rfl rfl hF rfl rfl rfl rfl rfl rfl rfl rfl ?_; refine fa underlying76 info22 ?_; refine lp shape22 ?_; obtain ⟨h85, H⟩ := condG H; refine L.append (xs := ([] : List Int)) (ys := v83) (e := eI) 10 underlying22 info3 rfl rfl hF rfl rfl rfl rfl rfl rfl rfl rfl (fun _ => rfl) (fun _ _ h1 h2 => by cases h1; cases h2; rfl) ⟨_, underlying22⟩ (of_decide_eq_true h85) rfl rfl ?_; refine mv ?_; refine L.buildSlice (e := eI) 11 ([v72] : List Int) underlying22 info3 rfl rfl rfl hF rfl rfl rfl rfl rfl rfl rfl rfl ?_; obtain ⟨h86, H⟩ := condG H
        refine L.append (xs := (([] : List Int) ++ v83)) (ys := ([v72] : List Int)) (e := eI) 12 underlying22 info3 rfl rfl hF rfl rfl rfl rfl rfl rfl rfl rfl (fun _ => rfl) (fun _ _ h1 h2 => by cases h1; cases h2; rfl) ⟨_, underlying22⟩ (of_decide_eq_true h86) rfl rfl ?_; refine fa underlying76 info22 ?_; refine sp shape22 (L.nil ?_); refine sr ?_; refine lp shape76 ?_; refine sp shape76 ?_; refine ag (L.nil ?_); refine WpC.le (Le.shareAll 4 rfl) ?_; refine WpC.le (Le.shareAll 12 rfl) ?_; cases H; exact WpC.ret rt
      ·refine WpC.regionL ?_; refine fa underlying44 info42 ?_; refine lp shape42 ?_; refine mv ?_; refine mv ?_; refine bf built147 ?_; obtain ⟨r87, hr87, H⟩ := bindS H; refine c0 7 ent168 (g168 kj4 g3 v46.Proxy (⟨v44, v43⟩ : T_Pair) r87 hr87) ?_; refine nt ?_; refine mv ?_; refine sH H (fun hc H => ?_) (fun hc H => ?_)
       ·(repeat refine of ?_); refine pk (L.nil ?_); exact ⟨_, ⟨kj4, v44, true, v47, v48, v49, v50, v51, v52, v53, v54, v55, v56, by omega, H, rfl⟩, lm [(0, 1), (1, 2), (2, 3), (3, 4), (4, 5), (5, 6)] hm⟩
       ·refine fa underlying76 info22 ?_; refine lp shape22 ?_; refine L.lenR (xs := v56) (e := eI) underlying22 hF rfl rfl rfl rfl ?_; refine bi ?_; refine pk (L.nil ?_); exact ⟨_, ⟨kj4, v44, (decide ((v56.length : Int) ≥ 4)), v47, v48, v49, v50, v51, v52, v53, v54, v55, v56, by omega, H, rfl⟩, lm [(0, 1), (1, 2), (2, 3), (3, 4), (4, 5), (5, 6)] hm⟩
   ·refine WpC.regionL ?_; refine mv ?_; refine nt ?_; refine mv ?_; refine sH H (fun hc H => ?_) (fun hc H => ?_)
    ·(repeat refine of ?_); refine pk (L.nil ?_); exact ⟨_, ⟨kj2, v16, v17, v19, true, v21, v23, v24, r26.1.Client, r26.1.Service, r26.1.Key, r26.1.Rest.Servers, r26.1.Rest.Ops, r26.1.Rest.End, r26.1.Path, r26.1.Via, by omega, H, rfl⟩, lm [(0, 0), (1, 2), (2, 3), (3, 4), (4, 15), (5, 12), (6, 13)] hm⟩
    ·refine fa underlying76 info3 ?_; refine lp shape3 ?_; refine mv ?_; refine bi ?_; refine pk (L.nil ?_); exact ⟨_, ⟨kj2, v16, v17, v19, (r26.1.Service != v19), v21, v23, v24, r26.1.Client, r26.1.Service, r26.1.Key, r26.1.Rest.Servers, r26.1.Rest.Ops, r26.1.Rest.End, r26.1.Path, r26.1.Via, by omega, H, rfl⟩, lm [(0, 0), (1, 2), (2, 3), (3, 4), (4, 15), (5, 12), (6, 13)] hm⟩
 ·refine WpC.regionL ?_; refine mv ?_; refine bi ?_; refine mv ?_; refine sH H (fun hc H => ?_) (fun hc H => ?_)
  ·(repeat refine of ?_); refine pk ?_; refine mv ?_; (repeat refine of ?_); refine pk (L.nil ?_); exact ⟨_, ⟨k, a2, a4, a6, (IntKind.i64.wrap (a3.Client - 3)), true, a0, a3, a5, a7, by omega, H, rfl⟩, lm [(0, 28), (1, 29), (2, 30), (3, 31), (4, 32)] hm⟩
  ·refine fa underlying44 info22 ?_; refine lp shape22 ?_; refine mv ?_; obtain ⟨b88, hb88, H⟩ := bindS H; refine ix underlying22 info3 hb88 ?_; refine le shape3 ?_; refine mv ?_; refine bi ?_; refine pk ?_; refine mv ?_; refine sH H (fun hc H => ?_) (fun hc H => ?_)
   ·(repeat refine of ?_); refine pk (L.nil ?_); exact ⟨_, ⟨k, a2, a4, a6, (IntKind.i64.wrap (a3.Client - 3)), true, a0, a3, a5, a7, by omega, H, rfl⟩, lm [(0, 28), (1, 29), (2, 30), (3, 31), (4, 32)] hm⟩
   ·refine fa underlying44 info22 ?_; refine lp shape22 ?_; refine mv ?_; obtain ⟨b89, hb89, H⟩ := bindS H; refine ix underlying22 info3 hb89 ?_; refine le shape3 ?_; refine mv ?_; refine bi ?_; refine pk (L.nil ?_); exact ⟨_, ⟨k, a2, a4, a6, (IntKind.i64.wrap (a3.Client - 3)), (b89 != a1), a0, a3, a5, a7, by omega, H, rfl⟩, lm [(0, 28), (1, 29), (2, 30), (3, 31), (4, 32)] hm⟩
/-! ### S_l6Far -/
def S_l6Far.j52 (cl51 : (List Int) → Int → Int → T_Config → Option (List Int)) (k : Nat) (v854 : List Int) (v855 v856 : Int) (v857 : T_Config) : Option (List Int) := cl51 v854 v855 (IntKind.i64.wrap (v856 + 1)) v857
def S_l6Far.l51 (cl44 : (List Int) → Int → T_Config → Option (List Int)) : Nat → (List Int) → Int → Int → T_Config → Option (List Int)
 | 0, _, _, _, _ => none
 | k51 + 1, v842, v843, v844, v845 => cond (decide (v844 < (v845.Links.length : Int))) ((at? v845.Links v844).bind fun b858 => (at? v842 b858.B).bind fun b859 => (at? v845.Links v844).bind fun b860 => (at? v842 b860.A).bind fun b861 => cond (decide ((IntKind.i64.wrap (b859 + 1)) < b861)) ((at? v845.Links v844).bind fun b862 => (at? v845.Links v844).bind fun b863 => (at? v842 b863.B).bind fun b864 => (at? v842 b862.A).bind fun b865 => S_l6Far.j52 (S_l6Far.l51 cl44 k51) k51 (v842.set b862.A.toNat (IntKind.i64.wrap (b864 + 1))) v843 v844 v845) (S_l6Far.j52 (S_l6Far.l51 cl44 k51) k51 v842 v843 v844 v845)) (cl44 v842 (IntKind.i64.wrap (v843 + 1)) v845)
def S_l6Far.l44 : Nat → (List Int) → Int → T_Config → Option (List Int)
 | 0, _, _, _ => none
 | k44 + 1, v723, v724, v725 => cond (decide (v724 < 3)) (S_l6Far.l51 (S_l6Far.l44 k44) k44 v723 v724 0 v725) (some v723)
def S_l6Far.l2 : Nat → Int → (List Int) → Int → T_Config → Option (List Int)
 | 0, _, _, _, _ => none
 | k2 + 1, v27, v28, v29, v30 => cond (decide (v29 < 3)) (cond (decide ((2 * (v28.length + ([3] : List Int).length) + 192) * 8 ≤ 281474976710656)) ((S_l6Far.l2 k2) v27 (v28 ++ ([3] : List Int)) (IntKind.i64.wrap (v29 + 1)) v30) none) ((at? v28 v27).bind fun b33 => S_l6Far.l44 k2 (v28.set v27.toNat 0) 0 v30)
def S_l6Far (k : Nat) (a0 : T_Config) (a1 : Int) : Option (List Int) := S_l6Far.l2 k a1 ([] : List Int) 0 a0
theorem ent179 : MG.Enters Tryz.prog 179 := ⟨Tryz.f179, func179, rfl, by decide⟩
theorem g179 (k : Nat) (g0 g1 g2 g3 : Bool) (a0 : T_Config) (a1 : Int) (r : List Int) (H : S_l6Far k a0 a1 = some r) : Gives Tryz.prog 179 [V.agg (bT_Config g0 g1 g2 g3 a0), V.one (cI a1)] [] [V.one (Cell.ow 1 (List.map eI r))] [] := by
 refine Gives.intro func179 rfl rfl rfl rfl ?_; refine fx fun w0 T S0 ob oh hm => ?_
 have hF := fxe w0 T S0 70 ob oh
 unfold S_l6Far at H; obtain ⟨K, hK⟩ := leK k; refine sr ?_; refine bo 6 ?_; refine ag (L.nil ?_); refine sr ?_; refine L.buildSlice (e := eI) 7 ([] : List Int) underlying22 info3 rfl rfl rfl hF rfl rfl rfl rfl rfl rfl rfl rfl ?_; refine ag (L.nil ?_); refine WpC.seq (sr ?_); refine ag (L.nil ?_); refine WpC.block ?_; refine WpC.loopL (P := Tryz.prog) (fun n σ => ∃ (v27 : Int) (v28 : List Int) (v29 : Int) (v30 : T_Config), n ≤ K ∧ S_l6Far.l2 n v27 v28 v29 v30 = some r ∧ σ = mkSt [(1, oI v27), (2, oP 0 0), (5, one (Cell.own 1)), (6, oI v29)] [(1, ⟨1, List.map eI v28⟩)] [(0, (bT_Config g0 g1 g2 g3 v30))] 2) k ⟨_, ⟨a1, ([] : List Int), 0, a0, by omega, H, rfl⟩, lm [(0, 6), (1, 7)] hm⟩ ?_; clear H
 rintro k2 _ ⟨v27, v28, v29, v30, hk2, H, rfl⟩
 cases k2 with
 | zero => cases H
 | succ k2 =>
  rw [S_l6Far.l2] at H
  refine WpC.seq (sr ?_); refine mv ?_; refine bi (L.nil ?_); refine cd H (fun hc H => ?_) (fun hc H => ?_)
  ·refine WpC.skip (WpC.seq (WpC.block (WpC.regionL ?_))); refine mv ?_; refine L.buildSlice (e := eI) 2 ([3] : List Int) underlying22 info3 rfl rfl rfl hF rfl rfl rfl rfl rfl rfl rfl rfl ?_; obtain ⟨h32, H⟩ := condG H; refine L.append (xs := v28) (ys := ([3] : List Int)) (e := eI) 3 underlying22 info3 rfl rfl hF rfl rfl rfl rfl rfl rfl rfl rfl (fun _ => rfl) (fun _ _ h1 h2 => by cases h1; cases h2; rfl) ⟨_, underlying22⟩ (of_decide_eq_true h32) rfl rfl ?_; refine ag (L.nil ?_); refine WpC.regionL ?_; refine mv ?_; refine bi ?_; refine ag (L.nil ?_); exact ⟨k2, _, by omega, ⟨v27, (v28 ++ ([3] : List Int)), (IntKind.i64.wrap (v29 + 1)), v30, by omega, H, rfl⟩, lm [(0, 0), (1, 3)] hm⟩
  ·refine WpC.exit (sr ?_); refine mv ?_; refine mv ?_; obtain ⟨b33, hb33, H⟩ := bindS H; refine ix underlying22 info3 hb33 ?_; refine L.storeEp (xs := v28) (e := eI) (a' := 0) shape3 hF rfl rfl rfl rfl rfl rfl rfl (at?_get hb33).2 rfl rfl ?_; refine L.nil ?_; refine WpC.seq (sr ?_); refine ag (L.nil ?_); refine WpC.block ?_; refine WpC.loopL (P := Tryz.prog) (fun n σ => ∃ (v723 : List Int) (v724 : Int) (v725 : T_Config), n ≤ K ∧ S_l6Far.l44 n v723 v724 v725 = some r ∧ σ = mkSt [(2, oP 0 0), (5, one (Cell.own 1)), (7, oI v724)] [(1, ⟨1, List.map eI v723⟩)] [(0, (bT_Config g0 g1 g2 g3 v725))] 2) k2 ⟨_, ⟨(v28.set v27.toNat 0), 0, v30, by omega, H, rfl⟩, lm [(0, 0), (1, 1)] hm⟩ ?_; clear H
   rintro k44 _ ⟨v723, v724, v725, hk44, H, rfl⟩
   cases k44 with
   | zero => cases H
   | succ k44 =>
    rw [S_l6Far.l44] at H
    refine WpC.seq (sr ?_); refine mv ?_; refine bi (L.nil ?_); refine cd H (fun hc H => ?_) (fun hc H => ?_)
    ·refine WpC.skip (WpC.seq (WpC.block (sr ?_))); refine ag (L.nil ?_); refine WpC.block ?_; refine WpC.loopL (P := Tryz.prog) (fun n σ => ∃ (v842 : List Int) (v843 v844 : Int) (v845 : T_Config), n ≤ K ∧ S_l6Far.l51 (S_l6Far.l44 k44) n v842 v843 v844 v845 = some r ∧ σ = mkSt [(2, oP 0 0), (5, one (Cell.own 1)), (7, oI v843), (8, oI v844)] [(1, ⟨1, List.map eI v842⟩)] [(0, (bT_Config g0 g1 g2 g3 v845))] 2) k44 ⟨_, ⟨v723, v724, 0, v725, by omega, H, rfl⟩, lm [(0, 0), (1, 1)] hm⟩ ?_; clear H
     rintro k51 _ ⟨v842, v843, v844, v845, hk51, H, rfl⟩
     cases k51 with
     | zero => cases H
     | succ k51 =>
      rw [S_l6Far.l51] at H
      refine WpC.seq (sr ?_); refine mv ?_; refine fa underlying44 info42 ?_; refine lp shape42 ?_; refine L.lenR (xs := v845.Links) (e := eT_Pair) underlying42 hF rfl rfl rfl rfl ?_; refine bi (L.nil ?_); refine cd H (fun hc H => ?_) (fun hc H => ?_)
      ·refine WpC.skip ?_; refine WpC.join (fun σ => ∃ (kj52 : Nat) (v854 : List Int) (v855 v856 : Int) (v857 : T_Config), kj52 ≤ K ∧ S_l6Far.j52 (S_l6Far.l51 (S_l6Far.l44 k44) k51) kj52 v854 v855 v856 v857 = some r ∧ σ = mkSt [(2, oP 0 0), (5, one (Cell.own 1)), (7, oI v855), (8, oI v856)] [(1, ⟨1, List.map eI v854⟩)] [(0, (bT_Config g0 g1 g2 g3 v857))] 2) ?_ ?_
       ·rintro _ ⟨kj52, v854, v855, v856, v857, hkj52, H, rfl⟩
        unfold S_l6Far.j52 at H; refine WpC.regionL ?_; refine mv ?_; refine bi ?_; refine ag (L.nil ?_); exact ⟨k51, _, by omega, ⟨v854, v855, (IntKind.i64.wrap (v856 + 1)), v857, by omega, H, rfl⟩, lm [(0, 0), (1, 1)] hm⟩
       ·refine WpC.block (WpC.seq ?_); refine S.begin mixed (by kernel_rfl) ?_; refine S.st 0 rfl rfl ((Ca.move).quiet) (fun Q0 k0 => mv (L.nil k0)) ?_; refine S.st 1 rfl rfl ((Ca.fieldAddr underlying44 rfl info42 rfl).quiet) (fun Q0 k0 => fa underlying44 info42 (L.nil k0)) ?_; refine S.st 2 rfl rfl (Qu.load) (fun Q0 k0 => lp shape42 (L.nil k0)) ?_; refine S.st 3 rfl rfl ((Ca.move).quiet) (fun Q0 k0 => mv (L.nil k0)) ?_; obtain ⟨b858, hb858, H⟩ := bindS H; refine S.st 4 rfl rfl ((Ca.indexAddr).quiet) (fun Q0 k0 => ix underlying42 info147 hb858 (L.nil k0)) ?_; refine S.st 5 rfl rfl ((Ca.fieldAddr underlying147 rfl info3 rfl).quiet) (fun Q0 k0 => fa underlying147 info3 (L.nil k0)) ?_; refine S.st 6 rfl rfl (Qu.load) (fun Q0 k0 => le shape3 (L.nil k0)) ?_; obtain ⟨b859, hb859, H⟩ := bindS H; refine S.st 7 rfl rfl ((Ca.indexAddr).quiet) (fun Q0 k0 => ix underlying22 info3 hb859 (L.nil k0)) ?_; refine S.st 8 rfl rfl (Qu.load) (fun Q0 k0 => L.loadEp (xs := v842) (e := eI) shape3 hF rfl rfl rfl rfl (at?_get hb859).2 rfl rfl (L.nil k0)) ?_; refine S.st 9 rfl rfl ((Ca.bin rfl rfl (calm_int _ _ _ _ _ _ _ _)).quiet) (fun Q0 k0 => bi (L.nil k0)) ?_; refine S.st 10 rfl rfl ((Ca.move).quiet) (fun Q0 k0 => mv (L.nil k0)) ?_; refine S.st 11 rfl rfl ((Ca.fieldAddr underlying44 rfl info42 rfl).quiet) (fun Q0 k0 => fa underlying44 info42 (L.nil k0)) ?_; refine S.st 12 rfl rfl (Qu.load) (fun Q0 k0 => lp shape42 (L.nil k0)) ?_
        refine S.st 13 rfl rfl ((Ca.move).quiet) (fun Q0 k0 => mv (L.nil k0)) ?_; obtain ⟨b860, hb860, H⟩ := bindS H; refine S.st 14 rfl rfl ((Ca.indexAddr).quiet) (fun Q0 k0 => ix underlying42 info147 hb860 (L.nil k0)) ?_; refine S.st 15 rfl rfl ((Ca.fieldAddr underlying147 rfl info3 rfl).quiet) (fun Q0 k0 => fa underlying147 info3 (L.nil k0)) ?_; refine S.st 16 rfl rfl (Qu.load) (fun Q0 k0 => le shape3 (L.nil k0)) ?_; obtain ⟨b861, hb861, H⟩ := bindS H; refine S.st 17 rfl rfl ((Ca.indexAddr).quiet) (fun Q0 k0 => ix underlying22 info3 hb861 (L.nil k0)) ?_; refine S.st 18 rfl rfl (Qu.load) (fun Q0 k0 => L.loadEp (xs := v842) (e := eI) shape3 hF rfl rfl rfl rfl (at?_get hb861).2 rfl rfl (L.nil k0)) ?_; refine S.st 19 rfl rfl ((Ca.bin rfl rfl (calm_int _ _ _ _ _ _ _ _)).quiet) (fun Q0 k0 => bi (L.nil k0)) ?_; refine S.nil ?_; refine cd H (fun hc H => ?_) (fun hc H => ?_)
        ·obtain ⟨b862, hb862, H⟩ := bindS H; obtain ⟨b863, hb863, H⟩ := bindS H; obtain ⟨b864, hb864, H⟩ := bindS H; obtain ⟨b865, hb865, H⟩ := bindS H
         refine A.lin (fun β => mkStL [(2, iP 0 0), (5, ai (one (Cell.own 1))), (7, iI v843), (8, iI v844), (51, al (β 0) (one (Cell.own 1))), (52, lP (β 1) 0 2), (53, al (β 2) (one (Cell.sl g2 (List.map eT_Pair v845.Links)))), (54, lI (β 3) v844), (55, al (β 4) (one (Cell.pe g2 (eT_Pair b862) 0))), (56, al (β 5) (one (Cell.pe g2 (eT_Pair b862) 0))), (57, al (β 6) (one (cI b862.A))), (58, al (β 7) (one (Cell.own 1))), (59, lP (β 8) 0 2), (60, al (β 9) (one (Cell.sl g2 (List.map eT_Pair v845.Links)))), (61, lI (β 10) v844), (62, al (β 11) (one (Cell.pe g2 (eT_Pair b863) 0))), (63, al (β 12) (one (Cell.pe g2 (eT_Pair b863) 1))), (64, al (β 13) (one (cI b863.B))), (65, al (β 14) (one (Cell.ep 1 b863.B.toNat 0))), (66, lI (β 15) b864), (67, al (β 16) (one (cI (IntKind.i64.wrap (b864 + 1))))), (68, al (β 17) (one (Cell.ep 1 b862.A.toNat 0)))] [(1, [(β 18, some (⟨1, List.map eI (v842.set b862.A.toNat (IntKind.i64.wrap (b864 + 1)))⟩)), (true, some (⟨1, List.map eI v842⟩))])] [(0, ai ((bT_Config g0 g1 g2 g3 v845)))] 2) [([], [17, 18]), ([], [2, 4, 5, 6, 17, 18]), ([1], [4, 5, 6, 17, 18]), ([], [4, 5, 6, 17, 18]), ([1, 2, 3], [5, 6, 17, 18]), ([1, 2, 3, 4], [6, 17, 18]), ([1, 2, 3, 4, 5], [17, 18]), ([], [14, 15, 16, 17, 18]), ([], [9, 11, 12, 13, 14, 15, 16, 17, 18]), ([8], [11, 12, 13, 14, 15, 16, 17, 18]), ([], [11, 12, 13, 14, 15, 16, 17, 18]), ([8, 9, 10], [12, 13, 14, 15, 16, 17, 18]), ([8, 9, 10, 11], [13, 14, 15, 16, 17, 18]), ([8, 9, 10, 11, 12], [14, 15, 16, 17, 18]), ([7, 8, 9, 10, 11, 12, 13], [15, 16, 17, 18]), ([7, 8, 9, 10, 11, 12, 13, 14], [16, 17, 18]), ([7, 8, 9, 10, 11, 12, 13, 14, 15], [17, 18]), ([0, 1, 2, 3, 4, 5, 6, 7, 8, 9, 10, 11, 12, 13, 14, 15, 16], [18]), ([0, 1, 2, 3, 4, 5, 6, 7, 8, 9, 10, 11, 12, 13, 14, 15, 16, 17], [])] 19 mixed rfl (by kernel_rfl) ?_ ?_ ?_
         ·exact Le.lin [] hm rfl (sa4 (kn2 (kn8 (kn8 kz)))) (ra kz) (ba kz)
         ·repeat' (first | exact trivial | refine ⟨⟨_, rfl, fun β => ?_⟩, ?_⟩ | fail)
          ·refine mv ?_; exact lx [] hm
          ·refine fa underlying44 info42 ?_; exact lx [] hm
          ·refine lp shape42 ?_; exact lx [] hm
          ·refine mv ?_; exact lx [] hm
          ·refine ix underlying42 info147 hb862 ?_; exact lx [] hm
          ·refine fa underlying147 info3 ?_; exact lx [] hm
          ·refine le shape3 ?_; exact lx [] hm
          ·refine mv ?_; exact lx [] hm
          ·refine fa underlying44 info42 ?_; exact lx [] hm
          ·refine lp shape42 ?_; exact lx [] hm
          ·refine mv ?_; exact lx [] hm
          ·refine ix underlying42 info147 hb863 ?_; exact lx [] hm
          ·refine fa underlying147 info3 ?_; exact lx [] hm
          ·refine le shape3 ?_; exact lx [] hm
          ·refine ix underlying22 info3 hb864 ?_; exact lx [] hm
          ·refine L.loadEp (xs := v842) (e := eI) shape3 hF rfl rfl rfl rfl (at?_get hb864).2 rfl rfl ?_; exact lx [] hm
          ·refine bi ?_; exact lx [] hm
          ·refine ix underlying22 info3 hb865 ?_; exact lx [] hm
          ·refine L.storeEp (xs := v842) (e := eI) (a' := (IntKind.i64.wrap (b864 + 1))) shape3 hF rfl rfl rfl rfl rfl rfl rfl (at?_get hb865).2 rfl rfl ?_; exact lx [] hm
         refine ⟨_, (lm [(0, 0), (1, 1)] hm : Le _ _ (mkSt [(2, oP 0 0), (5, one (Cell.own 1)), (7, oI v843), (8, oI v844)] [(1, ⟨1, List.map eI (v842.set b862.A.toNat (IntKind.i64.wrap (b864 + 1)))⟩)] [(0, (bT_Config g0 g1 g2 g3 v845))] 2)), ?_⟩; exact ⟨_, ⟨k51, (v842.set b862.A.toNat (IntKind.i64.wrap (b864 + 1))), v843, v844, v845, by omega, H, rfl⟩, lm [(0, 0), (1, 1)] hm⟩
        ·refine WpC.skip ?_; exact ⟨_, ⟨k51, v842, v843, v844, v845, by omega, H, rfl⟩, lm [(0, 0), (1, 1)] hm⟩
      ·refine WpC.exit (WpC.regionL ?_); refine mv ?_; refine bi ?_; refine ag (L.nil ?_); exact ⟨k44, _, by omega, ⟨v842, (IntKind.i64.wrap (v843 + 1)), v845, by omega, H, rfl⟩, lm [(0, 0), (1, 1)] hm⟩
    ·refine WpC.exit (sr ?_); refine mv ?_; refine ag (L.nil ?_); cases H; exact WpC.ret rt
end Go.Proofs.YtbjbagemlclgcaaGreat.M
