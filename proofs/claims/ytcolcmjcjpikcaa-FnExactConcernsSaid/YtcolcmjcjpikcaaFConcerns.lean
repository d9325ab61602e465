import Derived.Test.YtcolcmjcjpikcaaFConcernsx1
import Derived.Test.YtcolcmjcjpikcaaProg
namespace Go.Proofs.Ytcolcmjcjpikcaa.M
open Go Go.MG
set_option linter.unusedVariables false
set_option linter.unusedSimpArgs false
/-! ### Fimpl_Concerns -/
def Fimpl_Concerns.j8 (cl7 : (List Int) → (List Int) → Int → Int → (List Int) → (List Int) → (List Timpl_Pair) → (List Timpl_Pair) → Int → Int → Int → Int → Int → Int → Int → Int → Int → Int → Int → Int → (List Int) → Int → (List UInt8) → Option (List Int)) (k : Nat) (v308 : List Int) (v309 : List Int) (v310 : Int) (v311 : Int) (v312 : List Int) (v313 : List Int) (v314 : List Timpl_Pair) (v315 : List Timpl_Pair) (v316 : Int) (v317 : Int) (v318 : Int) (v319 : Int) (v320 : Int) (v321 : Int) (v322 : Int) (v323 : Int) (v324 : Int) (v325 : Int) (v326 : Int) (v327 : Int) (v328 : List Int) (v329 : Int) (v330 : List UInt8) : Option (List Int) := cl7 v308 v309 v310 (IntKind.i64.wrap (v311 + (1 : Int))) v312 v313 v314 v315 v316 v317 v318 v319 v320 v321 v322 v323 v324 v325 v326 v327 v328 v329 v330
def Fimpl_Concerns.j58 (cl57 : (List Int) → (List Int) → Int → Int → Int → Int → Int → Option (List Int)) (k : Nat) (v1059 : List Int) (v1060 : List Int) (v1061 : Int) (v1062 : Int) (v1063 : Int) (v1064 : Int) (v1065 : Int) : Option (List Int) := cl57 v1059 v1060 v1061 v1062 v1063 v1064 (IntKind.i64.wrap (v1065 + (1 : Int)))
def Fimpl_Concerns.l57 (cl50 : (List Int) → (List Int) → Int → Int → Option (List Int)) : Nat → (List Int) → (List Int) → Int → Int → Int → Int → Int → Option (List Int)
  | 0, _, _, _, _, _, _, _ => none
  | k57 + 1, v1049, v1050, v1051, v1052, v1053, v1054, v1055 => cond (decide (v1055 < v1054)) ((at? v1050 v1055).bind fun b1066 => cond (b1066 != v1051) ((Fimpl_LinkKey k57 v1051 b1066).bind fun r1067 => cond (decide ((2 * (v1049.length + ([r1067] : List Int).length) + 192) * 8 ≤ 281474976710656)) (Fimpl_Concerns.j58 (Fimpl_Concerns.l57 cl50 k57) k57 (v1049 ++ ([r1067] : List Int)) v1050 v1051 v1052 v1053 v1054 v1055) none) (Fimpl_Concerns.j58 (Fimpl_Concerns.l57 cl50 k57) k57 v1049 v1050 v1051 v1052 v1053 v1054 v1055)) (cl50 v1049 v1050 v1052 (IntKind.i64.wrap (v1053 + (1 : Int))))
def Fimpl_Concerns.l50 : Nat → (List Int) → (List Int) → Int → Int → Option (List Int)
  | 0, _, _, _, _ => none
  | k50 + 1, v943, v944, v945, v946 => cond (decide (v946 < v945)) ((at? v944 v946).bind fun b1008 => (Fimpl_CentreKey k50 b1008).bind fun r1009 => cond (decide ((2 * (v943.length + ([r1009] : List Int).length) + 192) * 8 ≤ 281474976710656)) (Fimpl_Concerns.l57 (Fimpl_Concerns.l50 k50) k50 (v943 ++ ([r1009] : List Int)) v944 b1008 v945 v946 (v944.length : Int) (0 : Int)) none) ((Fimpl_risen k50 v943).bind fun r1069 => some r1069)
def Fimpl_Concerns.l7 : Nat → (List Int) → (List Int) → Int → Int → (List Int) → (List Int) → (List Timpl_Pair) → (List Timpl_Pair) → Int → Int → Int → Int → Int → Int → Int → Int → Int → Int → Int → Int → (List Int) → Int → (List UInt8) → Option (List Int)
  | 0, _, _, _, _, _, _, _, _, _, _, _, _, _, _, _, _, _, _, _, _, _, _, _ => none
  | k7 + 1, v281, v282, v283, v284, v285, v286, v287, v288, v289, v290, v291, v292, v293, v294, v295, v296, v297, v298, v299, v300, v301, v302, v303 => cond (decide (v284 < v283)) ((at? v282 v284).bind fun b331 => (Fimpl_isService k7 b331).bind fun r332 => cond r332 ((Fimpl_PrincipalKey k7 (IntKind.i64.wrap ((3 : Int) + b331))).bind fun r333 => cond (decide ((2 * (v281.length + ([r333] : List Int).length) + 192) * 8 ≤ 281474976710656)) (Fimpl_Concerns.j8 (Fimpl_Concerns.l7 k7) k7 (v281 ++ ([r333] : List Int)) v282 v283 v284 v285 v286 v287 v288 v289 v290 v291 v292 v293 v294 v295 v296 v297 v298 v299 v300 v301 v302 v303) none) (Fimpl_Concerns.j8 (Fimpl_Concerns.l7 k7) k7 v281 v282 v283 v284 v285 v286 v287 v288 v289 v290 v291 v292 v293 v294 v295 v296 v297 v298 v299 v300 v301 v302 v303)) ((Fimpl_RealmOf k7 (⟨v285, v286, v287, v288, v289⟩ : Timpl_Config) v291).bind fun r335 => (at? v286 v290).bind fun b336 => cond (decide ((2 * (([r335, b336] : List Int).length + v301.length) + 192) * 8 ≤ 281474976710656)) ((Fslices_DeleteFunc_int__impl_Concerns_1 k7 (([r335, b336] : List Int) ++ v301)).bind fun r338 => Fimpl_Concerns.l50 k7 v281 r338 (r338.length : Int) (0 : Int)) none)
def Fimpl_Concerns (k : Nat) (a0 : Timpl_Config) (a1 : Timpl_Accept) : Option (List Int) := (Fimpl_ConfigOk k a0).bind fun r10 => cond (!r10) (some ([] : List Int)) ((Fimpl_isService k a1.Server).bind fun r11 => cond (!r11) (some ([] : List Int)) ((Fimpl_isPrincipal k a1.Client).bind fun r12 => cond (!r12) (some ([] : List Int)) ((Fimpl_PrincipalKey k a1.Client).bind fun r13 => (Fimpl_PrincipalKey k (IntKind.i64.wrap ((3 : Int) + a1.Server))).bind fun r14 => Fimpl_Concerns.l7 k ([r13, r14] : List Int) a1.Via (a1.Via.length : Int) (0 : Int) a0.UserRealm a0.ServiceRealm a0.Links a0.Proxy a0.Skew a1.Server a1.Client a1.Key a1.Op a1.Now a1.Auth.Client a1.Auth.Time a1.Auth.Seq a1.Rest.Servers a1.Rest.Ops a1.Rest.End a1.Path a1.Leaks a1.Ticket)))
theorem ent90 : MG.Enters Try.prog 90 := ⟨Try.f90, Try.func90, rfl, by decide⟩
set_option maxHeartbeats 8000000 in
set_option maxRecDepth 100000 in
theorem Fimpl_Concerns_gives (k : Nat) (g0 : Bool) (g1 : Bool) (g2 : Bool) (g3 : Bool) (g4 : Bool) (g5 : Bool) (a0 : Timpl_Config) (a1 : Timpl_Accept) (r : List Int) (H : Fimpl_Concerns k a0 a1 = some r) : Gives Try.prog 90 [V.agg [Cell.sl g0 (List.map eI a0.UserRealm), Cell.sl g1 (List.map eI a0.ServiceRealm), Cell.sl g2 (List.map eTimpl_Pair a0.Links), Cell.sl g3 (List.map eTimpl_Pair a0.Proxy), cI a0.Skew], V.agg [cI a1.Server, cI a1.Client, cI a1.Key, cI a1.Op, cI a1.Now, cI a1.Auth.Client, cI a1.Auth.Time, cI a1.Auth.Seq, cI a1.Rest.Servers, cI a1.Rest.Ops, cI a1.Rest.End, Cell.sl g4 (List.map eI a1.Path), Cell.sl g5 (List.map eI a1.Via), cI a1.Leaks, cS a1.Ticket]] [] [V.one (Cell.ow 1 (List.map eI r))] [] := by
  refine Gives.intro Try.func90 rfl rfl rfl rfl ?_
  intro F hF hm
  unfold Fimpl_Concerns at H
  obtain ⟨K, hK⟩ : ∃ K, k ≤ K := ⟨k, Nat.le_refl k⟩
  refine WpC.seq ?_
  refine WpC.regionL ?_
  refine L.box 20 hF rfl rfl rfl rfl ?_
  refine L.box 21 hF rfl rfl rfl rfl ?_
  refine L.assign hF rfl rfl rfl ?_
  refine L.nil ?_
  refine WpC.seq ?_
  refine WpC.seq ?_
  refine WpC.regionL ?_
  refine L.loadPtr shape90 hF rfl rfl rfl rfl rfl rfl ?_
  obtain ⟨r10, hr10, H⟩ := bindS H
  refine L.call [false] [] [] 22 hF rfl rfl rfl ent156 rfl rfl rfl rfl rfl (Fimpl_ConfigOk_gives k g0 g1 g2 g3 a0 r10 hr10) rfl ?_
  refine L.not hF rfl rfl rfl ?_
  refine L.move hF rfl rfl rfl ?_
  refine L.split (fun hc => ?_) (fun hc => ?_)
  · replace H := condT hc H
    refine L.off hF rfl rfl ?_
    refine L.off hF rfl rfl ?_
    refine L.off hF rfl rfl ?_
    refine L.off hF rfl rfl ?_
    refine L.pick hF rfl rfl rfl rfl ?_
    refine L.move hF rfl rfl rfl ?_
    refine L.off hF rfl rfl ?_
    refine L.off hF rfl rfl ?_
    refine L.off hF rfl rfl ?_
    refine L.off hF rfl rfl ?_
    refine L.pick hF rfl rfl rfl rfl ?_
    refine L.nil ?_
    refine WpC.cond rfl (fun _ => ?_) (fun hc => by cases hc)
    refine WpC.seq ?_
    refine WpC.regionL ?_
    refine L.buildSlice (e := eI) 23 ([] : List Int) Try.underlying24 info3 rfl rfl rfl hF rfl rfl rfl rfl rfl rfl rfl rfl ?_
    refine L.assign hF rfl rfl rfl ?_
    refine L.nil ?_
    refine WpC.ret ?_
    cases H
    exact Leaves.ret rfl rfl rfl ⟨rfl, rfl⟩
  · replace H := condF hc H
    refine L.fieldAddr Try.underlying113 rfl info3 rfl hF rfl rfl rfl rfl rfl ?_
    refine L.loadPtr shape3 hF rfl rfl rfl rfl rfl rfl ?_
    obtain ⟨r11, hr11, H⟩ := bindS H
    refine L.call [false] [] [] 23 hF rfl rfl rfl ent157 rfl rfl rfl rfl rfl (Fimpl_isService_gives k  a1.Server r11 hr11) rfl ?_
    refine L.not hF rfl rfl rfl ?_
    refine L.pick hF rfl rfl rfl rfl ?_
    refine L.move hF rfl rfl rfl ?_
    refine L.split (fun hc => ?_) (fun hc => ?_)
    · replace H := condT hc H
      refine L.off hF rfl rfl ?_
      refine L.off hF rfl rfl ?_
      refine L.off hF rfl rfl ?_
      refine L.off hF rfl rfl ?_
      refine L.pick hF rfl rfl rfl rfl ?_
      refine L.nil ?_
      refine WpC.cond rfl (fun _ => ?_) (fun hc => by cases hc)
      refine WpC.seq ?_
      refine WpC.regionL ?_
      refine L.buildSlice (e := eI) 24 ([] : List Int) Try.underlying24 info3 rfl rfl rfl hF rfl rfl rfl rfl rfl rfl rfl rfl ?_
      refine L.assign hF rfl rfl rfl ?_
      refine L.nil ?_
      refine WpC.ret ?_
      cases H
      exact Leaves.ret rfl rfl rfl ⟨rfl, rfl⟩
    · replace H := condF hc H
      refine L.fieldAddr Try.underlying113 rfl info3 rfl hF rfl rfl rfl rfl rfl ?_
      refine L.loadPtr shape3 hF rfl rfl rfl rfl rfl rfl ?_
      obtain ⟨r12, hr12, H⟩ := bindS H
      refine L.call [false] [] [] 24 hF rfl rfl rfl ent145 rfl rfl rfl rfl rfl (Fimpl_isPrincipal_gives k  a1.Client r12 hr12) rfl ?_
      refine L.not hF rfl rfl rfl ?_
      refine L.pick hF rfl rfl rfl rfl ?_
      refine L.nil ?_
      refine WpC.cond rfl (fun hc => ?_) (fun hc => ?_)
      · replace H := condT hc H
        refine WpC.seq ?_
        refine WpC.regionL ?_
        refine L.buildSlice (e := eI) 25 ([] : List Int) Try.underlying24 info3 rfl rfl rfl hF rfl rfl rfl rfl rfl rfl rfl rfl ?_
        refine L.assign hF rfl rfl rfl ?_
        refine L.nil ?_
        refine WpC.ret ?_
        cases H
        exact Leaves.ret rfl rfl rfl ⟨rfl, rfl⟩
      · replace H := condF hc H
        refine WpC.skip ?_
        refine WpC.seq ?_
        obtain ⟨r13, hr13, H⟩ := bindS H
        obtain ⟨r14, hr14, H⟩ := bindS H
        refine A.begin mixed rfl rfl ?_
        intro W hI hO
        have n63 : W 3 #[true, true, true, true, true, true, false, false, false] (mkSt [(2, MG.one (Cell.ptr 0 0)), (3, MG.one (Cell.ptr 1 0)), (31, MG.one (cI r13)), (34, MG.one (cI (IntKind.i64.wrap ((3 : Int) + a1.Server))))] [] [(0, [Cell.sl g0 (List.map eI a0.UserRealm), Cell.sl g1 (List.map eI a0.ServiceRealm), Cell.sl g2 (List.map eTimpl_Pair a0.Links), Cell.sl g3 (List.map eTimpl_Pair a0.Proxy), cI a0.Skew]), (1, [cI a1.Server, cI a1.Client, cI a1.Key, cI a1.Op, cI a1.Now, cI a1.Auth.Client, cI a1.Auth.Time, cI a1.Auth.Seq, cI a1.Rest.Servers, cI a1.Rest.Ops, cI a1.Rest.End, Cell.sl g4 (List.map eI a1.Path), Cell.sl g5 (List.map eI a1.Via), cI a1.Leaks, cS a1.Ticket])] 2) := by
          refine hI _ _ _ ?_
          refine A.all [6] (by kernel_rfl) rfl ⟨⟨_, rfl, ?_⟩, trivial⟩
          refine L.call [false] [] [] 2 hF rfl rfl rfl ent181 rfl rfl rfl rfl rfl (Fimpl_PrincipalKey_gives k  (IntKind.i64.wrap ((3 : Int) + a1.Server)) r14 hr14) rfl ?_
          refine L.nil ?_
          refine A.all [7] (by kernel_rfl) rfl ⟨⟨_, rfl, ?_⟩, trivial⟩
          refine L.buildSlice (e := eI) 3 ([r13, r14] : List Int) Try.underlying24 info3 rfl rfl rfl hF rfl rfl rfl rfl rfl rfl rfl rfl ?_
          refine L.nil ?_
          refine A.take 8 rfl (by kernel_rfl) (by kernel_rfl) (by kernel_rfl) rfl (Ca.assign) (fun Q0 k0 => L.assign hF rfl rfl rfl (L.nil k0)) ?_
          refine A.le (τ := mkSt [(2, MG.one (Cell.ptr 0 0)), (3, MG.one (Cell.ptr 1 0)), (5, MG.one (Cell.own 2))] [(2, ⟨1, List.map eI ([r13, r14] : List Int)⟩)] [(0, [Cell.sl g0 (List.map eI a0.UserRealm), Cell.sl g1 (List.map eI a0.ServiceRealm), Cell.sl g2 (List.map eTimpl_Pair a0.Links), Cell.sl g3 (List.map eTimpl_Pair a0.Proxy), cI a0.Skew]), (1, [cI a1.Server, cI a1.Client, cI a1.Key, cI a1.Op, cI a1.Now, cI a1.Auth.Client, cI a1.Auth.Time, cI a1.Auth.Seq, cI a1.Rest.Servers, cI a1.Rest.Ops, cI a1.Rest.End, Cell.sl g4 (List.map eI a1.Path), Cell.sl g5 (List.map eI a1.Via), cI a1.Leaks, cS a1.Ticket])] 3) (Le.mk [(0, 0), (1, 1), (2, 3)] hm rfl ⟨⟨_, rfl, rfl⟩, ⟨_, rfl, rfl⟩, ⟨_, rfl, rfl⟩, trivial⟩ ⟨⟨_, rfl, rfl⟩, trivial⟩ ⟨⟨_, _, rfl, rfl, rfl⟩, ⟨_, _, rfl, rfl, rfl⟩, trivial⟩) ?_
          refine A.done (by kernel_rfl) ?_
          refine WpC.seq ?_
          refine WpC.seq ?_
          refine WpC.regionL ?_
          refine L.fieldAddr Try.underlying113 rfl info24 rfl hF rfl rfl rfl rfl rfl ?_
          refine L.loadPtr shape24 hF rfl rfl rfl rfl rfl rfl ?_
          refine L.lenR (xs := a1.Via) (e := eI) Try.underlying24 hF rfl rfl rfl rfl ?_
          refine L.move hF rfl rfl rfl ?_
          refine L.nil ?_
          refine WpC.block ?_
          refine WpC.loopL (P := Try.prog) (fun n σ => ∃ v281 : List Int, ∃ v282 : List Int, ∃ v283 : Int, ∃ v284 : Int, ∃ v285 : List Int, ∃ v286 : List Int, ∃ v287 : List Timpl_Pair, ∃ v288 : List Timpl_Pair, ∃ v289 : Int, ∃ v290 : Int, ∃ v291 : Int, ∃ v292 : Int, ∃ v293 : Int, ∃ v294 : Int, ∃ v295 : Int, ∃ v296 : Int, ∃ v297 : Int, ∃ v298 : Int, ∃ v299 : Int, ∃ v300 : Int, ∃ v301 : List Int, ∃ v302 : Int, ∃ v303 : List UInt8, n ≤ K ∧ Fimpl_Concerns.l7 n v281 v282 v283 v284 v285 v286 v287 v288 v289 v290 v291 v292 v293 v294 v295 v296 v297 v298 v299 v300 v301 v302 v303 = some r ∧ σ = mkSt [(2, MG.one (Cell.ptr 0 0)), (3, MG.one (Cell.ptr 1 0)), (5, MG.one (Cell.own 2)), (38, MG.one (Cell.sl g5 (List.map eI v282))), (39, MG.one (cI v283)), (40, MG.one (cI v284))] [(2, ⟨1, List.map eI v281⟩)] [(0, [Cell.sl g0 (List.map eI v285), Cell.sl g1 (List.map eI v286), Cell.sl g2 (List.map eTimpl_Pair v287), Cell.sl g3 (List.map eTimpl_Pair v288), cI v289]), (1, [cI v290, cI v291, cI v292, cI v293, cI v294, cI v295, cI v296, cI v297, cI v298, cI v299, cI v300, Cell.sl g4 (List.map eI v301), Cell.sl g5 (List.map eI v282), cI v302, cS v303])] 3) k ⟨_, ⟨([r13, r14] : List Int), a1.Via, (a1.Via.length : Int), (0 : Int), a0.UserRealm, a0.ServiceRealm, a0.Links, a0.Proxy, a0.Skew, a1.Server, a1.Client, a1.Key, a1.Op, a1.Now, a1.Auth.Client, a1.Auth.Time, a1.Auth.Seq, a1.Rest.Servers, a1.Rest.Ops, a1.Rest.End, a1.Path, a1.Leaks, a1.Ticket, by omega, H, rfl⟩, Le.mk [(0, 0), (1, 1), (2, 2)] hm rfl ⟨⟨_, rfl, rfl⟩, ⟨_, rfl, rfl⟩, ⟨_, rfl, rfl⟩, ⟨_, rfl, rfl⟩, ⟨_, rfl, rfl⟩, ⟨_, rfl, rfl⟩, trivial⟩ ⟨⟨_, rfl, rfl⟩, trivial⟩ ⟨⟨_, _, rfl, rfl, rfl⟩, ⟨_, _, rfl, rfl, rfl⟩, trivial⟩⟩ ?_
          clear H
          rintro k7 _ ⟨v281, v282, v283, v284, v285, v286, v287, v288, v289, v290, v291, v292, v293, v294, v295, v296, v297, v298, v299, v300, v301, v302, v303, hk7, H, rfl⟩
          cases k7 with
          | zero => cases H
          | succ k7 =>
            rw [Fimpl_Concerns.l7] at H
            refine WpC.seq ?_
            refine WpC.regionL ?_
            refine L.bin hF rfl rfl rfl rfl rfl rfl ?_
            refine L.nil ?_
            refine WpC.seq ?_
            refine WpC.cond rfl (fun hc => ?_) (fun hc => ?_)
            · replace H := condT hc H
              refine WpC.skip ?_
              refine WpC.join (fun σ => ∃ kj8 : Nat, ∃ v308 : List Int, ∃ v309 : List Int, ∃ v310 : Int, ∃ v311 : Int, ∃ v312 : List Int, ∃ v313 : List Int, ∃ v314 : List Timpl_Pair, ∃ v315 : List Timpl_Pair, ∃ v316 : Int, ∃ v317 : Int, ∃ v318 : Int, ∃ v319 : Int, ∃ v320 : Int, ∃ v321 : Int, ∃ v322 : Int, ∃ v323 : Int, ∃ v324 : Int, ∃ v325 : Int, ∃ v326 : Int, ∃ v327 : Int, ∃ v328 : List Int, ∃ v329 : Int, ∃ v330 : List UInt8, kj8 ≤ K ∧ Fimpl_Concerns.j8 (Fimpl_Concerns.l7 k7) kj8 v308 v309 v310 v311 v312 v313 v314 v315 v316 v317 v318 v319 v320 v321 v322 v323 v324 v325 v326 v327 v328 v329 v330 = some r ∧ σ = mkSt [(2, MG.one (Cell.ptr 0 0)), (3, MG.one (Cell.ptr 1 0)), (5, MG.one (Cell.own 2)), (38, MG.one (Cell.sl g5 (List.map eI v309))), (39, MG.one (cI v310)), (40, MG.one (cI v311))] [(2, ⟨1, List.map eI v308⟩)] [(0, [Cell.sl g0 (List.map eI v312), Cell.sl g1 (List.map eI v313), Cell.sl g2 (List.map eTimpl_Pair v314), Cell.sl g3 (List.map eTimpl_Pair v315), cI v316]), (1, [cI v317, cI v318, cI v319, cI v320, cI v321, cI v322, cI v323, cI v324, cI v325, cI v326, cI v327, Cell.sl g4 (List.map eI v328), Cell.sl g5 (List.map eI v309), cI v329, cS v330])] 3) ?_ ?_
              · rintro _ ⟨kj8, v308, v309, v310, v311, v312, v313, v314, v315, v316, v317, v318, v319, v320, v321, v322, v323, v324, v325, v326, v327, v328, v329, v330, hkj8, H, rfl⟩
                unfold Fimpl_Concerns.j8 at H
                refine WpC.regionL ?_
                refine L.bin hF rfl rfl rfl rfl rfl rfl ?_
                refine L.move hF rfl rfl rfl ?_
                refine L.nil ?_
                exact ⟨k7, _, by omega, ⟨v308, v309, v310, (IntKind.i64.wrap (v311 + (1 : Int))), v312, v313, v314, v315, v316, v317, v318, v319, v320, v321, v322, v323, v324, v325, v326, v327, v328, v329, v330, by omega, H, rfl⟩, Le.mk [(0, 0), (1, 1), (2, 2)] hm rfl ⟨⟨_, rfl, rfl⟩, ⟨_, rfl, rfl⟩, ⟨_, rfl, rfl⟩, ⟨_, rfl, rfl⟩, ⟨_, rfl, rfl⟩, ⟨_, rfl, rfl⟩, trivial⟩ ⟨⟨_, rfl, rfl⟩, trivial⟩ ⟨⟨_, _, rfl, rfl, rfl⟩, ⟨_, _, rfl, rfl, rfl⟩, trivial⟩⟩
              · refine WpC.block ?_
                refine WpC.seq ?_
                refine WpC.regionL ?_
                obtain ⟨b331, hb331, H⟩ := bindS H
                refine L.idxR (xs := v282) (e := eI) Try.underlying24 info3 hF rfl rfl rfl rfl rfl hb331 rfl rfl ?_
                refine L.loadPe shape3 hF rfl rfl rfl rfl rfl ?_
                refine L.assign hF rfl rfl rfl ?_
                refine L.nil ?_
                refine WpC.seq ?_
                refine WpC.regionL ?_
                refine L.move hF rfl rfl rfl ?_
                obtain ⟨r332, hr332, H⟩ := bindS H
                refine L.call [false] [] [] 3 hF rfl rfl rfl ent157 rfl rfl rfl rfl rfl (Fimpl_isService_gives k7  b331 r332 hr332) rfl ?_
                refine L.nil ?_
                refine WpC.cond rfl (fun hc => ?_) (fun hc => ?_)
                · replace H := condT hc H
                  refine WpC.regionL ?_
                  refine L.move hF rfl rfl rfl ?_
                  refine L.move hF rfl rfl rfl ?_
                  refine L.bin hF rfl rfl rfl rfl rfl rfl ?_
                  obtain ⟨r333, hr333, H⟩ := bindS H
                  refine L.call [false] [] [] 4 hF rfl rfl rfl ent181 rfl rfl rfl rfl rfl (Fimpl_PrincipalKey_gives k7  (IntKind.i64.wrap ((3 : Int) + b331)) r333 hr333) rfl ?_
                  refine L.buildSlice (e := eI) 5 ([r333] : List Int) Try.underlying24 info3 rfl rfl rfl hF rfl rfl rfl rfl rfl rfl rfl rfl ?_
                  obtain ⟨h334, H⟩ := condG H
                  refine L.append (xs := v281) (ys := ([r333] : List Int)) (e := eI) 6 Try.underlying24 info3 rfl rfl hF rfl rfl rfl rfl rfl rfl rfl rfl (fun _ => rfl) (fun _ _ h1 h2 => by cases h1; cases h2; rfl) ⟨_, Try.underlying24⟩ (of_decide_eq_true h334) rfl rfl ?_
                  refine L.assign hF rfl rfl rfl ?_
                  refine L.nil ?_
                  exact ⟨_, ⟨k7, (v281 ++ ([r333] : List Int)), v282, v283, v284, v285, v286, v287, v288, v289, v290, v291, v292, v293, v294, v295, v296, v297, v298, v299, v300, v301, v302, v303, by omega, H, rfl⟩, Le.mk [(0, 0), (1, 1), (2, 6)] hm rfl ⟨⟨_, rfl, rfl⟩, ⟨_, rfl, rfl⟩, ⟨_, rfl, rfl⟩, ⟨_, rfl, rfl⟩, ⟨_, rfl, rfl⟩, ⟨_, rfl, rfl⟩, trivial⟩ ⟨⟨_, rfl, rfl⟩, trivial⟩ ⟨⟨_, _, rfl, rfl, rfl⟩, ⟨_, _, rfl, rfl, rfl⟩, trivial⟩⟩
                · replace H := condF hc H
                  refine WpC.skip ?_
                  exact ⟨_, ⟨k7, v281, v282, v283, v284, v285, v286, v287, v288, v289, v290, v291, v292, v293, v294, v295, v296, v297, v298, v299, v300, v301, v302, v303, by omega, H, rfl⟩, Le.mk [(0, 0), (1, 1), (2, 2)] hm rfl ⟨⟨_, rfl, rfl⟩, ⟨_, rfl, rfl⟩, ⟨_, rfl, rfl⟩, ⟨_, rfl, rfl⟩, ⟨_, rfl, rfl⟩, ⟨_, rfl, rfl⟩, trivial⟩ ⟨⟨_, rfl, rfl⟩, trivial⟩ ⟨⟨_, _, rfl, rfl, rfl⟩, ⟨_, _, rfl, rfl, rfl⟩, trivial⟩⟩
            · replace H := condF hc H
              refine WpC.exit ?_
              refine WpC.seq ?_
              obtain ⟨r335, hr335, H⟩ := bindS H
              obtain ⟨b336, hb336, H⟩ := bindS H
              obtain ⟨h337, H⟩ := condG H
              obtain ⟨r338, hr338, H⟩ := bindS H
              refine A.begin mixed rfl rfl ?_
              intro W hI hO
              have n8191 : W 3 #[true, true, true, true, true, true, true, true, true, true, true, true, true, false, false, false] (mkSt [(5, MG.one (Cell.own 0)), (63, MG.one (Cell.own 1)), (65, MG.one (Cell.sl g4 (List.map eI v301)))] [(0, ⟨1, List.map eI v281⟩), (1, ⟨1, List.map eI ([r335, b336] : List Int)⟩)] [] 2) := by
                refine hI _ _ _ ?_
                refine A.all [13] (by kernel_rfl) rfl ⟨⟨_, rfl, ?_⟩, trivial⟩
                refine L.append (xs := ([r335, b336] : List Int)) (ys := v301) (e := eI) 2 Try.underlying24 info3 rfl rfl hF rfl rfl rfl rfl rfl rfl rfl rfl (fun _ => rfl) (fun _ _ h1 h2 => by cases h1; cases h2; rfl) ⟨_, Try.underlying24⟩ (of_decide_eq_true h337) rfl rfl ?_
                refine L.nil ?_
                refine A.all [14] (by kernel_rfl) rfl ⟨⟨_, rfl, ?_⟩, trivial⟩
                refine L.call [true, false] [] [] 3 hF rfl rfl rfl ent182 rfl rfl rfl rfl rfl (Fslices_DeleteFunc_int__impl_Concerns_1_gives k7  (([r335, b336] : List Int) ++ v301) r338 hr338) rfl ?_
                refine L.nil ?_
                refine A.take 15 rfl (by kernel_rfl) (by kernel_rfl) (by kernel_rfl) rfl (Ca.assign) (fun Q0 k0 => L.assign hF rfl rfl rfl (L.nil k0)) ?_
                refine A.le (τ := mkSt [(5, MG.one (Cell.own 0)), (8, MG.one (Cell.own 1))] [(0, ⟨1, List.map eI v281⟩), (1, ⟨1, List.map eI r338⟩)] [] 2) (Le.mk [(0, 0), (1, 3)] hm rfl ⟨⟨_, rfl, rfl⟩, ⟨_, rfl, rfl⟩, trivial⟩ ⟨⟨_, rfl, rfl⟩, ⟨_, rfl, rfl⟩, trivial⟩ trivial) ?_
                refine A.done (by kernel_rfl) ?_
                refine WpC.seq ?_
                refine WpC.seq ?_
                refine WpC.regionL ?_
                refine L.move hF rfl rfl rfl ?_
                refine L.lenR (xs := r338) (e := eI) Try.underlying24 hF rfl rfl rfl rfl ?_
                refine L.move hF rfl rfl rfl ?_
                refine L.nil ?_
                refine WpC.block ?_
                refine WpC.loopL (P := Try.prog) (fun n σ => ∃ v943 : List Int, ∃ v944 : List Int, ∃ v945 : Int, ∃ v946 : Int, n ≤ K ∧ Fimpl_Concerns.l50 n v943 v944 v945 v946 = some r ∧ σ = mkSt [(5, MG.one (Cell.own 0)), (8, MG.one (Cell.own 1)), (68, MG.one (Cell.own 1)), (69, MG.one (cI v945)), (70, MG.one (cI v946))] [(0, ⟨1, List.map eI v943⟩), (1, ⟨1, List.map eI v944⟩)] [] 2) k7 ⟨_, ⟨v281, r338, (r338.length : Int), (0 : Int), by omega, H, rfl⟩, Le.mk [(0, 0), (1, 1)] hm rfl ⟨⟨_, rfl, rfl⟩, ⟨_, rfl, rfl⟩, ⟨_, rfl, rfl⟩, ⟨_, rfl, rfl⟩, ⟨_, rfl, rfl⟩, trivial⟩ ⟨⟨_, rfl, rfl⟩, ⟨_, rfl, rfl⟩, trivial⟩ trivial⟩ ?_
                clear H
                rintro k50 _ ⟨v943, v944, v945, v946, hk50, H, rfl⟩
                cases k50 with
                | zero => cases H
                | succ k50 =>
                  rw [Fimpl_Concerns.l50] at H
                  refine WpC.seq ?_
                  refine WpC.regionL ?_
                  refine L.bin hF rfl rfl rfl rfl rfl rfl ?_
                  refine L.nil ?_
                  refine WpC.seq ?_
                  refine WpC.cond rfl (fun hc => ?_) (fun hc => ?_)
                  · replace H := condT hc H
                    refine WpC.skip ?_
                    refine WpC.seq ?_
                    refine WpC.block ?_
                    refine WpC.seq ?_
                    refine WpC.regionL ?_
                    obtain ⟨b1008, hb1008, H⟩ := bindS H
                    refine L.idxR (xs := v944) (e := eI) Try.underlying24 info3 hF rfl rfl rfl rfl rfl hb1008 rfl rfl ?_
                    refine L.loadEp (xs := v944) (e := eI) shape3 hF rfl rfl rfl rfl (at?_get hb1008).2 rfl rfl ?_
                    refine L.assign hF rfl rfl rfl ?_
                    refine L.nil ?_
                    refine WpC.seq ?_
                    refine WpC.regionL ?_
                    refine L.move hF rfl rfl rfl ?_
                    refine L.move hF rfl rfl rfl ?_
                    obtain ⟨r1009, hr1009, H⟩ := bindS H
                    refine L.call [false] [] [] 2 hF rfl rfl rfl ent185 rfl rfl rfl rfl rfl (Fimpl_CentreKey_gives k50  b1008 r1009 hr1009) rfl ?_
                    refine L.buildSlice (e := eI) 3 ([r1009] : List Int) Try.underlying24 info3 rfl rfl rfl hF rfl rfl rfl rfl rfl rfl rfl rfl ?_
                    obtain ⟨h1010, H⟩ := condG H
                    refine L.append (xs := v943) (ys := ([r1009] : List Int)) (e := eI) 4 Try.underlying24 info3 rfl rfl hF rfl rfl rfl rfl rfl rfl rfl rfl (fun _ => rfl) (fun _ _ h1 h2 => by cases h1; cases h2; rfl) ⟨_, Try.underlying24⟩ (of_decide_eq_true h1010) rfl rfl ?_
                    refine L.assign hF rfl rfl rfl ?_
                    refine L.nil ?_
                    refine WpC.seq ?_
                    refine WpC.regionL ?_
                    refine L.move hF rfl rfl rfl ?_
                    refine L.lenR (xs := v944) (e := eI) Try.underlying24 hF rfl rfl rfl rfl ?_
                    refine L.move hF rfl rfl rfl ?_
                    refine L.nil ?_
                    refine WpC.block ?_
                    refine WpC.loopL (P := Try.prog) (fun n σ => ∃ v1049 : List Int, ∃ v1050 : List Int, ∃ v1051 : Int, ∃ v1052 : Int, ∃ v1053 : Int, ∃ v1054 : Int, ∃ v1055 : Int, n ≤ K ∧ Fimpl_Concerns.l57 (Fimpl_Concerns.l50 k50) n v1049 v1050 v1051 v1052 v1053 v1054 v1055 = some r ∧ σ = mkSt [(5, MG.one (Cell.own 0)), (8, MG.one (Cell.own 1)), (10, MG.one (cI v1051)), (68, MG.one (Cell.own 1)), (69, MG.one (cI v1052)), (70, MG.one (cI v1053)), (79, MG.one (Cell.own 1)), (80, MG.one (cI v1054)), (81, MG.one (cI v1055))] [(0, ⟨1, List.map eI v1049⟩), (1, ⟨1, List.map eI v1050⟩)] [] 2) k50 ⟨_, ⟨(v943 ++ ([r1009] : List Int)), v944, b1008, v945, v946, (v944.length : Int), (0 : Int), by omega, H, rfl⟩, Le.mk [(0, 4), (1, 1)] hm rfl ⟨⟨_, rfl, rfl⟩, ⟨_, rfl, rfl⟩, ⟨_, rfl, rfl⟩, ⟨_, rfl, rfl⟩, ⟨_, rfl, rfl⟩, ⟨_, rfl, rfl⟩, ⟨_, rfl, rfl⟩, ⟨_, rfl, rfl⟩, ⟨_, rfl, rfl⟩, trivial⟩ ⟨⟨_, rfl, rfl⟩, ⟨_, rfl, rfl⟩, trivial⟩ trivial⟩ ?_
                    clear H
                    rintro k57 _ ⟨v1049, v1050, v1051, v1052, v1053, v1054, v1055, hk57, H, rfl⟩
                    cases k57 with
                    | zero => cases H
                    | succ k57 =>
                      rw [Fimpl_Concerns.l57] at H
                      refine WpC.seq ?_
                      refine WpC.regionL ?_
                      refine L.bin hF rfl rfl rfl rfl rfl rfl ?_
                      refine L.nil ?_
                      refine WpC.seq ?_
                      refine WpC.cond rfl (fun hc => ?_) (fun hc => ?_)
                      · replace H := condT hc H
                        refine WpC.skip ?_
                        refine WpC.join (fun σ => ∃ kj58 : Nat, ∃ v1059 : List Int, ∃ v1060 : List Int, ∃ v1061 : Int, ∃ v1062 : Int, ∃ v1063 : Int, ∃ v1064 : Int, ∃ v1065 : Int, kj58 ≤ K ∧ Fimpl_Concerns.j58 (Fimpl_Concerns.l57 (Fimpl_Concerns.l50 k50) k57) kj58 v1059 v1060 v1061 v1062 v1063 v1064 v1065 = some r ∧ σ = mkSt [(5, MG.one (Cell.own 0)), (8, MG.one (Cell.own 1)), (10, MG.one (cI v1061)), (68, MG.one (Cell.own 1)), (69, MG.one (cI v1062)), (70, MG.one (cI v1063)), (79, MG.one (Cell.own 1)), (80, MG.one (cI v1064)), (81, MG.one (cI v1065))] [(0, ⟨1, List.map eI v1059⟩), (1, ⟨1, List.map eI v1060⟩)] [] 2) ?_ ?_
                        · rintro _ ⟨kj58, v1059, v1060, v1061, v1062, v1063, v1064, v1065, hkj58, H, rfl⟩
                          unfold Fimpl_Concerns.j58 at H
                          refine WpC.regionL ?_
                          refine L.bin hF rfl rfl rfl rfl rfl rfl ?_
                          refine L.move hF rfl rfl rfl ?_
                          refine L.nil ?_
                          exact ⟨k57, _, by omega, ⟨v1059, v1060, v1061, v1062, v1063, v1064, (IntKind.i64.wrap (v1065 + (1 : Int))), by omega, H, rfl⟩, Le.mk [(0, 0), (1, 1)] hm rfl ⟨⟨_, rfl, rfl⟩, ⟨_, rfl, rfl⟩, ⟨_, rfl, rfl⟩, ⟨_, rfl, rfl⟩, ⟨_, rfl, rfl⟩, ⟨_, rfl, rfl⟩, ⟨_, rfl, rfl⟩, ⟨_, rfl, rfl⟩, ⟨_, rfl, rfl⟩, trivial⟩ ⟨⟨_, rfl, rfl⟩, ⟨_, rfl, rfl⟩, trivial⟩ trivial⟩
                        · refine WpC.block ?_
                          refine WpC.seq ?_
                          refine WpC.regionL ?_
                          obtain ⟨b1066, hb1066, H⟩ := bindS H
                          refine L.idxR (xs := v1050) (e := eI) Try.underlying24 info3 hF rfl rfl rfl rfl rfl hb1066 rfl rfl ?_
                          refine L.loadEp (xs := v1050) (e := eI) shape3 hF rfl rfl rfl rfl (at?_get hb1066).2 rfl rfl ?_
                          refine L.assign hF rfl rfl rfl ?_
                          refine L.nil ?_
                          refine WpC.seq ?_
                          refine WpC.regionL ?_
                          refine L.move hF rfl rfl rfl ?_
                          refine L.move hF rfl rfl rfl ?_
                          refine L.bin hF rfl rfl rfl rfl rfl rfl ?_
                          refine L.nil ?_
                          refine WpC.cond rfl (fun hc => ?_) (fun hc => ?_)
                          · replace H := condT hc H
                            refine WpC.regionL ?_
                            refine L.move hF rfl rfl rfl ?_
                            refine L.move hF rfl rfl rfl ?_
                            refine L.move hF rfl rfl rfl ?_
                            obtain ⟨r1067, hr1067, H⟩ := bindS H
                            refine L.call [false, false] [] [] 2 hF rfl rfl rfl ent186 rfl rfl rfl rfl rfl (Fimpl_LinkKey_gives k57  v1051 b1066 r1067 hr1067) rfl ?_
                            refine L.buildSlice (e := eI) 3 ([r1067] : List Int) Try.underlying24 info3 rfl rfl rfl hF rfl rfl rfl rfl rfl rfl rfl rfl ?_
                            obtain ⟨h1068, H⟩ := condG H
                            refine L.append (xs := v1049) (ys := ([r1067] : List Int)) (e := eI) 4 Try.underlying24 info3 rfl rfl hF rfl rfl rfl rfl rfl rfl rfl rfl (fun _ => rfl) (fun _ _ h1 h2 => by cases h1; cases h2; rfl) ⟨_, Try.underlying24⟩ (of_decide_eq_true h1068) rfl rfl ?_
                            refine L.assign hF rfl rfl rfl ?_
                            refine L.nil ?_
                            exact ⟨_, ⟨k57, (v1049 ++ ([r1067] : List Int)), v1050, v1051, v1052, v1053, v1054, v1055, by omega, H, rfl⟩, Le.mk [(0, 4), (1, 1)] hm rfl ⟨⟨_, rfl, rfl⟩, ⟨_, rfl, rfl⟩, ⟨_, rfl, rfl⟩, ⟨_, rfl, rfl⟩, ⟨_, rfl, rfl⟩, ⟨_, rfl, rfl⟩, ⟨_, rfl, rfl⟩, ⟨_, rfl, rfl⟩, ⟨_, rfl, rfl⟩, trivial⟩ ⟨⟨_, rfl, rfl⟩, ⟨_, rfl, rfl⟩, trivial⟩ trivial⟩
                          · replace H := condF hc H
                            refine WpC.skip ?_
                            exact ⟨_, ⟨k57, v1049, v1050, v1051, v1052, v1053, v1054, v1055, by omega, H, rfl⟩, Le.mk [(0, 0), (1, 1)] hm rfl ⟨⟨_, rfl, rfl⟩, ⟨_, rfl, rfl⟩, ⟨_, rfl, rfl⟩, ⟨_, rfl, rfl⟩, ⟨_, rfl, rfl⟩, ⟨_, rfl, rfl⟩, ⟨_, rfl, rfl⟩, ⟨_, rfl, rfl⟩, ⟨_, rfl, rfl⟩, trivial⟩ ⟨⟨_, rfl, rfl⟩, ⟨_, rfl, rfl⟩, trivial⟩ trivial⟩
                      · replace H := condF hc H
                        refine WpC.exit ?_
                        refine WpC.regionL ?_
                        refine L.bin hF rfl rfl rfl rfl rfl rfl ?_
                        refine L.move hF rfl rfl rfl ?_
                        refine L.nil ?_
                        exact ⟨k50, _, by omega, ⟨v1049, v1050, v1052, (IntKind.i64.wrap (v1053 + (1 : Int))), by omega, H, rfl⟩, Le.mk [(0, 0), (1, 1)] hm rfl ⟨⟨_, rfl, rfl⟩, ⟨_, rfl, rfl⟩, ⟨_, rfl, rfl⟩, ⟨_, rfl, rfl⟩, ⟨_, rfl, rfl⟩, trivial⟩ ⟨⟨_, rfl, rfl⟩, ⟨_, rfl, rfl⟩, trivial⟩ trivial⟩
                  · replace H := condF hc H
                    refine WpC.exit ?_
                    refine WpC.seq ?_
                    refine WpC.regionL ?_
                    refine L.move hF rfl rfl rfl ?_
                    obtain ⟨r1069, hr1069, H⟩ := bindS H
                    refine L.call [true] [] [] 2 hF rfl rfl rfl ent187 rfl rfl rfl rfl rfl (Fimpl_risen_gives k50  v943 r1069 hr1069) rfl ?_
                    refine L.assign hF rfl rfl rfl ?_
                    refine L.nil ?_
                    refine WpC.ret ?_
                    cases H
                    exact Leaves.ret rfl rfl rfl ⟨rfl, rfl⟩
              have n7167 : W 4 #[true, true, true, true, true, true, true, true, true, true, false, true, true, false, false, false] (mkSt [(5, MG.one (Cell.own 0)), (56, MG.one (cI r335)), (62, MG.one (cI b336)), (65, MG.one (Cell.sl g4 (List.map eI v301)))] [(0, ⟨1, List.map eI v281⟩)] [] 1) := by
                refine hI _ _ _ ?_
                refine A.all [10] (by kernel_rfl) rfl ⟨⟨_, rfl, ?_⟩, trivial⟩
                refine L.buildSlice (e := eI) 1 ([r335, b336] : List Int) Try.underlying24 info3 rfl rfl rfl hF rfl rfl rfl rfl rfl rfl rfl rfl ?_
                exact L.nil (A.on (hO _ _ _ n8191) (Le.mk [(0, 0), (1, 1)] hm rfl (S3 rfl rfl rfl rfl rfl rfl) ⟨⟨_, rfl, rfl⟩, ⟨_, rfl, rfl⟩, trivial⟩ trivial))
              have n7159 : W 5 #[true, true, true, false, true, true, true, true, true, true, false, true, true, false, false, false] (mkSt [(5, MG.one (Cell.own 0)), (53, agg [Cell.sl g0 (List.map eI v285), Cell.sl g1 (List.map eI v286), Cell.sl g2 (List.map eTimpl_Pair v287), Cell.sl g3 (List.map eTimpl_Pair v288), cI v289]), (55, MG.one (cI v291)), (62, MG.one (cI b336)), (65, MG.one (Cell.sl g4 (List.map eI v301)))] [(0, ⟨1, List.map eI v281⟩)] [] 1) := by
                refine hI _ _ _ ?_
                refine A.all [3] (by kernel_rfl) rfl ⟨⟨_, rfl, ?_⟩, trivial⟩
                refine L.call [false, false] [] [] 1 hF rfl rfl rfl ent159 rfl rfl rfl rfl rfl (Fimpl_RealmOf_gives k7 g0 g1 g2 g3 (⟨v285, v286, v287, v288, v289⟩ : Timpl_Config) v291 r335 hr335) rfl ?_
                exact L.nil (A.on (hO _ _ _ n7167) (Le.mk [(0, 0)] hm rfl (S4 rfl rfl rfl rfl rfl rfl rfl rfl) ⟨⟨_, rfl, rfl⟩, trivial⟩ trivial))
              have n6655 : W 5 #[true, true, true, true, true, true, true, true, true, false, false, true, true, false, false, false] (mkSt [(5, MG.one (Cell.own 0)), (56, MG.one (cI r335)), (61, MG.one (Cell.pe g1 (eI b336) 0)), (65, MG.one (Cell.sl g4 (List.map eI v301)))] [(0, ⟨1, List.map eI v281⟩)] [] 1) := by
                refine hI _ _ _ ?_
                refine A.all [9] (by kernel_rfl) rfl ⟨⟨_, rfl, ?_⟩, trivial⟩
                refine L.loadPe shape3 hF rfl rfl rfl rfl rfl ?_
                exact L.nil (A.on (hO _ _ _ n7167) (Le.mk [(0, 0)] hm rfl (S4 rfl rfl rfl rfl rfl rfl rfl rfl) ⟨⟨_, rfl, rfl⟩, trivial⟩ trivial))
              have n3071 : W 5 #[true, true, true, true, true, true, true, true, true, true, false, true, false, false, false, false] (mkSt [(5, MG.one (Cell.own 0)), (56, MG.one (cI r335)), (62, MG.one (cI b336)), (64, MG.one (Cell.ptr 1 11))] [(0, ⟨1, List.map eI v281⟩)] [(1, [cI v290, cI v291, cI v292, cI v293, cI v294, cI v295, cI v296, cI v297, cI v298, cI v299, cI v300, Cell.sl g4 (List.map eI v301), Cell.sl g5 (List.map eI v282), cI v302, cS v303])] 2) := by
                refine hI _ _ _ ?_
                refine A.all [10, 12] (by kernel_rfl) rfl ⟨⟨_, rfl, ?_⟩, ⟨_, rfl, ?_⟩, trivial⟩
                · refine L.buildSlice (e := eI) 2 ([r335, b336] : List Int) Try.underlying24 info3 rfl rfl rfl hF rfl rfl rfl rfl rfl rfl rfl rfl ?_
                  refine L.nil ?_
                  refine A.all [12] (by kernel_rfl) rfl ⟨⟨_, rfl, ?_⟩, trivial⟩
                  refine L.loadPtr shape24 hF rfl rfl rfl rfl rfl rfl ?_
                  exact L.nil (A.on (hO _ _ _ n8191) (Le.mk [(0, 0), (1, 2)] hm rfl (S3 rfl rfl rfl rfl rfl rfl) ⟨⟨_, rfl, rfl⟩, ⟨_, rfl, rfl⟩, trivial⟩ trivial))
                · refine L.loadPtr shape24 hF rfl rfl rfl rfl rfl rfl ?_
                  exact L.nil (A.on (hO _ _ _ n7167) (Le.mk [(0, 0)] hm rfl (S4 rfl rfl rfl rfl rfl rfl rfl rfl) ⟨⟨_, rfl, rfl⟩, trivial⟩ trivial))
              have n6647 : W 6 #[true, true, true, false, true, true, true, true, true, false, false, true, true, false, false, false] (mkSt [(5, MG.one (Cell.own 0)), (53, agg [Cell.sl g0 (List.map eI v285), Cell.sl g1 (List.map eI v286), Cell.sl g2 (List.map eTimpl_Pair v287), Cell.sl g3 (List.map eTimpl_Pair v288), cI v289]), (55, MG.one (cI v291)), (61, MG.one (Cell.pe g1 (eI b336) 0)), (65, MG.one (Cell.sl g4 (List.map eI v301)))] [(0, ⟨1, List.map eI v281⟩)] [] 1) := by
                refine hI _ _ _ ?_
                refine A.all [3, 9] (by kernel_rfl) rfl ⟨⟨_, rfl, ?_⟩, ⟨_, rfl, ?_⟩, trivial⟩
                · refine L.call [false, false] [] [] 1 hF rfl rfl rfl ent159 rfl rfl rfl rfl rfl (Fimpl_RealmOf_gives k7 g0 g1 g2 g3 (⟨v285, v286, v287, v288, v289⟩ : Timpl_Config) v291 r335 hr335) rfl ?_
                  exact L.nil (A.on (hO _ _ _ n6655) (Le.mk [(0, 0)] hm rfl (S4 rfl rfl rfl rfl rfl rfl rfl rfl) ⟨⟨_, rfl, rfl⟩, trivial⟩ trivial))
                · refine L.loadPe shape3 hF rfl rfl rfl rfl rfl ?_
                  exact L.nil (A.on (hO _ _ _ n7159) (Le.mk [(0, 0)] hm rfl (S5 rfl rfl rfl rfl rfl rfl rfl rfl rfl rfl) ⟨⟨_, rfl, rfl⟩, trivial⟩ trivial))
              have n3063 : W 6 #[true, true, true, false, true, true, true, true, true, true, false, true, false, false, false, false] (mkSt [(5, MG.one (Cell.own 0)), (53, agg [Cell.sl g0 (List.map eI v285), Cell.sl g1 (List.map eI v286), Cell.sl g2 (List.map eTimpl_Pair v287), Cell.sl g3 (List.map eTimpl_Pair v288), cI v289]), (55, MG.one (cI v291)), (62, MG.one (cI b336)), (64, MG.one (Cell.ptr 1 11))] [(0, ⟨1, List.map eI v281⟩)] [(1, [cI v290, cI v291, cI v292, cI v293, cI v294, cI v295, cI v296, cI v297, cI v298, cI v299, cI v300, Cell.sl g4 (List.map eI v301), Cell.sl g5 (List.map eI v282), cI v302, cS v303])] 2) := by
                refine hI _ _ _ ?_
                refine A.all [3, 12] (by kernel_rfl) rfl ⟨⟨_, rfl, ?_⟩, ⟨_, rfl, ?_⟩, trivial⟩
                · refine L.call [false, false] [] [] 2 hF rfl rfl rfl ent159 rfl rfl rfl rfl rfl (Fimpl_RealmOf_gives k7 g0 g1 g2 g3 (⟨v285, v286, v287, v288, v289⟩ : Timpl_Config) v291 r335 hr335) rfl ?_
                  exact L.nil (A.on (hO _ _ _ n3071) (Le.mk [(0, 0), (1, 1)] hm rfl (S4 rfl rfl rfl rfl rfl rfl rfl rfl) ⟨⟨_, rfl, rfl⟩, trivial⟩ ⟨⟨_, _, rfl, rfl, rfl⟩, trivial⟩))
                · refine L.loadPtr shape24 hF rfl rfl rfl rfl rfl rfl ?_
                  exact L.nil (A.on (hO _ _ _ n7159) (Le.mk [(0, 0)] hm rfl (S5 rfl rfl rfl rfl rfl rfl rfl rfl rfl rfl) ⟨⟨_, rfl, rfl⟩, trivial⟩ trivial))
              have n6399 : W 6 #[true, true, true, true, true, true, true, true, false, false, false, true, true, false, false, false] (mkSt [(5, MG.one (Cell.own 0)), (56, MG.one (cI r335)), (58, MG.one (Cell.sl g1 (List.map eI v286))), (60, MG.one (cI v290)), (65, MG.one (Cell.sl g4 (List.map eI v301)))] [(0, ⟨1, List.map eI v281⟩)] [] 1) := by
                refine hI _ _ _ ?_
                refine A.take 8 rfl (by kernel_rfl) (by kernel_rfl) (by kernel_rfl) rfl (Ca.indexAddr) (fun Q0 k0 => L.idxR (xs := v286) (e := eI) Try.underlying24 info3 hF rfl rfl rfl rfl rfl hb336 rfl rfl (L.nil k0)) ?_
                exact A.on (hO _ _ _ n6655) (Le.mk [(0, 0)] hm rfl (S4 rfl rfl rfl rfl rfl rfl rfl rfl) ⟨⟨_, rfl, rfl⟩, trivial⟩ trivial)
              have n2559 : W 6 #[true, true, true, true, true, true, true, true, true, false, false, true, false, false, false, false] (mkSt [(5, MG.one (Cell.own 0)), (56, MG.one (cI r335)), (61, MG.one (Cell.pe g1 (eI b336) 0)), (64, MG.one (Cell.ptr 1 11))] [(0, ⟨1, List.map eI v281⟩)] [(1, [cI v290, cI v291, cI v292, cI v293, cI v294, cI v295, cI v296, cI v297, cI v298, cI v299, cI v300, Cell.sl g4 (List.map eI v301), Cell.sl g5 (List.map eI v282), cI v302, cS v303])] 2) := by
                refine hI _ _ _ ?_
                refine A.all [9, 12] (by kernel_rfl) rfl ⟨⟨_, rfl, ?_⟩, ⟨_, rfl, ?_⟩, trivial⟩
                · refine L.loadPe shape3 hF rfl rfl rfl rfl rfl ?_
                  exact L.nil (A.on (hO _ _ _ n3071) (Le.mk [(0, 0), (1, 1)] hm rfl (S4 rfl rfl rfl rfl rfl rfl rfl rfl) ⟨⟨_, rfl, rfl⟩, trivial⟩ ⟨⟨_, _, rfl, rfl, rfl⟩, trivial⟩))
                · refine L.loadPtr shape24 hF rfl rfl rfl rfl rfl rfl ?_
                  exact L.nil (A.on (hO _ _ _ n6655) (Le.mk [(0, 0)] hm rfl (S4 rfl rfl rfl rfl rfl rfl rfl rfl) ⟨⟨_, rfl, rfl⟩, trivial⟩ trivial))
              have n7155 : W 6 #[true, true, false, false, true, true, true, true, true, true, false, true, true, false, false, false] (mkSt [(5, MG.one (Cell.own 0)), (53, agg [Cell.sl g0 (List.map eI v285), Cell.sl g1 (List.map eI v286), Cell.sl g2 (List.map eTimpl_Pair v287), Cell.sl g3 (List.map eTimpl_Pair v288), cI v289]), (54, MG.one (Cell.ptr 1 1)), (62, MG.one (cI b336)), (65, MG.one (Cell.sl g4 (List.map eI v301)))] [(0, ⟨1, List.map eI v281⟩)] [(1, [cI v290, cI v291, cI v292, cI v293, cI v294, cI v295, cI v296, cI v297, cI v298, cI v299, cI v300, Cell.sl g4 (List.map eI v301), Cell.sl g5 (List.map eI v282), cI v302, cS v303])] 2) := by
                refine hI _ _ _ ?_
                refine A.all [2] (by kernel_rfl) rfl ⟨⟨_, rfl, ?_⟩, trivial⟩
                refine L.loadPtr shape3 hF rfl rfl rfl rfl rfl rfl ?_
                exact L.nil (A.on (hO _ _ _ n7159) (Le.mk [(0, 0)] hm rfl (S5 rfl rfl rfl rfl rfl rfl rfl rfl rfl rfl) ⟨⟨_, rfl, rfl⟩, trivial⟩ trivial))
              have n7158 : W 6 #[false, true, true, false, true, true, true, true, true, true, false, true, true, false, false, false] (mkSt [(2, MG.one (Cell.ptr 0 0)), (5, MG.one (Cell.own 1)), (55, MG.one (cI v291)), (62, MG.one (cI b336)), (65, MG.one (Cell.sl g4 (List.map eI v301)))] [(1, ⟨1, List.map eI v281⟩)] [(0, [Cell.sl g0 (List.map eI v285), Cell.sl g1 (List.map eI v286), Cell.sl g2 (List.map eTimpl_Pair v287), Cell.sl g3 (List.map eTimpl_Pair v288), cI v289])] 2) := by
                refine hI _ _ _ ?_
                refine A.all [0] (by kernel_rfl) rfl ⟨⟨_, rfl, ?_⟩, trivial⟩
                refine L.loadPtr shape90 hF rfl rfl rfl rfl rfl rfl ?_
                exact L.nil (A.on (hO _ _ _ n7159) (Le.mk [(0, 1)] hm rfl (S5 rfl rfl rfl rfl rfl rfl rfl rfl rfl rfl) ⟨⟨_, rfl, rfl⟩, trivial⟩ trivial))
              have n6391 : W 7 #[true, true, true, false, true, true, true, true, false, false, false, true, true, false, false, false] (mkSt [(5, MG.one (Cell.own 0)), (53, agg [Cell.sl g0 (List.map eI v285), Cell.sl g1 (List.map eI v286), Cell.sl g2 (List.map eTimpl_Pair v287), Cell.sl g3 (List.map eTimpl_Pair v288), cI v289]), (55, MG.one (cI v291)), (58, MG.one (Cell.sl g1 (List.map eI v286))), (60, MG.one (cI v290)), (65, MG.one (Cell.sl g4 (List.map eI v301)))] [(0, ⟨1, List.map eI v281⟩)] [] 1) := by
                refine hI _ _ _ ?_
                refine A.take 8 rfl (by kernel_rfl) (by kernel_rfl) (by kernel_rfl) rfl (Ca.indexAddr) (fun Q0 k0 => L.idxR (xs := v286) (e := eI) Try.underlying24 info3 hF rfl rfl rfl rfl rfl hb336 rfl rfl (L.nil k0)) ?_
                exact A.on (hO _ _ _ n6647) (Le.mk [(0, 0)] hm rfl (S5 rfl rfl rfl rfl rfl rfl rfl rfl rfl rfl) ⟨⟨_, rfl, rfl⟩, trivial⟩ trivial)
              have n3059 : W 7 #[true, true, false, false, true, true, true, true, true, true, false, true, false, false, false, false] (mkSt [(5, MG.one (Cell.own 0)), (53, agg [Cell.sl g0 (List.map eI v285), Cell.sl g1 (List.map eI v286), Cell.sl g2 (List.map eTimpl_Pair v287), Cell.sl g3 (List.map eTimpl_Pair v288), cI v289]), (54, MG.one (Cell.ptr 1 1)), (62, MG.one (cI b336)), (64, MG.one (Cell.ptr 1 11))] [(0, ⟨1, List.map eI v281⟩)] [(1, [cI v290, cI v291, cI v292, cI v293, cI v294, cI v295, cI v296, cI v297, cI v298, cI v299, cI v300, Cell.sl g4 (List.map eI v301), Cell.sl g5 (List.map eI v282), cI v302, cS v303])] 2) := by
                refine hI _ _ _ ?_
                refine A.all [2, 12] (by kernel_rfl) rfl ⟨⟨_, rfl, ?_⟩, ⟨_, rfl, ?_⟩, trivial⟩
                · refine L.loadPtr shape3 hF rfl rfl rfl rfl rfl rfl ?_
                  exact L.nil (A.on (hO _ _ _ n3063) (Le.mk [(0, 0), (1, 1)] hm rfl (S5 rfl rfl rfl rfl rfl rfl rfl rfl rfl rfl) ⟨⟨_, rfl, rfl⟩, trivial⟩ ⟨⟨_, _, rfl, rfl, rfl⟩, trivial⟩))
                · refine L.loadPtr shape24 hF rfl rfl rfl rfl rfl rfl ?_
                  exact L.nil (A.on (hO _ _ _ n7155) (Le.mk [(0, 0), (1, 1)] hm rfl (S5 rfl rfl rfl rfl rfl rfl rfl rfl rfl rfl) ⟨⟨_, rfl, rfl⟩, trivial⟩ ⟨⟨_, _, rfl, rfl, rfl⟩, trivial⟩))
              have n2551 : W 7 #[true, true, true, false, true, true, true, true, true, false, false, true, false, false, false, false] (mkSt [(5, MG.one (Cell.own 0)), (53, agg [Cell.sl g0 (List.map eI v285), Cell.sl g1 (List.map eI v286), Cell.sl g2 (List.map eTimpl_Pair v287), Cell.sl g3 (List.map eTimpl_Pair v288), cI v289]), (55, MG.one (cI v291)), (61, MG.one (Cell.pe g1 (eI b336) 0)), (64, MG.one (Cell.ptr 1 11))] [(0, ⟨1, List.map eI v281⟩)] [(1, [cI v290, cI v291, cI v292, cI v293, cI v294, cI v295, cI v296, cI v297, cI v298, cI v299, cI v300, Cell.sl g4 (List.map eI v301), Cell.sl g5 (List.map eI v282), cI v302, cS v303])] 2) := by
                refine hI _ _ _ ?_
                refine A.all [3, 9, 12] (by kernel_rfl) rfl ⟨⟨_, rfl, ?_⟩, ⟨_, rfl, ?_⟩, ⟨_, rfl, ?_⟩, trivial⟩
                · refine L.call [false, false] [] [] 2 hF rfl rfl rfl ent159 rfl rfl rfl rfl rfl (Fimpl_RealmOf_gives k7 g0 g1 g2 g3 (⟨v285, v286, v287, v288, v289⟩ : Timpl_Config) v291 r335 hr335) rfl ?_
                  exact L.nil (A.on (hO _ _ _ n2559) (Le.mk [(0, 0), (1, 1)] hm rfl (S4 rfl rfl rfl rfl rfl rfl rfl rfl) ⟨⟨_, rfl, rfl⟩, trivial⟩ ⟨⟨_, _, rfl, rfl, rfl⟩, trivial⟩))
                · refine L.loadPe shape3 hF rfl rfl rfl rfl rfl ?_
                  exact L.nil (A.on (hO _ _ _ n3063) (Le.mk [(0, 0), (1, 1)] hm rfl (S5 rfl rfl rfl rfl rfl rfl rfl rfl rfl rfl) ⟨⟨_, rfl, rfl⟩, trivial⟩ ⟨⟨_, _, rfl, rfl, rfl⟩, trivial⟩))
                · refine L.loadPtr shape24 hF rfl rfl rfl rfl rfl rfl ?_
                  exact L.nil (A.on (hO _ _ _ n6647) (Le.mk [(0, 0)] hm rfl (S5 rfl rfl rfl rfl rfl rfl rfl rfl rfl rfl) ⟨⟨_, rfl, rfl⟩, trivial⟩ trivial))
              have n3062 : W 7 #[false, true, true, false, true, true, true, true, true, true, false, true, false, false, false, false] (mkSt [(2, MG.one (Cell.ptr 0 0)), (5, MG.one (Cell.own 1)), (55, MG.one (cI v291)), (62, MG.one (cI b336)), (64, MG.one (Cell.ptr 2 11))] [(1, ⟨1, List.map eI v281⟩)] [(0, [Cell.sl g0 (List.map eI v285), Cell.sl g1 (List.map eI v286), Cell.sl g2 (List.map eTimpl_Pair v287), Cell.sl g3 (List.map eTimpl_Pair v288), cI v289]), (2, [cI v290, cI v291, cI v292, cI v293, cI v294, cI v295, cI v296, cI v297, cI v298, cI v299, cI v300, Cell.sl g4 (List.map eI v301), Cell.sl g5 (List.map eI v282), cI v302, cS v303])] 3) := by
                refine hI _ _ _ ?_
                refine A.all [0, 12] (by kernel_rfl) rfl ⟨⟨_, rfl, ?_⟩, ⟨_, rfl, ?_⟩, trivial⟩
                · refine L.loadPtr shape90 hF rfl rfl rfl rfl rfl rfl ?_
                  exact L.nil (A.on (hO _ _ _ n3063) (Le.mk [(0, 1), (1, 2)] hm rfl (S5 rfl rfl rfl rfl rfl rfl rfl rfl rfl rfl) ⟨⟨_, rfl, rfl⟩, trivial⟩ ⟨⟨_, _, rfl, rfl, rfl⟩, trivial⟩))
                · refine L.loadPtr shape24 hF rfl rfl rfl rfl rfl rfl ?_
                  exact L.nil (A.on (hO _ _ _ n7158) (Le.mk [(0, 0), (1, 1)] hm rfl (S5 rfl rfl rfl rfl rfl rfl rfl rfl rfl rfl) ⟨⟨_, rfl, rfl⟩, trivial⟩ ⟨⟨_, _, rfl, rfl, rfl⟩, trivial⟩))
              have n6271 : W 7 #[true, true, true, true, true, true, true, false, false, false, false, true, true, false, false, false] (mkSt [(5, MG.one (Cell.own 0)), (56, MG.one (cI r335)), (58, MG.one (Cell.sl g1 (List.map eI v286))), (59, MG.one (Cell.ptr 1 0)), (65, MG.one (Cell.sl g4 (List.map eI v301)))] [(0, ⟨1, List.map eI v281⟩)] [(1, [cI v290, cI v291, cI v292, cI v293, cI v294, cI v295, cI v296, cI v297, cI v298, cI v299, cI v300, Cell.sl g4 (List.map eI v301), Cell.sl g5 (List.map eI v282), cI v302, cS v303])] 2) := by
                refine hI _ _ _ ?_
                refine A.all [7] (by kernel_rfl) rfl ⟨⟨_, rfl, ?_⟩, trivial⟩
                refine L.loadPtr shape3 hF rfl rfl rfl rfl rfl rfl ?_
                exact L.nil (A.on (hO _ _ _ n6399) (Le.mk [(0, 0)] hm rfl (S5 rfl rfl rfl rfl rfl rfl rfl rfl rfl rfl) ⟨⟨_, rfl, rfl⟩, trivial⟩ trivial))
              have n2303 : W 7 #[true, true, true, true, true, true, true, true, false, false, false, true, false, false, false, false] (mkSt [(5, MG.one (Cell.own 0)), (56, MG.one (cI r335)), (58, MG.one (Cell.sl g1 (List.map eI v286))), (60, MG.one (cI v290)), (64, MG.one (Cell.ptr 1 11))] [(0, ⟨1, List.map eI v281⟩)] [(1, [cI v290, cI v291, cI v292, cI v293, cI v294, cI v295, cI v296, cI v297, cI v298, cI v299, cI v300, Cell.sl g4 (List.map eI v301), Cell.sl g5 (List.map eI v282), cI v302, cS v303])] 2) := by
                refine hI _ _ _ ?_
                refine A.take 8 rfl (by kernel_rfl) (by kernel_rfl) (by kernel_rfl) rfl (Ca.indexAddr) (fun Q0 k0 => L.idxR (xs := v286) (e := eI) Try.underlying24 info3 hF rfl rfl rfl rfl rfl hb336 rfl rfl (L.nil k0)) ?_
                exact A.on (hO _ _ _ n2559) (Le.mk [(0, 0), (1, 1)] hm rfl (S4 rfl rfl rfl rfl rfl rfl rfl rfl) ⟨⟨_, rfl, rfl⟩, trivial⟩ ⟨⟨_, _, rfl, rfl, rfl⟩, trivial⟩)
              have n6367 : W 7 #[true, true, true, true, true, false, true, true, false, false, false, true, true, false, false, false] (mkSt [(5, MG.one (Cell.own 0)), (56, MG.one (cI r335)), (57, MG.one (Cell.ptr 1 1)), (60, MG.one (cI v290)), (65, MG.one (Cell.sl g4 (List.map eI v301)))] [(0, ⟨1, List.map eI v281⟩)] [(1, [Cell.sl g0 (List.map eI v285), Cell.sl g1 (List.map eI v286), Cell.sl g2 (List.map eTimpl_Pair v287), Cell.sl g3 (List.map eTimpl_Pair v288), cI v289])] 2) := by
                refine hI _ _ _ ?_
                refine A.all [5] (by kernel_rfl) rfl ⟨⟨_, rfl, ?_⟩, trivial⟩
                refine L.loadPtr shape24 hF rfl rfl rfl rfl rfl rfl ?_
                exact L.nil (A.on (hO _ _ _ n6399) (Le.mk [(0, 0)] hm rfl (S5 rfl rfl rfl rfl rfl rfl rfl rfl rfl rfl) ⟨⟨_, rfl, rfl⟩, trivial⟩ trivial))
              have n6643 : W 7 #[true, true, false, false, true, true, true, true, true, false, false, true, true, false, false, false] (mkSt [(5, MG.one (Cell.own 0)), (53, agg [Cell.sl g0 (List.map eI v285), Cell.sl g1 (List.map eI v286), Cell.sl g2 (List.map eTimpl_Pair v287), Cell.sl g3 (List.map eTimpl_Pair v288), cI v289]), (54, MG.one (Cell.ptr 1 1)), (61, MG.one (Cell.pe g1 (eI b336) 0)), (65, MG.one (Cell.sl g4 (List.map eI v301)))] [(0, ⟨1, List.map eI v281⟩)] [(1, [cI v290, cI v291, cI v292, cI v293, cI v294, cI v295, cI v296, cI v297, cI v298, cI v299, cI v300, Cell.sl g4 (List.map eI v301), Cell.sl g5 (List.map eI v282), cI v302, cS v303])] 2) := by
                refine hI _ _ _ ?_
                refine A.all [2, 9] (by kernel_rfl) rfl ⟨⟨_, rfl, ?_⟩, ⟨_, rfl, ?_⟩, trivial⟩
                · refine L.loadPtr shape3 hF rfl rfl rfl rfl rfl rfl ?_
                  exact L.nil (A.on (hO _ _ _ n6647) (Le.mk [(0, 0)] hm rfl (S5 rfl rfl rfl rfl rfl rfl rfl rfl rfl rfl) ⟨⟨_, rfl, rfl⟩, trivial⟩ trivial))
                · refine L.loadPe shape3 hF rfl rfl rfl rfl rfl ?_
                  exact L.nil (A.on (hO _ _ _ n7155) (Le.mk [(0, 0), (1, 1)] hm rfl (S5 rfl rfl rfl rfl rfl rfl rfl rfl rfl rfl) ⟨⟨_, rfl, rfl⟩, trivial⟩ ⟨⟨_, _, rfl, rfl, rfl⟩, trivial⟩))
              have n6646 : W 7 #[false, true, true, false, true, true, true, true, true, false, false, true, true, false, false, false] (mkSt [(2, MG.one (Cell.ptr 0 0)), (5, MG.one (Cell.own 1)), (55, MG.one (cI v291)), (61, MG.one (Cell.pe g1 (eI b336) 0)), (65, MG.one (Cell.sl g4 (List.map eI v301)))] [(1, ⟨1, List.map eI v281⟩)] [(0, [Cell.sl g0 (List.map eI v285), Cell.sl g1 (List.map eI v286), Cell.sl g2 (List.map eTimpl_Pair v287), Cell.sl g3 (List.map eTimpl_Pair v288), cI v289])] 2) := by
                refine hI _ _ _ ?_
                refine A.all [0, 9] (by kernel_rfl) rfl ⟨⟨_, rfl, ?_⟩, ⟨_, rfl, ?_⟩, trivial⟩
                · refine L.loadPtr shape90 hF rfl rfl rfl rfl rfl rfl ?_
                  exact L.nil (A.on (hO _ _ _ n6647) (Le.mk [(0, 1)] hm rfl (S5 rfl rfl rfl rfl rfl rfl rfl rfl rfl rfl) ⟨⟨_, rfl, rfl⟩, trivial⟩ trivial))
                · refine L.loadPe shape3 hF rfl rfl rfl rfl rfl ?_
                  exact L.nil (A.on (hO _ _ _ n7158) (Le.mk [(0, 0), (1, 1)] hm rfl (S5 rfl rfl rfl rfl rfl rfl rfl rfl rfl rfl) ⟨⟨_, rfl, rfl⟩, trivial⟩ ⟨⟨_, _, rfl, rfl, rfl⟩, trivial⟩))
              have n7154 : W 7 #[false, true, false, false, true, true, true, true, true, true, false, true, true, false, false, false] (mkSt [(2, MG.one (Cell.ptr 0 0)), (5, MG.one (Cell.own 1)), (54, MG.one (Cell.ptr 2 1)), (62, MG.one (cI b336)), (65, MG.one (Cell.sl g4 (List.map eI v301)))] [(1, ⟨1, List.map eI v281⟩)] [(0, [Cell.sl g0 (List.map eI v285), Cell.sl g1 (List.map eI v286), Cell.sl g2 (List.map eTimpl_Pair v287), Cell.sl g3 (List.map eTimpl_Pair v288), cI v289]), (2, [cI v290, cI v291, cI v292, cI v293, cI v294, cI v295, cI v296, cI v297, cI v298, cI v299, cI v300, Cell.sl g4 (List.map eI v301), Cell.sl g5 (List.map eI v282), cI v302, cS v303])] 3) := by
                refine hI _ _ _ ?_
                refine A.all [0, 2] (by kernel_rfl) rfl ⟨⟨_, rfl, ?_⟩, ⟨_, rfl, ?_⟩, trivial⟩
                · refine L.loadPtr shape90 hF rfl rfl rfl rfl rfl rfl ?_
                  exact L.nil (A.on (hO _ _ _ n7155) (Le.mk [(0, 1), (1, 2)] hm rfl (S5 rfl rfl rfl rfl rfl rfl rfl rfl rfl rfl) ⟨⟨_, rfl, rfl⟩, trivial⟩ ⟨⟨_, _, rfl, rfl, rfl⟩, trivial⟩))
                · refine L.loadPtr shape3 hF rfl rfl rfl rfl rfl rfl ?_
                  exact L.nil (A.on (hO _ _ _ n7158) (Le.mk [(0, 0), (1, 1)] hm rfl (S5 rfl rfl rfl rfl rfl rfl rfl rfl rfl rfl) ⟨⟨_, rfl, rfl⟩, trivial⟩ ⟨⟨_, _, rfl, rfl, rfl⟩, trivial⟩))
              have n6387 : W 8 #[true, true, false, false, true, true, true, true, false, false, false, true, true, false, false, false] (mkSt [(5, MG.one (Cell.own 0)), (53, agg [Cell.sl g0 (List.map eI v285), Cell.sl g1 (List.map eI v286), Cell.sl g2 (List.map eTimpl_Pair v287), Cell.sl g3 (List.map eTimpl_Pair v288), cI v289]), (54, MG.one (Cell.ptr 1 1)), (58, MG.one (Cell.sl g1 (List.map eI v286))), (60, MG.one (cI v290)), (65, MG.one (Cell.sl g4 (List.map eI v301)))] [(0, ⟨1, List.map eI v281⟩)] [(1, [cI v290, cI v291, cI v292, cI v293, cI v294, cI v295, cI v296, cI v297, cI v298, cI v299, cI v300, Cell.sl g4 (List.map eI v301), Cell.sl g5 (List.map eI v282), cI v302, cS v303])] 2) := by
                refine hI _ _ _ ?_
                refine A.take 8 rfl (by kernel_rfl) (by kernel_rfl) (by kernel_rfl) rfl (Ca.indexAddr) (fun Q0 k0 => L.idxR (xs := v286) (e := eI) Try.underlying24 info3 hF rfl rfl rfl rfl rfl hb336 rfl rfl (L.nil k0)) ?_
                exact A.on (hO _ _ _ n6643) (Le.mk [(0, 0), (1, 1)] hm rfl (S5 rfl rfl rfl rfl rfl rfl rfl rfl rfl rfl) ⟨⟨_, rfl, rfl⟩, trivial⟩ ⟨⟨_, _, rfl, rfl, rfl⟩, trivial⟩)
              have n2547 : W 8 #[true, true, false, false, true, true, true, true, true, false, false, true, false, false, false, false] (mkSt [(5, MG.one (Cell.own 0)), (53, agg [Cell.sl g0 (List.map eI v285), Cell.sl g1 (List.map eI v286), Cell.sl g2 (List.map eTimpl_Pair v287), Cell.sl g3 (List.map eTimpl_Pair v288), cI v289]), (54, MG.one (Cell.ptr 1 1)), (61, MG.one (Cell.pe g1 (eI b336) 0)), (64, MG.one (Cell.ptr 1 11))] [(0, ⟨1, List.map eI v281⟩)] [(1, [cI v290, cI v291, cI v292, cI v293, cI v294, cI v295, cI v296, cI v297, cI v298, cI v299, cI v300, Cell.sl g4 (List.map eI v301), Cell.sl g5 (List.map eI v282), cI v302, cS v303])] 2) := by
                refine hI _ _ _ ?_
                refine A.all [2, 9, 12] (by kernel_rfl) rfl ⟨⟨_, rfl, ?_⟩, ⟨_, rfl, ?_⟩, ⟨_, rfl, ?_⟩, trivial⟩
                · refine L.loadPtr shape3 hF rfl rfl rfl rfl rfl rfl ?_
                  exact L.nil (A.on (hO _ _ _ n2551) (Le.mk [(0, 0), (1, 1)] hm rfl (S5 rfl rfl rfl rfl rfl rfl rfl rfl rfl rfl) ⟨⟨_, rfl, rfl⟩, trivial⟩ ⟨⟨_, _, rfl, rfl, rfl⟩, trivial⟩))
                · refine L.loadPe shape3 hF rfl rfl rfl rfl rfl ?_
                  exact L.nil (A.on (hO _ _ _ n3059) (Le.mk [(0, 0), (1, 1)] hm rfl (S5 rfl rfl rfl rfl rfl rfl rfl rfl rfl rfl) ⟨⟨_, rfl, rfl⟩, trivial⟩ ⟨⟨_, _, rfl, rfl, rfl⟩, trivial⟩))
                · refine L.loadPtr shape24 hF rfl rfl rfl rfl rfl rfl ?_
                  exact L.nil (A.on (hO _ _ _ n6643) (Le.mk [(0, 0), (1, 1)] hm rfl (S5 rfl rfl rfl rfl rfl rfl rfl rfl rfl rfl) ⟨⟨_, rfl, rfl⟩, trivial⟩ ⟨⟨_, _, rfl, rfl, rfl⟩, trivial⟩))
              have n6263 : W 8 #[true, true, true, false, true, true, true, false, false, false, false, true, true, false, false, false] (mkSt [(5, MG.one (Cell.own 0)), (53, agg [Cell.sl g0 (List.map eI v285), Cell.sl g1 (List.map eI v286), Cell.sl g2 (List.map eTimpl_Pair v287), Cell.sl g3 (List.map eTimpl_Pair v288), cI v289]), (55, MG.one (cI v291)), (58, MG.one (Cell.sl g1 (List.map eI v286))), (59, MG.one (Cell.ptr 1 0)), (65, MG.one (Cell.sl g4 (List.map eI v301)))] [(0, ⟨1, List.map eI v281⟩)] [(1, [cI v290, cI v291, cI v292, cI v293, cI v294, cI v295, cI v296, cI v297, cI v298, cI v299, cI v300, Cell.sl g4 (List.map eI v301), Cell.sl g5 (List.map eI v282), cI v302, cS v303])] 2) := by
                refine hI _ _ _ ?_
                refine A.all [3, 7] (by kernel_rfl) rfl ⟨⟨_, rfl, ?_⟩, ⟨_, rfl, ?_⟩, trivial⟩
                · refine L.call [false, false] [] [] 2 hF rfl rfl rfl ent159 rfl rfl rfl rfl rfl (Fimpl_RealmOf_gives k7 g0 g1 g2 g3 (⟨v285, v286, v287, v288, v289⟩ : Timpl_Config) v291 r335 hr335) rfl ?_
                  exact L.nil (A.on (hO _ _ _ n6271) (Le.mk [(0, 0), (1, 1)] hm rfl (S5 rfl rfl rfl rfl rfl rfl rfl rfl rfl rfl) ⟨⟨_, rfl, rfl⟩, trivial⟩ ⟨⟨_, _, rfl, rfl, rfl⟩, trivial⟩))
                · refine L.loadPtr shape3 hF rfl rfl rfl rfl rfl rfl ?_
                  exact L.nil (A.on (hO _ _ _ n6391) (Le.mk [(0, 0)] hm rfl (S6 rfl rfl rfl rfl rfl rfl rfl rfl rfl rfl rfl rfl) ⟨⟨_, rfl, rfl⟩, trivial⟩ trivial))
              have n2295 : W 8 #[true, true, true, false, true, true, true, true, false, false, false, true, false, false, false, false] (mkSt [(5, MG.one (Cell.own 0)), (53, agg [Cell.sl g0 (List.map eI v285), Cell.sl g1 (List.map eI v286), Cell.sl g2 (List.map eTimpl_Pair v287), Cell.sl g3 (List.map eTimpl_Pair v288), cI v289]), (55, MG.one (cI v291)), (58, MG.one (Cell.sl g1 (List.map eI v286))), (60, MG.one (cI v290)), (64, MG.one (Cell.ptr 1 11))] [(0, ⟨1, List.map eI v281⟩)] [(1, [cI v290, cI v291, cI v292, cI v293, cI v294, cI v295, cI v296, cI v297, cI v298, cI v299, cI v300, Cell.sl g4 (List.map eI v301), Cell.sl g5 (List.map eI v282), cI v302, cS v303])] 2) := by
                refine hI _ _ _ ?_
                refine A.take 8 rfl (by kernel_rfl) (by kernel_rfl) (by kernel_rfl) rfl (Ca.indexAddr) (fun Q0 k0 => L.idxR (xs := v286) (e := eI) Try.underlying24 info3 hF rfl rfl rfl rfl rfl hb336 rfl rfl (L.nil k0)) ?_
                exact A.on (hO _ _ _ n2551) (Le.mk [(0, 0), (1, 1)] hm rfl (S5 rfl rfl rfl rfl rfl rfl rfl rfl rfl rfl) ⟨⟨_, rfl, rfl⟩, trivial⟩ ⟨⟨_, _, rfl, rfl, rfl⟩, trivial⟩)
              have n2550 : W 8 #[false, true, true, false, true, true, true, true, true, false, false, true, false, false, false, false] (mkSt [(2, MG.one (Cell.ptr 0 0)), (5, MG.one (Cell.own 1)), (55, MG.one (cI v291)), (61, MG.one (Cell.pe g1 (eI b336) 0)), (64, MG.one (Cell.ptr 2 11))] [(1, ⟨1, List.map eI v281⟩)] [(0, [Cell.sl g0 (List.map eI v285), Cell.sl g1 (List.map eI v286), Cell.sl g2 (List.map eTimpl_Pair v287), Cell.sl g3 (List.map eTimpl_Pair v288), cI v289]), (2, [cI v290, cI v291, cI v292, cI v293, cI v294, cI v295, cI v296, cI v297, cI v298, cI v299, cI v300, Cell.sl g4 (List.map eI v301), Cell.sl g5 (List.map eI v282), cI v302, cS v303])] 3) := by
                refine hI _ _ _ ?_
                refine A.all [0, 9, 12] (by kernel_rfl) rfl ⟨⟨_, rfl, ?_⟩, ⟨_, rfl, ?_⟩, ⟨_, rfl, ?_⟩, trivial⟩
                · refine L.loadPtr shape90 hF rfl rfl rfl rfl rfl rfl ?_
                  exact L.nil (A.on (hO _ _ _ n2551) (Le.mk [(0, 1), (1, 2)] hm rfl (S5 rfl rfl rfl rfl rfl rfl rfl rfl rfl rfl) ⟨⟨_, rfl, rfl⟩, trivial⟩ ⟨⟨_, _, rfl, rfl, rfl⟩, trivial⟩))
                · refine L.loadPe shape3 hF rfl rfl rfl rfl rfl ?_
                  exact L.nil (A.on (hO _ _ _ n3062) (Le.mk [(0, 0), (1, 1), (2, 2)] hm rfl (S5 rfl rfl rfl rfl rfl rfl rfl rfl rfl rfl) ⟨⟨_, rfl, rfl⟩, trivial⟩ (B2 rfl rfl rfl rfl rfl rfl)))
                · refine L.loadPtr shape24 hF rfl rfl rfl rfl rfl rfl ?_
                  exact L.nil (A.on (hO _ _ _ n6646) (Le.mk [(0, 0), (1, 1)] hm rfl (S5 rfl rfl rfl rfl rfl rfl rfl rfl rfl rfl) ⟨⟨_, rfl, rfl⟩, trivial⟩ ⟨⟨_, _, rfl, rfl, rfl⟩, trivial⟩))
              have n2175 : W 8 #[true, true, true, true, true, true, true, false, false, false, false, true, false, false, false, false] (mkSt [(5, MG.one (Cell.own 0)), (56, MG.one (cI r335)), (58, MG.one (Cell.sl g1 (List.map eI v286))), (59, MG.one (Cell.ptr 1 0)), (64, MG.one (Cell.ptr 1 11))] [(0, ⟨1, List.map eI v281⟩)] [(1, [cI v290, cI v291, cI v292, cI v293, cI v294, cI v295, cI v296, cI v297, cI v298, cI v299, cI v300, Cell.sl g4 (List.map eI v301), Cell.sl g5 (List.map eI v282), cI v302, cS v303])] 2) := by
                refine hI _ _ _ ?_
                refine A.all [7, 12] (by kernel_rfl) rfl ⟨⟨_, rfl, ?_⟩, ⟨_, rfl, ?_⟩, trivial⟩
                · refine L.loadPtr shape3 hF rfl rfl rfl rfl rfl rfl ?_
                  exact L.nil (A.on (hO _ _ _ n2303) (Le.mk [(0, 0), (1, 1)] hm rfl (S5 rfl rfl rfl rfl rfl rfl rfl rfl rfl rfl) ⟨⟨_, rfl, rfl⟩, trivial⟩ ⟨⟨_, _, rfl, rfl, rfl⟩, trivial⟩))
                · refine L.loadPtr shape24 hF rfl rfl rfl rfl rfl rfl ?_
                  exact L.nil (A.on (hO _ _ _ n6271) (Le.mk [(0, 0), (1, 1)] hm rfl (S5 rfl rfl rfl rfl rfl rfl rfl rfl rfl rfl) ⟨⟨_, rfl, rfl⟩, trivial⟩ ⟨⟨_, _, rfl, rfl, rfl⟩, trivial⟩))
              have n6359 : W 8 #[true, true, true, false, true, false, true, true, false, false, false, true, true, false, false, false] (mkSt [(5, MG.one (Cell.own 0)), (53, agg [Cell.sl g0 (List.map eI v285), Cell.sl g1 (List.map eI v286), Cell.sl g2 (List.map eTimpl_Pair v287), Cell.sl g3 (List.map eTimpl_Pair v288), cI v289]), (55, MG.one (cI v291)), (57, MG.one (Cell.ptr 1 1)), (60, MG.one (cI v290)), (65, MG.one (Cell.sl g4 (List.map eI v301)))] [(0, ⟨1, List.map eI v281⟩)] [(1, [Cell.sl g0 (List.map eI v285), Cell.sl g1 (List.map eI v286), Cell.sl g2 (List.map eTimpl_Pair v287), Cell.sl g3 (List.map eTimpl_Pair v288), cI v289])] 2) := by
                refine hI _ _ _ ?_
                refine A.all [3, 5] (by kernel_rfl) rfl ⟨⟨_, rfl, ?_⟩, ⟨_, rfl, ?_⟩, trivial⟩
                · refine L.call [false, false] [] [] 2 hF rfl rfl rfl ent159 rfl rfl rfl rfl rfl (Fimpl_RealmOf_gives k7 g0 g1 g2 g3 (⟨v285, v286, v287, v288, v289⟩ : Timpl_Config) v291 r335 hr335) rfl ?_
                  exact L.nil (A.on (hO _ _ _ n6367) (Le.mk [(0, 0), (1, 1)] hm rfl (S5 rfl rfl rfl rfl rfl rfl rfl rfl rfl rfl) ⟨⟨_, rfl, rfl⟩, trivial⟩ ⟨⟨_, _, rfl, rfl, rfl⟩, trivial⟩))
                · refine L.loadPtr shape24 hF rfl rfl rfl rfl rfl rfl ?_
                  exact L.nil (A.on (hO _ _ _ n6391) (Le.mk [(0, 0)] hm rfl (S6 rfl rfl rfl rfl rfl rfl rfl rfl rfl rfl rfl rfl) ⟨⟨_, rfl, rfl⟩, trivial⟩ trivial))
              have n6239 : W 8 #[true, true, true, true, true, false, true, false, false, false, false, true, true, false, false, false] (mkSt [(5, MG.one (Cell.own 0)), (56, MG.one (cI r335)), (57, MG.one (Cell.ptr 1 1)), (59, MG.one (Cell.ptr 2 0)), (65, MG.one (Cell.sl g4 (List.map eI v301)))] [(0, ⟨1, List.map eI v281⟩)] [(1, [Cell.sl g0 (List.map eI v285), Cell.sl g1 (List.map eI v286), Cell.sl g2 (List.map eTimpl_Pair v287), Cell.sl g3 (List.map eTimpl_Pair v288), cI v289]), (2, [cI v290, cI v291, cI v292, cI v293, cI v294, cI v295, cI v296, cI v297, cI v298, cI v299, cI v300, Cell.sl g4 (List.map eI v301), Cell.sl g5 (List.map eI v282), cI v302, cS v303])] 3) := by
                refine hI _ _ _ ?_
                refine A.all [5, 7] (by kernel_rfl) rfl ⟨⟨_, rfl, ?_⟩, ⟨_, rfl, ?_⟩, trivial⟩
                · refine L.loadPtr shape24 hF rfl rfl rfl rfl rfl rfl ?_
                  exact L.nil (A.on (hO _ _ _ n6271) (Le.mk [(0, 0), (1, 2)] hm rfl (S5 rfl rfl rfl rfl rfl rfl rfl rfl rfl rfl) ⟨⟨_, rfl, rfl⟩, trivial⟩ ⟨⟨_, _, rfl, rfl, rfl⟩, trivial⟩))
                · refine L.loadPtr shape3 hF rfl rfl rfl rfl rfl rfl ?_
                  exact L.nil (A.on (hO _ _ _ n6367) (Le.mk [(0, 0), (1, 1)] hm rfl (S5 rfl rfl rfl rfl rfl rfl rfl rfl rfl rfl) ⟨⟨_, rfl, rfl⟩, trivial⟩ ⟨⟨_, _, rfl, rfl, rfl⟩, trivial⟩))
              have n2271 : W 8 #[true, true, true, true, true, false, true, true, false, false, false, true, false, false, false, false] (mkSt [(5, MG.one (Cell.own 0)), (56, MG.one (cI r335)), (57, MG.one (Cell.ptr 1 1)), (60, MG.one (cI v290)), (64, MG.one (Cell.ptr 2 11))] [(0, ⟨1, List.map eI v281⟩)] [(1, [Cell.sl g0 (List.map eI v285), Cell.sl g1 (List.map eI v286), Cell.sl g2 (List.map eTimpl_Pair v287), Cell.sl g3 (List.map eTimpl_Pair v288), cI v289]), (2, [cI v290, cI v291, cI v292, cI v293, cI v294, cI v295, cI v296, cI v297, cI v298, cI v299, cI v300, Cell.sl g4 (List.map eI v301), Cell.sl g5 (List.map eI v282), cI v302, cS v303])] 3) := by
                refine hI _ _ _ ?_
                refine A.all [5, 12] (by kernel_rfl) rfl ⟨⟨_, rfl, ?_⟩, ⟨_, rfl, ?_⟩, trivial⟩
                · refine L.loadPtr shape24 hF rfl rfl rfl rfl rfl rfl ?_
                  exact L.nil (A.on (hO _ _ _ n2303) (Le.mk [(0, 0), (1, 2)] hm rfl (S5 rfl rfl rfl rfl rfl rfl rfl rfl rfl rfl) ⟨⟨_, rfl, rfl⟩, trivial⟩ ⟨⟨_, _, rfl, rfl, rfl⟩, trivial⟩))
                · refine L.loadPtr shape24 hF rfl rfl rfl rfl rfl rfl ?_
                  exact L.nil (A.on (hO _ _ _ n6367) (Le.mk [(0, 0), (1, 1)] hm rfl (S5 rfl rfl rfl rfl rfl rfl rfl rfl rfl rfl) ⟨⟨_, rfl, rfl⟩, trivial⟩ ⟨⟨_, _, rfl, rfl, rfl⟩, trivial⟩))
              have n6642 : W 8 #[false, true, false, false, true, true, true, true, true, false, false, true, true, false, false, false] (mkSt [(2, MG.one (Cell.ptr 0 0)), (5, MG.one (Cell.own 1)), (54, MG.one (Cell.ptr 2 1)), (61, MG.one (Cell.pe g1 (eI b336) 0)), (65, MG.one (Cell.sl g4 (List.map eI v301)))] [(1, ⟨1, List.map eI v281⟩)] [(0, [Cell.sl g0 (List.map eI v285), Cell.sl g1 (List.map eI v286), Cell.sl g2 (List.map eTimpl_Pair v287), Cell.sl g3 (List.map eTimpl_Pair v288), cI v289]), (2, [cI v290, cI v291, cI v292, cI v293, cI v294, cI v295, cI v296, cI v297, cI v298, cI v299, cI v300, Cell.sl g4 (List.map eI v301), Cell.sl g5 (List.map eI v282), cI v302, cS v303])] 3) := by
                refine hI _ _ _ ?_
                refine A.all [0, 2, 9] (by kernel_rfl) rfl ⟨⟨_, rfl, ?_⟩, ⟨_, rfl, ?_⟩, ⟨_, rfl, ?_⟩, trivial⟩
                · refine L.loadPtr shape90 hF rfl rfl rfl rfl rfl rfl ?_
                  exact L.nil (A.on (hO _ _ _ n6643) (Le.mk [(0, 1), (1, 2)] hm rfl (S5 rfl rfl rfl rfl rfl rfl rfl rfl rfl rfl) ⟨⟨_, rfl, rfl⟩, trivial⟩ ⟨⟨_, _, rfl, rfl, rfl⟩, trivial⟩))
                · refine L.loadPtr shape3 hF rfl rfl rfl rfl rfl rfl ?_
                  exact L.nil (A.on (hO _ _ _ n6646) (Le.mk [(0, 0), (1, 1)] hm rfl (S5 rfl rfl rfl rfl rfl rfl rfl rfl rfl rfl) ⟨⟨_, rfl, rfl⟩, trivial⟩ ⟨⟨_, _, rfl, rfl, rfl⟩, trivial⟩))
                · refine L.loadPe shape3 hF rfl rfl rfl rfl rfl ?_
                  exact L.nil (A.on (hO _ _ _ n7154) (Le.mk [(0, 0), (1, 1), (2, 2)] hm rfl (S5 rfl rfl rfl rfl rfl rfl rfl rfl rfl rfl) ⟨⟨_, rfl, rfl⟩, trivial⟩ (B2 rfl rfl rfl rfl rfl rfl)))
              have n6390 : W 8 #[false, true, true, false, true, true, true, true, false, false, false, true, true, false, false, false] (mkSt [(2, MG.one (Cell.ptr 0 0)), (5, MG.one (Cell.own 1)), (55, MG.one (cI v291)), (58, MG.one (Cell.sl g1 (List.map eI v286))), (60, MG.one (cI v290)), (65, MG.one (Cell.sl g4 (List.map eI v301)))] [(1, ⟨1, List.map eI v281⟩)] [(0, [Cell.sl g0 (List.map eI v285), Cell.sl g1 (List.map eI v286), Cell.sl g2 (List.map eTimpl_Pair v287), Cell.sl g3 (List.map eTimpl_Pair v288), cI v289])] 2) := by
                refine hI _ _ _ ?_
                refine A.take 8 rfl (by kernel_rfl) (by kernel_rfl) (by kernel_rfl) rfl (Ca.indexAddr) (fun Q0 k0 => L.idxR (xs := v286) (e := eI) Try.underlying24 info3 hF rfl rfl rfl rfl rfl hb336 rfl rfl (L.nil k0)) ?_
                exact A.on (hO _ _ _ n6646) (Le.mk [(0, 0), (1, 1)] hm rfl (S5 rfl rfl rfl rfl rfl rfl rfl rfl rfl rfl) ⟨⟨_, rfl, rfl⟩, trivial⟩ ⟨⟨_, _, rfl, rfl, rfl⟩, trivial⟩)
              have n6259 : W 9 #[true, true, false, false, true, true, true, false, false, false, false, true, true, false, false, false] (mkSt [(5, MG.one (Cell.own 0)), (53, agg [Cell.sl g0 (List.map eI v285), Cell.sl g1 (List.map eI v286), Cell.sl g2 (List.map eTimpl_Pair v287), Cell.sl g3 (List.map eTimpl_Pair v288), cI v289]), (54, MG.one (Cell.ptr 1 1)), (58, MG.one (Cell.sl g1 (List.map eI v286))), (59, MG.one (Cell.ptr 1 0)), (65, MG.one (Cell.sl g4 (List.map eI v301)))] [(0, ⟨1, List.map eI v281⟩)] [(1, [cI v290, cI v291, cI v292, cI v293, cI v294, cI v295, cI v296, cI v297, cI v298, cI v299, cI v300, Cell.sl g4 (List.map eI v301), Cell.sl g5 (List.map eI v282), cI v302, cS v303])] 2) := by
                refine hI _ _ _ ?_
                refine A.all [2, 7] (by kernel_rfl) rfl ⟨⟨_, rfl, ?_⟩, ⟨_, rfl, ?_⟩, trivial⟩
                · refine L.loadPtr shape3 hF rfl rfl rfl rfl rfl rfl ?_
                  exact L.nil (A.on (hO _ _ _ n6263) (Le.mk [(0, 0), (1, 1)] hm rfl (S6 rfl rfl rfl rfl rfl rfl rfl rfl rfl rfl rfl rfl) ⟨⟨_, rfl, rfl⟩, trivial⟩ ⟨⟨_, _, rfl, rfl, rfl⟩, trivial⟩))
                · refine L.loadPtr shape3 hF rfl rfl rfl rfl rfl rfl ?_
                  exact L.nil (A.on (hO _ _ _ n6387) (Le.mk [(0, 0), (1, 1)] hm rfl (S6 rfl rfl rfl rfl rfl rfl rfl rfl rfl rfl rfl rfl) ⟨⟨_, rfl, rfl⟩, trivial⟩ ⟨⟨_, _, rfl, rfl, rfl⟩, trivial⟩))
              have n2291 : W 9 #[true, true, false, false, true, true, true, true, false, false, false, true, false, false, false, false] (mkSt [(5, MG.one (Cell.own 0)), (53, agg [Cell.sl g0 (List.map eI v285), Cell.sl g1 (List.map eI v286), Cell.sl g2 (List.map eTimpl_Pair v287), Cell.sl g3 (List.map eTimpl_Pair v288), cI v289]), (54, MG.one (Cell.ptr 1 1)), (58, MG.one (Cell.sl g1 (List.map eI v286))), (60, MG.one (cI v290)), (64, MG.one (Cell.ptr 1 11))] [(0, ⟨1, List.map eI v281⟩)] [(1, [cI v290, cI v291, cI v292, cI v293, cI v294, cI v295, cI v296, cI v297, cI v298, cI v299, cI v300, Cell.sl g4 (List.map eI v301), Cell.sl g5 (List.map eI v282), cI v302, cS v303])] 2) := by
                refine hI _ _ _ ?_
                refine A.take 8 rfl (by kernel_rfl) (by kernel_rfl) (by kernel_rfl) rfl (Ca.indexAddr) (fun Q0 k0 => L.idxR (xs := v286) (e := eI) Try.underlying24 info3 hF rfl rfl rfl rfl rfl hb336 rfl rfl (L.nil k0)) ?_
                exact A.on (hO _ _ _ n2547) (Le.mk [(0, 0), (1, 1)] hm rfl (S5 rfl rfl rfl rfl rfl rfl rfl rfl rfl rfl) ⟨⟨_, rfl, rfl⟩, trivial⟩ ⟨⟨_, _, rfl, rfl, rfl⟩, trivial⟩)
              have n2294 : W 9 #[false, true, true, false, true, true, true, true, false, false, false, true, false, false, false, false] (mkSt [(2, MG.one (Cell.ptr 0 0)), (5, MG.one (Cell.own 1)), (55, MG.one (cI v291)), (58, MG.one (Cell.sl g1 (List.map eI v286))), (60, MG.one (cI v290)), (64, MG.one (Cell.ptr 2 11))] [(1, ⟨1, List.map eI v281⟩)] [(0, [Cell.sl g0 (List.map eI v285), Cell.sl g1 (List.map eI v286), Cell.sl g2 (List.map eTimpl_Pair v287), Cell.sl g3 (List.map eTimpl_Pair v288), cI v289]), (2, [cI v290, cI v291, cI v292, cI v293, cI v294, cI v295, cI v296, cI v297, cI v298, cI v299, cI v300, Cell.sl g4 (List.map eI v301), Cell.sl g5 (List.map eI v282), cI v302, cS v303])] 3) := by
                refine hI _ _ _ ?_
                refine A.take 8 rfl (by kernel_rfl) (by kernel_rfl) (by kernel_rfl) rfl (Ca.indexAddr) (fun Q0 k0 => L.idxR (xs := v286) (e := eI) Try.underlying24 info3 hF rfl rfl rfl rfl rfl hb336 rfl rfl (L.nil k0)) ?_
                exact A.on (hO _ _ _ n2550) (Le.mk [(0, 0), (1, 1), (2, 2)] hm rfl (S5 rfl rfl rfl rfl rfl rfl rfl rfl rfl rfl) ⟨⟨_, rfl, rfl⟩, trivial⟩ (B2 rfl rfl rfl rfl rfl rfl))
              have n2167 : W 9 #[true, true, true, false, true, true, true, false, false, false, false, true, false, false, false, false] (mkSt [(5, MG.one (Cell.own 0)), (53, agg [Cell.sl g0 (List.map eI v285), Cell.sl g1 (List.map eI v286), Cell.sl g2 (List.map eTimpl_Pair v287), Cell.sl g3 (List.map eTimpl_Pair v288), cI v289]), (55, MG.one (cI v291)), (58, MG.one (Cell.sl g1 (List.map eI v286))), (59, MG.one (Cell.ptr 1 0)), (64, MG.one (Cell.ptr 1 11))] [(0, ⟨1, List.map eI v281⟩)] [(1, [cI v290, cI v291, cI v292, cI v293, cI v294, cI v295, cI v296, cI v297, cI v298, cI v299, cI v300, Cell.sl g4 (List.map eI v301), Cell.sl g5 (List.map eI v282), cI v302, cS v303])] 2) := by
                refine hI _ _ _ ?_
                refine A.all [3, 7, 12] (by kernel_rfl) rfl ⟨⟨_, rfl, ?_⟩, ⟨_, rfl, ?_⟩, ⟨_, rfl, ?_⟩, trivial⟩
                · refine L.call [false, false] [] [] 2 hF rfl rfl rfl ent159 rfl rfl rfl rfl rfl (Fimpl_RealmOf_gives k7 g0 g1 g2 g3 (⟨v285, v286, v287, v288, v289⟩ : Timpl_Config) v291 r335 hr335) rfl ?_
                  exact L.nil (A.on (hO _ _ _ n2175) (Le.mk [(0, 0), (1, 1)] hm rfl (S5 rfl rfl rfl rfl rfl rfl rfl rfl rfl rfl) ⟨⟨_, rfl, rfl⟩, trivial⟩ ⟨⟨_, _, rfl, rfl, rfl⟩, trivial⟩))
                · refine L.loadPtr shape3 hF rfl rfl rfl rfl rfl rfl ?_
                  exact L.nil (A.on (hO _ _ _ n2295) (Le.mk [(0, 0), (1, 1)] hm rfl (S6 rfl rfl rfl rfl rfl rfl rfl rfl rfl rfl rfl rfl) ⟨⟨_, rfl, rfl⟩, trivial⟩ ⟨⟨_, _, rfl, rfl, rfl⟩, trivial⟩))
                · refine L.loadPtr shape24 hF rfl rfl rfl rfl rfl rfl ?_
                  exact L.nil (A.on (hO _ _ _ n6263) (Le.mk [(0, 0), (1, 1)] hm rfl (S6 rfl rfl rfl rfl rfl rfl rfl rfl rfl rfl rfl rfl) ⟨⟨_, rfl, rfl⟩, trivial⟩ ⟨⟨_, _, rfl, rfl, rfl⟩, trivial⟩))
              have n6355 : W 9 #[true, true, false, false, true, false, true, true, false, false, false, true, true, false, false, false] (mkSt [(5, MG.one (Cell.own 0)), (53, agg [Cell.sl g0 (List.map eI v285), Cell.sl g1 (List.map eI v286), Cell.sl g2 (List.map eTimpl_Pair v287), Cell.sl g3 (List.map eTimpl_Pair v288), cI v289]), (54, MG.one (Cell.ptr 1 1)), (57, MG.one (Cell.ptr 2 1)), (60, MG.one (cI v290)), (65, MG.one (Cell.sl g4 (List.map eI v301)))] [(0, ⟨1, List.map eI v281⟩)] [(1, [cI v290, cI v291, cI v292, cI v293, cI v294, cI v295, cI v296, cI v297, cI v298, cI v299, cI v300, Cell.sl g4 (List.map eI v301), Cell.sl g5 (List.map eI v282), cI v302, cS v303]), (2, [Cell.sl g0 (List.map eI v285), Cell.sl g1 (List.map eI v286), Cell.sl g2 (List.map eTimpl_Pair v287), Cell.sl g3 (List.map eTimpl_Pair v288), cI v289])] 3) := by
                refine hI _ _ _ ?_
                refine A.all [2, 5] (by kernel_rfl) rfl ⟨⟨_, rfl, ?_⟩, ⟨_, rfl, ?_⟩, trivial⟩
                · refine L.loadPtr shape3 hF rfl rfl rfl rfl rfl rfl ?_
                  exact L.nil (A.on (hO _ _ _ n6359) (Le.mk [(0, 0), (1, 2)] hm rfl (S6 rfl rfl rfl rfl rfl rfl rfl rfl rfl rfl rfl rfl) ⟨⟨_, rfl, rfl⟩, trivial⟩ ⟨⟨_, _, rfl, rfl, rfl⟩, trivial⟩))
                · refine L.loadPtr shape24 hF rfl rfl rfl rfl rfl rfl ?_
                  exact L.nil (A.on (hO _ _ _ n6387) (Le.mk [(0, 0), (1, 1)] hm rfl (S6 rfl rfl rfl rfl rfl rfl rfl rfl rfl rfl rfl rfl) ⟨⟨_, rfl, rfl⟩, trivial⟩ ⟨⟨_, _, rfl, rfl, rfl⟩, trivial⟩))
              have n6358 : W 9 #[false, true, true, false, true, false, true, true, false, false, false, true, true, false, false, false] (mkSt [(2, MG.one (Cell.ptr 0 0)), (5, MG.one (Cell.own 1)), (55, MG.one (cI v291)), (57, MG.one (Cell.ptr 0 1)), (60, MG.one (cI v290)), (65, MG.one (Cell.sl g4 (List.map eI v301)))] [(1, ⟨1, List.map eI v281⟩)] [(0, [Cell.sl g0 (List.map eI v285), Cell.sl g1 (List.map eI v286), Cell.sl g2 (List.map eTimpl_Pair v287), Cell.sl g3 (List.map eTimpl_Pair v288), cI v289])] 2) := by
                refine hI _ _ _ ?_
                refine A.all [0, 5] (by kernel_rfl) rfl ⟨⟨_, rfl, ?_⟩, ⟨_, rfl, ?_⟩, trivial⟩
                · refine L.loadPtr shape90 hF rfl rfl rfl rfl rfl rfl ?_
                  exact L.nil (A.on (hO _ _ _ n6359) (Le.mk [(0, 1), (1, 0)] hm rfl (S6 rfl rfl rfl rfl rfl rfl rfl rfl rfl rfl rfl rfl) ⟨⟨_, rfl, rfl⟩, trivial⟩ ⟨⟨_, _, rfl, rfl, rfl⟩, trivial⟩))
                · refine L.loadPtr shape24 hF rfl rfl rfl rfl rfl rfl ?_
                  exact L.nil (A.on (hO _ _ _ n6390) (Le.mk [(0, 0), (1, 1)] hm rfl (S6 rfl rfl rfl rfl rfl rfl rfl rfl rfl rfl rfl rfl) ⟨⟨_, rfl, rfl⟩, trivial⟩ ⟨⟨_, _, rfl, rfl, rfl⟩, trivial⟩))
              have n6231 : W 9 #[true, true, true, false, true, false, true, false, false, false, false, true, true, false, false, false] (mkSt [(5, MG.one (Cell.own 0)), (53, agg [Cell.sl g0 (List.map eI v285), Cell.sl g1 (List.map eI v286), Cell.sl g2 (List.map eTimpl_Pair v287), Cell.sl g3 (List.map eTimpl_Pair v288), cI v289]), (55, MG.one (cI v291)), (57, MG.one (Cell.ptr 1 1)), (59, MG.one (Cell.ptr 2 0)), (65, MG.one (Cell.sl g4 (List.map eI v301)))] [(0, ⟨1, List.map eI v281⟩)] [(1, [Cell.sl g0 (List.map eI v285), Cell.sl g1 (List.map eI v286), Cell.sl g2 (List.map eTimpl_Pair v287), Cell.sl g3 (List.map eTimpl_Pair v288), cI v289]), (2, [cI v290, cI v291, cI v292, cI v293, cI v294, cI v295, cI v296, cI v297, cI v298, cI v299, cI v300, Cell.sl g4 (List.map eI v301), Cell.sl g5 (List.map eI v282), cI v302, cS v303])] 3) := by
                refine hI _ _ _ ?_
                refine A.all [3, 5, 7] (by kernel_rfl) rfl ⟨⟨_, rfl, ?_⟩, ⟨_, rfl, ?_⟩, ⟨_, rfl, ?_⟩, trivial⟩
                · refine L.call [false, false] [] [] 3 hF rfl rfl rfl ent159 rfl rfl rfl rfl rfl (Fimpl_RealmOf_gives k7 g0 g1 g2 g3 (⟨v285, v286, v287, v288, v289⟩ : Timpl_Config) v291 r335 hr335) rfl ?_
                  exact L.nil (A.on (hO _ _ _ n6239) (Le.mk [(0, 0), (1, 1), (2, 2)] hm rfl (S5 rfl rfl rfl rfl rfl rfl rfl rfl rfl rfl) ⟨⟨_, rfl, rfl⟩, trivial⟩ (B2 rfl rfl rfl rfl rfl rfl)))
                · refine L.loadPtr shape24 hF rfl rfl rfl rfl rfl rfl ?_
                  exact L.nil (A.on (hO _ _ _ n6263) (Le.mk [(0, 0), (1, 2)] hm rfl (S6 rfl rfl rfl rfl rfl rfl rfl rfl rfl rfl rfl rfl) ⟨⟨_, rfl, rfl⟩, trivial⟩ ⟨⟨_, _, rfl, rfl, rfl⟩, trivial⟩))
                · refine L.loadPtr shape3 hF rfl rfl rfl rfl rfl rfl ?_
                  exact L.nil (A.on (hO _ _ _ n6359) (Le.mk [(0, 0), (1, 1)] hm rfl (S6 rfl rfl rfl rfl rfl rfl rfl rfl rfl rfl rfl rfl) ⟨⟨_, rfl, rfl⟩, trivial⟩ ⟨⟨_, _, rfl, rfl, rfl⟩, trivial⟩))
              have n2263 : W 9 #[true, true, true, false, true, false, true, true, false, false, false, true, false, false, false, false] (mkSt [(5, MG.one (Cell.own 0)), (53, agg [Cell.sl g0 (List.map eI v285), Cell.sl g1 (List.map eI v286), Cell.sl g2 (List.map eTimpl_Pair v287), Cell.sl g3 (List.map eTimpl_Pair v288), cI v289]), (55, MG.one (cI v291)), (57, MG.one (Cell.ptr 1 1)), (60, MG.one (cI v290)), (64, MG.one (Cell.ptr 2 11))] [(0, ⟨1, List.map eI v281⟩)] [(1, [Cell.sl g0 (List.map eI v285), Cell.sl g1 (List.map eI v286), Cell.sl g2 (List.map eTimpl_Pair v287), Cell.sl g3 (List.map eTimpl_Pair v288), cI v289]), (2, [cI v290, cI v291, cI v292, cI v293, cI v294, cI v295, cI v296, cI v297, cI v298, cI v299, cI v300, Cell.sl g4 (List.map eI v301), Cell.sl g5 (List.map eI v282), cI v302, cS v303])] 3) := by
                refine hI _ _ _ ?_
                refine A.all [3, 5, 12] (by kernel_rfl) rfl ⟨⟨_, rfl, ?_⟩, ⟨_, rfl, ?_⟩, ⟨_, rfl, ?_⟩, trivial⟩
                · refine L.call [false, false] [] [] 3 hF rfl rfl rfl ent159 rfl rfl rfl rfl rfl (Fimpl_RealmOf_gives k7 g0 g1 g2 g3 (⟨v285, v286, v287, v288, v289⟩ : Timpl_Config) v291 r335 hr335) rfl ?_
                  exact L.nil (A.on (hO _ _ _ n2271) (Le.mk [(0, 0), (1, 1), (2, 2)] hm rfl (S5 rfl rfl rfl rfl rfl rfl rfl rfl rfl rfl) ⟨⟨_, rfl, rfl⟩, trivial⟩ (B2 rfl rfl rfl rfl rfl rfl)))
                · refine L.loadPtr shape24 hF rfl rfl rfl rfl rfl rfl ?_
                  exact L.nil (A.on (hO _ _ _ n2295) (Le.mk [(0, 0), (1, 2)] hm rfl (S6 rfl rfl rfl rfl rfl rfl rfl rfl rfl rfl rfl rfl) ⟨⟨_, rfl, rfl⟩, trivial⟩ ⟨⟨_, _, rfl, rfl, rfl⟩, trivial⟩))
                · refine L.loadPtr shape24 hF rfl rfl rfl rfl rfl rfl ?_
                  exact L.nil (A.on (hO _ _ _ n6359) (Le.mk [(0, 0), (1, 1)] hm rfl (S6 rfl rfl rfl rfl rfl rfl rfl rfl rfl rfl rfl rfl) ⟨⟨_, rfl, rfl⟩, trivial⟩ ⟨⟨_, _, rfl, rfl, rfl⟩, trivial⟩))
              have n6386 : W 9 #[false, true, false, false, true, true, true, true, false, false, false, true, true, false, false, false] (mkSt [(2, MG.one (Cell.ptr 0 0)), (5, MG.one (Cell.own 1)), (54, MG.one (Cell.ptr 2 1)), (58, MG.one (Cell.sl g1 (List.map eI v286))), (60, MG.one (cI v290)), (65, MG.one (Cell.sl g4 (List.map eI v301)))] [(1, ⟨1, List.map eI v281⟩)] [(0, [Cell.sl g0 (List.map eI v285), Cell.sl g1 (List.map eI v286), Cell.sl g2 (List.map eTimpl_Pair v287), Cell.sl g3 (List.map eTimpl_Pair v288), cI v289]), (2, [cI v290, cI v291, cI v292, cI v293, cI v294, cI v295, cI v296, cI v297, cI v298, cI v299, cI v300, Cell.sl g4 (List.map eI v301), Cell.sl g5 (List.map eI v282), cI v302, cS v303])] 3) := by
                refine hI _ _ _ ?_
                refine A.take 8 rfl (by kernel_rfl) (by kernel_rfl) (by kernel_rfl) rfl (Ca.indexAddr) (fun Q0 k0 => L.idxR (xs := v286) (e := eI) Try.underlying24 info3 hF rfl rfl rfl rfl rfl hb336 rfl rfl (L.nil k0)) ?_
                exact A.on (hO _ _ _ n6642) (Le.mk [(0, 0), (1, 1), (2, 2)] hm rfl (S5 rfl rfl rfl rfl rfl rfl rfl rfl rfl rfl) ⟨⟨_, rfl, rfl⟩, trivial⟩ (B2 rfl rfl rfl rfl rfl rfl))
              have n6262 : W 9 #[false, true, true, false, true, true, true, false, false, false, false, true, true, false, false, false] (mkSt [(2, MG.one (Cell.ptr 0 0)), (5, MG.one (Cell.own 1)), (55, MG.one (cI v291)), (58, MG.one (Cell.sl g1 (List.map eI v286))), (59, MG.one (Cell.ptr 2 0)), (65, MG.one (Cell.sl g4 (List.map eI v301)))] [(1, ⟨1, List.map eI v281⟩)] [(0, [Cell.sl g0 (List.map eI v285), Cell.sl g1 (List.map eI v286), Cell.sl g2 (List.map eTimpl_Pair v287), Cell.sl g3 (List.map eTimpl_Pair v288), cI v289]), (2, [cI v290, cI v291, cI v292, cI v293, cI v294, cI v295, cI v296, cI v297, cI v298, cI v299, cI v300, Cell.sl g4 (List.map eI v301), Cell.sl g5 (List.map eI v282), cI v302, cS v303])] 3) := by
                refine hI _ _ _ ?_
                refine A.all [0, 7] (by kernel_rfl) rfl ⟨⟨_, rfl, ?_⟩, ⟨_, rfl, ?_⟩, trivial⟩
                · refine L.loadPtr shape90 hF rfl rfl rfl rfl rfl rfl ?_
                  exact L.nil (A.on (hO _ _ _ n6263) (Le.mk [(0, 1), (1, 2)] hm rfl (S6 rfl rfl rfl rfl rfl rfl rfl rfl rfl rfl rfl rfl) ⟨⟨_, rfl, rfl⟩, trivial⟩ ⟨⟨_, _, rfl, rfl, rfl⟩, trivial⟩))
                · refine L.loadPtr shape3 hF rfl rfl rfl rfl rfl rfl ?_
                  exact L.nil (A.on (hO _ _ _ n6390) (Le.mk [(0, 0), (1, 1)] hm rfl (S6 rfl rfl rfl rfl rfl rfl rfl rfl rfl rfl rfl rfl) ⟨⟨_, rfl, rfl⟩, trivial⟩ ⟨⟨_, _, rfl, rfl, rfl⟩, trivial⟩))
              have n2290 : W 10 #[false, true, false, false, true, true, true, true, false, false, false, true, false, false, false, false] (mkSt [(2, MG.one (Cell.ptr 0 0)), (5, MG.one (Cell.own 1)), (54, MG.one (Cell.ptr 2 1)), (58, MG.one (Cell.sl g1 (List.map eI v286))), (60, MG.one (cI v290)), (64, MG.one (Cell.ptr 2 11))] [(1, ⟨1, List.map eI v281⟩)] [(0, [Cell.sl g0 (List.map eI v285), Cell.sl g1 (List.map eI v286), Cell.sl g2 (List.map eTimpl_Pair v287), Cell.sl g3 (List.map eTimpl_Pair v288), cI v289]), (2, [cI v290, cI v291, cI v292, cI v293, cI v294, cI v295, cI v296, cI v297, cI v298, cI v299, cI v300, Cell.sl g4 (List.map eI v301), Cell.sl g5 (List.map eI v282), cI v302, cS v303])] 3) := by
                refine hI _ _ _ ?_
                refine A.take 8 rfl (by kernel_rfl) (by kernel_rfl) (by kernel_rfl) rfl (Ca.indexAddr) (fun Q0 k0 => L.idxR (xs := v286) (e := eI) Try.underlying24 info3 hF rfl rfl rfl rfl rfl hb336 rfl rfl (L.nil k0)) ?_
                refine A.all [0, 2, 9, 12] (by kernel_rfl) rfl ⟨⟨_, rfl, ?_⟩, ⟨_, rfl, ?_⟩, ⟨_, rfl, ?_⟩, ⟨_, rfl, ?_⟩, trivial⟩
                · refine L.loadPtr shape90 hF rfl rfl rfl rfl rfl rfl ?_
                  exact L.nil (A.on (hO _ _ _ n2547) (Le.mk [(0, 1), (1, 2)] hm rfl (S5 rfl rfl rfl rfl rfl rfl rfl rfl rfl rfl) ⟨⟨_, rfl, rfl⟩, trivial⟩ ⟨⟨_, _, rfl, rfl, rfl⟩, trivial⟩))
                · refine L.loadPtr shape3 hF rfl rfl rfl rfl rfl rfl ?_
                  exact L.nil (A.on (hO _ _ _ n2550) (Le.mk [(0, 0), (1, 1), (2, 2)] hm rfl (S5 rfl rfl rfl rfl rfl rfl rfl rfl rfl rfl) ⟨⟨_, rfl, rfl⟩, trivial⟩ (B2 rfl rfl rfl rfl rfl rfl)))
                · refine L.loadPe shape3 hF rfl rfl rfl rfl rfl ?_
                  refine L.nil ?_
                  refine A.all [0, 2, 12] (by kernel_rfl) rfl ⟨⟨_, rfl, ?_⟩, ⟨_, rfl, ?_⟩, ⟨_, rfl, ?_⟩, trivial⟩
                  · refine L.loadPtr shape90 hF rfl rfl rfl rfl rfl rfl ?_
                    exact L.nil (A.on (hO _ _ _ n3059) (Le.mk [(0, 1), (1, 2)] hm rfl (S5 rfl rfl rfl rfl rfl rfl rfl rfl rfl rfl) ⟨⟨_, rfl, rfl⟩, trivial⟩ ⟨⟨_, _, rfl, rfl, rfl⟩, trivial⟩))
                  · refine L.loadPtr shape3 hF rfl rfl rfl rfl rfl rfl ?_
                    exact L.nil (A.on (hO _ _ _ n3062) (Le.mk [(0, 0), (1, 1), (2, 2)] hm rfl (S5 rfl rfl rfl rfl rfl rfl rfl rfl rfl rfl) ⟨⟨_, rfl, rfl⟩, trivial⟩ (B2 rfl rfl rfl rfl rfl rfl)))
                  · refine L.loadPtr shape24 hF rfl rfl rfl rfl rfl rfl ?_
                    exact L.nil (A.on (hO _ _ _ n7154) (Le.mk [(0, 0), (1, 1), (2, 2)] hm rfl (S5 rfl rfl rfl rfl rfl rfl rfl rfl rfl rfl) ⟨⟨_, rfl, rfl⟩, trivial⟩ (B2 rfl rfl rfl rfl rfl rfl)))
                · refine L.loadPtr shape24 hF rfl rfl rfl rfl rfl rfl ?_
                  exact L.nil (A.on (hO _ _ _ n6642) (Le.mk [(0, 0), (1, 1), (2, 2)] hm rfl (S5 rfl rfl rfl rfl rfl rfl rfl rfl rfl rfl) ⟨⟨_, rfl, rfl⟩, trivial⟩ (B2 rfl rfl rfl rfl rfl rfl)))
              have n2163 : W 10 #[true, true, false, false, true, true, true, false, false, false, false, true, false, false, false, false] (mkSt [(5, MG.one (Cell.own 0)), (53, agg [Cell.sl g0 (List.map eI v285), Cell.sl g1 (List.map eI v286), Cell.sl g2 (List.map eTimpl_Pair v287), Cell.sl g3 (List.map eTimpl_Pair v288), cI v289]), (54, MG.one (Cell.ptr 1 1)), (58, MG.one (Cell.sl g1 (List.map eI v286))), (59, MG.one (Cell.ptr 1 0)), (64, MG.one (Cell.ptr 1 11))] [(0, ⟨1, List.map eI v281⟩)] [(1, [cI v290, cI v291, cI v292, cI v293, cI v294, cI v295, cI v296, cI v297, cI v298, cI v299, cI v300, Cell.sl g4 (List.map eI v301), Cell.sl g5 (List.map eI v282), cI v302, cS v303])] 2) := by
                refine hI _ _ _ ?_
                refine A.all [2, 7, 12] (by kernel_rfl) rfl ⟨⟨_, rfl, ?_⟩, ⟨_, rfl, ?_⟩, ⟨_, rfl, ?_⟩, trivial⟩
                · refine L.loadPtr shape3 hF rfl rfl rfl rfl rfl rfl ?_
                  exact L.nil (A.on (hO _ _ _ n2167) (Le.mk [(0, 0), (1, 1)] hm rfl (S6 rfl rfl rfl rfl rfl rfl rfl rfl rfl rfl rfl rfl) ⟨⟨_, rfl, rfl⟩, trivial⟩ ⟨⟨_, _, rfl, rfl, rfl⟩, trivial⟩))
                · refine L.loadPtr shape3 hF rfl rfl rfl rfl rfl rfl ?_
                  exact L.nil (A.on (hO _ _ _ n2291) (Le.mk [(0, 0), (1, 1)] hm rfl (S6 rfl rfl rfl rfl rfl rfl rfl rfl rfl rfl rfl rfl) ⟨⟨_, rfl, rfl⟩, trivial⟩ ⟨⟨_, _, rfl, rfl, rfl⟩, trivial⟩))
                · refine L.loadPtr shape24 hF rfl rfl rfl rfl rfl rfl ?_
                  exact L.nil (A.on (hO _ _ _ n6259) (Le.mk [(0, 0), (1, 1)] hm rfl (S6 rfl rfl rfl rfl rfl rfl rfl rfl rfl rfl rfl rfl) ⟨⟨_, rfl, rfl⟩, trivial⟩ ⟨⟨_, _, rfl, rfl, rfl⟩, trivial⟩))
              have n2166 : W 10 #[false, true, true, false, true, true, true, false, false, false, false, true, false, false, false, false] (mkSt [(2, MG.one (Cell.ptr 0 0)), (5, MG.one (Cell.own 1)), (55, MG.one (cI v291)), (58, MG.one (Cell.sl g1 (List.map eI v286))), (59, MG.one (Cell.ptr 2 0)), (64, MG.one (Cell.ptr 2 11))] [(1, ⟨1, List.map eI v281⟩)] [(0, [Cell.sl g0 (List.map eI v285), Cell.sl g1 (List.map eI v286), Cell.sl g2 (List.map eTimpl_Pair v287), Cell.sl g3 (List.map eTimpl_Pair v288), cI v289]), (2, [cI v290, cI v291, cI v292, cI v293, cI v294, cI v295, cI v296, cI v297, cI v298, cI v299, cI v300, Cell.sl g4 (List.map eI v301), Cell.sl g5 (List.map eI v282), cI v302, cS v303])] 3) := by
                refine hI _ _ _ ?_
                refine A.all [0, 7, 12] (by kernel_rfl) rfl ⟨⟨_, rfl, ?_⟩, ⟨_, rfl, ?_⟩, ⟨_, rfl, ?_⟩, trivial⟩
                · refine L.loadPtr shape90 hF rfl rfl rfl rfl rfl rfl ?_
                  exact L.nil (A.on (hO _ _ _ n2167) (Le.mk [(0, 1), (1, 2)] hm rfl (S6 rfl rfl rfl rfl rfl rfl rfl rfl rfl rfl rfl rfl) ⟨⟨_, rfl, rfl⟩, trivial⟩ ⟨⟨_, _, rfl, rfl, rfl⟩, trivial⟩))
                · refine L.loadPtr shape3 hF rfl rfl rfl rfl rfl rfl ?_
                  exact L.nil (A.on (hO _ _ _ n2294) (Le.mk [(0, 0), (1, 1), (2, 2)] hm rfl (S6 rfl rfl rfl rfl rfl rfl rfl rfl rfl rfl rfl rfl) ⟨⟨_, rfl, rfl⟩, trivial⟩ (B2 rfl rfl rfl rfl rfl rfl)))
                · refine L.loadPtr shape24 hF rfl rfl rfl rfl rfl rfl ?_
                  exact L.nil (A.on (hO _ _ _ n6262) (Le.mk [(0, 0), (1, 1), (2, 2)] hm rfl (S6 rfl rfl rfl rfl rfl rfl rfl rfl rfl rfl rfl rfl) ⟨⟨_, rfl, rfl⟩, trivial⟩ (B2 rfl rfl rfl rfl rfl rfl)))
              have n2135 : W 10 #[true, true, true, false, true, false, true, false, false, false, false, true, false, false, false, false] (mkSt [(5, MG.one (Cell.own 0)), (53, agg [Cell.sl g0 (List.map eI v285), Cell.sl g1 (List.map eI v286), Cell.sl g2 (List.map eTimpl_Pair v287), Cell.sl g3 (List.map eTimpl_Pair v288), cI v289]), (55, MG.one (cI v291)), (57, MG.one (Cell.ptr 1 1)), (59, MG.one (Cell.ptr 2 0)), (64, MG.one (Cell.ptr 2 11))] [(0, ⟨1, List.map eI v281⟩)] [(1, [Cell.sl g0 (List.map eI v285), Cell.sl g1 (List.map eI v286), Cell.sl g2 (List.map eTimpl_Pair v287), Cell.sl g3 (List.map eTimpl_Pair v288), cI v289]), (2, [cI v290, cI v291, cI v292, cI v293, cI v294, cI v295, cI v296, cI v297, cI v298, cI v299, cI v300, Cell.sl g4 (List.map eI v301), Cell.sl g5 (List.map eI v282), cI v302, cS v303])] 3) := by
                refine hI _ _ _ ?_
                refine A.all [3, 5, 7, 12] (by kernel_rfl) rfl ⟨⟨_, rfl, ?_⟩, ⟨_, rfl, ?_⟩, ⟨_, rfl, ?_⟩, ⟨_, rfl, ?_⟩, trivial⟩
                · refine L.call [false, false] [] [] 3 hF rfl rfl rfl ent159 rfl rfl rfl rfl rfl (Fimpl_RealmOf_gives k7 g0 g1 g2 g3 (⟨v285, v286, v287, v288, v289⟩ : Timpl_Config) v291 r335 hr335) rfl ?_
                  refine L.nil ?_
                  refine A.all [5, 7, 12] (by kernel_rfl) rfl ⟨⟨_, rfl, ?_⟩, ⟨_, rfl, ?_⟩, ⟨_, rfl, ?_⟩, trivial⟩
                  · refine L.loadPtr shape24 hF rfl rfl rfl rfl rfl rfl ?_
                    exact L.nil (A.on (hO _ _ _ n2175) (Le.mk [(0, 0), (1, 2)] hm rfl (S5 rfl rfl rfl rfl rfl rfl rfl rfl rfl rfl) ⟨⟨_, rfl, rfl⟩, trivial⟩ ⟨⟨_, _, rfl, rfl, rfl⟩, trivial⟩))
                  · refine L.loadPtr shape3 hF rfl rfl rfl rfl rfl rfl ?_
                    exact L.nil (A.on (hO _ _ _ n2271) (Le.mk [(0, 0), (1, 1), (2, 2)] hm rfl (S5 rfl rfl rfl rfl rfl rfl rfl rfl rfl rfl) ⟨⟨_, rfl, rfl⟩, trivial⟩ (B2 rfl rfl rfl rfl rfl rfl)))
                  · refine L.loadPtr shape24 hF rfl rfl rfl rfl rfl rfl ?_
                    exact L.nil (A.on (hO _ _ _ n6239) (Le.mk [(0, 0), (1, 1), (2, 2)] hm rfl (S5 rfl rfl rfl rfl rfl rfl rfl rfl rfl rfl) ⟨⟨_, rfl, rfl⟩, trivial⟩ (B2 rfl rfl rfl rfl rfl rfl)))
                · refine L.loadPtr shape24 hF rfl rfl rfl rfl rfl rfl ?_
                  exact L.nil (A.on (hO _ _ _ n2167) (Le.mk [(0, 0), (1, 2)] hm rfl (S6 rfl rfl rfl rfl rfl rfl rfl rfl rfl rfl rfl rfl) ⟨⟨_, rfl, rfl⟩, trivial⟩ ⟨⟨_, _, rfl, rfl, rfl⟩, trivial⟩))
                · refine L.loadPtr shape3 hF rfl rfl rfl rfl rfl rfl ?_
                  exact L.nil (A.on (hO _ _ _ n2263) (Le.mk [(0, 0), (1, 1), (2, 2)] hm rfl (S6 rfl rfl rfl rfl rfl rfl rfl rfl rfl rfl rfl rfl) ⟨⟨_, rfl, rfl⟩, trivial⟩ (B2 rfl rfl rfl rfl rfl rfl)))
                · refine L.loadPtr shape24 hF rfl rfl rfl rfl rfl rfl ?_
                  exact L.nil (A.on (hO _ _ _ n6231) (Le.mk [(0, 0), (1, 1), (2, 2)] hm rfl (S6 rfl rfl rfl rfl rfl rfl rfl rfl rfl rfl rfl rfl) ⟨⟨_, rfl, rfl⟩, trivial⟩ (B2 rfl rfl rfl rfl rfl rfl)))
              have n6354 : W 10 #[false, true, false, false, true, false, true, true, false, false, false, true, true, false, false, false] (mkSt [(2, MG.one (Cell.ptr 0 0)), (5, MG.one (Cell.own 1)), (54, MG.one (Cell.ptr 2 1)), (57, MG.one (Cell.ptr 0 1)), (60, MG.one (cI v290)), (65, MG.one (Cell.sl g4 (List.map eI v301)))] [(1, ⟨1, List.map eI v281⟩)] [(0, [Cell.sl g0 (List.map eI v285), Cell.sl g1 (List.map eI v286), Cell.sl g2 (List.map eTimpl_Pair v287), Cell.sl g3 (List.map eTimpl_Pair v288), cI v289]), (2, [cI v290, cI v291, cI v292, cI v293, cI v294, cI v295, cI v296, cI v297, cI v298, cI v299, cI v300, Cell.sl g4 (List.map eI v301), Cell.sl g5 (List.map eI v282), cI v302, cS v303])] 3) := by
                refine hI _ _ _ ?_
                refine A.all [0, 2, 5] (by kernel_rfl) rfl ⟨⟨_, rfl, ?_⟩, ⟨_, rfl, ?_⟩, ⟨_, rfl, ?_⟩, trivial⟩
                · refine L.loadPtr shape90 hF rfl rfl rfl rfl rfl rfl ?_
                  exact L.nil (A.on (hO _ _ _ n6355) (Le.mk [(0, 1), (1, 2), (2, 0)] hm rfl (S6 rfl rfl rfl rfl rfl rfl rfl rfl rfl rfl rfl rfl) ⟨⟨_, rfl, rfl⟩, trivial⟩ (B2 rfl rfl rfl rfl rfl rfl)))
                · refine L.loadPtr shape3 hF rfl rfl rfl rfl rfl rfl ?_
                  exact L.nil (A.on (hO _ _ _ n6358) (Le.mk [(0, 0), (1, 1)] hm rfl (S6 rfl rfl rfl rfl rfl rfl rfl rfl rfl rfl rfl rfl) ⟨⟨_, rfl, rfl⟩, trivial⟩ ⟨⟨_, _, rfl, rfl, rfl⟩, trivial⟩))
                · refine L.loadPtr shape24 hF rfl rfl rfl rfl rfl rfl ?_
                  exact L.nil (A.on (hO _ _ _ n6386) (Le.mk [(0, 0), (1, 1), (2, 2)] hm rfl (S6 rfl rfl rfl rfl rfl rfl rfl rfl rfl rfl rfl rfl) ⟨⟨_, rfl, rfl⟩, trivial⟩ (B2 rfl rfl rfl rfl rfl rfl)))
              have n6227 : W 10 #[true, true, false, false, true, false, true, false, false, false, false, true, true, false, false, false] (mkSt [(5, MG.one (Cell.own 0)), (53, agg [Cell.sl g0 (List.map eI v285), Cell.sl g1 (List.map eI v286), Cell.sl g2 (List.map eTimpl_Pair v287), Cell.sl g3 (List.map eTimpl_Pair v288), cI v289]), (54, MG.one (Cell.ptr 1 1)), (57, MG.one (Cell.ptr 2 1)), (59, MG.one (Cell.ptr 1 0)), (65, MG.one (Cell.sl g4 (List.map eI v301)))] [(0, ⟨1, List.map eI v281⟩)] [(1, [cI v290, cI v291, cI v292, cI v293, cI v294, cI v295, cI v296, cI v297, cI v298, cI v299, cI v300, Cell.sl g4 (List.map eI v301), Cell.sl g5 (List.map eI v282), cI v302, cS v303]), (2, [Cell.sl g0 (List.map eI v285), Cell.sl g1 (List.map eI v286), Cell.sl g2 (List.map eTimpl_Pair v287), Cell.sl g3 (List.map eTimpl_Pair v288), cI v289])] 3) := by
                refine hI _ _ _ ?_
                refine A.all [2, 5, 7] (by kernel_rfl) rfl ⟨⟨_, rfl, ?_⟩, ⟨_, rfl, ?_⟩, ⟨_, rfl, ?_⟩, trivial⟩
                · refine L.loadPtr shape3 hF rfl rfl rfl rfl rfl rfl ?_
                  exact L.nil (A.on (hO _ _ _ n6231) (Le.mk [(0, 0), (1, 2), (2, 1)] hm rfl (S6 rfl rfl rfl rfl rfl rfl rfl rfl rfl rfl rfl rfl) ⟨⟨_, rfl, rfl⟩, trivial⟩ (B2 rfl rfl rfl rfl rfl rfl)))
                · refine L.loadPtr shape24 hF rfl rfl rfl rfl rfl rfl ?_
                  exact L.nil (A.on (hO _ _ _ n6259) (Le.mk [(0, 0), (1, 1)] hm rfl (S6 rfl rfl rfl rfl rfl rfl rfl rfl rfl rfl rfl rfl) ⟨⟨_, rfl, rfl⟩, trivial⟩ ⟨⟨_, _, rfl, rfl, rfl⟩, trivial⟩))
                · refine L.loadPtr shape3 hF rfl rfl rfl rfl rfl rfl ?_
                  exact L.nil (A.on (hO _ _ _ n6355) (Le.mk [(0, 0), (1, 1), (2, 2)] hm rfl (S6 rfl rfl rfl rfl rfl rfl rfl rfl rfl rfl rfl rfl) ⟨⟨_, rfl, rfl⟩, trivial⟩ (B2 rfl rfl rfl rfl rfl rfl)))
              have n6230 : W 10 #[false, true, true, false, true, false, true, false, false, false, false, true, true, false, false, false] (mkSt [(2, MG.one (Cell.ptr 0 0)), (5, MG.one (Cell.own 1)), (55, MG.one (cI v291)), (57, MG.one (Cell.ptr 0 1)), (59, MG.one (Cell.ptr 2 0)), (65, MG.one (Cell.sl g4 (List.map eI v301)))] [(1, ⟨1, List.map eI v281⟩)] [(0, [Cell.sl g0 (List.map eI v285), Cell.sl g1 (List.map eI v286), Cell.sl g2 (List.map eTimpl_Pair v287), Cell.sl g3 (List.map eTimpl_Pair v288), cI v289]), (2, [cI v290, cI v291, cI v292, cI v293, cI v294, cI v295, cI v296, cI v297, cI v298, cI v299, cI v300, Cell.sl g4 (List.map eI v301), Cell.sl g5 (List.map eI v282), cI v302, cS v303])] 3) := by
                refine hI _ _ _ ?_
                refine A.all [0, 5, 7] (by kernel_rfl) rfl ⟨⟨_, rfl, ?_⟩, ⟨_, rfl, ?_⟩, ⟨_, rfl, ?_⟩, trivial⟩
                · refine L.loadPtr shape90 hF rfl rfl rfl rfl rfl rfl ?_
                  exact L.nil (A.on (hO _ _ _ n6231) (Le.mk [(0, 1), (1, 0), (2, 2)] hm rfl (S6 rfl rfl rfl rfl rfl rfl rfl rfl rfl rfl rfl rfl) ⟨⟨_, rfl, rfl⟩, trivial⟩ (B2 rfl rfl rfl rfl rfl rfl)))
                · refine L.loadPtr shape24 hF rfl rfl rfl rfl rfl rfl ?_
                  exact L.nil (A.on (hO _ _ _ n6262) (Le.mk [(0, 0), (1, 1), (2, 2)] hm rfl (S6 rfl rfl rfl rfl rfl rfl rfl rfl rfl rfl rfl rfl) ⟨⟨_, rfl, rfl⟩, trivial⟩ (B2 rfl rfl rfl rfl rfl rfl)))
                · refine L.loadPtr shape3 hF rfl rfl rfl rfl rfl rfl ?_
                  exact L.nil (A.on (hO _ _ _ n6358) (Le.mk [(0, 0), (1, 1)] hm rfl (S6 rfl rfl rfl rfl rfl rfl rfl rfl rfl rfl rfl rfl) ⟨⟨_, rfl, rfl⟩, trivial⟩ ⟨⟨_, _, rfl, rfl, rfl⟩, trivial⟩))
              have n2259 : W 10 #[true, true, false, false, true, false, true, true, false, false, false, true, false, false, false, false] (mkSt [(5, MG.one (Cell.own 0)), (53, agg [Cell.sl g0 (List.map eI v285), Cell.sl g1 (List.map eI v286), Cell.sl g2 (List.map eTimpl_Pair v287), Cell.sl g3 (List.map eTimpl_Pair v288), cI v289]), (54, MG.one (Cell.ptr 1 1)), (57, MG.one (Cell.ptr 2 1)), (60, MG.one (cI v290)), (64, MG.one (Cell.ptr 1 11))] [(0, ⟨1, List.map eI v281⟩)] [(1, [cI v290, cI v291, cI v292, cI v293, cI v294, cI v295, cI v296, cI v297, cI v298, cI v299, cI v300, Cell.sl g4 (List.map eI v301), Cell.sl g5 (List.map eI v282), cI v302, cS v303]), (2, [Cell.sl g0 (List.map eI v285), Cell.sl g1 (List.map eI v286), Cell.sl g2 (List.map eTimpl_Pair v287), Cell.sl g3 (List.map eTimpl_Pair v288), cI v289])] 3) := by
                refine hI _ _ _ ?_
                refine A.all [2, 5, 12] (by kernel_rfl) rfl ⟨⟨_, rfl, ?_⟩, ⟨_, rfl, ?_⟩, ⟨_, rfl, ?_⟩, trivial⟩
                · refine L.loadPtr shape3 hF rfl rfl rfl rfl rfl rfl ?_
                  exact L.nil (A.on (hO _ _ _ n2263) (Le.mk [(0, 0), (1, 2), (2, 1)] hm rfl (S6 rfl rfl rfl rfl rfl rfl rfl rfl rfl rfl rfl rfl) ⟨⟨_, rfl, rfl⟩, trivial⟩ (B2 rfl rfl rfl rfl rfl rfl)))
                · refine L.loadPtr shape24 hF rfl rfl rfl rfl rfl rfl ?_
                  exact L.nil (A.on (hO _ _ _ n2291) (Le.mk [(0, 0), (1, 1)] hm rfl (S6 rfl rfl rfl rfl rfl rfl rfl rfl rfl rfl rfl rfl) ⟨⟨_, rfl, rfl⟩, trivial⟩ ⟨⟨_, _, rfl, rfl, rfl⟩, trivial⟩))
                · refine L.loadPtr shape24 hF rfl rfl rfl rfl rfl rfl ?_
                  exact L.nil (A.on (hO _ _ _ n6355) (Le.mk [(0, 0), (1, 1), (2, 2)] hm rfl (S6 rfl rfl rfl rfl rfl rfl rfl rfl rfl rfl rfl rfl) ⟨⟨_, rfl, rfl⟩, trivial⟩ (B2 rfl rfl rfl rfl rfl rfl)))
              have n6258 : W 10 #[false, true, false, false, true, true, true, false, false, false, false, true, true, false, false, false] (mkSt [(2, MG.one (Cell.ptr 0 0)), (5, MG.one (Cell.own 1)), (54, MG.one (Cell.ptr 2 1)), (58, MG.one (Cell.sl g1 (List.map eI v286))), (59, MG.one (Cell.ptr 2 0)), (65, MG.one (Cell.sl g4 (List.map eI v301)))] [(1, ⟨1, List.map eI v281⟩)] [(0, [Cell.sl g0 (List.map eI v285), Cell.sl g1 (List.map eI v286), Cell.sl g2 (List.map eTimpl_Pair v287), Cell.sl g3 (List.map eTimpl_Pair v288), cI v289]), (2, [cI v290, cI v291, cI v292, cI v293, cI v294, cI v295, cI v296, cI v297, cI v298, cI v299, cI v300, Cell.sl g4 (List.map eI v301), Cell.sl g5 (List.map eI v282), cI v302, cS v303])] 3) := by
                refine hI _ _ _ ?_
                refine A.all [0, 2, 7] (by kernel_rfl) rfl ⟨⟨_, rfl, ?_⟩, ⟨_, rfl, ?_⟩, ⟨_, rfl, ?_⟩, trivial⟩
                · refine L.loadPtr shape90 hF rfl rfl rfl rfl rfl rfl ?_
                  exact L.nil (A.on (hO _ _ _ n6259) (Le.mk [(0, 1), (1, 2)] hm rfl (S6 rfl rfl rfl rfl rfl rfl rfl rfl rfl rfl rfl rfl) ⟨⟨_, rfl, rfl⟩, trivial⟩ ⟨⟨_, _, rfl, rfl, rfl⟩, trivial⟩))
                · refine L.loadPtr shape3 hF rfl rfl rfl rfl rfl rfl ?_
                  exact L.nil (A.on (hO _ _ _ n6262) (Le.mk [(0, 0), (1, 1), (2, 2)] hm rfl (S6 rfl rfl rfl rfl rfl rfl rfl rfl rfl rfl rfl rfl) ⟨⟨_, rfl, rfl⟩, trivial⟩ (B2 rfl rfl rfl rfl rfl rfl)))
                · refine L.loadPtr shape3 hF rfl rfl rfl rfl rfl rfl ?_
                  exact L.nil (A.on (hO _ _ _ n6386) (Le.mk [(0, 0), (1, 1), (2, 2)] hm rfl (S6 rfl rfl rfl rfl rfl rfl rfl rfl rfl rfl rfl rfl) ⟨⟨_, rfl, rfl⟩, trivial⟩ (B2 rfl rfl rfl rfl rfl rfl)))
              have n2262 : W 10 #[false, true, true, false, true, false, true, true, false, false, false, true, false, false, false, false] (mkSt [(2, MG.one (Cell.ptr 0 0)), (5, MG.one (Cell.own 1)), (55, MG.one (cI v291)), (57, MG.one (Cell.ptr 0 1)), (60, MG.one (cI v290)), (64, MG.one (Cell.ptr 2 11))] [(1, ⟨1, List.map eI v281⟩)] [(0, [Cell.sl g0 (List.map eI v285), Cell.sl g1 (List.map eI v286), Cell.sl g2 (List.map eTimpl_Pair v287), Cell.sl g3 (List.map eTimpl_Pair v288), cI v289]), (2, [cI v290, cI v291, cI v292, cI v293, cI v294, cI v295, cI v296, cI v297, cI v298, cI v299, cI v300, Cell.sl g4 (List.map eI v301), Cell.sl g5 (List.map eI v282), cI v302, cS v303])] 3) := by
                refine hI _ _ _ ?_
                refine A.all [0, 5, 12] (by kernel_rfl) rfl ⟨⟨_, rfl, ?_⟩, ⟨_, rfl, ?_⟩, ⟨_, rfl, ?_⟩, trivial⟩
                · refine L.loadPtr shape90 hF rfl rfl rfl rfl rfl rfl ?_
                  exact L.nil (A.on (hO _ _ _ n2263) (Le.mk [(0, 1), (1, 0), (2, 2)] hm rfl (S6 rfl rfl rfl rfl rfl rfl rfl rfl rfl rfl rfl rfl) ⟨⟨_, rfl, rfl⟩, trivial⟩ (B2 rfl rfl rfl rfl rfl rfl)))
                · refine L.loadPtr shape24 hF rfl rfl rfl rfl rfl rfl ?_
                  exact L.nil (A.on (hO _ _ _ n2294) (Le.mk [(0, 0), (1, 1), (2, 2)] hm rfl (S6 rfl rfl rfl rfl rfl rfl rfl rfl rfl rfl rfl rfl) ⟨⟨_, rfl, rfl⟩, trivial⟩ (B2 rfl rfl rfl rfl rfl rfl)))
                · refine L.loadPtr shape24 hF rfl rfl rfl rfl rfl rfl ?_
                  exact L.nil (A.on (hO _ _ _ n6358) (Le.mk [(0, 0), (1, 1)] hm rfl (S6 rfl rfl rfl rfl rfl rfl rfl rfl rfl rfl rfl rfl) ⟨⟨_, rfl, rfl⟩, trivial⟩ ⟨⟨_, _, rfl, rfl, rfl⟩, trivial⟩))
              refine hI _ _ _ ?_
              refine A.take 1 rfl (by kernel_rfl) (by kernel_rfl) (by kernel_rfl) rfl (Ca.fieldAddr Try.underlying113 rfl info3 rfl) (fun Q0 k0 => L.fieldAddr Try.underlying113 rfl info3 rfl hF rfl rfl rfl rfl rfl (L.nil k0)) ?_
              refine A.take 4 rfl (by kernel_rfl) (by kernel_rfl) (by kernel_rfl) rfl (Ca.fieldAddr Try.underlying90 rfl info24 rfl) (fun Q0 k0 => L.fieldAddr Try.underlying90 rfl info24 rfl hF rfl rfl rfl rfl rfl (L.nil k0)) ?_
              refine A.take 6 rfl (by kernel_rfl) (by kernel_rfl) (by kernel_rfl) rfl (Ca.fieldAddr Try.underlying113 rfl info3 rfl) (fun Q0 k0 => L.fieldAddr Try.underlying113 rfl info3 rfl hF rfl rfl rfl rfl rfl (L.nil k0)) ?_
              refine A.take 11 rfl (by kernel_rfl) (by kernel_rfl) (by kernel_rfl) rfl (Ca.fieldAddr Try.underlying113 rfl info24 rfl) (fun Q0 k0 => L.fieldAddr Try.underlying113 rfl info24 rfl hF rfl rfl rfl rfl rfl (L.nil k0)) ?_
              refine A.all [0, 2, 5, 7, 12] (by kernel_rfl) rfl ⟨⟨_, rfl, ?_⟩, ⟨_, rfl, ?_⟩, ⟨_, rfl, ?_⟩, ⟨_, rfl, ?_⟩, ⟨_, rfl, ?_⟩, trivial⟩
              · refine L.loadPtr shape90 hF rfl rfl rfl rfl rfl rfl ?_
                refine L.nil ?_
                refine A.all [2, 5, 7, 12] (by kernel_rfl) rfl ⟨⟨_, rfl, ?_⟩, ⟨_, rfl, ?_⟩, ⟨_, rfl, ?_⟩, ⟨_, rfl, ?_⟩, trivial⟩
                · refine L.loadPtr shape3 hF rfl rfl rfl rfl rfl rfl ?_
                  exact L.nil (A.on (hO _ _ _ n2135) (Le.mk [(0, 2), (1, 0), (2, 1)] hm rfl (S6 rfl rfl rfl rfl rfl rfl rfl rfl rfl rfl rfl rfl) ⟨⟨_, rfl, rfl⟩, trivial⟩ (B2 rfl rfl rfl rfl rfl rfl)))
                · refine L.loadPtr shape24 hF rfl rfl rfl rfl rfl rfl ?_
                  exact L.nil (A.on (hO _ _ _ n2163) (Le.mk [(0, 2), (1, 1)] hm rfl (S6 rfl rfl rfl rfl rfl rfl rfl rfl rfl rfl rfl rfl) ⟨⟨_, rfl, rfl⟩, trivial⟩ ⟨⟨_, _, rfl, rfl, rfl⟩, trivial⟩))
                · refine L.loadPtr shape3 hF rfl rfl rfl rfl rfl rfl ?_
                  exact L.nil (A.on (hO _ _ _ n2259) (Le.mk [(0, 2), (1, 1), (2, 0)] hm rfl (S6 rfl rfl rfl rfl rfl rfl rfl rfl rfl rfl rfl rfl) ⟨⟨_, rfl, rfl⟩, trivial⟩ (B2 rfl rfl rfl rfl rfl rfl)))
                · refine L.loadPtr shape24 hF rfl rfl rfl rfl rfl rfl ?_
                  exact L.nil (A.on (hO _ _ _ n6227) (Le.mk [(0, 2), (1, 1), (2, 0)] hm rfl (S6 rfl rfl rfl rfl rfl rfl rfl rfl rfl rfl rfl rfl) ⟨⟨_, rfl, rfl⟩, trivial⟩ (B2 rfl rfl rfl rfl rfl rfl)))
              · refine L.loadPtr shape3 hF rfl rfl rfl rfl rfl rfl ?_
                refine L.nil ?_
                refine A.all [0, 5, 7, 12] (by kernel_rfl) rfl ⟨⟨_, rfl, ?_⟩, ⟨_, rfl, ?_⟩, ⟨_, rfl, ?_⟩, ⟨_, rfl, ?_⟩, trivial⟩
                · refine L.loadPtr shape90 hF rfl rfl rfl rfl rfl rfl ?_
                  exact L.nil (A.on (hO _ _ _ n2135) (Le.mk [(0, 2), (1, 0), (2, 1)] hm rfl (S6 rfl rfl rfl rfl rfl rfl rfl rfl rfl rfl rfl rfl) ⟨⟨_, rfl, rfl⟩, trivial⟩ (B2 rfl rfl rfl rfl rfl rfl)))
                · refine L.loadPtr shape24 hF rfl rfl rfl rfl rfl rfl ?_
                  exact L.nil (A.on (hO _ _ _ n2166) (Le.mk [(0, 0), (1, 2), (2, 1)] hm rfl (S6 rfl rfl rfl rfl rfl rfl rfl rfl rfl rfl rfl rfl) ⟨⟨_, rfl, rfl⟩, trivial⟩ (B2 rfl rfl rfl rfl rfl rfl)))
                · refine L.loadPtr shape3 hF rfl rfl rfl rfl rfl rfl ?_
                  exact L.nil (A.on (hO _ _ _ n2262) (Le.mk [(0, 0), (1, 2), (2, 1)] hm rfl (S6 rfl rfl rfl rfl rfl rfl rfl rfl rfl rfl rfl rfl) ⟨⟨_, rfl, rfl⟩, trivial⟩ (B2 rfl rfl rfl rfl rfl rfl)))
                · refine L.loadPtr shape24 hF rfl rfl rfl rfl rfl rfl ?_
                  exact L.nil (A.on (hO _ _ _ n6230) (Le.mk [(0, 0), (1, 2), (2, 1)] hm rfl (S6 rfl rfl rfl rfl rfl rfl rfl rfl rfl rfl rfl rfl) ⟨⟨_, rfl, rfl⟩, trivial⟩ (B2 rfl rfl rfl rfl rfl rfl)))
              · refine L.loadPtr shape24 hF rfl rfl rfl rfl rfl rfl ?_
                refine L.nil ?_
                refine A.all [0, 2, 7, 12] (by kernel_rfl) rfl ⟨⟨_, rfl, ?_⟩, ⟨_, rfl, ?_⟩, ⟨_, rfl, ?_⟩, ⟨_, rfl, ?_⟩, trivial⟩
                · refine L.loadPtr shape90 hF rfl rfl rfl rfl rfl rfl ?_
                  exact L.nil (A.on (hO _ _ _ n2163) (Le.mk [(0, 2), (1, 1)] hm rfl (S6 rfl rfl rfl rfl rfl rfl rfl rfl rfl rfl rfl rfl) ⟨⟨_, rfl, rfl⟩, trivial⟩ ⟨⟨_, _, rfl, rfl, rfl⟩, trivial⟩))
                · refine L.loadPtr shape3 hF rfl rfl rfl rfl rfl rfl ?_
                  exact L.nil (A.on (hO _ _ _ n2166) (Le.mk [(0, 0), (1, 2), (2, 1)] hm rfl (S6 rfl rfl rfl rfl rfl rfl rfl rfl rfl rfl rfl rfl) ⟨⟨_, rfl, rfl⟩, trivial⟩ (B2 rfl rfl rfl rfl rfl rfl)))
                · refine L.loadPtr shape3 hF rfl rfl rfl rfl rfl rfl ?_
                  exact L.nil (A.on (hO _ _ _ n2290) (Le.mk [(0, 0), (1, 2), (2, 1)] hm rfl (S6 rfl rfl rfl rfl rfl rfl rfl rfl rfl rfl rfl rfl) ⟨⟨_, rfl, rfl⟩, trivial⟩ (B2 rfl rfl rfl rfl rfl rfl)))
                · refine L.loadPtr shape24 hF rfl rfl rfl rfl rfl rfl ?_
                  exact L.nil (A.on (hO _ _ _ n6258) (Le.mk [(0, 0), (1, 2), (2, 1)] hm rfl (S6 rfl rfl rfl rfl rfl rfl rfl rfl rfl rfl rfl rfl) ⟨⟨_, rfl, rfl⟩, trivial⟩ (B2 rfl rfl rfl rfl rfl rfl)))
              · refine L.loadPtr shape3 hF rfl rfl rfl rfl rfl rfl ?_
                refine L.nil ?_
                refine A.all [0, 2, 5, 12] (by kernel_rfl) rfl ⟨⟨_, rfl, ?_⟩, ⟨_, rfl, ?_⟩, ⟨_, rfl, ?_⟩, ⟨_, rfl, ?_⟩, trivial⟩
                · refine L.loadPtr shape90 hF rfl rfl rfl rfl rfl rfl ?_
                  exact L.nil (A.on (hO _ _ _ n2259) (Le.mk [(0, 2), (1, 1), (2, 0)] hm rfl (S6 rfl rfl rfl rfl rfl rfl rfl rfl rfl rfl rfl rfl) ⟨⟨_, rfl, rfl⟩, trivial⟩ (B2 rfl rfl rfl rfl rfl rfl)))
                · refine L.loadPtr shape3 hF rfl rfl rfl rfl rfl rfl ?_
                  exact L.nil (A.on (hO _ _ _ n2262) (Le.mk [(0, 0), (1, 2), (2, 1)] hm rfl (S6 rfl rfl rfl rfl rfl rfl rfl rfl rfl rfl rfl rfl) ⟨⟨_, rfl, rfl⟩, trivial⟩ (B2 rfl rfl rfl rfl rfl rfl)))
                · refine L.loadPtr shape24 hF rfl rfl rfl rfl rfl rfl ?_
                  exact L.nil (A.on (hO _ _ _ n2290) (Le.mk [(0, 0), (1, 2), (2, 1)] hm rfl (S6 rfl rfl rfl rfl rfl rfl rfl rfl rfl rfl rfl rfl) ⟨⟨_, rfl, rfl⟩, trivial⟩ (B2 rfl rfl rfl rfl rfl rfl)))
                · refine L.loadPtr shape24 hF rfl rfl rfl rfl rfl rfl ?_
                  exact L.nil (A.on (hO _ _ _ n6354) (Le.mk [(0, 0), (1, 2), (2, 1)] hm rfl (S6 rfl rfl rfl rfl rfl rfl rfl rfl rfl rfl rfl rfl) ⟨⟨_, rfl, rfl⟩, trivial⟩ (B2 rfl rfl rfl rfl rfl rfl)))
              · refine L.loadPtr shape24 hF rfl rfl rfl rfl rfl rfl ?_
                refine L.nil ?_
                refine A.all [0, 2, 5, 7] (by kernel_rfl) rfl ⟨⟨_, rfl, ?_⟩, ⟨_, rfl, ?_⟩, ⟨_, rfl, ?_⟩, ⟨_, rfl, ?_⟩, trivial⟩
                · refine L.loadPtr shape90 hF rfl rfl rfl rfl rfl rfl ?_
                  exact L.nil (A.on (hO _ _ _ n6227) (Le.mk [(0, 2), (1, 1), (2, 0)] hm rfl (S6 rfl rfl rfl rfl rfl rfl rfl rfl rfl rfl rfl rfl) ⟨⟨_, rfl, rfl⟩, trivial⟩ (B2 rfl rfl rfl rfl rfl rfl)))
                · refine L.loadPtr shape3 hF rfl rfl rfl rfl rfl rfl ?_
                  exact L.nil (A.on (hO _ _ _ n6230) (Le.mk [(0, 0), (1, 2), (2, 1)] hm rfl (S6 rfl rfl rfl rfl rfl rfl rfl rfl rfl rfl rfl rfl) ⟨⟨_, rfl, rfl⟩, trivial⟩ (B2 rfl rfl rfl rfl rfl rfl)))
                · refine L.loadPtr shape24 hF rfl rfl rfl rfl rfl rfl ?_
                  exact L.nil (A.on (hO _ _ _ n6258) (Le.mk [(0, 0), (1, 2), (2, 1)] hm rfl (S6 rfl rfl rfl rfl rfl rfl rfl rfl rfl rfl rfl rfl) ⟨⟨_, rfl, rfl⟩, trivial⟩ (B2 rfl rfl rfl rfl rfl rfl)))
                · refine L.loadPtr shape3 hF rfl rfl rfl rfl rfl rfl ?_
                  exact L.nil (A.on (hO _ _ _ n6354) (Le.mk [(0, 0), (1, 2), (2, 1)] hm rfl (S6 rfl rfl rfl rfl rfl rfl rfl rfl rfl rfl rfl rfl) ⟨⟨_, rfl, rfl⟩, trivial⟩ (B2 rfl rfl rfl rfl rfl rfl)))
        have n59 : W 4 #[true, true, false, true, true, true, false, false, false] (mkSt [(2, MG.one (Cell.ptr 0 0)), (3, MG.one (Cell.ptr 1 0)), (30, MG.one (cI a1.Client)), (34, MG.one (cI (IntKind.i64.wrap ((3 : Int) + a1.Server))))] [] [(0, [Cell.sl g0 (List.map eI a0.UserRealm), Cell.sl g1 (List.map eI a0.ServiceRealm), Cell.sl g2 (List.map eTimpl_Pair a0.Links), Cell.sl g3 (List.map eTimpl_Pair a0.Proxy), cI a0.Skew]), (1, [cI a1.Server, cI a1.Client, cI a1.Key, cI a1.Op, cI a1.Now, cI a1.Auth.Client, cI a1.Auth.Time, cI a1.Auth.Seq, cI a1.Rest.Servers, cI a1.Rest.Ops, cI a1.Rest.End, Cell.sl g4 (List.map eI a1.Path), Cell.sl g5 (List.map eI a1.Via), cI a1.Leaks, cS a1.Ticket])] 2) := by
          refine hI _ _ _ ?_
          refine A.all [2] (by kernel_rfl) rfl ⟨⟨_, rfl, ?_⟩, trivial⟩
          refine L.call [false] [] [] 2 hF rfl rfl rfl ent181 rfl rfl rfl rfl rfl (Fimpl_PrincipalKey_gives k  a1.Client r13 hr13) rfl ?_
          refine L.nil ?_
          exact A.on (hO _ _ _ n63) (Le.mk [(0, 0), (1, 1)] hm rfl ⟨⟨_, rfl, rfl⟩, ⟨_, rfl, rfl⟩, ⟨_, rfl, rfl⟩, ⟨_, rfl, rfl⟩, trivial⟩ trivial ⟨⟨_, _, rfl, rfl, rfl⟩, ⟨_, _, rfl, rfl, rfl⟩, trivial⟩)
        refine hI _ _ _ ?_
        refine A.take 0 rfl (by kernel_rfl) (by kernel_rfl) (by kernel_rfl) rfl (Ca.fieldAddr Try.underlying113 rfl info3 rfl) (fun Q0 k0 => L.fieldAddr Try.underlying113 rfl info3 rfl hF rfl rfl rfl rfl rfl (L.nil k0)) ?_
        refine A.take 3 rfl (by kernel_rfl) (by kernel_rfl) (by kernel_rfl) rfl (Ca.fieldAddr Try.underlying113 rfl info3 rfl) (fun Q0 k0 => L.fieldAddr Try.underlying113 rfl info3 rfl hF rfl rfl rfl rfl rfl (L.nil k0)) ?_
        refine A.all [1, 4] (by kernel_rfl) rfl ⟨⟨_, rfl, ?_⟩, ⟨_, rfl, ?_⟩, trivial⟩
        · refine L.loadPtr shape3 hF rfl rfl rfl rfl rfl rfl ?_
          refine L.nil ?_
          refine A.all [2, 4] (by kernel_rfl) rfl ⟨⟨_, rfl, ?_⟩, ⟨_, rfl, ?_⟩, trivial⟩
          · refine L.call [false] [] [] 25 hF rfl rfl rfl ent181 rfl rfl rfl rfl rfl (Fimpl_PrincipalKey_gives k  a1.Client r13 hr13) rfl ?_
            refine L.nil ?_
            refine A.all [4] (by kernel_rfl) rfl ⟨⟨_, rfl, ?_⟩, trivial⟩
            refine L.loadPtr shape3 hF rfl rfl rfl rfl rfl rfl ?_
            refine L.nil ?_
            refine A.take 5 rfl (by kernel_rfl) (by kernel_rfl) (by kernel_rfl) rfl (Ca.bin rfl rfl (calm_int _ _ _ _ _ _ _ _)) (fun Q0 k0 => L.bin hF rfl rfl rfl rfl rfl rfl (L.nil k0)) ?_
            exact A.on (hO _ _ _ n63) (Le.mk [(0, 20), (1, 21)] hm rfl ⟨⟨_, rfl, rfl⟩, ⟨_, rfl, rfl⟩, ⟨_, rfl, rfl⟩, ⟨_, rfl, rfl⟩, trivial⟩ trivial ⟨⟨_, _, rfl, rfl, rfl⟩, ⟨_, _, rfl, rfl, rfl⟩, trivial⟩)
          · refine L.loadPtr shape3 hF rfl rfl rfl rfl rfl rfl ?_
            refine L.nil ?_
            refine A.take 5 rfl (by kernel_rfl) (by kernel_rfl) (by kernel_rfl) rfl (Ca.bin rfl rfl (calm_int _ _ _ _ _ _ _ _)) (fun Q0 k0 => L.bin hF rfl rfl rfl rfl rfl rfl (L.nil k0)) ?_
            exact A.on (hO _ _ _ n59) (Le.mk [(0, 20), (1, 21)] hm rfl ⟨⟨_, rfl, rfl⟩, ⟨_, rfl, rfl⟩, ⟨_, rfl, rfl⟩, ⟨_, rfl, rfl⟩, trivial⟩ trivial ⟨⟨_, _, rfl, rfl, rfl⟩, ⟨_, _, rfl, rfl, rfl⟩, trivial⟩)
        · refine L.loadPtr shape3 hF rfl rfl rfl rfl rfl rfl ?_
          refine L.nil ?_
          refine A.take 5 rfl (by kernel_rfl) (by kernel_rfl) (by kernel_rfl) rfl (Ca.bin rfl rfl (calm_int _ _ _ _ _ _ _ _)) (fun Q0 k0 => L.bin hF rfl rfl rfl rfl rfl rfl (L.nil k0)) ?_
          refine A.all [1] (by kernel_rfl) rfl ⟨⟨_, rfl, ?_⟩, trivial⟩
          refine L.loadPtr shape3 hF rfl rfl rfl rfl rfl rfl ?_
          refine L.nil ?_
          exact A.on (hO _ _ _ n59) (Le.mk [(0, 20), (1, 21)] hm rfl ⟨⟨_, rfl, rfl⟩, ⟨_, rfl, rfl⟩, ⟨_, rfl, rfl⟩, ⟨_, rfl, rfl⟩, trivial⟩ trivial ⟨⟨_, _, rfl, rfl, rfl⟩, ⟨_, _, rfl, rfl, rfl⟩, trivial⟩)
/-! ### Flaws_eqIntS -/
def Flaws_eqIntS.l2 : Nat → (List Int) → (List Int) → Int → Option Bool
  | 0, _, _, _ => none
  | k2 + 1, v34, v35, v36 => cond (decide (v36 < (v34.length : Int))) ((at? v34 v36).bind fun b39 => (at? v35 v36).bind fun b40 => cond (b39 != b40) (some false) ((Flaws_eqIntS.l2 k2) v34 v35 (IntKind.i64.wrap (v36 + (1 : Int))))) (some true)
def Flaws_eqIntS (k : Nat) (a0 : List Int) (a1 : List Int) : Option Bool := cond ((a0.length : Int) != (a1.length : Int)) (some false) (Flaws_eqIntS.l2 k a0 a1 (0 : Int))
theorem ent26 : MG.Enters Try.prog 26 := ⟨Try.f26, Try.func26, rfl, by decide⟩
set_option maxHeartbeats 8000000 in
set_option maxRecDepth 100000 in
theorem Flaws_eqIntS_gives (k : Nat) (g0 : Bool) (g1 : Bool) (a0 : List Int) (a1 : List Int) (r : Bool) (H : Flaws_eqIntS k a0 a1 = some r) : Gives Try.prog 26 [V.one (Cell.sl g0 (List.map eI a0)), V.one (Cell.sl g1 (List.map eI a1))] [] [V.one (cL r)] [] := by
  refine Gives.intro Try.func26 rfl rfl rfl rfl ?_
  intro F hF hm
  unfold Flaws_eqIntS at H
  obtain ⟨K, hK⟩ : ∃ K, k ≤ K := ⟨k, Nat.le_refl k⟩
  refine WpC.seq ?_
  refine WpC.regionL ?_
  refine L.assign hF rfl rfl rfl ?_
  refine L.nil ?_
  refine WpC.seq ?_
  refine WpC.seq ?_
  refine WpC.regionL ?_
  refine L.move hF rfl rfl rfl ?_
  refine L.lenR (xs := a0) (e := eI) Try.underlying24 hF rfl rfl rfl rfl ?_
  refine L.move hF rfl rfl rfl ?_
  refine L.lenR (xs := a1) (e := eI) Try.underlying24 hF rfl rfl rfl rfl ?_
  refine L.bin hF rfl rfl rfl rfl rfl rfl ?_
  refine L.nil ?_
  refine WpC.cond rfl (fun hc => ?_) (fun hc => ?_)
  · replace H := condT hc H
    refine WpC.seq ?_
    refine WpC.regionL ?_
    refine L.assign hF rfl rfl rfl ?_
    refine L.nil ?_
    refine WpC.ret ?_
    cases H
    exact Leaves.ret rfl rfl rfl ⟨rfl, rfl⟩
  · replace H := condF hc H
    refine WpC.skip ?_
    refine WpC.seq ?_
    refine WpC.seq ?_
    refine WpC.regionL ?_
    refine L.assign hF rfl rfl rfl ?_
    refine L.nil ?_
    refine WpC.block ?_
    refine WpC.loopL (P := Try.prog) (fun n σ => ∃ v34 : List Int, ∃ v35 : List Int, ∃ v36 : Int, n ≤ K ∧ Flaws_eqIntS.l2 n v34 v35 v36 = some r ∧ σ = mkSt [(0, MG.one (Cell.sl g0 (List.map eI v34))), (1, MG.one (Cell.sl g1 (List.map eI v35))), (5, MG.one (cI v36))] [] [] 0) k ⟨_, ⟨a0, a1, (0 : Int), by omega, H, rfl⟩, Le.mk [] hm rfl ⟨⟨_, rfl, rfl⟩, ⟨_, rfl, rfl⟩, ⟨_, rfl, rfl⟩, trivial⟩ trivial trivial⟩ ?_
    clear H
    rintro k2 _ ⟨v34, v35, v36, hk2, H, rfl⟩
    cases k2 with
    | zero => cases H
    | succ k2 =>
      rw [Flaws_eqIntS.l2] at H
      refine WpC.seq ?_
      refine WpC.seq ?_
      refine WpC.regionL ?_
      refine L.move hF rfl rfl rfl ?_
      refine L.move hF rfl rfl rfl ?_
      refine L.lenR (xs := v34) (e := eI) Try.underlying24 hF rfl rfl rfl rfl ?_
      refine L.bin hF rfl rfl rfl rfl rfl rfl ?_
      refine L.nil ?_
      refine WpC.cond rfl (fun hc => ?_) (fun hc => ?_)
      · replace H := condT hc H
        refine WpC.skip ?_
        refine WpC.seq ?_
        refine WpC.block ?_
        refine WpC.seq ?_
        refine S.begin mixed (by kernel_rfl) ?_
        refine S.st 0 rfl rfl ((Ca.move).quiet) (fun Q0 k0 => L.move hF rfl rfl rfl (L.nil k0)) ?_
        refine S.st 1 rfl rfl ((Ca.move).quiet) (fun Q0 k0 => L.move hF rfl rfl rfl (L.nil k0)) ?_
        obtain ⟨b39, hb39, H⟩ := bindS H
        refine S.st 2 rfl rfl ((Ca.indexAddr).quiet) (fun Q0 k0 => L.idxR (xs := v34) (e := eI) Try.underlying24 info3 hF rfl rfl rfl rfl rfl hb39 rfl rfl (L.nil k0)) ?_
        refine S.st 3 rfl rfl (Qu.load) (fun Q0 k0 => L.loadPe shape3 hF rfl rfl rfl rfl rfl (L.nil k0)) ?_
        refine S.st 4 rfl rfl ((Ca.move).quiet) (fun Q0 k0 => L.move hF rfl rfl rfl (L.nil k0)) ?_
        refine S.st 5 rfl rfl ((Ca.move).quiet) (fun Q0 k0 => L.move hF rfl rfl rfl (L.nil k0)) ?_
        obtain ⟨b40, hb40, H⟩ := bindS H
        refine S.st 6 rfl rfl ((Ca.indexAddr).quiet) (fun Q0 k0 => L.idxR (xs := v35) (e := eI) Try.underlying24 info3 hF rfl rfl rfl rfl rfl hb40 rfl rfl (L.nil k0)) ?_
        refine S.st 7 rfl rfl (Qu.load) (fun Q0 k0 => L.loadPe shape3 hF rfl rfl rfl rfl rfl (L.nil k0)) ?_
        refine S.st 8 rfl rfl ((Ca.bin rfl rfl (calm_int _ _ _ _ _ _ _ _)).quiet) (fun Q0 k0 => L.bin hF rfl rfl rfl rfl rfl rfl (L.nil k0)) ?_
        refine S.nil ?_
        refine WpC.cond rfl (fun hc => ?_) (fun hc => ?_)
        · replace H := condT hc H
          refine WpC.seq ?_
          refine WpC.regionL ?_
          refine L.assign hF rfl rfl rfl ?_
          refine L.nil ?_
          refine WpC.ret ?_
          cases H
          exact Leaves.ret rfl rfl rfl ⟨rfl, rfl⟩
        · replace H := condF hc H
          refine WpC.skip ?_
          refine WpC.regionL ?_
          refine L.move hF rfl rfl rfl ?_
          refine L.bin hF rfl rfl rfl rfl rfl rfl ?_
          refine L.assign hF rfl rfl rfl ?_
          refine L.nil ?_
          exact ⟨k2, _, by omega, ⟨v34, v35, (IntKind.i64.wrap (v36 + (1 : Int))), by omega, H, rfl⟩, Le.mk [] hm rfl ⟨⟨_, rfl, rfl⟩, ⟨_, rfl, rfl⟩, ⟨_, rfl, rfl⟩, trivial⟩ trivial trivial⟩
      · replace H := condF hc H
        refine WpC.exit ?_
        refine WpC.seq ?_
        refine WpC.regionL ?_
        refine L.assign hF rfl rfl rfl ?_
        refine L.nil ?_
        refine WpC.ret ?_
        cases H
        exact Leaves.ret rfl rfl rfl ⟨rfl, rfl⟩
/-! ### Flaws_eqPair -/
def Flaws_eqPair (k : Nat) (a0 : Timpl_Pair) (a1 : Timpl_Pair) : Option Bool := cond (a0.A != a1.A) (some false) (cond (a0.B != a1.B) (some false) (some true))
theorem ent253 : MG.Enters Try.prog 253 := ⟨Try.f253, Try.func253, rfl, by decide⟩
set_option maxHeartbeats 8000000 in
set_option maxRecDepth 100000 in
theorem Flaws_eqPair_gives (k : Nat) (a0 : Timpl_Pair) (a1 : Timpl_Pair) (r : Bool) (H : Flaws_eqPair k a0 a1 = some r) : Gives Try.prog 253 [V.agg [cI a0.A, cI a0.B], V.agg [cI a1.A, cI a1.B]] [] [V.one (cL r)] [] := by
  refine Gives.intro Try.func253 rfl rfl rfl rfl ?_
  intro F hF hm
  unfold Flaws_eqPair at H
  obtain ⟨K, hK⟩ : ∃ K, k ≤ K := ⟨k, Nat.le_refl k⟩
  refine WpC.seq ?_
  refine WpC.regionL ?_
  refine L.box 4 hF rfl rfl rfl rfl ?_
  refine L.box 5 hF rfl rfl rfl rfl ?_
  refine L.assign hF rfl rfl rfl ?_
  refine L.nil ?_
  refine WpC.seq ?_
  refine WpC.seq ?_
  refine WpC.regionL ?_
  refine L.fieldAddr Try.underlying256 rfl info3 rfl hF rfl rfl rfl rfl rfl ?_
  refine L.loadPtr shape3 hF rfl rfl rfl rfl rfl rfl ?_
  refine L.fieldAddr Try.underlying256 rfl info3 rfl hF rfl rfl rfl rfl rfl ?_
  refine L.loadPtr shape3 hF rfl rfl rfl rfl rfl rfl ?_
  refine L.bin hF rfl rfl rfl rfl rfl rfl ?_
  refine L.nil ?_
  refine WpC.cond rfl (fun hc => ?_) (fun hc => ?_)
  · replace H := condT hc H
    refine WpC.seq ?_
    refine WpC.regionL ?_
    refine L.assign hF rfl rfl rfl ?_
    refine L.nil ?_
    refine WpC.ret ?_
    cases H
    exact Leaves.ret rfl rfl rfl ⟨rfl, rfl⟩
  · replace H := condF hc H
    refine WpC.skip ?_
    refine WpC.seq ?_
    refine WpC.seq ?_
    refine WpC.regionL ?_
    refine L.fieldAddr Try.underlying256 rfl info3 rfl hF rfl rfl rfl rfl rfl ?_
    refine L.loadPtr shape3 hF rfl rfl rfl rfl rfl rfl ?_
    refine L.fieldAddr Try.underlying256 rfl info3 rfl hF rfl rfl rfl rfl rfl ?_
    refine L.loadPtr shape3 hF rfl rfl rfl rfl rfl rfl ?_
    refine L.bin hF rfl rfl rfl rfl rfl rfl ?_
    refine L.nil ?_
    refine WpC.cond rfl (fun hc => ?_) (fun hc => ?_)
    · replace H := condT hc H
      refine WpC.seq ?_
      refine WpC.regionL ?_
      refine L.assign hF rfl rfl rfl ?_
      refine L.nil ?_
      refine WpC.ret ?_
      cases H
      exact Leaves.ret rfl rfl rfl ⟨rfl, rfl⟩
    · replace H := condF hc H
      refine WpC.skip ?_
      refine WpC.seq ?_
      refine WpC.regionL ?_
      refine L.assign hF rfl rfl rfl ?_
      refine L.nil ?_
      refine WpC.ret ?_
      cases H
      exact Leaves.ret rfl rfl rfl ⟨rfl, rfl⟩
/-! ### Flaws_eqPairS -/
def Flaws_eqPairS.l2 : Nat → (List Timpl_Pair) → (List Timpl_Pair) → Int → Option Bool
  | 0, _, _, _ => none
  | k2 + 1, v44, v45, v46 => cond (decide (v46 < (v44.length : Int))) ((at? v44 v46).bind fun b50 => (at? v45 v46).bind fun b51 => (Flaws_eqPair k2 b50 b51).bind fun r52 => cond (!r52) (some false) ((Flaws_eqPairS.l2 k2) v44 v45 (IntKind.i64.wrap (v46 + (1 : Int))))) (some true)
def Flaws_eqPairS (k : Nat) (a0 : List Timpl_Pair) (a1 : List Timpl_Pair) : Option Bool := cond ((a0.length : Int) != (a1.length : Int)) (some false) (Flaws_eqPairS.l2 k a0 a1 (0 : Int))
theorem ent162 : MG.Enters Try.prog 162 := ⟨Try.f162, Try.func162, rfl, by decide⟩
set_option maxHeartbeats 8000000 in
set_option maxRecDepth 100000 in
theorem Flaws_eqPairS_gives (k : Nat) (g0 : Bool) (g1 : Bool) (a0 : List Timpl_Pair) (a1 : List Timpl_Pair) (r : Bool) (H : Flaws_eqPairS k a0 a1 = some r) : Gives Try.prog 162 [V.one (Cell.sl g0 (List.map eTimpl_Pair a0)), V.one (Cell.sl g1 (List.map eTimpl_Pair a1))] [] [V.one (cL r)] [] := by
  refine Gives.intro Try.func162 rfl rfl rfl rfl ?_
  intro F hF hm
  unfold Flaws_eqPairS at H
  obtain ⟨K, hK⟩ : ∃ K, k ≤ K := ⟨k, Nat.le_refl k⟩
  refine WpC.seq ?_
  refine WpC.regionL ?_
  refine L.assign hF rfl rfl rfl ?_
  refine L.nil ?_
  refine WpC.seq ?_
  refine WpC.seq ?_
  refine WpC.regionL ?_
  refine L.move hF rfl rfl rfl ?_
  refine L.lenR (xs := a0) (e := eTimpl_Pair) Try.underlying88 hF rfl rfl rfl rfl ?_
  refine L.move hF rfl rfl rfl ?_
  refine L.lenR (xs := a1) (e := eTimpl_Pair) Try.underlying88 hF rfl rfl rfl rfl ?_
  refine L.bin hF rfl rfl rfl rfl rfl rfl ?_
  refine L.nil ?_
  refine WpC.cond rfl (fun hc => ?_) (fun hc => ?_)
  · replace H := condT hc H
    refine WpC.seq ?_
    refine WpC.regionL ?_
    refine L.assign hF rfl rfl rfl ?_
    refine L.nil ?_
    refine WpC.ret ?_
    cases H
    exact Leaves.ret rfl rfl rfl ⟨rfl, rfl⟩
  · replace H := condF hc H
    refine WpC.skip ?_
    refine WpC.seq ?_
    refine WpC.seq ?_
    refine WpC.regionL ?_
    refine L.assign hF rfl rfl rfl ?_
    refine L.nil ?_
    refine WpC.block ?_
    refine WpC.loopL (P := Try.prog) (fun n σ => ∃ v44 : List Timpl_Pair, ∃ v45 : List Timpl_Pair, ∃ v46 : Int, n ≤ K ∧ Flaws_eqPairS.l2 n v44 v45 v46 = some r ∧ σ = mkSt [(0, MG.one (Cell.sl g0 (List.map eTimpl_Pair v44))), (1, MG.one (Cell.sl g1 (List.map eTimpl_Pair v45))), (5, MG.one (cI v46))] [] [] 0) k ⟨_, ⟨a0, a1, (0 : Int), by omega, H, rfl⟩, Le.mk [] hm rfl ⟨⟨_, rfl, rfl⟩, ⟨_, rfl, rfl⟩, ⟨_, rfl, rfl⟩, trivial⟩ trivial trivial⟩ ?_
    clear H
    rintro k2 _ ⟨v44, v45, v46, hk2, H, rfl⟩
    cases k2 with
    | zero => cases H
    | succ k2 =>
      rw [Flaws_eqPairS.l2] at H
      refine WpC.seq ?_
      refine WpC.seq ?_
      refine WpC.regionL ?_
      refine L.move hF rfl rfl rfl ?_
      refine L.move hF rfl rfl rfl ?_
      refine L.lenR (xs := v44) (e := eTimpl_Pair) Try.underlying88 hF rfl rfl rfl rfl ?_
      refine L.bin hF rfl rfl rfl rfl rfl rfl ?_
      refine L.nil ?_
      refine WpC.cond rfl (fun hc => ?_) (fun hc => ?_)
      · replace H := condT hc H
        refine WpC.skip ?_
        refine WpC.seq ?_
        refine WpC.block ?_
        refine WpC.seq ?_
        obtain ⟨b50, hb50, H⟩ := bindS H
        obtain ⟨b51, hb51, H⟩ := bindS H
        obtain ⟨r52, hr52, H⟩ := bindS H
        refine A.begin mixed rfl rfl ?_
        intro W hI hO
        have n255 : W 2 #[true, true, true, true, true, true, true, true, false, false] (mkSt [(0, MG.one (Cell.sl g0 (List.map eTimpl_Pair v44))), (1, MG.one (Cell.sl g1 (List.map eTimpl_Pair v45))), (5, MG.one (cI v46)), (20, agg [cI b50.A, cI b50.B]), (24, agg [cI b51.A, cI b51.B])] [] [] 0) := by
          refine hI _ _ _ ?_
          refine A.all [8] (by kernel_rfl) rfl ⟨⟨_, rfl, ?_⟩, trivial⟩
          refine L.call [false, false] [] [] 0 hF rfl rfl rfl ent253 rfl rfl rfl rfl rfl (Flaws_eqPair_gives k2  b50 b51 r52 hr52) rfl ?_
          refine L.nil ?_
          refine A.take 9 rfl (by kernel_rfl) (by kernel_rfl) (by kernel_rfl) rfl (Ca.un rfl rfl) (fun Q0 k0 => L.not hF rfl rfl rfl (L.nil k0)) ?_
          refine A.le (τ := mkSt [(0, MG.one (Cell.sl g0 (List.map eTimpl_Pair v44))), (1, MG.one (Cell.sl g1 (List.map eTimpl_Pair v45))), (5, MG.one (cI v46)), (26, MG.one (cL (!r52)))] [] [] 0) (Le.mk [] hm rfl ⟨⟨_, rfl, rfl⟩, ⟨_, rfl, rfl⟩, ⟨_, rfl, rfl⟩, ⟨_, rfl, rfl⟩, trivial⟩ trivial trivial) ?_
          refine A.done (by kernel_rfl) ?_
          refine WpC.cond rfl (fun hc => ?_) (fun hc => ?_)
          · replace H := condT hc H
            refine WpC.seq ?_
            refine WpC.regionL ?_
            refine L.assign hF rfl rfl rfl ?_
            refine L.nil ?_
            refine WpC.ret ?_
            cases H
            exact Leaves.ret rfl rfl rfl ⟨rfl, rfl⟩
          · replace H := condF hc H
            refine WpC.skip ?_
            refine WpC.regionL ?_
            refine L.move hF rfl rfl rfl ?_
            refine L.bin hF rfl rfl rfl rfl rfl rfl ?_
            refine L.assign hF rfl rfl rfl ?_
            refine L.nil ?_
            exact ⟨k2, _, by omega, ⟨v44, v45, (IntKind.i64.wrap (v46 + (1 : Int))), by omega, H, rfl⟩, Le.mk [] hm rfl ⟨⟨_, rfl, rfl⟩, ⟨_, rfl, rfl⟩, ⟨_, rfl, rfl⟩, trivial⟩ trivial trivial⟩
        refine hI _ _ _ ?_
        refine A.take 0 rfl (by kernel_rfl) (by kernel_rfl) (by kernel_rfl) rfl (Ca.move) (fun Q0 k0 => L.move hF rfl rfl rfl (L.nil k0)) ?_
        refine A.take 1 rfl (by kernel_rfl) (by kernel_rfl) (by kernel_rfl) rfl (Ca.move) (fun Q0 k0 => L.move hF rfl rfl rfl (L.nil k0)) ?_
        refine A.take 2 rfl (by kernel_rfl) (by kernel_rfl) (by kernel_rfl) rfl (Ca.indexAddr) (fun Q0 k0 => L.idxR (xs := v44) (e := eTimpl_Pair) Try.underlying88 info256 hF rfl rfl rfl rfl rfl hb50 rfl rfl (L.nil k0)) ?_
        refine A.take 4 rfl (by kernel_rfl) (by kernel_rfl) (by kernel_rfl) rfl (Ca.move) (fun Q0 k0 => L.move hF rfl rfl rfl (L.nil k0)) ?_
        refine A.take 5 rfl (by kernel_rfl) (by kernel_rfl) (by kernel_rfl) rfl (Ca.move) (fun Q0 k0 => L.move hF rfl rfl rfl (L.nil k0)) ?_
        refine A.take 6 rfl (by kernel_rfl) (by kernel_rfl) (by kernel_rfl) rfl (Ca.indexAddr) (fun Q0 k0 => L.idxR (xs := v45) (e := eTimpl_Pair) Try.underlying88 info256 hF rfl rfl rfl rfl rfl hb51 rfl rfl (L.nil k0)) ?_
        refine A.all [3, 7] (by kernel_rfl) rfl ⟨⟨_, rfl, ?_⟩, ⟨_, rfl, ?_⟩, trivial⟩
        · refine L.loadPe shape256 hF rfl rfl rfl rfl rfl ?_
          refine L.nil ?_
          refine A.all [7] (by kernel_rfl) rfl ⟨⟨_, rfl, ?_⟩, trivial⟩
          refine L.loadPe shape256 hF rfl rfl rfl rfl rfl ?_
          refine L.nil ?_
          exact A.on (hO _ _ _ n255) (Le.mk [] hm rfl ⟨⟨_, rfl, rfl⟩, ⟨_, rfl, rfl⟩, ⟨_, rfl, rfl⟩, ⟨_, rfl, rfl⟩, ⟨_, rfl, rfl⟩, trivial⟩ trivial trivial)
        · refine L.loadPe shape256 hF rfl rfl rfl rfl rfl ?_
          refine L.nil ?_
          refine A.all [3] (by kernel_rfl) rfl ⟨⟨_, rfl, ?_⟩, trivial⟩
          refine L.loadPe shape256 hF rfl rfl rfl rfl rfl ?_
          refine L.nil ?_
          exact A.on (hO _ _ _ n255) (Le.mk [] hm rfl ⟨⟨_, rfl, rfl⟩, ⟨_, rfl, rfl⟩, ⟨_, rfl, rfl⟩, ⟨_, rfl, rfl⟩, ⟨_, rfl, rfl⟩, trivial⟩ trivial trivial)
      · replace H := condF hc H
        refine WpC.exit ?_
        refine WpC.seq ?_
        refine WpC.regionL ?_
        refine L.assign hF rfl rfl rfl ?_
        refine L.nil ?_
        refine WpC.ret ?_
        cases H
        exact Leaves.ret rfl rfl rfl ⟨rfl, rfl⟩
/-! ### Flaws_eqConfig -/
def Flaws_eqConfig (k : Nat) (a0 : Timpl_Config) (a1 : Timpl_Config) : Option Bool := (Flaws_eqIntS k a0.UserRealm a1.UserRealm).bind fun r2 => cond (!r2) (some false) ((Flaws_eqIntS k a0.ServiceRealm a1.ServiceRealm).bind fun r4 => cond (!r4) (some false) ((Flaws_eqPairS k a0.Links a1.Links).bind fun r6 => cond (!r6) (some false) ((Flaws_eqPairS k a0.Proxy a1.Proxy).bind fun r8 => cond (!r8) (some false) (cond (a0.Skew != a1.Skew) (some false) (some true)))))
theorem ent75 : MG.Enters Try.prog 75 := ⟨Try.f75, Try.func75, rfl, by decide⟩
set_option maxHeartbeats 8000000 in
set_option maxRecDepth 100000 in
theorem Flaws_eqConfig_gives (k : Nat) (g0 : Bool) (g1 : Bool) (g2 : Bool) (g3 : Bool) (g4 : Bool) (g5 : Bool) (g6 : Bool) (g7 : Bool) (a0 : Timpl_Config) (a1 : Timpl_Config) (r : Bool) (H : Flaws_eqConfig k a0 a1 = some r) : Gives Try.prog 75 [V.agg [Cell.sl g0 (List.map eI a0.UserRealm), Cell.sl g1 (List.map eI a0.ServiceRealm), Cell.sl g2 (List.map eTimpl_Pair a0.Links), Cell.sl g3 (List.map eTimpl_Pair a0.Proxy), cI a0.Skew], V.agg [Cell.sl g4 (List.map eI a1.UserRealm), Cell.sl g5 (List.map eI a1.ServiceRealm), Cell.sl g6 (List.map eTimpl_Pair a1.Links), Cell.sl g7 (List.map eTimpl_Pair a1.Proxy), cI a1.Skew]] [] [V.one (cL r)] [] := by
  refine Gives.intro Try.func75 rfl rfl rfl rfl ?_
  intro F hF hm
  unfold Flaws_eqConfig at H
  obtain ⟨K, hK⟩ : ∃ K, k ≤ K := ⟨k, Nat.le_refl k⟩
  refine WpC.seq ?_
  refine WpC.regionL ?_
  refine L.box 10 hF rfl rfl rfl rfl ?_
  refine L.box 11 hF rfl rfl rfl rfl ?_
  refine L.assign hF rfl rfl rfl ?_
  refine L.nil ?_
  refine WpC.seq ?_
  refine WpC.seq ?_
  refine WpC.regionL ?_
  refine L.fieldAddr Try.underlying90 rfl info24 rfl hF rfl rfl rfl rfl rfl ?_
  refine L.loadPtr shape24 hF rfl rfl rfl rfl rfl rfl ?_
  refine L.fieldAddr Try.underlying90 rfl info24 rfl hF rfl rfl rfl rfl rfl ?_
  refine L.loadPtr shape24 hF rfl rfl rfl rfl rfl rfl ?_
  obtain ⟨r2, hr2, H⟩ := bindS H
  refine L.call [false, false] [] [] 12 hF rfl rfl rfl ent26 rfl rfl rfl rfl rfl (Flaws_eqIntS_gives k g0 g4 a0.UserRealm a1.UserRealm r2 hr2) rfl ?_
  refine L.not hF rfl rfl rfl ?_
  refine L.nil ?_
  refine WpC.cond rfl (fun hc => ?_) (fun hc => ?_)
  · replace H := condT hc H
    refine WpC.seq ?_
    refine WpC.regionL ?_
    refine L.assign hF rfl rfl rfl ?_
    refine L.nil ?_
    refine WpC.ret ?_
    cases H
    exact Leaves.ret rfl rfl rfl ⟨rfl, rfl⟩
  · replace H := condF hc H
    refine WpC.skip ?_
    refine WpC.seq ?_
    refine WpC.seq ?_
    refine WpC.regionL ?_
    refine L.fieldAddr Try.underlying90 rfl info24 rfl hF rfl rfl rfl rfl rfl ?_
    refine L.loadPtr shape24 hF rfl rfl rfl rfl rfl rfl ?_
    refine L.fieldAddr Try.underlying90 rfl info24 rfl hF rfl rfl rfl rfl rfl ?_
    refine L.loadPtr shape24 hF rfl rfl rfl rfl rfl rfl ?_
    obtain ⟨r4, hr4, H⟩ := bindS H
    refine L.call [false, false] [] [] 13 hF rfl rfl rfl ent26 rfl rfl rfl rfl rfl (Flaws_eqIntS_gives k g1 g5 a0.ServiceRealm a1.ServiceRealm r4 hr4) rfl ?_
    refine L.not hF rfl rfl rfl ?_
    refine L.nil ?_
    refine WpC.cond rfl (fun hc => ?_) (fun hc => ?_)
    · replace H := condT hc H
      refine WpC.seq ?_
      refine WpC.regionL ?_
      refine L.assign hF rfl rfl rfl ?_
      refine L.nil ?_
      refine WpC.ret ?_
      cases H
      exact Leaves.ret rfl rfl rfl ⟨rfl, rfl⟩
    · replace H := condF hc H
      refine WpC.skip ?_
      refine WpC.seq ?_
      refine WpC.seq ?_
      refine WpC.regionL ?_
      refine L.fieldAddr Try.underlying90 rfl info88 rfl hF rfl rfl rfl rfl rfl ?_
      refine L.loadPtr shape88 hF rfl rfl rfl rfl rfl rfl ?_
      refine L.fieldAddr Try.underlying90 rfl info88 rfl hF rfl rfl rfl rfl rfl ?_
      refine L.loadPtr shape88 hF rfl rfl rfl rfl rfl rfl ?_
      obtain ⟨r6, hr6, H⟩ := bindS H
      refine L.call [false, false] [] [] 14 hF rfl rfl rfl ent162 rfl rfl rfl rfl rfl (Flaws_eqPairS_gives k g2 g6 a0.Links a1.Links r6 hr6) rfl ?_
      refine L.not hF rfl rfl rfl ?_
      refine L.nil ?_
      refine WpC.cond rfl (fun hc => ?_) (fun hc => ?_)
      · replace H := condT hc H
        refine WpC.seq ?_
        refine WpC.regionL ?_
        refine L.assign hF rfl rfl rfl ?_
        refine L.nil ?_
        refine WpC.ret ?_
        cases H
        exact Leaves.ret rfl rfl rfl ⟨rfl, rfl⟩
      · replace H := condF hc H
        refine WpC.skip ?_
        refine WpC.seq ?_
        refine WpC.seq ?_
        refine WpC.regionL ?_
        refine L.fieldAddr Try.underlying90 rfl info88 rfl hF rfl rfl rfl rfl rfl ?_
        refine L.loadPtr shape88 hF rfl rfl rfl rfl rfl rfl ?_
        refine L.fieldAddr Try.underlying90 rfl info88 rfl hF rfl rfl rfl rfl rfl ?_
        refine L.loadPtr shape88 hF rfl rfl rfl rfl rfl rfl ?_
        obtain ⟨r8, hr8, H⟩ := bindS H
        refine L.call [false, false] [] [] 15 hF rfl rfl rfl ent162 rfl rfl rfl rfl rfl (Flaws_eqPairS_gives k g3 g7 a0.Proxy a1.Proxy r8 hr8) rfl ?_
        refine L.not hF rfl rfl rfl ?_
        refine L.nil ?_
        refine WpC.cond rfl (fun hc => ?_) (fun hc => ?_)
        · replace H := condT hc H
          refine WpC.seq ?_
          refine WpC.regionL ?_
          refine L.assign hF rfl rfl rfl ?_
          refine L.nil ?_
          refine WpC.ret ?_
          cases H
          exact Leaves.ret rfl rfl rfl ⟨rfl, rfl⟩
        · replace H := condF hc H
          refine WpC.skip ?_
          refine WpC.seq ?_
          refine WpC.seq ?_
          refine WpC.regionL ?_
          refine L.fieldAddr Try.underlying90 rfl info3 rfl hF rfl rfl rfl rfl rfl ?_
          refine L.loadPtr shape3 hF rfl rfl rfl rfl rfl rfl ?_
          refine L.fieldAddr Try.underlying90 rfl info3 rfl hF rfl rfl rfl rfl rfl ?_
          refine L.loadPtr shape3 hF rfl rfl rfl rfl rfl rfl ?_
          refine L.bin hF rfl rfl rfl rfl rfl rfl ?_
          refine L.nil ?_
          refine WpC.cond rfl (fun hc => ?_) (fun hc => ?_)
          · replace H := condT hc H
            refine WpC.seq ?_
            refine WpC.regionL ?_
            refine L.assign hF rfl rfl rfl ?_
            refine L.nil ?_
            refine WpC.ret ?_
            cases H
            exact Leaves.ret rfl rfl rfl ⟨rfl, rfl⟩
          · replace H := condF hc H
            refine WpC.skip ?_
            refine WpC.seq ?_
            refine WpC.regionL ?_
            refine L.assign hF rfl rfl rfl ?_
            refine L.nil ?_
            refine WpC.ret ?_
            cases H
            exact Leaves.ret rfl rfl rfl ⟨rfl, rfl⟩
/-! ### Flaws_eqAuth -/
def Flaws_eqAuth (k : Nat) (a0 : Timpl_Auth) (a1 : Timpl_Auth) : Option Bool := cond (a0.Client != a1.Client) (some false) (cond (a0.Time != a1.Time) (some false) (cond (a0.Seq != a1.Seq) (some false) (some true)))
theorem ent188 : MG.Enters Try.prog 188 := ⟨Try.f188, Try.func188, rfl, by decide⟩
set_option maxHeartbeats 8000000 in
set_option maxRecDepth 100000 in
theorem Flaws_eqAuth_gives (k : Nat) (a0 : Timpl_Auth) (a1 : Timpl_Auth) (r : Bool) (H : Flaws_eqAuth k a0 a1 = some r) : Gives Try.prog 188 [V.agg [cI a0.Client, cI a0.Time, cI a0.Seq], V.agg [cI a1.Client, cI a1.Time, cI a1.Seq]] [] [V.one (cL r)] [] := by
  refine Gives.intro Try.func188 rfl rfl rfl rfl ?_
  intro F hF hm
  unfold Flaws_eqAuth at H
  obtain ⟨K, hK⟩ : ∃ K, k ≤ K := ⟨k, Nat.le_refl k⟩
  refine WpC.seq ?_
  refine WpC.regionL ?_
  refine L.box 6 hF rfl rfl rfl rfl ?_
  refine L.box 7 hF rfl rfl rfl rfl ?_
  refine L.assign hF rfl rfl rfl ?_
  refine L.nil ?_
  refine WpC.seq ?_
  refine WpC.seq ?_
  refine WpC.regionL ?_
  refine L.fieldAddr Try.underlying111 rfl info3 rfl hF rfl rfl rfl rfl rfl ?_
  refine L.loadPtr shape3 hF rfl rfl rfl rfl rfl rfl ?_
  refine L.fieldAddr Try.underlying111 rfl info3 rfl hF rfl rfl rfl rfl rfl ?_
  refine L.loadPtr shape3 hF rfl rfl rfl rfl rfl rfl ?_
  refine L.bin hF rfl rfl rfl rfl rfl rfl ?_
  refine L.nil ?_
  refine WpC.cond rfl (fun hc => ?_) (fun hc => ?_)
  · replace H := condT hc H
    refine WpC.seq ?_
    refine WpC.regionL ?_
    refine L.assign hF rfl rfl rfl ?_
    refine L.nil ?_
    refine WpC.ret ?_
    cases H
    exact Leaves.ret rfl rfl rfl ⟨rfl, rfl⟩
  · replace H := condF hc H
    refine WpC.skip ?_
    refine WpC.seq ?_
    refine WpC.seq ?_
    refine WpC.regionL ?_
    refine L.fieldAddr Try.underlying111 rfl info3 rfl hF rfl rfl rfl rfl rfl ?_
    refine L.loadPtr shape3 hF rfl rfl rfl rfl rfl rfl ?_
    refine L.fieldAddr Try.underlying111 rfl info3 rfl hF rfl rfl rfl rfl rfl ?_
    refine L.loadPtr shape3 hF rfl rfl rfl rfl rfl rfl ?_
    refine L.bin hF rfl rfl rfl rfl rfl rfl ?_
    refine L.nil ?_
    refine WpC.cond rfl (fun hc => ?_) (fun hc => ?_)
    · replace H := condT hc H
      refine WpC.seq ?_
      refine WpC.regionL ?_
      refine L.assign hF rfl rfl rfl ?_
      refine L.nil ?_
      refine WpC.ret ?_
      cases H
      exact Leaves.ret rfl rfl rfl ⟨rfl, rfl⟩
    · replace H := condF hc H
      refine WpC.skip ?_
      refine WpC.seq ?_
      refine WpC.seq ?_
      refine WpC.regionL ?_
      refine L.fieldAddr Try.underlying111 rfl info3 rfl hF rfl rfl rfl rfl rfl ?_
      refine L.loadPtr shape3 hF rfl rfl rfl rfl rfl rfl ?_
      refine L.fieldAddr Try.underlying111 rfl info3 rfl hF rfl rfl rfl rfl rfl ?_
      refine L.loadPtr shape3 hF rfl rfl rfl rfl rfl rfl ?_
      refine L.bin hF rfl rfl rfl rfl rfl rfl ?_
      refine L.nil ?_
      refine WpC.cond rfl (fun hc => ?_) (fun hc => ?_)
      · replace H := condT hc H
        refine WpC.seq ?_
        refine WpC.regionL ?_
        refine L.assign hF rfl rfl rfl ?_
        refine L.nil ?_
        refine WpC.ret ?_
        cases H
        exact Leaves.ret rfl rfl rfl ⟨rfl, rfl⟩
      · replace H := condF hc H
        refine WpC.skip ?_
        refine WpC.seq ?_
        refine WpC.regionL ?_
        refine L.assign hF rfl rfl rfl ?_
        refine L.nil ?_
        refine WpC.ret ?_
        cases H
        exact Leaves.ret rfl rfl rfl ⟨rfl, rfl⟩
/-! ### Flaws_eqRest -/
def Flaws_eqRest (k : Nat) (a0 : Timpl_Rest) (a1 : Timpl_Rest) : Option Bool := cond (a0.Servers != a1.Servers) (some false) (cond (a0.Ops != a1.Ops) (some false) (cond (a0.End != a1.End) (some false) (some true)))
theorem ent147 : MG.Enters Try.prog 147 := ⟨Try.f147, Try.func147, rfl, by decide⟩
set_option maxHeartbeats 8000000 in
set_option maxRecDepth 100000 in
theorem Flaws_eqRest_gives (k : Nat) (a0 : Timpl_Rest) (a1 : Timpl_Rest) (r : Bool) (H : Flaws_eqRest k a0 a1 = some r) : Gives Try.prog 147 [V.agg [cI a0.Servers, cI a0.Ops, cI a0.End], V.agg [cI a1.Servers, cI a1.Ops, cI a1.End]] [] [V.one (cL r)] [] := by
  refine Gives.intro Try.func147 rfl rfl rfl rfl ?_
  intro F hF hm
  unfold Flaws_eqRest at H
  obtain ⟨K, hK⟩ : ∃ K, k ≤ K := ⟨k, Nat.le_refl k⟩
  refine WpC.seq ?_
  refine WpC.regionL ?_
  refine L.box 6 hF rfl rfl rfl rfl ?_
  refine L.box 7 hF rfl rfl rfl rfl ?_
  refine L.assign hF rfl rfl rfl ?_
  refine L.nil ?_
  refine WpC.seq ?_
  refine WpC.seq ?_
  refine WpC.regionL ?_
  refine L.fieldAddr Try.underlying74 rfl info3 rfl hF rfl rfl rfl rfl rfl ?_
  refine L.loadPtr shape3 hF rfl rfl rfl rfl rfl rfl ?_
  refine L.fieldAddr Try.underlying74 rfl info3 rfl hF rfl rfl rfl rfl rfl ?_
  refine L.loadPtr shape3 hF rfl rfl rfl rfl rfl rfl ?_
  refine L.bin hF rfl rfl rfl rfl rfl rfl ?_
  refine L.nil ?_
  refine WpC.cond rfl (fun hc => ?_) (fun hc => ?_)
  · replace H := condT hc H
    refine WpC.seq ?_
    refine WpC.regionL ?_
    refine L.assign hF rfl rfl rfl ?_
    refine L.nil ?_
    refine WpC.ret ?_
    cases H
    exact Leaves.ret rfl rfl rfl ⟨rfl, rfl⟩
  · replace H := condF hc H
    refine WpC.skip ?_
    refine WpC.seq ?_
    refine WpC.seq ?_
    refine WpC.regionL ?_
    refine L.fieldAddr Try.underlying74 rfl info3 rfl hF rfl rfl rfl rfl rfl ?_
    refine L.loadPtr shape3 hF rfl rfl rfl rfl rfl rfl ?_
    refine L.fieldAddr Try.underlying74 rfl info3 rfl hF rfl rfl rfl rfl rfl ?_
    refine L.loadPtr shape3 hF rfl rfl rfl rfl rfl rfl ?_
    refine L.bin hF rfl rfl rfl rfl rfl rfl ?_
    refine L.nil ?_
    refine WpC.cond rfl (fun hc => ?_) (fun hc => ?_)
    · replace H := condT hc H
      refine WpC.seq ?_
      refine WpC.regionL ?_
      refine L.assign hF rfl rfl rfl ?_
      refine L.nil ?_
      refine WpC.ret ?_
      cases H
      exact Leaves.ret rfl rfl rfl ⟨rfl, rfl⟩
    · replace H := condF hc H
      refine WpC.skip ?_
      refine WpC.seq ?_
      refine WpC.seq ?_
      refine WpC.regionL ?_
      refine L.fieldAddr Try.underlying74 rfl info3 rfl hF rfl rfl rfl rfl rfl ?_
      refine L.loadPtr shape3 hF rfl rfl rfl rfl rfl rfl ?_
      refine L.fieldAddr Try.underlying74 rfl info3 rfl hF rfl rfl rfl rfl rfl ?_
      refine L.loadPtr shape3 hF rfl rfl rfl rfl rfl rfl ?_
      refine L.bin hF rfl rfl rfl rfl rfl rfl ?_
      refine L.nil ?_
      refine WpC.cond rfl (fun hc => ?_) (fun hc => ?_)
      · replace H := condT hc H
        refine WpC.seq ?_
        refine WpC.regionL ?_
        refine L.assign hF rfl rfl rfl ?_
        refine L.nil ?_
        refine WpC.ret ?_
        cases H
        exact Leaves.ret rfl rfl rfl ⟨rfl, rfl⟩
      · replace H := condF hc H
        refine WpC.skip ?_
        refine WpC.seq ?_
        refine WpC.regionL ?_
        refine L.assign hF rfl rfl rfl ?_
        refine L.nil ?_
        refine WpC.ret ?_
        cases H
        exact Leaves.ret rfl rfl rfl ⟨rfl, rfl⟩
/-! ### Flaws_eqAccept -/
def Flaws_eqAccept (k : Nat) (a0 : Timpl_Accept) (a1 : Timpl_Accept) : Option Bool := cond (a0.Server != a1.Server) (some false) (cond (a0.Client != a1.Client) (some false) (cond (a0.Key != a1.Key) (some false) (cond (a0.Op != a1.Op) (some false) (cond (a0.Now != a1.Now) (some false) ((Flaws_eqAuth k (⟨a0.Auth.Client, a0.Auth.Time, a0.Auth.Seq⟩ : Timpl_Auth) (⟨a1.Auth.Client, a1.Auth.Time, a1.Auth.Seq⟩ : Timpl_Auth)).bind fun r2 => cond (!r2) (some false) ((Flaws_eqRest k (⟨a0.Rest.Servers, a0.Rest.Ops, a0.Rest.End⟩ : Timpl_Rest) (⟨a1.Rest.Servers, a1.Rest.Ops, a1.Rest.End⟩ : Timpl_Rest)).bind fun r4 => cond (!r4) (some false) ((Flaws_eqIntS k a0.Path a1.Path).bind fun r6 => cond (!r6) (some false) ((Flaws_eqIntS k a0.Via a1.Via).bind fun r8 => cond (!r8) (some false) (cond (a0.Leaks != a1.Leaks) (some false) (cond (a0.Ticket != a1.Ticket) (some false) (some true)))))))))))
theorem ent91 : MG.Enters Try.prog 91 := ⟨Try.f91, Try.func91, rfl, by decide⟩
set_option maxHeartbeats 8000000 in
set_option maxRecDepth 100000 in
theorem Flaws_eqAccept_gives (k : Nat) (g0 : Bool) (g1 : Bool) (g2 : Bool) (g3 : Bool) (a0 : Timpl_Accept) (a1 : Timpl_Accept) (r : Bool) (H : Flaws_eqAccept k a0 a1 = some r) : Gives Try.prog 91 [V.agg [cI a0.Server, cI a0.Client, cI a0.Key, cI a0.Op, cI a0.Now, cI a0.Auth.Client, cI a0.Auth.Time, cI a0.Auth.Seq, cI a0.Rest.Servers, cI a0.Rest.Ops, cI a0.Rest.End, Cell.sl g0 (List.map eI a0.Path), Cell.sl g1 (List.map eI a0.Via), cI a0.Leaks, cS a0.Ticket], V.agg [cI a1.Server, cI a1.Client, cI a1.Key, cI a1.Op, cI a1.Now, cI a1.Auth.Client, cI a1.Auth.Time, cI a1.Auth.Seq, cI a1.Rest.Servers, cI a1.Rest.Ops, cI a1.Rest.End, Cell.sl g2 (List.map eI a1.Path), Cell.sl g3 (List.map eI a1.Via), cI a1.Leaks, cS a1.Ticket]] [] [V.one (cL r)] [] := by
  refine Gives.intro Try.func91 rfl rfl rfl rfl ?_
  intro F hF hm
  unfold Flaws_eqAccept at H
  obtain ⟨K, hK⟩ : ∃ K, k ≤ K := ⟨k, Nat.le_refl k⟩
  refine WpC.seq ?_
  refine WpC.regionL ?_
  refine L.box 30 hF rfl rfl rfl rfl ?_
  refine L.box 31 hF rfl rfl rfl rfl ?_
  refine L.assign hF rfl rfl rfl ?_
  refine L.nil ?_
  refine WpC.seq ?_
  refine WpC.seq ?_
  refine WpC.regionL ?_
  refine L.fieldAddr Try.underlying113 rfl info3 rfl hF rfl rfl rfl rfl rfl ?_
  refine L.loadPtr shape3 hF rfl rfl rfl rfl rfl rfl ?_
  refine L.fieldAddr Try.underlying113 rfl info3 rfl hF rfl rfl rfl rfl rfl ?_
  refine L.loadPtr shape3 hF rfl rfl rfl rfl rfl rfl ?_
  refine L.bin hF rfl rfl rfl rfl rfl rfl ?_
  refine L.nil ?_
  refine WpC.cond rfl (fun hc => ?_) (fun hc => ?_)
  · replace H := condT hc H
    refine WpC.seq ?_
    refine WpC.regionL ?_
    refine L.assign hF rfl rfl rfl ?_
    refine L.nil ?_
    refine WpC.ret ?_
    cases H
    exact Leaves.ret rfl rfl rfl ⟨rfl, rfl⟩
  · replace H := condF hc H
    refine WpC.skip ?_
    refine WpC.seq ?_
    refine WpC.seq ?_
    refine WpC.regionL ?_
    refine L.fieldAddr Try.underlying113 rfl info3 rfl hF rfl rfl rfl rfl rfl ?_
    refine L.loadPtr shape3 hF rfl rfl rfl rfl rfl rfl ?_
    refine L.fieldAddr Try.underlying113 rfl info3 rfl hF rfl rfl rfl rfl rfl ?_
    refine L.loadPtr shape3 hF rfl rfl rfl rfl rfl rfl ?_
    refine L.bin hF rfl rfl rfl rfl rfl rfl ?_
    refine L.nil ?_
    refine WpC.cond rfl (fun hc => ?_) (fun hc => ?_)
    · replace H := condT hc H
      refine WpC.seq ?_
      refine WpC.regionL ?_
      refine L.assign hF rfl rfl rfl ?_
      refine L.nil ?_
      refine WpC.ret ?_
      cases H
      exact Leaves.ret rfl rfl rfl ⟨rfl, rfl⟩
    · replace H := condF hc H
      refine WpC.skip ?_
      refine WpC.seq ?_
      refine WpC.seq ?_
      refine WpC.regionL ?_
      refine L.fieldAddr Try.underlying113 rfl info3 rfl hF rfl rfl rfl rfl rfl ?_
      refine L.loadPtr shape3 hF rfl rfl rfl rfl rfl rfl ?_
      refine L.fieldAddr Try.underlying113 rfl info3 rfl hF rfl rfl rfl rfl rfl ?_
      refine L.loadPtr shape3 hF rfl rfl rfl rfl rfl rfl ?_
      refine L.bin hF rfl rfl rfl rfl rfl rfl ?_
      refine L.nil ?_
      refine WpC.cond rfl (fun hc => ?_) (fun hc => ?_)
      · replace H := condT hc H
        refine WpC.seq ?_
        refine WpC.regionL ?_
        refine L.assign hF rfl rfl rfl ?_
        refine L.nil ?_
        refine WpC.ret ?_
        cases H
        exact Leaves.ret rfl rfl rfl ⟨rfl, rfl⟩
      · replace H := condF hc H
        refine WpC.skip ?_
        refine WpC.seq ?_
        refine WpC.seq ?_
        refine WpC.regionL ?_
        refine L.fieldAddr Try.underlying113 rfl info3 rfl hF rfl rfl rfl rfl rfl ?_
        refine L.loadPtr shape3 hF rfl rfl rfl rfl rfl rfl ?_
        refine L.fieldAddr Try.underlying113 rfl info3 rfl hF rfl rfl rfl rfl rfl ?_
        refine L.loadPtr shape3 hF rfl rfl rfl rfl rfl rfl ?_
        refine L.bin hF rfl rfl rfl rfl rfl rfl ?_
        refine L.nil ?_
        refine WpC.cond rfl (fun hc => ?_) (fun hc => ?_)
        · replace H := condT hc H
          refine WpC.seq ?_
          refine WpC.regionL ?_
          refine L.assign hF rfl rfl rfl ?_
          refine L.nil ?_
          refine WpC.ret ?_
          cases H
          exact Leaves.ret rfl rfl rfl ⟨rfl, rfl⟩
        · replace H := condF hc H
          refine WpC.skip ?_
          refine WpC.seq ?_
          refine WpC.seq ?_
          refine WpC.regionL ?_
          refine L.fieldAddr Try.underlying113 rfl info3 rfl hF rfl rfl rfl rfl rfl ?_
          refine L.loadPtr shape3 hF rfl rfl rfl rfl rfl rfl ?_
          refine L.fieldAddr Try.underlying113 rfl info3 rfl hF rfl rfl rfl rfl rfl ?_
          refine L.loadPtr shape3 hF rfl rfl rfl rfl rfl rfl ?_
          refine L.bin hF rfl rfl rfl rfl rfl rfl ?_
          refine L.nil ?_
          refine WpC.cond rfl (fun hc => ?_) (fun hc => ?_)
          · replace H := condT hc H
            refine WpC.seq ?_
            refine WpC.regionL ?_
            refine L.assign hF rfl rfl rfl ?_
            refine L.nil ?_
            refine WpC.ret ?_
            cases H
            exact Leaves.ret rfl rfl rfl ⟨rfl, rfl⟩
          · replace H := condF hc H
            refine WpC.skip ?_
            refine WpC.seq ?_
            refine WpC.seq ?_
            refine WpC.regionL ?_
            refine L.fieldAddr Try.underlying113 rfl info111 rfl hF rfl rfl rfl rfl rfl ?_
            refine L.loadPtr shape111 hF rfl rfl rfl rfl rfl rfl ?_
            refine L.fieldAddr Try.underlying113 rfl info111 rfl hF rfl rfl rfl rfl rfl ?_
            refine L.loadPtr shape111 hF rfl rfl rfl rfl rfl rfl ?_
            obtain ⟨r2, hr2, H⟩ := bindS H
            refine L.call [false, false] [] [] 32 hF rfl rfl rfl ent188 rfl rfl rfl rfl rfl (Flaws_eqAuth_gives k  (⟨a0.Auth.Client, a0.Auth.Time, a0.Auth.Seq⟩ : Timpl_Auth) (⟨a1.Auth.Client, a1.Auth.Time, a1.Auth.Seq⟩ : Timpl_Auth) r2 hr2) rfl ?_
            refine L.not hF rfl rfl rfl ?_
            refine L.nil ?_
            refine WpC.cond rfl (fun hc => ?_) (fun hc => ?_)
            · replace H := condT hc H
              refine WpC.seq ?_
              refine WpC.regionL ?_
              refine L.assign hF rfl rfl rfl ?_
              refine L.nil ?_
              refine WpC.ret ?_
              cases H
              exact Leaves.ret rfl rfl rfl ⟨rfl, rfl⟩
            · replace H := condF hc H
              refine WpC.skip ?_
              refine WpC.seq ?_
              refine WpC.seq ?_
              refine WpC.regionL ?_
              refine L.fieldAddr Try.underlying113 rfl info74 rfl hF rfl rfl rfl rfl rfl ?_
              refine L.loadPtr shape74 hF rfl rfl rfl rfl rfl rfl ?_
              refine L.fieldAddr Try.underlying113 rfl info74 rfl hF rfl rfl rfl rfl rfl ?_
              refine L.loadPtr shape74 hF rfl rfl rfl rfl rfl rfl ?_
              obtain ⟨r4, hr4, H⟩ := bindS H
              refine L.call [false, false] [] [] 33 hF rfl rfl rfl ent147 rfl rfl rfl rfl rfl (Flaws_eqRest_gives k  (⟨a0.Rest.Servers, a0.Rest.Ops, a0.Rest.End⟩ : Timpl_Rest) (⟨a1.Rest.Servers, a1.Rest.Ops, a1.Rest.End⟩ : Timpl_Rest) r4 hr4) rfl ?_
              refine L.not hF rfl rfl rfl ?_
              refine L.nil ?_
              refine WpC.cond rfl (fun hc => ?_) (fun hc => ?_)
              · replace H := condT hc H
                refine WpC.seq ?_
                refine WpC.regionL ?_
                refine L.assign hF rfl rfl rfl ?_
                refine L.nil ?_
                refine WpC.ret ?_
                cases H
                exact Leaves.ret rfl rfl rfl ⟨rfl, rfl⟩
              · replace H := condF hc H
                refine WpC.skip ?_
                refine WpC.seq ?_
                refine WpC.seq ?_
                refine WpC.regionL ?_
                refine L.fieldAddr Try.underlying113 rfl info24 rfl hF rfl rfl rfl rfl rfl ?_
                refine L.loadPtr shape24 hF rfl rfl rfl rfl rfl rfl ?_
                refine L.fieldAddr Try.underlying113 rfl info24 rfl hF rfl rfl rfl rfl rfl ?_
                refine L.loadPtr shape24 hF rfl rfl rfl rfl rfl rfl ?_
                obtain ⟨r6, hr6, H⟩ := bindS H
                refine L.call [false, false] [] [] 34 hF rfl rfl rfl ent26 rfl rfl rfl rfl rfl (Flaws_eqIntS_gives k g0 g2 a0.Path a1.Path r6 hr6) rfl ?_
                refine L.not hF rfl rfl rfl ?_
                refine L.nil ?_
                refine WpC.cond rfl (fun hc => ?_) (fun hc => ?_)
                · replace H := condT hc H
                  refine WpC.seq ?_
                  refine WpC.regionL ?_
                  refine L.assign hF rfl rfl rfl ?_
                  refine L.nil ?_
                  refine WpC.ret ?_
                  cases H
                  exact Leaves.ret rfl rfl rfl ⟨rfl, rfl⟩
                · replace H := condF hc H
                  refine WpC.skip ?_
                  refine WpC.seq ?_
                  refine WpC.seq ?_
                  refine WpC.regionL ?_
                  refine L.fieldAddr Try.underlying113 rfl info24 rfl hF rfl rfl rfl rfl rfl ?_
                  refine L.loadPtr shape24 hF rfl rfl rfl rfl rfl rfl ?_
                  refine L.fieldAddr Try.underlying113 rfl info24 rfl hF rfl rfl rfl rfl rfl ?_
                  refine L.loadPtr shape24 hF rfl rfl rfl rfl rfl rfl ?_
                  obtain ⟨r8, hr8, H⟩ := bindS H
                  refine L.call [false, false] [] [] 35 hF rfl rfl rfl ent26 rfl rfl rfl rfl rfl (Flaws_eqIntS_gives k g1 g3 a0.Via a1.Via r8 hr8) rfl ?_
                  refine L.not hF rfl rfl rfl ?_
                  refine L.nil ?_
                  refine WpC.cond rfl (fun hc => ?_) (fun hc => ?_)
                  · replace H := condT hc H
                    refine WpC.seq ?_
                    refine WpC.regionL ?_
                    refine L.assign hF rfl rfl rfl ?_
                    refine L.nil ?_
                    refine WpC.ret ?_
                    cases H
                    exact Leaves.ret rfl rfl rfl ⟨rfl, rfl⟩
                  · replace H := condF hc H
                    refine WpC.skip ?_
                    refine WpC.seq ?_
                    refine WpC.seq ?_
                    refine WpC.regionL ?_
                    refine L.fieldAddr Try.underlying113 rfl info3 rfl hF rfl rfl rfl rfl rfl ?_
                    refine L.loadPtr shape3 hF rfl rfl rfl rfl rfl rfl ?_
                    refine L.fieldAddr Try.underlying113 rfl info3 rfl hF rfl rfl rfl rfl rfl ?_
                    refine L.loadPtr shape3 hF rfl rfl rfl rfl rfl rfl ?_
                    refine L.bin hF rfl rfl rfl rfl rfl rfl ?_
                    refine L.nil ?_
                    refine WpC.cond rfl (fun hc => ?_) (fun hc => ?_)
                    · replace H := condT hc H
                      refine WpC.seq ?_
                      refine WpC.regionL ?_
                      refine L.assign hF rfl rfl rfl ?_
                      refine L.nil ?_
                      refine WpC.ret ?_
                      cases H
                      exact Leaves.ret rfl rfl rfl ⟨rfl, rfl⟩
                    · replace H := condF hc H
                      refine WpC.skip ?_
                      refine WpC.seq ?_
                      refine WpC.seq ?_
                      refine WpC.regionL ?_
                      refine L.fieldAddr Try.underlying113 rfl info9 rfl hF rfl rfl rfl rfl rfl ?_
                      refine L.loadPtr shape9 hF rfl rfl rfl rfl rfl rfl ?_
                      refine L.fieldAddr Try.underlying113 rfl info9 rfl hF rfl rfl rfl rfl rfl ?_
                      refine L.loadPtr shape9 hF rfl rfl rfl rfl rfl rfl ?_
                      refine L.binS hF rfl rfl rfl rfl rfl ?_
                      refine L.nil ?_
                      refine WpC.cond rfl (fun hc => ?_) (fun hc => ?_)
                      · replace H := condT hc H
                        refine WpC.seq ?_
                        refine WpC.regionL ?_
                        refine L.assign hF rfl rfl rfl ?_
                        refine L.nil ?_
                        refine WpC.ret ?_
                        cases H
                        exact Leaves.ret rfl rfl rfl ⟨rfl, rfl⟩
                      · replace H := condF hc H
                        refine WpC.skip ?_
                        refine WpC.seq ?_
                        refine WpC.regionL ?_
                        refine L.assign hF rfl rfl rfl ?_
                        refine L.nil ?_
                        refine WpC.ret ?_
                        cases H
                        exact Leaves.ret rfl rfl rfl ⟨rfl, rfl⟩
/-! ### Flaws_markIntS -/
def Flaws_markIntS.l2 : Nat → (List Int) → Int → Int → Option (Int × List Int)
  | 0, _, _, _ => none
  | k2 + 1, v24, v25, v26 => cond (decide (v26 < (v24.length : Int))) ((at? v24 v26).bind fun b28 => (Flaws_markIntS.l2 k2) (v24.set v26.toNat v25) (IntKind.i64.wrap (v25 + (1 : Int))) (IntKind.i64.wrap (v26 + (1 : Int)))) (some (v25, v24))
def Flaws_markIntS (k : Nat) (a0 : List Int) (a1 : Int) : Option (Int × List Int) := Flaws_markIntS.l2 k a0 a1 (0 : Int)
theorem ent29 : MG.Enters Try.prog 29 := ⟨Try.f29, Try.func29, rfl, by decide⟩
set_option maxHeartbeats 8000000 in
set_option maxRecDepth 100000 in
theorem Flaws_markIntS_gives (k : Nat) (a0 : List Int) (a1 : Int) (r : Int × List Int) (H : Flaws_markIntS k a0 a1 = some r) : GivesB Try.prog 29 [V.one (Cell.ow 1 (List.map eI a0)), V.one (cI a1)] [] [0] [V.one (cI r.1)] [] [V.one (Cell.ow 1 (List.map eI r.2))] := by
  refine GivesB.intro Try.func29 rfl rfl rfl rfl rfl rfl ?_
  intro F hF hm
  unfold Flaws_markIntS at H
  obtain ⟨K, hK⟩ : ∃ K, k ≤ K := ⟨k, Nat.le_refl k⟩
  refine WpC.seq ?_
  refine WpC.regionL ?_
  refine L.assign hF rfl rfl rfl ?_
  refine L.nil ?_
  refine WpC.seq ?_
  refine WpC.seq ?_
  refine WpC.regionL ?_
  refine L.assign hF rfl rfl rfl ?_
  refine L.nil ?_
  refine WpC.block ?_
  refine WpC.loopL (P := Try.prog) (fun n σ => ∃ v24 : List Int, ∃ v25 : Int, ∃ v26 : Int, n ≤ K ∧ Flaws_markIntS.l2 n v24 v25 v26 = some r ∧ σ = mkSt [(0, MG.one (Cell.own 0)), (1, MG.one (cI v25)), (5, MG.one (cI v26))] [(0, ⟨1, List.map eI v24⟩)] [] 2) k ⟨_, ⟨a0, a1, (0 : Int), by omega, H, rfl⟩, Le.mk [(0, 0)] hm rfl ⟨⟨_, rfl, rfl⟩, ⟨_, rfl, rfl⟩, ⟨_, rfl, rfl⟩, trivial⟩ ⟨⟨_, rfl, rfl⟩, trivial⟩ trivial⟩ ?_
  clear H
  rintro k2 _ ⟨v24, v25, v26, hk2, H, rfl⟩
  cases k2 with
  | zero => cases H
  | succ k2 =>
    rw [Flaws_markIntS.l2] at H
    refine WpC.seq ?_
    refine WpC.seq ?_
    refine WpC.regionL ?_
    refine L.move hF rfl rfl rfl ?_
    refine L.move hF rfl rfl rfl ?_
    refine L.lenR (xs := v24) (e := eI) Try.underlying24 hF rfl rfl rfl rfl ?_
    refine L.bin hF rfl rfl rfl rfl rfl rfl ?_
    refine L.nil ?_
    refine WpC.cond rfl (fun hc => ?_) (fun hc => ?_)
    · replace H := condT hc H
      refine WpC.skip ?_
      refine WpC.seq ?_
      refine WpC.block ?_
      refine WpC.seq ?_
      refine WpC.regionL ?_
      refine L.move hF rfl rfl rfl ?_
      refine L.move hF rfl rfl rfl ?_
      refine L.move hF rfl rfl rfl ?_
      obtain ⟨b28, hb28, H⟩ := bindS H
      refine L.idxR (xs := v24) (e := eI) Try.underlying24 info3 hF rfl rfl rfl rfl rfl hb28 rfl rfl ?_
      refine L.storeEp (xs := v24) (e := eI) (a' := v25) shape3 hF rfl rfl rfl rfl rfl rfl rfl (at?_get hb28).2 rfl rfl ?_
      refine L.nil ?_
      refine WpC.regionL ?_
      refine L.move hF rfl rfl rfl ?_
      refine L.bin hF rfl rfl rfl rfl rfl rfl ?_
      refine L.assign hF rfl rfl rfl ?_
      refine L.nil ?_
      refine WpC.regionL ?_
      refine L.move hF rfl rfl rfl ?_
      refine L.bin hF rfl rfl rfl rfl rfl rfl ?_
      refine L.assign hF rfl rfl rfl ?_
      refine L.nil ?_
      exact ⟨k2, _, by omega, ⟨(v24.set v26.toNat v25), (IntKind.i64.wrap (v25 + (1 : Int))), (IntKind.i64.wrap (v26 + (1 : Int))), by omega, H, rfl⟩, Le.mk [(0, 0)] hm rfl ⟨⟨_, rfl, rfl⟩, ⟨_, rfl, rfl⟩, ⟨_, rfl, rfl⟩, trivial⟩ ⟨⟨_, rfl, rfl⟩, trivial⟩ trivial⟩
    · replace H := condF hc H
      refine WpC.exit ?_
      refine WpC.seq ?_
      refine WpC.regionL ?_
      refine L.move hF rfl rfl rfl ?_
      refine L.assign hF rfl rfl rfl ?_
      refine L.nil ?_
      refine WpC.ret ?_
      cases H
      exact Leaves.retB rfl rfl rfl rfl ⟨rfl, rfl, rfl⟩
/-! ### Flaws_markPairS -/
def Flaws_markPairS.l2 : Nat → (List Timpl_Pair) → Int → Int → Option (Int × List Timpl_Pair)
  | 0, _, _, _ => none
  | k2 + 1, v34, v35, v36 => cond (decide (v36 < (v34.length : Int))) ((at? v34 v36).bind fun b39 => (at? (v34.set v36.toNat (⟨v35, b39.B⟩ : Timpl_Pair)) v36).bind fun b40 => (Flaws_markPairS.l2 k2) ((v34.set v36.toNat (⟨v35, b39.B⟩ : Timpl_Pair)).set v36.toNat (⟨b40.A, (IntKind.i64.wrap (v35 + (1 : Int)))⟩ : Timpl_Pair)) (IntKind.i64.wrap ((IntKind.i64.wrap (v35 + (1 : Int))) + (1 : Int))) (IntKind.i64.wrap (v36 + (1 : Int)))) (some (v35, v34))
def Flaws_markPairS (k : Nat) (a0 : List Timpl_Pair) (a1 : Int) : Option (Int × List Timpl_Pair) := Flaws_markPairS.l2 k a0 a1 (0 : Int)
theorem ent163 : MG.Enters Try.prog 163 := ⟨Try.f163, Try.func163, rfl, by decide⟩
set_option maxHeartbeats 8000000 in
set_option maxRecDepth 100000 in
theorem Flaws_markPairS_gives (k : Nat) (a0 : List Timpl_Pair) (a1 : Int) (r : Int × List Timpl_Pair) (H : Flaws_markPairS k a0 a1 = some r) : GivesB Try.prog 163 [V.one (Cell.ow 2 (List.map eTimpl_Pair a0)), V.one (cI a1)] [] [0] [V.one (cI r.1)] [] [V.one (Cell.ow 2 (List.map eTimpl_Pair r.2))] := by
  refine GivesB.intro Try.func163 rfl rfl rfl rfl rfl rfl ?_
  intro F hF hm
  unfold Flaws_markPairS at H
  obtain ⟨K, hK⟩ : ∃ K, k ≤ K := ⟨k, Nat.le_refl k⟩
  refine WpC.seq ?_
  refine WpC.regionL ?_
  refine L.assign hF rfl rfl rfl ?_
  refine L.nil ?_
  refine WpC.seq ?_
  refine WpC.seq ?_
  refine WpC.regionL ?_
  refine L.assign hF rfl rfl rfl ?_
  refine L.nil ?_
  refine WpC.block ?_
  refine WpC.loopL (P := Try.prog) (fun n σ => ∃ v34 : List Timpl_Pair, ∃ v35 : Int, ∃ v36 : Int, n ≤ K ∧ Flaws_markPairS.l2 n v34 v35 v36 = some r ∧ σ = mkSt [(0, MG.one (Cell.own 0)), (1, MG.one (cI v35)), (5, MG.one (cI v36))] [(0, ⟨2, List.map eTimpl_Pair v34⟩)] [] 2) k ⟨_, ⟨a0, a1, (0 : Int), by omega, H, rfl⟩, Le.mk [(0, 0)] hm rfl ⟨⟨_, rfl, rfl⟩, ⟨_, rfl, rfl⟩, ⟨_, rfl, rfl⟩, trivial⟩ ⟨⟨_, rfl, rfl⟩, trivial⟩ trivial⟩ ?_
  clear H
  rintro k2 _ ⟨v34, v35, v36, hk2, H, rfl⟩
  cases k2 with
  | zero => cases H
  | succ k2 =>
    rw [Flaws_markPairS.l2] at H
    refine WpC.seq ?_
    refine WpC.seq ?_
    refine WpC.regionL ?_
    refine L.move hF rfl rfl rfl ?_
    refine L.move hF rfl rfl rfl ?_
    refine L.lenR (xs := v34) (e := eTimpl_Pair) Try.underlying88 hF rfl rfl rfl rfl ?_
    refine L.bin hF rfl rfl rfl rfl rfl rfl ?_
    refine L.nil ?_
    refine WpC.cond rfl (fun hc => ?_) (fun hc => ?_)
    · replace H := condT hc H
      refine WpC.skip ?_
      refine WpC.seq ?_
      refine WpC.block ?_
      refine WpC.seq ?_
      refine WpC.regionL ?_
      refine L.move hF rfl rfl rfl ?_
      refine L.move hF rfl rfl rfl ?_
      refine L.move hF rfl rfl rfl ?_
      obtain ⟨b39, hb39, H⟩ := bindS H
      refine L.idxR (xs := v34) (e := eTimpl_Pair) Try.underlying88 info256 hF rfl rfl rfl rfl rfl hb39 rfl rfl ?_
      refine L.fieldAddr Try.underlying256 rfl info3 rfl hF rfl rfl rfl rfl rfl ?_
      refine L.storeEp (xs := v34) (e := eTimpl_Pair) (a' := (⟨v35, b39.B⟩ : Timpl_Pair)) shape3 hF rfl rfl rfl rfl rfl rfl rfl (at?_get hb39).2 rfl rfl ?_
      refine L.nil ?_
      refine WpC.seq ?_
      refine WpC.regionL ?_
      refine L.move hF rfl rfl rfl ?_
      refine L.bin hF rfl rfl rfl rfl rfl rfl ?_
      refine L.assign hF rfl rfl rfl ?_
      refine L.nil ?_
      refine WpC.seq ?_
      refine WpC.regionL ?_
      refine L.move hF rfl rfl rfl ?_
      refine L.move hF rfl rfl rfl ?_
      refine L.move hF rfl rfl rfl ?_
      obtain ⟨b40, hb40, H⟩ := bindS H
      refine L.idxR (xs := (v34.set v36.toNat (⟨v35, b39.B⟩ : Timpl_Pair))) (e := eTimpl_Pair) Try.underlying88 info256 hF rfl rfl rfl rfl rfl hb40 rfl rfl ?_
      refine L.fieldAddr Try.underlying256 rfl info3 rfl hF rfl rfl rfl rfl rfl ?_
      refine L.storeEp (xs := (v34.set v36.toNat (⟨v35, b39.B⟩ : Timpl_Pair))) (e := eTimpl_Pair) (a' := (⟨b40.A, (IntKind.i64.wrap (v35 + (1 : Int)))⟩ : Timpl_Pair)) shape3 hF rfl rfl rfl rfl rfl rfl rfl (at?_get hb40).2 rfl rfl ?_
      refine L.nil ?_
      refine WpC.regionL ?_
      refine L.move hF rfl rfl rfl ?_
      refine L.bin hF rfl rfl rfl rfl rfl rfl ?_
      refine L.assign hF rfl rfl rfl ?_
      refine L.nil ?_
      refine WpC.regionL ?_
      refine L.move hF rfl rfl rfl ?_
      refine L.bin hF rfl rfl rfl rfl rfl rfl ?_
      refine L.assign hF rfl rfl rfl ?_
      refine L.nil ?_
      exact ⟨k2, _, by omega, ⟨((v34.set v36.toNat (⟨v35, b39.B⟩ : Timpl_Pair)).set v36.toNat (⟨b40.A, (IntKind.i64.wrap (v35 + (1 : Int)))⟩ : Timpl_Pair)), (IntKind.i64.wrap ((IntKind.i64.wrap (v35 + (1 : Int))) + (1 : Int))), (IntKind.i64.wrap (v36 + (1 : Int))), by omega, H, rfl⟩, Le.mk [(0, 0)] hm rfl ⟨⟨_, rfl, rfl⟩, ⟨_, rfl, rfl⟩, ⟨_, rfl, rfl⟩, trivial⟩ ⟨⟨_, rfl, rfl⟩, trivial⟩ trivial⟩
    · replace H := condF hc H
      refine WpC.exit ?_
      refine WpC.seq ?_
      refine WpC.regionL ?_
      refine L.move hF rfl rfl rfl ?_
      refine L.assign hF rfl rfl rfl ?_
      refine L.nil ?_
      refine WpC.ret ?_
      cases H
      exact Leaves.retB rfl rfl rfl rfl ⟨rfl, rfl, rfl⟩
/-! ### Flaws_markConfig -/
def Flaws_markConfig (k : Nat) (a0 : Timpl_Config) (a1 : Int) : Option (Int × List Int × List Int × List Timpl_Pair × List Timpl_Pair) := (Flaws_markIntS k a0.UserRealm a1).bind fun r1 => (Flaws_markIntS k a0.ServiceRealm r1.1).bind fun r2 => (Flaws_markPairS k a0.Links r2.1).bind fun r3 => (Flaws_markPairS k a0.Proxy r3.1).bind fun r4 => some (r4.1, r1.2, r2.2, r3.2, r4.2)
theorem ent76 : MG.Enters Try.prog 76 := ⟨Try.f76, Try.func76, rfl, by decide⟩
set_option maxHeartbeats 8000000 in
set_option maxRecDepth 100000 in
theorem Flaws_markConfig_gives (k : Nat) (a0 : Timpl_Config) (a1 : Int) (r : Int × List Int × List Int × List Timpl_Pair × List Timpl_Pair) (H : Flaws_markConfig k a0 a1 = some r) : GivesB Try.prog 76 [V.agg [Cell.ow 1 (List.map eI a0.UserRealm), Cell.ow 1 (List.map eI a0.ServiceRealm), Cell.ow 2 (List.map eTimpl_Pair a0.Links), Cell.ow 2 (List.map eTimpl_Pair a0.Proxy), cI a0.Skew], V.one (cI a1)] [] [0] [V.one (cI r.1)] [] [V.agg [Cell.ow 1 (List.map eI r.2.1), Cell.ow 1 (List.map eI r.2.2.1), Cell.ow 2 (List.map eTimpl_Pair r.2.2.2.1), Cell.ow 2 (List.map eTimpl_Pair r.2.2.2.2), cI a0.Skew]] := by
  refine GivesB.intro Try.func76 rfl rfl rfl rfl rfl rfl ?_
  intro F hF hm
  unfold Flaws_markConfig at H
  obtain ⟨K, hK⟩ : ∃ K, k ≤ K := ⟨k, Nat.le_refl k⟩
  refine WpC.seq ?_
  refine WpC.regionL ?_
  refine L.box 6 hF rfl rfl rfl rfl ?_
  refine L.assign hF rfl rfl rfl ?_
  refine L.nil ?_
  refine WpC.seq ?_
  refine WpC.regionL ?_
  refine L.fieldAddr Try.underlying90 rfl info24 rfl hF rfl rfl rfl rfl rfl ?_
  refine L.loadPtr shape24 hF rfl rfl rfl rfl rfl rfl ?_
  refine L.move hF rfl rfl rfl ?_
  obtain ⟨r1, hr1, H⟩ := bindS H
  refine L.callB [true, false] [] [] 7 [0] hF rfl rfl rfl ent29 rfl rfl rfl rfl rfl (Flaws_markIntS_gives k  a0.UserRealm a1 r1 hr1) rfl rfl rfl ?_
  refine L.assign hF rfl rfl rfl ?_
  refine L.nil ?_
  refine WpC.seq ?_
  refine WpC.regionL ?_
  refine L.fieldAddr Try.underlying90 rfl info24 rfl hF rfl rfl rfl rfl rfl ?_
  refine L.loadPtr shape24 hF rfl rfl rfl rfl rfl rfl ?_
  refine L.move hF rfl rfl rfl ?_
  obtain ⟨r2, hr2, H⟩ := bindS H
  refine L.callB [true, false] [] [] 8 [0] hF rfl rfl rfl ent29 rfl rfl rfl rfl rfl (Flaws_markIntS_gives k  a0.ServiceRealm r1.1 r2 hr2) rfl rfl rfl ?_
  refine L.assign hF rfl rfl rfl ?_
  refine L.nil ?_
  refine WpC.seq ?_
  refine WpC.regionL ?_
  refine L.fieldAddr Try.underlying90 rfl info88 rfl hF rfl rfl rfl rfl rfl ?_
  refine L.loadPtr shape88 hF rfl rfl rfl rfl rfl rfl ?_
  refine L.move hF rfl rfl rfl ?_
  obtain ⟨r3, hr3, H⟩ := bindS H
  refine L.callB [true, false] [] [] 9 [0] hF rfl rfl rfl ent163 rfl rfl rfl rfl rfl (Flaws_markPairS_gives k  a0.Links r2.1 r3 hr3) rfl rfl rfl ?_
  refine L.assign hF rfl rfl rfl ?_
  refine L.nil ?_
  refine WpC.seq ?_
  refine WpC.regionL ?_
  refine L.fieldAddr Try.underlying90 rfl info88 rfl hF rfl rfl rfl rfl rfl ?_
  refine L.loadPtr shape88 hF rfl rfl rfl rfl rfl rfl ?_
  refine L.move hF rfl rfl rfl ?_
  obtain ⟨r4, hr4, H⟩ := bindS H
  refine L.callB [true, false] [] [] 10 [0] hF rfl rfl rfl ent163 rfl rfl rfl rfl rfl (Flaws_markPairS_gives k  a0.Proxy r3.1 r4 hr4) rfl rfl rfl ?_
  refine L.assign hF rfl rfl rfl ?_
  refine L.nil ?_
  refine WpC.seq ?_
  refine WpC.regionL ?_
  refine L.move hF rfl rfl rfl ?_
  refine L.assign hF rfl rfl rfl ?_
  refine L.nil ?_
  refine WpC.ret ?_
  cases H
  exact Leaves.retB rfl rfl rfl rfl ⟨rfl, rfl, rfl⟩
/-! ### Flaws_markAccept -/
def Flaws_markAccept (k : Nat) (a0 : Timpl_Accept) (a1 : Int) : Option (Int × List Int × List Int) := (Flaws_markIntS k a0.Path a1).bind fun r1 => (Flaws_markIntS k a0.Via r1.1).bind fun r2 => some (r2.1, r1.2, r2.2)
theorem ent92 : MG.Enters Try.prog 92 := ⟨Try.f92, Try.func92, rfl, by decide⟩
set_option maxHeartbeats 8000000 in
set_option maxRecDepth 100000 in
theorem Flaws_markAccept_gives (k : Nat) (a0 : Timpl_Accept) (a1 : Int) (r : Int × List Int × List Int) (H : Flaws_markAccept k a0 a1 = some r) : GivesB Try.prog 92 [V.agg [cI a0.Server, cI a0.Client, cI a0.Key, cI a0.Op, cI a0.Now, cI a0.Auth.Client, cI a0.Auth.Time, cI a0.Auth.Seq, cI a0.Rest.Servers, cI a0.Rest.Ops, cI a0.Rest.End, Cell.ow 1 (List.map eI a0.Path), Cell.ow 1 (List.map eI a0.Via), cI a0.Leaks, cS a0.Ticket], V.one (cI a1)] [] [0] [V.one (cI r.1)] [] [V.agg [cI a0.Server, cI a0.Client, cI a0.Key, cI a0.Op, cI a0.Now, cI a0.Auth.Client, cI a0.Auth.Time, cI a0.Auth.Seq, cI a0.Rest.Servers, cI a0.Rest.Ops, cI a0.Rest.End, Cell.ow 1 (List.map eI r.2.1), Cell.ow 1 (List.map eI r.2.2), cI a0.Leaks, cS a0.Ticket]] := by
  refine GivesB.intro Try.func92 rfl rfl rfl rfl rfl rfl ?_
  intro F hF hm
  unfold Flaws_markAccept at H
  obtain ⟨K, hK⟩ : ∃ K, k ≤ K := ⟨k, Nat.le_refl k⟩
  refine WpC.seq ?_
  refine WpC.regionL ?_
  refine L.box 16 hF rfl rfl rfl rfl ?_
  refine L.assign hF rfl rfl rfl ?_
  refine L.nil ?_
  refine WpC.seq ?_
  refine WpC.regionL ?_
  refine L.fieldAddr Try.underlying113 rfl info24 rfl hF rfl rfl rfl rfl rfl ?_
  refine L.loadPtr shape24 hF rfl rfl rfl rfl rfl rfl ?_
  refine L.move hF rfl rfl rfl ?_
  obtain ⟨r1, hr1, H⟩ := bindS H
  refine L.callB [true, false] [] [] 17 [0] hF rfl rfl rfl ent29 rfl rfl rfl rfl rfl (Flaws_markIntS_gives k  a0.Path a1 r1 hr1) rfl rfl rfl ?_
  refine L.assign hF rfl rfl rfl ?_
  refine L.nil ?_
  refine WpC.seq ?_
  refine WpC.regionL ?_
  refine L.fieldAddr Try.underlying113 rfl info24 rfl hF rfl rfl rfl rfl rfl ?_
  refine L.loadPtr shape24 hF rfl rfl rfl rfl rfl rfl ?_
  refine L.move hF rfl rfl rfl ?_
  obtain ⟨r2, hr2, H⟩ := bindS H
  refine L.callB [true, false] [] [] 18 [0] hF rfl rfl rfl ent29 rfl rfl rfl rfl rfl (Flaws_markIntS_gives k  a0.Via r1.1 r2 hr2) rfl rfl rfl ?_
  refine L.assign hF rfl rfl rfl ?_
  refine L.nil ?_
  refine WpC.seq ?_
  refine WpC.regionL ?_
  refine L.move hF rfl rfl rfl ?_
  refine L.assign hF rfl rfl rfl ?_
  refine L.nil ?_
  refine WpC.ret ?_
  cases H
  exact Leaves.retB rfl rfl rfl rfl ⟨rfl, rfl, rfl⟩
/-! ### Flaws_heldIntS -/
def Flaws_heldIntS.l2 : Nat → (List Int) → Int → Int → Option Int
  | 0, _, _, _ => none
  | k2 + 1, v34, v35, v36 => cond (decide (v36 < (v34.length : Int))) ((at? v34 v36).bind fun b40 => cond (b40 != v35) (some (-1 : Int)) ((Flaws_heldIntS.l2 k2) v34 (IntKind.i64.wrap (v35 + (1 : Int))) (IntKind.i64.wrap (v36 + (1 : Int))))) (some v35)
def Flaws_heldIntS (k : Nat) (a0 : List Int) (a1 : Int) : Option Int := Flaws_heldIntS.l2 k a0 a1 (0 : Int)
theorem ent30 : MG.Enters Try.prog 30 := ⟨Try.f30, Try.func30, rfl, by decide⟩
set_option maxHeartbeats 8000000 in
set_option maxRecDepth 100000 in
theorem Flaws_heldIntS_gives (k : Nat) (g0 : Bool) (a0 : List Int) (a1 : Int) (r : Int) (H : Flaws_heldIntS k a0 a1 = some r) : Gives Try.prog 30 [V.one (Cell.sl g0 (List.map eI a0)), V.one (cI a1)] [] [V.one (cI r)] [] := by
  refine Gives.intro Try.func30 rfl rfl rfl rfl ?_
  intro F hF hm
  unfold Flaws_heldIntS at H
  obtain ⟨K, hK⟩ : ∃ K, k ≤ K := ⟨k, Nat.le_refl k⟩
  refine WpC.seq ?_
  refine WpC.regionL ?_
  refine L.assign hF rfl rfl rfl ?_
  refine L.nil ?_
  refine WpC.seq ?_
  refine WpC.seq ?_
  refine WpC.regionL ?_
  refine L.assign hF rfl rfl rfl ?_
  refine L.nil ?_
  refine WpC.block ?_
  refine WpC.loopL (P := Try.prog) (fun n σ => ∃ v34 : List Int, ∃ v35 : Int, ∃ v36 : Int, n ≤ K ∧ Flaws_heldIntS.l2 n v34 v35 v36 = some r ∧ σ = mkSt [(0, MG.one (Cell.sl g0 (List.map eI v34))), (1, MG.one (cI v35)), (5, MG.one (cI v36))] [] [] 0) k ⟨_, ⟨a0, a1, (0 : Int), by omega, H, rfl⟩, Le.mk [] hm rfl ⟨⟨_, rfl, rfl⟩, ⟨_, rfl, rfl⟩, ⟨_, rfl, rfl⟩, trivial⟩ trivial trivial⟩ ?_
  clear H
  rintro k2 _ ⟨v34, v35, v36, hk2, H, rfl⟩
  cases k2 with
  | zero => cases H
  | succ k2 =>
    rw [Flaws_heldIntS.l2] at H
    refine WpC.seq ?_
    refine WpC.seq ?_
    refine WpC.regionL ?_
    refine L.move hF rfl rfl rfl ?_
    refine L.move hF rfl rfl rfl ?_
    refine L.lenR (xs := v34) (e := eI) Try.underlying24 hF rfl rfl rfl rfl ?_
    refine L.bin hF rfl rfl rfl rfl rfl rfl ?_
    refine L.nil ?_
    refine WpC.cond rfl (fun hc => ?_) (fun hc => ?_)
    · replace H := condT hc H
      refine WpC.skip ?_
      refine WpC.seq ?_
      refine WpC.block ?_
      refine WpC.seq ?_
      refine WpC.seq ?_
      refine WpC.regionL ?_
      refine L.move hF rfl rfl rfl ?_
      refine L.move hF rfl rfl rfl ?_
      obtain ⟨b40, hb40, H⟩ := bindS H
      refine L.idxR (xs := v34) (e := eI) Try.underlying24 info3 hF rfl rfl rfl rfl rfl hb40 rfl rfl ?_
      refine L.loadPe shape3 hF rfl rfl rfl rfl rfl ?_
      refine L.move hF rfl rfl rfl ?_
      refine L.bin hF rfl rfl rfl rfl rfl rfl ?_
      refine L.nil ?_
      refine WpC.cond rfl (fun hc => ?_) (fun hc => ?_)
      · replace H := condT hc H
        refine WpC.seq ?_
        refine WpC.regionL ?_
        refine L.assign hF rfl rfl rfl ?_
        refine L.nil ?_
        refine WpC.ret ?_
        cases H
        exact Leaves.ret rfl rfl rfl ⟨rfl, rfl⟩
      · replace H := condF hc H
        refine WpC.skip ?_
        refine WpC.regionL ?_
        refine L.move hF rfl rfl rfl ?_
        refine L.bin hF rfl rfl rfl rfl rfl rfl ?_
        refine L.assign hF rfl rfl rfl ?_
        refine L.nil ?_
        refine WpC.regionL ?_
        refine L.move hF rfl rfl rfl ?_
        refine L.bin hF rfl rfl rfl rfl rfl rfl ?_
        refine L.assign hF rfl rfl rfl ?_
        refine L.nil ?_
        exact ⟨k2, _, by omega, ⟨v34, (IntKind.i64.wrap (v35 + (1 : Int))), (IntKind.i64.wrap (v36 + (1 : Int))), by omega, H, rfl⟩, Le.mk [] hm rfl ⟨⟨_, rfl, rfl⟩, ⟨_, rfl, rfl⟩, ⟨_, rfl, rfl⟩, trivial⟩ trivial trivial⟩
    · replace H := condF hc H
      refine WpC.exit ?_
      refine WpC.seq ?_
      refine WpC.regionL ?_
      refine L.move hF rfl rfl rfl ?_
      refine L.assign hF rfl rfl rfl ?_
      refine L.nil ?_
      refine WpC.ret ?_
      cases H
      exact Leaves.ret rfl rfl rfl ⟨rfl, rfl⟩
/-! ### Flaws_FnExactConcerns -/
def Flaws_FnExactConcerns (k : Nat) (a0 : Tlaws_Config) (a1 : Tlaws_Accept) : Option Bool := (Flaws_szConfig k a0 (1048576 : Int)).bind fun r1 => cond (decide (r1 < (0 : Int))) (some true) ((Flaws_szAccept k a1 r1).bind fun r2 => cond (decide (r2 < (0 : Int))) (some true) ((Flaws_toConfig k a0).bind fun r3 => (Flaws_toAccept k a1).bind fun r4 => (Fspec_Concerns k r3 r4).bind fun r5 => (Flaws_toConfig k a0).bind fun r6 => (Flaws_toAccept k a1).bind fun r7 => (Fimpl_Concerns k r6 r7).bind fun r8 => (Flaws_eqIntS k r8 r5).bind fun r10 => cond (!r10) (some false) ((Flaws_toConfig k a0).bind fun r13 => (Flaws_eqConfig k r6 r13).bind fun r14 => cond (!r14) (some false) ((Flaws_toAccept k a1).bind fun r17 => (Flaws_eqAccept k r7 r17).bind fun r18 => cond (!r18) (some false) ((Flaws_markConfig k r6 (1 : Int)).bind fun r19 => (Flaws_markAccept k r7 r19.1).bind fun r20 => cond (decide (r20.1 < (0 : Int))) (some false) ((Flaws_eqIntS k r8 r5).bind fun r24 => cond (!r24) (some false) ((Flaws_markIntS k r8 (1 : Int)).bind fun r25 => (Flaws_heldIntS k r25.2 (1 : Int)).bind fun r26 => cond (decide (r26 < (0 : Int))) (some false) (cond (r26 != r25.1) (some false) ((Flaws_toConfig k a0).bind fun r27 => (Flaws_toAccept k a1).bind fun r28 => (Fimpl_Concerns k r27 r28).bind fun r29 => (Flaws_eqIntS k r29 r5).bind fun r31 => cond (!r31) (some false) ((Flaws_heldIntS k r25.2 (1 : Int)).bind fun r32 => cond (decide (r32 < (0 : Int))) (some false) (cond (r32 != r25.1) (some false) (some true))))))))))))
theorem ent19 : MG.Enters Try.prog 19 := ⟨Try.f19, Try.func19, rfl, by decide⟩
set_option maxHeartbeats 8000000 in
set_option maxRecDepth 100000 in
theorem Flaws_FnExactConcerns_gives (k : Nat) (g0 : Bool) (g1 : Bool) (g2 : Bool) (g3 : Bool) (g4 : Bool) (g5 : Bool) (a0 : Tlaws_Config) (a1 : Tlaws_Accept) (r : Bool) (H : Flaws_FnExactConcerns k a0 a1 = some r) : Gives Try.prog 19 [V.agg [Cell.sl g0 (List.map eI a0.UserRealm), Cell.sl g1 (List.map eI a0.ServiceRealm), Cell.sl g2 (List.map eTlaws_Pair a0.Links), Cell.sl g3 (List.map eTlaws_Pair a0.Proxy), cI a0.Skew], V.agg [cI a1.Server, cI a1.Client, cI a1.Key, cI a1.Op, cI a1.Now, cI a1.Auth.Client, cI a1.Auth.Time, cI a1.Auth.Seq, cI a1.Rest.Servers, cI a1.Rest.Ops, cI a1.Rest.End, Cell.sl g4 (List.map eI a1.Path), Cell.sl g5 (List.map eI a1.Via), cI a1.Leaks, cS a1.Ticket]] [] [V.one (cL r)] [] := by
  refine Gives.intro Try.func19 rfl rfl rfl rfl ?_
  intro F hF hm
  unfold Flaws_FnExactConcerns at H
  obtain ⟨K, hK⟩ : ∃ K, k ≤ K := ⟨k, Nat.le_refl k⟩
  refine WpC.seq ?_
  refine WpC.regionL ?_
  refine L.box 20 hF rfl rfl rfl rfl ?_
  refine L.box 21 hF rfl rfl rfl rfl ?_
  refine L.assign hF rfl rfl rfl ?_
  refine L.nil ?_
  refine WpC.seq ?_
  refine WpC.regionL ?_
  refine L.assign hF rfl rfl rfl ?_
  refine L.nil ?_
  refine WpC.seq ?_
  refine WpC.regionL ?_
  refine L.loadPtr shape83 hF rfl rfl rfl rfl rfl rfl ?_
  refine L.move hF rfl rfl rfl ?_
  obtain ⟨r1, hr1, H⟩ := bindS H
  refine L.call [false, false] [] [] 22 hF rfl rfl rfl ent69 rfl rfl rfl rfl rfl (Flaws_szConfig_gives k g0 g1 g2 g3 a0 (1048576 : Int) r1 hr1) rfl ?_
  refine L.assign hF rfl rfl rfl ?_
  refine L.nil ?_
  refine WpC.seq ?_
  refine WpC.seq ?_
  refine WpC.regionL ?_
  refine L.move hF rfl rfl rfl ?_
  refine L.bin hF rfl rfl rfl rfl rfl rfl ?_
  refine L.nil ?_
  refine WpC.cond rfl (fun hc => ?_) (fun hc => ?_)
  · replace H := condT hc H
    refine WpC.seq ?_
    refine WpC.regionL ?_
    refine L.assign hF rfl rfl rfl ?_
    refine L.nil ?_
    refine WpC.ret ?_
    cases H
    exact Leaves.ret rfl rfl rfl ⟨rfl, rfl⟩
  · replace H := condF hc H
    refine WpC.skip ?_
    refine WpC.seq ?_
    refine WpC.regionL ?_
    refine L.loadPtr shape108 hF rfl rfl rfl rfl rfl rfl ?_
    refine L.move hF rfl rfl rfl ?_
    obtain ⟨r2, hr2, H⟩ := bindS H
    refine L.call [false, false] [] [] 23 hF rfl rfl rfl ent87 rfl rfl rfl rfl rfl (Flaws_szAccept_gives k g4 g5 a1 r1 r2 hr2) rfl ?_
    refine L.assign hF rfl rfl rfl ?_
    refine L.nil ?_
    refine WpC.seq ?_
    refine WpC.seq ?_
    refine WpC.regionL ?_
    refine L.move hF rfl rfl rfl ?_
    refine L.bin hF rfl rfl rfl rfl rfl rfl ?_
    refine L.nil ?_
    refine WpC.cond rfl (fun hc => ?_) (fun hc => ?_)
    · replace H := condT hc H
      refine WpC.seq ?_
      refine WpC.regionL ?_
      refine L.assign hF rfl rfl rfl ?_
      refine L.nil ?_
      refine WpC.ret ?_
      cases H
      exact Leaves.ret rfl rfl rfl ⟨rfl, rfl⟩
    · replace H := condF hc H
      refine WpC.skip ?_
      refine WpC.seq ?_
      obtain ⟨r3, hr3, H⟩ := bindS H
      obtain ⟨r4, hr4, H⟩ := bindS H
      obtain ⟨r5, hr5, H⟩ := bindS H
      refine A.begin mixed rfl rfl ?_
      intro W hI hO
      have n7 : W 3 #[true, true, true, false, false, false] (mkSt [(2, MG.one (Cell.ptr 0 0)), (3, MG.one (Cell.ptr 1 0)), (25, agg [Cell.own 2, Cell.own 3, Cell.own 4, Cell.own 5, cI r3.Skew]), (26, agg [cI a1.Server, cI a1.Client, cI a1.Key, cI a1.Op, cI a1.Now, cI a1.Auth.Client, cI a1.Auth.Time, cI a1.Auth.Seq, cI a1.Rest.Servers, cI a1.Rest.Ops, cI a1.Rest.End, Cell.sl g4 (List.map eI a1.Path), Cell.sl g5 (List.map eI a1.Via), cI a1.Leaks, cS a1.Ticket])] [(2, ⟨1, List.map eI r3.UserRealm⟩), (3, ⟨1, List.map eI r3.ServiceRealm⟩), (4, ⟨2, List.map eTimpl_Pair r3.Links⟩), (5, ⟨2, List.map eTimpl_Pair r3.Proxy⟩)] [(0, [Cell.sl g0 (List.map eI a0.UserRealm), Cell.sl g1 (List.map eI a0.ServiceRealm), Cell.sl g2 (List.map eTlaws_Pair a0.Links), Cell.sl g3 (List.map eTlaws_Pair a0.Proxy), cI a0.Skew]), (1, [cI a1.Server, cI a1.Client, cI a1.Key, cI a1.Op, cI a1.Now, cI a1.Auth.Client, cI a1.Auth.Time, cI a1.Auth.Seq, cI a1.Rest.Servers, cI a1.Rest.Ops, cI a1.Rest.End, Cell.sl g4 (List.map eI a1.Path), Cell.sl g5 (List.map eI a1.Via), cI a1.Leaks, cS a1.Ticket])] 6) := by
        refine hI _ _ _ ?_
        refine A.all [3] (by kernel_rfl) rfl ⟨⟨_, rfl, ?_⟩, trivial⟩
        refine L.call [false] [] [] 6 hF rfl rfl rfl ent89 rfl rfl rfl rfl rfl (Flaws_toAccept_gives k g4 g5 a1 r4 hr4) rfl ?_
        refine L.nil ?_
        refine A.all [4] (by kernel_rfl) rfl ⟨⟨_, rfl, ?_⟩, trivial⟩
        refine L.call [false, false] [2, 3, 4, 5, 17, 18] [] 21 hF rfl rfl rfl ent88 rfl rfl rfl rfl rfl (Fspec_Concerns_gives k false false false false false false r3 r4 r5 hr5) rfl ?_
        refine L.nil ?_
        refine A.take 5 rfl (by kernel_rfl) (by kernel_rfl) (by kernel_rfl) rfl (Ca.assign) (fun Q0 k0 => L.assign hF rfl rfl rfl (L.nil k0)) ?_
        refine A.le (τ := mkSt [(2, MG.one (Cell.ptr 0 0)), (3, MG.one (Cell.ptr 1 0)), (6, MG.one (Cell.sl true (List.map eI r5)))] [] [(0, [Cell.sl g0 (List.map eI a0.UserRealm), Cell.sl g1 (List.map eI a0.ServiceRealm), Cell.sl g2 (List.map eTlaws_Pair a0.Links), Cell.sl g3 (List.map eTlaws_Pair a0.Proxy), cI a0.Skew]), (1, [cI a1.Server, cI a1.Client, cI a1.Key, cI a1.Op, cI a1.Now, cI a1.Auth.Client, cI a1.Auth.Time, cI a1.Auth.Seq, cI a1.Rest.Servers, cI a1.Rest.Ops, cI a1.Rest.End, Cell.sl g4 (List.map eI a1.Path), Cell.sl g5 (List.map eI a1.Via), cI a1.Leaks, cS a1.Ticket])] 2) (Le.mk [(0, 0), (1, 1)] hm rfl ⟨⟨_, rfl, rfl⟩, ⟨_, rfl, rfl⟩, ⟨_, rfl, rfl⟩, trivial⟩ trivial ⟨⟨_, _, rfl, rfl, rfl⟩, ⟨_, _, rfl, rfl, rfl⟩, trivial⟩) ?_
        refine A.done (by kernel_rfl) ?_
        refine WpC.seq ?_
        refine WpC.regionL ?_
        refine L.loadPtr shape83 hF rfl rfl rfl rfl rfl rfl ?_
        obtain ⟨r6, hr6, H⟩ := bindS H
        refine L.call [false] [] [] 2 hF rfl rfl rfl ent71 rfl rfl rfl rfl rfl (Flaws_toConfig_gives k g0 g1 g2 g3 a0 r6 hr6) rfl ?_
        refine L.alloc 7 info90 rfl hF rfl rfl rfl rfl ?_
        refine L.storePtr shape90 hF rfl rfl rfl rfl rfl rfl rfl ?_
        refine L.nil ?_
        refine WpC.seq ?_
        refine WpC.regionL ?_
        refine L.loadPtr shape108 hF rfl rfl rfl rfl rfl rfl ?_
        obtain ⟨r7, hr7, H⟩ := bindS H
        refine L.call [false] [] [] 8 hF rfl rfl rfl ent89 rfl rfl rfl rfl rfl (Flaws_toAccept_gives k g4 g5 a1 r7 hr7) rfl ?_
        refine L.alloc 23 info113 rfl hF rfl rfl rfl rfl ?_
        refine L.storePtr shape113 hF rfl rfl rfl rfl rfl rfl rfl ?_
        refine L.nil ?_
        refine WpC.seq ?_
        refine WpC.regionL ?_
        refine L.loadPtr shape90 hF rfl rfl rfl rfl rfl rfl ?_
        refine L.loadPtr shape113 hF rfl rfl rfl rfl rfl rfl ?_
        obtain ⟨r8, hr8, H⟩ := bindS H
        refine L.call [false, false] [2, 3, 4, 5, 19, 20] [] 24 hF rfl rfl rfl ent90 rfl rfl rfl rfl rfl (Fimpl_Concerns_gives k false false false false false false r6 r7 r8 hr8) rfl ?_
        refine L.assign hF rfl rfl rfl ?_
        refine L.nil ?_
        refine WpC.seq ?_
        refine WpC.seq ?_
        refine WpC.regionL ?_
        refine L.move hF rfl rfl rfl ?_
        refine L.move hF rfl rfl rfl ?_
        obtain ⟨r10, hr10, H⟩ := bindS H
        refine L.call [false, false] [24] [] 25 hF rfl rfl rfl ent26 rfl rfl rfl rfl rfl (Flaws_eqIntS_gives k false true r8 r5 r10 hr10) rfl ?_
        refine L.not hF rfl rfl rfl ?_
        refine L.nil ?_
        refine WpC.cond rfl (fun hc => ?_) (fun hc => ?_)
        · replace H := condT hc H
          refine WpC.seq ?_
          refine WpC.regionL ?_
          refine L.assign hF rfl rfl rfl ?_
          refine L.nil ?_
          refine WpC.ret ?_
          cases H
          exact Leaves.ret rfl rfl rfl ⟨rfl, rfl⟩
        · replace H := condF hc H
          refine WpC.skip ?_
          refine WpC.seq ?_
          refine WpC.seq ?_
          obtain ⟨r13, hr13, H⟩ := bindS H
          obtain ⟨r14, hr14, H⟩ := bindS H
          refine A.begin mixed rfl rfl ?_
          intro W hI hO
          have n7 : W 2 #[true, true, true, false, false] (mkSt [(2, MG.one (Cell.ptr 0 0)), (3, MG.one (Cell.ptr 1 0)), (6, MG.one (Cell.sl true (List.map eI r5))), (7, MG.one (Cell.ptr 2 0)), (8, MG.one (Cell.ptr 3 0)), (9, MG.one (Cell.own 4)), (40, agg [Cell.own 5, Cell.own 6, Cell.own 7, Cell.own 8, cI r6.Skew]), (42, agg [Cell.own 9, Cell.own 10, Cell.own 11, Cell.own 12, cI r13.Skew])] [(4, ⟨1, List.map eI r8⟩), (5, ⟨1, List.map eI r6.UserRealm⟩), (6, ⟨1, List.map eI r6.ServiceRealm⟩), (7, ⟨2, List.map eTimpl_Pair r6.Links⟩), (8, ⟨2, List.map eTimpl_Pair r6.Proxy⟩), (9, ⟨1, List.map eI r13.UserRealm⟩), (10, ⟨1, List.map eI r13.ServiceRealm⟩), (11, ⟨2, List.map eTimpl_Pair r13.Links⟩), (12, ⟨2, List.map eTimpl_Pair r13.Proxy⟩), (13, ⟨1, List.map eI r7.Path⟩), (14, ⟨1, List.map eI r7.Via⟩)] [(0, [Cell.sl g0 (List.map eI a0.UserRealm), Cell.sl g1 (List.map eI a0.ServiceRealm), Cell.sl g2 (List.map eTlaws_Pair a0.Links), Cell.sl g3 (List.map eTlaws_Pair a0.Proxy), cI a0.Skew]), (1, [cI a1.Server, cI a1.Client, cI a1.Key, cI a1.Op, cI a1.Now, cI a1.Auth.Client, cI a1.Auth.Time, cI a1.Auth.Seq, cI a1.Rest.Servers, cI a1.Rest.Ops, cI a1.Rest.End, Cell.sl g4 (List.map eI a1.Path), Cell.sl g5 (List.map eI a1.Via), cI a1.Leaks, cS a1.Ticket]), (2, [Cell.own 5, Cell.own 6, Cell.own 7, Cell.own 8, cI r6.Skew]), (3, [cI r7.Server, cI r7.Client, cI r7.Key, cI r7.Op, cI r7.Now, cI r7.Auth.Client, cI r7.Auth.Time, cI r7.Auth.Seq, cI r7.Rest.Servers, cI r7.Rest.Ops, cI r7.Rest.End, Cell.own 13, Cell.own 14, cI r7.Leaks, cS r7.Ticket])] 15) := by
            refine hI _ _ _ ?_
            refine A.all [3] (by kernel_rfl) rfl ⟨⟨_, rfl, ?_⟩, trivial⟩
            refine L.call [false, false] [5, 6, 7, 8, 9, 10, 11, 12] [] 15 hF rfl rfl rfl ent75 rfl rfl rfl rfl rfl (Flaws_eqConfig_gives k false false false false false false false false r6 r13 r14 hr14) rfl ?_
            refine L.nil ?_
            refine A.take 4 rfl (by kernel_rfl) (by kernel_rfl) (by kernel_rfl) rfl (Ca.un rfl rfl) (fun Q0 k0 => L.not hF rfl rfl rfl (L.nil k0)) ?_
            refine A.le (τ := mkSt [(2, MG.one (Cell.ptr 0 0)), (3, MG.one (Cell.ptr 1 0)), (6, MG.one (Cell.sl true (List.map eI r5))), (7, MG.one (Cell.ptr 2 0)), (8, MG.one (Cell.ptr 3 0)), (9, MG.one (Cell.own 4)), (44, MG.one (cL (!r14)))] [(4, ⟨1, List.map eI r8⟩), (5, ⟨1, List.map eI r6.UserRealm⟩), (6, ⟨1, List.map eI r6.ServiceRealm⟩), (7, ⟨2, List.map eTimpl_Pair r6.Links⟩), (8, ⟨2, List.map eTimpl_Pair r6.Proxy⟩), (9, ⟨1, List.map eI r7.Path⟩), (10, ⟨1, List.map eI r7.Via⟩)] [(0, [Cell.sl g0 (List.map eI a0.UserRealm), Cell.sl g1 (List.map eI a0.ServiceRealm), Cell.sl g2 (List.map eTlaws_Pair a0.Links), Cell.sl g3 (List.map eTlaws_Pair a0.Proxy), cI a0.Skew]), (1, [cI a1.Server, cI a1.Client, cI a1.Key, cI a1.Op, cI a1.Now, cI a1.Auth.Client, cI a1.Auth.Time, cI a1.Auth.Seq, cI a1.Rest.Servers, cI a1.Rest.Ops, cI a1.Rest.End, Cell.sl g4 (List.map eI a1.Path), Cell.sl g5 (List.map eI a1.Via), cI a1.Leaks, cS a1.Ticket]), (2, [Cell.own 5, Cell.own 6, Cell.own 7, Cell.own 8, cI r6.Skew]), (3, [cI r7.Server, cI r7.Client, cI r7.Key, cI r7.Op, cI r7.Now, cI r7.Auth.Client, cI r7.Auth.Time, cI r7.Auth.Seq, cI r7.Rest.Servers, cI r7.Rest.Ops, cI r7.Rest.End, Cell.own 9, Cell.own 10, cI r7.Leaks, cS r7.Ticket])] 11) (Le.mk [(0, 0), (1, 1), (2, 2), (3, 3), (4, 4), (5, 5), (6, 6), (7, 7), (8, 8), (9, 13), (10, 14)] hm rfl ⟨⟨_, rfl, rfl⟩, ⟨_, rfl, rfl⟩, ⟨_, rfl, rfl⟩, ⟨_, rfl, rfl⟩, ⟨_, rfl, rfl⟩, ⟨_, rfl, rfl⟩, ⟨_, rfl, rfl⟩, trivial⟩ ⟨⟨_, rfl, rfl⟩, ⟨_, rfl, rfl⟩, ⟨_, rfl, rfl⟩, ⟨_, rfl, rfl⟩, ⟨_, rfl, rfl⟩, ⟨_, rfl, rfl⟩, ⟨_, rfl, rfl⟩, trivial⟩ ⟨⟨_, _, rfl, rfl, rfl⟩, ⟨_, _, rfl, rfl, rfl⟩, ⟨_, _, rfl, rfl, rfl⟩, ⟨_, _, rfl, rfl, rfl⟩, trivial⟩) ?_
            refine A.done (by kernel_rfl) ?_
            refine WpC.cond rfl (fun hc => ?_) (fun hc => ?_)
            · replace H := condT hc H
              refine WpC.seq ?_
              refine WpC.regionL ?_
              refine L.assign hF rfl rfl rfl ?_
              refine L.nil ?_
              refine WpC.ret ?_
              cases H
              exact Leaves.ret rfl rfl rfl ⟨rfl, rfl⟩
            · replace H := condF hc H
              refine WpC.skip ?_
              refine WpC.seq ?_
              refine WpC.seq ?_
              obtain ⟨r17, hr17, H⟩ := bindS H
              obtain ⟨r18, hr18, H⟩ := bindS H
              refine A.begin mixed rfl rfl ?_
              intro W hI hO
              have n7 : W 2 #[true, true, true, false, false] (mkSt [(2, MG.one (Cell.ptr 0 0)), (3, MG.one (Cell.ptr 1 0)), (6, MG.one (Cell.sl true (List.map eI r5))), (7, MG.one (Cell.ptr 2 0)), (8, MG.one (Cell.ptr 3 0)), (9, MG.one (Cell.own 4)), (45, agg [cI r7.Server, cI r7.Client, cI r7.Key, cI r7.Op, cI r7.Now, cI r7.Auth.Client, cI r7.Auth.Time, cI r7.Auth.Seq, cI r7.Rest.Servers, cI r7.Rest.Ops, cI r7.Rest.End, Cell.own 5, Cell.own 6, cI r7.Leaks, cS r7.Ticket]), (47, agg [cI r17.Server, cI r17.Client, cI r17.Key, cI r17.Op, cI r17.Now, cI r17.Auth.Client, cI r17.Auth.Time, cI r17.Auth.Seq, cI r17.Rest.Servers, cI r17.Rest.Ops, cI r17.Rest.End, Cell.own 7, Cell.own 8, cI r17.Leaks, cS r17.Ticket])] [(4, ⟨1, List.map eI r8⟩), (5, ⟨1, List.map eI r7.Path⟩), (6, ⟨1, List.map eI r7.Via⟩), (7, ⟨1, List.map eI r17.Path⟩), (8, ⟨1, List.map eI r17.Via⟩), (9, ⟨1, List.map eI r6.UserRealm⟩), (10, ⟨1, List.map eI r6.ServiceRealm⟩), (11, ⟨2, List.map eTimpl_Pair r6.Links⟩), (12, ⟨2, List.map eTimpl_Pair r6.Proxy⟩)] [(0, [Cell.sl g0 (List.map eI a0.UserRealm), Cell.sl g1 (List.map eI a0.ServiceRealm), Cell.sl g2 (List.map eTlaws_Pair a0.Links), Cell.sl g3 (List.map eTlaws_Pair a0.Proxy), cI a0.Skew]), (1, [cI a1.Server, cI a1.Client, cI a1.Key, cI a1.Op, cI a1.Now, cI a1.Auth.Client, cI a1.Auth.Time, cI a1.Auth.Seq, cI a1.Rest.Servers, cI a1.Rest.Ops, cI a1.Rest.End, Cell.sl g4 (List.map eI a1.Path), Cell.sl g5 (List.map eI a1.Via), cI a1.Leaks, cS a1.Ticket]), (2, [Cell.own 9, Cell.own 10, Cell.own 11, Cell.own 12, cI r6.Skew]), (3, [cI r7.Server, cI r7.Client, cI r7.Key, cI r7.Op, cI r7.Now, cI r7.Auth.Client, cI r7.Auth.Time, cI r7.Auth.Seq, cI r7.Rest.Servers, cI r7.Rest.Ops, cI r7.Rest.End, Cell.own 5, Cell.own 6, cI r7.Leaks, cS r7.Ticket])] 13) := by
                refine hI _ _ _ ?_
                refine A.all [3] (by kernel_rfl) rfl ⟨⟨_, rfl, ?_⟩, trivial⟩
                refine L.call [false, false] [5, 6, 7, 8] [] 13 hF rfl rfl rfl ent91 rfl rfl rfl rfl rfl (Flaws_eqAccept_gives k false false false false r7 r17 r18 hr18) rfl ?_
                refine L.nil ?_
                refine A.take 4 rfl (by kernel_rfl) (by kernel_rfl) (by kernel_rfl) rfl (Ca.un rfl rfl) (fun Q0 k0 => L.not hF rfl rfl rfl (L.nil k0)) ?_
                refine A.le (τ := mkSt [(2, MG.one (Cell.ptr 0 0)), (3, MG.one (Cell.ptr 1 0)), (6, MG.one (Cell.sl true (List.map eI r5))), (7, MG.one (Cell.ptr 2 0)), (8, MG.one (Cell.ptr 3 0)), (9, MG.one (Cell.own 4)), (49, MG.one (cL (!r18)))] [(4, ⟨1, List.map eI r8⟩), (5, ⟨1, List.map eI r6.UserRealm⟩), (6, ⟨1, List.map eI r6.ServiceRealm⟩), (7, ⟨2, List.map eTimpl_Pair r6.Links⟩), (8, ⟨2, List.map eTimpl_Pair r6.Proxy⟩), (9, ⟨1, List.map eI r7.Path⟩), (10, ⟨1, List.map eI r7.Via⟩)] [(0, [Cell.sl g0 (List.map eI a0.UserRealm), Cell.sl g1 (List.map eI a0.ServiceRealm), Cell.sl g2 (List.map eTlaws_Pair a0.Links), Cell.sl g3 (List.map eTlaws_Pair a0.Proxy), cI a0.Skew]), (1, [cI a1.Server, cI a1.Client, cI a1.Key, cI a1.Op, cI a1.Now, cI a1.Auth.Client, cI a1.Auth.Time, cI a1.Auth.Seq, cI a1.Rest.Servers, cI a1.Rest.Ops, cI a1.Rest.End, Cell.sl g4 (List.map eI a1.Path), Cell.sl g5 (List.map eI a1.Via), cI a1.Leaks, cS a1.Ticket]), (2, [Cell.own 5, Cell.own 6, Cell.own 7, Cell.own 8, cI r6.Skew]), (3, [cI r7.Server, cI r7.Client, cI r7.Key, cI r7.Op, cI r7.Now, cI r7.Auth.Client, cI r7.Auth.Time, cI r7.Auth.Seq, cI r7.Rest.Servers, cI r7.Rest.Ops, cI r7.Rest.End, Cell.own 9, Cell.own 10, cI r7.Leaks, cS r7.Ticket])] 11) (Le.mk [(0, 0), (1, 1), (2, 2), (3, 3), (4, 4), (5, 9), (6, 10), (7, 11), (8, 12), (9, 5), (10, 6)] hm rfl ⟨⟨_, rfl, rfl⟩, ⟨_, rfl, rfl⟩, ⟨_, rfl, rfl⟩, ⟨_, rfl, rfl⟩, ⟨_, rfl, rfl⟩, ⟨_, rfl, rfl⟩, ⟨_, rfl, rfl⟩, trivial⟩ ⟨⟨_, rfl, rfl⟩, ⟨_, rfl, rfl⟩, ⟨_, rfl, rfl⟩, ⟨_, rfl, rfl⟩, ⟨_, rfl, rfl⟩, ⟨_, rfl, rfl⟩, ⟨_, rfl, rfl⟩, trivial⟩ ⟨⟨_, _, rfl, rfl, rfl⟩, ⟨_, _, rfl, rfl, rfl⟩, ⟨_, _, rfl, rfl, rfl⟩, ⟨_, _, rfl, rfl, rfl⟩, trivial⟩) ?_
                refine A.done (by kernel_rfl) ?_
                refine WpC.cond rfl (fun hc => ?_) (fun hc => ?_)
                · replace H := condT hc H
                  refine WpC.seq ?_
                  refine WpC.regionL ?_
                  refine L.assign hF rfl rfl rfl ?_
                  refine L.nil ?_
                  refine WpC.ret ?_
                  cases H
                  exact Leaves.ret rfl rfl rfl ⟨rfl, rfl⟩
                · replace H := condF hc H
                  refine WpC.skip ?_
                  refine WpC.seq ?_
                  refine WpC.regionL ?_
                  refine L.assign hF rfl rfl rfl ?_
                  refine L.nil ?_
                  refine WpC.seq ?_
                  refine WpC.regionL ?_
                  refine L.loadPtr shape90 hF rfl rfl rfl rfl rfl rfl ?_
                  refine L.move hF rfl rfl rfl ?_
                  obtain ⟨r19, hr19, H⟩ := bindS H
                  refine L.callB [true, false] [] [] 11 [0] hF rfl rfl rfl ent76 rfl rfl rfl rfl rfl (Flaws_markConfig_gives k  r6 (1 : Int) r19 hr19) rfl rfl rfl ?_
                  refine L.assign hF rfl rfl rfl ?_
                  refine L.nil ?_
                  refine WpC.seq ?_
                  refine WpC.regionL ?_
                  refine L.loadPtr shape113 hF rfl rfl rfl rfl rfl rfl ?_
                  refine L.move hF rfl rfl rfl ?_
                  obtain ⟨r20, hr20, H⟩ := bindS H
                  refine L.callB [true, false] [] [] 12 [0] hF rfl rfl rfl ent92 rfl rfl rfl rfl rfl (Flaws_markAccept_gives k  r7 r19.1 r20 hr20) rfl rfl rfl ?_
                  refine L.assign hF rfl rfl rfl ?_
                  refine L.nil ?_
                  refine WpC.seq ?_
                  refine WpC.seq ?_
                  refine WpC.regionL ?_
                  refine L.move hF rfl rfl rfl ?_
                  refine L.bin hF rfl rfl rfl rfl rfl rfl ?_
                  refine L.move hF rfl rfl rfl ?_
                  refine L.split (fun hc => ?_) (fun hc => ?_)
                  · replace H := condT hc H
                    refine L.off hF rfl rfl ?_
                    refine L.off hF rfl rfl ?_
                    refine L.off hF rfl rfl ?_
                    refine L.off hF rfl rfl ?_
                    refine L.pick hF rfl rfl rfl rfl ?_
                    refine L.nil ?_
                    refine WpC.cond rfl (fun _ => ?_) (fun hc => by cases hc)
                    refine WpC.seq ?_
                    refine WpC.regionL ?_
                    refine L.assign hF rfl rfl rfl ?_
                    refine L.nil ?_
                    refine WpC.ret ?_
                    cases H
                    exact Leaves.ret rfl rfl rfl ⟨rfl, rfl⟩
                  · replace H := condF hc H
                    refine L.move hF rfl rfl rfl ?_
                    refine L.move hF rfl rfl rfl ?_
                    obtain ⟨r24, hr24, H⟩ := bindS H
                    refine L.call [false, false] [4] [] 13 hF rfl rfl rfl ent26 rfl rfl rfl rfl rfl (Flaws_eqIntS_gives k false true r8 r5 r24 hr24) rfl ?_
                    refine L.not hF rfl rfl rfl ?_
                    refine L.pick hF rfl rfl rfl rfl ?_
                    refine L.nil ?_
                    refine WpC.cond rfl (fun hc => ?_) (fun hc => ?_)
                    · replace H := condT hc H
                      refine WpC.seq ?_
                      refine WpC.regionL ?_
                      refine L.assign hF rfl rfl rfl ?_
                      refine L.nil ?_
                      refine WpC.ret ?_
                      cases H
                      exact Leaves.ret rfl rfl rfl ⟨rfl, rfl⟩
                    · replace H := condF hc H
                      refine WpC.skip ?_
                      refine WpC.seq ?_
                      refine WpC.regionL ?_
                      refine L.assign hF rfl rfl rfl ?_
                      refine L.nil ?_
                      refine WpC.seq ?_
                      refine WpC.regionL ?_
                      refine L.move hF rfl rfl rfl ?_
                      refine L.move hF rfl rfl rfl ?_
                      obtain ⟨r25, hr25, H⟩ := bindS H
                      refine L.callB [true, false] [] [] 14 [0] hF rfl rfl rfl ent29 rfl rfl rfl rfl rfl (Flaws_markIntS_gives k  r8 (1 : Int) r25 hr25) rfl rfl rfl ?_
                      refine L.assign hF rfl rfl rfl ?_
                      refine L.nil ?_
                      refine WpC.seq ?_
                      refine WpC.regionL ?_
                      refine L.assign hF rfl rfl rfl ?_
                      refine L.nil ?_
                      refine WpC.seq ?_
                      refine WpC.regionL ?_
                      refine L.move hF rfl rfl rfl ?_
                      refine L.move hF rfl rfl rfl ?_
                      obtain ⟨r26, hr26, H⟩ := bindS H
                      refine L.call [false, false] [4] [] 15 hF rfl rfl rfl ent30 rfl rfl rfl rfl rfl (Flaws_heldIntS_gives k false r25.2 (1 : Int) r26 hr26) rfl ?_
                      refine L.assign hF rfl rfl rfl ?_
                      refine L.nil ?_
                      refine WpC.seq ?_
                      refine WpC.seq ?_
                      refine WpC.regionL ?_
                      refine L.move hF rfl rfl rfl ?_
                      refine L.bin hF rfl rfl rfl rfl rfl rfl ?_
                      refine L.nil ?_
                      refine WpC.cond rfl (fun hc => ?_) (fun hc => ?_)
                      · replace H := condT hc H
                        refine WpC.seq ?_
                        refine WpC.regionL ?_
                        refine L.assign hF rfl rfl rfl ?_
                        refine L.nil ?_
                        refine WpC.ret ?_
                        cases H
                        exact Leaves.ret rfl rfl rfl ⟨rfl, rfl⟩
                      · replace H := condF hc H
                        refine WpC.skip ?_
                        refine WpC.seq ?_
                        refine WpC.seq ?_
                        refine WpC.regionL ?_
                        refine L.move hF rfl rfl rfl ?_
                        refine L.move hF rfl rfl rfl ?_
                        refine L.bin hF rfl rfl rfl rfl rfl rfl ?_
                        refine L.nil ?_
                        refine WpC.cond rfl (fun hc => ?_) (fun hc => ?_)
                        · replace H := condT hc H
                          refine WpC.seq ?_
                          refine WpC.regionL ?_
                          refine L.assign hF rfl rfl rfl ?_
                          refine L.nil ?_
                          refine WpC.ret ?_
                          cases H
                          exact Leaves.ret rfl rfl rfl ⟨rfl, rfl⟩
                        · replace H := condF hc H
                          refine WpC.skip ?_
                          refine WpC.seq ?_
                          obtain ⟨r27, hr27, H⟩ := bindS H
                          obtain ⟨r28, hr28, H⟩ := bindS H
                          obtain ⟨r29, hr29, H⟩ := bindS H
                          refine A.begin mixed rfl rfl ?_
                          intro W hI hO
                          have n7 : W 3 #[true, true, true, false, false, false] (mkSt [(6, MG.one (Cell.sl true (List.map eI r5))), (9, MG.one (Cell.own 0)), (11, MG.one (cI r25.1)), (76, agg [Cell.own 1, Cell.own 2, Cell.own 3, Cell.own 4, cI r27.Skew]), (77, agg [cI a1.Server, cI a1.Client, cI a1.Key, cI a1.Op, cI a1.Now, cI a1.Auth.Client, cI a1.Auth.Time, cI a1.Auth.Seq, cI a1.Rest.Servers, cI a1.Rest.Ops, cI a1.Rest.End, Cell.sl g4 (List.map eI a1.Path), Cell.sl g5 (List.map eI a1.Via), cI a1.Leaks, cS a1.Ticket])] [(0, ⟨1, List.map eI r25.2⟩), (1, ⟨1, List.map eI r27.UserRealm⟩), (2, ⟨1, List.map eI r27.ServiceRealm⟩), (3, ⟨2, List.map eTimpl_Pair r27.Links⟩), (4, ⟨2, List.map eTimpl_Pair r27.Proxy⟩)] [] 5) := by
                            refine hI _ _ _ ?_
                            refine A.all [3] (by kernel_rfl) rfl ⟨⟨_, rfl, ?_⟩, trivial⟩
                            refine L.call [false] [] [] 5 hF rfl rfl rfl ent89 rfl rfl rfl rfl rfl (Flaws_toAccept_gives k g4 g5 a1 r28 hr28) rfl ?_
                            refine L.nil ?_
                            refine A.all [4] (by kernel_rfl) rfl ⟨⟨_, rfl, ?_⟩, trivial⟩
                            refine L.call [false, false] [1, 2, 3, 4, 16, 17] [] 20 hF rfl rfl rfl ent90 rfl rfl rfl rfl rfl (Fimpl_Concerns_gives k false false false false false false r27 r28 r29 hr29) rfl ?_
                            refine L.nil ?_
                            refine A.take 5 rfl (by kernel_rfl) (by kernel_rfl) (by kernel_rfl) rfl (Ca.assign) (fun Q0 k0 => L.assign hF rfl rfl rfl (L.nil k0)) ?_
                            refine A.le (τ := mkSt [(6, MG.one (Cell.sl true (List.map eI r5))), (9, MG.one (Cell.own 0)), (11, MG.one (cI r25.1)), (13, MG.one (Cell.own 1))] [(0, ⟨1, List.map eI r25.2⟩), (1, ⟨1, List.map eI r29⟩)] [] 2) (Le.mk [(0, 0), (1, 20)] hm rfl ⟨⟨_, rfl, rfl⟩, ⟨_, rfl, rfl⟩, ⟨_, rfl, rfl⟩, ⟨_, rfl, rfl⟩, trivial⟩ ⟨⟨_, rfl, rfl⟩, ⟨_, rfl, rfl⟩, trivial⟩ trivial) ?_
                            refine A.done (by kernel_rfl) ?_
                            refine WpC.seq ?_
                            refine WpC.seq ?_
                            refine WpC.regionL ?_
                            refine L.move hF rfl rfl rfl ?_
                            refine L.move hF rfl rfl rfl ?_
                            obtain ⟨r31, hr31, H⟩ := bindS H
                            refine L.call [false, false] [1] [] 2 hF rfl rfl rfl ent26 rfl rfl rfl rfl rfl (Flaws_eqIntS_gives k false true r29 r5 r31 hr31) rfl ?_
                            refine L.not hF rfl rfl rfl ?_
                            refine L.nil ?_
                            refine WpC.cond rfl (fun hc => ?_) (fun hc => ?_)
                            · replace H := condT hc H
                              refine WpC.seq ?_
                              refine WpC.regionL ?_
                              refine L.assign hF rfl rfl rfl ?_
                              refine L.nil ?_
                              refine WpC.ret ?_
                              cases H
                              exact Leaves.ret rfl rfl rfl ⟨rfl, rfl⟩
                            · replace H := condF hc H
                              refine WpC.skip ?_
                              refine WpC.seq ?_
                              refine WpC.regionL ?_
                              refine L.assign hF rfl rfl rfl ?_
                              refine L.nil ?_
                              refine WpC.seq ?_
                              refine WpC.regionL ?_
                              refine L.move hF rfl rfl rfl ?_
                              refine L.move hF rfl rfl rfl ?_
                              obtain ⟨r32, hr32, H⟩ := bindS H
                              refine L.call [false, false] [0] [] 3 hF rfl rfl rfl ent30 rfl rfl rfl rfl rfl (Flaws_heldIntS_gives k false r25.2 (1 : Int) r32 hr32) rfl ?_
                              refine L.assign hF rfl rfl rfl ?_
                              refine L.nil ?_
                              refine WpC.seq ?_
                              refine WpC.seq ?_
                              refine WpC.regionL ?_
                              refine L.move hF rfl rfl rfl ?_
                              refine L.bin hF rfl rfl rfl rfl rfl rfl ?_
                              refine L.nil ?_
                              refine WpC.cond rfl (fun hc => ?_) (fun hc => ?_)
                              · replace H := condT hc H
                                refine WpC.seq ?_
                                refine WpC.regionL ?_
                                refine L.assign hF rfl rfl rfl ?_
                                refine L.nil ?_
                                refine WpC.ret ?_
                                cases H
                                exact Leaves.ret rfl rfl rfl ⟨rfl, rfl⟩
                              · replace H := condF hc H
                                refine WpC.skip ?_
                                refine WpC.seq ?_
                                refine WpC.seq ?_
                                refine WpC.regionL ?_
                                refine L.move hF rfl rfl rfl ?_
                                refine L.move hF rfl rfl rfl ?_
                                refine L.bin hF rfl rfl rfl rfl rfl rfl ?_
                                refine L.nil ?_
                                refine WpC.cond rfl (fun hc => ?_) (fun hc => ?_)
                                · replace H := condT hc H
                                  refine WpC.seq ?_
                                  refine WpC.regionL ?_
                                  refine L.assign hF rfl rfl rfl ?_
                                  refine L.nil ?_
                                  refine WpC.ret ?_
                                  cases H
                                  exact Leaves.ret rfl rfl rfl ⟨rfl, rfl⟩
                                · replace H := condF hc H
                                  refine WpC.skip ?_
                                  refine WpC.seq ?_
                                  refine WpC.regionL ?_
                                  refine L.assign hF rfl rfl rfl ?_
                                  refine L.nil ?_
                                  refine WpC.ret ?_
                                  cases H
                                  exact Leaves.ret rfl rfl rfl ⟨rfl, rfl⟩
                          have n5 : W 4 #[true, false, true, false, false, false] (mkSt [(6, MG.one (Cell.sl true (List.map eI r5))), (9, MG.one (Cell.own 0)), (11, MG.one (cI r25.1)), (75, agg [Cell.sl g0 (List.map eI a0.UserRealm), Cell.sl g1 (List.map eI a0.ServiceRealm), Cell.sl g2 (List.map eTlaws_Pair a0.Links), Cell.sl g3 (List.map eTlaws_Pair a0.Proxy), cI a0.Skew]), (77, agg [cI a1.Server, cI a1.Client, cI a1.Key, cI a1.Op, cI a1.Now, cI a1.Auth.Client, cI a1.Auth.Time, cI a1.Auth.Seq, cI a1.Rest.Servers, cI a1.Rest.Ops, cI a1.Rest.End, Cell.sl g4 (List.map eI a1.Path), Cell.sl g5 (List.map eI a1.Via), cI a1.Leaks, cS a1.Ticket])] [(0, ⟨1, List.map eI r25.2⟩)] [] 1) := by
                            refine hI _ _ _ ?_
                            refine A.all [1] (by kernel_rfl) rfl ⟨⟨_, rfl, ?_⟩, trivial⟩
                            refine L.call [false] [] [] 1 hF rfl rfl rfl ent71 rfl rfl rfl rfl rfl (Flaws_toConfig_gives k g0 g1 g2 g3 a0 r27 hr27) rfl ?_
                            refine L.nil ?_
                            exact A.on (hO _ _ _ n7) (Le.mk [(0, 0), (1, 1), (2, 2), (3, 3), (4, 4)] hm rfl ⟨⟨_, rfl, rfl⟩, ⟨_, rfl, rfl⟩, ⟨_, rfl, rfl⟩, ⟨_, rfl, rfl⟩, ⟨_, rfl, rfl⟩, trivial⟩ ⟨⟨_, rfl, rfl⟩, ⟨_, rfl, rfl⟩, ⟨_, rfl, rfl⟩, ⟨_, rfl, rfl⟩, ⟨_, rfl, rfl⟩, trivial⟩ trivial)
                          refine hI _ _ _ ?_
                          refine A.all [0, 2] (by kernel_rfl) rfl ⟨⟨_, rfl, ?_⟩, ⟨_, rfl, ?_⟩, trivial⟩
                          · refine L.loadPtr shape83 hF rfl rfl rfl rfl rfl rfl ?_
                            refine L.nil ?_
                            refine A.all [1, 2] (by kernel_rfl) rfl ⟨⟨_, rfl, ?_⟩, ⟨_, rfl, ?_⟩, trivial⟩
                            · refine L.call [false] [] [] 16 hF rfl rfl rfl ent71 rfl rfl rfl rfl rfl (Flaws_toConfig_gives k g0 g1 g2 g3 a0 r27 hr27) rfl ?_
                              refine L.nil ?_
                              refine A.all [2] (by kernel_rfl) rfl ⟨⟨_, rfl, ?_⟩, trivial⟩
                              refine L.loadPtr shape108 hF rfl rfl rfl rfl rfl rfl ?_
                              refine L.nil ?_
                              exact A.on (hO _ _ _ n7) (Le.mk [(0, 4), (1, 16), (2, 17), (3, 18), (4, 19)] hm rfl ⟨⟨_, rfl, rfl⟩, ⟨_, rfl, rfl⟩, ⟨_, rfl, rfl⟩, ⟨_, rfl, rfl⟩, ⟨_, rfl, rfl⟩, trivial⟩ ⟨⟨_, rfl, rfl⟩, ⟨_, rfl, rfl⟩, ⟨_, rfl, rfl⟩, ⟨_, rfl, rfl⟩, ⟨_, rfl, rfl⟩, trivial⟩ trivial)
                            · refine L.loadPtr shape108 hF rfl rfl rfl rfl rfl rfl ?_
                              refine L.nil ?_
                              exact A.on (hO _ _ _ n5) (Le.mk [(0, 4)] hm rfl ⟨⟨_, rfl, rfl⟩, ⟨_, rfl, rfl⟩, ⟨_, rfl, rfl⟩, ⟨_, rfl, rfl⟩, ⟨_, rfl, rfl⟩, trivial⟩ ⟨⟨_, rfl, rfl⟩, trivial⟩ trivial)
                          · refine L.loadPtr shape108 hF rfl rfl rfl rfl rfl rfl ?_
                            refine L.nil ?_
                            refine A.all [0] (by kernel_rfl) rfl ⟨⟨_, rfl, ?_⟩, trivial⟩
                            refine L.loadPtr shape83 hF rfl rfl rfl rfl rfl rfl ?_
                            refine L.nil ?_
                            exact A.on (hO _ _ _ n5) (Le.mk [(0, 4)] hm rfl ⟨⟨_, rfl, rfl⟩, ⟨_, rfl, rfl⟩, ⟨_, rfl, rfl⟩, ⟨_, rfl, rfl⟩, ⟨_, rfl, rfl⟩, trivial⟩ ⟨⟨_, rfl, rfl⟩, trivial⟩ trivial)
              have n3 : W 3 #[true, true, false, false, false] (mkSt [(2, MG.one (Cell.ptr 0 0)), (3, MG.one (Cell.ptr 1 0)), (6, MG.one (Cell.sl true (List.map eI r5))), (7, MG.one (Cell.ptr 2 0)), (8, MG.one (Cell.ptr 3 0)), (9, MG.one (Cell.own 4)), (45, agg [cI r7.Server, cI r7.Client, cI r7.Key, cI r7.Op, cI r7.Now, cI r7.Auth.Client, cI r7.Auth.Time, cI r7.Auth.Seq, cI r7.Rest.Servers, cI r7.Rest.Ops, cI r7.Rest.End, Cell.own 5, Cell.own 6, cI r7.Leaks, cS r7.Ticket]), (46, agg [cI a1.Server, cI a1.Client, cI a1.Key, cI a1.Op, cI a1.Now, cI a1.Auth.Client, cI a1.Auth.Time, cI a1.Auth.Seq, cI a1.Rest.Servers, cI a1.Rest.Ops, cI a1.Rest.End, Cell.sl g4 (List.map eI a1.Path), Cell.sl g5 (List.map eI a1.Via), cI a1.Leaks, cS a1.Ticket])] [(4, ⟨1, List.map eI r8⟩), (5, ⟨1, List.map eI r7.Path⟩), (6, ⟨1, List.map eI r7.Via⟩), (7, ⟨1, List.map eI r6.UserRealm⟩), (8, ⟨1, List.map eI r6.ServiceRealm⟩), (9, ⟨2, List.map eTimpl_Pair r6.Links⟩), (10, ⟨2, List.map eTimpl_Pair r6.Proxy⟩)] [(0, [Cell.sl g0 (List.map eI a0.UserRealm), Cell.sl g1 (List.map eI a0.ServiceRealm), Cell.sl g2 (List.map eTlaws_Pair a0.Links), Cell.sl g3 (List.map eTlaws_Pair a0.Proxy), cI a0.Skew]), (1, [cI a1.Server, cI a1.Client, cI a1.Key, cI a1.Op, cI a1.Now, cI a1.Auth.Client, cI a1.Auth.Time, cI a1.Auth.Seq, cI a1.Rest.Servers, cI a1.Rest.Ops, cI a1.Rest.End, Cell.sl g4 (List.map eI a1.Path), Cell.sl g5 (List.map eI a1.Via), cI a1.Leaks, cS a1.Ticket]), (2, [Cell.own 7, Cell.own 8, Cell.own 9, Cell.own 10, cI r6.Skew]), (3, [cI r7.Server, cI r7.Client, cI r7.Key, cI r7.Op, cI r7.Now, cI r7.Auth.Client, cI r7.Auth.Time, cI r7.Auth.Seq, cI r7.Rest.Servers, cI r7.Rest.Ops, cI r7.Rest.End, Cell.own 5, Cell.own 6, cI r7.Leaks, cS r7.Ticket])] 11) := by
                refine hI _ _ _ ?_
                refine A.all [2] (by kernel_rfl) rfl ⟨⟨_, rfl, ?_⟩, trivial⟩
                refine L.call [false] [] [] 11 hF rfl rfl rfl ent89 rfl rfl rfl rfl rfl (Flaws_toAccept_gives k g4 g5 a1 r17 hr17) rfl ?_
                refine L.nil ?_
                exact A.on (hO _ _ _ n7) (Le.mk [(0, 0), (1, 1), (2, 2), (3, 3), (4, 4), (5, 5), (6, 6), (7, 22), (8, 23), (9, 7), (10, 8), (11, 9), (12, 10)] hm rfl ⟨⟨_, rfl, rfl⟩, ⟨_, rfl, rfl⟩, ⟨_, rfl, rfl⟩, ⟨_, rfl, rfl⟩, ⟨_, rfl, rfl⟩, ⟨_, rfl, rfl⟩, ⟨_, rfl, rfl⟩, ⟨_, rfl, rfl⟩, trivial⟩ ⟨⟨_, rfl, rfl⟩, ⟨_, rfl, rfl⟩, ⟨_, rfl, rfl⟩, ⟨_, rfl, rfl⟩, ⟨_, rfl, rfl⟩, ⟨_, rfl, rfl⟩, ⟨_, rfl, rfl⟩, ⟨_, rfl, rfl⟩, ⟨_, rfl, rfl⟩, trivial⟩ ⟨⟨_, _, rfl, rfl, rfl⟩, ⟨_, _, rfl, rfl, rfl⟩, ⟨_, _, rfl, rfl, rfl⟩, ⟨_, _, rfl, rfl, rfl⟩, trivial⟩)
              refine hI _ _ _ ?_
              refine A.all [0, 1] (by kernel_rfl) rfl ⟨⟨_, rfl, ?_⟩, ⟨_, rfl, ?_⟩, trivial⟩
              · refine L.loadPtr shape113 hF rfl rfl rfl rfl rfl rfl ?_
                refine L.nil ?_
                refine A.all [1] (by kernel_rfl) rfl ⟨⟨_, rfl, ?_⟩, trivial⟩
                refine L.loadPtr shape108 hF rfl rfl rfl rfl rfl rfl ?_
                refine L.nil ?_
                exact A.on (hO _ _ _ n3) (Le.mk [(0, 0), (1, 1), (2, 2), (3, 3), (4, 4), (5, 9), (6, 10), (7, 5), (8, 6), (9, 7), (10, 8)] hm rfl ⟨⟨_, rfl, rfl⟩, ⟨_, rfl, rfl⟩, ⟨_, rfl, rfl⟩, ⟨_, rfl, rfl⟩, ⟨_, rfl, rfl⟩, ⟨_, rfl, rfl⟩, ⟨_, rfl, rfl⟩, ⟨_, rfl, rfl⟩, trivial⟩ ⟨⟨_, rfl, rfl⟩, ⟨_, rfl, rfl⟩, ⟨_, rfl, rfl⟩, ⟨_, rfl, rfl⟩, ⟨_, rfl, rfl⟩, ⟨_, rfl, rfl⟩, ⟨_, rfl, rfl⟩, trivial⟩ ⟨⟨_, _, rfl, rfl, rfl⟩, ⟨_, _, rfl, rfl, rfl⟩, ⟨_, _, rfl, rfl, rfl⟩, ⟨_, _, rfl, rfl, rfl⟩, trivial⟩)
              · refine L.loadPtr shape108 hF rfl rfl rfl rfl rfl rfl ?_
                refine L.nil ?_
                refine A.all [0, 2] (by kernel_rfl) rfl ⟨⟨_, rfl, ?_⟩, ⟨_, rfl, ?_⟩, trivial⟩
                · refine L.loadPtr shape113 hF rfl rfl rfl rfl rfl rfl ?_
                  refine L.nil ?_
                  exact A.on (hO _ _ _ n3) (Le.mk [(0, 0), (1, 1), (2, 2), (3, 3), (4, 4), (5, 9), (6, 10), (7, 5), (8, 6), (9, 7), (10, 8)] hm rfl ⟨⟨_, rfl, rfl⟩, ⟨_, rfl, rfl⟩, ⟨_, rfl, rfl⟩, ⟨_, rfl, rfl⟩, ⟨_, rfl, rfl⟩, ⟨_, rfl, rfl⟩, ⟨_, rfl, rfl⟩, ⟨_, rfl, rfl⟩, trivial⟩ ⟨⟨_, rfl, rfl⟩, ⟨_, rfl, rfl⟩, ⟨_, rfl, rfl⟩, ⟨_, rfl, rfl⟩, ⟨_, rfl, rfl⟩, ⟨_, rfl, rfl⟩, ⟨_, rfl, rfl⟩, trivial⟩ ⟨⟨_, _, rfl, rfl, rfl⟩, ⟨_, _, rfl, rfl, rfl⟩, ⟨_, _, rfl, rfl, rfl⟩, ⟨_, _, rfl, rfl, rfl⟩, trivial⟩)
                · refine L.call [false] [] [] 11 hF rfl rfl rfl ent89 rfl rfl rfl rfl rfl (Flaws_toAccept_gives k g4 g5 a1 r17 hr17) rfl ?_
                  refine L.nil ?_
                  refine A.all [0] (by kernel_rfl) rfl ⟨⟨_, rfl, ?_⟩, trivial⟩
                  refine L.loadPtr shape113 hF rfl rfl rfl rfl rfl rfl ?_
                  refine L.nil ?_
                  exact A.on (hO _ _ _ n7) (Le.mk [(0, 0), (1, 1), (2, 2), (3, 3), (4, 4), (5, 9), (6, 10), (7, 22), (8, 23), (9, 5), (10, 6), (11, 7), (12, 8)] hm rfl ⟨⟨_, rfl, rfl⟩, ⟨_, rfl, rfl⟩, ⟨_, rfl, rfl⟩, ⟨_, rfl, rfl⟩, ⟨_, rfl, rfl⟩, ⟨_, rfl, rfl⟩, ⟨_, rfl, rfl⟩, ⟨_, rfl, rfl⟩, trivial⟩ ⟨⟨_, rfl, rfl⟩, ⟨_, rfl, rfl⟩, ⟨_, rfl, rfl⟩, ⟨_, rfl, rfl⟩, ⟨_, rfl, rfl⟩, ⟨_, rfl, rfl⟩, ⟨_, rfl, rfl⟩, ⟨_, rfl, rfl⟩, ⟨_, rfl, rfl⟩, trivial⟩ ⟨⟨_, _, rfl, rfl, rfl⟩, ⟨_, _, rfl, rfl, rfl⟩, ⟨_, _, rfl, rfl, rfl⟩, ⟨_, _, rfl, rfl, rfl⟩, trivial⟩)
          have n3 : W 3 #[true, true, false, false, false] (mkSt [(2, MG.one (Cell.ptr 0 0)), (3, MG.one (Cell.ptr 1 0)), (6, MG.one (Cell.sl true (List.map eI r5))), (7, MG.one (Cell.ptr 2 0)), (8, MG.one (Cell.ptr 3 0)), (9, MG.one (Cell.own 4)), (40, agg [Cell.own 5, Cell.own 6, Cell.own 7, Cell.own 8, cI r6.Skew]), (41, agg [Cell.sl g0 (List.map eI a0.UserRealm), Cell.sl g1 (List.map eI a0.ServiceRealm), Cell.sl g2 (List.map eTlaws_Pair a0.Links), Cell.sl g3 (List.map eTlaws_Pair a0.Proxy), cI a0.Skew])] [(4, ⟨1, List.map eI r8⟩), (5, ⟨1, List.map eI r6.UserRealm⟩), (6, ⟨1, List.map eI r6.ServiceRealm⟩), (7, ⟨2, List.map eTimpl_Pair r6.Links⟩), (8, ⟨2, List.map eTimpl_Pair r6.Proxy⟩), (9, ⟨1, List.map eI r7.Path⟩), (10, ⟨1, List.map eI r7.Via⟩)] [(0, [Cell.sl g0 (List.map eI a0.UserRealm), Cell.sl g1 (List.map eI a0.ServiceRealm), Cell.sl g2 (List.map eTlaws_Pair a0.Links), Cell.sl g3 (List.map eTlaws_Pair a0.Proxy), cI a0.Skew]), (1, [cI a1.Server, cI a1.Client, cI a1.Key, cI a1.Op, cI a1.Now, cI a1.Auth.Client, cI a1.Auth.Time, cI a1.Auth.Seq, cI a1.Rest.Servers, cI a1.Rest.Ops, cI a1.Rest.End, Cell.sl g4 (List.map eI a1.Path), Cell.sl g5 (List.map eI a1.Via), cI a1.Leaks, cS a1.Ticket]), (2, [Cell.own 5, Cell.own 6, Cell.own 7, Cell.own 8, cI r6.Skew]), (3, [cI r7.Server, cI r7.Client, cI r7.Key, cI r7.Op, cI r7.Now, cI r7.Auth.Client, cI r7.Auth.Time, cI r7.Auth.Seq, cI r7.Rest.Servers, cI r7.Rest.Ops, cI r7.Rest.End, Cell.own 9, Cell.own 10, cI r7.Leaks, cS r7.Ticket])] 11) := by
            refine hI _ _ _ ?_
            refine A.all [2] (by kernel_rfl) rfl ⟨⟨_, rfl, ?_⟩, trivial⟩
            refine L.call [false] [] [] 11 hF rfl rfl rfl ent71 rfl rfl rfl rfl rfl (Flaws_toConfig_gives k g0 g1 g2 g3 a0 r13 hr13) rfl ?_
            refine L.nil ?_
            exact A.on (hO _ _ _ n7) (Le.mk [(0, 0), (1, 1), (2, 2), (3, 3), (4, 4), (5, 5), (6, 6), (7, 7), (8, 8), (9, 11), (10, 12), (11, 13), (12, 14), (13, 9), (14, 10)] hm rfl ⟨⟨_, rfl, rfl⟩, ⟨_, rfl, rfl⟩, ⟨_, rfl, rfl⟩, ⟨_, rfl, rfl⟩, ⟨_, rfl, rfl⟩, ⟨_, rfl, rfl⟩, ⟨_, rfl, rfl⟩, ⟨_, rfl, rfl⟩, trivial⟩ ⟨⟨_, rfl, rfl⟩, ⟨_, rfl, rfl⟩, ⟨_, rfl, rfl⟩, ⟨_, rfl, rfl⟩, ⟨_, rfl, rfl⟩, ⟨_, rfl, rfl⟩, ⟨_, rfl, rfl⟩, ⟨_, rfl, rfl⟩, ⟨_, rfl, rfl⟩, ⟨_, rfl, rfl⟩, ⟨_, rfl, rfl⟩, trivial⟩ ⟨⟨_, _, rfl, rfl, rfl⟩, ⟨_, _, rfl, rfl, rfl⟩, ⟨_, _, rfl, rfl, rfl⟩, ⟨_, _, rfl, rfl, rfl⟩, trivial⟩)
          refine hI _ _ _ ?_
          refine A.all [0, 1] (by kernel_rfl) rfl ⟨⟨_, rfl, ?_⟩, ⟨_, rfl, ?_⟩, trivial⟩
          · refine L.loadPtr shape90 hF rfl rfl rfl rfl rfl rfl ?_
            refine L.nil ?_
            refine A.all [1] (by kernel_rfl) rfl ⟨⟨_, rfl, ?_⟩, trivial⟩
            refine L.loadPtr shape83 hF rfl rfl rfl rfl rfl rfl ?_
            refine L.nil ?_
            exact A.on (hO _ _ _ n3) (Le.mk [(0, 0), (1, 1), (2, 7), (3, 23), (4, 24), (5, 2), (6, 3), (7, 4), (8, 5), (9, 19), (10, 20)] hm rfl ⟨⟨_, rfl, rfl⟩, ⟨_, rfl, rfl⟩, ⟨_, rfl, rfl⟩, ⟨_, rfl, rfl⟩, ⟨_, rfl, rfl⟩, ⟨_, rfl, rfl⟩, ⟨_, rfl, rfl⟩, ⟨_, rfl, rfl⟩, trivial⟩ ⟨⟨_, rfl, rfl⟩, ⟨_, rfl, rfl⟩, ⟨_, rfl, rfl⟩, ⟨_, rfl, rfl⟩, ⟨_, rfl, rfl⟩, ⟨_, rfl, rfl⟩, ⟨_, rfl, rfl⟩, trivial⟩ ⟨⟨_, _, rfl, rfl, rfl⟩, ⟨_, _, rfl, rfl, rfl⟩, ⟨_, _, rfl, rfl, rfl⟩, ⟨_, _, rfl, rfl, rfl⟩, trivial⟩)
          · refine L.loadPtr shape83 hF rfl rfl rfl rfl rfl rfl ?_
            refine L.nil ?_
            refine A.all [0, 2] (by kernel_rfl) rfl ⟨⟨_, rfl, ?_⟩, ⟨_, rfl, ?_⟩, trivial⟩
            · refine L.loadPtr shape90 hF rfl rfl rfl rfl rfl rfl ?_
              refine L.nil ?_
              exact A.on (hO _ _ _ n3) (Le.mk [(0, 0), (1, 1), (2, 7), (3, 23), (4, 24), (5, 2), (6, 3), (7, 4), (8, 5), (9, 19), (10, 20)] hm rfl ⟨⟨_, rfl, rfl⟩, ⟨_, rfl, rfl⟩, ⟨_, rfl, rfl⟩, ⟨_, rfl, rfl⟩, ⟨_, rfl, rfl⟩, ⟨_, rfl, rfl⟩, ⟨_, rfl, rfl⟩, ⟨_, rfl, rfl⟩, trivial⟩ ⟨⟨_, rfl, rfl⟩, ⟨_, rfl, rfl⟩, ⟨_, rfl, rfl⟩, ⟨_, rfl, rfl⟩, ⟨_, rfl, rfl⟩, ⟨_, rfl, rfl⟩, ⟨_, rfl, rfl⟩, trivial⟩ ⟨⟨_, _, rfl, rfl, rfl⟩, ⟨_, _, rfl, rfl, rfl⟩, ⟨_, _, rfl, rfl, rfl⟩, ⟨_, _, rfl, rfl, rfl⟩, trivial⟩)
            · refine L.call [false] [] [] 26 hF rfl rfl rfl ent71 rfl rfl rfl rfl rfl (Flaws_toConfig_gives k g0 g1 g2 g3 a0 r13 hr13) rfl ?_
              refine L.nil ?_
              refine A.all [0] (by kernel_rfl) rfl ⟨⟨_, rfl, ?_⟩, trivial⟩
              refine L.loadPtr shape90 hF rfl rfl rfl rfl rfl rfl ?_
              refine L.nil ?_
              exact A.on (hO _ _ _ n7) (Le.mk [(0, 0), (1, 1), (2, 7), (3, 23), (4, 24), (5, 2), (6, 3), (7, 4), (8, 5), (9, 26), (10, 27), (11, 28), (12, 29), (13, 19), (14, 20)] hm rfl ⟨⟨_, rfl, rfl⟩, ⟨_, rfl, rfl⟩, ⟨_, rfl, rfl⟩, ⟨_, rfl, rfl⟩, ⟨_, rfl, rfl⟩, ⟨_, rfl, rfl⟩, ⟨_, rfl, rfl⟩, ⟨_, rfl, rfl⟩, trivial⟩ ⟨⟨_, rfl, rfl⟩, ⟨_, rfl, rfl⟩, ⟨_, rfl, rfl⟩, ⟨_, rfl, rfl⟩, ⟨_, rfl, rfl⟩, ⟨_, rfl, rfl⟩, ⟨_, rfl, rfl⟩, ⟨_, rfl, rfl⟩, ⟨_, rfl, rfl⟩, ⟨_, rfl, rfl⟩, ⟨_, rfl, rfl⟩, trivial⟩ ⟨⟨_, _, rfl, rfl, rfl⟩, ⟨_, _, rfl, rfl, rfl⟩, ⟨_, _, rfl, rfl, rfl⟩, ⟨_, _, rfl, rfl, rfl⟩, trivial⟩)
      have n5 : W 4 #[true, false, true, false, false, false] (mkSt [(2, MG.one (Cell.ptr 0 0)), (3, MG.one (Cell.ptr 1 0)), (24, agg [Cell.sl g0 (List.map eI a0.UserRealm), Cell.sl g1 (List.map eI a0.ServiceRealm), Cell.sl g2 (List.map eTlaws_Pair a0.Links), Cell.sl g3 (List.map eTlaws_Pair a0.Proxy), cI a0.Skew]), (26, agg [cI a1.Server, cI a1.Client, cI a1.Key, cI a1.Op, cI a1.Now, cI a1.Auth.Client, cI a1.Auth.Time, cI a1.Auth.Seq, cI a1.Rest.Servers, cI a1.Rest.Ops, cI a1.Rest.End, Cell.sl g4 (List.map eI a1.Path), Cell.sl g5 (List.map eI a1.Via), cI a1.Leaks, cS a1.Ticket])] [] [(0, [Cell.sl g0 (List.map eI a0.UserRealm), Cell.sl g1 (List.map eI a0.ServiceRealm), Cell.sl g2 (List.map eTlaws_Pair a0.Links), Cell.sl g3 (List.map eTlaws_Pair a0.Proxy), cI a0.Skew]), (1, [cI a1.Server, cI a1.Client, cI a1.Key, cI a1.Op, cI a1.Now, cI a1.Auth.Client, cI a1.Auth.Time, cI a1.Auth.Seq, cI a1.Rest.Servers, cI a1.Rest.Ops, cI a1.Rest.End, Cell.sl g4 (List.map eI a1.Path), Cell.sl g5 (List.map eI a1.Via), cI a1.Leaks, cS a1.Ticket])] 2) := by
        refine hI _ _ _ ?_
        refine A.all [1] (by kernel_rfl) rfl ⟨⟨_, rfl, ?_⟩, trivial⟩
        refine L.call [false] [] [] 2 hF rfl rfl rfl ent71 rfl rfl rfl rfl rfl (Flaws_toConfig_gives k g0 g1 g2 g3 a0 r3 hr3) rfl ?_
        refine L.nil ?_
        exact A.on (hO _ _ _ n7) (Le.mk [(0, 0), (1, 1), (2, 2), (3, 3), (4, 4), (5, 5)] hm rfl ⟨⟨_, rfl, rfl⟩, ⟨_, rfl, rfl⟩, ⟨_, rfl, rfl⟩, ⟨_, rfl, rfl⟩, trivial⟩ ⟨⟨_, rfl, rfl⟩, ⟨_, rfl, rfl⟩, ⟨_, rfl, rfl⟩, ⟨_, rfl, rfl⟩, trivial⟩ ⟨⟨_, _, rfl, rfl, rfl⟩, ⟨_, _, rfl, rfl, rfl⟩, trivial⟩)
      refine hI _ _ _ ?_
      refine A.all [0, 2] (by kernel_rfl) rfl ⟨⟨_, rfl, ?_⟩, ⟨_, rfl, ?_⟩, trivial⟩
      · refine L.loadPtr shape83 hF rfl rfl rfl rfl rfl rfl ?_
        refine L.nil ?_
        refine A.all [1, 2] (by kernel_rfl) rfl ⟨⟨_, rfl, ?_⟩, ⟨_, rfl, ?_⟩, trivial⟩
        · refine L.call [false] [] [] 24 hF rfl rfl rfl ent71 rfl rfl rfl rfl rfl (Flaws_toConfig_gives k g0 g1 g2 g3 a0 r3 hr3) rfl ?_
          refine L.nil ?_
          refine A.all [2] (by kernel_rfl) rfl ⟨⟨_, rfl, ?_⟩, trivial⟩
          refine L.loadPtr shape108 hF rfl rfl rfl rfl rfl rfl ?_
          refine L.nil ?_
          exact A.on (hO _ _ _ n7) (Le.mk [(0, 20), (1, 21), (2, 24), (3, 25), (4, 26), (5, 27)] hm rfl ⟨⟨_, rfl, rfl⟩, ⟨_, rfl, rfl⟩, ⟨_, rfl, rfl⟩, ⟨_, rfl, rfl⟩, trivial⟩ ⟨⟨_, rfl, rfl⟩, ⟨_, rfl, rfl⟩, ⟨_, rfl, rfl⟩, ⟨_, rfl, rfl⟩, trivial⟩ ⟨⟨_, _, rfl, rfl, rfl⟩, ⟨_, _, rfl, rfl, rfl⟩, trivial⟩)
        · refine L.loadPtr shape108 hF rfl rfl rfl rfl rfl rfl ?_
          refine L.nil ?_
          exact A.on (hO _ _ _ n5) (Le.mk [(0, 20), (1, 21)] hm rfl ⟨⟨_, rfl, rfl⟩, ⟨_, rfl, rfl⟩, ⟨_, rfl, rfl⟩, ⟨_, rfl, rfl⟩, trivial⟩ trivial ⟨⟨_, _, rfl, rfl, rfl⟩, ⟨_, _, rfl, rfl, rfl⟩, trivial⟩)
      · refine L.loadPtr shape108 hF rfl rfl rfl rfl rfl rfl ?_
        refine L.nil ?_
        refine A.all [0] (by kernel_rfl) rfl ⟨⟨_, rfl, ?_⟩, trivial⟩
        refine L.loadPtr shape83 hF rfl rfl rfl rfl rfl rfl ?_
        refine L.nil ?_
        exact A.on (hO _ _ _ n5) (Le.mk [(0, 20), (1, 21)] hm rfl ⟨⟨_, rfl, rfl⟩, ⟨_, rfl, rfl⟩, ⟨_, rfl, rfl⟩, ⟨_, rfl, rfl⟩, trivial⟩ trivial ⟨⟨_, _, rfl, rfl, rfl⟩, ⟨_, _, rfl, rfl, rfl⟩, trivial⟩)
theorem open24 : Go.MG.Opens Try.prog 24 (Go.MG.eR Go.MG.eI) (Go.MG.wfR Go.MG.wfI) := Go.MG.Opens.slice Try.underlying24 (Go.MG.Opens.int Try.underlying3) (fun _ => (by kernel_rfl : Try.prog.cellsOf 3 = 1).symm) (fun _ => rfl) (fun _ => rfl) (by kernel_rfl)
def wfTlaws_Pair (x : Tlaws_Pair) : Prop := Go.MG.wfI x.A ∧ Go.MG.wfI x.B
theorem open258 : Go.MG.Opens Try.prog 258 eTlaws_Pair wfTlaws_Pair := by
  intro H enc W fuel cs x h
  obtain ⟨n, hp⟩ := Go.MG.struct_parts Try.underlying258 (by kernel_rfl : Try.prog.cellsOf 258 = 2) (by kernel_rfl) h
  obtain ⟨c0, k0, y0, rfl, h0, hp⟩ := hp
  obtain ⟨c1, k1, y1, rfl, h1, hp⟩ := hp
  obtain rfl := hp
  obtain ⟨a0, r0, w0⟩ := (Go.MG.Opens.int Try.underlying3) _ _ _ _ _ _ h0
  obtain ⟨a1, r1, w1⟩ := (Go.MG.Opens.int Try.underlying3) _ _ _ _ _ _ h1
  exact ⟨⟨a0, a1⟩, (r0.append (r1.append (rfl : Go.MG.RCs _ [] []))), w0, w1⟩
theorem open81 : Go.MG.Opens Try.prog 81 (Go.MG.eR eTlaws_Pair) (Go.MG.wfR wfTlaws_Pair) := Go.MG.Opens.slice Try.underlying81 open258 (fun _ => (by kernel_rfl : Try.prog.cellsOf 258 = 2).symm) (fun _ => rfl) (fun _ => rfl) (by kernel_rfl)
def wfTlaws_Config (x : Tlaws_Config) : Prop := (Go.MG.wfR Go.MG.wfI) x.UserRealm ∧ (Go.MG.wfR Go.MG.wfI) x.ServiceRealm ∧ (Go.MG.wfR wfTlaws_Pair) x.Links ∧ (Go.MG.wfR wfTlaws_Pair) x.Proxy ∧ Go.MG.wfI x.Skew
theorem open83 : Go.MG.Opens Try.prog 83 eTlaws_Config wfTlaws_Config := by
  intro H enc W fuel cs x h
  obtain ⟨n, hp⟩ := Go.MG.struct_parts Try.underlying83 (by kernel_rfl : Try.prog.cellsOf 83 = 5) (by kernel_rfl) h
  obtain ⟨c0, k0, y0, rfl, h0, hp⟩ := hp
  obtain ⟨c1, k1, y1, rfl, h1, hp⟩ := hp
  obtain ⟨c2, k2, y2, rfl, h2, hp⟩ := hp
  obtain ⟨c3, k3, y3, rfl, h3, hp⟩ := hp
  obtain ⟨c4, k4, y4, rfl, h4, hp⟩ := hp
  obtain rfl := hp
  obtain ⟨a0, r0, w0⟩ := open24 _ _ _ _ _ _ h0
  obtain ⟨a1, r1, w1⟩ := open24 _ _ _ _ _ _ h1
  obtain ⟨a2, r2, w2⟩ := open81 _ _ _ _ _ _ h2
  obtain ⟨a3, r3, w3⟩ := open81 _ _ _ _ _ _ h3
  obtain ⟨a4, r4, w4⟩ := (Go.MG.Opens.int Try.underlying3) _ _ _ _ _ _ h4
  exact ⟨⟨a0, a1, a2, a3, a4⟩, (r0.append (r1.append (r2.append (r3.append (r4.append (rfl : Go.MG.RCs _ [] [])))))), w0, w1, w2, w3, w4⟩
def wfTlaws_Auth (x : Tlaws_Auth) : Prop := Go.MG.wfI x.Client ∧ Go.MG.wfI x.Time ∧ Go.MG.wfI x.Seq
theorem open106 : Go.MG.Opens Try.prog 106 eTlaws_Auth wfTlaws_Auth := by
  intro H enc W fuel cs x h
  obtain ⟨n, hp⟩ := Go.MG.struct_parts Try.underlying106 (by kernel_rfl : Try.prog.cellsOf 106 = 3) (by kernel_rfl) h
  obtain ⟨c0, k0, y0, rfl, h0, hp⟩ := hp
  obtain ⟨c1, k1, y1, rfl, h1, hp⟩ := hp
  obtain ⟨c2, k2, y2, rfl, h2, hp⟩ := hp
  obtain rfl := hp
  obtain ⟨a0, r0, w0⟩ := (Go.MG.Opens.int Try.underlying3) _ _ _ _ _ _ h0
  obtain ⟨a1, r1, w1⟩ := (Go.MG.Opens.int Try.underlying3) _ _ _ _ _ _ h1
  obtain ⟨a2, r2, w2⟩ := (Go.MG.Opens.int Try.underlying3) _ _ _ _ _ _ h2
  exact ⟨⟨a0, a1, a2⟩, (r0.append (r1.append (r2.append (rfl : Go.MG.RCs _ [] [])))), w0, w1, w2⟩
def wfTlaws_Rest (x : Tlaws_Rest) : Prop := Go.MG.wfI x.Servers ∧ Go.MG.wfI x.Ops ∧ Go.MG.wfI x.End
theorem open84 : Go.MG.Opens Try.prog 84 eTlaws_Rest wfTlaws_Rest := by
  intro H enc W fuel cs x h
  obtain ⟨n, hp⟩ := Go.MG.struct_parts Try.underlying84 (by kernel_rfl : Try.prog.cellsOf 84 = 3) (by kernel_rfl) h
  obtain ⟨c0, k0, y0, rfl, h0, hp⟩ := hp
  obtain ⟨c1, k1, y1, rfl, h1, hp⟩ := hp
  obtain ⟨c2, k2, y2, rfl, h2, hp⟩ := hp
  obtain rfl := hp
  obtain ⟨a0, r0, w0⟩ := (Go.MG.Opens.int Try.underlying3) _ _ _ _ _ _ h0
  obtain ⟨a1, r1, w1⟩ := (Go.MG.Opens.int Try.underlying3) _ _ _ _ _ _ h1
  obtain ⟨a2, r2, w2⟩ := (Go.MG.Opens.int Try.underlying3) _ _ _ _ _ _ h2
  exact ⟨⟨a0, a1, a2⟩, (r0.append (r1.append (r2.append (rfl : Go.MG.RCs _ [] [])))), w0, w1, w2⟩
def wfTlaws_Accept (x : Tlaws_Accept) : Prop := Go.MG.wfI x.Server ∧ Go.MG.wfI x.Client ∧ Go.MG.wfI x.Key ∧ Go.MG.wfI x.Op ∧ Go.MG.wfI x.Now ∧ wfTlaws_Auth x.Auth ∧ wfTlaws_Rest x.Rest ∧ (Go.MG.wfR Go.MG.wfI) x.Path ∧ (Go.MG.wfR Go.MG.wfI) x.Via ∧ Go.MG.wfI x.Leaks ∧ Go.MG.wfS x.Ticket
theorem open108 : Go.MG.Opens Try.prog 108 eTlaws_Accept wfTlaws_Accept := by
  intro H enc W fuel cs x h
  obtain ⟨n, hp⟩ := Go.MG.struct_parts Try.underlying108 (by kernel_rfl : Try.prog.cellsOf 108 = 15) (by kernel_rfl) h
  obtain ⟨c0, k0, y0, rfl, h0, hp⟩ := hp
  obtain ⟨c1, k1, y1, rfl, h1, hp⟩ := hp
  obtain ⟨c2, k2, y2, rfl, h2, hp⟩ := hp
  obtain ⟨c3, k3, y3, rfl, h3, hp⟩ := hp
  obtain ⟨c4, k4, y4, rfl, h4, hp⟩ := hp
  obtain ⟨c5, k5, y5, rfl, h5, hp⟩ := hp
  obtain ⟨c6, k6, y6, rfl, h6, hp⟩ := hp
  obtain ⟨c7, k7, y7, rfl, h7, hp⟩ := hp
  obtain ⟨c8, k8, y8, rfl, h8, hp⟩ := hp
  obtain ⟨c9, k9, y9, rfl, h9, hp⟩ := hp
  obtain ⟨c10, k10, y10, rfl, h10, hp⟩ := hp
  obtain rfl := hp
  obtain ⟨a0, r0, w0⟩ := (Go.MG.Opens.int Try.underlying3) _ _ _ _ _ _ h0
  obtain ⟨a1, r1, w1⟩ := (Go.MG.Opens.int Try.underlying3) _ _ _ _ _ _ h1
  obtain ⟨a2, r2, w2⟩ := (Go.MG.Opens.int Try.underlying3) _ _ _ _ _ _ h2
  obtain ⟨a3, r3, w3⟩ := (Go.MG.Opens.int Try.underlying3) _ _ _ _ _ _ h3
  obtain ⟨a4, r4, w4⟩ := (Go.MG.Opens.int Try.underlying3) _ _ _ _ _ _ h4
  obtain ⟨a5, r5, w5⟩ := open106 _ _ _ _ _ _ h5
  obtain ⟨a6, r6, w6⟩ := open84 _ _ _ _ _ _ h6
  obtain ⟨a7, r7, w7⟩ := open24 _ _ _ _ _ _ h7
  obtain ⟨a8, r8, w8⟩ := open24 _ _ _ _ _ _ h8
  obtain ⟨a9, r9, w9⟩ := (Go.MG.Opens.int Try.underlying3) _ _ _ _ _ _ h9
  obtain ⟨a10, r10, w10⟩ := (Go.MG.Opens.str Try.underlying9) _ _ _ _ _ _ h10
  exact ⟨⟨a0, a1, a2, a3, a4, a5, a6, a7, a8, a9, a10⟩, (r0.append (r1.append (r2.append (r3.append (r4.append (r5.append (r6.append (r7.append (r8.append (r9.append (r10.append (rfl : Go.MG.RCs _ [] [])))))))))))), w0, w1, w2, w3, w4, w5, w6, w7, w8, w9, w10⟩
end Go.Proofs.Ytcolcmjcjpikcaa.M
