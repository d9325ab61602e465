import Derived.Test.YtcolcmjcjpikcaaFFlowx0
import Derived.Test.YtcolcmjcjpikcaaProg
namespace Go.Proofs.Ytcolcmjcjpikcaa.M
open Go Go.MG
set_option linter.unusedVariables false
set_option linter.unusedSimpArgs false
/-! ### Fspec_NextHop -/
def Fspec_NextHop.j19 (cl17 : Int → (List Int) → Int → Int → (List Int) → (List Int) → (List Timpl_Pair) → (List Timpl_Pair) → Int → Option Int) (k : Nat) (v297 : Int) (v298 : List Int) (v299 : Int) (v300 : Int) (v301 : List Int) (v302 : List Int) (v303 : List Timpl_Pair) (v304 : List Timpl_Pair) (v305 : Int) : Option Int := cl17 v297 v298 v299 (IntKind.i64.wrap (v300 + (1 : Int))) v301 v302 v303 v304 v305
def Fspec_NextHop.j20 (cl17 : Int → (List Int) → Int → Int → (List Int) → (List Int) → (List Timpl_Pair) → (List Timpl_Pair) → Int → Option Int) (k : Nat) (v310 : Int) (v311 : List Int) (v312 : Int) (v313 : Int) (v314 : Bool) (v315 : List Int) (v316 : List Int) (v317 : List Timpl_Pair) (v318 : List Timpl_Pair) (v319 : Int) : Option Int := cond v314 (Fspec_NextHop.j19 cl17 k v310 v311 v313 v313 v315 v316 v317 v318 v319) (Fspec_NextHop.j19 cl17 k v310 v311 v312 v313 v315 v316 v317 v318 v319)
def Fspec_NextHop.l17 : Nat → Int → (List Int) → Int → Int → (List Int) → (List Int) → (List Timpl_Pair) → (List Timpl_Pair) → Int → Option Int
  | 0, _, _, _, _, _, _, _, _, _ => none
  | k17 + 1, v270, v271, v272, v273, v274, v275, v276, v277, v278 => cond (decide (v273 < (3 : Int))) ((Fspec_l6Has k17 v276 (⟨v270, v273⟩ : Timpl_Pair)).bind fun r320 => cond r320 ((at? v271 v273).bind fun b322 => cond (decide (b322 < (3 : Int))) (cond (decide (v272 < (0 : Int))) (Fspec_NextHop.j20 (Fspec_NextHop.l17 k17) k17 v270 v271 v272 v273 true v274 v275 v276 v277 v278) ((at? v271 v273).bind fun b325 => (at? v271 v272).bind fun b326 => Fspec_NextHop.j20 (Fspec_NextHop.l17 k17) k17 v270 v271 v272 v273 (decide (b325 < b326)) v274 v275 v276 v277 v278)) (Fspec_NextHop.j20 (Fspec_NextHop.l17 k17) k17 v270 v271 v272 v273 false v274 v275 v276 v277 v278)) (Fspec_NextHop.j20 (Fspec_NextHop.l17 k17) k17 v270 v271 v272 v273 false v274 v275 v276 v277 v278)) (some v272)
def Fspec_NextHop (k : Nat) (a0 : Timpl_Config) (a1 : Int) (a2 : Int) : Option Int := (Fspec_ConfigOk k a0).bind fun r10 => cond (!r10) (some (-1 : Int)) ((Fspec_l6Realm k a1).bind fun r11 => cond (!r11) (some (-1 : Int)) ((Fspec_l6Realm k a2).bind fun r12 => cond (!r12) (some (-1 : Int)) (cond (a1 == a2) (some (-1 : Int)) ((Fspec_l6Far k a0 a2).bind fun r13 => Fspec_NextHop.l17 k a1 r13 (-1 : Int) (0 : Int) a0.UserRealm a0.ServiceRealm a0.Links a0.Proxy a0.Skew))))
theorem ent154 : Enters Try.prog 154 := ⟨Try.f154, Try.func154, rfl, by decide⟩
set_option maxHeartbeats 8000000 in
set_option maxRecDepth 100000 in
theorem Fspec_NextHop_gives (k : Nat) (g0 : Bool) (g1 : Bool) (g2 : Bool) (g3 : Bool) (a0 : Timpl_Config) (a1 : Int) (a2 : Int) (r : Int) (H : Fspec_NextHop k a0 a1 a2 = some r) : Gives Try.prog 154 [V.agg [Cell.sl g0 (List.map eI a0.UserRealm), Cell.sl g1 (List.map eI a0.ServiceRealm), Cell.sl g2 (List.map eTimpl_Pair a0.Links), Cell.sl g3 (List.map eTimpl_Pair a0.Proxy), cI a0.Skew], V.one (cI a1), V.one (cI a2)] [] [V.one (cI r)] [] := by
  refine Gives.intro Try.func154 rfl rfl rfl rfl ?_
  intro F hF hm
  unfold Fspec_NextHop at H
  obtain ⟨K, hK⟩ : ∃ K, k ≤ K := ⟨k, Nat.le_refl k⟩
  refine WpC.seq ?_
  refine WpC.regionL ?_
  refine L.box 7 hF rfl rfl rfl rfl ?_
  refine L.assign hF rfl rfl rfl ?_
  refine L.nil ?_
  refine WpC.seq ?_
  refine WpC.seq ?_
  refine WpC.regionL ?_
  refine L.loadPtr shape90 hF rfl rfl rfl rfl rfl rfl ?_
  obtain ⟨r10, hr10, H⟩ := bindS H
  refine L.call [false] [] [] 8 hF rfl rfl rfl ent150 rfl rfl rfl rfl rfl (Fspec_ConfigOk_gives k g0 g1 g2 g3 a0 r10 hr10) rfl ?_
  refine L.not hF rfl rfl rfl ?_
  refine L.move hF rfl rfl rfl ?_
  refine L.split (fun hc => ?_) (fun hc => ?_)
  · replace H := condT hc H
    refine L.off hF rfl rfl ?_
    refine L.off hF rfl rfl ?_
    refine L.off hF rfl rfl ?_
    refine L.pick hF rfl rfl rfl rfl ?_
    refine L.move hF rfl rfl rfl ?_
    refine L.off hF rfl rfl ?_
    refine L.off hF rfl rfl ?_
    refine L.off hF rfl rfl ?_
    refine L.pick hF rfl rfl rfl rfl ?_
    refine L.move hF rfl rfl rfl ?_
    refine L.off hF rfl rfl ?_
    refine L.off hF rfl rfl ?_
    refine L.off hF rfl rfl ?_
    refine L.pick hF rfl rfl rfl rfl ?_
    refine L.nil ?_
    refine WpC.cond rfl (fun _ => ?_) (fun hc => by cases hc)
    refine WpC.seq ?_
    refine WpC.regionL ?_
    refine L.assign hF rfl rfl rfl ?_
    refine L.nil ?_
    refine WpC.ret ?_
    cases H
    exact Leaves.ret rfl rfl rfl ⟨rfl, rfl⟩
  · replace H := condF hc H
    refine L.move hF rfl rfl rfl ?_
    obtain ⟨r11, hr11, H⟩ := bindS H
    refine L.call [false] [] [] 9 hF rfl rfl rfl ent177 rfl rfl rfl rfl rfl (Fspec_l6Realm_gives k  a1 r11 hr11) rfl ?_
    refine L.not hF rfl rfl rfl ?_
    refine L.pick hF rfl rfl rfl rfl ?_
    refine L.move hF rfl rfl rfl ?_
    refine L.split (fun hc => ?_) (fun hc => ?_)
    · replace H := condT hc H
      refine L.off hF rfl rfl ?_
      refine L.off hF rfl rfl ?_
      refine L.off hF rfl rfl ?_
      refine L.pick hF rfl rfl rfl rfl ?_
      refine L.move hF rfl rfl rfl ?_
      refine L.off hF rfl rfl ?_
      refine L.off hF rfl rfl ?_
      refine L.off hF rfl rfl ?_
      refine L.pick hF rfl rfl rfl rfl ?_
      refine L.nil ?_
      refine WpC.cond rfl (fun _ => ?_) (fun hc => by cases hc)
      refine WpC.seq ?_
      refine WpC.regionL ?_
      refine L.assign hF rfl rfl rfl ?_
      refine L.nil ?_
      refine WpC.ret ?_
      cases H
      exact Leaves.ret rfl rfl rfl ⟨rfl, rfl⟩
    · replace H := condF hc H
      refine L.move hF rfl rfl rfl ?_
      obtain ⟨r12, hr12, H⟩ := bindS H
      refine L.call [false] [] [] 10 hF rfl rfl rfl ent177 rfl rfl rfl rfl rfl (Fspec_l6Realm_gives k  a2 r12 hr12) rfl ?_
      refine L.not hF rfl rfl rfl ?_
      refine L.pick hF rfl rfl rfl rfl ?_
      refine L.move hF rfl rfl rfl ?_
      refine L.split (fun hc => ?_) (fun hc => ?_)
      · replace H := condT hc H
        refine L.off hF rfl rfl ?_
        refine L.off hF rfl rfl ?_
        refine L.off hF rfl rfl ?_
        refine L.pick hF rfl rfl rfl rfl ?_
        refine L.nil ?_
        refine WpC.cond rfl (fun _ => ?_) (fun hc => by cases hc)
        refine WpC.seq ?_
        refine WpC.regionL ?_
        refine L.assign hF rfl rfl rfl ?_
        refine L.nil ?_
        refine WpC.ret ?_
        cases H
        exact Leaves.ret rfl rfl rfl ⟨rfl, rfl⟩
      · replace H := condF hc H
        refine L.move hF rfl rfl rfl ?_
        refine L.move hF rfl rfl rfl ?_
        refine L.bin hF rfl rfl rfl rfl rfl rfl ?_
        refine L.pick hF rfl rfl rfl rfl ?_
        refine L.nil ?_
        refine WpC.cond rfl (fun hc => ?_) (fun hc => ?_)
        · replace H := condT hc H
          refine WpC.seq ?_
          refine WpC.regionL ?_
          refine L.assign hF rfl rfl rfl ?_
          refine L.nil ?_
          refine WpC.ret ?_
          cases H
          exact Leaves.ret rfl rfl rfl ⟨rfl, rfl⟩
        · replace H := condF hc H
          refine WpC.skip ?_
          refine WpC.seq ?_
          refine WpC.regionL ?_
          refine L.loadPtr shape90 hF rfl rfl rfl rfl rfl rfl ?_
          refine L.move hF rfl rfl rfl ?_
          obtain ⟨r13, hr13, H⟩ := bindS H
          refine L.call [false, false] [] [] 11 hF rfl rfl rfl ent243 rfl rfl rfl rfl rfl (Fspec_l6Far_gives k g0 g1 g2 g3 a0 a2 r13 hr13) rfl ?_
          refine L.assign hF rfl rfl rfl ?_
          refine L.nil ?_
          refine WpC.seq ?_
          refine WpC.regionL ?_
          refine L.assign hF rfl rfl rfl ?_
          refine L.nil ?_
          refine WpC.seq ?_
          refine WpC.seq ?_
          refine WpC.regionL ?_
          refine L.assign hF rfl rfl rfl ?_
          refine L.nil ?_
          refine WpC.block ?_
          refine WpC.loopL (P := Try.prog) (fun n σ => ∃ v270 : Int, ∃ v271 : List Int, ∃ v272 : Int, ∃ v273 : Int, ∃ v274 : List Int, ∃ v275 : List Int, ∃ v276 : List Timpl_Pair, ∃ v277 : List Timpl_Pair, ∃ v278 : Int, n ≤ K ∧ Fspec_NextHop.l17 n v270 v271 v272 v273 v274 v275 v276 v277 v278 = some r ∧ σ = mkSt [(1, one (cI v270)), (3, one (Cell.ptr 0 0)), (7, one (Cell.own 1)), (8, one (cI v272)), (9, one (cI v273))] [(1, ⟨1, List.map eI v271⟩)] [(0, [Cell.sl g0 (List.map eI v274), Cell.sl g1 (List.map eI v275), Cell.sl g2 (List.map eTimpl_Pair v276), Cell.sl g3 (List.map eTimpl_Pair v277), cI v278])] 2) k ⟨_, ⟨a1, r13, (-1 : Int), (0 : Int), a0.UserRealm, a0.ServiceRealm, a0.Links, a0.Proxy, a0.Skew, by omega, H, rfl⟩, Le.mk [(0, 7), (1, 11)] hm rfl ⟨⟨_, rfl, rfl⟩, ⟨_, rfl, rfl⟩, ⟨_, rfl, rfl⟩, ⟨_, rfl, rfl⟩, ⟨_, rfl, rfl⟩, trivial⟩ ⟨⟨_, rfl, rfl⟩, trivial⟩ ⟨⟨_, _, rfl, rfl, rfl⟩, trivial⟩⟩ ?_
          clear H
          rintro k17 _ ⟨v270, v271, v272, v273, v274, v275, v276, v277, v278, hk17, H, rfl⟩
          cases k17 with
          | zero => cases H
          | succ k17 =>
            rw [Fspec_NextHop.l17] at H
            refine WpC.seq ?_
            refine WpC.seq ?_
            refine WpC.regionL ?_
            refine L.move hF rfl rfl rfl ?_
            refine L.bin hF rfl rfl rfl rfl rfl rfl ?_
            refine L.nil ?_
            refine WpC.cond rfl (fun hc => ?_) (fun hc => ?_)
            · replace H := condT hc H
              refine WpC.skip ?_
              refine WpC.join (fun σ => ∃ kj19 : Nat, ∃ v297 : Int, ∃ v298 : List Int, ∃ v299 : Int, ∃ v300 : Int, ∃ v301 : List Int, ∃ v302 : List Int, ∃ v303 : List Timpl_Pair, ∃ v304 : List Timpl_Pair, ∃ v305 : Int, kj19 ≤ K ∧ Fspec_NextHop.j19 (Fspec_NextHop.l17 k17) kj19 v297 v298 v299 v300 v301 v302 v303 v304 v305 = some r ∧ σ = mkSt [(1, one (cI v297)), (3, one (Cell.ptr 0 0)), (7, one (Cell.own 1)), (8, one (cI v299)), (9, one (cI v300))] [(1, ⟨1, List.map eI v298⟩)] [(0, [Cell.sl g0 (List.map eI v301), Cell.sl g1 (List.map eI v302), Cell.sl g2 (List.map eTimpl_Pair v303), Cell.sl g3 (List.map eTimpl_Pair v304), cI v305])] 2) ?_ ?_
              · rintro _ ⟨kj19, v297, v298, v299, v300, v301, v302, v303, v304, v305, hkj19, H, rfl⟩
                unfold Fspec_NextHop.j19 at H
                refine WpC.regionL ?_
                refine L.move hF rfl rfl rfl ?_
                refine L.bin hF rfl rfl rfl rfl rfl rfl ?_
                refine L.assign hF rfl rfl rfl ?_
                refine L.nil ?_
                exact ⟨k17, _, by omega, ⟨v297, v298, v299, (IntKind.i64.wrap (v300 + (1 : Int))), v301, v302, v303, v304, v305, by omega, H, rfl⟩, Le.mk [(0, 0), (1, 1)] hm rfl ⟨⟨_, rfl, rfl⟩, ⟨_, rfl, rfl⟩, ⟨_, rfl, rfl⟩, ⟨_, rfl, rfl⟩, ⟨_, rfl, rfl⟩, trivial⟩ ⟨⟨_, rfl, rfl⟩, trivial⟩ ⟨⟨_, _, rfl, rfl, rfl⟩, trivial⟩⟩
              · refine WpC.block ?_
                refine WpC.join (fun σ => ∃ kj20 : Nat, ∃ v310 : Int, ∃ v311 : List Int, ∃ v312 : Int, ∃ v313 : Int, ∃ v314 : Bool, ∃ v315 : List Int, ∃ v316 : List Int, ∃ v317 : List Timpl_Pair, ∃ v318 : List Timpl_Pair, ∃ v319 : Int, kj20 ≤ K ∧ Fspec_NextHop.j20 (Fspec_NextHop.l17 k17) kj20 v310 v311 v312 v313 v314 v315 v316 v317 v318 v319 = some r ∧ σ = mkSt [(1, one (cI v310)), (3, one (Cell.ptr 0 0)), (7, one (Cell.own 1)), (8, one (cI v312)), (9, one (cI v313)), (62, one (cL v314))] [(1, ⟨1, List.map eI v311⟩)] [(0, [Cell.sl g0 (List.map eI v315), Cell.sl g1 (List.map eI v316), Cell.sl g2 (List.map eTimpl_Pair v317), Cell.sl g3 (List.map eTimpl_Pair v318), cI v319])] 2) ?_ ?_
                · rintro _ ⟨kj20, v310, v311, v312, v313, v314, v315, v316, v317, v318, v319, hkj20, H, rfl⟩
                  unfold Fspec_NextHop.j20 at H
                  refine WpC.cond rfl (fun hc => ?_) (fun hc => ?_)
                  · replace H := condT hc H
                    refine WpC.regionL ?_
                    refine L.move hF rfl rfl rfl ?_
                    refine L.assign hF rfl rfl rfl ?_
                    refine L.nil ?_
                    exact ⟨_, ⟨kj20, v310, v311, v313, v313, v315, v316, v317, v318, v319, by omega, H, rfl⟩, Le.mk [(0, 0), (1, 1)] hm rfl ⟨⟨_, rfl, rfl⟩, ⟨_, rfl, rfl⟩, ⟨_, rfl, rfl⟩, ⟨_, rfl, rfl⟩, ⟨_, rfl, rfl⟩, trivial⟩ ⟨⟨_, rfl, rfl⟩, trivial⟩ ⟨⟨_, _, rfl, rfl, rfl⟩, trivial⟩⟩
                  · replace H := condF hc H
                    refine WpC.skip ?_
                    exact ⟨_, ⟨kj20, v310, v311, v312, v313, v315, v316, v317, v318, v319, by omega, H, rfl⟩, Le.mk [(0, 0), (1, 1)] hm rfl ⟨⟨_, rfl, rfl⟩, ⟨_, rfl, rfl⟩, ⟨_, rfl, rfl⟩, ⟨_, rfl, rfl⟩, ⟨_, rfl, rfl⟩, trivial⟩ ⟨⟨_, rfl, rfl⟩, trivial⟩ ⟨⟨_, _, rfl, rfl, rfl⟩, trivial⟩⟩
                · obtain ⟨r320, hr320, H⟩ := bindS H
                  rcases Bool.eq_false_or_eq_true (r320) with hc321 | hc321
                  · replace H := condT hc321 H
                    obtain ⟨b322, hb322, H⟩ := bindS H
                    rcases Bool.eq_false_or_eq_true ((decide (b322 < (3 : Int)))) with hc323 | hc323
                    · replace H := condT hc323 H
                      rcases Bool.eq_false_or_eq_true ((decide (v272 < (0 : Int)))) with hc324 | hc324
                      · replace H := condT hc324 H
                        refine A.begin mixed rfl rfl ?_
                        intro W hI hO
                        refine hI _ _ _ ?_
                        refine A.take 0 rfl (by kernel_rfl) (by kernel_rfl) (by kernel_rfl) rfl (Ca.fieldAddr Try.underlying90 rfl info88 rfl) (fun Q0 k0 => L.fieldAddr Try.underlying90 rfl info88 rfl hF rfl rfl rfl rfl rfl (L.nil k0)) ?_
                        refine A.take 2 rfl (by kernel_rfl) (by kernel_rfl) (by kernel_rfl) rfl (Ca.move) (fun Q0 k0 => L.move hF rfl rfl rfl (L.nil k0)) ?_
                        refine A.take 3 rfl (by kernel_rfl) (by kernel_rfl) (by kernel_rfl) rfl (Ca.move) (fun Q0 k0 => L.move hF rfl rfl rfl (L.nil k0)) ?_
                        refine A.take 4 rfl (by kernel_rfl) (by kernel_rfl) (by kernel_rfl) rfl (Ca.build rfl (by rw [built256]; rfl)) (fun Q0 k0 => L.buildF built256 hF rfl rfl rfl rfl (L.nil k0)) ?_
                        refine A.all [1] (by kernel_rfl) rfl ⟨⟨_, rfl, ?_⟩, trivial⟩
                        refine L.loadPtr shape88 hF rfl rfl rfl rfl rfl rfl ?_
                        refine L.nil ?_
                        refine A.all [5] (by kernel_rfl) rfl ⟨⟨_, rfl, ?_⟩, trivial⟩
                        refine L.call [false, false] [] [] 2 hF rfl rfl rfl ent244 rfl rfl rfl rfl rfl (Fspec_l6Has_gives k17 g2 v276 (⟨v270, v273⟩ : Timpl_Pair) r320 hr320) rfl ?_
                        refine L.nil ?_
                        refine A.take 6 rfl (by kernel_rfl) (by kernel_rfl) (by kernel_rfl) rfl (Ca.move) (fun Q0 k0 => L.move hF rfl rfl rfl (L.nil k0)) ?_
                        refine A.le (τ := mkSt [(1, one (cI v270)), (3, one (Cell.ptr 0 0)), (7, one (Cell.own 1)), (8, one (cI v272)), (9, one (cI v273)), (41, one (cL true))] [(1, ⟨1, List.map eI v271⟩)] [(0, [Cell.sl g0 (List.map eI v274), Cell.sl g1 (List.map eI v275), Cell.sl g2 (List.map eTimpl_Pair v276), Cell.sl g3 (List.map eTimpl_Pair v277), cI v278])] 2) (Le.mk [(0, 0), (1, 1)] hm rfl ⟨⟨_, rfl, rfl⟩, ⟨_, rfl, rfl⟩, ⟨_, rfl, rfl⟩, ⟨_, rfl, rfl⟩, ⟨_, rfl, rfl⟩, ⟨_, rfl, congrArg (fun b => some (one (cL b))) hc321⟩, trivial⟩ ⟨⟨_, rfl, rfl⟩, trivial⟩ ⟨⟨_, _, rfl, rfl, rfl⟩, trivial⟩) ?_
                        refine A.take 7 rfl (by kernel_rfl) (by kernel_rfl) (by kernel_rfl) rfl (Ca.move) (fun Q0 k0 => L.move hF rfl rfl rfl (L.nil k0)) ?_
                        refine A.take 8 rfl (by kernel_rfl) (by kernel_rfl) (by kernel_rfl) rfl (Ca.move) (fun Q0 k0 => L.move hF rfl rfl rfl (L.nil k0)) ?_
                        refine A.take 9 rfl (by kernel_rfl) (by kernel_rfl) (by kernel_rfl) rfl (Ca.indexAddr) (fun Q0 k0 => L.idxR (xs := v271) (e := eI) Try.underlying24 info3 hF rfl rfl rfl rfl rfl hb322 rfl rfl (L.nil k0)) ?_
                        refine A.all [10] (by kernel_rfl) rfl ⟨⟨_, rfl, ?_⟩, trivial⟩
                        refine L.loadEp (xs := v271) (e := eI) shape3 hF rfl rfl rfl rfl (at?_get hb322).2 rfl rfl ?_
                        refine L.nil ?_
                        refine A.take 11 rfl (by kernel_rfl) (by kernel_rfl) (by kernel_rfl) rfl (Ca.bin rfl rfl (calm_int _ _ _ _ _ _ _ _)) (fun Q0 k0 => L.bin hF rfl rfl rfl rfl rfl rfl (L.nil k0)) ?_
                        refine A.take 12 rfl (by kernel_rfl) (by kernel_rfl) (by kernel_rfl) rfl (Ca.pick) (fun Q0 k0 => L.pick hF rfl rfl rfl rfl (L.nil k0)) ?_
                        refine A.take 13 rfl (by kernel_rfl) (by kernel_rfl) (by kernel_rfl) rfl (Ca.move) (fun Q0 k0 => L.move hF rfl rfl rfl (L.nil k0)) ?_
                        refine A.le (τ := mkSt [(1, one (cI v270)), (3, one (Cell.ptr 0 0)), (7, one (Cell.own 1)), (8, one (cI v272)), (9, one (cI v273)), (42, one (Cell.own 1)), (43, one (cI v273)), (44, one (Cell.ep 1 v273.toNat 0)), (45, one (cI b322)), (46, one (cL (decide (b322 < (3 : Int))))), (48, one (cL true))] [(1, ⟨1, List.map eI v271⟩)] [(0, [Cell.sl g0 (List.map eI v274), Cell.sl g1 (List.map eI v275), Cell.sl g2 (List.map eTimpl_Pair v276), Cell.sl g3 (List.map eTimpl_Pair v277), cI v278])] 2) (Le.mk [(0, 0), (1, 1)] hm rfl ⟨⟨_, rfl, rfl⟩, ⟨_, rfl, rfl⟩, ⟨_, rfl, rfl⟩, ⟨_, rfl, rfl⟩, ⟨_, rfl, rfl⟩, ⟨_, rfl, rfl⟩, ⟨_, rfl, rfl⟩, ⟨_, rfl, rfl⟩, ⟨_, rfl, rfl⟩, ⟨_, rfl, rfl⟩, ⟨_, rfl, congrArg (fun b => some (one (cL b))) hc323⟩, trivial⟩ ⟨⟨_, rfl, rfl⟩, trivial⟩ ⟨⟨_, _, rfl, rfl, rfl⟩, trivial⟩) ?_
                        refine A.take 14 rfl (by kernel_rfl) (by kernel_rfl) (by kernel_rfl) rfl (Ca.move) (fun Q0 k0 => L.move hF rfl rfl rfl (L.nil k0)) ?_
                        refine A.take 15 rfl (by kernel_rfl) (by kernel_rfl) (by kernel_rfl) rfl (Ca.bin rfl rfl (calm_int _ _ _ _ _ _ _ _)) (fun Q0 k0 => L.bin hF rfl rfl rfl rfl rfl rfl (L.nil k0)) ?_
                        refine A.take 16 rfl (by kernel_rfl) (by kernel_rfl) (by kernel_rfl) rfl (Ca.move) (fun Q0 k0 => L.move hF rfl rfl rfl (L.nil k0)) ?_
                        refine A.le (τ := mkSt [(1, one (cI v270)), (3, one (Cell.ptr 0 0)), (7, one (Cell.own 1)), (8, one (cI v272)), (9, one (cI v273)), (42, one (Cell.own 1)), (43, one (cI v273)), (44, one (Cell.ep 1 v273.toNat 0)), (45, one (cI b322)), (46, one (cL (decide (b322 < (3 : Int))))), (48, one (cL true)), (49, one (cI v272)), (50, one (cL (decide (v272 < (0 : Int))))), (51, one (cL true))] [(1, ⟨1, List.map eI v271⟩)] [(0, [Cell.sl g0 (List.map eI v274), Cell.sl g1 (List.map eI v275), Cell.sl g2 (List.map eTimpl_Pair v276), Cell.sl g3 (List.map eTimpl_Pair v277), cI v278])] 2) (Le.mk [(0, 0), (1, 1)] hm rfl ⟨⟨_, rfl, rfl⟩, ⟨_, rfl, rfl⟩, ⟨_, rfl, rfl⟩, ⟨_, rfl, rfl⟩, ⟨_, rfl, rfl⟩, ⟨_, rfl, rfl⟩, ⟨_, rfl, rfl⟩, ⟨_, rfl, rfl⟩, ⟨_, rfl, rfl⟩, ⟨_, rfl, rfl⟩, ⟨_, rfl, rfl⟩, ⟨_, rfl, rfl⟩, ⟨_, rfl, rfl⟩, ⟨_, rfl, congrArg (fun b => some (one (cL b))) hc324⟩, trivial⟩ ⟨⟨_, rfl, rfl⟩, trivial⟩ ⟨⟨_, _, rfl, rfl, rfl⟩, trivial⟩) ?_
                        refine A.off 17 rfl (by kernel_rfl) (by kernel_rfl) (by kernel_rfl) rfl hF rfl rfl ?_
                        refine A.off 18 rfl (by kernel_rfl) (by kernel_rfl) (by kernel_rfl) rfl hF rfl rfl ?_
                        refine A.off 19 rfl (by kernel_rfl) (by kernel_rfl) (by kernel_rfl) rfl hF rfl rfl ?_
                        refine A.off 20 rfl (by kernel_rfl) (by kernel_rfl) (by kernel_rfl) rfl hF rfl rfl ?_
                        refine A.off 21 rfl (by kernel_rfl) (by kernel_rfl) (by kernel_rfl) rfl hF rfl rfl ?_
                        refine A.off 22 rfl (by kernel_rfl) (by kernel_rfl) (by kernel_rfl) rfl hF rfl rfl ?_
                        refine A.off 23 rfl (by kernel_rfl) (by kernel_rfl) (by kernel_rfl) rfl hF rfl rfl ?_
                        refine A.off 24 rfl (by kernel_rfl) (by kernel_rfl) (by kernel_rfl) rfl hF rfl rfl ?_
                        refine A.off 25 rfl (by kernel_rfl) (by kernel_rfl) (by kernel_rfl) rfl hF rfl rfl ?_
                        refine A.take 26 rfl (by kernel_rfl) (by kernel_rfl) (by kernel_rfl) rfl (Ca.pick) (fun Q0 k0 => L.pick hF rfl rfl rfl rfl (L.nil k0)) ?_
                        refine A.le (τ := mkSt [(1, one (cI v270)), (3, one (Cell.ptr 0 0)), (7, one (Cell.own 1)), (8, one (cI v272)), (9, one (cI v273)), (42, one (Cell.own 1)), (43, one (cI v273)), (44, one (Cell.ep 1 v273.toNat 0)), (45, one (cI b322)), (46, one (cL (decide (b322 < (3 : Int))))), (48, one (cL true)), (49, one (cI v272)), (50, one (cL (decide (v272 < (0 : Int))))), (51, one (cL true)), (52, Slot.tup []), (53, Slot.tup []), (54, Slot.tup []), (55, Slot.tup []), (56, Slot.tup []), (57, Slot.tup []), (58, Slot.tup []), (59, Slot.tup []), (60, Slot.tup []), (61, one (cL true))] [(1, ⟨1, List.map eI v271⟩)] [(0, [Cell.sl g0 (List.map eI v274), Cell.sl g1 (List.map eI v275), Cell.sl g2 (List.map eTimpl_Pair v276), Cell.sl g3 (List.map eTimpl_Pair v277), cI v278])] 2) (Le.mk [(0, 0), (1, 1)] hm rfl ⟨⟨_, rfl, rfl⟩, ⟨_, rfl, rfl⟩, ⟨_, rfl, rfl⟩, ⟨_, rfl, rfl⟩, ⟨_, rfl, rfl⟩, ⟨_, rfl, rfl⟩, ⟨_, rfl, rfl⟩, ⟨_, rfl, rfl⟩, ⟨_, rfl, rfl⟩, ⟨_, rfl, rfl⟩, ⟨_, rfl, rfl⟩, ⟨_, rfl, rfl⟩, ⟨_, rfl, rfl⟩, ⟨_, rfl, rfl⟩, ⟨_, rfl, rfl⟩, ⟨_, rfl, rfl⟩, ⟨_, rfl, rfl⟩, ⟨_, rfl, rfl⟩, ⟨_, rfl, rfl⟩, ⟨_, rfl, rfl⟩, ⟨_, rfl, rfl⟩, ⟨_, rfl, rfl⟩, ⟨_, rfl, rfl⟩, ⟨_, rfl, rfl⟩, trivial⟩ ⟨⟨_, rfl, rfl⟩, trivial⟩ ⟨⟨_, _, rfl, rfl, rfl⟩, trivial⟩) ?_
                        refine A.take 27 rfl (by kernel_rfl) (by kernel_rfl) (by kernel_rfl) rfl (Ca.pick) (fun Q0 k0 => L.pick hF rfl rfl rfl rfl (L.nil k0)) ?_
                        refine A.le (τ := mkSt [(1, one (cI v270)), (3, one (Cell.ptr 0 0)), (7, one (Cell.own 1)), (8, one (cI v272)), (9, one (cI v273)), (42, one (Cell.own 1)), (43, one (cI v273)), (44, one (Cell.ep 1 v273.toNat 0)), (45, one (cI b322)), (46, one (cL (decide (b322 < (3 : Int))))), (49, one (cI v272)), (50, one (cL (decide (v272 < (0 : Int))))), (51, one (cL true)), (52, Slot.tup []), (53, Slot.tup []), (54, Slot.tup []), (55, Slot.tup []), (56, Slot.tup []), (57, Slot.tup []), (58, Slot.tup []), (59, Slot.tup []), (60, Slot.tup []), (61, one (cL true)), (62, one (cL true))] [(1, ⟨1, List.map eI v271⟩)] [(0, [Cell.sl g0 (List.map eI v274), Cell.sl g1 (List.map eI v275), Cell.sl g2 (List.map eTimpl_Pair v276), Cell.sl g3 (List.map eTimpl_Pair v277), cI v278])] 2) (Le.mk [(0, 0), (1, 1)] hm rfl ⟨⟨_, rfl, rfl⟩, ⟨_, rfl, rfl⟩, ⟨_, rfl, rfl⟩, ⟨_, rfl, rfl⟩, ⟨_, rfl, rfl⟩, ⟨_, rfl, rfl⟩, ⟨_, rfl, rfl⟩, ⟨_, rfl, rfl⟩, ⟨_, rfl, rfl⟩, ⟨_, rfl, rfl⟩, ⟨_, rfl, rfl⟩, ⟨_, rfl, rfl⟩, ⟨_, rfl, rfl⟩, ⟨_, rfl, rfl⟩, ⟨_, rfl, rfl⟩, ⟨_, rfl, rfl⟩, ⟨_, rfl, rfl⟩, ⟨_, rfl, rfl⟩, ⟨_, rfl, rfl⟩, ⟨_, rfl, rfl⟩, ⟨_, rfl, rfl⟩, ⟨_, rfl, rfl⟩, ⟨_, rfl, rfl⟩, ⟨_, rfl, rfl⟩, trivial⟩ ⟨⟨_, rfl, rfl⟩, trivial⟩ ⟨⟨_, _, rfl, rfl, rfl⟩, trivial⟩) ?_
                        refine A.done (by kernel_rfl) ?_
                        exact ⟨_, ⟨k17, v270, v271, v272, v273, true, v274, v275, v276, v277, v278, by omega, H, rfl⟩, Le.mk [(0, 0), (1, 1)] hm rfl ⟨⟨_, rfl, rfl⟩, ⟨_, rfl, rfl⟩, ⟨_, rfl, rfl⟩, ⟨_, rfl, rfl⟩, ⟨_, rfl, rfl⟩, ⟨_, rfl, rfl⟩, trivial⟩ ⟨⟨_, rfl, rfl⟩, trivial⟩ ⟨⟨_, _, rfl, rfl, rfl⟩, trivial⟩⟩
                      · replace H := condF hc324 H
                        obtain ⟨b325, hb325, H⟩ := bindS H
                        obtain ⟨b326, hb326, H⟩ := bindS H
                        refine A.begin mixed rfl rfl ?_
                        intro W hI hO
                        have n33554431 : W 3 #[true, true, true, true, true, true, true, true, true, true, true, true, true, true, true, true, true, true, true, true, true, true, true, true, true, false, false, false] (mkSt [(1, one (cI v270)), (3, one (Cell.ptr 0 0)), (7, one (Cell.own 1)), (8, one (cI v272)), (9, one (cI v273)), (42, one (Cell.own 1)), (43, one (cI v273)), (44, one (Cell.ep 1 v273.toNat 0)), (45, one (cI b322)), (46, one (cL (decide (b322 < (3 : Int))))), (48, one (cL true)), (49, one (cI v272)), (50, one (cL (decide (v272 < (0 : Int))))), (51, one (cL false)), (52, one (Cell.own 1)), (53, one (cI v273)), (54, one (Cell.ep 1 v273.toNat 0)), (55, one (cI b325)), (56, one (Cell.own 1)), (57, one (cI v272)), (58, one (Cell.ep 1 v272.toNat 0)), (59, one (cI b326))] [(1, ⟨1, List.map eI v271⟩)] [(0, [Cell.sl g0 (List.map eI v274), Cell.sl g1 (List.map eI v275), Cell.sl g2 (List.map eTimpl_Pair v276), Cell.sl g3 (List.map eTimpl_Pair v277), cI v278])] 2) := by
                          refine hI _ _ _ ?_
                          refine A.take 25 rfl (by kernel_rfl) (by kernel_rfl) (by kernel_rfl) rfl (Ca.bin rfl rfl (calm_int _ _ _ _ _ _ _ _)) (fun Q0 k0 => L.bin hF rfl rfl rfl rfl rfl rfl (L.nil k0)) ?_
                          refine A.take 26 rfl (by kernel_rfl) (by kernel_rfl) (by kernel_rfl) rfl (Ca.pick) (fun Q0 k0 => L.pick hF rfl rfl rfl rfl (L.nil k0)) ?_
                          refine A.take 27 rfl (by kernel_rfl) (by kernel_rfl) (by kernel_rfl) rfl (Ca.pick) (fun Q0 k0 => L.pick hF rfl rfl rfl rfl (L.nil k0)) ?_
                          refine A.le (τ := mkSt [(1, one (cI v270)), (3, one (Cell.ptr 0 0)), (7, one (Cell.own 1)), (8, one (cI v272)), (9, one (cI v273)), (42, one (Cell.own 1)), (43, one (cI v273)), (44, one (Cell.ep 1 v273.toNat 0)), (45, one (cI b322)), (46, one (cL (decide (b322 < (3 : Int))))), (49, one (cI v272)), (50, one (cL (decide (v272 < (0 : Int))))), (51, one (cL false)), (52, one (Cell.own 1)), (53, one (cI v273)), (54, one (Cell.ep 1 v273.toNat 0)), (55, one (cI b325)), (56, one (Cell.own 1)), (57, one (cI v272)), (58, one (Cell.ep 1 v272.toNat 0)), (59, one (cI b326)), (60, one (cL (decide (b325 < b326)))), (61, one (cL (decide (b325 < b326)))), (62, one (cL (decide (b325 < b326))))] [(1, ⟨1, List.map eI v271⟩)] [(0, [Cell.sl g0 (List.map eI v274), Cell.sl g1 (List.map eI v275), Cell.sl g2 (List.map eTimpl_Pair v276), Cell.sl g3 (List.map eTimpl_Pair v277), cI v278])] 2) (Le.mk [(0, 0), (1, 1)] hm rfl ⟨⟨_, rfl, rfl⟩, ⟨_, rfl, rfl⟩, ⟨_, rfl, rfl⟩, ⟨_, rfl, rfl⟩, ⟨_, rfl, rfl⟩, ⟨_, rfl, rfl⟩, ⟨_, rfl, rfl⟩, ⟨_, rfl, rfl⟩, ⟨_, rfl, rfl⟩, ⟨_, rfl, rfl⟩, ⟨_, rfl, rfl⟩, ⟨_, rfl, rfl⟩, ⟨_, rfl, rfl⟩, ⟨_, rfl, rfl⟩, ⟨_, rfl, rfl⟩, ⟨_, rfl, rfl⟩, ⟨_, rfl, rfl⟩, ⟨_, rfl, rfl⟩, ⟨_, rfl, rfl⟩, ⟨_, rfl, rfl⟩, ⟨_, rfl, rfl⟩, ⟨_, rfl, rfl⟩, ⟨_, rfl, rfl⟩, ⟨_, rfl, rfl⟩, trivial⟩ ⟨⟨_, rfl, rfl⟩, trivial⟩ ⟨⟨_, _, rfl, rfl, rfl⟩, trivial⟩) ?_
                          refine A.done (by kernel_rfl) ?_
                          exact ⟨_, ⟨k17, v270, v271, v272, v273, (decide (b325 < b326)), v274, v275, v276, v277, v278, by omega, H, rfl⟩, Le.mk [(0, 0), (1, 1)] hm rfl ⟨⟨_, rfl, rfl⟩, ⟨_, rfl, rfl⟩, ⟨_, rfl, rfl⟩, ⟨_, rfl, rfl⟩, ⟨_, rfl, rfl⟩, ⟨_, rfl, rfl⟩, trivial⟩ ⟨⟨_, rfl, rfl⟩, trivial⟩ ⟨⟨_, _, rfl, rfl, rfl⟩, trivial⟩⟩
                        refine hI _ _ _ ?_
                        refine A.take 0 rfl (by kernel_rfl) (by kernel_rfl) (by kernel_rfl) rfl (Ca.fieldAddr Try.underlying90 rfl info88 rfl) (fun Q0 k0 => L.fieldAddr Try.underlying90 rfl info88 rfl hF rfl rfl rfl rfl rfl (L.nil k0)) ?_
                        refine A.take 2 rfl (by kernel_rfl) (by kernel_rfl) (by kernel_rfl) rfl (Ca.move) (fun Q0 k0 => L.move hF rfl rfl rfl (L.nil k0)) ?_
                        refine A.take 3 rfl (by kernel_rfl) (by kernel_rfl) (by kernel_rfl) rfl (Ca.move) (fun Q0 k0 => L.move hF rfl rfl rfl (L.nil k0)) ?_
                        refine A.take 4 rfl (by kernel_rfl) (by kernel_rfl) (by kernel_rfl) rfl (Ca.build rfl (by rw [built256]; rfl)) (fun Q0 k0 => L.buildF built256 hF rfl rfl rfl rfl (L.nil k0)) ?_
                        refine A.all [1] (by kernel_rfl) rfl ⟨⟨_, rfl, ?_⟩, trivial⟩
                        refine L.loadPtr shape88 hF rfl rfl rfl rfl rfl rfl ?_
                        refine L.nil ?_
                        refine A.all [5] (by kernel_rfl) rfl ⟨⟨_, rfl, ?_⟩, trivial⟩
                        refine L.call [false, false] [] [] 2 hF rfl rfl rfl ent244 rfl rfl rfl rfl rfl (Fspec_l6Has_gives k17 g2 v276 (⟨v270, v273⟩ : Timpl_Pair) r320 hr320) rfl ?_
                        refine L.nil ?_
                        refine A.take 6 rfl (by kernel_rfl) (by kernel_rfl) (by kernel_rfl) rfl (Ca.move) (fun Q0 k0 => L.move hF rfl rfl rfl (L.nil k0)) ?_
                        refine A.le (τ := mkSt [(1, one (cI v270)), (3, one (Cell.ptr 0 0)), (7, one (Cell.own 1)), (8, one (cI v272)), (9, one (cI v273)), (41, one (cL true))] [(1, ⟨1, List.map eI v271⟩)] [(0, [Cell.sl g0 (List.map eI v274), Cell.sl g1 (List.map eI v275), Cell.sl g2 (List.map eTimpl_Pair v276), Cell.sl g3 (List.map eTimpl_Pair v277), cI v278])] 2) (Le.mk [(0, 0), (1, 1)] hm rfl ⟨⟨_, rfl, rfl⟩, ⟨_, rfl, rfl⟩, ⟨_, rfl, rfl⟩, ⟨_, rfl, rfl⟩, ⟨_, rfl, rfl⟩, ⟨_, rfl, congrArg (fun b => some (one (cL b))) hc321⟩, trivial⟩ ⟨⟨_, rfl, rfl⟩, trivial⟩ ⟨⟨_, _, rfl, rfl, rfl⟩, trivial⟩) ?_
                        refine A.take 7 rfl (by kernel_rfl) (by kernel_rfl) (by kernel_rfl) rfl (Ca.move) (fun Q0 k0 => L.move hF rfl rfl rfl (L.nil k0)) ?_
                        refine A.take 8 rfl (by kernel_rfl) (by kernel_rfl) (by kernel_rfl) rfl (Ca.move) (fun Q0 k0 => L.move hF rfl rfl rfl (L.nil k0)) ?_
                        refine A.take 9 rfl (by kernel_rfl) (by kernel_rfl) (by kernel_rfl) rfl (Ca.indexAddr) (fun Q0 k0 => L.idxR (xs := v271) (e := eI) Try.underlying24 info3 hF rfl rfl rfl rfl rfl hb322 rfl rfl (L.nil k0)) ?_
                        refine A.all [10] (by kernel_rfl) rfl ⟨⟨_, rfl, ?_⟩, trivial⟩
                        refine L.loadEp (xs := v271) (e := eI) shape3 hF rfl rfl rfl rfl (at?_get hb322).2 rfl rfl ?_
                        refine L.nil ?_
                        refine A.take 11 rfl (by kernel_rfl) (by kernel_rfl) (by kernel_rfl) rfl (Ca.bin rfl rfl (calm_int _ _ _ _ _ _ _ _)) (fun Q0 k0 => L.bin hF rfl rfl rfl rfl rfl rfl (L.nil k0)) ?_
                        refine A.take 12 rfl (by kernel_rfl) (by kernel_rfl) (by kernel_rfl) rfl (Ca.pick) (fun Q0 k0 => L.pick hF rfl rfl rfl rfl (L.nil k0)) ?_
                        refine A.take 13 rfl (by kernel_rfl) (by kernel_rfl) (by kernel_rfl) rfl (Ca.move) (fun Q0 k0 => L.move hF rfl rfl rfl (L.nil k0)) ?_
                        refine A.le (τ := mkSt [(1, one (cI v270)), (3, one (Cell.ptr 0 0)), (7, one (Cell.own 1)), (8, one (cI v272)), (9, one (cI v273)), (42, one (Cell.own 1)), (43, one (cI v273)), (44, one (Cell.ep 1 v273.toNat 0)), (45, one (cI b322)), (46, one (cL (decide (b322 < (3 : Int))))), (48, one (cL true))] [(1, ⟨1, List.map eI v271⟩)] [(0, [Cell.sl g0 (List.map eI v274), Cell.sl g1 (List.map eI v275), Cell.sl g2 (List.map eTimpl_Pair v276), Cell.sl g3 (List.map eTimpl_Pair v277), cI v278])] 2) (Le.mk [(0, 0), (1, 1)] hm rfl ⟨⟨_, rfl, rfl⟩, ⟨_, rfl, rfl⟩, ⟨_, rfl, rfl⟩, ⟨_, rfl, rfl⟩, ⟨_, rfl, rfl⟩, ⟨_, rfl, rfl⟩, ⟨_, rfl, rfl⟩, ⟨_, rfl, rfl⟩, ⟨_, rfl, rfl⟩, ⟨_, rfl, rfl⟩, ⟨_, rfl, congrArg (fun b => some (one (cL b))) hc323⟩, trivial⟩ ⟨⟨_, rfl, rfl⟩, trivial⟩ ⟨⟨_, _, rfl, rfl, rfl⟩, trivial⟩) ?_
                        refine A.take 14 rfl (by kernel_rfl) (by kernel_rfl) (by kernel_rfl) rfl (Ca.move) (fun Q0 k0 => L.move hF rfl rfl rfl (L.nil k0)) ?_
                        refine A.take 15 rfl (by kernel_rfl) (by kernel_rfl) (by kernel_rfl) rfl (Ca.bin rfl rfl (calm_int _ _ _ _ _ _ _ _)) (fun Q0 k0 => L.bin hF rfl rfl rfl rfl rfl rfl (L.nil k0)) ?_
                        refine A.take 16 rfl (by kernel_rfl) (by kernel_rfl) (by kernel_rfl) rfl (Ca.move) (fun Q0 k0 => L.move hF rfl rfl rfl (L.nil k0)) ?_
                        refine A.le (τ := mkSt [(1, one (cI v270)), (3, one (Cell.ptr 0 0)), (7, one (Cell.own 1)), (8, one (cI v272)), (9, one (cI v273)), (42, one (Cell.own 1)), (43, one (cI v273)), (44, one (Cell.ep 1 v273.toNat 0)), (45, one (cI b322)), (46, one (cL (decide (b322 < (3 : Int))))), (48, one (cL true)), (49, one (cI v272)), (50, one (cL (decide (v272 < (0 : Int))))), (51, one (cL false))] [(1, ⟨1, List.map eI v271⟩)] [(0, [Cell.sl g0 (List.map eI v274), Cell.sl g1 (List.map eI v275), Cell.sl g2 (List.map eTimpl_Pair v276), Cell.sl g3 (List.map eTimpl_Pair v277), cI v278])] 2) (Le.mk [(0, 0), (1, 1)] hm rfl ⟨⟨_, rfl, rfl⟩, ⟨_, rfl, rfl⟩, ⟨_, rfl, rfl⟩, ⟨_, rfl, rfl⟩, ⟨_, rfl, rfl⟩, ⟨_, rfl, rfl⟩, ⟨_, rfl, rfl⟩, ⟨_, rfl, rfl⟩, ⟨_, rfl, rfl⟩, ⟨_, rfl, rfl⟩, ⟨_, rfl, rfl⟩, ⟨_, rfl, rfl⟩, ⟨_, rfl, rfl⟩, ⟨_, rfl, congrArg (fun b => some (one (cL b))) hc324⟩, trivial⟩ ⟨⟨_, rfl, rfl⟩, trivial⟩ ⟨⟨_, _, rfl, rfl, rfl⟩, trivial⟩) ?_
                        refine A.take 17 rfl (by kernel_rfl) (by kernel_rfl) (by kernel_rfl) rfl (Ca.move) (fun Q0 k0 => L.move hF rfl rfl rfl (L.nil k0)) ?_
                        refine A.take 18 rfl (by kernel_rfl) (by kernel_rfl) (by kernel_rfl) rfl (Ca.move) (fun Q0 k0 => L.move hF rfl rfl rfl (L.nil k0)) ?_
                        refine A.take 19 rfl (by kernel_rfl) (by kernel_rfl) (by kernel_rfl) rfl (Ca.indexAddr) (fun Q0 k0 => L.idxR (xs := v271) (e := eI) Try.underlying24 info3 hF rfl rfl rfl rfl rfl hb325 rfl rfl (L.nil k0)) ?_
                        refine A.take 21 rfl (by kernel_rfl) (by kernel_rfl) (by kernel_rfl) rfl (Ca.move) (fun Q0 k0 => L.move hF rfl rfl rfl (L.nil k0)) ?_
                        refine A.take 22 rfl (by kernel_rfl) (by kernel_rfl) (by kernel_rfl) rfl (Ca.move) (fun Q0 k0 => L.move hF rfl rfl rfl (L.nil k0)) ?_
                        refine A.take 23 rfl (by kernel_rfl) (by kernel_rfl) (by kernel_rfl) rfl (Ca.indexAddr) (fun Q0 k0 => L.idxR (xs := v271) (e := eI) Try.underlying24 info3 hF rfl rfl rfl rfl rfl hb326 rfl rfl (L.nil k0)) ?_
                        refine A.all [20, 24] (by kernel_rfl) rfl ⟨⟨_, rfl, ?_⟩, ⟨_, rfl, ?_⟩, trivial⟩
                        · refine L.loadEp (xs := v271) (e := eI) shape3 hF rfl rfl rfl rfl (at?_get hb325).2 rfl rfl ?_
                          refine L.nil ?_
                          refine A.all [24] (by kernel_rfl) rfl ⟨⟨_, rfl, ?_⟩, trivial⟩
                          refine L.loadEp (xs := v271) (e := eI) shape3 hF rfl rfl rfl rfl (at?_get hb326).2 rfl rfl ?_
                          refine L.nil ?_
                          exact A.on (hO _ _ _ n33554431) (Le.mk [(0, 0), (1, 1)] hm rfl ⟨⟨_, rfl, rfl⟩, ⟨_, rfl, rfl⟩, ⟨_, rfl, rfl⟩, ⟨_, rfl, rfl⟩, ⟨_, rfl, rfl⟩, ⟨_, rfl, rfl⟩, ⟨_, rfl, rfl⟩, ⟨_, rfl, rfl⟩, ⟨_, rfl, rfl⟩, ⟨_, rfl, rfl⟩, ⟨_, rfl, rfl⟩, ⟨_, rfl, rfl⟩, ⟨_, rfl, rfl⟩, ⟨_, rfl, rfl⟩, ⟨_, rfl, rfl⟩, ⟨_, rfl, rfl⟩, ⟨_, rfl, rfl⟩, ⟨_, rfl, rfl⟩, ⟨_, rfl, rfl⟩, ⟨_, rfl, rfl⟩, ⟨_, rfl, rfl⟩, ⟨_, rfl, rfl⟩, trivial⟩ ⟨⟨_, rfl, rfl⟩, trivial⟩ ⟨⟨_, _, rfl, rfl, rfl⟩, trivial⟩)
                        · refine L.loadEp (xs := v271) (e := eI) shape3 hF rfl rfl rfl rfl (at?_get hb326).2 rfl rfl ?_
                          refine L.nil ?_
                          refine A.all [20] (by kernel_rfl) rfl ⟨⟨_, rfl, ?_⟩, trivial⟩
                          refine L.loadEp (xs := v271) (e := eI) shape3 hF rfl rfl rfl rfl (at?_get hb325).2 rfl rfl ?_
                          refine L.nil ?_
                          exact A.on (hO _ _ _ n33554431) (Le.mk [(0, 0), (1, 1)] hm rfl ⟨⟨_, rfl, rfl⟩, ⟨_, rfl, rfl⟩, ⟨_, rfl, rfl⟩, ⟨_, rfl, rfl⟩, ⟨_, rfl, rfl⟩, ⟨_, rfl, rfl⟩, ⟨_, rfl, rfl⟩, ⟨_, rfl, rfl⟩, ⟨_, rfl, rfl⟩, ⟨_, rfl, rfl⟩, ⟨_, rfl, rfl⟩, ⟨_, rfl, rfl⟩, ⟨_, rfl, rfl⟩, ⟨_, rfl, rfl⟩, ⟨_, rfl, rfl⟩, ⟨_, rfl, rfl⟩, ⟨_, rfl, rfl⟩, ⟨_, rfl, rfl⟩, ⟨_, rfl, rfl⟩, ⟨_, rfl, rfl⟩, ⟨_, rfl, rfl⟩, ⟨_, rfl, rfl⟩, trivial⟩ ⟨⟨_, rfl, rfl⟩, trivial⟩ ⟨⟨_, _, rfl, rfl, rfl⟩, trivial⟩)
                    · replace H := condF hc323 H
                      refine A.begin mixed rfl rfl ?_
                      intro W hI hO
                      refine hI _ _ _ ?_
                      refine A.take 0 rfl (by kernel_rfl) (by kernel_rfl) (by kernel_rfl) rfl (Ca.fieldAddr Try.underlying90 rfl info88 rfl) (fun Q0 k0 => L.fieldAddr Try.underlying90 rfl info88 rfl hF rfl rfl rfl rfl rfl (L.nil k0)) ?_
                      refine A.take 2 rfl (by kernel_rfl) (by kernel_rfl) (by kernel_rfl) rfl (Ca.move) (fun Q0 k0 => L.move hF rfl rfl rfl (L.nil k0)) ?_
                      refine A.take 3 rfl (by kernel_rfl) (by kernel_rfl) (by kernel_rfl) rfl (Ca.move) (fun Q0 k0 => L.move hF rfl rfl rfl (L.nil k0)) ?_
                      refine A.take 4 rfl (by kernel_rfl) (by kernel_rfl) (by kernel_rfl) rfl (Ca.build rfl (by rw [built256]; rfl)) (fun Q0 k0 => L.buildF built256 hF rfl rfl rfl rfl (L.nil k0)) ?_
                      refine A.all [1] (by kernel_rfl) rfl ⟨⟨_, rfl, ?_⟩, trivial⟩
                      refine L.loadPtr shape88 hF rfl rfl rfl rfl rfl rfl ?_
                      refine L.nil ?_
                      refine A.all [5] (by kernel_rfl) rfl ⟨⟨_, rfl, ?_⟩, trivial⟩
                      refine L.call [false, false] [] [] 2 hF rfl rfl rfl ent244 rfl rfl rfl rfl rfl (Fspec_l6Has_gives k17 g2 v276 (⟨v270, v273⟩ : Timpl_Pair) r320 hr320) rfl ?_
                      refine L.nil ?_
                      refine A.take 6 rfl (by kernel_rfl) (by kernel_rfl) (by kernel_rfl) rfl (Ca.move) (fun Q0 k0 => L.move hF rfl rfl rfl (L.nil k0)) ?_
                      refine A.le (τ := mkSt [(1, one (cI v270)), (3, one (Cell.ptr 0 0)), (7, one (Cell.own 1)), (8, one (cI v272)), (9, one (cI v273)), (41, one (cL true))] [(1, ⟨1, List.map eI v271⟩)] [(0, [Cell.sl g0 (List.map eI v274), Cell.sl g1 (List.map eI v275), Cell.sl g2 (List.map eTimpl_Pair v276), Cell.sl g3 (List.map eTimpl_Pair v277), cI v278])] 2) (Le.mk [(0, 0), (1, 1)] hm rfl ⟨⟨_, rfl, rfl⟩, ⟨_, rfl, rfl⟩, ⟨_, rfl, rfl⟩, ⟨_, rfl, rfl⟩, ⟨_, rfl, rfl⟩, ⟨_, rfl, congrArg (fun b => some (one (cL b))) hc321⟩, trivial⟩ ⟨⟨_, rfl, rfl⟩, trivial⟩ ⟨⟨_, _, rfl, rfl, rfl⟩, trivial⟩) ?_
                      refine A.take 7 rfl (by kernel_rfl) (by kernel_rfl) (by kernel_rfl) rfl (Ca.move) (fun Q0 k0 => L.move hF rfl rfl rfl (L.nil k0)) ?_
                      refine A.take 8 rfl (by kernel_rfl) (by kernel_rfl) (by kernel_rfl) rfl (Ca.move) (fun Q0 k0 => L.move hF rfl rfl rfl (L.nil k0)) ?_
                      refine A.take 9 rfl (by kernel_rfl) (by kernel_rfl) (by kernel_rfl) rfl (Ca.indexAddr) (fun Q0 k0 => L.idxR (xs := v271) (e := eI) Try.underlying24 info3 hF rfl rfl rfl rfl rfl hb322 rfl rfl (L.nil k0)) ?_
                      refine A.all [10] (by kernel_rfl) rfl ⟨⟨_, rfl, ?_⟩, trivial⟩
                      refine L.loadEp (xs := v271) (e := eI) shape3 hF rfl rfl rfl rfl (at?_get hb322).2 rfl rfl ?_
                      refine L.nil ?_
                      refine A.take 11 rfl (by kernel_rfl) (by kernel_rfl) (by kernel_rfl) rfl (Ca.bin rfl rfl (calm_int _ _ _ _ _ _ _ _)) (fun Q0 k0 => L.bin hF rfl rfl rfl rfl rfl rfl (L.nil k0)) ?_
                      refine A.take 12 rfl (by kernel_rfl) (by kernel_rfl) (by kernel_rfl) rfl (Ca.pick) (fun Q0 k0 => L.pick hF rfl rfl rfl rfl (L.nil k0)) ?_
                      refine A.take 13 rfl (by kernel_rfl) (by kernel_rfl) (by kernel_rfl) rfl (Ca.move) (fun Q0 k0 => L.move hF rfl rfl rfl (L.nil k0)) ?_
                      refine A.le (τ := mkSt [(1, one (cI v270)), (3, one (Cell.ptr 0 0)), (7, one (Cell.own 1)), (8, one (cI v272)), (9, one (cI v273)), (42, one (Cell.own 1)), (43, one (cI v273)), (44, one (Cell.ep 1 v273.toNat 0)), (45, one (cI b322)), (46, one (cL (decide (b322 < (3 : Int))))), (48, one (cL false))] [(1, ⟨1, List.map eI v271⟩)] [(0, [Cell.sl g0 (List.map eI v274), Cell.sl g1 (List.map eI v275), Cell.sl g2 (List.map eTimpl_Pair v276), Cell.sl g3 (List.map eTimpl_Pair v277), cI v278])] 2) (Le.mk [(0, 0), (1, 1)] hm rfl ⟨⟨_, rfl, rfl⟩, ⟨_, rfl, rfl⟩, ⟨_, rfl, rfl⟩, ⟨_, rfl, rfl⟩, ⟨_, rfl, rfl⟩, ⟨_, rfl, rfl⟩, ⟨_, rfl, rfl⟩, ⟨_, rfl, rfl⟩, ⟨_, rfl, rfl⟩, ⟨_, rfl, rfl⟩, ⟨_, rfl, congrArg (fun b => some (one (cL b))) hc323⟩, trivial⟩ ⟨⟨_, rfl, rfl⟩, trivial⟩ ⟨⟨_, _, rfl, rfl, rfl⟩, trivial⟩) ?_
                      refine A.off 14 rfl (by kernel_rfl) (by kernel_rfl) (by kernel_rfl) rfl hF rfl rfl ?_
                      refine A.off 15 rfl (by kernel_rfl) (by kernel_rfl) (by kernel_rfl) rfl hF rfl rfl ?_
                      refine A.off 16 rfl (by kernel_rfl) (by kernel_rfl) (by kernel_rfl) rfl hF rfl rfl ?_
                      refine A.off 17 rfl (by kernel_rfl) (by kernel_rfl) (by kernel_rfl) rfl hF rfl rfl ?_
                      refine A.off 18 rfl (by kernel_rfl) (by kernel_rfl) (by kernel_rfl) rfl hF rfl rfl ?_
                      refine A.off 19 rfl (by kernel_rfl) (by kernel_rfl) (by kernel_rfl) rfl hF rfl rfl ?_
                      refine A.off 20 rfl (by kernel_rfl) (by kernel_rfl) (by kernel_rfl) rfl hF rfl rfl ?_
                      refine A.off 21 rfl (by kernel_rfl) (by kernel_rfl) (by kernel_rfl) rfl hF rfl rfl ?_
                      refine A.off 22 rfl (by kernel_rfl) (by kernel_rfl) (by kernel_rfl) rfl hF rfl rfl ?_
                      refine A.off 23 rfl (by kernel_rfl) (by kernel_rfl) (by kernel_rfl) rfl hF rfl rfl ?_
                      refine A.le (τ := mkSt [(1, one (cI v270)), (3, one (Cell.ptr 0 0)), (7, one (Cell.own 1)), (8, one (cI v272)), (9, one (cI v273)), (42, one (Cell.own 1)), (43, one (cI v273)), (44, one (Cell.ep 1 v273.toNat 0)), (45, one (cI b322)), (46, one (cL (decide (b322 < (3 : Int))))), (48, one (cL false)), (49, Slot.tup []), (50, Slot.tup []), (51, Slot.tup []), (52, Slot.tup []), (53, Slot.tup []), (54, Slot.tup []), (55, Slot.tup []), (56, Slot.tup []), (57, Slot.tup []), (58, Slot.tup [])] [(1, ⟨1, List.map eI v271⟩)] [(0, [Cell.sl g0 (List.map eI v274), Cell.sl g1 (List.map eI v275), Cell.sl g2 (List.map eTimpl_Pair v276), Cell.sl g3 (List.map eTimpl_Pair v277), cI v278])] 2) (Le.mk [(0, 0), (1, 1)] hm rfl ⟨⟨_, rfl, rfl⟩, ⟨_, rfl, rfl⟩, ⟨_, rfl, rfl⟩, ⟨_, rfl, rfl⟩, ⟨_, rfl, rfl⟩, ⟨_, rfl, rfl⟩, ⟨_, rfl, rfl⟩, ⟨_, rfl, rfl⟩, ⟨_, rfl, rfl⟩, ⟨_, rfl, rfl⟩, ⟨_, rfl, rfl⟩, ⟨_, rfl, rfl⟩, ⟨_, rfl, rfl⟩, ⟨_, rfl, rfl⟩, ⟨_, rfl, rfl⟩, ⟨_, rfl, rfl⟩, ⟨_, rfl, rfl⟩, ⟨_, rfl, rfl⟩, ⟨_, rfl, rfl⟩, ⟨_, rfl, rfl⟩, ⟨_, rfl, rfl⟩, trivial⟩ ⟨⟨_, rfl, rfl⟩, trivial⟩ ⟨⟨_, _, rfl, rfl, rfl⟩, trivial⟩) ?_
                      refine A.off 24 rfl (by kernel_rfl) (by kernel_rfl) (by kernel_rfl) rfl hF rfl rfl ?_
                      refine A.off 25 rfl (by kernel_rfl) (by kernel_rfl) (by kernel_rfl) rfl hF rfl rfl ?_
                      refine A.off 26 rfl (by kernel_rfl) (by kernel_rfl) (by kernel_rfl) rfl hF rfl rfl ?_
                      refine A.take 27 rfl (by kernel_rfl) (by kernel_rfl) (by kernel_rfl) rfl (Ca.pick) (fun Q0 k0 => L.pick hF rfl rfl rfl rfl (L.nil k0)) ?_
                      refine A.le (τ := mkSt [(1, one (cI v270)), (3, one (Cell.ptr 0 0)), (7, one (Cell.own 1)), (8, one (cI v272)), (9, one (cI v273)), (42, one (Cell.own 1)), (43, one (cI v273)), (44, one (Cell.ep 1 v273.toNat 0)), (45, one (cI b322)), (46, one (cL (decide (b322 < (3 : Int))))), (49, Slot.tup []), (50, Slot.tup []), (51, Slot.tup []), (52, Slot.tup []), (53, Slot.tup []), (54, Slot.tup []), (55, Slot.tup []), (56, Slot.tup []), (57, Slot.tup []), (58, Slot.tup []), (59, Slot.tup []), (60, Slot.tup []), (61, Slot.tup []), (62, one (cL false))] [(1, ⟨1, List.map eI v271⟩)] [(0, [Cell.sl g0 (List.map eI v274), Cell.sl g1 (List.map eI v275), Cell.sl g2 (List.map eTimpl_Pair v276), Cell.sl g3 (List.map eTimpl_Pair v277), cI v278])] 2) (Le.mk [(0, 0), (1, 1)] hm rfl ⟨⟨_, rfl, rfl⟩, ⟨_, rfl, rfl⟩, ⟨_, rfl, rfl⟩, ⟨_, rfl, rfl⟩, ⟨_, rfl, rfl⟩, ⟨_, rfl, rfl⟩, ⟨_, rfl, rfl⟩, ⟨_, rfl, rfl⟩, ⟨_, rfl, rfl⟩, ⟨_, rfl, rfl⟩, ⟨_, rfl, rfl⟩, ⟨_, rfl, rfl⟩, ⟨_, rfl, rfl⟩, ⟨_, rfl, rfl⟩, ⟨_, rfl, rfl⟩, ⟨_, rfl, rfl⟩, ⟨_, rfl, rfl⟩, ⟨_, rfl, rfl⟩, ⟨_, rfl, rfl⟩, ⟨_, rfl, rfl⟩, ⟨_, rfl, rfl⟩, ⟨_, rfl, rfl⟩, ⟨_, rfl, rfl⟩, ⟨_, rfl, rfl⟩, trivial⟩ ⟨⟨_, rfl, rfl⟩, trivial⟩ ⟨⟨_, _, rfl, rfl, rfl⟩, trivial⟩) ?_
                      refine A.done (by kernel_rfl) ?_
                      exact ⟨_, ⟨k17, v270, v271, v272, v273, false, v274, v275, v276, v277, v278, by omega, H, rfl⟩, Le.mk [(0, 0), (1, 1)] hm rfl ⟨⟨_, rfl, rfl⟩, ⟨_, rfl, rfl⟩, ⟨_, rfl, rfl⟩, ⟨_, rfl, rfl⟩, ⟨_, rfl, rfl⟩, ⟨_, rfl, rfl⟩, trivial⟩ ⟨⟨_, rfl, rfl⟩, trivial⟩ ⟨⟨_, _, rfl, rfl, rfl⟩, trivial⟩⟩
                  · replace H := condF hc321 H
                    refine A.begin mixed rfl rfl ?_
                    intro W hI hO
                    refine hI _ _ _ ?_
                    refine A.take 0 rfl (by kernel_rfl) (by kernel_rfl) (by kernel_rfl) rfl (Ca.fieldAddr Try.underlying90 rfl info88 rfl) (fun Q0 k0 => L.fieldAddr Try.underlying90 rfl info88 rfl hF rfl rfl rfl rfl rfl (L.nil k0)) ?_
                    refine A.take 2 rfl (by kernel_rfl) (by kernel_rfl) (by kernel_rfl) rfl (Ca.move) (fun Q0 k0 => L.move hF rfl rfl rfl (L.nil k0)) ?_
                    refine A.take 3 rfl (by kernel_rfl) (by kernel_rfl) (by kernel_rfl) rfl (Ca.move) (fun Q0 k0 => L.move hF rfl rfl rfl (L.nil k0)) ?_
                    refine A.take 4 rfl (by kernel_rfl) (by kernel_rfl) (by kernel_rfl) rfl (Ca.build rfl (by rw [built256]; rfl)) (fun Q0 k0 => L.buildF built256 hF rfl rfl rfl rfl (L.nil k0)) ?_
                    refine A.all [1] (by kernel_rfl) rfl ⟨⟨_, rfl, ?_⟩, trivial⟩
                    refine L.loadPtr shape88 hF rfl rfl rfl rfl rfl rfl ?_
                    refine L.nil ?_
                    refine A.all [5] (by kernel_rfl) rfl ⟨⟨_, rfl, ?_⟩, trivial⟩
                    refine L.call [false, false] [] [] 2 hF rfl rfl rfl ent244 rfl rfl rfl rfl rfl (Fspec_l6Has_gives k17 g2 v276 (⟨v270, v273⟩ : Timpl_Pair) r320 hr320) rfl ?_
                    refine L.nil ?_
                    refine A.take 6 rfl (by kernel_rfl) (by kernel_rfl) (by kernel_rfl) rfl (Ca.move) (fun Q0 k0 => L.move hF rfl rfl rfl (L.nil k0)) ?_
                    refine A.le (τ := mkSt [(1, one (cI v270)), (3, one (Cell.ptr 0 0)), (7, one (Cell.own 1)), (8, one (cI v272)), (9, one (cI v273)), (41, one (cL false))] [(1, ⟨1, List.map eI v271⟩)] [(0, [Cell.sl g0 (List.map eI v274), Cell.sl g1 (List.map eI v275), Cell.sl g2 (List.map eTimpl_Pair v276), Cell.sl g3 (List.map eTimpl_Pair v277), cI v278])] 2) (Le.mk [(0, 0), (1, 1)] hm rfl ⟨⟨_, rfl, rfl⟩, ⟨_, rfl, rfl⟩, ⟨_, rfl, rfl⟩, ⟨_, rfl, rfl⟩, ⟨_, rfl, rfl⟩, ⟨_, rfl, congrArg (fun b => some (one (cL b))) hc321⟩, trivial⟩ ⟨⟨_, rfl, rfl⟩, trivial⟩ ⟨⟨_, _, rfl, rfl, rfl⟩, trivial⟩) ?_
                    refine A.off 7 rfl (by kernel_rfl) (by kernel_rfl) (by kernel_rfl) rfl hF rfl rfl ?_
                    refine A.off 8 rfl (by kernel_rfl) (by kernel_rfl) (by kernel_rfl) rfl hF rfl rfl ?_
                    refine A.off 9 rfl (by kernel_rfl) (by kernel_rfl) (by kernel_rfl) rfl hF rfl rfl ?_
                    refine A.off 10 rfl (by kernel_rfl) (by kernel_rfl) (by kernel_rfl) rfl hF rfl rfl ?_
                    refine A.off 11 rfl (by kernel_rfl) (by kernel_rfl) (by kernel_rfl) rfl hF rfl rfl ?_
                    refine A.take 12 rfl (by kernel_rfl) (by kernel_rfl) (by kernel_rfl) rfl (Ca.pick) (fun Q0 k0 => L.pick hF rfl rfl rfl rfl (L.nil k0)) ?_
                    refine A.take 13 rfl (by kernel_rfl) (by kernel_rfl) (by kernel_rfl) rfl (Ca.move) (fun Q0 k0 => L.move hF rfl rfl rfl (L.nil k0)) ?_
                    refine A.off 14 rfl (by kernel_rfl) (by kernel_rfl) (by kernel_rfl) rfl hF rfl rfl ?_
                    refine A.off 15 rfl (by kernel_rfl) (by kernel_rfl) (by kernel_rfl) rfl hF rfl rfl ?_
                    refine A.off 16 rfl (by kernel_rfl) (by kernel_rfl) (by kernel_rfl) rfl hF rfl rfl ?_
                    refine A.le (τ := mkSt [(1, one (cI v270)), (3, one (Cell.ptr 0 0)), (7, one (Cell.own 1)), (8, one (cI v272)), (9, one (cI v273)), (42, Slot.tup []), (43, Slot.tup []), (44, Slot.tup []), (45, Slot.tup []), (46, Slot.tup []), (48, one (cL false)), (49, Slot.tup []), (50, Slot.tup []), (51, Slot.tup [])] [(1, ⟨1, List.map eI v271⟩)] [(0, [Cell.sl g0 (List.map eI v274), Cell.sl g1 (List.map eI v275), Cell.sl g2 (List.map eTimpl_Pair v276), Cell.sl g3 (List.map eTimpl_Pair v277), cI v278])] 2) (Le.mk [(0, 0), (1, 1)] hm rfl ⟨⟨_, rfl, rfl⟩, ⟨_, rfl, rfl⟩, ⟨_, rfl, rfl⟩, ⟨_, rfl, rfl⟩, ⟨_, rfl, rfl⟩, ⟨_, rfl, rfl⟩, ⟨_, rfl, rfl⟩, ⟨_, rfl, rfl⟩, ⟨_, rfl, rfl⟩, ⟨_, rfl, rfl⟩, ⟨_, rfl, rfl⟩, ⟨_, rfl, rfl⟩, ⟨_, rfl, rfl⟩, ⟨_, rfl, rfl⟩, trivial⟩ ⟨⟨_, rfl, rfl⟩, trivial⟩ ⟨⟨_, _, rfl, rfl, rfl⟩, trivial⟩) ?_
                    refine A.off 17 rfl (by kernel_rfl) (by kernel_rfl) (by kernel_rfl) rfl hF rfl rfl ?_
                    refine A.off 18 rfl (by kernel_rfl) (by kernel_rfl) (by kernel_rfl) rfl hF rfl rfl ?_
                    refine A.off 19 rfl (by kernel_rfl) (by kernel_rfl) (by kernel_rfl) rfl hF rfl rfl ?_
                    refine A.off 20 rfl (by kernel_rfl) (by kernel_rfl) (by kernel_rfl) rfl hF rfl rfl ?_
                    refine A.off 21 rfl (by kernel_rfl) (by kernel_rfl) (by kernel_rfl) rfl hF rfl rfl ?_
                    refine A.off 22 rfl (by kernel_rfl) (by kernel_rfl) (by kernel_rfl) rfl hF rfl rfl ?_
                    refine A.off 23 rfl (by kernel_rfl) (by kernel_rfl) (by kernel_rfl) rfl hF rfl rfl ?_
                    refine A.off 24 rfl (by kernel_rfl) (by kernel_rfl) (by kernel_rfl) rfl hF rfl rfl ?_
                    refine A.off 25 rfl (by kernel_rfl) (by kernel_rfl) (by kernel_rfl) rfl hF rfl rfl ?_
                    refine A.off 26 rfl (by kernel_rfl) (by kernel_rfl) (by kernel_rfl) rfl hF rfl rfl ?_
                    refine A.le (τ := mkSt [(1, one (cI v270)), (3, one (Cell.ptr 0 0)), (7, one (Cell.own 1)), (8, one (cI v272)), (9, one (cI v273)), (42, Slot.tup []), (43, Slot.tup []), (44, Slot.tup []), (45, Slot.tup []), (46, Slot.tup []), (48, one (cL false)), (49, Slot.tup []), (50, Slot.tup []), (51, Slot.tup []), (52, Slot.tup []), (53, Slot.tup []), (54, Slot.tup []), (55, Slot.tup []), (56, Slot.tup []), (57, Slot.tup []), (58, Slot.tup []), (59, Slot.tup []), (60, Slot.tup []), (61, Slot.tup [])] [(1, ⟨1, List.map eI v271⟩)] [(0, [Cell.sl g0 (List.map eI v274), Cell.sl g1 (List.map eI v275), Cell.sl g2 (List.map eTimpl_Pair v276), Cell.sl g3 (List.map eTimpl_Pair v277), cI v278])] 2) (Le.mk [(0, 0), (1, 1)] hm rfl ⟨⟨_, rfl, rfl⟩, ⟨_, rfl, rfl⟩, ⟨_, rfl, rfl⟩, ⟨_, rfl, rfl⟩, ⟨_, rfl, rfl⟩, ⟨_, rfl, rfl⟩, ⟨_, rfl, rfl⟩, ⟨_, rfl, rfl⟩, ⟨_, rfl, rfl⟩, ⟨_, rfl, rfl⟩, ⟨_, rfl, rfl⟩, ⟨_, rfl, rfl⟩, ⟨_, rfl, rfl⟩, ⟨_, rfl, rfl⟩, ⟨_, rfl, rfl⟩, ⟨_, rfl, rfl⟩, ⟨_, rfl, rfl⟩, ⟨_, rfl, rfl⟩, ⟨_, rfl, rfl⟩, ⟨_, rfl, rfl⟩, ⟨_, rfl, rfl⟩, ⟨_, rfl, rfl⟩, ⟨_, rfl, rfl⟩, ⟨_, rfl, rfl⟩, trivial⟩ ⟨⟨_, rfl, rfl⟩, trivial⟩ ⟨⟨_, _, rfl, rfl, rfl⟩, trivial⟩) ?_
                    refine A.take 27 rfl (by kernel_rfl) (by kernel_rfl) (by kernel_rfl) rfl (Ca.pick) (fun Q0 k0 => L.pick hF rfl rfl rfl rfl (L.nil k0)) ?_
                    refine A.le (τ := mkSt [(1, one (cI v270)), (3, one (Cell.ptr 0 0)), (7, one (Cell.own 1)), (8, one (cI v272)), (9, one (cI v273)), (42, Slot.tup []), (43, Slot.tup []), (44, Slot.tup []), (45, Slot.tup []), (46, Slot.tup []), (49, Slot.tup []), (50, Slot.tup []), (51, Slot.tup []), (52, Slot.tup []), (53, Slot.tup []), (54, Slot.tup []), (55, Slot.tup []), (56, Slot.tup []), (57, Slot.tup []), (58, Slot.tup []), (59, Slot.tup []), (60, Slot.tup []), (61, Slot.tup []), (62, one (cL false))] [(1, ⟨1, List.map eI v271⟩)] [(0, [Cell.sl g0 (List.map eI v274), Cell.sl g1 (List.map eI v275), Cell.sl g2 (List.map eTimpl_Pair v276), Cell.sl g3 (List.map eTimpl_Pair v277), cI v278])] 2) (Le.mk [(0, 0), (1, 1)] hm rfl ⟨⟨_, rfl, rfl⟩, ⟨_, rfl, rfl⟩, ⟨_, rfl, rfl⟩, ⟨_, rfl, rfl⟩, ⟨_, rfl, rfl⟩, ⟨_, rfl, rfl⟩, ⟨_, rfl, rfl⟩, ⟨_, rfl, rfl⟩, ⟨_, rfl, rfl⟩, ⟨_, rfl, rfl⟩, ⟨_, rfl, rfl⟩, ⟨_, rfl, rfl⟩, ⟨_, rfl, rfl⟩, ⟨_, rfl, rfl⟩, ⟨_, rfl, rfl⟩, ⟨_, rfl, rfl⟩, ⟨_, rfl, rfl⟩, ⟨_, rfl, rfl⟩, ⟨_, rfl, rfl⟩, ⟨_, rfl, rfl⟩, ⟨_, rfl, rfl⟩, ⟨_, rfl, rfl⟩, ⟨_, rfl, rfl⟩, ⟨_, rfl, rfl⟩, trivial⟩ ⟨⟨_, rfl, rfl⟩, trivial⟩ ⟨⟨_, _, rfl, rfl, rfl⟩, trivial⟩) ?_
                    refine A.done (by kernel_rfl) ?_
                    exact ⟨_, ⟨k17, v270, v271, v272, v273, false, v274, v275, v276, v277, v278, by omega, H, rfl⟩, Le.mk [(0, 0), (1, 1)] hm rfl ⟨⟨_, rfl, rfl⟩, ⟨_, rfl, rfl⟩, ⟨_, rfl, rfl⟩, ⟨_, rfl, rfl⟩, ⟨_, rfl, rfl⟩, ⟨_, rfl, rfl⟩, trivial⟩ ⟨⟨_, rfl, rfl⟩, trivial⟩ ⟨⟨_, _, rfl, rfl, rfl⟩, trivial⟩⟩
            · replace H := condF hc H
              refine WpC.exit ?_
              refine WpC.seq ?_
              refine WpC.regionL ?_
              refine L.move hF rfl rfl rfl ?_
              refine L.assign hF rfl rfl rfl ?_
              refine L.nil ?_
              refine WpC.ret ?_
              cases H
              exact Leaves.ret rfl rfl rfl ⟨rfl, rfl⟩
/-! ### Fspec_Flow -/
def Fspec_Flow.l2 : Nat → Int → Int → Int → (List Timpl_Act) → Int → Int → Int → Int → (List Int) → (List Int) → (List Timpl_Pair) → (List Timpl_Pair) → Int → Int → Int → Int → Option (List Timpl_Act)
  | 0, _, _, _, _, _, _, _, _, _, _, _, _, _, _, _, _ => none
  | k2 + 1, v163, v164, v165, v166, v167, v168, v169, v170, v171, v172, v173, v174, v175, v176, v177, v178 => cond (decide (v170 ≤ (3 : Int))) (cond (decide ((2 * (v166.length + ([(⟨(3 : Int), v163, (IntKind.i64.wrap (v169 - (1 : Int))), v164, (0 : Int), (⟨v176, v177, v178⟩ : Timpl_Rest), ([] : List UInt8)⟩ : Timpl_Act), (⟨(4 : Int), v167, v168, (0 : Int), (0 : Int), (⟨(0 : Int), (0 : Int), (0 : Int)⟩ : Timpl_Rest), ([] : List UInt8)⟩ : Timpl_Act), (⟨(5 : Int), v163, (IntKind.i64.wrap (v168 + (1 : Int))), (0 : Int), (0 : Int), (⟨(0 : Int), (0 : Int), (0 : Int)⟩ : Timpl_Rest), ([] : List UInt8)⟩ : Timpl_Act)] : List Timpl_Act).length) + 192) * 80 ≤ 281474976710656)) ((at? v172 v164).bind fun b189 => cond (v167 == b189) (cond (decide ((2 * ((v166 ++ ([(⟨(3 : Int), v163, (IntKind.i64.wrap (v169 - (1 : Int))), v164, (0 : Int), (⟨v176, v177, v178⟩ : Timpl_Rest), ([] : List UInt8)⟩ : Timpl_Act), (⟨(4 : Int), v167, v168, (0 : Int), (0 : Int), (⟨(0 : Int), (0 : Int), (0 : Int)⟩ : Timpl_Rest), ([] : List UInt8)⟩ : Timpl_Act), (⟨(5 : Int), v163, (IntKind.i64.wrap (v168 + (1 : Int))), (0 : Int), (0 : Int), (⟨(0 : Int), (0 : Int), (0 : Int)⟩ : Timpl_Rest), ([] : List UInt8)⟩ : Timpl_Act)] : List Timpl_Act)).length + ([(⟨(6 : Int), v163, (IntKind.i64.wrap ((IntKind.i64.wrap (v169 + (1 : Int))) - (1 : Int))), v165, (0 : Int), (⟨(0 : Int), (0 : Int), (0 : Int)⟩ : Timpl_Rest), ([] : List UInt8)⟩ : Timpl_Act), (⟨(7 : Int), v164, (IntKind.i64.wrap (v168 + (2 : Int))), (0 : Int), (0 : Int), (⟨(0 : Int), (0 : Int), (0 : Int)⟩ : Timpl_Rest), ([] : List UInt8)⟩ : Timpl_Act)] : List Timpl_Act).length) + 192) * 80 ≤ 281474976710656)) (some ((v166 ++ ([(⟨(3 : Int), v163, (IntKind.i64.wrap (v169 - (1 : Int))), v164, (0 : Int), (⟨v176, v177, v178⟩ : Timpl_Rest), ([] : List UInt8)⟩ : Timpl_Act), (⟨(4 : Int), v167, v168, (0 : Int), (0 : Int), (⟨(0 : Int), (0 : Int), (0 : Int)⟩ : Timpl_Rest), ([] : List UInt8)⟩ : Timpl_Act), (⟨(5 : Int), v163, (IntKind.i64.wrap (v168 + (1 : Int))), (0 : Int), (0 : Int), (⟨(0 : Int), (0 : Int), (0 : Int)⟩ : Timpl_Rest), ([] : List UInt8)⟩ : Timpl_Act)] : List Timpl_Act)) ++ ([(⟨(6 : Int), v163, (IntKind.i64.wrap ((IntKind.i64.wrap (v169 + (1 : Int))) - (1 : Int))), v165, (0 : Int), (⟨(0 : Int), (0 : Int), (0 : Int)⟩ : Timpl_Rest), ([] : List UInt8)⟩ : Timpl_Act), (⟨(7 : Int), v164, (IntKind.i64.wrap (v168 + (2 : Int))), (0 : Int), (0 : Int), (⟨(0 : Int), (0 : Int), (0 : Int)⟩ : Timpl_Rest), ([] : List UInt8)⟩ : Timpl_Act)] : List Timpl_Act))) none) ((at? v172 v164).bind fun b191 => (Fspec_NextHop k2 (⟨v171, v172, v173, v174, v175⟩ : Timpl_Config) v167 b191).bind fun r192 => cond (decide (r192 < (0 : Int))) (some ([] : List Timpl_Act)) ((Fspec_Flow.l2 k2) v163 v164 v165 (v166 ++ ([(⟨(3 : Int), v163, (IntKind.i64.wrap (v169 - (1 : Int))), v164, (0 : Int), (⟨v176, v177, v178⟩ : Timpl_Rest), ([] : List UInt8)⟩ : Timpl_Act), (⟨(4 : Int), v167, v168, (0 : Int), (0 : Int), (⟨(0 : Int), (0 : Int), (0 : Int)⟩ : Timpl_Rest), ([] : List UInt8)⟩ : Timpl_Act), (⟨(5 : Int), v163, (IntKind.i64.wrap (v168 + (1 : Int))), (0 : Int), (0 : Int), (⟨(0 : Int), (0 : Int), (0 : Int)⟩ : Timpl_Rest), ([] : List UInt8)⟩ : Timpl_Act)] : List Timpl_Act)) r192 (IntKind.i64.wrap (v168 + (2 : Int))) (IntKind.i64.wrap (v169 + (1 : Int))) (IntKind.i64.wrap (v170 + (1 : Int))) v171 v172 v173 v174 v175 v176 v177 v178))) none) (some ([] : List Timpl_Act))
def Fspec_Flow (k : Nat) (a0 : Timpl_Config) (a1 : Int) (a2 : Int) (a3 : Timpl_Rest) (a4 : Int) : Option (List Timpl_Act) := (Fspec_ConfigOk k a0).bind fun r13 => cond (!r13) (some ([] : List Timpl_Act)) ((Fspec_l5Principal k a1).bind fun r14 => cond (!r14) (some ([] : List Timpl_Act)) (cond (decide (a2 < (0 : Int))) (some ([] : List Timpl_Act)) (cond (decide (a2 ≥ (3 : Int))) (some ([] : List Timpl_Act)) ((Fspec_RestOk k a3).bind fun r15 => cond (!r15) (some ([] : List Timpl_Act)) ((Fspec_l1In k a4 (0 : Int) (7 : Int)).bind fun r16 => cond (!r16) (some ([] : List Timpl_Act)) ((Fspec_RealmOf k a0 a1).bind fun r17 => cond (decide ((2 * (([] : List Timpl_Act).length + ([(⟨(2 : Int), a1, (0 : Int), (0 : Int), (0 : Int), (⟨(0 : Int), (0 : Int), (0 : Int)⟩ : Timpl_Rest), ([] : List UInt8)⟩ : Timpl_Act), (⟨(4 : Int), r17, (0 : Int), (0 : Int), (0 : Int), (⟨(0 : Int), (0 : Int), (0 : Int)⟩ : Timpl_Rest), ([] : List UInt8)⟩ : Timpl_Act), (⟨(5 : Int), a1, (1 : Int), (0 : Int), (0 : Int), (⟨(0 : Int), (0 : Int), (0 : Int)⟩ : Timpl_Rest), ([] : List UInt8)⟩ : Timpl_Act)] : List Timpl_Act).length) + 192) * 80 ≤ 281474976710656)) (Fspec_Flow.l2 k a1 a2 a4 (([] : List Timpl_Act) ++ ([(⟨(2 : Int), a1, (0 : Int), (0 : Int), (0 : Int), (⟨(0 : Int), (0 : Int), (0 : Int)⟩ : Timpl_Rest), ([] : List UInt8)⟩ : Timpl_Act), (⟨(4 : Int), r17, (0 : Int), (0 : Int), (0 : Int), (⟨(0 : Int), (0 : Int), (0 : Int)⟩ : Timpl_Rest), ([] : List UInt8)⟩ : Timpl_Act), (⟨(5 : Int), a1, (1 : Int), (0 : Int), (0 : Int), (⟨(0 : Int), (0 : Int), (0 : Int)⟩ : Timpl_Rest), ([] : List UInt8)⟩ : Timpl_Act)] : List Timpl_Act)) r17 (2 : Int) (1 : Int) (0 : Int) a0.UserRealm a0.ServiceRealm a0.Links a0.Proxy a0.Skew a3.Servers a3.Ops a3.End) none))))))
theorem ent70 : Enters Try.prog 70 := ⟨Try.f70, Try.func70, rfl, by decide⟩
set_option maxHeartbeats 8000000 in
set_option maxRecDepth 100000 in
theorem Fspec_Flow_gives (k : Nat) (g0 : Bool) (g1 : Bool) (g2 : Bool) (g3 : Bool) (a0 : Timpl_Config) (a1 : Int) (a2 : Int) (a3 : Timpl_Rest) (a4 : Int) (r : List Timpl_Act) (H : Fspec_Flow k a0 a1 a2 a3 a4 = some r) : Gives Try.prog 70 [V.agg [Cell.sl g0 (List.map eI a0.UserRealm), Cell.sl g1 (List.map eI a0.ServiceRealm), Cell.sl g2 (List.map eTimpl_Pair a0.Links), Cell.sl g3 (List.map eTimpl_Pair a0.Proxy), cI a0.Skew], V.one (cI a1), V.one (cI a2), V.agg [cI a3.Servers, cI a3.Ops, cI a3.End], V.one (cI a4)] [] [V.one (Cell.ow 9 (List.map eTimpl_Act r))] [] := by
  refine Gives.intro Try.func70 rfl rfl rfl rfl ?_
  intro F hF hm
  unfold Fspec_Flow at H
  obtain ⟨K, hK⟩ : ∃ K, k ≤ K := ⟨k, Nat.le_refl k⟩
  refine WpC.seq ?_
  refine WpC.regionL ?_
  refine L.box 11 hF rfl rfl rfl rfl ?_
  refine L.box 12 hF rfl rfl rfl rfl ?_
  refine L.assign hF rfl rfl rfl ?_
  refine L.nil ?_
  refine WpC.seq ?_
  refine WpC.regionL ?_
  refine L.buildSlice (e := eTimpl_Act) 13 ([] : List Timpl_Act) Try.underlying86 info195 rfl rfl rfl hF rfl rfl rfl rfl rfl rfl rfl rfl ?_
  refine L.assign hF rfl rfl rfl ?_
  refine L.nil ?_
  refine WpC.seq ?_
  refine WpC.seq ?_
  refine WpC.regionL ?_
  refine L.loadPtr shape90 hF rfl rfl rfl rfl rfl rfl ?_
  obtain ⟨r13, hr13, H⟩ := bindS H
  refine L.call [false] [] [] 14 hF rfl rfl rfl ent150 rfl rfl rfl rfl rfl (Fspec_ConfigOk_gives k g0 g1 g2 g3 a0 r13 hr13) rfl ?_
  refine L.not hF rfl rfl rfl ?_
  refine L.move hF rfl rfl rfl ?_
  refine L.split (fun hc => ?_) (fun hc => ?_)
  · replace H := condT hc H
    refine L.off hF rfl rfl ?_
    refine L.off hF rfl rfl ?_
    refine L.off hF rfl rfl ?_
    refine L.pick hF rfl rfl rfl rfl ?_
    refine L.move hF rfl rfl rfl ?_
    refine L.off hF rfl rfl ?_
    refine L.off hF rfl rfl ?_
    refine L.pick hF rfl rfl rfl rfl ?_
    refine L.move hF rfl rfl rfl ?_
    refine L.off hF rfl rfl ?_
    refine L.off hF rfl rfl ?_
    refine L.pick hF rfl rfl rfl rfl ?_
    refine L.move hF rfl rfl rfl ?_
    refine L.off hF rfl rfl ?_
    refine L.off hF rfl rfl ?_
    refine L.off hF rfl rfl ?_
    refine L.pick hF rfl rfl rfl rfl ?_
    refine L.move hF rfl rfl rfl ?_
    refine L.off hF rfl rfl ?_
    refine L.off hF rfl rfl ?_
    refine L.off hF rfl rfl ?_
    refine L.pick hF rfl rfl rfl rfl ?_
    refine L.nil ?_
    refine WpC.cond rfl (fun _ => ?_) (fun hc => by cases hc)
    refine WpC.seq ?_
    refine WpC.regionL ?_
    refine L.move hF rfl rfl rfl ?_
    refine L.assign hF rfl rfl rfl ?_
    refine L.nil ?_
    refine WpC.ret ?_
    cases H
    exact Leaves.ret rfl rfl rfl ⟨rfl, rfl⟩
  · replace H := condF hc H
    refine L.move hF rfl rfl rfl ?_
    obtain ⟨r14, hr14, H⟩ := bindS H
    refine L.call [false] [] [] 15 hF rfl rfl rfl ent142 rfl rfl rfl rfl rfl (Fspec_l5Principal_gives k  a1 r14 hr14) rfl ?_
    refine L.not hF rfl rfl rfl ?_
    refine L.pick hF rfl rfl rfl rfl ?_
    refine L.move hF rfl rfl rfl ?_
    refine L.split (fun hc => ?_) (fun hc => ?_)
    · replace H := condT hc H
      refine L.off hF rfl rfl ?_
      refine L.off hF rfl rfl ?_
      refine L.pick hF rfl rfl rfl rfl ?_
      refine L.move hF rfl rfl rfl ?_
      refine L.off hF rfl rfl ?_
      refine L.off hF rfl rfl ?_
      refine L.pick hF rfl rfl rfl rfl ?_
      refine L.move hF rfl rfl rfl ?_
      refine L.off hF rfl rfl ?_
      refine L.off hF rfl rfl ?_
      refine L.off hF rfl rfl ?_
      refine L.pick hF rfl rfl rfl rfl ?_
      refine L.move hF rfl rfl rfl ?_
      refine L.off hF rfl rfl ?_
      refine L.off hF rfl rfl ?_
      refine L.off hF rfl rfl ?_
      refine L.pick hF rfl rfl rfl rfl ?_
      refine L.nil ?_
      refine WpC.cond rfl (fun _ => ?_) (fun hc => by cases hc)
      refine WpC.seq ?_
      refine WpC.regionL ?_
      refine L.move hF rfl rfl rfl ?_
      refine L.assign hF rfl rfl rfl ?_
      refine L.nil ?_
      refine WpC.ret ?_
      cases H
      exact Leaves.ret rfl rfl rfl ⟨rfl, rfl⟩
    · replace H := condF hc H
      refine L.move hF rfl rfl rfl ?_
      refine L.bin hF rfl rfl rfl rfl rfl rfl ?_
      refine L.pick hF rfl rfl rfl rfl ?_
      refine L.move hF rfl rfl rfl ?_
      refine L.split (fun hc => ?_) (fun hc => ?_)
      · replace H := condT hc H
        refine L.off hF rfl rfl ?_
        refine L.off hF rfl rfl ?_
        refine L.pick hF rfl rfl rfl rfl ?_
        refine L.move hF rfl rfl rfl ?_
        refine L.off hF rfl rfl ?_
        refine L.off hF rfl rfl ?_
        refine L.off hF rfl rfl ?_
        refine L.pick hF rfl rfl rfl rfl ?_
        refine L.move hF rfl rfl rfl ?_
        refine L.off hF rfl rfl ?_
        refine L.off hF rfl rfl ?_
        refine L.off hF rfl rfl ?_
        refine L.pick hF rfl rfl rfl rfl ?_
        refine L.nil ?_
        refine WpC.cond rfl (fun _ => ?_) (fun hc => by cases hc)
        refine WpC.seq ?_
        refine WpC.regionL ?_
        refine L.move hF rfl rfl rfl ?_
        refine L.assign hF rfl rfl rfl ?_
        refine L.nil ?_
        refine WpC.ret ?_
        cases H
        exact Leaves.ret rfl rfl rfl ⟨rfl, rfl⟩
      · replace H := condF hc H
        refine L.move hF rfl rfl rfl ?_
        refine L.bin hF rfl rfl rfl rfl rfl rfl ?_
        refine L.pick hF rfl rfl rfl rfl ?_
        refine L.move hF rfl rfl rfl ?_
        refine L.split (fun hc => ?_) (fun hc => ?_)
        · replace H := condT hc H
          refine L.off hF rfl rfl ?_
          refine L.off hF rfl rfl ?_
          refine L.off hF rfl rfl ?_
          refine L.pick hF rfl rfl rfl rfl ?_
          refine L.move hF rfl rfl rfl ?_
          refine L.off hF rfl rfl ?_
          refine L.off hF rfl rfl ?_
          refine L.off hF rfl rfl ?_
          refine L.pick hF rfl rfl rfl rfl ?_
          refine L.nil ?_
          refine WpC.cond rfl (fun _ => ?_) (fun hc => by cases hc)
          refine WpC.seq ?_
          refine WpC.regionL ?_
          refine L.move hF rfl rfl rfl ?_
          refine L.assign hF rfl rfl rfl ?_
          refine L.nil ?_
          refine WpC.ret ?_
          cases H
          exact Leaves.ret rfl rfl rfl ⟨rfl, rfl⟩
        · replace H := condF hc H
          refine L.loadPtr shape74 hF rfl rfl rfl rfl rfl rfl ?_
          obtain ⟨r15, hr15, H⟩ := bindS H
          refine L.call [false] [] [] 16 hF rfl rfl rfl ent151 rfl rfl rfl rfl rfl (Fspec_RestOk_gives k  a3 r15 hr15) rfl ?_
          refine L.not hF rfl rfl rfl ?_
          refine L.pick hF rfl rfl rfl rfl ?_
          refine L.move hF rfl rfl rfl ?_
          refine L.split (fun hc => ?_) (fun hc => ?_)
          · replace H := condT hc H
            refine L.off hF rfl rfl ?_
            refine L.off hF rfl rfl ?_
            refine L.off hF rfl rfl ?_
            refine L.pick hF rfl rfl rfl rfl ?_
            refine L.nil ?_
            refine WpC.cond rfl (fun _ => ?_) (fun hc => by cases hc)
            refine WpC.seq ?_
            refine WpC.regionL ?_
            refine L.move hF rfl rfl rfl ?_
            refine L.assign hF rfl rfl rfl ?_
            refine L.nil ?_
            refine WpC.ret ?_
            cases H
            exact Leaves.ret rfl rfl rfl ⟨rfl, rfl⟩
          · replace H := condF hc H
            refine L.move hF rfl rfl rfl ?_
            obtain ⟨r16, hr16, H⟩ := bindS H
            refine L.call [false, false, false] [] [] 17 hF rfl rfl rfl ent152 rfl rfl rfl rfl rfl (Fspec_l1In_gives k  a4 (0 : Int) (7 : Int) r16 hr16) rfl ?_
            refine L.not hF rfl rfl rfl ?_
            refine L.pick hF rfl rfl rfl rfl ?_
            refine L.nil ?_
            refine WpC.cond rfl (fun hc => ?_) (fun hc => ?_)
            · replace H := condT hc H
              refine WpC.seq ?_
              refine WpC.regionL ?_
              refine L.move hF rfl rfl rfl ?_
              refine L.assign hF rfl rfl rfl ?_
              refine L.nil ?_
              refine WpC.ret ?_
              cases H
              exact Leaves.ret rfl rfl rfl ⟨rfl, rfl⟩
            · replace H := condF hc H
              refine WpC.skip ?_
              refine WpC.seq ?_
              refine WpC.regionL ?_
              refine L.loadPtr shape90 hF rfl rfl rfl rfl rfl rfl ?_
              refine L.move hF rfl rfl rfl ?_
              obtain ⟨r17, hr17, H⟩ := bindS H
              refine L.call [false, false] [] [] 18 hF rfl rfl rfl ent153 rfl rfl rfl rfl rfl (Fspec_RealmOf_gives k g0 g1 g2 g3 a0 a1 r17 hr17) rfl ?_
              refine L.assign hF rfl rfl rfl ?_
              refine L.nil ?_
              refine WpC.seq ?_
              refine WpC.regionL ?_
              refine L.move hF rfl rfl rfl ?_
              refine L.move hF rfl rfl rfl ?_
              refine L.buildF built195 hF rfl rfl rfl rfl ?_
              refine L.move hF rfl rfl rfl ?_
              refine L.buildF built195 hF rfl rfl rfl rfl ?_
              refine L.move hF rfl rfl rfl ?_
              refine L.buildF built195 hF rfl rfl rfl rfl ?_
              refine L.buildSlice (e := eTimpl_Act) 19 ([(⟨(2 : Int), a1, (0 : Int), (0 : Int), (0 : Int), (⟨(0 : Int), (0 : Int), (0 : Int)⟩ : Timpl_Rest), ([] : List UInt8)⟩ : Timpl_Act), (⟨(4 : Int), r17, (0 : Int), (0 : Int), (0 : Int), (⟨(0 : Int), (0 : Int), (0 : Int)⟩ : Timpl_Rest), ([] : List UInt8)⟩ : Timpl_Act), (⟨(5 : Int), a1, (1 : Int), (0 : Int), (0 : Int), (⟨(0 : Int), (0 : Int), (0 : Int)⟩ : Timpl_Rest), ([] : List UInt8)⟩ : Timpl_Act)] : List Timpl_Act) Try.underlying86 info195 rfl rfl rfl hF rfl rfl rfl rfl rfl rfl rfl rfl ?_
              obtain ⟨h18, H⟩ := condG H
              refine L.append (xs := ([] : List Timpl_Act)) (ys := ([(⟨(2 : Int), a1, (0 : Int), (0 : Int), (0 : Int), (⟨(0 : Int), (0 : Int), (0 : Int)⟩ : Timpl_Rest), ([] : List UInt8)⟩ : Timpl_Act), (⟨(4 : Int), r17, (0 : Int), (0 : Int), (0 : Int), (⟨(0 : Int), (0 : Int), (0 : Int)⟩ : Timpl_Rest), ([] : List UInt8)⟩ : Timpl_Act), (⟨(5 : Int), a1, (1 : Int), (0 : Int), (0 : Int), (⟨(0 : Int), (0 : Int), (0 : Int)⟩ : Timpl_Rest), ([] : List UInt8)⟩ : Timpl_Act)] : List Timpl_Act)) (e := eTimpl_Act) 20 Try.underlying86 info195 rfl rfl hF rfl rfl rfl rfl rfl rfl rfl rfl (fun _ => rfl) (fun _ _ h1 h2 => by cases h1; cases h2; rfl) ⟨_, Try.underlying86⟩ (of_decide_eq_true h18) rfl rfl ?_
              refine L.assign hF rfl rfl rfl ?_
              refine L.nil ?_
              refine WpC.seq ?_
              refine WpC.regionL ?_
              refine L.assign hF rfl rfl rfl ?_
              refine L.nil ?_
              refine WpC.seq ?_
              refine WpC.regionL ?_
              refine L.assign hF rfl rfl rfl ?_
              refine L.nil ?_
              refine WpC.seq ?_
              refine WpC.seq ?_
              refine WpC.regionL ?_
              refine L.assign hF rfl rfl rfl ?_
              refine L.nil ?_
              refine WpC.block ?_
              refine WpC.loopL (P := Try.prog) (fun n σ => ∃ v163 : Int, ∃ v164 : Int, ∃ v165 : Int, ∃ v166 : List Timpl_Act, ∃ v167 : Int, ∃ v168 : Int, ∃ v169 : Int, ∃ v170 : Int, ∃ v171 : List Int, ∃ v172 : List Int, ∃ v173 : List Timpl_Pair, ∃ v174 : List Timpl_Pair, ∃ v175 : Int, ∃ v176 : Int, ∃ v177 : Int, ∃ v178 : Int, n ≤ K ∧ Fspec_Flow.l2 n v163 v164 v165 v166 v167 v168 v169 v170 v171 v172 v173 v174 v175 v176 v177 v178 = some r ∧ σ = mkSt [(1, one (cI v163)), (2, one (cI v164)), (4, one (cI v165)), (5, one (Cell.ptr 0 0)), (8, one (Cell.ptr 1 0)), (11, one (Cell.own 2)), (12, one (cI v167)), (13, one (cI v168)), (14, one (cI v169)), (15, one (cI v170))] [(2, ⟨9, List.map eTimpl_Act v166⟩)] [(0, [Cell.sl g0 (List.map eI v171), Cell.sl g1 (List.map eI v172), Cell.sl g2 (List.map eTimpl_Pair v173), Cell.sl g3 (List.map eTimpl_Pair v174), cI v175]), (1, [cI v176, cI v177, cI v178])] 3) k ⟨_, ⟨a1, a2, a4, (([] : List Timpl_Act) ++ ([(⟨(2 : Int), a1, (0 : Int), (0 : Int), (0 : Int), (⟨(0 : Int), (0 : Int), (0 : Int)⟩ : Timpl_Rest), ([] : List UInt8)⟩ : Timpl_Act), (⟨(4 : Int), r17, (0 : Int), (0 : Int), (0 : Int), (⟨(0 : Int), (0 : Int), (0 : Int)⟩ : Timpl_Rest), ([] : List UInt8)⟩ : Timpl_Act), (⟨(5 : Int), a1, (1 : Int), (0 : Int), (0 : Int), (⟨(0 : Int), (0 : Int), (0 : Int)⟩ : Timpl_Rest), ([] : List UInt8)⟩ : Timpl_Act)] : List Timpl_Act)), r17, (2 : Int), (1 : Int), (0 : Int), a0.UserRealm, a0.ServiceRealm, a0.Links, a0.Proxy, a0.Skew, a3.Servers, a3.Ops, a3.End, by omega, H, rfl⟩, Le.mk [(0, 11), (1, 12), (2, 20)] hm rfl ⟨⟨_, rfl, rfl⟩, ⟨_, rfl, rfl⟩, ⟨_, rfl, rfl⟩, ⟨_, rfl, rfl⟩, ⟨_, rfl, rfl⟩, ⟨_, rfl, rfl⟩, ⟨_, rfl, rfl⟩, ⟨_, rfl, rfl⟩, ⟨_, rfl, rfl⟩, ⟨_, rfl, rfl⟩, trivial⟩ ⟨⟨_, rfl, rfl⟩, trivial⟩ ⟨⟨_, _, rfl, rfl, rfl⟩, ⟨_, _, rfl, rfl, rfl⟩, trivial⟩⟩ ?_
              clear H
              rintro k2 _ ⟨v163, v164, v165, v166, v167, v168, v169, v170, v171, v172, v173, v174, v175, v176, v177, v178, hk2, H, rfl⟩
              cases k2 with
              | zero => cases H
              | succ k2 =>
                rw [Fspec_Flow.l2] at H
                refine WpC.seq ?_
                refine WpC.seq ?_
                refine WpC.regionL ?_
                refine L.move hF rfl rfl rfl ?_
                refine L.bin hF rfl rfl rfl rfl rfl rfl ?_
                refine L.nil ?_
                refine WpC.cond rfl (fun hc => ?_) (fun hc => ?_)
                · replace H := condT hc H
                  refine WpC.skip ?_
                  refine WpC.seq ?_
                  refine WpC.block ?_
                  refine WpC.seq ?_
                  refine WpC.regionL ?_
                  refine L.move hF rfl rfl rfl ?_
                  refine L.move hF rfl rfl rfl ?_
                  refine L.move hF rfl rfl rfl ?_
                  refine L.bin hF rfl rfl rfl rfl rfl rfl ?_
                  refine L.move hF rfl rfl rfl ?_
                  refine L.loadPtr shape74 hF rfl rfl rfl rfl rfl rfl ?_
                  refine L.buildF built195 hF rfl rfl rfl rfl ?_
                  refine L.move hF rfl rfl rfl ?_
                  refine L.move hF rfl rfl rfl ?_
                  refine L.buildF built195 hF rfl rfl rfl rfl ?_
                  refine L.move hF rfl rfl rfl ?_
                  refine L.move hF rfl rfl rfl ?_
                  refine L.bin hF rfl rfl rfl rfl rfl rfl ?_
                  refine L.buildF built195 hF rfl rfl rfl rfl ?_
                  refine L.buildSlice (e := eTimpl_Act) 3 ([(⟨(3 : Int), v163, (IntKind.i64.wrap (v169 - (1 : Int))), v164, (0 : Int), (⟨v176, v177, v178⟩ : Timpl_Rest), ([] : List UInt8)⟩ : Timpl_Act), (⟨(4 : Int), v167, v168, (0 : Int), (0 : Int), (⟨(0 : Int), (0 : Int), (0 : Int)⟩ : Timpl_Rest), ([] : List UInt8)⟩ : Timpl_Act), (⟨(5 : Int), v163, (IntKind.i64.wrap (v168 + (1 : Int))), (0 : Int), (0 : Int), (⟨(0 : Int), (0 : Int), (0 : Int)⟩ : Timpl_Rest), ([] : List UInt8)⟩ : Timpl_Act)] : List Timpl_Act) Try.underlying86 info195 rfl rfl rfl hF rfl rfl rfl rfl rfl rfl rfl rfl ?_
                  obtain ⟨h186, H⟩ := condG H
                  refine L.append (xs := v166) (ys := ([(⟨(3 : Int), v163, (IntKind.i64.wrap (v169 - (1 : Int))), v164, (0 : Int), (⟨v176, v177, v178⟩ : Timpl_Rest), ([] : List UInt8)⟩ : Timpl_Act), (⟨(4 : Int), v167, v168, (0 : Int), (0 : Int), (⟨(0 : Int), (0 : Int), (0 : Int)⟩ : Timpl_Rest), ([] : List UInt8)⟩ : Timpl_Act), (⟨(5 : Int), v163, (IntKind.i64.wrap (v168 + (1 : Int))), (0 : Int), (0 : Int), (⟨(0 : Int), (0 : Int), (0 : Int)⟩ : Timpl_Rest), ([] : List UInt8)⟩ : Timpl_Act)] : List Timpl_Act)) (e := eTimpl_Act) 4 Try.underlying86 info195 rfl rfl hF rfl rfl rfl rfl rfl rfl rfl rfl (fun _ => rfl) (fun _ _ h1 h2 => by cases h1; cases h2; rfl) ⟨_, Try.underlying86⟩ (of_decide_eq_true h186) rfl rfl ?_
                  refine L.assign hF rfl rfl rfl ?_
                  refine L.nil ?_
                  refine WpC.seq ?_
                  refine WpC.regionL ?_
                  refine L.move hF rfl rfl rfl ?_
                  refine L.bin hF rfl rfl rfl rfl rfl rfl ?_
                  refine L.assign hF rfl rfl rfl ?_
                  refine L.nil ?_
                  refine WpC.seq ?_
                  refine WpC.regionL ?_
                  refine L.move hF rfl rfl rfl ?_
                  refine L.bin hF rfl rfl rfl rfl rfl rfl ?_
                  refine L.assign hF rfl rfl rfl ?_
                  refine L.nil ?_
                  refine WpC.seq ?_
                  refine WpC.seq ?_
                  refine WpC.regionL ?_
                  refine L.move hF rfl rfl rfl ?_
                  refine L.fieldAddr Try.underlying90 rfl info24 rfl hF rfl rfl rfl rfl rfl ?_
                  refine L.loadPtr shape24 hF rfl rfl rfl rfl rfl rfl ?_
                  refine L.move hF rfl rfl rfl ?_
                  obtain ⟨b189, hb189, H⟩ := bindS H
                  refine L.idxR (xs := v172) (e := eI) Try.underlying24 info3 hF rfl rfl rfl rfl rfl hb189 rfl rfl ?_
                  refine L.loadPe shape3 hF rfl rfl rfl rfl rfl ?_
                  refine L.bin hF rfl rfl rfl rfl rfl rfl ?_
                  refine L.nil ?_
                  refine WpC.cond rfl (fun hc => ?_) (fun hc => ?_)
                  · replace H := condT hc H
                    refine WpC.seq ?_
                    refine WpC.regionL ?_
                    refine L.move hF rfl rfl rfl ?_
                    refine L.move hF rfl rfl rfl ?_
                    refine L.move hF rfl rfl rfl ?_
                    refine L.bin hF rfl rfl rfl rfl rfl rfl ?_
                    refine L.move hF rfl rfl rfl ?_
                    refine L.buildF built195 hF rfl rfl rfl rfl ?_
                    refine L.move hF rfl rfl rfl ?_
                    refine L.move hF rfl rfl rfl ?_
                    refine L.buildF built195 hF rfl rfl rfl rfl ?_
                    refine L.buildSlice (e := eTimpl_Act) 5 ([(⟨(6 : Int), v163, (IntKind.i64.wrap ((IntKind.i64.wrap (v169 + (1 : Int))) - (1 : Int))), v165, (0 : Int), (⟨(0 : Int), (0 : Int), (0 : Int)⟩ : Timpl_Rest), ([] : List UInt8)⟩ : Timpl_Act), (⟨(7 : Int), v164, (IntKind.i64.wrap (v168 + (2 : Int))), (0 : Int), (0 : Int), (⟨(0 : Int), (0 : Int), (0 : Int)⟩ : Timpl_Rest), ([] : List UInt8)⟩ : Timpl_Act)] : List Timpl_Act) Try.underlying86 info195 rfl rfl rfl hF rfl rfl rfl rfl rfl rfl rfl rfl ?_
                    obtain ⟨h190, H⟩ := condG H
                    refine L.append (xs := (v166 ++ ([(⟨(3 : Int), v163, (IntKind.i64.wrap (v169 - (1 : Int))), v164, (0 : Int), (⟨v176, v177, v178⟩ : Timpl_Rest), ([] : List UInt8)⟩ : Timpl_Act), (⟨(4 : Int), v167, v168, (0 : Int), (0 : Int), (⟨(0 : Int), (0 : Int), (0 : Int)⟩ : Timpl_Rest), ([] : List UInt8)⟩ : Timpl_Act), (⟨(5 : Int), v163, (IntKind.i64.wrap (v168 + (1 : Int))), (0 : Int), (0 : Int), (⟨(0 : Int), (0 : Int), (0 : Int)⟩ : Timpl_Rest), ([] : List UInt8)⟩ : Timpl_Act)] : List Timpl_Act))) (ys := ([(⟨(6 : Int), v163, (IntKind.i64.wrap ((IntKind.i64.wrap (v169 + (1 : Int))) - (1 : Int))), v165, (0 : Int), (⟨(0 : Int), (0 : Int), (0 : Int)⟩ : Timpl_Rest), ([] : List UInt8)⟩ : Timpl_Act), (⟨(7 : Int), v164, (IntKind.i64.wrap (v168 + (2 : Int))), (0 : Int), (0 : Int), (⟨(0 : Int), (0 : Int), (0 : Int)⟩ : Timpl_Rest), ([] : List UInt8)⟩ : Timpl_Act)] : List Timpl_Act)) (e := eTimpl_Act) 6 Try.underlying86 info195 rfl rfl hF rfl rfl rfl rfl rfl rfl rfl rfl (fun _ => rfl) (fun _ _ h1 h2 => by cases h1; cases h2; rfl) ⟨_, Try.underlying86⟩ (of_decide_eq_true h190) rfl rfl ?_
                    refine L.assign hF rfl rfl rfl ?_
                    refine L.nil ?_
                    refine WpC.ret ?_
                    cases H
                    exact Leaves.ret rfl rfl rfl ⟨rfl, rfl⟩
                  · replace H := condF hc H
                    refine WpC.skip ?_
                    refine WpC.seq ?_
                    obtain ⟨b191, hb191, H⟩ := bindS H
                    obtain ⟨r192, hr192, H⟩ := bindS H
                    refine A.begin mixed rfl rfl ?_
                    intro W hI hO
                    have n127 : W 2 #[true, true, true, true, true, true, true, false, false] (mkSt [(1, one (cI v163)), (2, one (cI v164)), (4, one (cI v165)), (5, one (Cell.ptr 0 0)), (8, one (Cell.ptr 1 0)), (11, one (Cell.own 2)), (12, one (cI v167)), (13, one (cI (IntKind.i64.wrap (v168 + (2 : Int))))), (14, one (cI (IntKind.i64.wrap (v169 + (1 : Int))))), (15, one (cI v170)), (98, agg [Cell.sl g0 (List.map eI v171), Cell.sl g1 (List.map eI v172), Cell.sl g2 (List.map eTimpl_Pair v173), Cell.sl g3 (List.map eTimpl_Pair v174), cI v175]), (99, one (cI v167)), (104, one (cI b191))] [(2, ⟨9, List.map eTimpl_Act (v166 ++ ([(⟨(3 : Int), v163, (IntKind.i64.wrap (v169 - (1 : Int))), v164, (0 : Int), (⟨v176, v177, v178⟩ : Timpl_Rest), ([] : List UInt8)⟩ : Timpl_Act), (⟨(4 : Int), v167, v168, (0 : Int), (0 : Int), (⟨(0 : Int), (0 : Int), (0 : Int)⟩ : Timpl_Rest), ([] : List UInt8)⟩ : Timpl_Act), (⟨(5 : Int), v163, (IntKind.i64.wrap (v168 + (1 : Int))), (0 : Int), (0 : Int), (⟨(0 : Int), (0 : Int), (0 : Int)⟩ : Timpl_Rest), ([] : List UInt8)⟩ : Timpl_Act)] : List Timpl_Act))⟩)] [(0, [Cell.sl g0 (List.map eI v171), Cell.sl g1 (List.map eI v172), Cell.sl g2 (List.map eTimpl_Pair v173), Cell.sl g3 (List.map eTimpl_Pair v174), cI v175]), (1, [cI v176, cI v177, cI v178])] 3) := by
                      refine hI _ _ _ ?_
                      refine A.all [7] (by kernel_rfl) rfl ⟨⟨_, rfl, ?_⟩, trivial⟩
                      refine L.call [false, false, false] [] [] 3 hF rfl rfl rfl ent154 rfl rfl rfl rfl rfl (Fspec_NextHop_gives k2 g0 g1 g2 g3 (⟨v171, v172, v173, v174, v175⟩ : Timpl_Config) v167 b191 r192 hr192) rfl ?_
                      refine L.nil ?_
                      refine A.take 8 rfl (by kernel_rfl) (by kernel_rfl) (by kernel_rfl) rfl (Ca.assign) (fun Q0 k0 => L.assign hF rfl rfl rfl (L.nil k0)) ?_
                      refine A.le (τ := mkSt [(1, one (cI v163)), (2, one (cI v164)), (4, one (cI v165)), (5, one (Cell.ptr 0 0)), (8, one (Cell.ptr 1 0)), (11, one (Cell.own 2)), (12, one (cI r192)), (13, one (cI (IntKind.i64.wrap (v168 + (2 : Int))))), (14, one (cI (IntKind.i64.wrap (v169 + (1 : Int))))), (15, one (cI v170))] [(2, ⟨9, List.map eTimpl_Act (v166 ++ ([(⟨(3 : Int), v163, (IntKind.i64.wrap (v169 - (1 : Int))), v164, (0 : Int), (⟨v176, v177, v178⟩ : Timpl_Rest), ([] : List UInt8)⟩ : Timpl_Act), (⟨(4 : Int), v167, v168, (0 : Int), (0 : Int), (⟨(0 : Int), (0 : Int), (0 : Int)⟩ : Timpl_Rest), ([] : List UInt8)⟩ : Timpl_Act), (⟨(5 : Int), v163, (IntKind.i64.wrap (v168 + (1 : Int))), (0 : Int), (0 : Int), (⟨(0 : Int), (0 : Int), (0 : Int)⟩ : Timpl_Rest), ([] : List UInt8)⟩ : Timpl_Act)] : List Timpl_Act))⟩)] [(0, [Cell.sl g0 (List.map eI v171), Cell.sl g1 (List.map eI v172), Cell.sl g2 (List.map eTimpl_Pair v173), Cell.sl g3 (List.map eTimpl_Pair v174), cI v175]), (1, [cI v176, cI v177, cI v178])] 3) (Le.mk [(0, 0), (1, 1), (2, 2)] hm rfl ⟨⟨_, rfl, rfl⟩, ⟨_, rfl, rfl⟩, ⟨_, rfl, rfl⟩, ⟨_, rfl, rfl⟩, ⟨_, rfl, rfl⟩, ⟨_, rfl, rfl⟩, ⟨_, rfl, rfl⟩, ⟨_, rfl, rfl⟩, ⟨_, rfl, rfl⟩, ⟨_, rfl, rfl⟩, trivial⟩ ⟨⟨_, rfl, rfl⟩, trivial⟩ ⟨⟨_, _, rfl, rfl, rfl⟩, ⟨_, _, rfl, rfl, rfl⟩, trivial⟩) ?_
                      refine A.done (by kernel_rfl) ?_
                      refine WpC.seq ?_
                      refine WpC.regionL ?_
                      refine L.move hF rfl rfl rfl ?_
                      refine L.bin hF rfl rfl rfl rfl rfl rfl ?_
                      refine L.nil ?_
                      refine WpC.cond rfl (fun hc => ?_) (fun hc => ?_)
                      · replace H := condT hc H
                        refine WpC.seq ?_
                        refine WpC.regionL ?_
                        refine L.buildSlice (e := eTimpl_Act) 3 ([] : List Timpl_Act) Try.underlying86 info195 rfl rfl rfl hF rfl rfl rfl rfl rfl rfl rfl rfl ?_
                        refine L.assign hF rfl rfl rfl ?_
                        refine L.nil ?_
                        refine WpC.ret ?_
                        cases H
                        exact Leaves.ret rfl rfl rfl ⟨rfl, rfl⟩
                      · replace H := condF hc H
                        refine WpC.skip ?_
                        refine WpC.regionL ?_
                        refine L.move hF rfl rfl rfl ?_
                        refine L.bin hF rfl rfl rfl rfl rfl rfl ?_
                        refine L.assign hF rfl rfl rfl ?_
                        refine L.nil ?_
                        exact ⟨k2, _, by omega, ⟨v163, v164, v165, (v166 ++ ([(⟨(3 : Int), v163, (IntKind.i64.wrap (v169 - (1 : Int))), v164, (0 : Int), (⟨v176, v177, v178⟩ : Timpl_Rest), ([] : List UInt8)⟩ : Timpl_Act), (⟨(4 : Int), v167, v168, (0 : Int), (0 : Int), (⟨(0 : Int), (0 : Int), (0 : Int)⟩ : Timpl_Rest), ([] : List UInt8)⟩ : Timpl_Act), (⟨(5 : Int), v163, (IntKind.i64.wrap (v168 + (1 : Int))), (0 : Int), (0 : Int), (⟨(0 : Int), (0 : Int), (0 : Int)⟩ : Timpl_Rest), ([] : List UInt8)⟩ : Timpl_Act)] : List Timpl_Act)), r192, (IntKind.i64.wrap (v168 + (2 : Int))), (IntKind.i64.wrap (v169 + (1 : Int))), (IntKind.i64.wrap (v170 + (1 : Int))), v171, v172, v173, v174, v175, v176, v177, v178, by omega, H, rfl⟩, Le.mk [(0, 0), (1, 1), (2, 2)] hm rfl ⟨⟨_, rfl, rfl⟩, ⟨_, rfl, rfl⟩, ⟨_, rfl, rfl⟩, ⟨_, rfl, rfl⟩, ⟨_, rfl, rfl⟩, ⟨_, rfl, rfl⟩, ⟨_, rfl, rfl⟩, ⟨_, rfl, rfl⟩, ⟨_, rfl, rfl⟩, ⟨_, rfl, rfl⟩, trivial⟩ ⟨⟨_, rfl, rfl⟩, trivial⟩ ⟨⟨_, _, rfl, rfl, rfl⟩, ⟨_, _, rfl, rfl, rfl⟩, trivial⟩⟩
                    have n63 : W 3 #[true, true, true, true, true, true, false, false, false] (mkSt [(1, one (cI v163)), (2, one (cI v164)), (4, one (cI v165)), (5, one (Cell.ptr 0 0)), (8, one (Cell.ptr 1 0)), (11, one (Cell.own 2)), (12, one (cI v167)), (13, one (cI (IntKind.i64.wrap (v168 + (2 : Int))))), (14, one (cI (IntKind.i64.wrap (v169 + (1 : Int))))), (15, one (cI v170)), (98, agg [Cell.sl g0 (List.map eI v171), Cell.sl g1 (List.map eI v172), Cell.sl g2 (List.map eTimpl_Pair v173), Cell.sl g3 (List.map eTimpl_Pair v174), cI v175]), (99, one (cI v167)), (103, one (Cell.pe g1 (eI b191) 0))] [(2, ⟨9, List.map eTimpl_Act (v166 ++ ([(⟨(3 : Int), v163, (IntKind.i64.wrap (v169 - (1 : Int))), v164, (0 : Int), (⟨v176, v177, v178⟩ : Timpl_Rest), ([] : List UInt8)⟩ : Timpl_Act), (⟨(4 : Int), v167, v168, (0 : Int), (0 : Int), (⟨(0 : Int), (0 : Int), (0 : Int)⟩ : Timpl_Rest), ([] : List UInt8)⟩ : Timpl_Act), (⟨(5 : Int), v163, (IntKind.i64.wrap (v168 + (1 : Int))), (0 : Int), (0 : Int), (⟨(0 : Int), (0 : Int), (0 : Int)⟩ : Timpl_Rest), ([] : List UInt8)⟩ : Timpl_Act)] : List Timpl_Act))⟩)] [(0, [Cell.sl g0 (List.map eI v171), Cell.sl g1 (List.map eI v172), Cell.sl g2 (List.map eTimpl_Pair v173), Cell.sl g3 (List.map eTimpl_Pair v174), cI v175]), (1, [cI v176, cI v177, cI v178])] 3) := by
                      refine hI _ _ _ ?_
                      refine A.all [6] (by kernel_rfl) rfl ⟨⟨_, rfl, ?_⟩, trivial⟩
                      refine L.loadPe shape3 hF rfl rfl rfl rfl rfl ?_
                      refine L.nil ?_
                      exact A.on (hO _ _ _ n127) (Le.mk [(0, 0), (1, 1), (2, 2)] hm rfl ⟨⟨_, rfl, rfl⟩, ⟨_, rfl, rfl⟩, ⟨_, rfl, rfl⟩, ⟨_, rfl, rfl⟩, ⟨_, rfl, rfl⟩, ⟨_, rfl, rfl⟩, ⟨_, rfl, rfl⟩, ⟨_, rfl, rfl⟩, ⟨_, rfl, rfl⟩, ⟨_, rfl, rfl⟩, ⟨_, rfl, rfl⟩, ⟨_, rfl, rfl⟩, ⟨_, rfl, rfl⟩, trivial⟩ ⟨⟨_, rfl, rfl⟩, trivial⟩ ⟨⟨_, _, rfl, rfl, rfl⟩, ⟨_, _, rfl, rfl, rfl⟩, trivial⟩)
                    refine hI _ _ _ ?_
                    refine A.take 1 rfl (by kernel_rfl) (by kernel_rfl) (by kernel_rfl) rfl (Ca.move) (fun Q0 k0 => L.move hF rfl rfl rfl (L.nil k0)) ?_
                    refine A.take 2 rfl (by kernel_rfl) (by kernel_rfl) (by kernel_rfl) rfl (Ca.fieldAddr Try.underlying90 rfl info24 rfl) (fun Q0 k0 => L.fieldAddr Try.underlying90 rfl info24 rfl hF rfl rfl rfl rfl rfl (L.nil k0)) ?_
                    refine A.take 4 rfl (by kernel_rfl) (by kernel_rfl) (by kernel_rfl) rfl (Ca.move) (fun Q0 k0 => L.move hF rfl rfl rfl (L.nil k0)) ?_
                    refine A.all [0, 3] (by kernel_rfl) rfl ⟨⟨_, rfl, ?_⟩, ⟨_, rfl, ?_⟩, trivial⟩
                    · refine L.loadPtr shape90 hF rfl rfl rfl rfl rfl rfl ?_
                      refine L.nil ?_
                      refine A.all [3] (by kernel_rfl) rfl ⟨⟨_, rfl, ?_⟩, trivial⟩
                      refine L.loadPtr shape24 hF rfl rfl rfl rfl rfl rfl ?_
                      refine L.nil ?_
                      refine A.take 5 rfl (by kernel_rfl) (by kernel_rfl) (by kernel_rfl) rfl (Ca.indexAddr) (fun Q0 k0 => L.idxR (xs := v172) (e := eI) Try.underlying24 info3 hF rfl rfl rfl rfl rfl hb191 rfl rfl (L.nil k0)) ?_
                      exact A.on (hO _ _ _ n63) (Le.mk [(0, 0), (1, 1), (2, 4)] hm rfl ⟨⟨_, rfl, rfl⟩, ⟨_, rfl, rfl⟩, ⟨_, rfl, rfl⟩, ⟨_, rfl, rfl⟩, ⟨_, rfl, rfl⟩, ⟨_, rfl, rfl⟩, ⟨_, rfl, rfl⟩, ⟨_, rfl, rfl⟩, ⟨_, rfl, rfl⟩, ⟨_, rfl, rfl⟩, ⟨_, rfl, rfl⟩, ⟨_, rfl, rfl⟩, ⟨_, rfl, rfl⟩, trivial⟩ ⟨⟨_, rfl, rfl⟩, trivial⟩ ⟨⟨_, _, rfl, rfl, rfl⟩, ⟨_, _, rfl, rfl, rfl⟩, trivial⟩)
                    · refine L.loadPtr shape24 hF rfl rfl rfl rfl rfl rfl ?_
                      refine L.nil ?_
                      refine A.take 5 rfl (by kernel_rfl) (by kernel_rfl) (by kernel_rfl) rfl (Ca.indexAddr) (fun Q0 k0 => L.idxR (xs := v172) (e := eI) Try.underlying24 info3 hF rfl rfl rfl rfl rfl hb191 rfl rfl (L.nil k0)) ?_
                      refine A.all [0, 6] (by kernel_rfl) rfl ⟨⟨_, rfl, ?_⟩, ⟨_, rfl, ?_⟩, trivial⟩
                      · refine L.loadPtr shape90 hF rfl rfl rfl rfl rfl rfl ?_
                        refine L.nil ?_
                        exact A.on (hO _ _ _ n63) (Le.mk [(0, 0), (1, 1), (2, 4)] hm rfl ⟨⟨_, rfl, rfl⟩, ⟨_, rfl, rfl⟩, ⟨_, rfl, rfl⟩, ⟨_, rfl, rfl⟩, ⟨_, rfl, rfl⟩, ⟨_, rfl, rfl⟩, ⟨_, rfl, rfl⟩, ⟨_, rfl, rfl⟩, ⟨_, rfl, rfl⟩, ⟨_, rfl, rfl⟩, ⟨_, rfl, rfl⟩, ⟨_, rfl, rfl⟩, ⟨_, rfl, rfl⟩, trivial⟩ ⟨⟨_, rfl, rfl⟩, trivial⟩ ⟨⟨_, _, rfl, rfl, rfl⟩, ⟨_, _, rfl, rfl, rfl⟩, trivial⟩)
                      · refine L.loadPe shape3 hF rfl rfl rfl rfl rfl ?_
                        refine L.nil ?_
                        refine A.all [0] (by kernel_rfl) rfl ⟨⟨_, rfl, ?_⟩, trivial⟩
                        refine L.loadPtr shape90 hF rfl rfl rfl rfl rfl rfl ?_
                        refine L.nil ?_
                        exact A.on (hO _ _ _ n127) (Le.mk [(0, 0), (1, 1), (2, 4)] hm rfl ⟨⟨_, rfl, rfl⟩, ⟨_, rfl, rfl⟩, ⟨_, rfl, rfl⟩, ⟨_, rfl, rfl⟩, ⟨_, rfl, rfl⟩, ⟨_, rfl, rfl⟩, ⟨_, rfl, rfl⟩, ⟨_, rfl, rfl⟩, ⟨_, rfl, rfl⟩, ⟨_, rfl, rfl⟩, ⟨_, rfl, rfl⟩, ⟨_, rfl, rfl⟩, ⟨_, rfl, rfl⟩, trivial⟩ ⟨⟨_, rfl, rfl⟩, trivial⟩ ⟨⟨_, _, rfl, rfl, rfl⟩, ⟨_, _, rfl, rfl, rfl⟩, trivial⟩)
                · replace H := condF hc H
                  refine WpC.exit ?_
                  refine WpC.seq ?_
                  refine WpC.regionL ?_
                  refine L.buildSlice (e := eTimpl_Act) 3 ([] : List Timpl_Act) Try.underlying86 info195 rfl rfl rfl hF rfl rfl rfl rfl rfl rfl rfl rfl ?_
                  refine L.assign hF rfl rfl rfl ?_
                  refine L.nil ?_
                  refine WpC.ret ?_
                  cases H
                  exact Leaves.ret rfl rfl rfl ⟨rfl, rfl⟩
/-! ### Fimpl_within -/
def Fimpl_within (k : Nat) (a0 : Int) (a1 : Int) (a2 : Int) : Option Bool := cond (decide (a0 ≥ a1)) (some (decide (a0 ≤ a2))) (some false)
theorem ent113 : Enters Try.prog 113 := ⟨Try.f113, Try.func113, rfl, by decide⟩
set_option maxHeartbeats 8000000 in
set_option maxRecDepth 100000 in
theorem Fimpl_within_gives (k : Nat) (a0 : Int) (a1 : Int) (a2 : Int) (r : Bool) (H : Fimpl_within k a0 a1 a2 = some r) : Gives Try.prog 113 [V.one (cI a0), V.one (cI a1), V.one (cI a2)] [] [V.one (cL r)] [] := by
  refine Gives.intro Try.func113 rfl rfl rfl rfl ?_
  intro F hF hm
  unfold Fimpl_within at H
  obtain ⟨K, hK⟩ : ∃ K, k ≤ K := ⟨k, Nat.le_refl k⟩
  refine WpC.seq ?_
  refine WpC.regionL ?_
  refine L.assign hF rfl rfl rfl ?_
  refine L.nil ?_
  refine WpC.seq ?_
  refine WpC.regionL ?_
  refine L.move hF rfl rfl rfl ?_
  refine L.move hF rfl rfl rfl ?_
  refine L.bin hF rfl rfl rfl rfl rfl rfl ?_
  refine L.move hF rfl rfl rfl ?_
  refine L.split (fun hc => ?_) (fun hc => ?_)
  · replace H := condT hc H
    refine L.move hF rfl rfl rfl ?_
    refine L.move hF rfl rfl rfl ?_
    refine L.bin hF rfl rfl rfl rfl rfl rfl ?_
    refine L.pick hF rfl rfl rfl rfl ?_
    refine L.assign hF rfl rfl rfl ?_
    refine L.nil ?_
    refine WpC.ret ?_
    cases H
    exact Leaves.ret rfl rfl rfl ⟨rfl, rfl⟩
  · replace H := condF hc H
    refine L.off hF rfl rfl ?_
    refine L.off hF rfl rfl ?_
    refine L.off hF rfl rfl ?_
    refine L.pick hF rfl rfl rfl rfl ?_
    refine L.assign hF rfl rfl rfl ?_
    refine L.nil ?_
    refine WpC.ret ?_
    cases H
    exact Leaves.ret rfl rfl rfl ⟨rfl, rfl⟩
/-! ### Fimpl_isRealm -/
def Fimpl_isRealm (k : Nat) (a0 : Int) : Option Bool := (Fimpl_within k a0 (0 : Int) (2 : Int)).bind fun r1 => some r1
theorem ent184 : Enters Try.prog 184 := ⟨Try.f184, Try.func184, rfl, by decide⟩
set_option maxHeartbeats 8000000 in
set_option maxRecDepth 100000 in
theorem Fimpl_isRealm_gives (k : Nat) (a0 : Int) (r : Bool) (H : Fimpl_isRealm k a0 = some r) : Gives Try.prog 184 [V.one (cI a0)] [] [V.one (cL r)] [] := by
  refine Gives.intro Try.func184 rfl rfl rfl rfl ?_
  intro F hF hm
  unfold Fimpl_isRealm at H
  obtain ⟨K, hK⟩ : ∃ K, k ≤ K := ⟨k, Nat.le_refl k⟩
  refine WpC.seq ?_
  refine WpC.regionL ?_
  refine L.assign hF rfl rfl rfl ?_
  refine L.nil ?_
  refine WpC.seq ?_
  refine WpC.regionL ?_
  refine L.move hF rfl rfl rfl ?_
  obtain ⟨r1, hr1, H⟩ := bindS H
  refine L.call [false, false, false] [] [] 1 hF rfl rfl rfl ent113 rfl rfl rfl rfl rfl (Fimpl_within_gives k  a0 (0 : Int) (2 : Int) r1 hr1) rfl ?_
  refine L.assign hF rfl rfl rfl ?_
  refine L.nil ?_
  refine WpC.ret ?_
  cases H
  exact Leaves.ret rfl rfl rfl ⟨rfl, rfl⟩
/-! ### Fimpl_ConfigOk_1 -/
def Fimpl_ConfigOk_1 (k : Nat) (a0 : Timpl_Pair) : Option Bool := (Fimpl_isRealm k a0.A).bind fun r3 => cond r3 ((Fimpl_isRealm k a0.B).bind fun r4 => cond r4 (some (a0.A != a0.B)) (some false)) (some false)
theorem ent247 : Enters Try.prog 247 := ⟨Try.f247, Try.func247, rfl, by decide⟩
set_option maxHeartbeats 8000000 in
set_option maxRecDepth 100000 in
theorem Fimpl_ConfigOk_1_gives (k : Nat) (a0 : Timpl_Pair) (r : Bool) (H : Fimpl_ConfigOk_1 k a0 = some r) : Gives Try.prog 247 [V.agg [cI a0.A, cI a0.B]] [] [V.one (cL r)] [] := by
  refine Gives.intro Try.func247 rfl rfl rfl rfl ?_
  intro F hF hm
  unfold Fimpl_ConfigOk_1 at H
  obtain ⟨K, hK⟩ : ∃ K, k ≤ K := ⟨k, Nat.le_refl k⟩
  refine WpC.seq ?_
  refine WpC.regionL ?_
  refine L.box 2 hF rfl rfl rfl rfl ?_
  refine L.assign hF rfl rfl rfl ?_
  refine L.nil ?_
  refine WpC.seq ?_
  refine WpC.regionL ?_
  refine L.fieldAddr Try.underlying256 rfl info3 rfl hF rfl rfl rfl rfl rfl ?_
  refine L.loadPtr shape3 hF rfl rfl rfl rfl rfl rfl ?_
  obtain ⟨r3, hr3, H⟩ := bindS H
  refine L.call [false] [] [] 3 hF rfl rfl rfl ent184 rfl rfl rfl rfl rfl (Fimpl_isRealm_gives k  a0.A r3 hr3) rfl ?_
  refine L.move hF rfl rfl rfl ?_
  refine L.split (fun hc => ?_) (fun hc => ?_)
  · replace H := condT hc H
    refine L.fieldAddr Try.underlying256 rfl info3 rfl hF rfl rfl rfl rfl rfl ?_
    refine L.loadPtr shape3 hF rfl rfl rfl rfl rfl rfl ?_
    obtain ⟨r4, hr4, H⟩ := bindS H
    refine L.call [false] [] [] 4 hF rfl rfl rfl ent184 rfl rfl rfl rfl rfl (Fimpl_isRealm_gives k  a0.B r4 hr4) rfl ?_
    refine L.pick hF rfl rfl rfl rfl ?_
    refine L.move hF rfl rfl rfl ?_
    refine L.split (fun hc => ?_) (fun hc => ?_)
    · replace H := condT hc H
      refine L.fieldAddr Try.underlying256 rfl info3 rfl hF rfl rfl rfl rfl rfl ?_
      refine L.loadPtr shape3 hF rfl rfl rfl rfl rfl rfl ?_
      refine L.fieldAddr Try.underlying256 rfl info3 rfl hF rfl rfl rfl rfl rfl ?_
      refine L.loadPtr shape3 hF rfl rfl rfl rfl rfl rfl ?_
      refine L.bin hF rfl rfl rfl rfl rfl rfl ?_
      refine L.pick hF rfl rfl rfl rfl ?_
      refine L.assign hF rfl rfl rfl ?_
      refine L.nil ?_
      refine WpC.ret ?_
      cases H
      exact Leaves.ret rfl rfl rfl ⟨rfl, rfl⟩
    · replace H := condF hc H
      refine L.off hF rfl rfl ?_
      refine L.off hF rfl rfl ?_
      refine L.off hF rfl rfl ?_
      refine L.off hF rfl rfl ?_
      refine L.off hF rfl rfl ?_
      refine L.pick hF rfl rfl rfl rfl ?_
      refine L.assign hF rfl rfl rfl ?_
      refine L.nil ?_
      refine WpC.ret ?_
      cases H
      exact Leaves.ret rfl rfl rfl ⟨rfl, rfl⟩
  · replace H := condF hc H
    refine L.off hF rfl rfl ?_
    refine L.off hF rfl rfl ?_
    refine L.off hF rfl rfl ?_
    refine L.pick hF rfl rfl rfl rfl ?_
    refine L.move hF rfl rfl rfl ?_
    refine L.off hF rfl rfl ?_
    refine L.off hF rfl rfl ?_
    refine L.off hF rfl rfl ?_
    refine L.off hF rfl rfl ?_
    refine L.off hF rfl rfl ?_
    refine L.pick hF rfl rfl rfl rfl ?_
    refine L.assign hF rfl rfl rfl ?_
    refine L.nil ?_
    refine WpC.ret ?_
    cases H
    exact Leaves.ret rfl rfl rfl ⟨rfl, rfl⟩
/-! ### Fslices_Index_Pair -/
def Fslices_Index_Pair.l2 : Nat → (List Timpl_Pair) → Int → Int → Int → Int → Option Int
  | 0, _, _, _, _, _ => none
  | k2 + 1, v34, v35, v36, v37, v38 => cond (decide (v36 < v35)) ((at? v34 v36).bind fun b40 => cond ((v37 == b40.A) && ((v38 == b40.B) && true)) (some v36) ((Fslices_Index_Pair.l2 k2) v34 v35 (IntKind.i64.wrap (v36 + (1 : Int))) v37 v38)) (some (-1 : Int))
def Fslices_Index_Pair (k : Nat) (a0 : List Timpl_Pair) (a1 : Timpl_Pair) : Option Int := Fslices_Index_Pair.l2 k a0 (a0.length : Int) (0 : Int) a1.A a1.B
theorem ent283 : Enters Try.prog 283 := ⟨Try.f283, Try.func283, rfl, by decide⟩
set_option maxHeartbeats 8000000 in
set_option maxRecDepth 100000 in
theorem Fslices_Index_Pair_gives (k : Nat) (g0 : Bool) (a0 : List Timpl_Pair) (a1 : Timpl_Pair) (r : Int) (H : Fslices_Index_Pair k a0 a1 = some r) : Gives Try.prog 283 [V.one (Cell.sl g0 (List.map eTimpl_Pair a0)), V.agg [cI a1.A, cI a1.B]] [] [V.one (cI r)] [] := by
  refine Gives.intro Try.func283 rfl rfl rfl rfl ?_
  intro F hF hm
  unfold Fslices_Index_Pair at H
  obtain ⟨K, hK⟩ : ∃ K, k ≤ K := ⟨k, Nat.le_refl k⟩
  refine WpC.seq ?_
  refine WpC.regionL ?_
  refine L.box 3 hF rfl rfl rfl rfl ?_
  refine L.assign hF rfl rfl rfl ?_
  refine L.nil ?_
  refine WpC.seq ?_
  refine WpC.seq ?_
  refine WpC.regionL ?_
  refine L.move hF rfl rfl rfl ?_
  refine L.lenR (xs := a0) (e := eTimpl_Pair) Try.underlying88 hF rfl rfl rfl rfl ?_
  refine L.move hF rfl rfl rfl ?_
  refine L.nil ?_
  refine WpC.block ?_
  refine WpC.loopL (P := Try.prog) (fun n σ => ∃ v34 : List Timpl_Pair, ∃ v35 : Int, ∃ v36 : Int, ∃ v37 : Int, ∃ v38 : Int, n ≤ K ∧ Fslices_Index_Pair.l2 n v34 v35 v36 v37 v38 = some r ∧ σ = mkSt [(0, one (Cell.sl g0 (List.map eTimpl_Pair v34))), (3, one (Cell.ptr 0 0)), (7, one (cI v35)), (8, one (cI v36))] [] [(0, [cI v37, cI v38])] 1) k ⟨_, ⟨a0, (a0.length : Int), (0 : Int), a1.A, a1.B, by omega, H, rfl⟩, Le.mk [(0, 3)] hm rfl ⟨⟨_, rfl, rfl⟩, ⟨_, rfl, rfl⟩, ⟨_, rfl, rfl⟩, ⟨_, rfl, rfl⟩, trivial⟩ trivial ⟨⟨_, _, rfl, rfl, rfl⟩, trivial⟩⟩ ?_
  clear H
  rintro k2 _ ⟨v34, v35, v36, v37, v38, hk2, H, rfl⟩
  cases k2 with
  | zero => cases H
  | succ k2 =>
    rw [Fslices_Index_Pair.l2] at H
    refine WpC.seq ?_
    refine WpC.regionL ?_
    refine L.bin hF rfl rfl rfl rfl rfl rfl ?_
    refine L.nil ?_
    refine WpC.seq ?_
    refine WpC.cond rfl (fun hc => ?_) (fun hc => ?_)
    · replace H := condT hc H
      refine WpC.skip ?_
      refine WpC.seq ?_
      refine WpC.block ?_
      refine WpC.seq ?_
      refine WpC.regionL ?_
      refine L.move hF rfl rfl rfl ?_
      refine L.assign hF rfl rfl rfl ?_
      refine L.nil ?_
      refine WpC.seq ?_
      refine S.begin mixed (by kernel_rfl) ?_
      refine S.st 0 rfl rfl (Qu.load) (fun Q0 k0 => L.loadPtr shape256 hF rfl rfl rfl rfl rfl rfl (L.nil k0)) ?_
      refine S.st 1 rfl rfl ((Ca.move).quiet) (fun Q0 k0 => L.move hF rfl rfl rfl (L.nil k0)) ?_
      refine S.st 2 rfl rfl ((Ca.move).quiet) (fun Q0 k0 => L.move hF rfl rfl rfl (L.nil k0)) ?_
      obtain ⟨b40, hb40, H⟩ := bindS H
      refine S.st 3 rfl rfl ((Ca.indexAddr).quiet) (fun Q0 k0 => L.idxR (xs := v34) (e := eTimpl_Pair) Try.underlying88 info256 hF rfl rfl rfl rfl rfl hb40 rfl rfl (L.nil k0)) ?_
      refine S.st 4 rfl rfl (Qu.load) (fun Q0 k0 => L.loadPe shape256 hF rfl rfl rfl rfl rfl (L.nil k0)) ?_
      refine S.st 5 rfl rfl ((Ca.eqA (r := ((v37 == b40.A) && ((v38 == b40.B) && true))) rfl rfl rfl rfl (by kernel_rfl) (by kernel_rfl)).quiet) (fun Q0 k0 => L.eqA (r := ((v37 == b40.A) && ((v38 == b40.B) && true))) hF rfl rfl rfl rfl rfl rfl (by kernel_rfl) (by kernel_rfl) (L.nil k0)) ?_
      refine S.nil ?_
      refine WpC.cond rfl (fun hc => ?_) (fun hc => ?_)
      · replace H := condT hc H
        refine WpC.seq ?_
        refine WpC.regionL ?_
        refine L.move hF rfl rfl rfl ?_
        refine L.assign hF rfl rfl rfl ?_
        refine L.nil ?_
        refine WpC.ret ?_
        cases H
        exact Leaves.ret rfl rfl rfl ⟨rfl, rfl⟩
      · replace H := condF hc H
        refine WpC.skip ?_
        refine WpC.regionL ?_
        refine L.bin hF rfl rfl rfl rfl rfl rfl ?_
        refine L.move hF rfl rfl rfl ?_
        refine L.nil ?_
        exact ⟨k2, _, by omega, ⟨v34, v35, (IntKind.i64.wrap (v36 + (1 : Int))), v37, v38, by omega, H, rfl⟩, Le.mk [(0, 0)] hm rfl ⟨⟨_, rfl, rfl⟩, ⟨_, rfl, rfl⟩, ⟨_, rfl, rfl⟩, ⟨_, rfl, rfl⟩, trivial⟩ trivial ⟨⟨_, _, rfl, rfl, rfl⟩, trivial⟩⟩
    · replace H := condF hc H
      refine WpC.exit ?_
      refine WpC.seq ?_
      refine WpC.regionL ?_
      refine L.assign hF rfl rfl rfl ?_
      refine L.nil ?_
      refine WpC.ret ?_
      cases H
      exact Leaves.ret rfl rfl rfl ⟨rfl, rfl⟩
/-! ### Fslices_Contains_Pair -/
def Fslices_Contains_Pair (k : Nat) (a0 : List Timpl_Pair) (a1 : Timpl_Pair) : Option Bool := (Fslices_Index_Pair k a0 a1).bind fun r1 => some (decide (r1 ≥ (0 : Int)))
theorem ent252 : Enters Try.prog 252 := ⟨Try.f252, Try.func252, rfl, by decide⟩
set_option maxHeartbeats 8000000 in
set_option maxRecDepth 100000 in
theorem Fslices_Contains_Pair_gives (k : Nat) (g0 : Bool) (a0 : List Timpl_Pair) (a1 : Timpl_Pair) (r : Bool) (H : Fslices_Contains_Pair k a0 a1 = some r) : Gives Try.prog 252 [V.one (Cell.sl g0 (List.map eTimpl_Pair a0)), V.agg [cI a1.A, cI a1.B]] [] [V.one (cL r)] [] := by
  refine Gives.intro Try.func252 rfl rfl rfl rfl ?_
  intro F hF hm
  unfold Fslices_Contains_Pair at H
  obtain ⟨K, hK⟩ : ∃ K, k ≤ K := ⟨k, Nat.le_refl k⟩
  refine WpC.seq ?_
  refine WpC.regionL ?_
  refine L.box 3 hF rfl rfl rfl rfl ?_
  refine L.assign hF rfl rfl rfl ?_
  refine L.nil ?_
  refine WpC.seq ?_
  refine WpC.regionL ?_
  refine L.move hF rfl rfl rfl ?_
  refine L.loadPtr shape256 hF rfl rfl rfl rfl rfl rfl ?_
  obtain ⟨r1, hr1, H⟩ := bindS H
  refine L.call [false, false] [] [] 4 hF rfl rfl rfl ent283 rfl rfl rfl rfl rfl (Fslices_Index_Pair_gives k g0 a0 a1 r1 hr1) rfl ?_
  refine L.bin hF rfl rfl rfl rfl rfl rfl ?_
  refine L.assign hF rfl rfl rfl ?_
  refine L.nil ?_
  refine WpC.ret ?_
  cases H
  exact Leaves.ret rfl rfl rfl ⟨rfl, rfl⟩
/-! ### Fimpl_arePairs__impl_ConfigOk_1 -/
def Fimpl_arePairs__impl_ConfigOk_1.l2 : Nat → (List Timpl_Pair) → Int → Int → Option Bool
  | 0, _, _, _ => none
  | k2 + 1, v84, v85, v86 => cond (decide (v86 < v85)) ((at? v84 v86).bind fun b94 => (Fimpl_ConfigOk_1 k2 b94).bind fun r98 => cond (!r98) (some false) ((part? v84 (0 : Int) v86).bind fun b100 => (Fslices_Contains_Pair k2 b100 b94).bind fun r101 => cond r101 (some false) ((Fimpl_arePairs__impl_ConfigOk_1.l2 k2) v84 v85 (IntKind.i64.wrap (v86 + (1 : Int)))))) (some (decide ((v84.length : Int) ≤ (6 : Int))))
def Fimpl_arePairs__impl_ConfigOk_1 (k : Nat) (a0 : List Timpl_Pair) : Option Bool := Fimpl_arePairs__impl_ConfigOk_1.l2 k a0 (a0.length : Int) (0 : Int)
theorem ent246 : Enters Try.prog 246 := ⟨Try.f246, Try.func246, rfl, by decide⟩
set_option maxHeartbeats 8000000 in
set_option maxRecDepth 100000 in
theorem Fimpl_arePairs__impl_ConfigOk_1_gives (k : Nat) (g0 : Bool) (a0 : List Timpl_Pair) (r : Bool) (H : Fimpl_arePairs__impl_ConfigOk_1 k a0 = some r) : Gives Try.prog 246 [V.one (Cell.sl g0 (List.map eTimpl_Pair a0)), V.one (Cell.clo 247 [])] [] [V.one (cL r)] [] := by
  refine Gives.intro Try.func246 rfl rfl rfl rfl ?_
  intro F hF hm
  unfold Fimpl_arePairs__impl_ConfigOk_1 at H
  obtain ⟨K, hK⟩ : ∃ K, k ≤ K := ⟨k, Nat.le_refl k⟩
  refine WpC.seq ?_
  refine WpC.regionL ?_
  refine L.assign hF rfl rfl rfl ?_
  refine L.nil ?_
  refine WpC.seq ?_
  refine WpC.seq ?_
  refine WpC.regionL ?_
  refine L.move hF rfl rfl rfl ?_
  refine L.lenR (xs := a0) (e := eTimpl_Pair) Try.underlying88 hF rfl rfl rfl rfl ?_
  refine L.move hF rfl rfl rfl ?_
  refine L.nil ?_
  refine WpC.block ?_
  refine WpC.loopL (P := Try.prog) (fun n σ => ∃ v84 : List Timpl_Pair, ∃ v85 : Int, ∃ v86 : Int, n ≤ K ∧ Fimpl_arePairs__impl_ConfigOk_1.l2 n v84 v85 v86 = some r ∧ σ = mkSt [(0, one (Cell.sl g0 (List.map eTimpl_Pair v84))), (1, one (Cell.clo 247 [])), (7, one (Cell.sl g0 (List.map eTimpl_Pair v84))), (8, one (cI v85)), (9, one (cI v86))] [] [] 0) k ⟨_, ⟨a0, (a0.length : Int), (0 : Int), by omega, H, rfl⟩, Le.mk [] hm rfl ⟨⟨_, rfl, rfl⟩, ⟨_, rfl, rfl⟩, ⟨_, rfl, rfl⟩, ⟨_, rfl, rfl⟩, ⟨_, rfl, rfl⟩, trivial⟩ trivial trivial⟩ ?_
  clear H
  rintro k2 _ ⟨v84, v85, v86, hk2, H, rfl⟩
  cases k2 with
  | zero => cases H
  | succ k2 =>
    rw [Fimpl_arePairs__impl_ConfigOk_1.l2] at H
    refine WpC.seq ?_
    refine WpC.regionL ?_
    refine L.bin hF rfl rfl rfl rfl rfl rfl ?_
    refine L.nil ?_
    refine WpC.seq ?_
    refine WpC.cond rfl (fun hc => ?_) (fun hc => ?_)
    · replace H := condT hc H
      refine WpC.skip ?_
      refine WpC.seq ?_
      refine WpC.block ?_
      refine WpC.seq ?_
      refine WpC.regionL ?_
      refine L.move hF rfl rfl rfl ?_
      obtain ⟨b94, hb94, H⟩ := bindS H
      refine L.idxR (xs := v84) (e := eTimpl_Pair) Try.underlying88 info256 hF rfl rfl rfl rfl rfl hb94 rfl rfl ?_
      refine L.loadPe shape256 hF rfl rfl rfl rfl rfl ?_
      refine L.alloc 0 info256 rfl hF rfl rfl rfl rfl ?_
      refine L.assign hF rfl rfl rfl ?_
      refine L.storePtr shape256 hF rfl rfl rfl rfl rfl rfl rfl ?_
      refine L.nil ?_
      refine WpC.seq ?_
      obtain ⟨r98, hr98, H⟩ := bindS H
      rcases Bool.eq_false_or_eq_true ((!r98)) with hc99 | hc99
      · replace H := condT hc99 H
        refine A.begin mixed rfl rfl ?_
        intro W hI hO
        refine hI _ _ _ ?_
        refine A.take 0 rfl (by kernel_rfl) (by kernel_rfl) (by kernel_rfl) rfl (Ca.move) (fun Q0 k0 => L.move hF rfl rfl rfl (L.nil k0)) ?_
        refine A.all [1] (by kernel_rfl) rfl ⟨⟨_, rfl, ?_⟩, trivial⟩
        refine L.loadPtr shape256 hF rfl rfl rfl rfl rfl rfl ?_
        refine L.nil ?_
        refine A.all [2] (by kernel_rfl) rfl ⟨⟨_, rfl, ?_⟩, trivial⟩
        refine L.call [false] [] [] 1 hF rfl rfl rfl ent247 rfl rfl rfl rfl rfl (Fimpl_ConfigOk_1_gives k2  b94 r98 hr98) rfl ?_
        refine L.nil ?_
        refine A.take 3 rfl (by kernel_rfl) (by kernel_rfl) (by kernel_rfl) rfl (Ca.un rfl rfl) (fun Q0 k0 => L.not hF rfl rfl rfl (L.nil k0)) ?_
        refine A.take 4 rfl (by kernel_rfl) (by kernel_rfl) (by kernel_rfl) rfl (Ca.move) (fun Q0 k0 => L.move hF rfl rfl rfl (L.nil k0)) ?_
        refine A.le (τ := mkSt [(0, one (Cell.sl g0 (List.map eTimpl_Pair v84))), (1, one (Cell.clo 247 [])), (5, one (cI v86)), (6, one (Cell.ptr 0 0)), (7, one (Cell.sl g0 (List.map eTimpl_Pair v84))), (8, one (cI v85)), (9, one (cI v86)), (18, one (cL true))] [] [(0, [cI b94.A, cI b94.B])] 1) (Le.mk [(0, 0)] hm rfl ⟨⟨_, rfl, rfl⟩, ⟨_, rfl, rfl⟩, ⟨_, rfl, rfl⟩, ⟨_, rfl, rfl⟩, ⟨_, rfl, rfl⟩, ⟨_, rfl, rfl⟩, ⟨_, rfl, rfl⟩, ⟨_, rfl, congrArg (fun b => some (one (cL b))) hc99⟩, trivial⟩ trivial ⟨⟨_, _, rfl, rfl, rfl⟩, trivial⟩) ?_
        refine A.off 5 rfl (by kernel_rfl) (by kernel_rfl) (by kernel_rfl) rfl hF rfl rfl ?_
        refine A.off 6 rfl (by kernel_rfl) (by kernel_rfl) (by kernel_rfl) rfl hF rfl rfl ?_
        refine A.off 7 rfl (by kernel_rfl) (by kernel_rfl) (by kernel_rfl) rfl hF rfl rfl ?_
        refine A.off 8 rfl (by kernel_rfl) (by kernel_rfl) (by kernel_rfl) rfl hF rfl rfl ?_
        refine A.all [9] (by kernel_rfl) rfl ⟨⟨_, rfl, ?_⟩, trivial⟩
        refine L.off hF rfl rfl ?_
        refine L.nil ?_
        refine A.take 10 rfl (by kernel_rfl) (by kernel_rfl) (by kernel_rfl) rfl (Ca.pick) (fun Q0 k0 => L.pick hF rfl rfl rfl rfl (L.nil k0)) ?_
        refine A.le (τ := mkSt [(0, one (Cell.sl g0 (List.map eTimpl_Pair v84))), (1, one (Cell.clo 247 [])), (7, one (Cell.sl g0 (List.map eTimpl_Pair v84))), (8, one (cI v85)), (9, one (cI v86)), (19, Slot.tup []), (20, Slot.tup []), (21, Slot.tup []), (22, Slot.tup []), (23, Slot.tup []), (24, one (cL true))] [] [] 0) (Le.mk [] hm rfl ⟨⟨_, rfl, rfl⟩, ⟨_, rfl, rfl⟩, ⟨_, rfl, rfl⟩, ⟨_, rfl, rfl⟩, ⟨_, rfl, rfl⟩, ⟨_, rfl, rfl⟩, ⟨_, rfl, rfl⟩, ⟨_, rfl, rfl⟩, ⟨_, rfl, rfl⟩, ⟨_, rfl, rfl⟩, ⟨_, rfl, rfl⟩, trivial⟩ trivial trivial) ?_
        refine A.done (by kernel_rfl) ?_
        refine WpC.cond rfl (fun _ => ?_) (fun hc => by cases hc)
        refine WpC.seq ?_
        refine WpC.regionL ?_
        refine L.assign hF rfl rfl rfl ?_
        refine L.nil ?_
        refine WpC.ret ?_
        cases H
        exact Leaves.ret rfl rfl rfl ⟨rfl, rfl⟩
      · replace H := condF hc99 H
        obtain ⟨b100, hb100, H⟩ := bindS H
        obtain ⟨r101, hr101, H⟩ := bindS H
        refine A.begin mixed rfl rfl ?_
        intro W hI hO
        refine hI _ _ _ ?_
        refine A.take 0 rfl (by kernel_rfl) (by kernel_rfl) (by kernel_rfl) rfl (Ca.move) (fun Q0 k0 => L.move hF rfl rfl rfl (L.nil k0)) ?_
        refine A.all [1] (by kernel_rfl) rfl ⟨⟨_, rfl, ?_⟩, trivial⟩
        refine L.loadPtr shape256 hF rfl rfl rfl rfl rfl rfl ?_
        refine L.nil ?_
        refine A.all [2] (by kernel_rfl) rfl ⟨⟨_, rfl, ?_⟩, trivial⟩
        refine L.call [false] [] [] 1 hF rfl rfl rfl ent247 rfl rfl rfl rfl rfl (Fimpl_ConfigOk_1_gives k2  b94 r98 hr98) rfl ?_
        refine L.nil ?_
        refine A.take 3 rfl (by kernel_rfl) (by kernel_rfl) (by kernel_rfl) rfl (Ca.un rfl rfl) (fun Q0 k0 => L.not hF rfl rfl rfl (L.nil k0)) ?_
        refine A.take 4 rfl (by kernel_rfl) (by kernel_rfl) (by kernel_rfl) rfl (Ca.move) (fun Q0 k0 => L.move hF rfl rfl rfl (L.nil k0)) ?_
        refine A.le (τ := mkSt [(0, one (Cell.sl g0 (List.map eTimpl_Pair v84))), (1, one (Cell.clo 247 [])), (5, one (cI v86)), (6, one (Cell.ptr 0 0)), (7, one (Cell.sl g0 (List.map eTimpl_Pair v84))), (8, one (cI v85)), (9, one (cI v86)), (18, one (cL false))] [] [(0, [cI b94.A, cI b94.B])] 1) (Le.mk [(0, 0)] hm rfl ⟨⟨_, rfl, rfl⟩, ⟨_, rfl, rfl⟩, ⟨_, rfl, rfl⟩, ⟨_, rfl, rfl⟩, ⟨_, rfl, rfl⟩, ⟨_, rfl, rfl⟩, ⟨_, rfl, rfl⟩, ⟨_, rfl, congrArg (fun b => some (one (cL b))) hc99⟩, trivial⟩ trivial ⟨⟨_, _, rfl, rfl, rfl⟩, trivial⟩) ?_
        refine A.take 5 rfl (by kernel_rfl) (by kernel_rfl) (by kernel_rfl) rfl (Ca.move) (fun Q0 k0 => L.move hF rfl rfl rfl (L.nil k0)) ?_
        refine A.take 6 rfl (by kernel_rfl) (by kernel_rfl) (by kernel_rfl) rfl (Ca.move) (fun Q0 k0 => L.move hF rfl rfl rfl (L.nil k0)) ?_
        refine A.take 7 rfl (by kernel_rfl) (by kernel_rfl) (by kernel_rfl) rfl (Ca.slice) (fun Q0 k0 => L.cutR (xs := v84) (ys := b100) (e := eTimpl_Pair) Try.underlying88 info256 hF rfl rfl rfl rfl rfl hb100 (fun _ => rfl) (L.nil k0)) ?_
        refine A.all [8] (by kernel_rfl) rfl ⟨⟨_, rfl, ?_⟩, trivial⟩
        refine L.loadPtr shape256 hF rfl rfl rfl rfl rfl rfl ?_
        refine L.nil ?_
        refine A.all [9] (by kernel_rfl) rfl ⟨⟨_, rfl, ?_⟩, trivial⟩
        refine L.call [false, false] [] [] 1 hF rfl rfl rfl ent252 rfl rfl rfl rfl rfl (Fslices_Contains_Pair_gives k2 g0 b100 b94 r101 hr101) rfl ?_
        refine L.nil ?_
        refine A.take 10 rfl (by kernel_rfl) (by kernel_rfl) (by kernel_rfl) rfl (Ca.pick) (fun Q0 k0 => L.pick hF rfl rfl rfl rfl (L.nil k0)) ?_
        refine A.le (τ := mkSt [(0, one (Cell.sl g0 (List.map eTimpl_Pair v84))), (1, one (Cell.clo 247 [])), (7, one (Cell.sl g0 (List.map eTimpl_Pair v84))), (8, one (cI v85)), (9, one (cI v86)), (19, one (Cell.sl g0 (List.map eTimpl_Pair v84))), (20, one (cI v86)), (21, one (Cell.sl g0 (List.map eTimpl_Pair b100))), (22, agg [cI b94.A, cI b94.B]), (23, one (cL r101)), (24, one (cL r101))] [] [] 0) (Le.mk [] hm rfl ⟨⟨_, rfl, rfl⟩, ⟨_, rfl, rfl⟩, ⟨_, rfl, rfl⟩, ⟨_, rfl, rfl⟩, ⟨_, rfl, rfl⟩, ⟨_, rfl, rfl⟩, ⟨_, rfl, rfl⟩, ⟨_, rfl, rfl⟩, ⟨_, rfl, rfl⟩, ⟨_, rfl, rfl⟩, ⟨_, rfl, rfl⟩, trivial⟩ trivial trivial) ?_
        refine A.done (by kernel_rfl) ?_
        refine WpC.cond rfl (fun hc => ?_) (fun hc => ?_)
        · replace H := condT hc H
          refine WpC.seq ?_
          refine WpC.regionL ?_
          refine L.assign hF rfl rfl rfl ?_
          refine L.nil ?_
          refine WpC.ret ?_
          cases H
          exact Leaves.ret rfl rfl rfl ⟨rfl, rfl⟩
        · replace H := condF hc H
          refine WpC.skip ?_
          refine WpC.regionL ?_
          refine L.bin hF rfl rfl rfl rfl rfl rfl ?_
          refine L.move hF rfl rfl rfl ?_
          refine L.nil ?_
          exact ⟨k2, _, by omega, ⟨v84, v85, (IntKind.i64.wrap (v86 + (1 : Int))), by omega, H, rfl⟩, Le.mk [] hm rfl ⟨⟨_, rfl, rfl⟩, ⟨_, rfl, rfl⟩, ⟨_, rfl, rfl⟩, ⟨_, rfl, rfl⟩, ⟨_, rfl, rfl⟩, trivial⟩ trivial trivial⟩
    · replace H := condF hc H
      refine WpC.exit ?_
      refine WpC.seq ?_
      refine WpC.regionL ?_
      refine L.move hF rfl rfl rfl ?_
      refine L.lenR (xs := v84) (e := eTimpl_Pair) Try.underlying88 hF rfl rfl rfl rfl ?_
      refine L.bin hF rfl rfl rfl rfl rfl rfl ?_
      refine L.assign hF rfl rfl rfl ?_
      refine L.nil ?_
      refine WpC.ret ?_
      cases H
      exact Leaves.ret rfl rfl rfl ⟨rfl, rfl⟩
/-! ### Fimpl_isService -/
def Fimpl_isService (k : Nat) (a0 : Int) : Option Bool := (Fimpl_within k a0 (0 : Int) (2 : Int)).bind fun r1 => some r1
theorem ent157 : Enters Try.prog 157 := ⟨Try.f157, Try.func157, rfl, by decide⟩
set_option maxHeartbeats 8000000 in
set_option maxRecDepth 100000 in
theorem Fimpl_isService_gives (k : Nat) (a0 : Int) (r : Bool) (H : Fimpl_isService k a0 = some r) : Gives Try.prog 157 [V.one (cI a0)] [] [V.one (cL r)] [] := by
  refine Gives.intro Try.func157 rfl rfl rfl rfl ?_
  intro F hF hm
  unfold Fimpl_isService at H
  obtain ⟨K, hK⟩ : ∃ K, k ≤ K := ⟨k, Nat.le_refl k⟩
  refine WpC.seq ?_
  refine WpC.regionL ?_
  refine L.assign hF rfl rfl rfl ?_
  refine L.nil ?_
  refine WpC.seq ?_
  refine WpC.regionL ?_
  refine L.move hF rfl rfl rfl ?_
  obtain ⟨r1, hr1, H⟩ := bindS H
  refine L.call [false, false, false] [] [] 1 hF rfl rfl rfl ent113 rfl rfl rfl rfl rfl (Fimpl_within_gives k  a0 (0 : Int) (2 : Int) r1 hr1) rfl ?_
  refine L.assign hF rfl rfl rfl ?_
  refine L.nil ?_
  refine WpC.ret ?_
  cases H
  exact Leaves.ret rfl rfl rfl ⟨rfl, rfl⟩
/-! ### Fimpl_ConfigOk_2 -/
def Fimpl_ConfigOk_2 (k : Nat) (a0 : Timpl_Pair) : Option Bool := (Fimpl_isService k a0.A).bind fun r3 => cond r3 ((Fimpl_isService k a0.B).bind fun r4 => some r4) (some false)
theorem ent248 : Enters Try.prog 248 := ⟨Try.f248, Try.func248, rfl, by decide⟩
set_option maxHeartbeats 8000000 in
set_option maxRecDepth 100000 in
theorem Fimpl_ConfigOk_2_gives (k : Nat) (a0 : Timpl_Pair) (r : Bool) (H : Fimpl_ConfigOk_2 k a0 = some r) : Gives Try.prog 248 [V.agg [cI a0.A, cI a0.B]] [] [V.one (cL r)] [] := by
  refine Gives.intro Try.func248 rfl rfl rfl rfl ?_
  intro F hF hm
  unfold Fimpl_ConfigOk_2 at H
  obtain ⟨K, hK⟩ : ∃ K, k ≤ K := ⟨k, Nat.le_refl k⟩
  refine WpC.seq ?_
  refine WpC.regionL ?_
  refine L.box 2 hF rfl rfl rfl rfl ?_
  refine L.assign hF rfl rfl rfl ?_
  refine L.nil ?_
  refine WpC.seq ?_
  refine WpC.regionL ?_
  refine L.fieldAddr Try.underlying256 rfl info3 rfl hF rfl rfl rfl rfl rfl ?_
  refine L.loadPtr shape3 hF rfl rfl rfl rfl rfl rfl ?_
  obtain ⟨r3, hr3, H⟩ := bindS H
  refine L.call [false] [] [] 3 hF rfl rfl rfl ent157 rfl rfl rfl rfl rfl (Fimpl_isService_gives k  a0.A r3 hr3) rfl ?_
  refine L.move hF rfl rfl rfl ?_
  refine L.split (fun hc => ?_) (fun hc => ?_)
  · replace H := condT hc H
    refine L.fieldAddr Try.underlying256 rfl info3 rfl hF rfl rfl rfl rfl rfl ?_
    refine L.loadPtr shape3 hF rfl rfl rfl rfl rfl rfl ?_
    obtain ⟨r4, hr4, H⟩ := bindS H
    refine L.call [false] [] [] 4 hF rfl rfl rfl ent157 rfl rfl rfl rfl rfl (Fimpl_isService_gives k  a0.B r4 hr4) rfl ?_
    refine L.pick hF rfl rfl rfl rfl ?_
    refine L.assign hF rfl rfl rfl ?_
    refine L.nil ?_
    refine WpC.ret ?_
    cases H
    exact Leaves.ret rfl rfl rfl ⟨rfl, rfl⟩
  · replace H := condF hc H
    refine L.off hF rfl rfl ?_
    refine L.off hF rfl rfl ?_
    refine L.off hF rfl rfl ?_
    refine L.pick hF rfl rfl rfl rfl ?_
    refine L.assign hF rfl rfl rfl ?_
    refine L.nil ?_
    refine WpC.ret ?_
    cases H
    exact Leaves.ret rfl rfl rfl ⟨rfl, rfl⟩
/-! ### Fimpl_arePairs__impl_ConfigOk_2 -/
def Fimpl_arePairs__impl_ConfigOk_2.l2 : Nat → (List Timpl_Pair) → Int → Int → Option Bool
  | 0, _, _, _ => none
  | k2 + 1, v84, v85, v86 => cond (decide (v86 < v85)) ((at? v84 v86).bind fun b94 => (Fimpl_ConfigOk_2 k2 b94).bind fun r98 => cond (!r98) (some false) ((part? v84 (0 : Int) v86).bind fun b100 => (Fslices_Contains_Pair k2 b100 b94).bind fun r101 => cond r101 (some false) ((Fimpl_arePairs__impl_ConfigOk_2.l2 k2) v84 v85 (IntKind.i64.wrap (v86 + (1 : Int)))))) (some (decide ((v84.length : Int) ≤ (6 : Int))))
def Fimpl_arePairs__impl_ConfigOk_2 (k : Nat) (a0 : List Timpl_Pair) : Option Bool := Fimpl_arePairs__impl_ConfigOk_2.l2 k a0 (a0.length : Int) (0 : Int)
set_option maxHeartbeats 8000000 in
set_option maxRecDepth 100000 in
theorem Fimpl_arePairs__impl_ConfigOk_2_gives (k : Nat) (g0 : Bool) (a0 : List Timpl_Pair) (r : Bool) (H : Fimpl_arePairs__impl_ConfigOk_2 k a0 = some r) : Gives Try.prog 246 [V.one (Cell.sl g0 (List.map eTimpl_Pair a0)), V.one (Cell.clo 248 [])] [] [V.one (cL r)] [] := by
  refine Gives.intro Try.func246 rfl rfl rfl rfl ?_
  intro F hF hm
  unfold Fimpl_arePairs__impl_ConfigOk_2 at H
  obtain ⟨K, hK⟩ : ∃ K, k ≤ K := ⟨k, Nat.le_refl k⟩
  refine WpC.seq ?_
  refine WpC.regionL ?_
  refine L.assign hF rfl rfl rfl ?_
  refine L.nil ?_
  refine WpC.seq ?_
  refine WpC.seq ?_
  refine WpC.regionL ?_
  refine L.move hF rfl rfl rfl ?_
  refine L.lenR (xs := a0) (e := eTimpl_Pair) Try.underlying88 hF rfl rfl rfl rfl ?_
  refine L.move hF rfl rfl rfl ?_
  refine L.nil ?_
  refine WpC.block ?_
  refine WpC.loopL (P := Try.prog) (fun n σ => ∃ v84 : List Timpl_Pair, ∃ v85 : Int, ∃ v86 : Int, n ≤ K ∧ Fimpl_arePairs__impl_ConfigOk_2.l2 n v84 v85 v86 = some r ∧ σ = mkSt [(0, one (Cell.sl g0 (List.map eTimpl_Pair v84))), (1, one (Cell.clo 248 [])), (7, one (Cell.sl g0 (List.map eTimpl_Pair v84))), (8, one (cI v85)), (9, one (cI v86))] [] [] 0) k ⟨_, ⟨a0, (a0.length : Int), (0 : Int), by omega, H, rfl⟩, Le.mk [] hm rfl ⟨⟨_, rfl, rfl⟩, ⟨_, rfl, rfl⟩, ⟨_, rfl, rfl⟩, ⟨_, rfl, rfl⟩, ⟨_, rfl, rfl⟩, trivial⟩ trivial trivial⟩ ?_
  clear H
  rintro k2 _ ⟨v84, v85, v86, hk2, H, rfl⟩
  cases k2 with
  | zero => cases H
  | succ k2 =>
    rw [Fimpl_arePairs__impl_ConfigOk_2.l2] at H
    refine WpC.seq ?_
    refine WpC.regionL ?_
    refine L.bin hF rfl rfl rfl rfl rfl rfl ?_
    refine L.nil ?_
    refine WpC.seq ?_
    refine WpC.cond rfl (fun hc => ?_) (fun hc => ?_)
    · replace H := condT hc H
      refine WpC.skip ?_
      refine WpC.seq ?_
      refine WpC.block ?_
      refine WpC.seq ?_
      refine WpC.regionL ?_
      refine L.move hF rfl rfl rfl ?_
      obtain ⟨b94, hb94, H⟩ := bindS H
      refine L.idxR (xs := v84) (e := eTimpl_Pair) Try.underlying88 info256 hF rfl rfl rfl rfl rfl hb94 rfl rfl ?_
      refine L.loadPe shape256 hF rfl rfl rfl rfl rfl ?_
      refine L.alloc 0 info256 rfl hF rfl rfl rfl rfl ?_
      refine L.assign hF rfl rfl rfl ?_
      refine L.storePtr shape256 hF rfl rfl rfl rfl rfl rfl rfl ?_
      refine L.nil ?_
      refine WpC.seq ?_
      obtain ⟨r98, hr98, H⟩ := bindS H
      rcases Bool.eq_false_or_eq_true ((!r98)) with hc99 | hc99
      · replace H := condT hc99 H
        refine A.begin mixed rfl rfl ?_
        intro W hI hO
        refine hI _ _ _ ?_
        refine A.take 0 rfl (by kernel_rfl) (by kernel_rfl) (by kernel_rfl) rfl (Ca.move) (fun Q0 k0 => L.move hF rfl rfl rfl (L.nil k0)) ?_
        refine A.all [1] (by kernel_rfl) rfl ⟨⟨_, rfl, ?_⟩, trivial⟩
        refine L.loadPtr shape256 hF rfl rfl rfl rfl rfl rfl ?_
        refine L.nil ?_
        refine A.all [2] (by kernel_rfl) rfl ⟨⟨_, rfl, ?_⟩, trivial⟩
        refine L.call [false] [] [] 1 hF rfl rfl rfl ent248 rfl rfl rfl rfl rfl (Fimpl_ConfigOk_2_gives k2  b94 r98 hr98) rfl ?_
        refine L.nil ?_
        refine A.take 3 rfl (by kernel_rfl) (by kernel_rfl) (by kernel_rfl) rfl (Ca.un rfl rfl) (fun Q0 k0 => L.not hF rfl rfl rfl (L.nil k0)) ?_
        refine A.take 4 rfl (by kernel_rfl) (by kernel_rfl) (by kernel_rfl) rfl (Ca.move) (fun Q0 k0 => L.move hF rfl rfl rfl (L.nil k0)) ?_
        refine A.le (τ := mkSt [(0, one (Cell.sl g0 (List.map eTimpl_Pair v84))), (1, one (Cell.clo 248 [])), (5, one (cI v86)), (6, one (Cell.ptr 0 0)), (7, one (Cell.sl g0 (List.map eTimpl_Pair v84))), (8, one (cI v85)), (9, one (cI v86)), (18, one (cL true))] [] [(0, [cI b94.A, cI b94.B])] 1) (Le.mk [(0, 0)] hm rfl ⟨⟨_, rfl, rfl⟩, ⟨_, rfl, rfl⟩, ⟨_, rfl, rfl⟩, ⟨_, rfl, rfl⟩, ⟨_, rfl, rfl⟩, ⟨_, rfl, rfl⟩, ⟨_, rfl, rfl⟩, ⟨_, rfl, congrArg (fun b => some (one (cL b))) hc99⟩, trivial⟩ trivial ⟨⟨_, _, rfl, rfl, rfl⟩, trivial⟩) ?_
        refine A.off 5 rfl (by kernel_rfl) (by kernel_rfl) (by kernel_rfl) rfl hF rfl rfl ?_
        refine A.off 6 rfl (by kernel_rfl) (by kernel_rfl) (by kernel_rfl) rfl hF rfl rfl ?_
        refine A.off 7 rfl (by kernel_rfl) (by kernel_rfl) (by kernel_rfl) rfl hF rfl rfl ?_
        refine A.off 8 rfl (by kernel_rfl) (by kernel_rfl) (by kernel_rfl) rfl hF rfl rfl ?_
        refine A.all [9] (by kernel_rfl) rfl ⟨⟨_, rfl, ?_⟩, trivial⟩
        refine L.off hF rfl rfl ?_
        refine L.nil ?_
        refine A.take 10 rfl (by kernel_rfl) (by kernel_rfl) (by kernel_rfl) rfl (Ca.pick) (fun Q0 k0 => L.pick hF rfl rfl rfl rfl (L.nil k0)) ?_
        refine A.le (τ := mkSt [(0, one (Cell.sl g0 (List.map eTimpl_Pair v84))), (1, one (Cell.clo 248 [])), (7, one (Cell.sl g0 (List.map eTimpl_Pair v84))), (8, one (cI v85)), (9, one (cI v86)), (19, Slot.tup []), (20, Slot.tup []), (21, Slot.tup []), (22, Slot.tup []), (23, Slot.tup []), (24, one (cL true))] [] [] 0) (Le.mk [] hm rfl ⟨⟨_, rfl, rfl⟩, ⟨_, rfl, rfl⟩, ⟨_, rfl, rfl⟩, ⟨_, rfl, rfl⟩, ⟨_, rfl, rfl⟩, ⟨_, rfl, rfl⟩, ⟨_, rfl, rfl⟩, ⟨_, rfl, rfl⟩, ⟨_, rfl, rfl⟩, ⟨_, rfl, rfl⟩, ⟨_, rfl, rfl⟩, trivial⟩ trivial trivial) ?_
        refine A.done (by kernel_rfl) ?_
        refine WpC.cond rfl (fun _ => ?_) (fun hc => by cases hc)
        refine WpC.seq ?_
        refine WpC.regionL ?_
        refine L.assign hF rfl rfl rfl ?_
        refine L.nil ?_
        refine WpC.ret ?_
        cases H
        exact Leaves.ret rfl rfl rfl ⟨rfl, rfl⟩
      · replace H := condF hc99 H
        obtain ⟨b100, hb100, H⟩ := bindS H
        obtain ⟨r101, hr101, H⟩ := bindS H
        refine A.begin mixed rfl rfl ?_
        intro W hI hO
        refine hI _ _ _ ?_
        refine A.take 0 rfl (by kernel_rfl) (by kernel_rfl) (by kernel_rfl) rfl (Ca.move) (fun Q0 k0 => L.move hF rfl rfl rfl (L.nil k0)) ?_
        refine A.all [1] (by kernel_rfl) rfl ⟨⟨_, rfl, ?_⟩, trivial⟩
        refine L.loadPtr shape256 hF rfl rfl rfl rfl rfl rfl ?_
        refine L.nil ?_
        refine A.all [2] (by kernel_rfl) rfl ⟨⟨_, rfl, ?_⟩, trivial⟩
        refine L.call [false] [] [] 1 hF rfl rfl rfl ent248 rfl rfl rfl rfl rfl (Fimpl_ConfigOk_2_gives k2  b94 r98 hr98) rfl ?_
        refine L.nil ?_
        refine A.take 3 rfl (by kernel_rfl) (by kernel_rfl) (by kernel_rfl) rfl (Ca.un rfl rfl) (fun Q0 k0 => L.not hF rfl rfl rfl (L.nil k0)) ?_
        refine A.take 4 rfl (by kernel_rfl) (by kernel_rfl) (by kernel_rfl) rfl (Ca.move) (fun Q0 k0 => L.move hF rfl rfl rfl (L.nil k0)) ?_
        refine A.le (τ := mkSt [(0, one (Cell.sl g0 (List.map eTimpl_Pair v84))), (1, one (Cell.clo 248 [])), (5, one (cI v86)), (6, one (Cell.ptr 0 0)), (7, one (Cell.sl g0 (List.map eTimpl_Pair v84))), (8, one (cI v85)), (9, one (cI v86)), (18, one (cL false))] [] [(0, [cI b94.A, cI b94.B])] 1) (Le.mk [(0, 0)] hm rfl ⟨⟨_, rfl, rfl⟩, ⟨_, rfl, rfl⟩, ⟨_, rfl, rfl⟩, ⟨_, rfl, rfl⟩, ⟨_, rfl, rfl⟩, ⟨_, rfl, rfl⟩, ⟨_, rfl, rfl⟩, ⟨_, rfl, congrArg (fun b => some (one (cL b))) hc99⟩, trivial⟩ trivial ⟨⟨_, _, rfl, rfl, rfl⟩, trivial⟩) ?_
        refine A.take 5 rfl (by kernel_rfl) (by kernel_rfl) (by kernel_rfl) rfl (Ca.move) (fun Q0 k0 => L.move hF rfl rfl rfl (L.nil k0)) ?_
        refine A.take 6 rfl (by kernel_rfl) (by kernel_rfl) (by kernel_rfl) rfl (Ca.move) (fun Q0 k0 => L.move hF rfl rfl rfl (L.nil k0)) ?_
        refine A.take 7 rfl (by kernel_rfl) (by kernel_rfl) (by kernel_rfl) rfl (Ca.slice) (fun Q0 k0 => L.cutR (xs := v84) (ys := b100) (e := eTimpl_Pair) Try.underlying88 info256 hF rfl rfl rfl rfl rfl hb100 (fun _ => rfl) (L.nil k0)) ?_
        refine A.all [8] (by kernel_rfl) rfl ⟨⟨_, rfl, ?_⟩, trivial⟩
        refine L.loadPtr shape256 hF rfl rfl rfl rfl rfl rfl ?_
        refine L.nil ?_
        refine A.all [9] (by kernel_rfl) rfl ⟨⟨_, rfl, ?_⟩, trivial⟩
        refine L.call [false, false] [] [] 1 hF rfl rfl rfl ent252 rfl rfl rfl rfl rfl (Fslices_Contains_Pair_gives k2 g0 b100 b94 r101 hr101) rfl ?_
        refine L.nil ?_
        refine A.take 10 rfl (by kernel_rfl) (by kernel_rfl) (by kernel_rfl) rfl (Ca.pick) (fun Q0 k0 => L.pick hF rfl rfl rfl rfl (L.nil k0)) ?_
        refine A.le (τ := mkSt [(0, one (Cell.sl g0 (List.map eTimpl_Pair v84))), (1, one (Cell.clo 248 [])), (7, one (Cell.sl g0 (List.map eTimpl_Pair v84))), (8, one (cI v85)), (9, one (cI v86)), (19, one (Cell.sl g0 (List.map eTimpl_Pair v84))), (20, one (cI v86)), (21, one (Cell.sl g0 (List.map eTimpl_Pair b100))), (22, agg [cI b94.A, cI b94.B]), (23, one (cL r101)), (24, one (cL r101))] [] [] 0) (Le.mk [] hm rfl ⟨⟨_, rfl, rfl⟩, ⟨_, rfl, rfl⟩, ⟨_, rfl, rfl⟩, ⟨_, rfl, rfl⟩, ⟨_, rfl, rfl⟩, ⟨_, rfl, rfl⟩, ⟨_, rfl, rfl⟩, ⟨_, rfl, rfl⟩, ⟨_, rfl, rfl⟩, ⟨_, rfl, rfl⟩, ⟨_, rfl, rfl⟩, trivial⟩ trivial trivial) ?_
        refine A.done (by kernel_rfl) ?_
        refine WpC.cond rfl (fun hc => ?_) (fun hc => ?_)
        · replace H := condT hc H
          refine WpC.seq ?_
          refine WpC.regionL ?_
          refine L.assign hF rfl rfl rfl ?_
          refine L.nil ?_
          refine WpC.ret ?_
          cases H
          exact Leaves.ret rfl rfl rfl ⟨rfl, rfl⟩
        · replace H := condF hc H
          refine WpC.skip ?_
          refine WpC.regionL ?_
          refine L.bin hF rfl rfl rfl rfl rfl rfl ?_
          refine L.move hF rfl rfl rfl ?_
          refine L.nil ?_
          exact ⟨k2, _, by omega, ⟨v84, v85, (IntKind.i64.wrap (v86 + (1 : Int))), by omega, H, rfl⟩, Le.mk [] hm rfl ⟨⟨_, rfl, rfl⟩, ⟨_, rfl, rfl⟩, ⟨_, rfl, rfl⟩, ⟨_, rfl, rfl⟩, ⟨_, rfl, rfl⟩, trivial⟩ trivial trivial⟩
    · replace H := condF hc H
      refine WpC.exit ?_
      refine WpC.seq ?_
      refine WpC.regionL ?_
      refine L.move hF rfl rfl rfl ?_
      refine L.lenR (xs := v84) (e := eTimpl_Pair) Try.underlying88 hF rfl rfl rfl rfl ?_
      refine L.bin hF rfl rfl rfl rfl rfl rfl ?_
      refine L.assign hF rfl rfl rfl ?_
      refine L.nil ?_
      refine WpC.ret ?_
      cases H
      exact Leaves.ret rfl rfl rfl ⟨rfl, rfl⟩
/-! ### Fimpl_areAll__impl_isRealm -/
def Fimpl_areAll__impl_isRealm.l2 : Nat → (List Int) → Int → Int → Int → Option Bool
  | 0, _, _, _, _ => none
  | k2 + 1, v39, v40, v41, v42 => cond (decide (v42 < v41)) ((at? v39 v42).bind fun b45 => (Fimpl_isRealm k2 b45).bind fun r46 => cond (!r46) (some false) ((Fimpl_areAll__impl_isRealm.l2 k2) v39 v40 v41 (IntKind.i64.wrap (v42 + (1 : Int))))) (some (decide ((v39.length : Int) ≤ v40)))
def Fimpl_areAll__impl_isRealm (k : Nat) (a0 : List Int) (a1 : Int) : Option Bool := Fimpl_areAll__impl_isRealm.l2 k a0 a1 (a0.length : Int) (0 : Int)
theorem ent249 : Enters Try.prog 249 := ⟨Try.f249, Try.func249, rfl, by decide⟩
set_option maxHeartbeats 8000000 in
set_option maxRecDepth 100000 in
theorem Fimpl_areAll__impl_isRealm_gives (k : Nat) (g0 : Bool) (a0 : List Int) (a1 : Int) (r : Bool) (H : Fimpl_areAll__impl_isRealm k a0 a1 = some r) : Gives Try.prog 249 [V.one (Cell.sl g0 (List.map eI a0)), V.one (cI a1), V.one (Cell.clo 184 [])] [] [V.one (cL r)] [] := by
  refine Gives.intro Try.func249 rfl rfl rfl rfl ?_
  intro F hF hm
  unfold Fimpl_areAll__impl_isRealm at H
  obtain ⟨K, hK⟩ : ∃ K, k ≤ K := ⟨k, Nat.le_refl k⟩
  refine WpC.seq ?_
  refine WpC.regionL ?_
  refine L.assign hF rfl rfl rfl ?_
  refine L.nil ?_
  refine WpC.seq ?_
  refine WpC.seq ?_
  refine WpC.regionL ?_
  refine L.move hF rfl rfl rfl ?_
  refine L.lenR (xs := a0) (e := eI) Try.underlying24 hF rfl rfl rfl rfl ?_
  refine L.move hF rfl rfl rfl ?_
  refine L.nil ?_
  refine WpC.block ?_
  refine WpC.loopL (P := Try.prog) (fun n σ => ∃ v39 : List Int, ∃ v40 : Int, ∃ v41 : Int, ∃ v42 : Int, n ≤ K ∧ Fimpl_areAll__impl_isRealm.l2 n v39 v40 v41 v42 = some r ∧ σ = mkSt [(0, one (Cell.sl g0 (List.map eI v39))), (1, one (cI v40)), (2, one (Cell.clo 184 [])), (9, one (Cell.sl g0 (List.map eI v39))), (10, one (cI v41)), (11, one (cI v42))] [] [] 0) k ⟨_, ⟨a0, a1, (a0.length : Int), (0 : Int), by omega, H, rfl⟩, Le.mk [] hm rfl ⟨⟨_, rfl, rfl⟩, ⟨_, rfl, rfl⟩, ⟨_, rfl, rfl⟩, ⟨_, rfl, rfl⟩, ⟨_, rfl, rfl⟩, ⟨_, rfl, rfl⟩, trivial⟩ trivial trivial⟩ ?_
  clear H
  rintro k2 _ ⟨v39, v40, v41, v42, hk2, H, rfl⟩
  cases k2 with
  | zero => cases H
  | succ k2 =>
    rw [Fimpl_areAll__impl_isRealm.l2] at H
    refine WpC.seq ?_
    refine WpC.regionL ?_
    refine L.bin hF rfl rfl rfl rfl rfl rfl ?_
    refine L.nil ?_
    refine WpC.seq ?_
    refine WpC.cond rfl (fun hc => ?_) (fun hc => ?_)
    · replace H := condT hc H
      refine WpC.skip ?_
      refine WpC.seq ?_
      refine WpC.block ?_
      refine WpC.seq ?_
      refine WpC.regionL ?_
      obtain ⟨b45, hb45, H⟩ := bindS H
      refine L.idxR (xs := v39) (e := eI) Try.underlying24 info3 hF rfl rfl rfl rfl rfl hb45 rfl rfl ?_
      refine L.loadPe shape3 hF rfl rfl rfl rfl rfl ?_
      refine L.assign hF rfl rfl rfl ?_
      refine L.nil ?_
      refine WpC.seq ?_
      refine WpC.regionL ?_
      refine L.move hF rfl rfl rfl ?_
      refine L.move hF rfl rfl rfl ?_
      obtain ⟨r46, hr46, H⟩ := bindS H
      refine L.call [false] [] [] 0 hF rfl rfl rfl ent184 rfl rfl rfl rfl rfl (Fimpl_isRealm_gives k2  b45 r46 hr46) rfl ?_
      refine L.not hF rfl rfl rfl ?_
      refine L.nil ?_
      refine WpC.cond rfl (fun hc => ?_) (fun hc => ?_)
      · replace H := condT hc H
        refine WpC.seq ?_
        refine WpC.regionL ?_
        refine L.assign hF rfl rfl rfl ?_
        refine L.nil ?_
        refine WpC.ret ?_
        cases H
        exact Leaves.ret rfl rfl rfl ⟨rfl, rfl⟩
      · replace H := condF hc H
        refine WpC.skip ?_
        refine WpC.regionL ?_
        refine L.bin hF rfl rfl rfl rfl rfl rfl ?_
        refine L.move hF rfl rfl rfl ?_
        refine L.nil ?_
        exact ⟨k2, _, by omega, ⟨v39, v40, v41, (IntKind.i64.wrap (v42 + (1 : Int))), by omega, H, rfl⟩, Le.mk [] hm rfl ⟨⟨_, rfl, rfl⟩, ⟨_, rfl, rfl⟩, ⟨_, rfl, rfl⟩, ⟨_, rfl, rfl⟩, ⟨_, rfl, rfl⟩, ⟨_, rfl, rfl⟩, trivial⟩ trivial trivial⟩
    · replace H := condF hc H
      refine WpC.exit ?_
      refine WpC.seq ?_
      refine WpC.regionL ?_
      refine L.move hF rfl rfl rfl ?_
      refine L.lenR (xs := v39) (e := eI) Try.underlying24 hF rfl rfl rfl rfl ?_
      refine L.move hF rfl rfl rfl ?_
      refine L.bin hF rfl rfl rfl rfl rfl rfl ?_
      refine L.assign hF rfl rfl rfl ?_
      refine L.nil ?_
      refine WpC.ret ?_
      cases H
      exact Leaves.ret rfl rfl rfl ⟨rfl, rfl⟩
/-! ### Fimpl_ConfigOk -/
def Fimpl_ConfigOk (k : Nat) (a0 : Timpl_Config) : Option Bool := (Fimpl_arePairs__impl_ConfigOk_1 k a0.Links).bind fun r1 => (Fimpl_arePairs__impl_ConfigOk_2 k a0.Proxy).bind fun r2 => cond r1 (cond r2 (cond ((a0.UserRealm.length : Int) == (3 : Int)) ((Fimpl_areAll__impl_isRealm k a0.UserRealm (3 : Int)).bind fun r6 => cond r6 (cond ((a0.ServiceRealm.length : Int) == (3 : Int)) ((Fimpl_areAll__impl_isRealm k a0.ServiceRealm (3 : Int)).bind fun r7 => cond r7 ((Fimpl_within k a0.Skew (0 : Int) (20 : Int)).bind fun r8 => some r8) (some false)) (some false)) (some false)) (some false)) (some false)) (some false)
theorem ent156 : Enters Try.prog 156 := ⟨Try.f156, Try.func156, rfl, by decide⟩
set_option maxHeartbeats 8000000 in
set_option maxRecDepth 100000 in
theorem Fimpl_ConfigOk_gives (k : Nat) (g0 : Bool) (g1 : Bool) (g2 : Bool) (g3 : Bool) (a0 : Timpl_Config) (r : Bool) (H : Fimpl_ConfigOk k a0 = some r) : Gives Try.prog 156 [V.agg [Cell.sl g0 (List.map eI a0.UserRealm), Cell.sl g1 (List.map eI a0.ServiceRealm), Cell.sl g2 (List.map eTimpl_Pair a0.Links), Cell.sl g3 (List.map eTimpl_Pair a0.Proxy), cI a0.Skew]] [] [V.one (cL r)] [] := by
  refine Gives.intro Try.func156 rfl rfl rfl rfl ?_
  intro F hF hm
  unfold Fimpl_ConfigOk at H
  obtain ⟨K, hK⟩ : ∃ K, k ≤ K := ⟨k, Nat.le_refl k⟩
  refine WpC.seq ?_
  refine WpC.regionL ?_
  refine L.box 5 hF rfl rfl rfl rfl ?_
  refine L.assign hF rfl rfl rfl ?_
  refine L.nil ?_
  refine WpC.seq ?_
  refine WpC.regionL ?_
  refine L.fieldAddr Try.underlying90 rfl info88 rfl hF rfl rfl rfl rfl rfl ?_
  refine L.loadPtr shape88 hF rfl rfl rfl rfl rfl rfl ?_
  obtain ⟨r1, hr1, H⟩ := bindS H
  refine L.call [false, false] [] [] 6 hF rfl rfl rfl ent246 rfl rfl rfl rfl rfl (Fimpl_arePairs__impl_ConfigOk_1_gives k g2 a0.Links r1 hr1) rfl ?_
  refine L.assign hF rfl rfl rfl ?_
  refine L.nil ?_
  refine WpC.seq ?_
  refine WpC.regionL ?_
  refine L.fieldAddr Try.underlying90 rfl info88 rfl hF rfl rfl rfl rfl rfl ?_
  refine L.loadPtr shape88 hF rfl rfl rfl rfl rfl rfl ?_
  obtain ⟨r2, hr2, H⟩ := bindS H
  refine L.call [false, false] [] [] 7 hF rfl rfl rfl ent246 rfl rfl rfl rfl rfl (Fimpl_arePairs__impl_ConfigOk_2_gives k g3 a0.Proxy r2 hr2) rfl ?_
  refine L.assign hF rfl rfl rfl ?_
  refine L.nil ?_
  refine WpC.seq ?_
  refine WpC.regionL ?_
  refine L.move hF rfl rfl rfl ?_
  refine L.move hF rfl rfl rfl ?_
  refine L.split (fun hc => ?_) (fun hc => ?_)
  · replace H := condT hc H
    refine L.move hF rfl rfl rfl ?_
    refine L.pick hF rfl rfl rfl rfl ?_
    refine L.move hF rfl rfl rfl ?_
    refine L.split (fun hc => ?_) (fun hc => ?_)
    · replace H := condT hc H
      refine L.fieldAddr Try.underlying90 rfl info24 rfl hF rfl rfl rfl rfl rfl ?_
      refine L.loadPtr shape24 hF rfl rfl rfl rfl rfl rfl ?_
      refine L.lenR (xs := a0.UserRealm) (e := eI) Try.underlying24 hF rfl rfl rfl rfl ?_
      refine L.bin hF rfl rfl rfl rfl rfl rfl ?_
      refine L.pick hF rfl rfl rfl rfl ?_
      refine L.move hF rfl rfl rfl ?_
      refine L.split (fun hc => ?_) (fun hc => ?_)
      · replace H := condT hc H
        refine L.fieldAddr Try.underlying90 rfl info24 rfl hF rfl rfl rfl rfl rfl ?_
        refine L.loadPtr shape24 hF rfl rfl rfl rfl rfl rfl ?_
        obtain ⟨r6, hr6, H⟩ := bindS H
        refine L.call [false, false, false] [] [] 8 hF rfl rfl rfl ent249 rfl rfl rfl rfl rfl (Fimpl_areAll__impl_isRealm_gives k g0 a0.UserRealm (3 : Int) r6 hr6) rfl ?_
        refine L.pick hF rfl rfl rfl rfl ?_
        refine L.move hF rfl rfl rfl ?_
        refine L.split (fun hc => ?_) (fun hc => ?_)
        · replace H := condT hc H
          refine L.fieldAddr Try.underlying90 rfl info24 rfl hF rfl rfl rfl rfl rfl ?_
          refine L.loadPtr shape24 hF rfl rfl rfl rfl rfl rfl ?_
          refine L.lenR (xs := a0.ServiceRealm) (e := eI) Try.underlying24 hF rfl rfl rfl rfl ?_
          refine L.bin hF rfl rfl rfl rfl rfl rfl ?_
          refine L.pick hF rfl rfl rfl rfl ?_
          refine L.move hF rfl rfl rfl ?_
          refine L.split (fun hc => ?_) (fun hc => ?_)
          · replace H := condT hc H
            refine L.fieldAddr Try.underlying90 rfl info24 rfl hF rfl rfl rfl rfl rfl ?_
            refine L.loadPtr shape24 hF rfl rfl rfl rfl rfl rfl ?_
            obtain ⟨r7, hr7, H⟩ := bindS H
            refine L.call [false, false, false] [] [] 9 hF rfl rfl rfl ent249 rfl rfl rfl rfl rfl (Fimpl_areAll__impl_isRealm_gives k g1 a0.ServiceRealm (3 : Int) r7 hr7) rfl ?_
            refine L.pick hF rfl rfl rfl rfl ?_
            refine L.move hF rfl rfl rfl ?_
            refine L.split (fun hc => ?_) (fun hc => ?_)
            · replace H := condT hc H
              refine L.fieldAddr Try.underlying90 rfl info3 rfl hF rfl rfl rfl rfl rfl ?_
              refine L.loadPtr shape3 hF rfl rfl rfl rfl rfl rfl ?_
              obtain ⟨r8, hr8, H⟩ := bindS H
              refine L.call [false, false, false] [] [] 10 hF rfl rfl rfl ent113 rfl rfl rfl rfl rfl (Fimpl_within_gives k  a0.Skew (0 : Int) (20 : Int) r8 hr8) rfl ?_
              refine L.pick hF rfl rfl rfl rfl ?_
              refine L.assign hF rfl rfl rfl ?_
              refine L.nil ?_
              refine WpC.ret ?_
              cases H
              exact Leaves.ret rfl rfl rfl ⟨rfl, rfl⟩
            · replace H := condF hc H
              refine L.off hF rfl rfl ?_
              refine L.off hF rfl rfl ?_
              refine L.off hF rfl rfl ?_
              refine L.pick hF rfl rfl rfl rfl ?_
              refine L.assign hF rfl rfl rfl ?_
              refine L.nil ?_
              refine WpC.ret ?_
              cases H
              exact Leaves.ret rfl rfl rfl ⟨rfl, rfl⟩
          · replace H := condF hc H
            refine L.off hF rfl rfl ?_
            refine L.off hF rfl rfl ?_
            refine L.off hF rfl rfl ?_
            refine L.pick hF rfl rfl rfl rfl ?_
            refine L.move hF rfl rfl rfl ?_
            refine L.off hF rfl rfl ?_
            refine L.off hF rfl rfl ?_
            refine L.off hF rfl rfl ?_
            refine L.pick hF rfl rfl rfl rfl ?_
            refine L.assign hF rfl rfl rfl ?_
            refine L.nil ?_
            refine WpC.ret ?_
            cases H
            exact Leaves.ret rfl rfl rfl ⟨rfl, rfl⟩
        · replace H := condF hc H
          refine L.off hF rfl rfl ?_
          refine L.off hF rfl rfl ?_
          refine L.off hF rfl rfl ?_
          refine L.off hF rfl rfl ?_
          refine L.pick hF rfl rfl rfl rfl ?_
          refine L.move hF rfl rfl rfl ?_
          refine L.off hF rfl rfl ?_
          refine L.off hF rfl rfl ?_
          refine L.off hF rfl rfl ?_
          refine L.pick hF rfl rfl rfl rfl ?_
          refine L.move hF rfl rfl rfl ?_
          refine L.off hF rfl rfl ?_
          refine L.off hF rfl rfl ?_
          refine L.off hF rfl rfl ?_
          refine L.pick hF rfl rfl rfl rfl ?_
          refine L.assign hF rfl rfl rfl ?_
          refine L.nil ?_
          refine WpC.ret ?_
          cases H
          exact Leaves.ret rfl rfl rfl ⟨rfl, rfl⟩
      · replace H := condF hc H
        refine L.off hF rfl rfl ?_
        refine L.off hF rfl rfl ?_
        refine L.off hF rfl rfl ?_
        refine L.pick hF rfl rfl rfl rfl ?_
        refine L.move hF rfl rfl rfl ?_
        refine L.off hF rfl rfl ?_
        refine L.off hF rfl rfl ?_
        refine L.off hF rfl rfl ?_
        refine L.off hF rfl rfl ?_
        refine L.pick hF rfl rfl rfl rfl ?_
        refine L.move hF rfl rfl rfl ?_
        refine L.off hF rfl rfl ?_
        refine L.off hF rfl rfl ?_
        refine L.off hF rfl rfl ?_
        refine L.pick hF rfl rfl rfl rfl ?_
        refine L.move hF rfl rfl rfl ?_
        refine L.off hF rfl rfl ?_
        refine L.off hF rfl rfl ?_
        refine L.off hF rfl rfl ?_
        refine L.pick hF rfl rfl rfl rfl ?_
        refine L.assign hF rfl rfl rfl ?_
        refine L.nil ?_
        refine WpC.ret ?_
        cases H
        exact Leaves.ret rfl rfl rfl ⟨rfl, rfl⟩
    · replace H := condF hc H
      refine L.off hF rfl rfl ?_
      refine L.off hF rfl rfl ?_
      refine L.off hF rfl rfl ?_
      refine L.off hF rfl rfl ?_
      refine L.pick hF rfl rfl rfl rfl ?_
      refine L.move hF rfl rfl rfl ?_
      refine L.off hF rfl rfl ?_
      refine L.off hF rfl rfl ?_
      refine L.off hF rfl rfl ?_
      refine L.pick hF rfl rfl rfl rfl ?_
      refine L.move hF rfl rfl rfl ?_
      refine L.off hF rfl rfl ?_
      refine L.off hF rfl rfl ?_
      refine L.off hF rfl rfl ?_
      refine L.off hF rfl rfl ?_
      refine L.pick hF rfl rfl rfl rfl ?_
      refine L.move hF rfl rfl rfl ?_
      refine L.off hF rfl rfl ?_
      refine L.off hF rfl rfl ?_
      refine L.off hF rfl rfl ?_
      refine L.pick hF rfl rfl rfl rfl ?_
      refine L.move hF rfl rfl rfl ?_
      refine L.off hF rfl rfl ?_
      refine L.off hF rfl rfl ?_
      refine L.off hF rfl rfl ?_
      refine L.pick hF rfl rfl rfl rfl ?_
      refine L.assign hF rfl rfl rfl ?_
      refine L.nil ?_
      refine WpC.ret ?_
      cases H
      exact Leaves.ret rfl rfl rfl ⟨rfl, rfl⟩
  · replace H := condF hc H
    refine L.off hF rfl rfl ?_
    refine L.pick hF rfl rfl rfl rfl ?_
    refine L.move hF rfl rfl rfl ?_
    refine L.off hF rfl rfl ?_
    refine L.off hF rfl rfl ?_
    refine L.off hF rfl rfl ?_
    refine L.off hF rfl rfl ?_
    refine L.pick hF rfl rfl rfl rfl ?_
    refine L.move hF rfl rfl rfl ?_
    refine L.off hF rfl rfl ?_
    refine L.off hF rfl rfl ?_
    refine L.off hF rfl rfl ?_
    refine L.pick hF rfl rfl rfl rfl ?_
    refine L.move hF rfl rfl rfl ?_
    refine L.off hF rfl rfl ?_
    refine L.off hF rfl rfl ?_
    refine L.off hF rfl rfl ?_
    refine L.off hF rfl rfl ?_
    refine L.pick hF rfl rfl rfl rfl ?_
    refine L.move hF rfl rfl rfl ?_
    refine L.off hF rfl rfl ?_
    refine L.off hF rfl rfl ?_
    refine L.off hF rfl rfl ?_
    refine L.pick hF rfl rfl rfl rfl ?_
    refine L.move hF rfl rfl rfl ?_
    refine L.off hF rfl rfl ?_
    refine L.off hF rfl rfl ?_
    refine L.off hF rfl rfl ?_
    refine L.pick hF rfl rfl rfl rfl ?_
    refine L.assign hF rfl rfl rfl ?_
    refine L.nil ?_
    refine WpC.ret ?_
    cases H
    exact Leaves.ret rfl rfl rfl ⟨rfl, rfl⟩
/-! ### Fimpl_isPrincipal -/
def Fimpl_isPrincipal (k : Nat) (a0 : Int) : Option Bool := (Fimpl_within k a0 (0 : Int) (5 : Int)).bind fun r1 => some r1
theorem ent145 : Enters Try.prog 145 := ⟨Try.f145, Try.func145, rfl, by decide⟩
set_option maxHeartbeats 8000000 in
set_option maxRecDepth 100000 in
theorem Fimpl_isPrincipal_gives (k : Nat) (a0 : Int) (r : Bool) (H : Fimpl_isPrincipal k a0 = some r) : Gives Try.prog 145 [V.one (cI a0)] [] [V.one (cL r)] [] := by
  refine Gives.intro Try.func145 rfl rfl rfl rfl ?_
  intro F hF hm
  unfold Fimpl_isPrincipal at H
  obtain ⟨K, hK⟩ : ∃ K, k ≤ K := ⟨k, Nat.le_refl k⟩
  refine WpC.seq ?_
  refine WpC.regionL ?_
  refine L.assign hF rfl rfl rfl ?_
  refine L.nil ?_
  refine WpC.seq ?_
  refine WpC.regionL ?_
  refine L.move hF rfl rfl rfl ?_
  obtain ⟨r1, hr1, H⟩ := bindS H
  refine L.call [false, false, false] [] [] 1 hF rfl rfl rfl ent113 rfl rfl rfl rfl rfl (Fimpl_within_gives k  a0 (0 : Int) (5 : Int) r1 hr1) rfl ?_
  refine L.assign hF rfl rfl rfl ?_
  refine L.nil ?_
  refine WpC.ret ?_
  cases H
  exact Leaves.ret rfl rfl rfl ⟨rfl, rfl⟩
/-! ### Fimpl_isTime -/
def Fimpl_isTime (k : Nat) (a0 : Int) : Option Bool := (Fimpl_within k a0 (0 : Int) (100000 : Int)).bind fun r1 => some r1
theorem ent250 : Enters Try.prog 250 := ⟨Try.f250, Try.func250, rfl, by decide⟩
set_option maxHeartbeats 8000000 in
set_option maxRecDepth 100000 in
theorem Fimpl_isTime_gives (k : Nat) (a0 : Int) (r : Bool) (H : Fimpl_isTime k a0 = some r) : Gives Try.prog 250 [V.one (cI a0)] [] [V.one (cL r)] [] := by
  refine Gives.intro Try.func250 rfl rfl rfl rfl ?_
  intro F hF hm
  unfold Fimpl_isTime at H
  obtain ⟨K, hK⟩ : ∃ K, k ≤ K := ⟨k, Nat.le_refl k⟩
  refine WpC.seq ?_
  refine WpC.regionL ?_
  refine L.assign hF rfl rfl rfl ?_
  refine L.nil ?_
  refine WpC.seq ?_
  refine WpC.regionL ?_
  refine L.move hF rfl rfl rfl ?_
  obtain ⟨r1, hr1, H⟩ := bindS H
  refine L.call [false, false, false] [] [] 1 hF rfl rfl rfl ent113 rfl rfl rfl rfl rfl (Fimpl_within_gives k  a0 (0 : Int) (100000 : Int) r1 hr1) rfl ?_
  refine L.assign hF rfl rfl rfl ?_
  refine L.nil ?_
  refine WpC.ret ?_
  cases H
  exact Leaves.ret rfl rfl rfl ⟨rfl, rfl⟩
/-! ### Fimpl_RestOk -/
def Fimpl_RestOk (k : Nat) (a0 : Timpl_Rest) : Option Bool := (Fimpl_within k a0.Servers (0 : Int) (7 : Int)).bind fun r4 => cond r4 ((Fimpl_within k a0.Ops (0 : Int) (255 : Int)).bind fun r5 => cond r5 ((Fimpl_isTime k a0.End).bind fun r6 => some r6) (some false)) (some false)
theorem ent158 : Enters Try.prog 158 := ⟨Try.f158, Try.func158, rfl, by decide⟩
set_option maxHeartbeats 8000000 in
set_option maxRecDepth 100000 in
theorem Fimpl_RestOk_gives (k : Nat) (a0 : Timpl_Rest) (r : Bool) (H : Fimpl_RestOk k a0 = some r) : Gives Try.prog 158 [V.agg [cI a0.Servers, cI a0.Ops, cI a0.End]] [] [V.one (cL r)] [] := by
  refine Gives.intro Try.func158 rfl rfl rfl rfl ?_
  intro F hF hm
  unfold Fimpl_RestOk at H
  obtain ⟨K, hK⟩ : ∃ K, k ≤ K := ⟨k, Nat.le_refl k⟩
  refine WpC.seq ?_
  refine WpC.regionL ?_
  refine L.box 3 hF rfl rfl rfl rfl ?_
  refine L.assign hF rfl rfl rfl ?_
  refine L.nil ?_
  refine WpC.seq ?_
  refine WpC.regionL ?_
  refine L.fieldAddr Try.underlying74 rfl info3 rfl hF rfl rfl rfl rfl rfl ?_
  refine L.loadPtr shape3 hF rfl rfl rfl rfl rfl rfl ?_
  obtain ⟨r4, hr4, H⟩ := bindS H
  refine L.call [false, false, false] [] [] 4 hF rfl rfl rfl ent113 rfl rfl rfl rfl rfl (Fimpl_within_gives k  a0.Servers (0 : Int) (7 : Int) r4 hr4) rfl ?_
  refine L.move hF rfl rfl rfl ?_
  refine L.split (fun hc => ?_) (fun hc => ?_)
  · replace H := condT hc H
    refine L.fieldAddr Try.underlying74 rfl info3 rfl hF rfl rfl rfl rfl rfl ?_
    refine L.loadPtr shape3 hF rfl rfl rfl rfl rfl rfl ?_
    obtain ⟨r5, hr5, H⟩ := bindS H
    refine L.call [false, false, false] [] [] 5 hF rfl rfl rfl ent113 rfl rfl rfl rfl rfl (Fimpl_within_gives k  a0.Ops (0 : Int) (255 : Int) r5 hr5) rfl ?_
    refine L.pick hF rfl rfl rfl rfl ?_
    refine L.move hF rfl rfl rfl ?_
    refine L.split (fun hc => ?_) (fun hc => ?_)
    · replace H := condT hc H
      refine L.fieldAddr Try.underlying74 rfl info3 rfl hF rfl rfl rfl rfl rfl ?_
      refine L.loadPtr shape3 hF rfl rfl rfl rfl rfl rfl ?_
      obtain ⟨r6, hr6, H⟩ := bindS H
      refine L.call [false] [] [] 6 hF rfl rfl rfl ent250 rfl rfl rfl rfl rfl (Fimpl_isTime_gives k  a0.End r6 hr6) rfl ?_
      refine L.pick hF rfl rfl rfl rfl ?_
      refine L.assign hF rfl rfl rfl ?_
      refine L.nil ?_
      refine WpC.ret ?_
      cases H
      exact Leaves.ret rfl rfl rfl ⟨rfl, rfl⟩
    · replace H := condF hc H
      refine L.off hF rfl rfl ?_
      refine L.off hF rfl rfl ?_
      refine L.off hF rfl rfl ?_
      refine L.pick hF rfl rfl rfl rfl ?_
      refine L.assign hF rfl rfl rfl ?_
      refine L.nil ?_
      refine WpC.ret ?_
      cases H
      exact Leaves.ret rfl rfl rfl ⟨rfl, rfl⟩
  · replace H := condF hc H
    refine L.off hF rfl rfl ?_
    refine L.off hF rfl rfl ?_
    refine L.off hF rfl rfl ?_
    refine L.pick hF rfl rfl rfl rfl ?_
    refine L.move hF rfl rfl rfl ?_
    refine L.off hF rfl rfl ?_
    refine L.off hF rfl rfl ?_
    refine L.off hF rfl rfl ?_
    refine L.pick hF rfl rfl rfl rfl ?_
    refine L.assign hF rfl rfl rfl ?_
    refine L.nil ?_
    refine WpC.ret ?_
    cases H
    exact Leaves.ret rfl rfl rfl ⟨rfl, rfl⟩
/-! ### Fimpl_RealmOf -/
def Fimpl_RealmOf.j2 (k : Nat) (v15 : Int) (v16 : Bool) (v17 : List Int) (v18 : List Int) (v19 : List Timpl_Pair) (v20 : List Timpl_Pair) (v21 : Int) : Option Int := cond v16 (some (-1 : Int)) (cond (decide (v15 < (3 : Int))) ((at? v17 v15).bind fun b22 => some b22) ((at? v18 (IntKind.i64.wrap (v15 - (3 : Int)))).bind fun b23 => some b23))
def Fimpl_RealmOf (k : Nat) (a0 : Timpl_Config) (a1 : Int) : Option Int := (Fimpl_ConfigOk k a0).bind fun r24 => cond (!r24) (Fimpl_RealmOf.j2 k a1 true a0.UserRealm a0.ServiceRealm a0.Links a0.Proxy a0.Skew) ((Fimpl_isPrincipal k a1).bind fun r25 => Fimpl_RealmOf.j2 k a1 (!r25) a0.UserRealm a0.ServiceRealm a0.Links a0.Proxy a0.Skew)
theorem ent159 : Enters Try.prog 159 := ⟨Try.f159, Try.func159, rfl, by decide⟩
set_option maxHeartbeats 8000000 in
set_option maxRecDepth 100000 in
theorem Fimpl_RealmOf_gives (k : Nat) (g0 : Bool) (g1 : Bool) (g2 : Bool) (g3 : Bool) (a0 : Timpl_Config) (a1 : Int) (r : Int) (H : Fimpl_RealmOf k a0 a1 = some r) : Gives Try.prog 159 [V.agg [Cell.sl g0 (List.map eI a0.UserRealm), Cell.sl g1 (List.map eI a0.ServiceRealm), Cell.sl g2 (List.map eTimpl_Pair a0.Links), Cell.sl g3 (List.map eTimpl_Pair a0.Proxy), cI a0.Skew], V.one (cI a1)] [] [V.one (cI r)] [] := by
  refine Gives.intro Try.func159 rfl rfl rfl rfl ?_
  intro F hF hm
  unfold Fimpl_RealmOf at H
  obtain ⟨K, hK⟩ : ∃ K, k ≤ K := ⟨k, Nat.le_refl k⟩
  refine WpC.seq ?_
  refine WpC.regionL ?_
  refine L.box 6 hF rfl rfl rfl rfl ?_
  refine L.assign hF rfl rfl rfl ?_
  refine L.nil ?_
  refine WpC.seq ?_
  refine WpC.block ?_
  refine WpC.join (fun σ => ∃ kj2 : Nat, ∃ v15 : Int, ∃ v16 : Bool, ∃ v17 : List Int, ∃ v18 : List Int, ∃ v19 : List Timpl_Pair, ∃ v20 : List Timpl_Pair, ∃ v21 : Int, kj2 ≤ K ∧ Fimpl_RealmOf.j2 kj2 v15 v16 v17 v18 v19 v20 v21 = some r ∧ σ = mkSt [(1, one (cI v15)), (2, one (Cell.ptr 0 0)), (5, one (cL v16))] [] [(0, [Cell.sl g0 (List.map eI v17), Cell.sl g1 (List.map eI v18), Cell.sl g2 (List.map eTimpl_Pair v19), Cell.sl g3 (List.map eTimpl_Pair v20), cI v21])] 1) ?_ ?_
  · rintro _ ⟨kj2, v15, v16, v17, v18, v19, v20, v21, hkj2, H, rfl⟩
    unfold Fimpl_RealmOf.j2 at H
    refine WpC.cond rfl (fun hc => ?_) (fun hc => ?_)
    · replace H := condT hc H
      refine WpC.seq ?_
      refine WpC.regionL ?_
      refine L.assign hF rfl rfl rfl ?_
      refine L.nil ?_
      refine WpC.ret ?_
      cases H
      exact Leaves.ret rfl rfl rfl ⟨rfl, rfl⟩
    · replace H := condF hc H
      refine WpC.seq ?_
      refine WpC.regionL ?_
      refine L.move hF rfl rfl rfl ?_
      refine L.bin hF rfl rfl rfl rfl rfl rfl ?_
      refine L.assign hF rfl rfl rfl ?_
      refine L.nil ?_
      refine WpC.cond rfl (fun hc => ?_) (fun hc => ?_)
      · replace H := condT hc H
        refine WpC.seq ?_
        refine WpC.regionL ?_
        refine L.fieldAddr Try.underlying90 rfl info24 rfl hF rfl rfl rfl rfl rfl ?_
        refine L.loadPtr shape24 hF rfl rfl rfl rfl rfl rfl ?_
        refine L.move hF rfl rfl rfl ?_
        obtain ⟨b22, hb22, H⟩ := bindS H
        refine L.idxR (xs := v17) (e := eI) Try.underlying24 info3 hF rfl rfl rfl rfl rfl hb22 rfl rfl ?_
        refine L.loadPe shape3 hF rfl rfl rfl rfl rfl ?_
        refine L.assign hF rfl rfl rfl ?_
        refine L.nil ?_
        refine WpC.ret ?_
        cases H
        exact Leaves.ret rfl rfl rfl ⟨rfl, rfl⟩
      · replace H := condF hc H
        refine WpC.skip ?_
        refine WpC.seq ?_
        refine WpC.regionL ?_
        refine L.fieldAddr Try.underlying90 rfl info24 rfl hF rfl rfl rfl rfl rfl ?_
        refine L.loadPtr shape24 hF rfl rfl rfl rfl rfl rfl ?_
        refine L.move hF rfl rfl rfl ?_
        refine L.bin hF rfl rfl rfl rfl rfl rfl ?_
        obtain ⟨b23, hb23, H⟩ := bindS H
        refine L.idxR (xs := v18) (e := eI) Try.underlying24 info3 hF rfl rfl rfl rfl rfl hb23 rfl rfl ?_
        refine L.loadPe shape3 hF rfl rfl rfl rfl rfl ?_
        refine L.assign hF rfl rfl rfl ?_
        refine L.nil ?_
        refine WpC.ret ?_
        cases H
        exact Leaves.ret rfl rfl rfl ⟨rfl, rfl⟩
  · refine WpC.regionL ?_
    refine L.loadPtr shape90 hF rfl rfl rfl rfl rfl rfl ?_
    obtain ⟨r24, hr24, H⟩ := bindS H
    refine L.call [false] [] [] 7 hF rfl rfl rfl ent156 rfl rfl rfl rfl rfl (Fimpl_ConfigOk_gives k g0 g1 g2 g3 a0 r24 hr24) rfl ?_
    refine L.not hF rfl rfl rfl ?_
    refine L.move hF rfl rfl rfl ?_
    refine L.split (fun hc => ?_) (fun hc => ?_)
    · replace H := condT hc H
      refine L.off hF rfl rfl ?_
      refine L.off hF rfl rfl ?_
      refine L.off hF rfl rfl ?_
      refine L.pick hF rfl rfl rfl rfl ?_
      refine L.assign hF rfl rfl rfl ?_
      refine L.nil ?_
      exact ⟨_, ⟨k, a1, true, a0.UserRealm, a0.ServiceRealm, a0.Links, a0.Proxy, a0.Skew, by omega, H, rfl⟩, Le.mk [(0, 6)] hm rfl ⟨⟨_, rfl, rfl⟩, ⟨_, rfl, rfl⟩, ⟨_, rfl, rfl⟩, trivial⟩ trivial ⟨⟨_, _, rfl, rfl, rfl⟩, trivial⟩⟩
    · replace H := condF hc H
      refine L.move hF rfl rfl rfl ?_
      obtain ⟨r25, hr25, H⟩ := bindS H
      refine L.call [false] [] [] 8 hF rfl rfl rfl ent145 rfl rfl rfl rfl rfl (Fimpl_isPrincipal_gives k  a1 r25 hr25) rfl ?_
      refine L.not hF rfl rfl rfl ?_
      refine L.pick hF rfl rfl rfl rfl ?_
      refine L.assign hF rfl rfl rfl ?_
      refine L.nil ?_
      exact ⟨_, ⟨k, a1, (!r25), a0.UserRealm, a0.ServiceRealm, a0.Links, a0.Proxy, a0.Skew, by omega, H, rfl⟩, Le.mk [(0, 6)] hm rfl ⟨⟨_, rfl, rfl⟩, ⟨_, rfl, rfl⟩, ⟨_, rfl, rfl⟩, trivial⟩ trivial ⟨⟨_, _, rfl, rfl, rfl⟩, trivial⟩⟩
/-! ### Fimpl_far -/
def Fimpl_far.j19 (cl17 : Int → Int → Int → Int → (List Timpl_Pair) → Int → Int → (List Int) → (List Int) → (List Timpl_Pair) → Int → Option Int) (k : Nat) (v284 : Int) (v285 : Int) (v286 : Int) (v287 : Int) (v288 : List Timpl_Pair) (v289 : Int) (v290 : Int) (v291 : List Int) (v292 : List Int) (v293 : List Timpl_Pair) (v294 : Int) : Option Int := cl17 v284 v285 v286 v287 v288 v289 (IntKind.i64.wrap (v290 + (1 : Int))) v291 v292 v293 v294
def Fimpl_far.j20 (cREC : Timpl_Config → Int → Int → Int → Option Int) (cl17 : Int → Int → Int → Int → (List Timpl_Pair) → Int → Int → (List Int) → (List Int) → (List Timpl_Pair) → Int → Option Int) (k : Nat) (v296 : Int) (v297 : Int) (v298 : Int) (v299 : Int) (v300 : List Timpl_Pair) (v301 : Int) (v302 : Int) (v303 : Bool) (v304 : List Int) (v305 : List Int) (v306 : List Timpl_Pair) (v307 : Int) (v308 : Int) (v309 : Int) : Option Int := cond v303 ((cREC (⟨v304, v305, v300, v306, v307⟩ : Timpl_Config) v309 v297 (IntKind.i64.wrap (v298 - (1 : Int)))).bind fun r310 => Fimpl_far.j19 cl17 k v296 v297 v298 (if (IntKind.i64.wrap ((1 : Int) + r310)) < v299 then (IntKind.i64.wrap ((1 : Int) + r310)) else v299) v300 v301 v302 v304 v305 v306 v307) (Fimpl_far.j19 cl17 k v296 v297 v298 v299 v300 v301 v302 v304 v305 v306 v307)
def Fimpl_far.l17 (cREC : Timpl_Config → Int → Int → Int → Option Int) : Nat → Int → Int → Int → Int → (List Timpl_Pair) → Int → Int → (List Int) → (List Int) → (List Timpl_Pair) → Int → Option Int
  | 0, _, _, _, _, _, _, _, _, _, _, _ => none
  | k17 + 1, v257, v258, v259, v260, v261, v262, v263, v264, v265, v266, v267 => cond (decide (v263 < v262)) ((at? v261 v263).bind fun b295 => cond (b295.A == v257) (Fimpl_far.j20 cREC (Fimpl_far.l17 cREC k17) k17 v257 v258 v259 v260 v261 v262 v263 (decide (v259 > (0 : Int))) v264 v265 v266 v267 b295.A b295.B) (Fimpl_far.j20 cREC (Fimpl_far.l17 cREC k17) k17 v257 v258 v259 v260 v261 v262 v263 false v264 v265 v266 v267 b295.A b295.B)) (some v260)
def Fimpl_far : Nat → Timpl_Config → Int → Int → Int → Option Int
  | 0, _, _, _, _ => none
  | k + 1, a0, a1, a2, a3 => cond (a1 == a2) (some (0 : Int)) (Fimpl_far.l17 (Fimpl_far k) k a1 a2 a3 (3 : Int) a0.Links (a0.Links.length : Int) (0 : Int) a0.UserRealm a0.ServiceRealm a0.Proxy a0.Skew)
theorem ent251 : Enters Try.prog 251 := ⟨Try.f251, Try.func251, rfl, by decide⟩
set_option maxHeartbeats 8000000 in
set_option maxRecDepth 100000 in
theorem Fimpl_far_gives : ∀ (k : Nat) (g0 : Bool) (g1 : Bool) (g2 : Bool) (g3 : Bool) (a0 : Timpl_Config) (a1 : Int) (a2 : Int) (a3 : Int) (r : Int) (H : Fimpl_far k a0 a1 a2 a3 = some r), Gives Try.prog 251 [V.agg [Cell.sl g0 (List.map eI a0.UserRealm), Cell.sl g1 (List.map eI a0.ServiceRealm), Cell.sl g2 (List.map eTimpl_Pair a0.Links), Cell.sl g3 (List.map eTimpl_Pair a0.Proxy), cI a0.Skew], V.one (cI a1), V.one (cI a2), V.one (cI a3)] [] [V.one (cI r)] [] := by
  intro k
  induction k with
  | zero => intros; rename_i H; cases H
  | succ k ih =>
    intro g0 g1 g2 g3 a0 a1 a2 a3 r H
    refine Gives.intro Try.func251 rfl rfl rfl rfl ?_
    intro F hF hm
    rw [Fimpl_far] at H
    obtain ⟨K, hK⟩ : ∃ K, k ≤ K := ⟨k, Nat.le_refl k⟩
    refine WpC.seq ?_
    refine WpC.regionL ?_
    refine L.box 8 hF rfl rfl rfl rfl ?_
    refine L.assign hF rfl rfl rfl ?_
    refine L.nil ?_
    refine WpC.seq ?_
    refine WpC.seq ?_
    refine WpC.regionL ?_
    refine L.move hF rfl rfl rfl ?_
    refine L.move hF rfl rfl rfl ?_
    refine L.bin hF rfl rfl rfl rfl rfl rfl ?_
    refine L.nil ?_
    refine WpC.cond rfl (fun hc => ?_) (fun hc => ?_)
    · replace H := condT hc H
      refine WpC.seq ?_
      refine WpC.regionL ?_
      refine L.assign hF rfl rfl rfl ?_
      refine L.nil ?_
      refine WpC.ret ?_
      cases H
      exact Leaves.ret rfl rfl rfl ⟨rfl, rfl⟩
    · replace H := condF hc H
      refine WpC.skip ?_
      refine WpC.seq ?_
      refine WpC.regionL ?_
      refine L.assign hF rfl rfl rfl ?_
      refine L.nil ?_
      refine WpC.seq ?_
      refine WpC.seq ?_
      refine WpC.regionL ?_
      refine L.fieldAddr Try.underlying90 rfl info88 rfl hF rfl rfl rfl rfl rfl ?_
      refine L.loadPtr shape88 hF rfl rfl rfl rfl rfl rfl ?_
      refine L.lenR (xs := a0.Links) (e := eTimpl_Pair) Try.underlying88 hF rfl rfl rfl rfl ?_
      refine L.move hF rfl rfl rfl ?_
      refine L.nil ?_
      refine WpC.block ?_
      refine WpC.loopL (P := Try.prog) (fun n σ => ∃ v257 : Int, ∃ v258 : Int, ∃ v259 : Int, ∃ v260 : Int, ∃ v261 : List Timpl_Pair, ∃ v262 : Int, ∃ v263 : Int, ∃ v264 : List Int, ∃ v265 : List Int, ∃ v266 : List Timpl_Pair, ∃ v267 : Int, n ≤ K ∧ Fimpl_far.l17 (Fimpl_far k) n v257 v258 v259 v260 v261 v262 v263 v264 v265 v266 v267 = some r ∧ σ = mkSt [(1, one (cI v257)), (2, one (cI v258)), (3, one (cI v259)), (4, one (Cell.ptr 0 0)), (9, one (cI v260)), (16, one (Cell.sl g2 (List.map eTimpl_Pair v261))), (17, one (cI v262)), (18, one (cI v263))] [] [(0, [Cell.sl g0 (List.map eI v264), Cell.sl g1 (List.map eI v265), Cell.sl g2 (List.map eTimpl_Pair v261), Cell.sl g3 (List.map eTimpl_Pair v266), cI v267])] 1) k ⟨_, ⟨a1, a2, a3, (3 : Int), a0.Links, (a0.Links.length : Int), (0 : Int), a0.UserRealm, a0.ServiceRealm, a0.Proxy, a0.Skew, by omega, H, rfl⟩, Le.mk [(0, 8)] hm rfl ⟨⟨_, rfl, rfl⟩, ⟨_, rfl, rfl⟩, ⟨_, rfl, rfl⟩, ⟨_, rfl, rfl⟩, ⟨_, rfl, rfl⟩, ⟨_, rfl, rfl⟩, ⟨_, rfl, rfl⟩, ⟨_, rfl, rfl⟩, trivial⟩ trivial ⟨⟨_, _, rfl, rfl, rfl⟩, trivial⟩⟩ ?_
      clear H
      rintro k17 _ ⟨v257, v258, v259, v260, v261, v262, v263, v264, v265, v266, v267, hk17, H, rfl⟩
      cases k17 with
      | zero => cases H
      | succ k17 =>
        rw [Fimpl_far.l17] at H
        refine WpC.seq ?_
        refine WpC.regionL ?_
        refine L.bin hF rfl rfl rfl rfl rfl rfl ?_
        refine L.nil ?_
        refine WpC.seq ?_
        refine WpC.cond rfl (fun hc => ?_) (fun hc => ?_)
        · replace H := condT hc H
          refine WpC.skip ?_
          refine WpC.join (fun σ => ∃ kj19 : Nat, ∃ v284 : Int, ∃ v285 : Int, ∃ v286 : Int, ∃ v287 : Int, ∃ v288 : List Timpl_Pair, ∃ v289 : Int, ∃ v290 : Int, ∃ v291 : List Int, ∃ v292 : List Int, ∃ v293 : List Timpl_Pair, ∃ v294 : Int, kj19 ≤ K ∧ Fimpl_far.j19 (Fimpl_far.l17 (Fimpl_far k) k17) kj19 v284 v285 v286 v287 v288 v289 v290 v291 v292 v293 v294 = some r ∧ σ = mkSt [(1, one (cI v284)), (2, one (cI v285)), (3, one (cI v286)), (4, one (Cell.ptr 0 0)), (9, one (cI v287)), (16, one (Cell.sl g2 (List.map eTimpl_Pair v288))), (17, one (cI v289)), (18, one (cI v290))] [] [(0, [Cell.sl g0 (List.map eI v291), Cell.sl g1 (List.map eI v292), Cell.sl g2 (List.map eTimpl_Pair v288), Cell.sl g3 (List.map eTimpl_Pair v293), cI v294])] 1) ?_ ?_
          · rintro _ ⟨kj19, v284, v285, v286, v287, v288, v289, v290, v291, v292, v293, v294, hkj19, H, rfl⟩
            unfold Fimpl_far.j19 at H
            refine WpC.regionL ?_
            refine L.bin hF rfl rfl rfl rfl rfl rfl ?_
            refine L.move hF rfl rfl rfl ?_
            refine L.nil ?_
            exact ⟨k17, _, by omega, ⟨v284, v285, v286, v287, v288, v289, (IntKind.i64.wrap (v290 + (1 : Int))), v291, v292, v293, v294, by omega, H, rfl⟩, Le.mk [(0, 0)] hm rfl ⟨⟨_, rfl, rfl⟩, ⟨_, rfl, rfl⟩, ⟨_, rfl, rfl⟩, ⟨_, rfl, rfl⟩, ⟨_, rfl, rfl⟩, ⟨_, rfl, rfl⟩, ⟨_, rfl, rfl⟩, ⟨_, rfl, rfl⟩, trivial⟩ trivial ⟨⟨_, _, rfl, rfl, rfl⟩, trivial⟩⟩
          · refine WpC.block ?_
            refine WpC.seq ?_
            refine WpC.regionL ?_
            obtain ⟨b295, hb295, H⟩ := bindS H
            refine L.idxR (xs := v261) (e := eTimpl_Pair) Try.underlying88 info256 hF rfl rfl rfl rfl rfl hb295 rfl rfl ?_
            refine L.loadPe shape256 hF rfl rfl rfl rfl rfl ?_
            refine L.alloc 1 info256 rfl hF rfl rfl rfl rfl ?_
            refine L.storePtr shape256 hF rfl rfl rfl rfl rfl rfl rfl ?_
            refine L.nil ?_
            refine WpC.join (fun σ => ∃ kj20 : Nat, ∃ v296 : Int, ∃ v297 : Int, ∃ v298 : Int, ∃ v299 : Int, ∃ v300 : List Timpl_Pair, ∃ v301 : Int, ∃ v302 : Int, ∃ v303 : Bool, ∃ v304 : List Int, ∃ v305 : List Int, ∃ v306 : List Timpl_Pair, ∃ v307 : Int, ∃ v308 : Int, ∃ v309 : Int, kj20 ≤ K ∧ Fimpl_far.j20 (Fimpl_far k) (Fimpl_far.l17 (Fimpl_far k) k17) kj20 v296 v297 v298 v299 v300 v301 v302 v303 v304 v305 v306 v307 v308 v309 = some r ∧ σ = mkSt [(1, one (cI v296)), (2, one (cI v297)), (3, one (cI v298)), (4, one (Cell.ptr 0 0)), (9, one (cI v299)), (11, one (Cell.ptr 1 0)), (16, one (Cell.sl g2 (List.map eTimpl_Pair v300))), (17, one (cI v301)), (18, one (cI v302)), (29, one (cL v303))] [] [(0, [Cell.sl g0 (List.map eI v304), Cell.sl g1 (List.map eI v305), Cell.sl g2 (List.map eTimpl_Pair v300), Cell.sl g3 (List.map eTimpl_Pair v306), cI v307]), (1, [cI v308, cI v309])] 2) ?_ ?_
            · rintro _ ⟨kj20, v296, v297, v298, v299, v300, v301, v302, v303, v304, v305, v306, v307, v308, v309, hkj20, H, rfl⟩
              unfold Fimpl_far.j20 at H
              refine WpC.cond rfl (fun hc => ?_) (fun hc => ?_)
              · replace H := condT hc H
                refine WpC.regionL ?_
                refine L.move hF rfl rfl rfl ?_
                refine L.loadPtr shape90 hF rfl rfl rfl rfl rfl rfl ?_
                refine L.fieldAddr Try.underlying256 rfl info3 rfl hF rfl rfl rfl rfl rfl ?_
                refine L.loadPtr shape3 hF rfl rfl rfl rfl rfl rfl ?_
                refine L.move hF rfl rfl rfl ?_
                refine L.move hF rfl rfl rfl ?_
                refine L.bin hF rfl rfl rfl rfl rfl rfl ?_
                obtain ⟨r310, hr310, H⟩ := bindS H
                refine L.call [false, false, false, false] [] [] 2 hF rfl rfl rfl ent251 rfl rfl rfl rfl rfl (ih g0 g1 g2 g3 (⟨v304, v305, v300, v306, v307⟩ : Timpl_Config) v309 v297 (IntKind.i64.wrap (v298 - (1 : Int))) r310 hr310) rfl ?_
                refine L.bin hF rfl rfl rfl rfl rfl rfl ?_
                refine L.minI hF rfl rfl rfl rfl ?_
                refine L.assign hF rfl rfl rfl ?_
                refine L.nil ?_
                exact ⟨_, ⟨kj20, v296, v297, v298, (if (IntKind.i64.wrap ((1 : Int) + r310)) < v299 then (IntKind.i64.wrap ((1 : Int) + r310)) else v299), v300, v301, v302, v304, v305, v306, v307, by omega, H, rfl⟩, Le.mk [(0, 0)] hm rfl ⟨⟨_, rfl, rfl⟩, ⟨_, rfl, rfl⟩, ⟨_, rfl, rfl⟩, ⟨_, rfl, rfl⟩, ⟨_, rfl, rfl⟩, ⟨_, rfl, rfl⟩, ⟨_, rfl, rfl⟩, ⟨_, rfl, rfl⟩, trivial⟩ trivial ⟨⟨_, _, rfl, rfl, rfl⟩, trivial⟩⟩
              · replace H := condF hc H
                refine WpC.skip ?_
                exact ⟨_, ⟨kj20, v296, v297, v298, v299, v300, v301, v302, v304, v305, v306, v307, by omega, H, rfl⟩, Le.mk [(0, 0)] hm rfl ⟨⟨_, rfl, rfl⟩, ⟨_, rfl, rfl⟩, ⟨_, rfl, rfl⟩, ⟨_, rfl, rfl⟩, ⟨_, rfl, rfl⟩, ⟨_, rfl, rfl⟩, ⟨_, rfl, rfl⟩, ⟨_, rfl, rfl⟩, trivial⟩ trivial ⟨⟨_, _, rfl, rfl, rfl⟩, trivial⟩⟩
            · refine WpC.regionL ?_
              refine L.fieldAddr Try.underlying256 rfl info3 rfl hF rfl rfl rfl rfl rfl ?_
              refine L.loadPtr shape3 hF rfl rfl rfl rfl rfl rfl ?_
              refine L.move hF rfl rfl rfl ?_
              refine L.bin hF rfl rfl rfl rfl rfl rfl ?_
              refine L.move hF rfl rfl rfl ?_
              refine L.split (fun hc => ?_) (fun hc => ?_)
              · replace H := condT hc H
                refine L.move hF rfl rfl rfl ?_
                refine L.bin hF rfl rfl rfl rfl rfl rfl ?_
                refine L.pick hF rfl rfl rfl rfl ?_
                refine L.nil ?_
                exact ⟨_, ⟨k17, v257, v258, v259, v260, v261, v262, v263, (decide (v259 > (0 : Int))), v264, v265, v266, v267, b295.A, b295.B, by omega, H, rfl⟩, Le.mk [(0, 0), (1, 1)] hm rfl ⟨⟨_, rfl, rfl⟩, ⟨_, rfl, rfl⟩, ⟨_, rfl, rfl⟩, ⟨_, rfl, rfl⟩, ⟨_, rfl, rfl⟩, ⟨_, rfl, rfl⟩, ⟨_, rfl, rfl⟩, ⟨_, rfl, rfl⟩, ⟨_, rfl, rfl⟩, ⟨_, rfl, rfl⟩, trivial⟩ trivial ⟨⟨_, _, rfl, rfl, rfl⟩, ⟨_, _, rfl, rfl, rfl⟩, trivial⟩⟩
              · replace H := condF hc H
                refine L.off hF rfl rfl ?_
                refine L.off hF rfl rfl ?_
                refine L.pick hF rfl rfl rfl rfl ?_
                refine L.nil ?_
                exact ⟨_, ⟨k17, v257, v258, v259, v260, v261, v262, v263, false, v264, v265, v266, v267, b295.A, b295.B, by omega, H, rfl⟩, Le.mk [(0, 0), (1, 1)] hm rfl ⟨⟨_, rfl, rfl⟩, ⟨_, rfl, rfl⟩, ⟨_, rfl, rfl⟩, ⟨_, rfl, rfl⟩, ⟨_, rfl, rfl⟩, ⟨_, rfl, rfl⟩, ⟨_, rfl, rfl⟩, ⟨_, rfl, rfl⟩, ⟨_, rfl, rfl⟩, ⟨_, rfl, rfl⟩, trivial⟩ trivial ⟨⟨_, _, rfl, rfl, rfl⟩, ⟨_, _, rfl, rfl, rfl⟩, trivial⟩⟩
        · replace H := condF hc H
          refine WpC.exit ?_
          refine WpC.seq ?_
          refine WpC.regionL ?_
          refine L.move hF rfl rfl rfl ?_
          refine L.assign hF rfl rfl rfl ?_
          refine L.nil ?_
          refine WpC.ret ?_
          cases H
          exact Leaves.ret rfl rfl rfl ⟨rfl, rfl⟩
/-! ### Fimpl_NextHop -/
def Fimpl_NextHop.j19 (cl17 : Int → Int → Int → Int → Int → (List Int) → (List Int) → (List Timpl_Pair) → (List Timpl_Pair) → Int → Option Int) (k : Nat) (v268 : Int) (v269 : Int) (v270 : Int) (v271 : Int) (v272 : Int) (v273 : List Int) (v274 : List Int) (v275 : List Timpl_Pair) (v276 : List Timpl_Pair) (v277 : Int) : Option Int := cl17 v268 v269 v270 v271 (IntKind.i64.wrap (v272 + (1 : Int))) v273 v274 v275 v276 v277
def Fimpl_NextHop.j20 (cl17 : Int → Int → Int → Int → Int → (List Int) → (List Int) → (List Timpl_Pair) → (List Timpl_Pair) → Int → Option Int) (k : Nat) (v280 : Int) (v281 : Int) (v282 : Int) (v283 : Int) (v284 : Int) (v285 : Int) (v286 : Bool) (v287 : List Int) (v288 : List Int) (v289 : List Timpl_Pair) (v290 : List Timpl_Pair) (v291 : Int) : Option Int := cond v286 (Fimpl_NextHop.j19 cl17 k v280 v281 v284 v285 v284 v287 v288 v289 v290 v291) (Fimpl_NextHop.j19 cl17 k v280 v281 v282 v283 v284 v287 v288 v289 v290 v291)
def Fimpl_NextHop.l17 : Nat → Int → Int → Int → Int → Int → (List Int) → (List Int) → (List Timpl_Pair) → (List Timpl_Pair) → Int → Option Int
  | 0, _, _, _, _, _, _, _, _, _, _ => none
  | k17 + 1, v243, v244, v245, v246, v247, v248, v249, v250, v251, v252 => cond (decide (v247 < (3 : Int))) ((Fimpl_far k17 (⟨v248, v249, v250, v251, v252⟩ : Timpl_Config) v247 v244 (3 : Int)).bind fun r278 => (Fslices_Contains_Pair k17 v250 (⟨v243, v247⟩ : Timpl_Pair)).bind fun r292 => cond r292 (Fimpl_NextHop.j20 (Fimpl_NextHop.l17 k17) k17 v243 v244 v245 v246 v247 r278 (decide (r278 < v246)) v248 v249 v250 v251 v252) (Fimpl_NextHop.j20 (Fimpl_NextHop.l17 k17) k17 v243 v244 v245 v246 v247 r278 false v248 v249 v250 v251 v252)) (some v245)
def Fimpl_NextHop (k : Nat) (a0 : Timpl_Config) (a1 : Int) (a2 : Int) : Option Int := (Fimpl_ConfigOk k a0).bind fun r10 => cond (!r10) (some (-1 : Int)) ((Fimpl_isRealm k a1).bind fun r11 => cond (!r11) (some (-1 : Int)) ((Fimpl_isRealm k a2).bind fun r12 => cond (!r12) (some (-1 : Int)) (cond (a1 == a2) (some (-1 : Int)) (Fimpl_NextHop.l17 k a1 a2 (-1 : Int) (3 : Int) (0 : Int) a0.UserRealm a0.ServiceRealm a0.Links a0.Proxy a0.Skew))))
theorem ent160 : Enters Try.prog 160 := ⟨Try.f160, Try.func160, rfl, by decide⟩
set_option maxHeartbeats 8000000 in
set_option maxRecDepth 100000 in
theorem Fimpl_NextHop_gives (k : Nat) (g0 : Bool) (g1 : Bool) (g2 : Bool) (g3 : Bool) (a0 : Timpl_Config) (a1 : Int) (a2 : Int) (r : Int) (H : Fimpl_NextHop k a0 a1 a2 = some r) : Gives Try.prog 160 [V.agg [Cell.sl g0 (List.map eI a0.UserRealm), Cell.sl g1 (List.map eI a0.ServiceRealm), Cell.sl g2 (List.map eTimpl_Pair a0.Links), Cell.sl g3 (List.map eTimpl_Pair a0.Proxy), cI a0.Skew], V.one (cI a1), V.one (cI a2)] [] [V.one (cI r)] [] := by
  refine Gives.intro Try.func160 rfl rfl rfl rfl ?_
  intro F hF hm
  unfold Fimpl_NextHop at H
  obtain ⟨K, hK⟩ : ∃ K, k ≤ K := ⟨k, Nat.le_refl k⟩
  refine WpC.seq ?_
  refine WpC.regionL ?_
  refine L.box 7 hF rfl rfl rfl rfl ?_
  refine L.assign hF rfl rfl rfl ?_
  refine L.nil ?_
  refine WpC.seq ?_
  refine WpC.seq ?_
  refine WpC.regionL ?_
  refine L.loadPtr shape90 hF rfl rfl rfl rfl rfl rfl ?_
  obtain ⟨r10, hr10, H⟩ := bindS H
  refine L.call [false] [] [] 8 hF rfl rfl rfl ent156 rfl rfl rfl rfl rfl (Fimpl_ConfigOk_gives k g0 g1 g2 g3 a0 r10 hr10) rfl ?_
  refine L.not hF rfl rfl rfl ?_
  refine L.move hF rfl rfl rfl ?_
  refine L.split (fun hc => ?_) (fun hc => ?_)
  · replace H := condT hc H
    refine L.off hF rfl rfl ?_
    refine L.off hF rfl rfl ?_
    refine L.off hF rfl rfl ?_
    refine L.pick hF rfl rfl rfl rfl ?_
    refine L.move hF rfl rfl rfl ?_
    refine L.off hF rfl rfl ?_
    refine L.off hF rfl rfl ?_
    refine L.off hF rfl rfl ?_
    refine L.pick hF rfl rfl rfl rfl ?_
    refine L.move hF rfl rfl rfl ?_
    refine L.off hF rfl rfl ?_
    refine L.off hF rfl rfl ?_
    refine L.off hF rfl rfl ?_
    refine L.pick hF rfl rfl rfl rfl ?_
    refine L.nil ?_
    refine WpC.cond rfl (fun _ => ?_) (fun hc => by cases hc)
    refine WpC.seq ?_
    refine WpC.regionL ?_
    refine L.assign hF rfl rfl rfl ?_
    refine L.nil ?_
    refine WpC.ret ?_
    cases H
    exact Leaves.ret rfl rfl rfl ⟨rfl, rfl⟩
  · replace H := condF hc H
    refine L.move hF rfl rfl rfl ?_
    obtain ⟨r11, hr11, H⟩ := bindS H
    refine L.call [false] [] [] 9 hF rfl rfl rfl ent184 rfl rfl rfl rfl rfl (Fimpl_isRealm_gives k  a1 r11 hr11) rfl ?_
    refine L.not hF rfl rfl rfl ?_
    refine L.pick hF rfl rfl rfl rfl ?_
    refine L.move hF rfl rfl rfl ?_
    refine L.split (fun hc => ?_) (fun hc => ?_)
    · replace H := condT hc H
      refine L.off hF rfl rfl ?_
      refine L.off hF rfl rfl ?_
      refine L.off hF rfl rfl ?_
      refine L.pick hF rfl rfl rfl rfl ?_
      refine L.move hF rfl rfl rfl ?_
      refine L.off hF rfl rfl ?_
      refine L.off hF rfl rfl ?_
      refine L.off hF rfl rfl ?_
      refine L.pick hF rfl rfl rfl rfl ?_
      refine L.nil ?_
      refine WpC.cond rfl (fun _ => ?_) (fun hc => by cases hc)
      refine WpC.seq ?_
      refine WpC.regionL ?_
      refine L.assign hF rfl rfl rfl ?_
      refine L.nil ?_
      refine WpC.ret ?_
      cases H
      exact Leaves.ret rfl rfl rfl ⟨rfl, rfl⟩
    · replace H := condF hc H
      refine L.move hF rfl rfl rfl ?_
      obtain ⟨r12, hr12, H⟩ := bindS H
      refine L.call [false] [] [] 10 hF rfl rfl rfl ent184 rfl rfl rfl rfl rfl (Fimpl_isRealm_gives k  a2 r12 hr12) rfl ?_
      refine L.not hF rfl rfl rfl ?_
      refine L.pick hF rfl rfl rfl rfl ?_
      refine L.move hF rfl rfl rfl ?_
      refine L.split (fun hc => ?_) (fun hc => ?_)
      · replace H := condT hc H
        refine L.off hF rfl rfl ?_
        refine L.off hF rfl rfl ?_
        refine L.off hF rfl rfl ?_
        refine L.pick hF rfl rfl rfl rfl ?_
        refine L.nil ?_
        refine WpC.cond rfl (fun _ => ?_) (fun hc => by cases hc)
        refine WpC.seq ?_
        refine WpC.regionL ?_
        refine L.assign hF rfl rfl rfl ?_
        refine L.nil ?_
        refine WpC.ret ?_
        cases H
        exact Leaves.ret rfl rfl rfl ⟨rfl, rfl⟩
      · replace H := condF hc H
        refine L.move hF rfl rfl rfl ?_
        refine L.move hF rfl rfl rfl ?_
        refine L.bin hF rfl rfl rfl rfl rfl rfl ?_
        refine L.pick hF rfl rfl rfl rfl ?_
        refine L.nil ?_
        refine WpC.cond rfl (fun hc => ?_) (fun hc => ?_)
        · replace H := condT hc H
          refine WpC.seq ?_
          refine WpC.regionL ?_
          refine L.assign hF rfl rfl rfl ?_
          refine L.nil ?_
          refine WpC.ret ?_
          cases H
          exact Leaves.ret rfl rfl rfl ⟨rfl, rfl⟩
        · replace H := condF hc H
          refine WpC.skip ?_
          refine WpC.seq ?_
          refine WpC.regionL ?_
          refine L.assign hF rfl rfl rfl ?_
          refine L.assign hF rfl rfl rfl ?_
          refine L.nil ?_
          refine WpC.seq ?_
          refine WpC.seq ?_
          refine WpC.regionL ?_
          refine L.move hF rfl rfl rfl ?_
          refine L.nil ?_
          refine WpC.block ?_
          refine WpC.loopL (P := Try.prog) (fun n σ => ∃ v243 : Int, ∃ v244 : Int, ∃ v245 : Int, ∃ v246 : Int, ∃ v247 : Int, ∃ v248 : List Int, ∃ v249 : List Int, ∃ v250 : List Timpl_Pair, ∃ v251 : List Timpl_Pair, ∃ v252 : Int, n ≤ K ∧ Fimpl_NextHop.l17 n v243 v244 v245 v246 v247 v248 v249 v250 v251 v252 = some r ∧ σ = mkSt [(1, one (cI v243)), (2, one (cI v244)), (3, one (Cell.ptr 0 0)), (7, one (cI v245)), (8, one (cI v246)), (29, one (cI v247))] [] [(0, [Cell.sl g0 (List.map eI v248), Cell.sl g1 (List.map eI v249), Cell.sl g2 (List.map eTimpl_Pair v250), Cell.sl g3 (List.map eTimpl_Pair v251), cI v252])] 1) k ⟨_, ⟨a1, a2, (-1 : Int), (3 : Int), (0 : Int), a0.UserRealm, a0.ServiceRealm, a0.Links, a0.Proxy, a0.Skew, by omega, H, rfl⟩, Le.mk [(0, 7)] hm rfl ⟨⟨_, rfl, rfl⟩, ⟨_, rfl, rfl⟩, ⟨_, rfl, rfl⟩, ⟨_, rfl, rfl⟩, ⟨_, rfl, rfl⟩, ⟨_, rfl, rfl⟩, trivial⟩ trivial ⟨⟨_, _, rfl, rfl, rfl⟩, trivial⟩⟩ ?_
          clear H
          rintro k17 _ ⟨v243, v244, v245, v246, v247, v248, v249, v250, v251, v252, hk17, H, rfl⟩
          cases k17 with
          | zero => cases H
          | succ k17 =>
            rw [Fimpl_NextHop.l17] at H
            refine WpC.seq ?_
            refine WpC.regionL ?_
            refine L.bin hF rfl rfl rfl rfl rfl rfl ?_
            refine L.nil ?_
            refine WpC.seq ?_
            refine WpC.cond rfl (fun hc => ?_) (fun hc => ?_)
            · replace H := condT hc H
              refine WpC.skip ?_
              refine WpC.join (fun σ => ∃ kj19 : Nat, ∃ v268 : Int, ∃ v269 : Int, ∃ v270 : Int, ∃ v271 : Int, ∃ v272 : Int, ∃ v273 : List Int, ∃ v274 : List Int, ∃ v275 : List Timpl_Pair, ∃ v276 : List Timpl_Pair, ∃ v277 : Int, kj19 ≤ K ∧ Fimpl_NextHop.j19 (Fimpl_NextHop.l17 k17) kj19 v268 v269 v270 v271 v272 v273 v274 v275 v276 v277 = some r ∧ σ = mkSt [(1, one (cI v268)), (2, one (cI v269)), (3, one (Cell.ptr 0 0)), (7, one (cI v270)), (8, one (cI v271)), (29, one (cI v272))] [] [(0, [Cell.sl g0 (List.map eI v273), Cell.sl g1 (List.map eI v274), Cell.sl g2 (List.map eTimpl_Pair v275), Cell.sl g3 (List.map eTimpl_Pair v276), cI v277])] 1) ?_ ?_
              · rintro _ ⟨kj19, v268, v269, v270, v271, v272, v273, v274, v275, v276, v277, hkj19, H, rfl⟩
                unfold Fimpl_NextHop.j19 at H
                refine WpC.regionL ?_
                refine L.bin hF rfl rfl rfl rfl rfl rfl ?_
                refine L.move hF rfl rfl rfl ?_
                refine L.nil ?_
                exact ⟨k17, _, by omega, ⟨v268, v269, v270, v271, (IntKind.i64.wrap (v272 + (1 : Int))), v273, v274, v275, v276, v277, by omega, H, rfl⟩, Le.mk [(0, 0)] hm rfl ⟨⟨_, rfl, rfl⟩, ⟨_, rfl, rfl⟩, ⟨_, rfl, rfl⟩, ⟨_, rfl, rfl⟩, ⟨_, rfl, rfl⟩, ⟨_, rfl, rfl⟩, trivial⟩ trivial ⟨⟨_, _, rfl, rfl, rfl⟩, trivial⟩⟩
              · refine WpC.block ?_
                refine WpC.seq ?_
                refine WpC.regionL ?_
                refine L.move hF rfl rfl rfl ?_
                refine L.assign hF rfl rfl rfl ?_
                refine L.nil ?_
                refine WpC.seq ?_
                refine WpC.regionL ?_
                refine L.loadPtr shape90 hF rfl rfl rfl rfl rfl rfl ?_
                refine L.move hF rfl rfl rfl ?_
                refine L.move hF rfl rfl rfl ?_
                obtain ⟨r278, hr278, H⟩ := bindS H
                refine L.call [false, false, false, false] [] [] 1 hF rfl rfl rfl ent251 rfl rfl rfl rfl rfl (Fimpl_far_gives k17 g0 g1 g2 g3 (⟨v248, v249, v250, v251, v252⟩ : Timpl_Config) v247 v244 (3 : Int) r278 hr278) rfl ?_
                refine L.assign hF rfl rfl rfl ?_
                refine L.nil ?_
                refine WpC.join (fun σ => ∃ kj20 : Nat, ∃ v280 : Int, ∃ v281 : Int, ∃ v282 : Int, ∃ v283 : Int, ∃ v284 : Int, ∃ v285 : Int, ∃ v286 : Bool, ∃ v287 : List Int, ∃ v288 : List Int, ∃ v289 : List Timpl_Pair, ∃ v290 : List Timpl_Pair, ∃ v291 : Int, kj20 ≤ K ∧ Fimpl_NextHop.j20 (Fimpl_NextHop.l17 k17) kj20 v280 v281 v282 v283 v284 v285 v286 v287 v288 v289 v290 v291 = some r ∧ σ = mkSt [(1, one (cI v280)), (2, one (cI v281)), (3, one (Cell.ptr 0 0)), (7, one (cI v282)), (8, one (cI v283)), (9, one (cI v284)), (10, one (cI v285)), (29, one (cI v284)), (46, one (cL v286))] [] [(0, [Cell.sl g0 (List.map eI v287), Cell.sl g1 (List.map eI v288), Cell.sl g2 (List.map eTimpl_Pair v289), Cell.sl g3 (List.map eTimpl_Pair v290), cI v291])] 1) ?_ ?_
                · rintro _ ⟨kj20, v280, v281, v282, v283, v284, v285, v286, v287, v288, v289, v290, v291, hkj20, H, rfl⟩
                  unfold Fimpl_NextHop.j20 at H
                  refine WpC.cond rfl (fun hc => ?_) (fun hc => ?_)
                  · replace H := condT hc H
                    refine WpC.regionL ?_
                    refine L.move hF rfl rfl rfl ?_
                    refine L.move hF rfl rfl rfl ?_
                    refine L.assign hF rfl rfl rfl ?_
                    refine L.assign hF rfl rfl rfl ?_
                    refine L.nil ?_
                    exact ⟨_, ⟨kj20, v280, v281, v284, v285, v284, v287, v288, v289, v290, v291, by omega, H, rfl⟩, Le.mk [(0, 0)] hm rfl ⟨⟨_, rfl, rfl⟩, ⟨_, rfl, rfl⟩, ⟨_, rfl, rfl⟩, ⟨_, rfl, rfl⟩, ⟨_, rfl, rfl⟩, ⟨_, rfl, rfl⟩, trivial⟩ trivial ⟨⟨_, _, rfl, rfl, rfl⟩, trivial⟩⟩
                  · replace H := condF hc H
                    refine WpC.skip ?_
                    exact ⟨_, ⟨kj20, v280, v281, v282, v283, v284, v287, v288, v289, v290, v291, by omega, H, rfl⟩, Le.mk [(0, 0)] hm rfl ⟨⟨_, rfl, rfl⟩, ⟨_, rfl, rfl⟩, ⟨_, rfl, rfl⟩, ⟨_, rfl, rfl⟩, ⟨_, rfl, rfl⟩, ⟨_, rfl, rfl⟩, trivial⟩ trivial ⟨⟨_, _, rfl, rfl, rfl⟩, trivial⟩⟩
                · refine WpC.regionL ?_
                  refine L.fieldAddr Try.underlying90 rfl info88 rfl hF rfl rfl rfl rfl rfl ?_
                  refine L.loadPtr shape88 hF rfl rfl rfl rfl rfl rfl ?_
                  refine L.move hF rfl rfl rfl ?_
                  refine L.move hF rfl rfl rfl ?_
                  refine L.buildF built256 hF rfl rfl rfl rfl ?_
                  obtain ⟨r292, hr292, H⟩ := bindS H
                  refine L.call [false, false] [] [] 2 hF rfl rfl rfl ent252 rfl rfl rfl rfl rfl (Fslices_Contains_Pair_gives k17 g2 v250 (⟨v243, v247⟩ : Timpl_Pair) r292 hr292) rfl ?_
                  refine L.move hF rfl rfl rfl ?_
                  refine L.split (fun hc => ?_) (fun hc => ?_)
                  · replace H := condT hc H
                    refine L.move hF rfl rfl rfl ?_
                    refine L.move hF rfl rfl rfl ?_
                    refine L.bin hF rfl rfl rfl rfl rfl rfl ?_
                    refine L.pick hF rfl rfl rfl rfl ?_
                    refine L.nil ?_
                    exact ⟨_, ⟨k17, v243, v244, v245, v246, v247, r278, (decide (r278 < v246)), v248, v249, v250, v251, v252, by omega, H, rfl⟩, Le.mk [(0, 0)] hm rfl ⟨⟨_, rfl, rfl⟩, ⟨_, rfl, rfl⟩, ⟨_, rfl, rfl⟩, ⟨_, rfl, rfl⟩, ⟨_, rfl, rfl⟩, ⟨_, rfl, rfl⟩, ⟨_, rfl, rfl⟩, ⟨_, rfl, rfl⟩, ⟨_, rfl, rfl⟩, trivial⟩ trivial ⟨⟨_, _, rfl, rfl, rfl⟩, trivial⟩⟩
                  · replace H := condF hc H
                    refine L.off hF rfl rfl ?_
                    refine L.off hF rfl rfl ?_
                    refine L.off hF rfl rfl ?_
                    refine L.pick hF rfl rfl rfl rfl ?_
                    refine L.nil ?_
                    exact ⟨_, ⟨k17, v243, v244, v245, v246, v247, r278, false, v248, v249, v250, v251, v252, by omega, H, rfl⟩, Le.mk [(0, 0)] hm rfl ⟨⟨_, rfl, rfl⟩, ⟨_, rfl, rfl⟩, ⟨_, rfl, rfl⟩, ⟨_, rfl, rfl⟩, ⟨_, rfl, rfl⟩, ⟨_, rfl, rfl⟩, ⟨_, rfl, rfl⟩, ⟨_, rfl, rfl⟩, ⟨_, rfl, rfl⟩, trivial⟩ trivial ⟨⟨_, _, rfl, rfl, rfl⟩, trivial⟩⟩
            · replace H := condF hc H
              refine WpC.exit ?_
              refine WpC.seq ?_
              refine WpC.regionL ?_
              refine L.move hF rfl rfl rfl ?_
              refine L.assign hF rfl rfl rfl ?_
              refine L.nil ?_
              refine WpC.ret ?_
              cases H
              exact Leaves.ret rfl rfl rfl ⟨rfl, rfl⟩
/-! ### Fimpl_Flow -/
def Fimpl_Flow.l2 : Nat → Int → Int → Int → Int → Int → (List Timpl_Act) → Int → Int → (List Int) → (List Int) → (List Timpl_Pair) → (List Timpl_Pair) → Int → Int → Int → Int → Option (List Timpl_Act)
  | 0, _, _, _, _, _, _, _, _, _, _, _, _, _, _, _, _ => none
  | k2 + 1, v109, v110, v111, v112, v113, v114, v115, v116, v117, v118, v119, v120, v121, v122, v123, v124 => cond (decide ((2 * (v114.length + ([(⟨(3 : Int), v109, v116, v110, (0 : Int), (⟨v122, v123, v124⟩ : Timpl_Rest), ([] : List UInt8)⟩ : Timpl_Act), (⟨(4 : Int), v112, v115, (0 : Int), (0 : Int), (⟨(0 : Int), (0 : Int), (0 : Int)⟩ : Timpl_Rest), ([] : List UInt8)⟩ : Timpl_Act), (⟨(5 : Int), v109, (IntKind.i64.wrap (v115 + (1 : Int))), (0 : Int), (0 : Int), (⟨(0 : Int), (0 : Int), (0 : Int)⟩ : Timpl_Rest), ([] : List UInt8)⟩ : Timpl_Act)] : List Timpl_Act).length) + 192) * 80 ≤ 281474976710656)) (cond (v112 == v113) (cond (decide ((2 * ((v114 ++ ([(⟨(3 : Int), v109, v116, v110, (0 : Int), (⟨v122, v123, v124⟩ : Timpl_Rest), ([] : List UInt8)⟩ : Timpl_Act), (⟨(4 : Int), v112, v115, (0 : Int), (0 : Int), (⟨(0 : Int), (0 : Int), (0 : Int)⟩ : Timpl_Rest), ([] : List UInt8)⟩ : Timpl_Act), (⟨(5 : Int), v109, (IntKind.i64.wrap (v115 + (1 : Int))), (0 : Int), (0 : Int), (⟨(0 : Int), (0 : Int), (0 : Int)⟩ : Timpl_Rest), ([] : List UInt8)⟩ : Timpl_Act)] : List Timpl_Act)).length + ([(⟨(6 : Int), v109, (IntKind.i64.wrap (v116 + (1 : Int))), v111, (0 : Int), (⟨(0 : Int), (0 : Int), (0 : Int)⟩ : Timpl_Rest), ([] : List UInt8)⟩ : Timpl_Act), (⟨(7 : Int), v110, (IntKind.i64.wrap (v115 + (2 : Int))), (0 : Int), (0 : Int), (⟨(0 : Int), (0 : Int), (0 : Int)⟩ : Timpl_Rest), ([] : List UInt8)⟩ : Timpl_Act)] : List Timpl_Act).length) + 192) * 80 ≤ 281474976710656)) (some ((v114 ++ ([(⟨(3 : Int), v109, v116, v110, (0 : Int), (⟨v122, v123, v124⟩ : Timpl_Rest), ([] : List UInt8)⟩ : Timpl_Act), (⟨(4 : Int), v112, v115, (0 : Int), (0 : Int), (⟨(0 : Int), (0 : Int), (0 : Int)⟩ : Timpl_Rest), ([] : List UInt8)⟩ : Timpl_Act), (⟨(5 : Int), v109, (IntKind.i64.wrap (v115 + (1 : Int))), (0 : Int), (0 : Int), (⟨(0 : Int), (0 : Int), (0 : Int)⟩ : Timpl_Rest), ([] : List UInt8)⟩ : Timpl_Act)] : List Timpl_Act)) ++ ([(⟨(6 : Int), v109, (IntKind.i64.wrap (v116 + (1 : Int))), v111, (0 : Int), (⟨(0 : Int), (0 : Int), (0 : Int)⟩ : Timpl_Rest), ([] : List UInt8)⟩ : Timpl_Act), (⟨(7 : Int), v110, (IntKind.i64.wrap (v115 + (2 : Int))), (0 : Int), (0 : Int), (⟨(0 : Int), (0 : Int), (0 : Int)⟩ : Timpl_Rest), ([] : List UInt8)⟩ : Timpl_Act)] : List Timpl_Act))) none) ((Fimpl_NextHop k2 (⟨v117, v118, v119, v120, v121⟩ : Timpl_Config) v112 v113).bind fun r127 => cond (decide (r127 < (0 : Int))) (some ([] : List Timpl_Act)) ((Fimpl_Flow.l2 k2) v109 v110 v111 r127 v113 (v114 ++ ([(⟨(3 : Int), v109, v116, v110, (0 : Int), (⟨v122, v123, v124⟩ : Timpl_Rest), ([] : List UInt8)⟩ : Timpl_Act), (⟨(4 : Int), v112, v115, (0 : Int), (0 : Int), (⟨(0 : Int), (0 : Int), (0 : Int)⟩ : Timpl_Rest), ([] : List UInt8)⟩ : Timpl_Act), (⟨(5 : Int), v109, (IntKind.i64.wrap (v115 + (1 : Int))), (0 : Int), (0 : Int), (⟨(0 : Int), (0 : Int), (0 : Int)⟩ : Timpl_Rest), ([] : List UInt8)⟩ : Timpl_Act)] : List Timpl_Act)) (IntKind.i64.wrap (v115 + (2 : Int))) (IntKind.i64.wrap (v116 + (1 : Int))) v117 v118 v119 v120 v121 v122 v123 v124))) none
def Fimpl_Flow (k : Nat) (a0 : Timpl_Config) (a1 : Int) (a2 : Int) (a3 : Timpl_Rest) (a4 : Int) : Option (List Timpl_Act) := (Fimpl_ConfigOk k a0).bind fun r16 => cond (!r16) (some ([] : List Timpl_Act)) ((Fimpl_isPrincipal k a1).bind fun r17 => cond (!r17) (some ([] : List Timpl_Act)) ((Fimpl_isService k a2).bind fun r18 => cond (!r18) (some ([] : List Timpl_Act)) ((Fimpl_within k a4 (0 : Int) (7 : Int)).bind fun r19 => cond (!r19) (some ([] : List Timpl_Act)) ((Fimpl_RestOk k a3).bind fun r20 => cond (!r20) (some ([] : List Timpl_Act)) ((Fimpl_RealmOf k a0 a1).bind fun r21 => (at? a0.ServiceRealm a2).bind fun b22 => Fimpl_Flow.l2 k a1 a2 a4 r21 b22 ([(⟨(2 : Int), a1, (0 : Int), (0 : Int), (0 : Int), (⟨(0 : Int), (0 : Int), (0 : Int)⟩ : Timpl_Rest), ([] : List UInt8)⟩ : Timpl_Act), (⟨(4 : Int), r21, (0 : Int), (0 : Int), (0 : Int), (⟨(0 : Int), (0 : Int), (0 : Int)⟩ : Timpl_Rest), ([] : List UInt8)⟩ : Timpl_Act), (⟨(5 : Int), a1, (1 : Int), (0 : Int), (0 : Int), (⟨(0 : Int), (0 : Int), (0 : Int)⟩ : Timpl_Rest), ([] : List UInt8)⟩ : Timpl_Act)] : List Timpl_Act) (2 : Int) (0 : Int) a0.UserRealm a0.ServiceRealm a0.Links a0.Proxy a0.Skew a3.Servers a3.Ops a3.End)))))
theorem ent73 : Enters Try.prog 73 := ⟨Try.f73, Try.func73, rfl, by decide⟩
set_option maxHeartbeats 8000000 in
set_option maxRecDepth 100000 in
theorem Fimpl_Flow_gives (k : Nat) (g0 : Bool) (g1 : Bool) (g2 : Bool) (g3 : Bool) (a0 : Timpl_Config) (a1 : Int) (a2 : Int) (a3 : Timpl_Rest) (a4 : Int) (r : List Timpl_Act) (H : Fimpl_Flow k a0 a1 a2 a3 a4 = some r) : Gives Try.prog 73 [V.agg [Cell.sl g0 (List.map eI a0.UserRealm), Cell.sl g1 (List.map eI a0.ServiceRealm), Cell.sl g2 (List.map eTimpl_Pair a0.Links), Cell.sl g3 (List.map eTimpl_Pair a0.Proxy), cI a0.Skew], V.one (cI a1), V.one (cI a2), V.agg [cI a3.Servers, cI a3.Ops, cI a3.End], V.one (cI a4)] [] [V.one (Cell.ow 9 (List.map eTimpl_Act r))] [] := by
  refine Gives.intro Try.func73 rfl rfl rfl rfl ?_
  intro F hF hm
  unfold Fimpl_Flow at H
  obtain ⟨K, hK⟩ : ∃ K, k ≤ K := ⟨k, Nat.le_refl k⟩
  refine WpC.seq ?_
  refine WpC.regionL ?_
  refine L.box 11 hF rfl rfl rfl rfl ?_
  refine L.box 12 hF rfl rfl rfl rfl ?_
  refine L.assign hF rfl rfl rfl ?_
  refine L.nil ?_
  refine WpC.seq ?_
  refine WpC.seq ?_
  refine WpC.regionL ?_
  refine L.loadPtr shape90 hF rfl rfl rfl rfl rfl rfl ?_
  obtain ⟨r16, hr16, H⟩ := bindS H
  refine L.call [false] [] [] 13 hF rfl rfl rfl ent156 rfl rfl rfl rfl rfl (Fimpl_ConfigOk_gives k g0 g1 g2 g3 a0 r16 hr16) rfl ?_
  refine L.not hF rfl rfl rfl ?_
  refine L.move hF rfl rfl rfl ?_
  refine L.split (fun hc => ?_) (fun hc => ?_)
  · replace H := condT hc H
    refine L.off hF rfl rfl ?_
    refine L.off hF rfl rfl ?_
    refine L.off hF rfl rfl ?_
    refine L.pick hF rfl rfl rfl rfl ?_
    refine L.move hF rfl rfl rfl ?_
    refine L.off hF rfl rfl ?_
    refine L.off hF rfl rfl ?_
    refine L.off hF rfl rfl ?_
    refine L.pick hF rfl rfl rfl rfl ?_
    refine L.move hF rfl rfl rfl ?_
    refine L.off hF rfl rfl ?_
    refine L.off hF rfl rfl ?_
    refine L.off hF rfl rfl ?_
    refine L.pick hF rfl rfl rfl rfl ?_
    refine L.move hF rfl rfl rfl ?_
    refine L.off hF rfl rfl ?_
    refine L.off hF rfl rfl ?_
    refine L.off hF rfl rfl ?_
    refine L.pick hF rfl rfl rfl rfl ?_
    refine L.nil ?_
    refine WpC.cond rfl (fun _ => ?_) (fun hc => by cases hc)
    refine WpC.seq ?_
    refine WpC.regionL ?_
    refine L.buildSlice (e := eTimpl_Act) 14 ([] : List Timpl_Act) Try.underlying86 info195 rfl rfl rfl hF rfl rfl rfl rfl rfl rfl rfl rfl ?_
    refine L.assign hF rfl rfl rfl ?_
    refine L.nil ?_
    refine WpC.ret ?_
    cases H
    exact Leaves.ret rfl rfl rfl ⟨rfl, rfl⟩
  · replace H := condF hc H
    refine L.move hF rfl rfl rfl ?_
    obtain ⟨r17, hr17, H⟩ := bindS H
    refine L.call [false] [] [] 14 hF rfl rfl rfl ent145 rfl rfl rfl rfl rfl (Fimpl_isPrincipal_gives k  a1 r17 hr17) rfl ?_
    refine L.not hF rfl rfl rfl ?_
    refine L.pick hF rfl rfl rfl rfl ?_
    refine L.move hF rfl rfl rfl ?_
    refine L.split (fun hc => ?_) (fun hc => ?_)
    · replace H := condT hc H
      refine L.off hF rfl rfl ?_
      refine L.off hF rfl rfl ?_
      refine L.off hF rfl rfl ?_
      refine L.pick hF rfl rfl rfl rfl ?_
      refine L.move hF rfl rfl rfl ?_
      refine L.off hF rfl rfl ?_
      refine L.off hF rfl rfl ?_
      refine L.off hF rfl rfl ?_
      refine L.pick hF rfl rfl rfl rfl ?_
      refine L.move hF rfl rfl rfl ?_
      refine L.off hF rfl rfl ?_
      refine L.off hF rfl rfl ?_
      refine L.off hF rfl rfl ?_
      refine L.pick hF rfl rfl rfl rfl ?_
      refine L.nil ?_
      refine WpC.cond rfl (fun _ => ?_) (fun hc => by cases hc)
      refine WpC.seq ?_
      refine WpC.regionL ?_
      refine L.buildSlice (e := eTimpl_Act) 15 ([] : List Timpl_Act) Try.underlying86 info195 rfl rfl rfl hF rfl rfl rfl rfl rfl rfl rfl rfl ?_
      refine L.assign hF rfl rfl rfl ?_
      refine L.nil ?_
      refine WpC.ret ?_
      cases H
      exact Leaves.ret rfl rfl rfl ⟨rfl, rfl⟩
    · replace H := condF hc H
      refine L.move hF rfl rfl rfl ?_
      obtain ⟨r18, hr18, H⟩ := bindS H
      refine L.call [false] [] [] 15 hF rfl rfl rfl ent157 rfl rfl rfl rfl rfl (Fimpl_isService_gives k  a2 r18 hr18) rfl ?_
      refine L.not hF rfl rfl rfl ?_
      refine L.pick hF rfl rfl rfl rfl ?_
      refine L.move hF rfl rfl rfl ?_
      refine L.split (fun hc => ?_) (fun hc => ?_)
      · replace H := condT hc H
        refine L.off hF rfl rfl ?_
        refine L.off hF rfl rfl ?_
        refine L.off hF rfl rfl ?_
        refine L.pick hF rfl rfl rfl rfl ?_
        refine L.move hF rfl rfl rfl ?_
        refine L.off hF rfl rfl ?_
        refine L.off hF rfl rfl ?_
        refine L.off hF rfl rfl ?_
        refine L.pick hF rfl rfl rfl rfl ?_
        refine L.nil ?_
        refine WpC.cond rfl (fun _ => ?_) (fun hc => by cases hc)
        refine WpC.seq ?_
        refine WpC.regionL ?_
        refine L.buildSlice (e := eTimpl_Act) 16 ([] : List Timpl_Act) Try.underlying86 info195 rfl rfl rfl hF rfl rfl rfl rfl rfl rfl rfl rfl ?_
        refine L.assign hF rfl rfl rfl ?_
        refine L.nil ?_
        refine WpC.ret ?_
        cases H
        exact Leaves.ret rfl rfl rfl ⟨rfl, rfl⟩
      · replace H := condF hc H
        refine L.move hF rfl rfl rfl ?_
        obtain ⟨r19, hr19, H⟩ := bindS H
        refine L.call [false, false, false] [] [] 16 hF rfl rfl rfl ent113 rfl rfl rfl rfl rfl (Fimpl_within_gives k  a4 (0 : Int) (7 : Int) r19 hr19) rfl ?_
        refine L.not hF rfl rfl rfl ?_
        refine L.pick hF rfl rfl rfl rfl ?_
        refine L.move hF rfl rfl rfl ?_
        refine L.split (fun hc => ?_) (fun hc => ?_)
        · replace H := condT hc H
          refine L.off hF rfl rfl ?_
          refine L.off hF rfl rfl ?_
          refine L.off hF rfl rfl ?_
          refine L.pick hF rfl rfl rfl rfl ?_
          refine L.nil ?_
          refine WpC.cond rfl (fun _ => ?_) (fun hc => by cases hc)
          refine WpC.seq ?_
          refine WpC.regionL ?_
          refine L.buildSlice (e := eTimpl_Act) 17 ([] : List Timpl_Act) Try.underlying86 info195 rfl rfl rfl hF rfl rfl rfl rfl rfl rfl rfl rfl ?_
          refine L.assign hF rfl rfl rfl ?_
          refine L.nil ?_
          refine WpC.ret ?_
          cases H
          exact Leaves.ret rfl rfl rfl ⟨rfl, rfl⟩
        · replace H := condF hc H
          refine L.loadPtr shape74 hF rfl rfl rfl rfl rfl rfl ?_
          obtain ⟨r20, hr20, H⟩ := bindS H
          refine L.call [false] [] [] 17 hF rfl rfl rfl ent158 rfl rfl rfl rfl rfl (Fimpl_RestOk_gives k  a3 r20 hr20) rfl ?_
          refine L.not hF rfl rfl rfl ?_
          refine L.pick hF rfl rfl rfl rfl ?_
          refine L.nil ?_
          refine WpC.cond rfl (fun hc => ?_) (fun hc => ?_)
          · replace H := condT hc H
            refine WpC.seq ?_
            refine WpC.regionL ?_
            refine L.buildSlice (e := eTimpl_Act) 18 ([] : List Timpl_Act) Try.underlying86 info195 rfl rfl rfl hF rfl rfl rfl rfl rfl rfl rfl rfl ?_
            refine L.assign hF rfl rfl rfl ?_
            refine L.nil ?_
            refine WpC.ret ?_
            cases H
            exact Leaves.ret rfl rfl rfl ⟨rfl, rfl⟩
          · replace H := condF hc H
            refine WpC.skip ?_
            refine WpC.seq ?_
            obtain ⟨r21, hr21, H⟩ := bindS H
            obtain ⟨b22, hb22, H⟩ := bindS H
            refine A.begin mixed rfl rfl ?_
            intro W hI hO
            have n511 : W 1 #[true, true, true, true, true, true, true, true, true, false] (mkSt [(1, one (cI a1)), (2, one (cI a2)), (4, one (cI a4)), (5, one (Cell.ptr 0 0)), (8, one (Cell.ptr 1 0)), (11, one (cI r21)), (47, one (cI b22))] [] [(0, [Cell.sl g0 (List.map eI a0.UserRealm), Cell.sl g1 (List.map eI a0.ServiceRealm), Cell.sl g2 (List.map eTimpl_Pair a0.Links), Cell.sl g3 (List.map eTimpl_Pair a0.Proxy), cI a0.Skew]), (1, [cI a3.Servers, cI a3.Ops, cI a3.End])] 2) := by
              refine hI _ _ _ ?_
              refine A.take 9 rfl (by kernel_rfl) (by kernel_rfl) (by kernel_rfl) rfl (Ca.assign) (fun Q0 k0 => L.assign hF rfl rfl rfl (L.nil k0)) ?_
              refine A.le (τ := mkSt [(1, one (cI a1)), (2, one (cI a2)), (4, one (cI a4)), (5, one (Cell.ptr 0 0)), (8, one (Cell.ptr 1 0)), (11, one (cI r21)), (12, one (cI b22))] [] [(0, [Cell.sl g0 (List.map eI a0.UserRealm), Cell.sl g1 (List.map eI a0.ServiceRealm), Cell.sl g2 (List.map eTimpl_Pair a0.Links), Cell.sl g3 (List.map eTimpl_Pair a0.Proxy), cI a0.Skew]), (1, [cI a3.Servers, cI a3.Ops, cI a3.End])] 2) (Le.mk [(0, 0), (1, 1)] hm rfl ⟨⟨_, rfl, rfl⟩, ⟨_, rfl, rfl⟩, ⟨_, rfl, rfl⟩, ⟨_, rfl, rfl⟩, ⟨_, rfl, rfl⟩, ⟨_, rfl, rfl⟩, ⟨_, rfl, rfl⟩, trivial⟩ trivial ⟨⟨_, _, rfl, rfl, rfl⟩, ⟨_, _, rfl, rfl, rfl⟩, trivial⟩) ?_
              refine A.done (by kernel_rfl) ?_
              refine WpC.seq ?_
              refine WpC.regionL ?_
              refine L.move hF rfl rfl rfl ?_
              refine L.buildF built195 hF rfl rfl rfl rfl ?_
              refine L.move hF rfl rfl rfl ?_
              refine L.buildF built195 hF rfl rfl rfl rfl ?_
              refine L.move hF rfl rfl rfl ?_
              refine L.buildF built195 hF rfl rfl rfl rfl ?_
              refine L.buildSlice (e := eTimpl_Act) 2 ([(⟨(2 : Int), a1, (0 : Int), (0 : Int), (0 : Int), (⟨(0 : Int), (0 : Int), (0 : Int)⟩ : Timpl_Rest), ([] : List UInt8)⟩ : Timpl_Act), (⟨(4 : Int), r21, (0 : Int), (0 : Int), (0 : Int), (⟨(0 : Int), (0 : Int), (0 : Int)⟩ : Timpl_Rest), ([] : List UInt8)⟩ : Timpl_Act), (⟨(5 : Int), a1, (1 : Int), (0 : Int), (0 : Int), (⟨(0 : Int), (0 : Int), (0 : Int)⟩ : Timpl_Rest), ([] : List UInt8)⟩ : Timpl_Act)] : List Timpl_Act) Try.underlying86 info195 rfl rfl rfl hF rfl rfl rfl rfl rfl rfl rfl rfl ?_
              refine L.assign hF rfl rfl rfl ?_
              refine L.nil ?_
              refine WpC.seq ?_
              refine WpC.regionL ?_
              refine L.assign hF rfl rfl rfl ?_
              refine L.assign hF rfl rfl rfl ?_
              refine L.nil ?_
              refine WpC.seq ?_
              refine WpC.block ?_
              refine WpC.loopL (P := Try.prog) (fun n σ => ∃ v109 : Int, ∃ v110 : Int, ∃ v111 : Int, ∃ v112 : Int, ∃ v113 : Int, ∃ v114 : List Timpl_Act, ∃ v115 : Int, ∃ v116 : Int, ∃ v117 : List Int, ∃ v118 : List Int, ∃ v119 : List Timpl_Pair, ∃ v120 : List Timpl_Pair, ∃ v121 : Int, ∃ v122 : Int, ∃ v123 : Int, ∃ v124 : Int, n ≤ K ∧ Fimpl_Flow.l2 n v109 v110 v111 v112 v113 v114 v115 v116 v117 v118 v119 v120 v121 v122 v123 v124 = some r ∧ σ = mkSt [(1, one (cI v109)), (2, one (cI v110)), (4, one (cI v111)), (5, one (Cell.ptr 0 0)), (8, one (Cell.ptr 1 0)), (11, one (cI v112)), (12, one (cI v113)), (13, one (Cell.own 2)), (14, one (cI v115)), (15, one (cI v116))] [(2, ⟨9, List.map eTimpl_Act v114⟩)] [(0, [Cell.sl g0 (List.map eI v117), Cell.sl g1 (List.map eI v118), Cell.sl g2 (List.map eTimpl_Pair v119), Cell.sl g3 (List.map eTimpl_Pair v120), cI v121]), (1, [cI v122, cI v123, cI v124])] 3) k ⟨_, ⟨a1, a2, a4, r21, b22, ([(⟨(2 : Int), a1, (0 : Int), (0 : Int), (0 : Int), (⟨(0 : Int), (0 : Int), (0 : Int)⟩ : Timpl_Rest), ([] : List UInt8)⟩ : Timpl_Act), (⟨(4 : Int), r21, (0 : Int), (0 : Int), (0 : Int), (⟨(0 : Int), (0 : Int), (0 : Int)⟩ : Timpl_Rest), ([] : List UInt8)⟩ : Timpl_Act), (⟨(5 : Int), a1, (1 : Int), (0 : Int), (0 : Int), (⟨(0 : Int), (0 : Int), (0 : Int)⟩ : Timpl_Rest), ([] : List UInt8)⟩ : Timpl_Act)] : List Timpl_Act), (2 : Int), (0 : Int), a0.UserRealm, a0.ServiceRealm, a0.Links, a0.Proxy, a0.Skew, a3.Servers, a3.Ops, a3.End, by omega, H, rfl⟩, Le.mk [(0, 0), (1, 1), (2, 2)] hm rfl ⟨⟨_, rfl, rfl⟩, ⟨_, rfl, rfl⟩, ⟨_, rfl, rfl⟩, ⟨_, rfl, rfl⟩, ⟨_, rfl, rfl⟩, ⟨_, rfl, rfl⟩, ⟨_, rfl, rfl⟩, ⟨_, rfl, rfl⟩, ⟨_, rfl, rfl⟩, ⟨_, rfl, rfl⟩, trivial⟩ ⟨⟨_, rfl, rfl⟩, trivial⟩ ⟨⟨_, _, rfl, rfl, rfl⟩, ⟨_, _, rfl, rfl, rfl⟩, trivial⟩⟩ ?_
              clear H
              rintro k2 _ ⟨v109, v110, v111, v112, v113, v114, v115, v116, v117, v118, v119, v120, v121, v122, v123, v124, hk2, H, rfl⟩
              cases k2 with
              | zero => cases H
              | succ k2 =>
                rw [Fimpl_Flow.l2] at H
                refine WpC.block ?_
                refine WpC.seq ?_
                refine WpC.regionL ?_
                refine L.move hF rfl rfl rfl ?_
                refine L.move hF rfl rfl rfl ?_
                refine L.move hF rfl rfl rfl ?_
                refine L.move hF rfl rfl rfl ?_
                refine L.loadPtr shape74 hF rfl rfl rfl rfl rfl rfl ?_
                refine L.buildF built195 hF rfl rfl rfl rfl ?_
                refine L.move hF rfl rfl rfl ?_
                refine L.move hF rfl rfl rfl ?_
                refine L.buildF built195 hF rfl rfl rfl rfl ?_
                refine L.move hF rfl rfl rfl ?_
                refine L.move hF rfl rfl rfl ?_
                refine L.bin hF rfl rfl rfl rfl rfl rfl ?_
                refine L.buildF built195 hF rfl rfl rfl rfl ?_
                refine L.buildSlice (e := eTimpl_Act) 3 ([(⟨(3 : Int), v109, v116, v110, (0 : Int), (⟨v122, v123, v124⟩ : Timpl_Rest), ([] : List UInt8)⟩ : Timpl_Act), (⟨(4 : Int), v112, v115, (0 : Int), (0 : Int), (⟨(0 : Int), (0 : Int), (0 : Int)⟩ : Timpl_Rest), ([] : List UInt8)⟩ : Timpl_Act), (⟨(5 : Int), v109, (IntKind.i64.wrap (v115 + (1 : Int))), (0 : Int), (0 : Int), (⟨(0 : Int), (0 : Int), (0 : Int)⟩ : Timpl_Rest), ([] : List UInt8)⟩ : Timpl_Act)] : List Timpl_Act) Try.underlying86 info195 rfl rfl rfl hF rfl rfl rfl rfl rfl rfl rfl rfl ?_
                obtain ⟨h125, H⟩ := condG H
                refine L.append (xs := v114) (ys := ([(⟨(3 : Int), v109, v116, v110, (0 : Int), (⟨v122, v123, v124⟩ : Timpl_Rest), ([] : List UInt8)⟩ : Timpl_Act), (⟨(4 : Int), v112, v115, (0 : Int), (0 : Int), (⟨(0 : Int), (0 : Int), (0 : Int)⟩ : Timpl_Rest), ([] : List UInt8)⟩ : Timpl_Act), (⟨(5 : Int), v109, (IntKind.i64.wrap (v115 + (1 : Int))), (0 : Int), (0 : Int), (⟨(0 : Int), (0 : Int), (0 : Int)⟩ : Timpl_Rest), ([] : List UInt8)⟩ : Timpl_Act)] : List Timpl_Act)) (e := eTimpl_Act) 4 Try.underlying86 info195 rfl rfl hF rfl rfl rfl rfl rfl rfl rfl rfl (fun _ => rfl) (fun _ _ h1 h2 => by cases h1; cases h2; rfl) ⟨_, Try.underlying86⟩ (of_decide_eq_true h125) rfl rfl ?_
                refine L.assign hF rfl rfl rfl ?_
                refine L.nil ?_
                refine WpC.seq ?_
                refine WpC.regionL ?_
                refine L.move hF rfl rfl rfl ?_
                refine L.bin hF rfl rfl rfl rfl rfl rfl ?_
                refine L.assign hF rfl rfl rfl ?_
                refine L.nil ?_
                refine WpC.seq ?_
                refine WpC.regionL ?_
                refine L.move hF rfl rfl rfl ?_
                refine L.bin hF rfl rfl rfl rfl rfl rfl ?_
                refine L.assign hF rfl rfl rfl ?_
                refine L.nil ?_
                refine WpC.seq ?_
                refine WpC.seq ?_
                refine WpC.regionL ?_
                refine L.move hF rfl rfl rfl ?_
                refine L.move hF rfl rfl rfl ?_
                refine L.bin hF rfl rfl rfl rfl rfl rfl ?_
                refine L.nil ?_
                refine WpC.cond rfl (fun hc => ?_) (fun hc => ?_)
                · replace H := condT hc H
                  refine WpC.exit ?_
                  refine WpC.seq ?_
                  refine WpC.regionL ?_
                  refine L.move hF rfl rfl rfl ?_
                  refine L.move hF rfl rfl rfl ?_
                  refine L.move hF rfl rfl rfl ?_
                  refine L.move hF rfl rfl rfl ?_
                  refine L.buildF built195 hF rfl rfl rfl rfl ?_
                  refine L.move hF rfl rfl rfl ?_
                  refine L.move hF rfl rfl rfl ?_
                  refine L.buildF built195 hF rfl rfl rfl rfl ?_
                  refine L.buildSlice (e := eTimpl_Act) 5 ([(⟨(6 : Int), v109, (IntKind.i64.wrap (v116 + (1 : Int))), v111, (0 : Int), (⟨(0 : Int), (0 : Int), (0 : Int)⟩ : Timpl_Rest), ([] : List UInt8)⟩ : Timpl_Act), (⟨(7 : Int), v110, (IntKind.i64.wrap (v115 + (2 : Int))), (0 : Int), (0 : Int), (⟨(0 : Int), (0 : Int), (0 : Int)⟩ : Timpl_Rest), ([] : List UInt8)⟩ : Timpl_Act)] : List Timpl_Act) Try.underlying86 info195 rfl rfl rfl hF rfl rfl rfl rfl rfl rfl rfl rfl ?_
                  obtain ⟨h126, H⟩ := condG H
                  refine L.append (xs := (v114 ++ ([(⟨(3 : Int), v109, v116, v110, (0 : Int), (⟨v122, v123, v124⟩ : Timpl_Rest), ([] : List UInt8)⟩ : Timpl_Act), (⟨(4 : Int), v112, v115, (0 : Int), (0 : Int), (⟨(0 : Int), (0 : Int), (0 : Int)⟩ : Timpl_Rest), ([] : List UInt8)⟩ : Timpl_Act), (⟨(5 : Int), v109, (IntKind.i64.wrap (v115 + (1 : Int))), (0 : Int), (0 : Int), (⟨(0 : Int), (0 : Int), (0 : Int)⟩ : Timpl_Rest), ([] : List UInt8)⟩ : Timpl_Act)] : List Timpl_Act))) (ys := ([(⟨(6 : Int), v109, (IntKind.i64.wrap (v116 + (1 : Int))), v111, (0 : Int), (⟨(0 : Int), (0 : Int), (0 : Int)⟩ : Timpl_Rest), ([] : List UInt8)⟩ : Timpl_Act), (⟨(7 : Int), v110, (IntKind.i64.wrap (v115 + (2 : Int))), (0 : Int), (0 : Int), (⟨(0 : Int), (0 : Int), (0 : Int)⟩ : Timpl_Rest), ([] : List UInt8)⟩ : Timpl_Act)] : List Timpl_Act)) (e := eTimpl_Act) 6 Try.underlying86 info195 rfl rfl hF rfl rfl rfl rfl rfl rfl rfl rfl (fun _ => rfl) (fun _ _ h1 h2 => by cases h1; cases h2; rfl) ⟨_, Try.underlying86⟩ (of_decide_eq_true h126) rfl rfl ?_
                  refine L.assign hF rfl rfl rfl ?_
                  refine L.nil ?_
                  refine WpC.ret ?_
                  cases H
                  exact Leaves.ret rfl rfl rfl ⟨rfl, rfl⟩
                · replace H := condF hc H
                  refine WpC.skip ?_
                  refine WpC.seq ?_
                  refine WpC.regionL ?_
                  refine L.loadPtr shape90 hF rfl rfl rfl rfl rfl rfl ?_
                  refine L.move hF rfl rfl rfl ?_
                  refine L.move hF rfl rfl rfl ?_
                  obtain ⟨r127, hr127, H⟩ := bindS H
                  refine L.call [false, false, false] [] [] 5 hF rfl rfl rfl ent160 rfl rfl rfl rfl rfl (Fimpl_NextHop_gives k2 g0 g1 g2 g3 (⟨v117, v118, v119, v120, v121⟩ : Timpl_Config) v112 v113 r127 hr127) rfl ?_
                  refine L.assign hF rfl rfl rfl ?_
                  refine L.nil ?_
                  refine WpC.seq ?_
                  refine WpC.regionL ?_
                  refine L.move hF rfl rfl rfl ?_
                  refine L.bin hF rfl rfl rfl rfl rfl rfl ?_
                  refine L.nil ?_
                  refine WpC.cond rfl (fun hc => ?_) (fun hc => ?_)
                  · replace H := condT hc H
                    refine WpC.seq ?_
                    refine WpC.regionL ?_
                    refine L.buildSlice (e := eTimpl_Act) 6 ([] : List Timpl_Act) Try.underlying86 info195 rfl rfl rfl hF rfl rfl rfl rfl rfl rfl rfl rfl ?_
                    refine L.assign hF rfl rfl rfl ?_
                    refine L.nil ?_
                    refine WpC.ret ?_
                    cases H
                    exact Leaves.ret rfl rfl rfl ⟨rfl, rfl⟩
                  · replace H := condF hc H
                    refine WpC.skip ?_
                    exact ⟨k2, _, by omega, ⟨v109, v110, v111, r127, v113, (v114 ++ ([(⟨(3 : Int), v109, v116, v110, (0 : Int), (⟨v122, v123, v124⟩ : Timpl_Rest), ([] : List UInt8)⟩ : Timpl_Act), (⟨(4 : Int), v112, v115, (0 : Int), (0 : Int), (⟨(0 : Int), (0 : Int), (0 : Int)⟩ : Timpl_Rest), ([] : List UInt8)⟩ : Timpl_Act), (⟨(5 : Int), v109, (IntKind.i64.wrap (v115 + (1 : Int))), (0 : Int), (0 : Int), (⟨(0 : Int), (0 : Int), (0 : Int)⟩ : Timpl_Rest), ([] : List UInt8)⟩ : Timpl_Act)] : List Timpl_Act)), (IntKind.i64.wrap (v115 + (2 : Int))), (IntKind.i64.wrap (v116 + (1 : Int))), v117, v118, v119, v120, v121, v122, v123, v124, by omega, H, rfl⟩, Le.mk [(0, 0), (1, 1), (2, 4)] hm rfl ⟨⟨_, rfl, rfl⟩, ⟨_, rfl, rfl⟩, ⟨_, rfl, rfl⟩, ⟨_, rfl, rfl⟩, ⟨_, rfl, rfl⟩, ⟨_, rfl, rfl⟩, ⟨_, rfl, rfl⟩, ⟨_, rfl, rfl⟩, ⟨_, rfl, rfl⟩, ⟨_, rfl, rfl⟩, trivial⟩ ⟨⟨_, rfl, rfl⟩, trivial⟩ ⟨⟨_, _, rfl, rfl, rfl⟩, ⟨_, _, rfl, rfl, rfl⟩, trivial⟩⟩
            have n383 : W 2 #[true, true, true, true, true, true, true, false, true, false] (mkSt [(1, one (cI a1)), (2, one (cI a2)), (4, one (cI a4)), (5, one (Cell.ptr 0 0)), (8, one (Cell.ptr 1 0)), (11, one (cI r21)), (46, one (Cell.pe g1 (eI b22) 0))] [] [(0, [Cell.sl g0 (List.map eI a0.UserRealm), Cell.sl g1 (List.map eI a0.ServiceRealm), Cell.sl g2 (List.map eTimpl_Pair a0.Links), Cell.sl g3 (List.map eTimpl_Pair a0.Proxy), cI a0.Skew]), (1, [cI a3.Servers, cI a3.Ops, cI a3.End])] 2) := by
              refine hI _ _ _ ?_
              refine A.all [7] (by kernel_rfl) rfl ⟨⟨_, rfl, ?_⟩, trivial⟩
              refine L.loadPe shape3 hF rfl rfl rfl rfl rfl ?_
              refine L.nil ?_
              exact A.on (hO _ _ _ n511) (Le.mk [(0, 0), (1, 1)] hm rfl ⟨⟨_, rfl, rfl⟩, ⟨_, rfl, rfl⟩, ⟨_, rfl, rfl⟩, ⟨_, rfl, rfl⟩, ⟨_, rfl, rfl⟩, ⟨_, rfl, rfl⟩, ⟨_, rfl, rfl⟩, trivial⟩ trivial ⟨⟨_, _, rfl, rfl, rfl⟩, ⟨_, _, rfl, rfl, rfl⟩, trivial⟩)
            have n251 : W 3 #[true, true, false, true, true, true, true, true, false, false] (mkSt [(1, one (cI a1)), (2, one (cI a2)), (4, one (cI a4)), (5, one (Cell.ptr 0 0)), (8, one (Cell.ptr 1 0)), (40, agg [Cell.sl g0 (List.map eI a0.UserRealm), Cell.sl g1 (List.map eI a0.ServiceRealm), Cell.sl g2 (List.map eTimpl_Pair a0.Links), Cell.sl g3 (List.map eTimpl_Pair a0.Proxy), cI a0.Skew]), (41, one (cI a1)), (47, one (cI b22))] [] [(0, [Cell.sl g0 (List.map eI a0.UserRealm), Cell.sl g1 (List.map eI a0.ServiceRealm), Cell.sl g2 (List.map eTimpl_Pair a0.Links), Cell.sl g3 (List.map eTimpl_Pair a0.Proxy), cI a0.Skew]), (1, [cI a3.Servers, cI a3.Ops, cI a3.End])] 2) := by
              refine hI _ _ _ ?_
              refine A.all [2] (by kernel_rfl) rfl ⟨⟨_, rfl, ?_⟩, trivial⟩
              refine L.call [false, false] [] [] 2 hF rfl rfl rfl ent159 rfl rfl rfl rfl rfl (Fimpl_RealmOf_gives k g0 g1 g2 g3 a0 a1 r21 hr21) rfl ?_
              refine L.nil ?_
              refine A.take 8 rfl (by kernel_rfl) (by kernel_rfl) (by kernel_rfl) rfl (Ca.assign) (fun Q0 k0 => L.assign hF rfl rfl rfl (L.nil k0)) ?_
              exact A.on (hO _ _ _ n511) (Le.mk [(0, 0), (1, 1)] hm rfl ⟨⟨_, rfl, rfl⟩, ⟨_, rfl, rfl⟩, ⟨_, rfl, rfl⟩, ⟨_, rfl, rfl⟩, ⟨_, rfl, rfl⟩, ⟨_, rfl, rfl⟩, ⟨_, rfl, rfl⟩, trivial⟩ trivial ⟨⟨_, _, rfl, rfl, rfl⟩, ⟨_, _, rfl, rfl, rfl⟩, trivial⟩)
            have n123 : W 4 #[true, true, false, true, true, true, true, false, false, false] (mkSt [(1, one (cI a1)), (2, one (cI a2)), (4, one (cI a4)), (5, one (Cell.ptr 0 0)), (8, one (Cell.ptr 1 0)), (40, agg [Cell.sl g0 (List.map eI a0.UserRealm), Cell.sl g1 (List.map eI a0.ServiceRealm), Cell.sl g2 (List.map eTimpl_Pair a0.Links), Cell.sl g3 (List.map eTimpl_Pair a0.Proxy), cI a0.Skew]), (41, one (cI a1)), (46, one (Cell.pe g1 (eI b22) 0))] [] [(0, [Cell.sl g0 (List.map eI a0.UserRealm), Cell.sl g1 (List.map eI a0.ServiceRealm), Cell.sl g2 (List.map eTimpl_Pair a0.Links), Cell.sl g3 (List.map eTimpl_Pair a0.Proxy), cI a0.Skew]), (1, [cI a3.Servers, cI a3.Ops, cI a3.End])] 2) := by
              refine hI _ _ _ ?_
              refine A.all [2, 7] (by kernel_rfl) rfl ⟨⟨_, rfl, ?_⟩, ⟨_, rfl, ?_⟩, trivial⟩
              · refine L.call [false, false] [] [] 2 hF rfl rfl rfl ent159 rfl rfl rfl rfl rfl (Fimpl_RealmOf_gives k g0 g1 g2 g3 a0 a1 r21 hr21) rfl ?_
                refine L.nil ?_
                refine A.take 8 rfl (by kernel_rfl) (by kernel_rfl) (by kernel_rfl) rfl (Ca.assign) (fun Q0 k0 => L.assign hF rfl rfl rfl (L.nil k0)) ?_
                exact A.on (hO _ _ _ n383) (Le.mk [(0, 0), (1, 1)] hm rfl ⟨⟨_, rfl, rfl⟩, ⟨_, rfl, rfl⟩, ⟨_, rfl, rfl⟩, ⟨_, rfl, rfl⟩, ⟨_, rfl, rfl⟩, ⟨_, rfl, rfl⟩, ⟨_, rfl, rfl⟩, trivial⟩ trivial ⟨⟨_, _, rfl, rfl, rfl⟩, ⟨_, _, rfl, rfl, rfl⟩, trivial⟩)
              · refine L.loadPe shape3 hF rfl rfl rfl rfl rfl ?_
                refine L.nil ?_
                exact A.on (hO _ _ _ n251) (Le.mk [(0, 0), (1, 1)] hm rfl ⟨⟨_, rfl, rfl⟩, ⟨_, rfl, rfl⟩, ⟨_, rfl, rfl⟩, ⟨_, rfl, rfl⟩, ⟨_, rfl, rfl⟩, ⟨_, rfl, rfl⟩, ⟨_, rfl, rfl⟩, ⟨_, rfl, rfl⟩, trivial⟩ trivial ⟨⟨_, _, rfl, rfl, rfl⟩, ⟨_, _, rfl, rfl, rfl⟩, trivial⟩)
            refine hI _ _ _ ?_
            refine A.take 1 rfl (by kernel_rfl) (by kernel_rfl) (by kernel_rfl) rfl (Ca.move) (fun Q0 k0 => L.move hF rfl rfl rfl (L.nil k0)) ?_
            refine A.take 3 rfl (by kernel_rfl) (by kernel_rfl) (by kernel_rfl) rfl (Ca.fieldAddr Try.underlying90 rfl info24 rfl) (fun Q0 k0 => L.fieldAddr Try.underlying90 rfl info24 rfl hF rfl rfl rfl rfl rfl (L.nil k0)) ?_
            refine A.take 5 rfl (by kernel_rfl) (by kernel_rfl) (by kernel_rfl) rfl (Ca.move) (fun Q0 k0 => L.move hF rfl rfl rfl (L.nil k0)) ?_
            refine A.all [0, 4] (by kernel_rfl) rfl ⟨⟨_, rfl, ?_⟩, ⟨_, rfl, ?_⟩, trivial⟩
            · refine L.loadPtr shape90 hF rfl rfl rfl rfl rfl rfl ?_
              refine L.nil ?_
              refine A.all [2, 4] (by kernel_rfl) rfl ⟨⟨_, rfl, ?_⟩, ⟨_, rfl, ?_⟩, trivial⟩
              · refine L.call [false, false] [] [] 18 hF rfl rfl rfl ent159 rfl rfl rfl rfl rfl (Fimpl_RealmOf_gives k g0 g1 g2 g3 a0 a1 r21 hr21) rfl ?_
                refine L.nil ?_
                refine A.take 8 rfl (by kernel_rfl) (by kernel_rfl) (by kernel_rfl) rfl (Ca.assign) (fun Q0 k0 => L.assign hF rfl rfl rfl (L.nil k0)) ?_
                refine A.all [4] (by kernel_rfl) rfl ⟨⟨_, rfl, ?_⟩, trivial⟩
                refine L.loadPtr shape24 hF rfl rfl rfl rfl rfl rfl ?_
                refine L.nil ?_
                refine A.take 6 rfl (by kernel_rfl) (by kernel_rfl) (by kernel_rfl) rfl (Ca.indexAddr) (fun Q0 k0 => L.idxR (xs := a0.ServiceRealm) (e := eI) Try.underlying24 info3 hF rfl rfl rfl rfl rfl hb22 rfl rfl (L.nil k0)) ?_
                exact A.on (hO _ _ _ n383) (Le.mk [(0, 11), (1, 12)] hm rfl ⟨⟨_, rfl, rfl⟩, ⟨_, rfl, rfl⟩, ⟨_, rfl, rfl⟩, ⟨_, rfl, rfl⟩, ⟨_, rfl, rfl⟩, ⟨_, rfl, rfl⟩, ⟨_, rfl, rfl⟩, trivial⟩ trivial ⟨⟨_, _, rfl, rfl, rfl⟩, ⟨_, _, rfl, rfl, rfl⟩, trivial⟩)
              · refine L.loadPtr shape24 hF rfl rfl rfl rfl rfl rfl ?_
                refine L.nil ?_
                refine A.take 6 rfl (by kernel_rfl) (by kernel_rfl) (by kernel_rfl) rfl (Ca.indexAddr) (fun Q0 k0 => L.idxR (xs := a0.ServiceRealm) (e := eI) Try.underlying24 info3 hF rfl rfl rfl rfl rfl hb22 rfl rfl (L.nil k0)) ?_
                exact A.on (hO _ _ _ n123) (Le.mk [(0, 11), (1, 12)] hm rfl ⟨⟨_, rfl, rfl⟩, ⟨_, rfl, rfl⟩, ⟨_, rfl, rfl⟩, ⟨_, rfl, rfl⟩, ⟨_, rfl, rfl⟩, ⟨_, rfl, rfl⟩, ⟨_, rfl, rfl⟩, ⟨_, rfl, rfl⟩, trivial⟩ trivial ⟨⟨_, _, rfl, rfl, rfl⟩, ⟨_, _, rfl, rfl, rfl⟩, trivial⟩)
            · refine L.loadPtr shape24 hF rfl rfl rfl rfl rfl rfl ?_
              refine L.nil ?_
              refine A.take 6 rfl (by kernel_rfl) (by kernel_rfl) (by kernel_rfl) rfl (Ca.indexAddr) (fun Q0 k0 => L.idxR (xs := a0.ServiceRealm) (e := eI) Try.underlying24 info3 hF rfl rfl rfl rfl rfl hb22 rfl rfl (L.nil k0)) ?_
              refine A.all [0, 7] (by kernel_rfl) rfl ⟨⟨_, rfl, ?_⟩, ⟨_, rfl, ?_⟩, trivial⟩
              · refine L.loadPtr shape90 hF rfl rfl rfl rfl rfl rfl ?_
                refine L.nil ?_
                exact A.on (hO _ _ _ n123) (Le.mk [(0, 11), (1, 12)] hm rfl ⟨⟨_, rfl, rfl⟩, ⟨_, rfl, rfl⟩, ⟨_, rfl, rfl⟩, ⟨_, rfl, rfl⟩, ⟨_, rfl, rfl⟩, ⟨_, rfl, rfl⟩, ⟨_, rfl, rfl⟩, ⟨_, rfl, rfl⟩, trivial⟩ trivial ⟨⟨_, _, rfl, rfl, rfl⟩, ⟨_, _, rfl, rfl, rfl⟩, trivial⟩)
              · refine L.loadPe shape3 hF rfl rfl rfl rfl rfl ?_
                refine L.nil ?_
                refine A.all [0] (by kernel_rfl) rfl ⟨⟨_, rfl, ?_⟩, trivial⟩
                refine L.loadPtr shape90 hF rfl rfl rfl rfl rfl rfl ?_
                refine L.nil ?_
                exact A.on (hO _ _ _ n251) (Le.mk [(0, 11), (1, 12)] hm rfl ⟨⟨_, rfl, rfl⟩, ⟨_, rfl, rfl⟩, ⟨_, rfl, rfl⟩, ⟨_, rfl, rfl⟩, ⟨_, rfl, rfl⟩, ⟨_, rfl, rfl⟩, ⟨_, rfl, rfl⟩, ⟨_, rfl, rfl⟩, trivial⟩ trivial ⟨⟨_, _, rfl, rfl, rfl⟩, ⟨_, _, rfl, rfl, rfl⟩, trivial⟩)
/-! ### Flaws_eqRest -/
def Flaws_eqRest (k : Nat) (a0 : Timpl_Rest) (a1 : Timpl_Rest) : Option Bool := cond (a0.Servers != a1.Servers) (some false) (cond (a0.Ops != a1.Ops) (some false) (cond (a0.End != a1.End) (some false) (some true)))
theorem ent147 : Enters Try.prog 147 := ⟨Try.f147, Try.func147, rfl, by decide⟩
set_option maxHeartbeats 8000000 in
set_option maxRecDepth 100000 in
theorem Flaws_eqRest_gives (k : Nat) (a0 : Timpl_Rest) (a1 : Timpl_Rest) (r : Bool) (H : Flaws_eqRest k a0 a1 = some r) : Gives Try.prog 147 [V.agg [cI a0.Servers, cI a0.Ops, cI a0.End], V.agg [cI a1.Servers, cI a1.Ops, cI a1.End]] [] [V.one (cL r)] [] := by
  refine Gives.intro Try.func147 rfl rfl rfl rfl ?_
  intro F hF hm
  unfold Flaws_eqRest at H
  obtain ⟨K, hK⟩ : ∃ K, k ≤ K := ⟨k, Nat.le_refl k⟩
  refine WpC.seq ?_
  refine WpC.regionL ?_
  refine L.box 6 hF rfl rfl rfl rfl ?_
  refine L.box 7 hF rfl rfl rfl rfl ?_
  refine L.assign hF rfl rfl rfl ?_
  refine L.nil ?_
  refine WpC.seq ?_
  refine WpC.seq ?_
  refine WpC.regionL ?_
  refine L.fieldAddr Try.underlying74 rfl info3 rfl hF rfl rfl rfl rfl rfl ?_
  refine L.loadPtr shape3 hF rfl rfl rfl rfl rfl rfl ?_
  refine L.fieldAddr Try.underlying74 rfl info3 rfl hF rfl rfl rfl rfl rfl ?_
  refine L.loadPtr shape3 hF rfl rfl rfl rfl rfl rfl ?_
  refine L.bin hF rfl rfl rfl rfl rfl rfl ?_
  refine L.nil ?_
  refine WpC.cond rfl (fun hc => ?_) (fun hc => ?_)
  · replace H := condT hc H
    refine WpC.seq ?_
    refine WpC.regionL ?_
    refine L.assign hF rfl rfl rfl ?_
    refine L.nil ?_
    refine WpC.ret ?_
    cases H
    exact Leaves.ret rfl rfl rfl ⟨rfl, rfl⟩
  · replace H := condF hc H
    refine WpC.skip ?_
    refine WpC.seq ?_
    refine WpC.seq ?_
    refine WpC.regionL ?_
    refine L.fieldAddr Try.underlying74 rfl info3 rfl hF rfl rfl rfl rfl rfl ?_
    refine L.loadPtr shape3 hF rfl rfl rfl rfl rfl rfl ?_
    refine L.fieldAddr Try.underlying74 rfl info3 rfl hF rfl rfl rfl rfl rfl ?_
    refine L.loadPtr shape3 hF rfl rfl rfl rfl rfl rfl ?_
    refine L.bin hF rfl rfl rfl rfl rfl rfl ?_
    refine L.nil ?_
    refine WpC.cond rfl (fun hc => ?_) (fun hc => ?_)
    · replace H := condT hc H
      refine WpC.seq ?_
      refine WpC.regionL ?_
      refine L.assign hF rfl rfl rfl ?_
      refine L.nil ?_
      refine WpC.ret ?_
      cases H
      exact Leaves.ret rfl rfl rfl ⟨rfl, rfl⟩
    · replace H := condF hc H
      refine WpC.skip ?_
      refine WpC.seq ?_
      refine WpC.seq ?_
      refine WpC.regionL ?_
      refine L.fieldAddr Try.underlying74 rfl info3 rfl hF rfl rfl rfl rfl rfl ?_
      refine L.loadPtr shape3 hF rfl rfl rfl rfl rfl rfl ?_
      refine L.fieldAddr Try.underlying74 rfl info3 rfl hF rfl rfl rfl rfl rfl ?_
      refine L.loadPtr shape3 hF rfl rfl rfl rfl rfl rfl ?_
      refine L.bin hF rfl rfl rfl rfl rfl rfl ?_
      refine L.nil ?_
      refine WpC.cond rfl (fun hc => ?_) (fun hc => ?_)
      · replace H := condT hc H
        refine WpC.seq ?_
        refine WpC.regionL ?_
        refine L.assign hF rfl rfl rfl ?_
        refine L.nil ?_
        refine WpC.ret ?_
        cases H
        exact Leaves.ret rfl rfl rfl ⟨rfl, rfl⟩
      · replace H := condF hc H
        refine WpC.skip ?_
        refine WpC.seq ?_
        refine WpC.regionL ?_
        refine L.assign hF rfl rfl rfl ?_
        refine L.nil ?_
        refine WpC.ret ?_
        cases H
        exact Leaves.ret rfl rfl rfl ⟨rfl, rfl⟩
/-! ### Flaws_eqAct -/
def Flaws_eqAct (k : Nat) (a0 : Timpl_Act) (a1 : Timpl_Act) : Option Bool := cond (a0.Kind != a1.Kind) (some false) (cond (a0.A != a1.A) (some false) (cond (a0.B != a1.B) (some false) (cond (a0.C != a1.C) (some false) (cond (a0.D != a1.D) (some false) ((Flaws_eqRest k (⟨a0.Rest.Servers, a0.Rest.Ops, a0.Rest.End⟩ : Timpl_Rest) (⟨a1.Rest.Servers, a1.Rest.Ops, a1.Rest.End⟩ : Timpl_Rest)).bind fun r2 => cond (!r2) (some false) (cond (a0.Text != a1.Text) (some false) (some true)))))))
theorem ent161 : Enters Try.prog 161 := ⟨Try.f161, Try.func161, rfl, by decide⟩
set_option maxHeartbeats 8000000 in
set_option maxRecDepth 100000 in
theorem Flaws_eqAct_gives (k : Nat) (a0 : Timpl_Act) (a1 : Timpl_Act) (r : Bool) (H : Flaws_eqAct k a0 a1 = some r) : Gives Try.prog 161 [V.agg [cI a0.Kind, cI a0.A, cI a0.B, cI a0.C, cI a0.D, cI a0.Rest.Servers, cI a0.Rest.Ops, cI a0.Rest.End, cS a0.Text], V.agg [cI a1.Kind, cI a1.A, cI a1.B, cI a1.C, cI a1.D, cI a1.Rest.Servers, cI a1.Rest.Ops, cI a1.Rest.End, cS a1.Text]] [] [V.one (cL r)] [] := by
  refine Gives.intro Try.func161 rfl rfl rfl rfl ?_
  intro F hF hm
  unfold Flaws_eqAct at H
  obtain ⟨K, hK⟩ : ∃ K, k ≤ K := ⟨k, Nat.le_refl k⟩
  refine WpC.seq ?_
  refine WpC.regionL ?_
  refine L.box 18 hF rfl rfl rfl rfl ?_
  refine L.box 19 hF rfl rfl rfl rfl ?_
  refine L.assign hF rfl rfl rfl ?_
  refine L.nil ?_
  refine WpC.seq ?_
  refine WpC.seq ?_
  refine WpC.regionL ?_
  refine L.fieldAddr Try.underlying195 rfl info3 rfl hF rfl rfl rfl rfl rfl ?_
  refine L.loadPtr shape3 hF rfl rfl rfl rfl rfl rfl ?_
  refine L.fieldAddr Try.underlying195 rfl info3 rfl hF rfl rfl rfl rfl rfl ?_
  refine L.loadPtr shape3 hF rfl rfl rfl rfl rfl rfl ?_
  refine L.bin hF rfl rfl rfl rfl rfl rfl ?_
  refine L.nil ?_
  refine WpC.cond rfl (fun hc => ?_) (fun hc => ?_)
  · replace H := condT hc H
    refine WpC.seq ?_
    refine WpC.regionL ?_
    refine L.assign hF rfl rfl rfl ?_
    refine L.nil ?_
    refine WpC.ret ?_
    cases H
    exact Leaves.ret rfl rfl rfl ⟨rfl, rfl⟩
  · replace H := condF hc H
    refine WpC.skip ?_
    refine WpC.seq ?_
    refine WpC.seq ?_
    refine WpC.regionL ?_
    refine L.fieldAddr Try.underlying195 rfl info3 rfl hF rfl rfl rfl rfl rfl ?_
    refine L.loadPtr shape3 hF rfl rfl rfl rfl rfl rfl ?_
    refine L.fieldAddr Try.underlying195 rfl info3 rfl hF rfl rfl rfl rfl rfl ?_
    refine L.loadPtr shape3 hF rfl rfl rfl rfl rfl rfl ?_
    refine L.bin hF rfl rfl rfl rfl rfl rfl ?_
    refine L.nil ?_
    refine WpC.cond rfl (fun hc => ?_) (fun hc => ?_)
    · replace H := condT hc H
      refine WpC.seq ?_
      refine WpC.regionL ?_
      refine L.assign hF rfl rfl rfl ?_
      refine L.nil ?_
      refine WpC.ret ?_
      cases H
      exact Leaves.ret rfl rfl rfl ⟨rfl, rfl⟩
    · replace H := condF hc H
      refine WpC.skip ?_
      refine WpC.seq ?_
      refine WpC.seq ?_
      refine WpC.regionL ?_
      refine L.fieldAddr Try.underlying195 rfl info3 rfl hF rfl rfl rfl rfl rfl ?_
      refine L.loadPtr shape3 hF rfl rfl rfl rfl rfl rfl ?_
      refine L.fieldAddr Try.underlying195 rfl info3 rfl hF rfl rfl rfl rfl rfl ?_
      refine L.loadPtr shape3 hF rfl rfl rfl rfl rfl rfl ?_
      refine L.bin hF rfl rfl rfl rfl rfl rfl ?_
      refine L.nil ?_
      refine WpC.cond rfl (fun hc => ?_) (fun hc => ?_)
      · replace H := condT hc H
        refine WpC.seq ?_
        refine WpC.regionL ?_
        refine L.assign hF rfl rfl rfl ?_
        refine L.nil ?_
        refine WpC.ret ?_
        cases H
        exact Leaves.ret rfl rfl rfl ⟨rfl, rfl⟩
      · replace H := condF hc H
        refine WpC.skip ?_
        refine WpC.seq ?_
        refine WpC.seq ?_
        refine WpC.regionL ?_
        refine L.fieldAddr Try.underlying195 rfl info3 rfl hF rfl rfl rfl rfl rfl ?_
        refine L.loadPtr shape3 hF rfl rfl rfl rfl rfl rfl ?_
        refine L.fieldAddr Try.underlying195 rfl info3 rfl hF rfl rfl rfl rfl rfl ?_
        refine L.loadPtr shape3 hF rfl rfl rfl rfl rfl rfl ?_
        refine L.bin hF rfl rfl rfl rfl rfl rfl ?_
        refine L.nil ?_
        refine WpC.cond rfl (fun hc => ?_) (fun hc => ?_)
        · replace H := condT hc H
          refine WpC.seq ?_
          refine WpC.regionL ?_
          refine L.assign hF rfl rfl rfl ?_
          refine L.nil ?_
          refine WpC.ret ?_
          cases H
          exact Leaves.ret rfl rfl rfl ⟨rfl, rfl⟩
        · replace H := condF hc H
          refine WpC.skip ?_
          refine WpC.seq ?_
          refine WpC.seq ?_
          refine WpC.regionL ?_
          refine L.fieldAddr Try.underlying195 rfl info3 rfl hF rfl rfl rfl rfl rfl ?_
          refine L.loadPtr shape3 hF rfl rfl rfl rfl rfl rfl ?_
          refine L.fieldAddr Try.underlying195 rfl info3 rfl hF rfl rfl rfl rfl rfl ?_
          refine L.loadPtr shape3 hF rfl rfl rfl rfl rfl rfl ?_
          refine L.bin hF rfl rfl rfl rfl rfl rfl ?_
          refine L.nil ?_
          refine WpC.cond rfl (fun hc => ?_) (fun hc => ?_)
          · replace H := condT hc H
            refine WpC.seq ?_
            refine WpC.regionL ?_
            refine L.assign hF rfl rfl rfl ?_
            refine L.nil ?_
            refine WpC.ret ?_
            cases H
            exact Leaves.ret rfl rfl rfl ⟨rfl, rfl⟩
          · replace H := condF hc H
            refine WpC.skip ?_
            refine WpC.seq ?_
            refine WpC.seq ?_
            refine WpC.regionL ?_
            refine L.fieldAddr Try.underlying195 rfl info74 rfl hF rfl rfl rfl rfl rfl ?_
            refine L.loadPtr shape74 hF rfl rfl rfl rfl rfl rfl ?_
            refine L.fieldAddr Try.underlying195 rfl info74 rfl hF rfl rfl rfl rfl rfl ?_
            refine L.loadPtr shape74 hF rfl rfl rfl rfl rfl rfl ?_
            obtain ⟨r2, hr2, H⟩ := bindS H
            refine L.call [false, false] [] [] 20 hF rfl rfl rfl ent147 rfl rfl rfl rfl rfl (Flaws_eqRest_gives k  (⟨a0.Rest.Servers, a0.Rest.Ops, a0.Rest.End⟩ : Timpl_Rest) (⟨a1.Rest.Servers, a1.Rest.Ops, a1.Rest.End⟩ : Timpl_Rest) r2 hr2) rfl ?_
            refine L.not hF rfl rfl rfl ?_
            refine L.nil ?_
            refine WpC.cond rfl (fun hc => ?_) (fun hc => ?_)
            · replace H := condT hc H
              refine WpC.seq ?_
              refine WpC.regionL ?_
              refine L.assign hF rfl rfl rfl ?_
              refine L.nil ?_
              refine WpC.ret ?_
              cases H
              exact Leaves.ret rfl rfl rfl ⟨rfl, rfl⟩
            · replace H := condF hc H
              refine WpC.skip ?_
              refine WpC.seq ?_
              refine WpC.seq ?_
              refine WpC.regionL ?_
              refine L.fieldAddr Try.underlying195 rfl info9 rfl hF rfl rfl rfl rfl rfl ?_
              refine L.loadPtr shape9 hF rfl rfl rfl rfl rfl rfl ?_
              refine L.fieldAddr Try.underlying195 rfl info9 rfl hF rfl rfl rfl rfl rfl ?_
              refine L.loadPtr shape9 hF rfl rfl rfl rfl rfl rfl ?_
              refine L.binS hF rfl rfl rfl rfl rfl ?_
              refine L.nil ?_
              refine WpC.cond rfl (fun hc => ?_) (fun hc => ?_)
              · replace H := condT hc H
                refine WpC.seq ?_
                refine WpC.regionL ?_
                refine L.assign hF rfl rfl rfl ?_
                refine L.nil ?_
                refine WpC.ret ?_
                cases H
                exact Leaves.ret rfl rfl rfl ⟨rfl, rfl⟩
              · replace H := condF hc H
                refine WpC.skip ?_
                refine WpC.seq ?_
                refine WpC.regionL ?_
                refine L.assign hF rfl rfl rfl ?_
                refine L.nil ?_
                refine WpC.ret ?_
                cases H
                exact Leaves.ret rfl rfl rfl ⟨rfl, rfl⟩
/-! ### Flaws_eqActS -/
def Flaws_eqActS.l2 : Nat → (List Timpl_Act) → (List Timpl_Act) → Int → Option Bool
  | 0, _, _, _ => none
  | k2 + 1, v44, v45, v46 => cond (decide (v46 < (v44.length : Int))) ((at? v44 v46).bind fun b50 => (at? v45 v46).bind fun b51 => (Flaws_eqAct k2 b50 b51).bind fun r52 => cond (!r52) (some false) ((Flaws_eqActS.l2 k2) v44 v45 (IntKind.i64.wrap (v46 + (1 : Int))))) (some true)
def Flaws_eqActS (k : Nat) (a0 : List Timpl_Act) (a1 : List Timpl_Act) : Option Bool := cond ((a0.length : Int) != (a1.length : Int)) (some false) (Flaws_eqActS.l2 k a0 a1 (0 : Int))
theorem ent74 : Enters Try.prog 74 := ⟨Try.f74, Try.func74, rfl, by decide⟩
set_option maxHeartbeats 8000000 in
set_option maxRecDepth 100000 in
theorem Flaws_eqActS_gives (k : Nat) (g0 : Bool) (g1 : Bool) (a0 : List Timpl_Act) (a1 : List Timpl_Act) (r : Bool) (H : Flaws_eqActS k a0 a1 = some r) : Gives Try.prog 74 [V.one (Cell.sl g0 (List.map eTimpl_Act a0)), V.one (Cell.sl g1 (List.map eTimpl_Act a1))] [] [V.one (cL r)] [] := by
  refine Gives.intro Try.func74 rfl rfl rfl rfl ?_
  intro F hF hm
  unfold Flaws_eqActS at H
  obtain ⟨K, hK⟩ : ∃ K, k ≤ K := ⟨k, Nat.le_refl k⟩
  refine WpC.seq ?_
  refine WpC.regionL ?_
  refine L.assign hF rfl rfl rfl ?_
  refine L.nil ?_
  refine WpC.seq ?_
  refine WpC.seq ?_
  refine WpC.regionL ?_
  refine L.move hF rfl rfl rfl ?_
  refine L.lenR (xs := a0) (e := eTimpl_Act) Try.underlying86 hF rfl rfl rfl rfl ?_
  refine L.move hF rfl rfl rfl ?_
  refine L.lenR (xs := a1) (e := eTimpl_Act) Try.underlying86 hF rfl rfl rfl rfl ?_
  refine L.bin hF rfl rfl rfl rfl rfl rfl ?_
  refine L.nil ?_
  refine WpC.cond rfl (fun hc => ?_) (fun hc => ?_)
  · replace H := condT hc H
    refine WpC.seq ?_
    refine WpC.regionL ?_
    refine L.assign hF rfl rfl rfl ?_
    refine L.nil ?_
    refine WpC.ret ?_
    cases H
    exact Leaves.ret rfl rfl rfl ⟨rfl, rfl⟩
  · replace H := condF hc H
    refine WpC.skip ?_
    refine WpC.seq ?_
    refine WpC.seq ?_
    refine WpC.regionL ?_
    refine L.assign hF rfl rfl rfl ?_
    refine L.nil ?_
    refine WpC.block ?_
    refine WpC.loopL (P := Try.prog) (fun n σ => ∃ v44 : List Timpl_Act, ∃ v45 : List Timpl_Act, ∃ v46 : Int, n ≤ K ∧ Flaws_eqActS.l2 n v44 v45 v46 = some r ∧ σ = mkSt [(0, one (Cell.sl g0 (List.map eTimpl_Act v44))), (1, one (Cell.sl g1 (List.map eTimpl_Act v45))), (5, one (cI v46))] [] [] 0) k ⟨_, ⟨a0, a1, (0 : Int), by omega, H, rfl⟩, Le.mk [] hm rfl ⟨⟨_, rfl, rfl⟩, ⟨_, rfl, rfl⟩, ⟨_, rfl, rfl⟩, trivial⟩ trivial trivial⟩ ?_
    clear H
    rintro k2 _ ⟨v44, v45, v46, hk2, H, rfl⟩
    cases k2 with
    | zero => cases H
    | succ k2 =>
      rw [Flaws_eqActS.l2] at H
      refine WpC.seq ?_
      refine WpC.seq ?_
      refine WpC.regionL ?_
      refine L.move hF rfl rfl rfl ?_
      refine L.move hF rfl rfl rfl ?_
      refine L.lenR (xs := v44) (e := eTimpl_Act) Try.underlying86 hF rfl rfl rfl rfl ?_
      refine L.bin hF rfl rfl rfl rfl rfl rfl ?_
      refine L.nil ?_
      refine WpC.cond rfl (fun hc => ?_) (fun hc => ?_)
      · replace H := condT hc H
        refine WpC.skip ?_
        refine WpC.seq ?_
        refine WpC.block ?_
        refine WpC.seq ?_
        obtain ⟨b50, hb50, H⟩ := bindS H
        obtain ⟨b51, hb51, H⟩ := bindS H
        obtain ⟨r52, hr52, H⟩ := bindS H
        refine A.begin mixed rfl rfl ?_
        intro W hI hO
        have n255 : W 2 #[true, true, true, true, true, true, true, true, false, false] (mkSt [(0, one (Cell.sl g0 (List.map eTimpl_Act v44))), (1, one (Cell.sl g1 (List.map eTimpl_Act v45))), (5, one (cI v46)), (20, agg [cI b50.Kind, cI b50.A, cI b50.B, cI b50.C, cI b50.D, cI b50.Rest.Servers, cI b50.Rest.Ops, cI b50.Rest.End, cS b50.Text]), (24, agg [cI b51.Kind, cI b51.A, cI b51.B, cI b51.C, cI b51.D, cI b51.Rest.Servers, cI b51.Rest.Ops, cI b51.Rest.End, cS b51.Text])] [] [] 0) := by
          refine hI _ _ _ ?_
          refine A.all [8] (by kernel_rfl) rfl ⟨⟨_, rfl, ?_⟩, trivial⟩
          refine L.call [false, false] [] [] 0 hF rfl rfl rfl ent161 rfl rfl rfl rfl rfl (Flaws_eqAct_gives k2  b50 b51 r52 hr52) rfl ?_
          refine L.nil ?_
          refine A.take 9 rfl (by kernel_rfl) (by kernel_rfl) (by kernel_rfl) rfl (Ca.un rfl rfl) (fun Q0 k0 => L.not hF rfl rfl rfl (L.nil k0)) ?_
          refine A.le (τ := mkSt [(0, one (Cell.sl g0 (List.map eTimpl_Act v44))), (1, one (Cell.sl g1 (List.map eTimpl_Act v45))), (5, one (cI v46)), (26, one (cL (!r52)))] [] [] 0) (Le.mk [] hm rfl ⟨⟨_, rfl, rfl⟩, ⟨_, rfl, rfl⟩, ⟨_, rfl, rfl⟩, ⟨_, rfl, rfl⟩, trivial⟩ trivial trivial) ?_
          refine A.done (by kernel_rfl) ?_
          refine WpC.cond rfl (fun hc => ?_) (fun hc => ?_)
          · replace H := condT hc H
            refine WpC.seq ?_
            refine WpC.regionL ?_
            refine L.assign hF rfl rfl rfl ?_
            refine L.nil ?_
            refine WpC.ret ?_
            cases H
            exact Leaves.ret rfl rfl rfl ⟨rfl, rfl⟩
          · replace H := condF hc H
            refine WpC.skip ?_
            refine WpC.regionL ?_
            refine L.move hF rfl rfl rfl ?_
            refine L.bin hF rfl rfl rfl rfl rfl rfl ?_
            refine L.assign hF rfl rfl rfl ?_
            refine L.nil ?_
            exact ⟨k2, _, by omega, ⟨v44, v45, (IntKind.i64.wrap (v46 + (1 : Int))), by omega, H, rfl⟩, Le.mk [] hm rfl ⟨⟨_, rfl, rfl⟩, ⟨_, rfl, rfl⟩, ⟨_, rfl, rfl⟩, trivial⟩ trivial trivial⟩
        refine hI _ _ _ ?_
        refine A.take 0 rfl (by kernel_rfl) (by kernel_rfl) (by kernel_rfl) rfl (Ca.move) (fun Q0 k0 => L.move hF rfl rfl rfl (L.nil k0)) ?_
        refine A.take 1 rfl (by kernel_rfl) (by kernel_rfl) (by kernel_rfl) rfl (Ca.move) (fun Q0 k0 => L.move hF rfl rfl rfl (L.nil k0)) ?_
        refine A.take 2 rfl (by kernel_rfl) (by kernel_rfl) (by kernel_rfl) rfl (Ca.indexAddr) (fun Q0 k0 => L.idxR (xs := v44) (e := eTimpl_Act) Try.underlying86 info195 hF rfl rfl rfl rfl rfl hb50 rfl rfl (L.nil k0)) ?_
        refine A.take 4 rfl (by kernel_rfl) (by kernel_rfl) (by kernel_rfl) rfl (Ca.move) (fun Q0 k0 => L.move hF rfl rfl rfl (L.nil k0)) ?_
        refine A.take 5 rfl (by kernel_rfl) (by kernel_rfl) (by kernel_rfl) rfl (Ca.move) (fun Q0 k0 => L.move hF rfl rfl rfl (L.nil k0)) ?_
        refine A.take 6 rfl (by kernel_rfl) (by kernel_rfl) (by kernel_rfl) rfl (Ca.indexAddr) (fun Q0 k0 => L.idxR (xs := v45) (e := eTimpl_Act) Try.underlying86 info195 hF rfl rfl rfl rfl rfl hb51 rfl rfl (L.nil k0)) ?_
        refine A.all [3, 7] (by kernel_rfl) rfl ⟨⟨_, rfl, ?_⟩, ⟨_, rfl, ?_⟩, trivial⟩
        · refine L.loadPe shape195 hF rfl rfl rfl rfl rfl ?_
          refine L.nil ?_
          refine A.all [7] (by kernel_rfl) rfl ⟨⟨_, rfl, ?_⟩, trivial⟩
          refine L.loadPe shape195 hF rfl rfl rfl rfl rfl ?_
          refine L.nil ?_
          exact A.on (hO _ _ _ n255) (Le.mk [] hm rfl ⟨⟨_, rfl, rfl⟩, ⟨_, rfl, rfl⟩, ⟨_, rfl, rfl⟩, ⟨_, rfl, rfl⟩, ⟨_, rfl, rfl⟩, trivial⟩ trivial trivial)
        · refine L.loadPe shape195 hF rfl rfl rfl rfl rfl ?_
          refine L.nil ?_
          refine A.all [3] (by kernel_rfl) rfl ⟨⟨_, rfl, ?_⟩, trivial⟩
          refine L.loadPe shape195 hF rfl rfl rfl rfl rfl ?_
          refine L.nil ?_
          exact A.on (hO _ _ _ n255) (Le.mk [] hm rfl ⟨⟨_, rfl, rfl⟩, ⟨_, rfl, rfl⟩, ⟨_, rfl, rfl⟩, ⟨_, rfl, rfl⟩, ⟨_, rfl, rfl⟩, trivial⟩ trivial trivial)
      · replace H := condF hc H
        refine WpC.exit ?_
        refine WpC.seq ?_
        refine WpC.regionL ?_
        refine L.assign hF rfl rfl rfl ?_
        refine L.nil ?_
        refine WpC.ret ?_
        cases H
        exact Leaves.ret rfl rfl rfl ⟨rfl, rfl⟩
end Go.Proofs.Ytcolcmjcjpikcaa.M
