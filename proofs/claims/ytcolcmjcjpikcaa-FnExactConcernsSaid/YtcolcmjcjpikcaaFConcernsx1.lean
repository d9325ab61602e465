import Derived.Test.YtcolcmjcjpikcaaFConcernsx0
import Derived.Test.YtcolcmjcjpikcaaProg
namespace Go.Proofs.Ytcolcmjcjpikcaa.M
open Go Go.MG
set_option linter.unusedVariables false
set_option linter.unusedSimpArgs false
/-! ### Fspec_Concerns -/
def Fspec_Concerns.j8 (cl7 : (List Int) → Int → (List Int) → (List Int) → (List Timpl_Pair) → (List Timpl_Pair) → Int → Int → Int → Int → Int → Int → Int → Int → Int → Int → Int → Int → (List Int) → (List Int) → Int → (List UInt8) → Option (List Int)) (k : Nat) (v306 : List Int) (v307 : Int) (v308 : List Int) (v309 : List Int) (v310 : List Timpl_Pair) (v311 : List Timpl_Pair) (v312 : Int) (v313 : Int) (v314 : Int) (v315 : Int) (v316 : Int) (v317 : Int) (v318 : Int) (v319 : Int) (v320 : Int) (v321 : Int) (v322 : Int) (v323 : Int) (v324 : List Int) (v325 : List Int) (v326 : Int) (v327 : List UInt8) : Option (List Int) := cl7 v306 (IntKind.i64.wrap (v307 + (1 : Int))) v308 v309 v310 v311 v312 v313 v314 v315 v316 v317 v318 v319 v320 v321 v322 v323 v324 v325 v326 v327
def Fspec_Concerns.j126 (cl115 : (List Int) → (List Int) → Int → Option (List Int)) (k : Nat) (v1736 : List Int) (v1737 : List Int) (v1738 : Int) : Option (List Int) := cl115 v1736 v1737 (IntKind.i64.wrap (v1738 + (1 : Int)))
def Fspec_Concerns.j135 (cl133 : (List Int) → (List Int) → Int → Int → Option (List Int)) (k : Nat) (v1847 : List Int) (v1848 : List Int) (v1849 : Int) (v1850 : Int) : Option (List Int) := cl133 v1847 v1848 v1849 (IntKind.i64.wrap (v1850 + (1 : Int)))
def Fspec_Concerns.j136 (cl133 : (List Int) → (List Int) → Int → Int → Option (List Int)) (k : Nat) (v1855 : List Int) (v1856 : List Int) (v1857 : Int) (v1858 : Int) (v1859 : Bool) : Option (List Int) := cond v1859 ((at? v1856 v1857).bind fun b1860 => (at? v1856 v1858).bind fun b1861 => (Fspec_LinkKey k b1860 b1861).bind fun r1862 => (Fspec_l3Put k v1855 r1862).bind fun r1863 => Fspec_Concerns.j135 cl133 k r1863 v1856 v1857 v1858) (Fspec_Concerns.j135 cl133 k v1855 v1856 v1857 v1858)
def Fspec_Concerns.l133 (cl115 : (List Int) → (List Int) → Int → Option (List Int)) : Nat → (List Int) → (List Int) → Int → Int → Option (List Int)
  | 0, _, _, _, _ => none
  | k133 + 1, v1826, v1827, v1828, v1829 => cond (decide (v1829 < (v1827.length : Int))) ((at? v1827 v1829).bind fun b1864 => (Fspec_l6Realm k133 b1864).bind fun r1865 => cond r1865 ((at? v1827 v1828).bind fun b1867 => (at? v1827 v1829).bind fun b1868 => Fspec_Concerns.j136 (Fspec_Concerns.l133 cl115 k133) k133 v1826 v1827 v1828 v1829 (b1867 != b1868)) (Fspec_Concerns.j136 (Fspec_Concerns.l133 cl115 k133) k133 v1826 v1827 v1828 v1829 false)) (Fspec_Concerns.j126 cl115 k133 v1826 v1827 v1828)
def Fspec_Concerns.l115 : Nat → (List Int) → (List Int) → Int → Option (List Int)
  | 0, _, _, _ => none
  | k115 + 1, v1604, v1605, v1606 => cond (decide (v1606 < (v1605.length : Int))) ((at? v1605 v1606).bind fun b1741 => (Fspec_l6Realm k115 b1741).bind fun r1742 => cond (!r1742) (Fspec_Concerns.j126 (Fspec_Concerns.l115 k115) k115 v1604 v1605 v1606) ((at? v1605 v1606).bind fun b1743 => (Fspec_CentreKey k115 b1743).bind fun r1744 => (Fspec_l3Put k115 v1604 r1744).bind fun r1745 => Fspec_Concerns.l133 (Fspec_Concerns.l115 k115) k115 r1745 v1605 v1606 (0 : Int))) (some v1604)
def Fspec_Concerns.l7 : Nat → (List Int) → Int → (List Int) → (List Int) → (List Timpl_Pair) → (List Timpl_Pair) → Int → Int → Int → Int → Int → Int → Int → Int → Int → Int → Int → Int → (List Int) → (List Int) → Int → (List UInt8) → Option (List Int)
  | 0, _, _, _, _, _, _, _, _, _, _, _, _, _, _, _, _, _, _, _, _, _, _ => none
  | k7 + 1, v279, v280, v281, v282, v283, v284, v285, v286, v287, v288, v289, v290, v291, v292, v293, v294, v295, v296, v297, v298, v299, v300 => cond (decide (v280 < (v298.length : Int))) ((at? v298 v280).bind fun b328 => (Fspec_l1In k7 b328 (0 : Int) (2 : Int)).bind fun r329 => cond r329 ((at? v298 v280).bind fun b330 => (Fspec_PrincipalKey k7 (IntKind.i64.wrap ((3 : Int) + b330))).bind fun r331 => (Fspec_l3Put k7 v279 r331).bind fun r332 => Fspec_Concerns.j8 (Fspec_Concerns.l7 k7) k7 r332 v280 v281 v282 v283 v284 v285 v286 v287 v288 v289 v290 v291 v292 v293 v294 v295 v296 v297 v298 v299 v300) (Fspec_Concerns.j8 (Fspec_Concerns.l7 k7) k7 v279 v280 v281 v282 v283 v284 v285 v286 v287 v288 v289 v290 v291 v292 v293 v294 v295 v296 v297 v298 v299 v300)) ((Fspec_RealmOf k7 (⟨v281, v282, v283, v284, v285⟩ : Timpl_Config) v287).bind fun r333 => (at? v282 v286).bind fun b334 => cond (decide ((2 * (([r333, b334] : List Int).length + v297.length) + 192) * 8 ≤ 281474976710656)) (Fspec_Concerns.l115 k7 v279 (([r333, b334] : List Int) ++ v297) (0 : Int)) none)
def Fspec_Concerns (k : Nat) (a0 : Timpl_Config) (a1 : Timpl_Accept) : Option (List Int) := (Fspec_ConfigOk k a0).bind fun r7 => cond (!r7) (some ([] : List Int)) (cond (decide (a1.Server < (0 : Int))) (some ([] : List Int)) (cond (decide (a1.Server ≥ (3 : Int))) (some ([] : List Int)) ((Fspec_l5Principal k a1.Client).bind fun r8 => cond (!r8) (some ([] : List Int)) ((Fspec_PrincipalKey k a1.Client).bind fun r9 => (Fspec_l3Put k ([] : List Int) r9).bind fun r10 => (Fspec_PrincipalKey k (IntKind.i64.wrap ((3 : Int) + a1.Server))).bind fun r11 => (Fspec_l3Put k r10 r11).bind fun r12 => Fspec_Concerns.l7 k r12 (0 : Int) a0.UserRealm a0.ServiceRealm a0.Links a0.Proxy a0.Skew a1.Server a1.Client a1.Key a1.Op a1.Now a1.Auth.Client a1.Auth.Time a1.Auth.Seq a1.Rest.Servers a1.Rest.Ops a1.Rest.End a1.Path a1.Via a1.Leaks a1.Ticket))))
theorem ent88 : MG.Enters Try.prog 88 := ⟨Try.f88, Try.func88, rfl, by decide⟩
set_option maxHeartbeats 8000000 in
set_option maxRecDepth 100000 in
theorem Fspec_Concerns_gives (k : Nat) (g0 : Bool) (g1 : Bool) (g2 : Bool) (g3 : Bool) (g4 : Bool) (g5 : Bool) (a0 : Timpl_Config) (a1 : Timpl_Accept) (r : List Int) (H : Fspec_Concerns k a0 a1 = some r) : Gives Try.prog 88 [V.agg [Cell.sl g0 (List.map eI a0.UserRealm), Cell.sl g1 (List.map eI a0.ServiceRealm), Cell.sl g2 (List.map eTimpl_Pair a0.Links), Cell.sl g3 (List.map eTimpl_Pair a0.Proxy), cI a0.Skew], V.agg [cI a1.Server, cI a1.Client, cI a1.Key, cI a1.Op, cI a1.Now, cI a1.Auth.Client, cI a1.Auth.Time, cI a1.Auth.Seq, cI a1.Rest.Servers, cI a1.Rest.Ops, cI a1.Rest.End, Cell.sl g4 (List.map eI a1.Path), Cell.sl g5 (List.map eI a1.Via), cI a1.Leaks, cS a1.Ticket]] [] [V.one (Cell.sl true (List.map eI r))] [] := by
  refine Gives.intro Try.func88 rfl rfl rfl rfl ?_
  intro F hF hm
  unfold Fspec_Concerns at H
  obtain ⟨K, hK⟩ : ∃ K, k ≤ K := ⟨k, Nat.le_refl k⟩
  refine WpC.seq ?_
  refine WpC.regionL ?_
  refine L.box 20 hF rfl rfl rfl rfl ?_
  refine L.box 21 hF rfl rfl rfl rfl ?_
  refine L.assign hF rfl rfl rfl ?_
  refine L.nil ?_
  refine WpC.seq ?_
  refine WpC.regionL ?_
  refine L.buildSlice (e := eI) 22 ([] : List Int) Try.underlying24 info3 rfl rfl rfl hF rfl rfl rfl rfl rfl rfl rfl rfl ?_
  refine L.assign hF rfl rfl rfl ?_
  refine L.nil ?_
  refine WpC.seq ?_
  refine WpC.seq ?_
  refine WpC.regionL ?_
  refine L.loadPtr shape90 hF rfl rfl rfl rfl rfl rfl ?_
  obtain ⟨r7, hr7, H⟩ := bindS H
  refine L.call [false] [] [] 23 hF rfl rfl rfl ent150 rfl rfl rfl rfl rfl (Fspec_ConfigOk_gives k g0 g1 g2 g3 a0 r7 hr7) rfl ?_
  refine L.not hF rfl rfl rfl ?_
  refine L.move hF rfl rfl rfl ?_
  refine L.split (fun hc => ?_) (fun hc => ?_)
  · replace H := condT hc H
    refine L.off hF rfl rfl ?_
    refine L.off hF rfl rfl ?_
    refine L.off hF rfl rfl ?_
    refine L.pick hF rfl rfl rfl rfl ?_
    refine L.move hF rfl rfl rfl ?_
    refine L.off hF rfl rfl ?_
    refine L.off hF rfl rfl ?_
    refine L.off hF rfl rfl ?_
    refine L.pick hF rfl rfl rfl rfl ?_
    refine L.move hF rfl rfl rfl ?_
    refine L.off hF rfl rfl ?_
    refine L.off hF rfl rfl ?_
    refine L.off hF rfl rfl ?_
    refine L.off hF rfl rfl ?_
    refine L.pick hF rfl rfl rfl rfl ?_
    refine L.nil ?_
    refine WpC.cond rfl (fun _ => ?_) (fun hc => by cases hc)
    refine WpC.seq ?_
    refine WpC.regionL ?_
    refine L.move hF rfl rfl rfl ?_
    refine L.assign hF rfl rfl rfl ?_
    refine L.nil ?_
    refine WpC.le (Le.shareAll 22 rfl) ?_
    refine WpC.ret ?_
    cases H
    exact Leaves.ret rfl rfl rfl ⟨rfl, rfl⟩
  · replace H := condF hc H
    refine L.fieldAddr Try.underlying113 rfl info3 rfl hF rfl rfl rfl rfl rfl ?_
    refine L.loadPtr shape3 hF rfl rfl rfl rfl rfl rfl ?_
    refine L.bin hF rfl rfl rfl rfl rfl rfl ?_
    refine L.pick hF rfl rfl rfl rfl ?_
    refine L.move hF rfl rfl rfl ?_
    refine L.split (fun hc => ?_) (fun hc => ?_)
    · replace H := condT hc H
      refine L.off hF rfl rfl ?_
      refine L.off hF rfl rfl ?_
      refine L.off hF rfl rfl ?_
      refine L.pick hF rfl rfl rfl rfl ?_
      refine L.move hF rfl rfl rfl ?_
      refine L.off hF rfl rfl ?_
      refine L.off hF rfl rfl ?_
      refine L.off hF rfl rfl ?_
      refine L.off hF rfl rfl ?_
      refine L.pick hF rfl rfl rfl rfl ?_
      refine L.nil ?_
      refine WpC.cond rfl (fun _ => ?_) (fun hc => by cases hc)
      refine WpC.seq ?_
      refine WpC.regionL ?_
      refine L.move hF rfl rfl rfl ?_
      refine L.assign hF rfl rfl rfl ?_
      refine L.nil ?_
      refine WpC.le (Le.shareAll 22 rfl) ?_
      refine WpC.ret ?_
      cases H
      exact Leaves.ret rfl rfl rfl ⟨rfl, rfl⟩
    · replace H := condF hc H
      refine L.fieldAddr Try.underlying113 rfl info3 rfl hF rfl rfl rfl rfl rfl ?_
      refine L.loadPtr shape3 hF rfl rfl rfl rfl rfl rfl ?_
      refine L.bin hF rfl rfl rfl rfl rfl rfl ?_
      refine L.pick hF rfl rfl rfl rfl ?_
      refine L.move hF rfl rfl rfl ?_
      refine L.split (fun hc => ?_) (fun hc => ?_)
      · replace H := condT hc H
        refine L.off hF rfl rfl ?_
        refine L.off hF rfl rfl ?_
        refine L.off hF rfl rfl ?_
        refine L.off hF rfl rfl ?_
        refine L.pick hF rfl rfl rfl rfl ?_
        refine L.nil ?_
        refine WpC.cond rfl (fun _ => ?_) (fun hc => by cases hc)
        refine WpC.seq ?_
        refine WpC.regionL ?_
        refine L.move hF rfl rfl rfl ?_
        refine L.assign hF rfl rfl rfl ?_
        refine L.nil ?_
        refine WpC.le (Le.shareAll 22 rfl) ?_
        refine WpC.ret ?_
        cases H
        exact Leaves.ret rfl rfl rfl ⟨rfl, rfl⟩
      · replace H := condF hc H
        refine L.fieldAddr Try.underlying113 rfl info3 rfl hF rfl rfl rfl rfl rfl ?_
        refine L.loadPtr shape3 hF rfl rfl rfl rfl rfl rfl ?_
        obtain ⟨r8, hr8, H⟩ := bindS H
        refine L.call [false] [] [] 24 hF rfl rfl rfl ent142 rfl rfl rfl rfl rfl (Fspec_l5Principal_gives k  a1.Client r8 hr8) rfl ?_
        refine L.not hF rfl rfl rfl ?_
        refine L.pick hF rfl rfl rfl rfl ?_
        refine L.nil ?_
        refine WpC.cond rfl (fun hc => ?_) (fun hc => ?_)
        · replace H := condT hc H
          refine WpC.seq ?_
          refine WpC.regionL ?_
          refine L.move hF rfl rfl rfl ?_
          refine L.assign hF rfl rfl rfl ?_
          refine L.nil ?_
          refine WpC.le (Le.shareAll 22 rfl) ?_
          refine WpC.ret ?_
          cases H
          exact Leaves.ret rfl rfl rfl ⟨rfl, rfl⟩
        · replace H := condF hc H
          refine WpC.skip ?_
          refine WpC.seq ?_
          obtain ⟨r9, hr9, H⟩ := bindS H
          obtain ⟨r10, hr10, H⟩ := bindS H
          obtain ⟨r11, hr11, H⟩ := bindS H
          obtain ⟨r12, hr12, H⟩ := bindS H
          refine A.begin mixed rfl rfl ?_
          intro W hI hO
          have n255 : W 3 #[true, true, true, true, true, true, true, true, false, false, false] (mkSt [(2, MG.one (Cell.ptr 0 0)), (3, MG.one (Cell.ptr 1 0)), (5, MG.one (Cell.sl true (List.map eI ([] : List Int)))), (35, MG.one (Cell.sl true (List.map eI r10))), (38, MG.one (cI (IntKind.i64.wrap ((3 : Int) + a1.Server))))] [] [(0, [Cell.sl g0 (List.map eI a0.UserRealm), Cell.sl g1 (List.map eI a0.ServiceRealm), Cell.sl g2 (List.map eTimpl_Pair a0.Links), Cell.sl g3 (List.map eTimpl_Pair a0.Proxy), cI a0.Skew]), (1, [cI a1.Server, cI a1.Client, cI a1.Key, cI a1.Op, cI a1.Now, cI a1.Auth.Client, cI a1.Auth.Time, cI a1.Auth.Seq, cI a1.Rest.Servers, cI a1.Rest.Ops, cI a1.Rest.End, Cell.sl g4 (List.map eI a1.Path), Cell.sl g5 (List.map eI a1.Via), cI a1.Leaks, cS a1.Ticket])] 2) := by
            refine hI _ _ _ ?_
            refine A.all [8] (by kernel_rfl) rfl ⟨⟨_, rfl, ?_⟩, trivial⟩
            refine L.call [false] [] [] 2 hF rfl rfl rfl ent176 rfl rfl rfl rfl rfl (Fspec_PrincipalKey_gives k  (IntKind.i64.wrap ((3 : Int) + a1.Server)) r11 hr11) rfl ?_
            refine L.nil ?_
            refine A.all [9] (by kernel_rfl) rfl ⟨⟨_, rfl, ?_⟩, trivial⟩
            refine L.call [false, false] [] [] 3 hF rfl rfl rfl ent175 rfl rfl rfl rfl rfl (Fspec_l3Put_gives k  r10 r11 r12 hr12) rfl ?_
            refine L.nil ?_
            refine A.take 10 rfl (by kernel_rfl) (by kernel_rfl) (by kernel_rfl) rfl (Ca.assign) (fun Q0 k0 => L.assign hF rfl rfl rfl (L.nil k0)) ?_
            refine A.le (τ := mkSt [(2, MG.one (Cell.ptr 0 0)), (3, MG.one (Cell.ptr 1 0)), (5, MG.one (Cell.sl true (List.map eI r12)))] [] [(0, [Cell.sl g0 (List.map eI a0.UserRealm), Cell.sl g1 (List.map eI a0.ServiceRealm), Cell.sl g2 (List.map eTimpl_Pair a0.Links), Cell.sl g3 (List.map eTimpl_Pair a0.Proxy), cI a0.Skew]), (1, [cI a1.Server, cI a1.Client, cI a1.Key, cI a1.Op, cI a1.Now, cI a1.Auth.Client, cI a1.Auth.Time, cI a1.Auth.Seq, cI a1.Rest.Servers, cI a1.Rest.Ops, cI a1.Rest.End, Cell.sl g4 (List.map eI a1.Path), Cell.sl g5 (List.map eI a1.Via), cI a1.Leaks, cS a1.Ticket])] 2) (Le.mk [(0, 0), (1, 1)] hm rfl ⟨⟨_, rfl, rfl⟩, ⟨_, rfl, rfl⟩, ⟨_, rfl, rfl⟩, trivial⟩ trivial ⟨⟨_, _, rfl, rfl, rfl⟩, ⟨_, _, rfl, rfl, rfl⟩, trivial⟩) ?_
            refine A.done (by kernel_rfl) ?_
            refine WpC.seq ?_
            refine WpC.seq ?_
            refine WpC.regionL ?_
            refine L.assign hF rfl rfl rfl ?_
            refine L.nil ?_
            refine WpC.block ?_
            refine WpC.loopL (P := Try.prog) (fun n σ => ∃ v279 : List Int, ∃ v280 : Int, ∃ v281 : List Int, ∃ v282 : List Int, ∃ v283 : List Timpl_Pair, ∃ v284 : List Timpl_Pair, ∃ v285 : Int, ∃ v286 : Int, ∃ v287 : Int, ∃ v288 : Int, ∃ v289 : Int, ∃ v290 : Int, ∃ v291 : Int, ∃ v292 : Int, ∃ v293 : Int, ∃ v294 : Int, ∃ v295 : Int, ∃ v296 : Int, ∃ v297 : List Int, ∃ v298 : List Int, ∃ v299 : Int, ∃ v300 : List UInt8, n ≤ K ∧ Fspec_Concerns.l7 n v279 v280 v281 v282 v283 v284 v285 v286 v287 v288 v289 v290 v291 v292 v293 v294 v295 v296 v297 v298 v299 v300 = some r ∧ σ = mkSt [(2, MG.one (Cell.ptr 0 0)), (3, MG.one (Cell.ptr 1 0)), (5, MG.one (Cell.sl true (List.map eI v279))), (6, MG.one (cI v280))] [] [(0, [Cell.sl g0 (List.map eI v281), Cell.sl g1 (List.map eI v282), Cell.sl g2 (List.map eTimpl_Pair v283), Cell.sl g3 (List.map eTimpl_Pair v284), cI v285]), (1, [cI v286, cI v287, cI v288, cI v289, cI v290, cI v291, cI v292, cI v293, cI v294, cI v295, cI v296, Cell.sl g4 (List.map eI v297), Cell.sl g5 (List.map eI v298), cI v299, cS v300])] 2) k ⟨_, ⟨r12, (0 : Int), a0.UserRealm, a0.ServiceRealm, a0.Links, a0.Proxy, a0.Skew, a1.Server, a1.Client, a1.Key, a1.Op, a1.Now, a1.Auth.Client, a1.Auth.Time, a1.Auth.Seq, a1.Rest.Servers, a1.Rest.Ops, a1.Rest.End, a1.Path, a1.Via, a1.Leaks, a1.Ticket, by omega, H, rfl⟩, Le.mk [(0, 0), (1, 1)] hm rfl ⟨⟨_, rfl, rfl⟩, ⟨_, rfl, rfl⟩, ⟨_, rfl, rfl⟩, ⟨_, rfl, rfl⟩, trivial⟩ trivial ⟨⟨_, _, rfl, rfl, rfl⟩, ⟨_, _, rfl, rfl, rfl⟩, trivial⟩⟩ ?_
            clear H
            rintro k7 _ ⟨v279, v280, v281, v282, v283, v284, v285, v286, v287, v288, v289, v290, v291, v292, v293, v294, v295, v296, v297, v298, v299, v300, hk7, H, rfl⟩
            cases k7 with
            | zero => cases H
            | succ k7 =>
              rw [Fspec_Concerns.l7] at H
              refine WpC.seq ?_
              refine WpC.seq ?_
              refine WpC.regionL ?_
              refine L.move hF rfl rfl rfl ?_
              refine L.fieldAddr Try.underlying113 rfl info24 rfl hF rfl rfl rfl rfl rfl ?_
              refine L.loadPtr shape24 hF rfl rfl rfl rfl rfl rfl ?_
              refine L.lenR (xs := v298) (e := eI) Try.underlying24 hF rfl rfl rfl rfl ?_
              refine L.bin hF rfl rfl rfl rfl rfl rfl ?_
              refine L.nil ?_
              refine WpC.cond rfl (fun hc => ?_) (fun hc => ?_)
              · replace H := condT hc H
                refine WpC.skip ?_
                refine WpC.join (fun σ => ∃ kj8 : Nat, ∃ v306 : List Int, ∃ v307 : Int, ∃ v308 : List Int, ∃ v309 : List Int, ∃ v310 : List Timpl_Pair, ∃ v311 : List Timpl_Pair, ∃ v312 : Int, ∃ v313 : Int, ∃ v314 : Int, ∃ v315 : Int, ∃ v316 : Int, ∃ v317 : Int, ∃ v318 : Int, ∃ v319 : Int, ∃ v320 : Int, ∃ v321 : Int, ∃ v322 : Int, ∃ v323 : Int, ∃ v324 : List Int, ∃ v325 : List Int, ∃ v326 : Int, ∃ v327 : List UInt8, kj8 ≤ K ∧ Fspec_Concerns.j8 (Fspec_Concerns.l7 k7) kj8 v306 v307 v308 v309 v310 v311 v312 v313 v314 v315 v316 v317 v318 v319 v320 v321 v322 v323 v324 v325 v326 v327 = some r ∧ σ = mkSt [(2, MG.one (Cell.ptr 0 0)), (3, MG.one (Cell.ptr 1 0)), (5, MG.one (Cell.sl true (List.map eI v306))), (6, MG.one (cI v307))] [] [(0, [Cell.sl g0 (List.map eI v308), Cell.sl g1 (List.map eI v309), Cell.sl g2 (List.map eTimpl_Pair v310), Cell.sl g3 (List.map eTimpl_Pair v311), cI v312]), (1, [cI v313, cI v314, cI v315, cI v316, cI v317, cI v318, cI v319, cI v320, cI v321, cI v322, cI v323, Cell.sl g4 (List.map eI v324), Cell.sl g5 (List.map eI v325), cI v326, cS v327])] 2) ?_ ?_
                · rintro _ ⟨kj8, v306, v307, v308, v309, v310, v311, v312, v313, v314, v315, v316, v317, v318, v319, v320, v321, v322, v323, v324, v325, v326, v327, hkj8, H, rfl⟩
                  unfold Fspec_Concerns.j8 at H
                  refine WpC.regionL ?_
                  refine L.move hF rfl rfl rfl ?_
                  refine L.bin hF rfl rfl rfl rfl rfl rfl ?_
                  refine L.assign hF rfl rfl rfl ?_
                  refine L.nil ?_
                  exact ⟨k7, _, by omega, ⟨v306, (IntKind.i64.wrap (v307 + (1 : Int))), v308, v309, v310, v311, v312, v313, v314, v315, v316, v317, v318, v319, v320, v321, v322, v323, v324, v325, v326, v327, by omega, H, rfl⟩, Le.mk [(0, 0), (1, 1)] hm rfl ⟨⟨_, rfl, rfl⟩, ⟨_, rfl, rfl⟩, ⟨_, rfl, rfl⟩, ⟨_, rfl, rfl⟩, trivial⟩ trivial ⟨⟨_, _, rfl, rfl, rfl⟩, ⟨_, _, rfl, rfl, rfl⟩, trivial⟩⟩
                · refine WpC.block ?_
                  refine WpC.seq ?_
                  refine WpC.regionL ?_
                  refine L.fieldAddr Try.underlying113 rfl info24 rfl hF rfl rfl rfl rfl rfl ?_
                  refine L.loadPtr shape24 hF rfl rfl rfl rfl rfl rfl ?_
                  refine L.move hF rfl rfl rfl ?_
                  obtain ⟨b328, hb328, H⟩ := bindS H
                  refine L.idxR (xs := v298) (e := eI) Try.underlying24 info3 hF rfl rfl rfl rfl rfl hb328 rfl rfl ?_
                  refine L.loadPe shape3 hF rfl rfl rfl rfl rfl ?_
                  obtain ⟨r329, hr329, H⟩ := bindS H
                  refine L.call [false, false, false] [] [] 2 hF rfl rfl rfl ent152 rfl rfl rfl rfl rfl (Fspec_l1In_gives k7  b328 (0 : Int) (2 : Int) r329 hr329) rfl ?_
                  refine L.nil ?_
                  refine WpC.cond rfl (fun hc => ?_) (fun hc => ?_)
                  · replace H := condT hc H
                    refine WpC.regionL ?_
                    refine L.move hF rfl rfl rfl ?_
                    refine L.fieldAddr Try.underlying113 rfl info24 rfl hF rfl rfl rfl rfl rfl ?_
                    refine L.loadPtr shape24 hF rfl rfl rfl rfl rfl rfl ?_
                    refine L.move hF rfl rfl rfl ?_
                    obtain ⟨b330, hb330, H⟩ := bindS H
                    refine L.idxR (xs := v298) (e := eI) Try.underlying24 info3 hF rfl rfl rfl rfl rfl hb330 rfl rfl ?_
                    refine L.loadPe shape3 hF rfl rfl rfl rfl rfl ?_
                    refine L.bin hF rfl rfl rfl rfl rfl rfl ?_
                    obtain ⟨r331, hr331, H⟩ := bindS H
                    refine L.call [false] [] [] 3 hF rfl rfl rfl ent176 rfl rfl rfl rfl rfl (Fspec_PrincipalKey_gives k7  (IntKind.i64.wrap ((3 : Int) + b330)) r331 hr331) rfl ?_
                    obtain ⟨r332, hr332, H⟩ := bindS H
                    refine L.call [false, false] [] [] 4 hF rfl rfl rfl ent175 rfl rfl rfl rfl rfl (Fspec_l3Put_gives k7  v279 r331 r332 hr332) rfl ?_
                    refine L.assign hF rfl rfl rfl ?_
                    refine L.nil ?_
                    exact ⟨_, ⟨k7, r332, v280, v281, v282, v283, v284, v285, v286, v287, v288, v289, v290, v291, v292, v293, v294, v295, v296, v297, v298, v299, v300, by omega, H, rfl⟩, Le.mk [(0, 0), (1, 1)] hm rfl ⟨⟨_, rfl, rfl⟩, ⟨_, rfl, rfl⟩, ⟨_, rfl, rfl⟩, ⟨_, rfl, rfl⟩, trivial⟩ trivial ⟨⟨_, _, rfl, rfl, rfl⟩, ⟨_, _, rfl, rfl, rfl⟩, trivial⟩⟩
                  · replace H := condF hc H
                    refine WpC.skip ?_
                    exact ⟨_, ⟨k7, v279, v280, v281, v282, v283, v284, v285, v286, v287, v288, v289, v290, v291, v292, v293, v294, v295, v296, v297, v298, v299, v300, by omega, H, rfl⟩, Le.mk [(0, 0), (1, 1)] hm rfl ⟨⟨_, rfl, rfl⟩, ⟨_, rfl, rfl⟩, ⟨_, rfl, rfl⟩, ⟨_, rfl, rfl⟩, trivial⟩ trivial ⟨⟨_, _, rfl, rfl, rfl⟩, ⟨_, _, rfl, rfl, rfl⟩, trivial⟩⟩
              · replace H := condF hc H
                refine WpC.exit ?_
                refine WpC.seq ?_
                obtain ⟨r333, hr333, H⟩ := bindS H
                obtain ⟨b334, hb334, H⟩ := bindS H
                obtain ⟨h335, H⟩ := condG H
                refine A.begin mixed rfl rfl ?_
                intro W hI hO
                have n8191 : W 2 #[true, true, true, true, true, true, true, true, true, true, true, true, true, false, false] (mkSt [(5, MG.one (Cell.sl true (List.map eI v279))), (73, MG.one (Cell.own 0)), (75, MG.one (Cell.sl g4 (List.map eI v297)))] [(0, ⟨1, List.map eI ([r333, b334] : List Int)⟩)] [] 1) := by
                  refine hI _ _ _ ?_
                  refine A.all [13] (by kernel_rfl) rfl ⟨⟨_, rfl, ?_⟩, trivial⟩
                  refine L.append (xs := ([r333, b334] : List Int)) (ys := v297) (e := eI) 1 Try.underlying24 info3 rfl rfl hF rfl rfl rfl rfl rfl rfl rfl rfl (fun _ => rfl) (fun _ _ h1 h2 => by cases h1; cases h2; rfl) ⟨_, Try.underlying24⟩ (of_decide_eq_true h335) rfl rfl ?_
                  refine L.nil ?_
                  refine A.take 14 rfl (by kernel_rfl) (by kernel_rfl) (by kernel_rfl) rfl (Ca.assign) (fun Q0 k0 => L.assign hF rfl rfl rfl (L.nil k0)) ?_
                  refine A.le (τ := mkSt [(5, MG.one (Cell.sl true (List.map eI v279))), (7, MG.one (Cell.own 0))] [(0, ⟨1, List.map eI (([r333, b334] : List Int) ++ v297)⟩)] [] 1) (Le.mk [(0, 1)] hm rfl ⟨⟨_, rfl, rfl⟩, ⟨_, rfl, rfl⟩, trivial⟩ ⟨⟨_, rfl, rfl⟩, trivial⟩ trivial) ?_
                  refine A.done (by kernel_rfl) ?_
                  refine WpC.seq ?_
                  refine WpC.seq ?_
                  refine WpC.regionL ?_
                  refine L.assign hF rfl rfl rfl ?_
                  refine L.nil ?_
                  refine WpC.block ?_
                  refine WpC.loopL (P := Try.prog) (fun n σ => ∃ v1604 : List Int, ∃ v1605 : List Int, ∃ v1606 : Int, n ≤ K ∧ Fspec_Concerns.l115 n v1604 v1605 v1606 = some r ∧ σ = mkSt [(5, MG.one (Cell.sl true (List.map eI v1604))), (7, MG.one (Cell.own 0)), (8, MG.one (cI v1606))] [(0, ⟨1, List.map eI v1605⟩)] [] 1) k7 ⟨_, ⟨v279, (([r333, b334] : List Int) ++ v297), (0 : Int), by omega, H, rfl⟩, Le.mk [(0, 0)] hm rfl ⟨⟨_, rfl, rfl⟩, ⟨_, rfl, rfl⟩, ⟨_, rfl, rfl⟩, trivial⟩ ⟨⟨_, rfl, rfl⟩, trivial⟩ trivial⟩ ?_
                  clear H
                  rintro k115 _ ⟨v1604, v1605, v1606, hk115, H, rfl⟩
                  cases k115 with
                  | zero => cases H
                  | succ k115 =>
                    rw [Fspec_Concerns.l115] at H
                    refine WpC.seq ?_
                    refine WpC.seq ?_
                    refine WpC.regionL ?_
                    refine L.move hF rfl rfl rfl ?_
                    refine L.move hF rfl rfl rfl ?_
                    refine L.lenR (xs := v1605) (e := eI) Try.underlying24 hF rfl rfl rfl rfl ?_
                    refine L.bin hF rfl rfl rfl rfl rfl rfl ?_
                    refine L.nil ?_
                    refine WpC.cond rfl (fun hc => ?_) (fun hc => ?_)
                    · replace H := condT hc H
                      refine WpC.skip ?_
                      refine WpC.join (fun σ => ∃ kj126 : Nat, ∃ v1736 : List Int, ∃ v1737 : List Int, ∃ v1738 : Int, kj126 ≤ K ∧ Fspec_Concerns.j126 (Fspec_Concerns.l115 k115) kj126 v1736 v1737 v1738 = some r ∧ σ = mkSt [(5, MG.one (Cell.sl true (List.map eI v1736))), (7, MG.one (Cell.own 0)), (8, MG.one (cI v1738))] [(0, ⟨1, List.map eI v1737⟩)] [] 1) ?_ ?_
                      · rintro _ ⟨kj126, v1736, v1737, v1738, hkj126, H, rfl⟩
                        unfold Fspec_Concerns.j126 at H
                        refine WpC.regionL ?_
                        refine L.move hF rfl rfl rfl ?_
                        refine L.bin hF rfl rfl rfl rfl rfl rfl ?_
                        refine L.assign hF rfl rfl rfl ?_
                        refine L.nil ?_
                        exact ⟨k115, _, by omega, ⟨v1736, v1737, (IntKind.i64.wrap (v1738 + (1 : Int))), by omega, H, rfl⟩, Le.mk [(0, 0)] hm rfl ⟨⟨_, rfl, rfl⟩, ⟨_, rfl, rfl⟩, ⟨_, rfl, rfl⟩, trivial⟩ ⟨⟨_, rfl, rfl⟩, trivial⟩ trivial⟩
                      · refine WpC.block ?_
                        refine WpC.seq ?_
                        refine WpC.seq ?_
                        refine WpC.regionL ?_
                        refine L.move hF rfl rfl rfl ?_
                        refine L.move hF rfl rfl rfl ?_
                        obtain ⟨b1741, hb1741, H⟩ := bindS H
                        refine L.idxR (xs := v1605) (e := eI) Try.underlying24 info3 hF rfl rfl rfl rfl rfl hb1741 rfl rfl ?_
                        refine L.loadEp (xs := v1605) (e := eI) shape3 hF rfl rfl rfl rfl (at?_get hb1741).2 rfl rfl ?_
                        obtain ⟨r1742, hr1742, H⟩ := bindS H
                        refine L.call [false] [] [] 1 hF rfl rfl rfl ent177 rfl rfl rfl rfl rfl (Fspec_l6Realm_gives k115  b1741 r1742 hr1742) rfl ?_
                        refine L.not hF rfl rfl rfl ?_
                        refine L.nil ?_
                        refine WpC.cond rfl (fun hc => ?_) (fun hc => ?_)
                        · replace H := condT hc H
                          refine WpC.exit ?_
                          exact ⟨_, ⟨k115, v1604, v1605, v1606, by omega, H, rfl⟩, Le.mk [(0, 0)] hm rfl ⟨⟨_, rfl, rfl⟩, ⟨_, rfl, rfl⟩, ⟨_, rfl, rfl⟩, trivial⟩ ⟨⟨_, rfl, rfl⟩, trivial⟩ trivial⟩
                        · replace H := condF hc H
                          refine WpC.skip ?_
                          refine WpC.seq ?_
                          refine WpC.regionL ?_
                          refine L.move hF rfl rfl rfl ?_
                          refine L.move hF rfl rfl rfl ?_
                          refine L.move hF rfl rfl rfl ?_
                          obtain ⟨b1743, hb1743, H⟩ := bindS H
                          refine L.idxR (xs := v1605) (e := eI) Try.underlying24 info3 hF rfl rfl rfl rfl rfl hb1743 rfl rfl ?_
                          refine L.loadEp (xs := v1605) (e := eI) shape3 hF rfl rfl rfl rfl (at?_get hb1743).2 rfl rfl ?_
                          obtain ⟨r1744, hr1744, H⟩ := bindS H
                          refine L.call [false] [] [] 2 hF rfl rfl rfl ent178 rfl rfl rfl rfl rfl (Fspec_CentreKey_gives k115  b1743 r1744 hr1744) rfl ?_
                          obtain ⟨r1745, hr1745, H⟩ := bindS H
                          refine L.call [false, false] [] [] 3 hF rfl rfl rfl ent175 rfl rfl rfl rfl rfl (Fspec_l3Put_gives k115  v1604 r1744 r1745 hr1745) rfl ?_
                          refine L.assign hF rfl rfl rfl ?_
                          refine L.nil ?_
                          refine WpC.seq ?_
                          refine WpC.regionL ?_
                          refine L.assign hF rfl rfl rfl ?_
                          refine L.nil ?_
                          refine WpC.block ?_
                          refine WpC.loopL (P := Try.prog) (fun n σ => ∃ v1826 : List Int, ∃ v1827 : List Int, ∃ v1828 : Int, ∃ v1829 : Int, n ≤ K ∧ Fspec_Concerns.l133 (Fspec_Concerns.l115 k115) n v1826 v1827 v1828 v1829 = some r ∧ σ = mkSt [(5, MG.one (Cell.sl true (List.map eI v1826))), (7, MG.one (Cell.own 0)), (8, MG.one (cI v1828)), (9, MG.one (cI v1829))] [(0, ⟨1, List.map eI v1827⟩)] [] 1) k115 ⟨_, ⟨r1745, v1605, v1606, (0 : Int), by omega, H, rfl⟩, Le.mk [(0, 0)] hm rfl ⟨⟨_, rfl, rfl⟩, ⟨_, rfl, rfl⟩, ⟨_, rfl, rfl⟩, ⟨_, rfl, rfl⟩, trivial⟩ ⟨⟨_, rfl, rfl⟩, trivial⟩ trivial⟩ ?_
                          clear H
                          rintro k133 _ ⟨v1826, v1827, v1828, v1829, hk133, H, rfl⟩
                          cases k133 with
                          | zero => cases H
                          | succ k133 =>
                            rw [Fspec_Concerns.l133] at H
                            refine WpC.seq ?_
                            refine WpC.seq ?_
                            refine WpC.regionL ?_
                            refine L.move hF rfl rfl rfl ?_
                            refine L.move hF rfl rfl rfl ?_
                            refine L.lenR (xs := v1827) (e := eI) Try.underlying24 hF rfl rfl rfl rfl ?_
                            refine L.bin hF rfl rfl rfl rfl rfl rfl ?_
                            refine L.nil ?_
                            refine WpC.cond rfl (fun hc => ?_) (fun hc => ?_)
                            · replace H := condT hc H
                              refine WpC.skip ?_
                              refine WpC.join (fun σ => ∃ kj135 : Nat, ∃ v1847 : List Int, ∃ v1848 : List Int, ∃ v1849 : Int, ∃ v1850 : Int, kj135 ≤ K ∧ Fspec_Concerns.j135 (Fspec_Concerns.l133 (Fspec_Concerns.l115 k115) k133) kj135 v1847 v1848 v1849 v1850 = some r ∧ σ = mkSt [(5, MG.one (Cell.sl true (List.map eI v1847))), (7, MG.one (Cell.own 0)), (8, MG.one (cI v1849)), (9, MG.one (cI v1850))] [(0, ⟨1, List.map eI v1848⟩)] [] 1) ?_ ?_
                              · rintro _ ⟨kj135, v1847, v1848, v1849, v1850, hkj135, H, rfl⟩
                                unfold Fspec_Concerns.j135 at H
                                refine WpC.regionL ?_
                                refine L.move hF rfl rfl rfl ?_
                                refine L.bin hF rfl rfl rfl rfl rfl rfl ?_
                                refine L.assign hF rfl rfl rfl ?_
                                refine L.nil ?_
                                exact ⟨k133, _, by omega, ⟨v1847, v1848, v1849, (IntKind.i64.wrap (v1850 + (1 : Int))), by omega, H, rfl⟩, Le.mk [(0, 0)] hm rfl ⟨⟨_, rfl, rfl⟩, ⟨_, rfl, rfl⟩, ⟨_, rfl, rfl⟩, ⟨_, rfl, rfl⟩, trivial⟩ ⟨⟨_, rfl, rfl⟩, trivial⟩ trivial⟩
                              · refine WpC.block ?_
                                refine WpC.join (fun σ => ∃ kj136 : Nat, ∃ v1855 : List Int, ∃ v1856 : List Int, ∃ v1857 : Int, ∃ v1858 : Int, ∃ v1859 : Bool, kj136 ≤ K ∧ Fspec_Concerns.j136 (Fspec_Concerns.l133 (Fspec_Concerns.l115 k115) k133) kj136 v1855 v1856 v1857 v1858 v1859 = some r ∧ σ = mkSt [(5, MG.one (Cell.sl true (List.map eI v1855))), (7, MG.one (Cell.own 0)), (8, MG.one (cI v1857)), (9, MG.one (cI v1858)), (117, MG.one (cL v1859))] [(0, ⟨1, List.map eI v1856⟩)] [] 1) ?_ ?_
                                · rintro _ ⟨kj136, v1855, v1856, v1857, v1858, v1859, hkj136, H, rfl⟩
                                  unfold Fspec_Concerns.j136 at H
                                  refine WpC.cond rfl (fun hc => ?_) (fun hc => ?_)
                                  · replace H := condT hc H
                                    obtain ⟨b1860, hb1860, H⟩ := bindS H
                                    obtain ⟨b1861, hb1861, H⟩ := bindS H
                                    obtain ⟨r1862, hr1862, H⟩ := bindS H
                                    obtain ⟨r1863, hr1863, H⟩ := bindS H
                                    refine A.begin mixed rfl rfl ?_
                                    intro W hI hO
                                    have n511 : W 3 #[true, true, true, true, true, true, true, true, true, false, false, false] (mkSt [(5, MG.one (Cell.sl true (List.map eI v1855))), (7, MG.one (Cell.own 0)), (8, MG.one (cI v1857)), (9, MG.one (cI v1858)), (118, MG.one (Cell.sl true (List.map eI v1855))), (122, MG.one (cI b1860)), (126, MG.one (cI b1861))] [(0, ⟨1, List.map eI v1856⟩)] [] 1) := by
                                      refine hI _ _ _ ?_
                                      refine A.all [9] (by kernel_rfl) rfl ⟨⟨_, rfl, ?_⟩, trivial⟩
                                      refine L.call [false, false] [] [] 1 hF rfl rfl rfl ent179 rfl rfl rfl rfl rfl (Fspec_LinkKey_gives kj136  b1860 b1861 r1862 hr1862) rfl ?_
                                      refine L.nil ?_
                                      refine A.all [10] (by kernel_rfl) rfl ⟨⟨_, rfl, ?_⟩, trivial⟩
                                      refine L.call [false, false] [] [] 2 hF rfl rfl rfl ent175 rfl rfl rfl rfl rfl (Fspec_l3Put_gives kj136  v1855 r1862 r1863 hr1863) rfl ?_
                                      refine L.nil ?_
                                      refine A.take 11 rfl (by kernel_rfl) (by kernel_rfl) (by kernel_rfl) rfl (Ca.assign) (fun Q0 k0 => L.assign hF rfl rfl rfl (L.nil k0)) ?_
                                      refine A.le (τ := mkSt [(5, MG.one (Cell.sl true (List.map eI r1863))), (7, MG.one (Cell.own 0)), (8, MG.one (cI v1857)), (9, MG.one (cI v1858))] [(0, ⟨1, List.map eI v1856⟩)] [] 1) (Le.mk [(0, 0)] hm rfl ⟨⟨_, rfl, rfl⟩, ⟨_, rfl, rfl⟩, ⟨_, rfl, rfl⟩, ⟨_, rfl, rfl⟩, trivial⟩ ⟨⟨_, rfl, rfl⟩, trivial⟩ trivial) ?_
                                      refine A.done (by kernel_rfl) ?_
                                      exact ⟨_, ⟨kj136, r1863, v1856, v1857, v1858, by omega, H, rfl⟩, Le.mk [(0, 0)] hm rfl ⟨⟨_, rfl, rfl⟩, ⟨_, rfl, rfl⟩, ⟨_, rfl, rfl⟩, ⟨_, rfl, rfl⟩, trivial⟩ ⟨⟨_, rfl, rfl⟩, trivial⟩ trivial⟩
                                    refine hI _ _ _ ?_
                                    refine A.take 0 rfl (by kernel_rfl) (by kernel_rfl) (by kernel_rfl) rfl (Ca.move) (fun Q0 k0 => L.move hF rfl rfl rfl (L.nil k0)) ?_
                                    refine A.take 1 rfl (by kernel_rfl) (by kernel_rfl) (by kernel_rfl) rfl (Ca.move) (fun Q0 k0 => L.move hF rfl rfl rfl (L.nil k0)) ?_
                                    refine A.take 2 rfl (by kernel_rfl) (by kernel_rfl) (by kernel_rfl) rfl (Ca.move) (fun Q0 k0 => L.move hF rfl rfl rfl (L.nil k0)) ?_
                                    refine A.take 3 rfl (by kernel_rfl) (by kernel_rfl) (by kernel_rfl) rfl (Ca.indexAddr) (fun Q0 k0 => L.idxR (xs := v1856) (e := eI) Try.underlying24 info3 hF rfl rfl rfl rfl rfl hb1860 rfl rfl (L.nil k0)) ?_
                                    refine A.take 5 rfl (by kernel_rfl) (by kernel_rfl) (by kernel_rfl) rfl (Ca.move) (fun Q0 k0 => L.move hF rfl rfl rfl (L.nil k0)) ?_
                                    refine A.take 6 rfl (by kernel_rfl) (by kernel_rfl) (by kernel_rfl) rfl (Ca.move) (fun Q0 k0 => L.move hF rfl rfl rfl (L.nil k0)) ?_
                                    refine A.take 7 rfl (by kernel_rfl) (by kernel_rfl) (by kernel_rfl) rfl (Ca.indexAddr) (fun Q0 k0 => L.idxR (xs := v1856) (e := eI) Try.underlying24 info3 hF rfl rfl rfl rfl rfl hb1861 rfl rfl (L.nil k0)) ?_
                                    refine A.all [4, 8] (by kernel_rfl) rfl ⟨⟨_, rfl, ?_⟩, ⟨_, rfl, ?_⟩, trivial⟩
                                    · refine L.loadEp (xs := v1856) (e := eI) shape3 hF rfl rfl rfl rfl (at?_get hb1860).2 rfl rfl ?_
                                      refine L.nil ?_
                                      refine A.all [8] (by kernel_rfl) rfl ⟨⟨_, rfl, ?_⟩, trivial⟩
                                      refine L.loadEp (xs := v1856) (e := eI) shape3 hF rfl rfl rfl rfl (at?_get hb1861).2 rfl rfl ?_
                                      exact L.nil (A.on (hO _ _ _ n511) (Le.mk [(0, 0)] hm rfl ⟨⟨_, rfl, rfl⟩, ⟨_, rfl, rfl⟩, ⟨_, rfl, rfl⟩, ⟨_, rfl, rfl⟩, ⟨_, rfl, rfl⟩, ⟨_, rfl, rfl⟩, ⟨_, rfl, rfl⟩, trivial⟩ ⟨⟨_, rfl, rfl⟩, trivial⟩ trivial))
                                    · refine L.loadEp (xs := v1856) (e := eI) shape3 hF rfl rfl rfl rfl (at?_get hb1861).2 rfl rfl ?_
                                      refine L.nil ?_
                                      refine A.all [4] (by kernel_rfl) rfl ⟨⟨_, rfl, ?_⟩, trivial⟩
                                      refine L.loadEp (xs := v1856) (e := eI) shape3 hF rfl rfl rfl rfl (at?_get hb1860).2 rfl rfl ?_
                                      exact L.nil (A.on (hO _ _ _ n511) (Le.mk [(0, 0)] hm rfl ⟨⟨_, rfl, rfl⟩, ⟨_, rfl, rfl⟩, ⟨_, rfl, rfl⟩, ⟨_, rfl, rfl⟩, ⟨_, rfl, rfl⟩, ⟨_, rfl, rfl⟩, ⟨_, rfl, rfl⟩, trivial⟩ ⟨⟨_, rfl, rfl⟩, trivial⟩ trivial))
                                  · replace H := condF hc H
                                    refine WpC.skip ?_
                                    exact ⟨_, ⟨kj136, v1855, v1856, v1857, v1858, by omega, H, rfl⟩, Le.mk [(0, 0)] hm rfl ⟨⟨_, rfl, rfl⟩, ⟨_, rfl, rfl⟩, ⟨_, rfl, rfl⟩, ⟨_, rfl, rfl⟩, trivial⟩ ⟨⟨_, rfl, rfl⟩, trivial⟩ trivial⟩
                                · obtain ⟨b1864, hb1864, H⟩ := bindS H
                                  obtain ⟨r1865, hr1865, H⟩ := bindS H
                                  rcases Bool.eq_false_or_eq_true (r1865) with hc1866 | hc1866
                                  · replace H := condT hc1866 H
                                    obtain ⟨b1867, hb1867, H⟩ := bindS H
                                    obtain ⟨b1868, hb1868, H⟩ := bindS H
                                    refine A.begin mixed rfl rfl ?_
                                    intro W hI hO
                                    have n16383 : W 2 #[true, true, true, true, true, true, true, true, true, true, true, true, true, true, false, false] (mkSt [(5, MG.one (Cell.sl true (List.map eI v1826))), (7, MG.one (Cell.own 0)), (8, MG.one (cI v1828)), (9, MG.one (cI v1829)), (107, MG.one (cL true)), (108, MG.one (Cell.own 0)), (109, MG.one (cI v1828)), (110, MG.one (Cell.ep 0 v1828.toNat 0)), (111, MG.one (cI b1867)), (112, MG.one (Cell.own 0)), (113, MG.one (cI v1829)), (114, MG.one (Cell.ep 0 v1829.toNat 0)), (115, MG.one (cI b1868))] [(0, ⟨1, List.map eI v1827⟩)] [] 1) := by
                                      refine hI _ _ _ ?_
                                      refine A.take 14 rfl (by kernel_rfl) (by kernel_rfl) (by kernel_rfl) rfl (Ca.bin rfl rfl (calm_int _ _ _ _ _ _ _ _)) (fun Q0 k0 => L.bin hF rfl rfl rfl rfl rfl rfl (L.nil k0)) ?_
                                      refine A.take 15 rfl (by kernel_rfl) (by kernel_rfl) (by kernel_rfl) rfl (Ca.pick) (fun Q0 k0 => L.pick hF rfl rfl rfl rfl (L.nil k0)) ?_
                                      refine A.le (τ := mkSt [(5, MG.one (Cell.sl true (List.map eI v1826))), (7, MG.one (Cell.own 0)), (8, MG.one (cI v1828)), (9, MG.one (cI v1829)), (108, MG.one (Cell.own 0)), (109, MG.one (cI v1828)), (110, MG.one (Cell.ep 0 v1828.toNat 0)), (111, MG.one (cI b1867)), (112, MG.one (Cell.own 0)), (113, MG.one (cI v1829)), (114, MG.one (Cell.ep 0 v1829.toNat 0)), (115, MG.one (cI b1868)), (116, MG.one (cL (b1867 != b1868))), (117, MG.one (cL (b1867 != b1868)))] [(0, ⟨1, List.map eI v1827⟩)] [] 1) (Le.mk [(0, 0)] hm rfl ⟨⟨_, rfl, rfl⟩, ⟨_, rfl, rfl⟩, ⟨_, rfl, rfl⟩, ⟨_, rfl, rfl⟩, ⟨_, rfl, rfl⟩, ⟨_, rfl, rfl⟩, ⟨_, rfl, rfl⟩, ⟨_, rfl, rfl⟩, ⟨_, rfl, rfl⟩, ⟨_, rfl, rfl⟩, ⟨_, rfl, rfl⟩, ⟨_, rfl, rfl⟩, ⟨_, rfl, rfl⟩, ⟨_, rfl, rfl⟩, trivial⟩ ⟨⟨_, rfl, rfl⟩, trivial⟩ trivial) ?_
                                      refine A.done (by kernel_rfl) ?_
                                      exact ⟨_, ⟨k133, v1826, v1827, v1828, v1829, (b1867 != b1868), by omega, H, rfl⟩, Le.mk [(0, 0)] hm rfl ⟨⟨_, rfl, rfl⟩, ⟨_, rfl, rfl⟩, ⟨_, rfl, rfl⟩, ⟨_, rfl, rfl⟩, ⟨_, rfl, rfl⟩, trivial⟩ ⟨⟨_, rfl, rfl⟩, trivial⟩ trivial⟩
                                    refine hI _ _ _ ?_
                                    refine A.take 0 rfl (by kernel_rfl) (by kernel_rfl) (by kernel_rfl) rfl (Ca.move) (fun Q0 k0 => L.move hF rfl rfl rfl (L.nil k0)) ?_
                                    refine A.take 1 rfl (by kernel_rfl) (by kernel_rfl) (by kernel_rfl) rfl (Ca.move) (fun Q0 k0 => L.move hF rfl rfl rfl (L.nil k0)) ?_
                                    refine A.take 2 rfl (by kernel_rfl) (by kernel_rfl) (by kernel_rfl) rfl (Ca.indexAddr) (fun Q0 k0 => L.idxR (xs := v1827) (e := eI) Try.underlying24 info3 hF rfl rfl rfl rfl rfl hb1864 rfl rfl (L.nil k0)) ?_
                                    refine A.all [3] (by kernel_rfl) rfl ⟨⟨_, rfl, ?_⟩, trivial⟩
                                    refine L.loadEp (xs := v1827) (e := eI) shape3 hF rfl rfl rfl rfl (at?_get hb1864).2 rfl rfl ?_
                                    refine L.nil ?_
                                    refine A.all [4] (by kernel_rfl) rfl ⟨⟨_, rfl, ?_⟩, trivial⟩
                                    refine L.call [false] [] [] 1 hF rfl rfl rfl ent177 rfl rfl rfl rfl rfl (Fspec_l6Realm_gives k133  b1864 r1865 hr1865) rfl ?_
                                    refine L.nil ?_
                                    refine A.take 5 rfl (by kernel_rfl) (by kernel_rfl) (by kernel_rfl) rfl (Ca.move) (fun Q0 k0 => L.move hF rfl rfl rfl (L.nil k0)) ?_
                                    refine A.le (τ := mkSt [(5, MG.one (Cell.sl true (List.map eI v1826))), (7, MG.one (Cell.own 0)), (8, MG.one (cI v1828)), (9, MG.one (cI v1829)), (107, MG.one (cL true))] [(0, ⟨1, List.map eI v1827⟩)] [] 1) (Le.mk [(0, 0)] hm rfl ⟨⟨_, rfl, rfl⟩, ⟨_, rfl, rfl⟩, ⟨_, rfl, rfl⟩, ⟨_, rfl, rfl⟩, ⟨_, rfl, congrArg (fun b => some (MG.one (cL b))) hc1866⟩, trivial⟩ ⟨⟨_, rfl, rfl⟩, trivial⟩ trivial) ?_
                                    refine A.take 6 rfl (by kernel_rfl) (by kernel_rfl) (by kernel_rfl) rfl (Ca.move) (fun Q0 k0 => L.move hF rfl rfl rfl (L.nil k0)) ?_
                                    refine A.take 7 rfl (by kernel_rfl) (by kernel_rfl) (by kernel_rfl) rfl (Ca.move) (fun Q0 k0 => L.move hF rfl rfl rfl (L.nil k0)) ?_
                                    refine A.take 8 rfl (by kernel_rfl) (by kernel_rfl) (by kernel_rfl) rfl (Ca.indexAddr) (fun Q0 k0 => L.idxR (xs := v1827) (e := eI) Try.underlying24 info3 hF rfl rfl rfl rfl rfl hb1867 rfl rfl (L.nil k0)) ?_
                                    refine A.take 10 rfl (by kernel_rfl) (by kernel_rfl) (by kernel_rfl) rfl (Ca.move) (fun Q0 k0 => L.move hF rfl rfl rfl (L.nil k0)) ?_
                                    refine A.take 11 rfl (by kernel_rfl) (by kernel_rfl) (by kernel_rfl) rfl (Ca.move) (fun Q0 k0 => L.move hF rfl rfl rfl (L.nil k0)) ?_
                                    refine A.take 12 rfl (by kernel_rfl) (by kernel_rfl) (by kernel_rfl) rfl (Ca.indexAddr) (fun Q0 k0 => L.idxR (xs := v1827) (e := eI) Try.underlying24 info3 hF rfl rfl rfl rfl rfl hb1868 rfl rfl (L.nil k0)) ?_
                                    refine A.all [9, 13] (by kernel_rfl) rfl ⟨⟨_, rfl, ?_⟩, ⟨_, rfl, ?_⟩, trivial⟩
                                    · refine L.loadEp (xs := v1827) (e := eI) shape3 hF rfl rfl rfl rfl (at?_get hb1867).2 rfl rfl ?_
                                      refine L.nil ?_
                                      refine A.all [13] (by kernel_rfl) rfl ⟨⟨_, rfl, ?_⟩, trivial⟩
                                      refine L.loadEp (xs := v1827) (e := eI) shape3 hF rfl rfl rfl rfl (at?_get hb1868).2 rfl rfl ?_
                                      exact L.nil (A.on (hO _ _ _ n16383) (Le.mk [(0, 0)] hm rfl ⟨⟨_, rfl, rfl⟩, ⟨_, rfl, rfl⟩, ⟨_, rfl, rfl⟩, ⟨_, rfl, rfl⟩, ⟨_, rfl, rfl⟩, ⟨_, rfl, rfl⟩, ⟨_, rfl, rfl⟩, ⟨_, rfl, rfl⟩, ⟨_, rfl, rfl⟩, ⟨_, rfl, rfl⟩, ⟨_, rfl, rfl⟩, ⟨_, rfl, rfl⟩, ⟨_, rfl, rfl⟩, trivial⟩ ⟨⟨_, rfl, rfl⟩, trivial⟩ trivial))
                                    · refine L.loadEp (xs := v1827) (e := eI) shape3 hF rfl rfl rfl rfl (at?_get hb1868).2 rfl rfl ?_
                                      refine L.nil ?_
                                      refine A.all [9] (by kernel_rfl) rfl ⟨⟨_, rfl, ?_⟩, trivial⟩
                                      refine L.loadEp (xs := v1827) (e := eI) shape3 hF rfl rfl rfl rfl (at?_get hb1867).2 rfl rfl ?_
                                      exact L.nil (A.on (hO _ _ _ n16383) (Le.mk [(0, 0)] hm rfl ⟨⟨_, rfl, rfl⟩, ⟨_, rfl, rfl⟩, ⟨_, rfl, rfl⟩, ⟨_, rfl, rfl⟩, ⟨_, rfl, rfl⟩, ⟨_, rfl, rfl⟩, ⟨_, rfl, rfl⟩, ⟨_, rfl, rfl⟩, ⟨_, rfl, rfl⟩, ⟨_, rfl, rfl⟩, ⟨_, rfl, rfl⟩, ⟨_, rfl, rfl⟩, ⟨_, rfl, rfl⟩, trivial⟩ ⟨⟨_, rfl, rfl⟩, trivial⟩ trivial))
                                  · replace H := condF hc1866 H
                                    refine A.begin mixed rfl rfl ?_
                                    intro W hI hO
                                    refine hI _ _ _ ?_
                                    refine A.take 0 rfl (by kernel_rfl) (by kernel_rfl) (by kernel_rfl) rfl (Ca.move) (fun Q0 k0 => L.move hF rfl rfl rfl (L.nil k0)) ?_
                                    refine A.take 1 rfl (by kernel_rfl) (by kernel_rfl) (by kernel_rfl) rfl (Ca.move) (fun Q0 k0 => L.move hF rfl rfl rfl (L.nil k0)) ?_
                                    refine A.take 2 rfl (by kernel_rfl) (by kernel_rfl) (by kernel_rfl) rfl (Ca.indexAddr) (fun Q0 k0 => L.idxR (xs := v1827) (e := eI) Try.underlying24 info3 hF rfl rfl rfl rfl rfl hb1864 rfl rfl (L.nil k0)) ?_
                                    refine A.all [3] (by kernel_rfl) rfl ⟨⟨_, rfl, ?_⟩, trivial⟩
                                    refine L.loadEp (xs := v1827) (e := eI) shape3 hF rfl rfl rfl rfl (at?_get hb1864).2 rfl rfl ?_
                                    refine L.nil ?_
                                    refine A.all [4] (by kernel_rfl) rfl ⟨⟨_, rfl, ?_⟩, trivial⟩
                                    refine L.call [false] [] [] 1 hF rfl rfl rfl ent177 rfl rfl rfl rfl rfl (Fspec_l6Realm_gives k133  b1864 r1865 hr1865) rfl ?_
                                    refine L.nil ?_
                                    refine A.take 5 rfl (by kernel_rfl) (by kernel_rfl) (by kernel_rfl) rfl (Ca.move) (fun Q0 k0 => L.move hF rfl rfl rfl (L.nil k0)) ?_
                                    refine A.le (τ := mkSt [(5, MG.one (Cell.sl true (List.map eI v1826))), (7, MG.one (Cell.own 0)), (8, MG.one (cI v1828)), (9, MG.one (cI v1829)), (107, MG.one (cL false))] [(0, ⟨1, List.map eI v1827⟩)] [] 1) (Le.mk [(0, 0)] hm rfl ⟨⟨_, rfl, rfl⟩, ⟨_, rfl, rfl⟩, ⟨_, rfl, rfl⟩, ⟨_, rfl, rfl⟩, ⟨_, rfl, congrArg (fun b => some (MG.one (cL b))) hc1866⟩, trivial⟩ ⟨⟨_, rfl, rfl⟩, trivial⟩ trivial) ?_
                                    refine A.off 6 rfl (by kernel_rfl) (by kernel_rfl) (by kernel_rfl) rfl hF rfl rfl ?_
                                    refine A.off 7 rfl (by kernel_rfl) (by kernel_rfl) (by kernel_rfl) rfl hF rfl rfl ?_
                                    refine A.off 8 rfl (by kernel_rfl) (by kernel_rfl) (by kernel_rfl) rfl hF rfl rfl ?_
                                    refine A.off 9 rfl (by kernel_rfl) (by kernel_rfl) (by kernel_rfl) rfl hF rfl rfl ?_
                                    refine A.off 10 rfl (by kernel_rfl) (by kernel_rfl) (by kernel_rfl) rfl hF rfl rfl ?_
                                    refine A.off 11 rfl (by kernel_rfl) (by kernel_rfl) (by kernel_rfl) rfl hF rfl rfl ?_
                                    refine A.off 12 rfl (by kernel_rfl) (by kernel_rfl) (by kernel_rfl) rfl hF rfl rfl ?_
                                    refine A.off 13 rfl (by kernel_rfl) (by kernel_rfl) (by kernel_rfl) rfl hF rfl rfl ?_
                                    refine A.off 14 rfl (by kernel_rfl) (by kernel_rfl) (by kernel_rfl) rfl hF rfl rfl ?_
                                    refine A.take 15 rfl (by kernel_rfl) (by kernel_rfl) (by kernel_rfl) rfl (Ca.pick) (fun Q0 k0 => L.pick hF rfl rfl rfl rfl (L.nil k0)) ?_
                                    refine A.le (τ := mkSt [(5, MG.one (Cell.sl true (List.map eI v1826))), (7, MG.one (Cell.own 0)), (8, MG.one (cI v1828)), (9, MG.one (cI v1829)), (108, Slot.tup []), (109, Slot.tup []), (110, Slot.tup []), (111, Slot.tup []), (112, Slot.tup []), (113, Slot.tup []), (114, Slot.tup []), (115, Slot.tup []), (116, Slot.tup []), (117, MG.one (cL false))] [(0, ⟨1, List.map eI v1827⟩)] [] 1) (Le.mk [(0, 0)] hm rfl ⟨⟨_, rfl, rfl⟩, ⟨_, rfl, rfl⟩, ⟨_, rfl, rfl⟩, ⟨_, rfl, rfl⟩, ⟨_, rfl, rfl⟩, ⟨_, rfl, rfl⟩, ⟨_, rfl, rfl⟩, ⟨_, rfl, rfl⟩, ⟨_, rfl, rfl⟩, ⟨_, rfl, rfl⟩, ⟨_, rfl, rfl⟩, ⟨_, rfl, rfl⟩, ⟨_, rfl, rfl⟩, ⟨_, rfl, rfl⟩, trivial⟩ ⟨⟨_, rfl, rfl⟩, trivial⟩ trivial) ?_
                                    refine A.done (by kernel_rfl) ?_
                                    exact ⟨_, ⟨k133, v1826, v1827, v1828, v1829, false, by omega, H, rfl⟩, Le.mk [(0, 0)] hm rfl ⟨⟨_, rfl, rfl⟩, ⟨_, rfl, rfl⟩, ⟨_, rfl, rfl⟩, ⟨_, rfl, rfl⟩, ⟨_, rfl, rfl⟩, trivial⟩ ⟨⟨_, rfl, rfl⟩, trivial⟩ trivial⟩
                            · replace H := condF hc H
                              refine WpC.exit ?_
                              exact ⟨_, ⟨k133, v1826, v1827, v1828, by omega, H, rfl⟩, Le.mk [(0, 0)] hm rfl ⟨⟨_, rfl, rfl⟩, ⟨_, rfl, rfl⟩, ⟨_, rfl, rfl⟩, trivial⟩ ⟨⟨_, rfl, rfl⟩, trivial⟩ trivial⟩
                    · replace H := condF hc H
                      refine WpC.exit ?_
                      refine WpC.seq ?_
                      refine WpC.regionL ?_
                      refine L.move hF rfl rfl rfl ?_
                      refine L.assign hF rfl rfl rfl ?_
                      refine L.nil ?_
                      refine WpC.ret ?_
                      cases H
                      exact Leaves.ret rfl rfl rfl ⟨rfl, rfl⟩
                have n7167 : W 3 #[true, true, true, true, true, true, true, true, true, true, false, true, true, false, false] (mkSt [(5, MG.one (Cell.sl true (List.map eI v279))), (66, MG.one (cI r333)), (72, MG.one (cI b334)), (75, MG.one (Cell.sl g4 (List.map eI v297)))] [] [] 0) := by
                  refine hI _ _ _ ?_
                  refine A.all [10] (by kernel_rfl) rfl ⟨⟨_, rfl, ?_⟩, trivial⟩
                  refine L.buildSlice (e := eI) 0 ([r333, b334] : List Int) Try.underlying24 info3 rfl rfl rfl hF rfl rfl rfl rfl rfl rfl rfl rfl ?_
                  exact L.nil (A.on (hO _ _ _ n8191) (Le.mk [(0, 0)] hm rfl (S3 rfl rfl rfl rfl rfl rfl) ⟨⟨_, rfl, rfl⟩, trivial⟩ trivial))
                have n7159 : W 4 #[true, true, true, false, true, true, true, true, true, true, false, true, true, false, false] (mkSt [(5, MG.one (Cell.sl true (List.map eI v279))), (63, agg [Cell.sl g0 (List.map eI v281), Cell.sl g1 (List.map eI v282), Cell.sl g2 (List.map eTimpl_Pair v283), Cell.sl g3 (List.map eTimpl_Pair v284), cI v285]), (65, MG.one (cI v287)), (72, MG.one (cI b334)), (75, MG.one (Cell.sl g4 (List.map eI v297)))] [] [] 0) := by
                  refine hI _ _ _ ?_
                  refine A.all [3] (by kernel_rfl) rfl ⟨⟨_, rfl, ?_⟩, trivial⟩
                  refine L.call [false, false] [] [] 0 hF rfl rfl rfl ent153 rfl rfl rfl rfl rfl (Fspec_RealmOf_gives k7 g0 g1 g2 g3 (⟨v281, v282, v283, v284, v285⟩ : Timpl_Config) v287 r333 hr333) rfl ?_
                  exact L.nil (A.on (hO _ _ _ n7167) (Le.mk [] hm rfl (S4 rfl rfl rfl rfl rfl rfl rfl rfl) trivial trivial))
                have n6655 : W 4 #[true, true, true, true, true, true, true, true, true, false, false, true, true, false, false] (mkSt [(5, MG.one (Cell.sl true (List.map eI v279))), (66, MG.one (cI r333)), (71, MG.one (Cell.pe g1 (eI b334) 0)), (75, MG.one (Cell.sl g4 (List.map eI v297)))] [] [] 0) := by
                  refine hI _ _ _ ?_
                  refine A.all [9] (by kernel_rfl) rfl ⟨⟨_, rfl, ?_⟩, trivial⟩
                  refine L.loadPe shape3 hF rfl rfl rfl rfl rfl ?_
                  exact L.nil (A.on (hO _ _ _ n7167) (Le.mk [] hm rfl (S4 rfl rfl rfl rfl rfl rfl rfl rfl) trivial trivial))
                have n3071 : W 4 #[true, true, true, true, true, true, true, true, true, true, false, true, false, false, false] (mkSt [(5, MG.one (Cell.sl true (List.map eI v279))), (66, MG.one (cI r333)), (72, MG.one (cI b334)), (74, MG.one (Cell.ptr 0 11))] [] [(0, [cI v286, cI v287, cI v288, cI v289, cI v290, cI v291, cI v292, cI v293, cI v294, cI v295, cI v296, Cell.sl g4 (List.map eI v297), Cell.sl g5 (List.map eI v298), cI v299, cS v300])] 1) := by
                  refine hI _ _ _ ?_
                  refine A.all [10, 12] (by kernel_rfl) rfl ⟨⟨_, rfl, ?_⟩, ⟨_, rfl, ?_⟩, trivial⟩
                  · refine L.buildSlice (e := eI) 1 ([r333, b334] : List Int) Try.underlying24 info3 rfl rfl rfl hF rfl rfl rfl rfl rfl rfl rfl rfl ?_
                    refine L.nil ?_
                    refine A.all [12] (by kernel_rfl) rfl ⟨⟨_, rfl, ?_⟩, trivial⟩
                    refine L.loadPtr shape24 hF rfl rfl rfl rfl rfl rfl ?_
                    exact L.nil (A.on (hO _ _ _ n8191) (Le.mk [(0, 1)] hm rfl (S3 rfl rfl rfl rfl rfl rfl) ⟨⟨_, rfl, rfl⟩, trivial⟩ trivial))
                  · refine L.loadPtr shape24 hF rfl rfl rfl rfl rfl rfl ?_
                    exact L.nil (A.on (hO _ _ _ n7167) (Le.mk [] hm rfl (S4 rfl rfl rfl rfl rfl rfl rfl rfl) trivial trivial))
                have n6647 : W 5 #[true, true, true, false, true, true, true, true, true, false, false, true, true, false, false] (mkSt [(5, MG.one (Cell.sl true (List.map eI v279))), (63, agg [Cell.sl g0 (List.map eI v281), Cell.sl g1 (List.map eI v282), Cell.sl g2 (List.map eTimpl_Pair v283), Cell.sl g3 (List.map eTimpl_Pair v284), cI v285]), (65, MG.one (cI v287)), (71, MG.one (Cell.pe g1 (eI b334) 0)), (75, MG.one (Cell.sl g4 (List.map eI v297)))] [] [] 0) := by
                  refine hI _ _ _ ?_
                  refine A.all [3, 9] (by kernel_rfl) rfl ⟨⟨_, rfl, ?_⟩, ⟨_, rfl, ?_⟩, trivial⟩
                  · refine L.call [false, false] [] [] 0 hF rfl rfl rfl ent153 rfl rfl rfl rfl rfl (Fspec_RealmOf_gives k7 g0 g1 g2 g3 (⟨v281, v282, v283, v284, v285⟩ : Timpl_Config) v287 r333 hr333) rfl ?_
                    exact L.nil (A.on (hO _ _ _ n6655) (Le.mk [] hm rfl (S4 rfl rfl rfl rfl rfl rfl rfl rfl) trivial trivial))
                  · refine L.loadPe shape3 hF rfl rfl rfl rfl rfl ?_
                    exact L.nil (A.on (hO _ _ _ n7159) (Le.mk [] hm rfl (S5 rfl rfl rfl rfl rfl rfl rfl rfl rfl rfl) trivial trivial))
                have n3063 : W 5 #[true, true, true, false, true, true, true, true, true, true, false, true, false, false, false] (mkSt [(5, MG.one (Cell.sl true (List.map eI v279))), (63, agg [Cell.sl g0 (List.map eI v281), Cell.sl g1 (List.map eI v282), Cell.sl g2 (List.map eTimpl_Pair v283), Cell.sl g3 (List.map eTimpl_Pair v284), cI v285]), (65, MG.one (cI v287)), (72, MG.one (cI b334)), (74, MG.one (Cell.ptr 0 11))] [] [(0, [cI v286, cI v287, cI v288, cI v289, cI v290, cI v291, cI v292, cI v293, cI v294, cI v295, cI v296, Cell.sl g4 (List.map eI v297), Cell.sl g5 (List.map eI v298), cI v299, cS v300])] 1) := by
                  refine hI _ _ _ ?_
                  refine A.all [3, 12] (by kernel_rfl) rfl ⟨⟨_, rfl, ?_⟩, ⟨_, rfl, ?_⟩, trivial⟩
                  · refine L.call [false, false] [] [] 1 hF rfl rfl rfl ent153 rfl rfl rfl rfl rfl (Fspec_RealmOf_gives k7 g0 g1 g2 g3 (⟨v281, v282, v283, v284, v285⟩ : Timpl_Config) v287 r333 hr333) rfl ?_
                    exact L.nil (A.on (hO _ _ _ n3071) (Le.mk [(0, 0)] hm rfl (S4 rfl rfl rfl rfl rfl rfl rfl rfl) trivial ⟨⟨_, _, rfl, rfl, rfl⟩, trivial⟩))
                  · refine L.loadPtr shape24 hF rfl rfl rfl rfl rfl rfl ?_
                    exact L.nil (A.on (hO _ _ _ n7159) (Le.mk [] hm rfl (S5 rfl rfl rfl rfl rfl rfl rfl rfl rfl rfl) trivial trivial))
                have n6399 : W 5 #[true, true, true, true, true, true, true, true, false, false, false, true, true, false, false] (mkSt [(5, MG.one (Cell.sl true (List.map eI v279))), (66, MG.one (cI r333)), (68, MG.one (Cell.sl g1 (List.map eI v282))), (70, MG.one (cI v286)), (75, MG.one (Cell.sl g4 (List.map eI v297)))] [] [] 0) := by
                  refine hI _ _ _ ?_
                  refine A.take 8 rfl (by kernel_rfl) (by kernel_rfl) (by kernel_rfl) rfl (Ca.indexAddr) (fun Q0 k0 => L.idxR (xs := v282) (e := eI) Try.underlying24 info3 hF rfl rfl rfl rfl rfl hb334 rfl rfl (L.nil k0)) ?_
                  exact A.on (hO _ _ _ n6655) (Le.mk [] hm rfl (S4 rfl rfl rfl rfl rfl rfl rfl rfl) trivial trivial)
                have n2559 : W 5 #[true, true, true, true, true, true, true, true, true, false, false, true, false, false, false] (mkSt [(5, MG.one (Cell.sl true (List.map eI v279))), (66, MG.one (cI r333)), (71, MG.one (Cell.pe g1 (eI b334) 0)), (74, MG.one (Cell.ptr 0 11))] [] [(0, [cI v286, cI v287, cI v288, cI v289, cI v290, cI v291, cI v292, cI v293, cI v294, cI v295, cI v296, Cell.sl g4 (List.map eI v297), Cell.sl g5 (List.map eI v298), cI v299, cS v300])] 1) := by
                  refine hI _ _ _ ?_
                  refine A.all [9, 12] (by kernel_rfl) rfl ⟨⟨_, rfl, ?_⟩, ⟨_, rfl, ?_⟩, trivial⟩
                  · refine L.loadPe shape3 hF rfl rfl rfl rfl rfl ?_
                    exact L.nil (A.on (hO _ _ _ n3071) (Le.mk [(0, 0)] hm rfl (S4 rfl rfl rfl rfl rfl rfl rfl rfl) trivial ⟨⟨_, _, rfl, rfl, rfl⟩, trivial⟩))
                  · refine L.loadPtr shape24 hF rfl rfl rfl rfl rfl rfl ?_
                    exact L.nil (A.on (hO _ _ _ n6655) (Le.mk [] hm rfl (S4 rfl rfl rfl rfl rfl rfl rfl rfl) trivial trivial))
                have n7155 : W 5 #[true, true, false, false, true, true, true, true, true, true, false, true, true, false, false] (mkSt [(5, MG.one (Cell.sl true (List.map eI v279))), (63, agg [Cell.sl g0 (List.map eI v281), Cell.sl g1 (List.map eI v282), Cell.sl g2 (List.map eTimpl_Pair v283), Cell.sl g3 (List.map eTimpl_Pair v284), cI v285]), (64, MG.one (Cell.ptr 0 1)), (72, MG.one (cI b334)), (75, MG.one (Cell.sl g4 (List.map eI v297)))] [] [(0, [cI v286, cI v287, cI v288, cI v289, cI v290, cI v291, cI v292, cI v293, cI v294, cI v295, cI v296, Cell.sl g4 (List.map eI v297), Cell.sl g5 (List.map eI v298), cI v299, cS v300])] 1) := by
                  refine hI _ _ _ ?_
                  refine A.all [2] (by kernel_rfl) rfl ⟨⟨_, rfl, ?_⟩, trivial⟩
                  refine L.loadPtr shape3 hF rfl rfl rfl rfl rfl rfl ?_
                  exact L.nil (A.on (hO _ _ _ n7159) (Le.mk [] hm rfl (S5 rfl rfl rfl rfl rfl rfl rfl rfl rfl rfl) trivial trivial))
                have n7158 : W 5 #[false, true, true, false, true, true, true, true, true, true, false, true, true, false, false] (mkSt [(2, MG.one (Cell.ptr 0 0)), (5, MG.one (Cell.sl true (List.map eI v279))), (65, MG.one (cI v287)), (72, MG.one (cI b334)), (75, MG.one (Cell.sl g4 (List.map eI v297)))] [] [(0, [Cell.sl g0 (List.map eI v281), Cell.sl g1 (List.map eI v282), Cell.sl g2 (List.map eTimpl_Pair v283), Cell.sl g3 (List.map eTimpl_Pair v284), cI v285])] 1) := by
                  refine hI _ _ _ ?_
                  refine A.all [0] (by kernel_rfl) rfl ⟨⟨_, rfl, ?_⟩, trivial⟩
                  refine L.loadPtr shape90 hF rfl rfl rfl rfl rfl rfl ?_
                  exact L.nil (A.on (hO _ _ _ n7159) (Le.mk [] hm rfl (S5 rfl rfl rfl rfl rfl rfl rfl rfl rfl rfl) trivial trivial))
                have n6391 : W 6 #[true, true, true, false, true, true, true, true, false, false, false, true, true, false, false] (mkSt [(5, MG.one (Cell.sl true (List.map eI v279))), (63, agg [Cell.sl g0 (List.map eI v281), Cell.sl g1 (List.map eI v282), Cell.sl g2 (List.map eTimpl_Pair v283), Cell.sl g3 (List.map eTimpl_Pair v284), cI v285]), (65, MG.one (cI v287)), (68, MG.one (Cell.sl g1 (List.map eI v282))), (70, MG.one (cI v286)), (75, MG.one (Cell.sl g4 (List.map eI v297)))] [] [] 0) := by
                  refine hI _ _ _ ?_
                  refine A.take 8 rfl (by kernel_rfl) (by kernel_rfl) (by kernel_rfl) rfl (Ca.indexAddr) (fun Q0 k0 => L.idxR (xs := v282) (e := eI) Try.underlying24 info3 hF rfl rfl rfl rfl rfl hb334 rfl rfl (L.nil k0)) ?_
                  exact A.on (hO _ _ _ n6647) (Le.mk [] hm rfl (S5 rfl rfl rfl rfl rfl rfl rfl rfl rfl rfl) trivial trivial)
                have n3059 : W 6 #[true, true, false, false, true, true, true, true, true, true, false, true, false, false, false] (mkSt [(5, MG.one (Cell.sl true (List.map eI v279))), (63, agg [Cell.sl g0 (List.map eI v281), Cell.sl g1 (List.map eI v282), Cell.sl g2 (List.map eTimpl_Pair v283), Cell.sl g3 (List.map eTimpl_Pair v284), cI v285]), (64, MG.one (Cell.ptr 0 1)), (72, MG.one (cI b334)), (74, MG.one (Cell.ptr 0 11))] [] [(0, [cI v286, cI v287, cI v288, cI v289, cI v290, cI v291, cI v292, cI v293, cI v294, cI v295, cI v296, Cell.sl g4 (List.map eI v297), Cell.sl g5 (List.map eI v298), cI v299, cS v300])] 1) := by
                  refine hI _ _ _ ?_
                  refine A.all [2, 12] (by kernel_rfl) rfl ⟨⟨_, rfl, ?_⟩, ⟨_, rfl, ?_⟩, trivial⟩
                  · refine L.loadPtr shape3 hF rfl rfl rfl rfl rfl rfl ?_
                    exact L.nil (A.on (hO _ _ _ n3063) (Le.mk [(0, 0)] hm rfl (S5 rfl rfl rfl rfl rfl rfl rfl rfl rfl rfl) trivial ⟨⟨_, _, rfl, rfl, rfl⟩, trivial⟩))
                  · refine L.loadPtr shape24 hF rfl rfl rfl rfl rfl rfl ?_
                    exact L.nil (A.on (hO _ _ _ n7155) (Le.mk [(0, 0)] hm rfl (S5 rfl rfl rfl rfl rfl rfl rfl rfl rfl rfl) trivial ⟨⟨_, _, rfl, rfl, rfl⟩, trivial⟩))
                have n2551 : W 6 #[true, true, true, false, true, true, true, true, true, false, false, true, false, false, false] (mkSt [(5, MG.one (Cell.sl true (List.map eI v279))), (63, agg [Cell.sl g0 (List.map eI v281), Cell.sl g1 (List.map eI v282), Cell.sl g2 (List.map eTimpl_Pair v283), Cell.sl g3 (List.map eTimpl_Pair v284), cI v285]), (65, MG.one (cI v287)), (71, MG.one (Cell.pe g1 (eI b334) 0)), (74, MG.one (Cell.ptr 0 11))] [] [(0, [cI v286, cI v287, cI v288, cI v289, cI v290, cI v291, cI v292, cI v293, cI v294, cI v295, cI v296, Cell.sl g4 (List.map eI v297), Cell.sl g5 (List.map eI v298), cI v299, cS v300])] 1) := by
                  refine hI _ _ _ ?_
                  refine A.all [3, 9, 12] (by kernel_rfl) rfl ⟨⟨_, rfl, ?_⟩, ⟨_, rfl, ?_⟩, ⟨_, rfl, ?_⟩, trivial⟩
                  · refine L.call [false, false] [] [] 1 hF rfl rfl rfl ent153 rfl rfl rfl rfl rfl (Fspec_RealmOf_gives k7 g0 g1 g2 g3 (⟨v281, v282, v283, v284, v285⟩ : Timpl_Config) v287 r333 hr333) rfl ?_
                    exact L.nil (A.on (hO _ _ _ n2559) (Le.mk [(0, 0)] hm rfl (S4 rfl rfl rfl rfl rfl rfl rfl rfl) trivial ⟨⟨_, _, rfl, rfl, rfl⟩, trivial⟩))
                  · refine L.loadPe shape3 hF rfl rfl rfl rfl rfl ?_
                    exact L.nil (A.on (hO _ _ _ n3063) (Le.mk [(0, 0)] hm rfl (S5 rfl rfl rfl rfl rfl rfl rfl rfl rfl rfl) trivial ⟨⟨_, _, rfl, rfl, rfl⟩, trivial⟩))
                  · refine L.loadPtr shape24 hF rfl rfl rfl rfl rfl rfl ?_
                    exact L.nil (A.on (hO _ _ _ n6647) (Le.mk [] hm rfl (S5 rfl rfl rfl rfl rfl rfl rfl rfl rfl rfl) trivial trivial))
                have n3062 : W 6 #[false, true, true, false, true, true, true, true, true, true, false, true, false, false, false] (mkSt [(2, MG.one (Cell.ptr 0 0)), (5, MG.one (Cell.sl true (List.map eI v279))), (65, MG.one (cI v287)), (72, MG.one (cI b334)), (74, MG.one (Cell.ptr 1 11))] [] [(0, [Cell.sl g0 (List.map eI v281), Cell.sl g1 (List.map eI v282), Cell.sl g2 (List.map eTimpl_Pair v283), Cell.sl g3 (List.map eTimpl_Pair v284), cI v285]), (1, [cI v286, cI v287, cI v288, cI v289, cI v290, cI v291, cI v292, cI v293, cI v294, cI v295, cI v296, Cell.sl g4 (List.map eI v297), Cell.sl g5 (List.map eI v298), cI v299, cS v300])] 2) := by
                  refine hI _ _ _ ?_
                  refine A.all [0, 12] (by kernel_rfl) rfl ⟨⟨_, rfl, ?_⟩, ⟨_, rfl, ?_⟩, trivial⟩
                  · refine L.loadPtr shape90 hF rfl rfl rfl rfl rfl rfl ?_
                    exact L.nil (A.on (hO _ _ _ n3063) (Le.mk [(0, 1)] hm rfl (S5 rfl rfl rfl rfl rfl rfl rfl rfl rfl rfl) trivial ⟨⟨_, _, rfl, rfl, rfl⟩, trivial⟩))
                  · refine L.loadPtr shape24 hF rfl rfl rfl rfl rfl rfl ?_
                    exact L.nil (A.on (hO _ _ _ n7158) (Le.mk [(0, 0)] hm rfl (S5 rfl rfl rfl rfl rfl rfl rfl rfl rfl rfl) trivial ⟨⟨_, _, rfl, rfl, rfl⟩, trivial⟩))
                have n6271 : W 6 #[true, true, true, true, true, true, true, false, false, false, false, true, true, false, false] (mkSt [(5, MG.one (Cell.sl true (List.map eI v279))), (66, MG.one (cI r333)), (68, MG.one (Cell.sl g1 (List.map eI v282))), (69, MG.one (Cell.ptr 0 0)), (75, MG.one (Cell.sl g4 (List.map eI v297)))] [] [(0, [cI v286, cI v287, cI v288, cI v289, cI v290, cI v291, cI v292, cI v293, cI v294, cI v295, cI v296, Cell.sl g4 (List.map eI v297), Cell.sl g5 (List.map eI v298), cI v299, cS v300])] 1) := by
                  refine hI _ _ _ ?_
                  refine A.all [7] (by kernel_rfl) rfl ⟨⟨_, rfl, ?_⟩, trivial⟩
                  refine L.loadPtr shape3 hF rfl rfl rfl rfl rfl rfl ?_
                  exact L.nil (A.on (hO _ _ _ n6399) (Le.mk [] hm rfl (S5 rfl rfl rfl rfl rfl rfl rfl rfl rfl rfl) trivial trivial))
                have n2303 : W 6 #[true, true, true, true, true, true, true, true, false, false, false, true, false, false, false] (mkSt [(5, MG.one (Cell.sl true (List.map eI v279))), (66, MG.one (cI r333)), (68, MG.one (Cell.sl g1 (List.map eI v282))), (70, MG.one (cI v286)), (74, MG.one (Cell.ptr 0 11))] [] [(0, [cI v286, cI v287, cI v288, cI v289, cI v290, cI v291, cI v292, cI v293, cI v294, cI v295, cI v296, Cell.sl g4 (List.map eI v297), Cell.sl g5 (List.map eI v298), cI v299, cS v300])] 1) := by
                  refine hI _ _ _ ?_
                  refine A.take 8 rfl (by kernel_rfl) (by kernel_rfl) (by kernel_rfl) rfl (Ca.indexAddr) (fun Q0 k0 => L.idxR (xs := v282) (e := eI) Try.underlying24 info3 hF rfl rfl rfl rfl rfl hb334 rfl rfl (L.nil k0)) ?_
                  exact A.on (hO _ _ _ n2559) (Le.mk [(0, 0)] hm rfl (S4 rfl rfl rfl rfl rfl rfl rfl rfl) trivial ⟨⟨_, _, rfl, rfl, rfl⟩, trivial⟩)
                have n6367 : W 6 #[true, true, true, true, true, false, true, true, false, false, false, true, true, false, false] (mkSt [(5, MG.one (Cell.sl true (List.map eI v279))), (66, MG.one (cI r333)), (67, MG.one (Cell.ptr 0 1)), (70, MG.one (cI v286)), (75, MG.one (Cell.sl g4 (List.map eI v297)))] [] [(0, [Cell.sl g0 (List.map eI v281), Cell.sl g1 (List.map eI v282), Cell.sl g2 (List.map eTimpl_Pair v283), Cell.sl g3 (List.map eTimpl_Pair v284), cI v285])] 1) := by
                  refine hI _ _ _ ?_
                  refine A.all [5] (by kernel_rfl) rfl ⟨⟨_, rfl, ?_⟩, trivial⟩
                  refine L.loadPtr shape24 hF rfl rfl rfl rfl rfl rfl ?_
                  exact L.nil (A.on (hO _ _ _ n6399) (Le.mk [] hm rfl (S5 rfl rfl rfl rfl rfl rfl rfl rfl rfl rfl) trivial trivial))
                have n6643 : W 6 #[true, true, false, false, true, true, true, true, true, false, false, true, true, false, false] (mkSt [(5, MG.one (Cell.sl true (List.map eI v279))), (63, agg [Cell.sl g0 (List.map eI v281), Cell.sl g1 (List.map eI v282), Cell.sl g2 (List.map eTimpl_Pair v283), Cell.sl g3 (List.map eTimpl_Pair v284), cI v285]), (64, MG.one (Cell.ptr 0 1)), (71, MG.one (Cell.pe g1 (eI b334) 0)), (75, MG.one (Cell.sl g4 (List.map eI v297)))] [] [(0, [cI v286, cI v287, cI v288, cI v289, cI v290, cI v291, cI v292, cI v293, cI v294, cI v295, cI v296, Cell.sl g4 (List.map eI v297), Cell.sl g5 (List.map eI v298), cI v299, cS v300])] 1) := by
                  refine hI _ _ _ ?_
                  refine A.all [2, 9] (by kernel_rfl) rfl ⟨⟨_, rfl, ?_⟩, ⟨_, rfl, ?_⟩, trivial⟩
                  · refine L.loadPtr shape3 hF rfl rfl rfl rfl rfl rfl ?_
                    exact L.nil (A.on (hO _ _ _ n6647) (Le.mk [] hm rfl (S5 rfl rfl rfl rfl rfl rfl rfl rfl rfl rfl) trivial trivial))
                  · refine L.loadPe shape3 hF rfl rfl rfl rfl rfl ?_
                    exact L.nil (A.on (hO _ _ _ n7155) (Le.mk [(0, 0)] hm rfl (S5 rfl rfl rfl rfl rfl rfl rfl rfl rfl rfl) trivial ⟨⟨_, _, rfl, rfl, rfl⟩, trivial⟩))
                have n6646 : W 6 #[false, true, true, false, true, true, true, true, true, false, false, true, true, false, false] (mkSt [(2, MG.one (Cell.ptr 0 0)), (5, MG.one (Cell.sl true (List.map eI v279))), (65, MG.one (cI v287)), (71, MG.one (Cell.pe g1 (eI b334) 0)), (75, MG.one (Cell.sl g4 (List.map eI v297)))] [] [(0, [Cell.sl g0 (List.map eI v281), Cell.sl g1 (List.map eI v282), Cell.sl g2 (List.map eTimpl_Pair v283), Cell.sl g3 (List.map eTimpl_Pair v284), cI v285])] 1) := by
                  refine hI _ _ _ ?_
                  refine A.all [0, 9] (by kernel_rfl) rfl ⟨⟨_, rfl, ?_⟩, ⟨_, rfl, ?_⟩, trivial⟩
                  · refine L.loadPtr shape90 hF rfl rfl rfl rfl rfl rfl ?_
                    exact L.nil (A.on (hO _ _ _ n6647) (Le.mk [] hm rfl (S5 rfl rfl rfl rfl rfl rfl rfl rfl rfl rfl) trivial trivial))
                  · refine L.loadPe shape3 hF rfl rfl rfl rfl rfl ?_
                    exact L.nil (A.on (hO _ _ _ n7158) (Le.mk [(0, 0)] hm rfl (S5 rfl rfl rfl rfl rfl rfl rfl rfl rfl rfl) trivial ⟨⟨_, _, rfl, rfl, rfl⟩, trivial⟩))
                have n7154 : W 6 #[false, true, false, false, true, true, true, true, true, true, false, true, true, false, false] (mkSt [(2, MG.one (Cell.ptr 0 0)), (5, MG.one (Cell.sl true (List.map eI v279))), (64, MG.one (Cell.ptr 1 1)), (72, MG.one (cI b334)), (75, MG.one (Cell.sl g4 (List.map eI v297)))] [] [(0, [Cell.sl g0 (List.map eI v281), Cell.sl g1 (List.map eI v282), Cell.sl g2 (List.map eTimpl_Pair v283), Cell.sl g3 (List.map eTimpl_Pair v284), cI v285]), (1, [cI v286, cI v287, cI v288, cI v289, cI v290, cI v291, cI v292, cI v293, cI v294, cI v295, cI v296, Cell.sl g4 (List.map eI v297), Cell.sl g5 (List.map eI v298), cI v299, cS v300])] 2) := by
                  refine hI _ _ _ ?_
                  refine A.all [0, 2] (by kernel_rfl) rfl ⟨⟨_, rfl, ?_⟩, ⟨_, rfl, ?_⟩, trivial⟩
                  · refine L.loadPtr shape90 hF rfl rfl rfl rfl rfl rfl ?_
                    exact L.nil (A.on (hO _ _ _ n7155) (Le.mk [(0, 1)] hm rfl (S5 rfl rfl rfl rfl rfl rfl rfl rfl rfl rfl) trivial ⟨⟨_, _, rfl, rfl, rfl⟩, trivial⟩))
                  · refine L.loadPtr shape3 hF rfl rfl rfl rfl rfl rfl ?_
                    exact L.nil (A.on (hO _ _ _ n7158) (Le.mk [(0, 0)] hm rfl (S5 rfl rfl rfl rfl rfl rfl rfl rfl rfl rfl) trivial ⟨⟨_, _, rfl, rfl, rfl⟩, trivial⟩))
                have n6387 : W 7 #[true, true, false, false, true, true, true, true, false, false, false, true, true, false, false] (mkSt [(5, MG.one (Cell.sl true (List.map eI v279))), (63, agg [Cell.sl g0 (List.map eI v281), Cell.sl g1 (List.map eI v282), Cell.sl g2 (List.map eTimpl_Pair v283), Cell.sl g3 (List.map eTimpl_Pair v284), cI v285]), (64, MG.one (Cell.ptr 0 1)), (68, MG.one (Cell.sl g1 (List.map eI v282))), (70, MG.one (cI v286)), (75, MG.one (Cell.sl g4 (List.map eI v297)))] [] [(0, [cI v286, cI v287, cI v288, cI v289, cI v290, cI v291, cI v292, cI v293, cI v294, cI v295, cI v296, Cell.sl g4 (List.map eI v297), Cell.sl g5 (List.map eI v298), cI v299, cS v300])] 1) := by
                  refine hI _ _ _ ?_
                  refine A.take 8 rfl (by kernel_rfl) (by kernel_rfl) (by kernel_rfl) rfl (Ca.indexAddr) (fun Q0 k0 => L.idxR (xs := v282) (e := eI) Try.underlying24 info3 hF rfl rfl rfl rfl rfl hb334 rfl rfl (L.nil k0)) ?_
                  exact A.on (hO _ _ _ n6643) (Le.mk [(0, 0)] hm rfl (S5 rfl rfl rfl rfl rfl rfl rfl rfl rfl rfl) trivial ⟨⟨_, _, rfl, rfl, rfl⟩, trivial⟩)
                have n2547 : W 7 #[true, true, false, false, true, true, true, true, true, false, false, true, false, false, false] (mkSt [(5, MG.one (Cell.sl true (List.map eI v279))), (63, agg [Cell.sl g0 (List.map eI v281), Cell.sl g1 (List.map eI v282), Cell.sl g2 (List.map eTimpl_Pair v283), Cell.sl g3 (List.map eTimpl_Pair v284), cI v285]), (64, MG.one (Cell.ptr 0 1)), (71, MG.one (Cell.pe g1 (eI b334) 0)), (74, MG.one (Cell.ptr 0 11))] [] [(0, [cI v286, cI v287, cI v288, cI v289, cI v290, cI v291, cI v292, cI v293, cI v294, cI v295, cI v296, Cell.sl g4 (List.map eI v297), Cell.sl g5 (List.map eI v298), cI v299, cS v300])] 1) := by
                  refine hI _ _ _ ?_
                  refine A.all [2, 9, 12] (by kernel_rfl) rfl ⟨⟨_, rfl, ?_⟩, ⟨_, rfl, ?_⟩, ⟨_, rfl, ?_⟩, trivial⟩
                  · refine L.loadPtr shape3 hF rfl rfl rfl rfl rfl rfl ?_
                    exact L.nil (A.on (hO _ _ _ n2551) (Le.mk [(0, 0)] hm rfl (S5 rfl rfl rfl rfl rfl rfl rfl rfl rfl rfl) trivial ⟨⟨_, _, rfl, rfl, rfl⟩, trivial⟩))
                  · refine L.loadPe shape3 hF rfl rfl rfl rfl rfl ?_
                    exact L.nil (A.on (hO _ _ _ n3059) (Le.mk [(0, 0)] hm rfl (S5 rfl rfl rfl rfl rfl rfl rfl rfl rfl rfl) trivial ⟨⟨_, _, rfl, rfl, rfl⟩, trivial⟩))
                  · refine L.loadPtr shape24 hF rfl rfl rfl rfl rfl rfl ?_
                    exact L.nil (A.on (hO _ _ _ n6643) (Le.mk [(0, 0)] hm rfl (S5 rfl rfl rfl rfl rfl rfl rfl rfl rfl rfl) trivial ⟨⟨_, _, rfl, rfl, rfl⟩, trivial⟩))
                have n6263 : W 7 #[true, true, true, false, true, true, true, false, false, false, false, true, true, false, false] (mkSt [(5, MG.one (Cell.sl true (List.map eI v279))), (63, agg [Cell.sl g0 (List.map eI v281), Cell.sl g1 (List.map eI v282), Cell.sl g2 (List.map eTimpl_Pair v283), Cell.sl g3 (List.map eTimpl_Pair v284), cI v285]), (65, MG.one (cI v287)), (68, MG.one (Cell.sl g1 (List.map eI v282))), (69, MG.one (Cell.ptr 0 0)), (75, MG.one (Cell.sl g4 (List.map eI v297)))] [] [(0, [cI v286, cI v287, cI v288, cI v289, cI v290, cI v291, cI v292, cI v293, cI v294, cI v295, cI v296, Cell.sl g4 (List.map eI v297), Cell.sl g5 (List.map eI v298), cI v299, cS v300])] 1) := by
                  refine hI _ _ _ ?_
                  refine A.all [3, 7] (by kernel_rfl) rfl ⟨⟨_, rfl, ?_⟩, ⟨_, rfl, ?_⟩, trivial⟩
                  · refine L.call [false, false] [] [] 1 hF rfl rfl rfl ent153 rfl rfl rfl rfl rfl (Fspec_RealmOf_gives k7 g0 g1 g2 g3 (⟨v281, v282, v283, v284, v285⟩ : Timpl_Config) v287 r333 hr333) rfl ?_
                    exact L.nil (A.on (hO _ _ _ n6271) (Le.mk [(0, 0)] hm rfl (S5 rfl rfl rfl rfl rfl rfl rfl rfl rfl rfl) trivial ⟨⟨_, _, rfl, rfl, rfl⟩, trivial⟩))
                  · refine L.loadPtr shape3 hF rfl rfl rfl rfl rfl rfl ?_
                    exact L.nil (A.on (hO _ _ _ n6391) (Le.mk [] hm rfl (S6 rfl rfl rfl rfl rfl rfl rfl rfl rfl rfl rfl rfl) trivial trivial))
                have n2295 : W 7 #[true, true, true, false, true, true, true, true, false, false, false, true, false, false, false] (mkSt [(5, MG.one (Cell.sl true (List.map eI v279))), (63, agg [Cell.sl g0 (List.map eI v281), Cell.sl g1 (List.map eI v282), Cell.sl g2 (List.map eTimpl_Pair v283), Cell.sl g3 (List.map eTimpl_Pair v284), cI v285]), (65, MG.one (cI v287)), (68, MG.one (Cell.sl g1 (List.map eI v282))), (70, MG.one (cI v286)), (74, MG.one (Cell.ptr 0 11))] [] [(0, [cI v286, cI v287, cI v288, cI v289, cI v290, cI v291, cI v292, cI v293, cI v294, cI v295, cI v296, Cell.sl g4 (List.map eI v297), Cell.sl g5 (List.map eI v298), cI v299, cS v300])] 1) := by
                  refine hI _ _ _ ?_
                  refine A.take 8 rfl (by kernel_rfl) (by kernel_rfl) (by kernel_rfl) rfl (Ca.indexAddr) (fun Q0 k0 => L.idxR (xs := v282) (e := eI) Try.underlying24 info3 hF rfl rfl rfl rfl rfl hb334 rfl rfl (L.nil k0)) ?_
                  exact A.on (hO _ _ _ n2551) (Le.mk [(0, 0)] hm rfl (S5 rfl rfl rfl rfl rfl rfl rfl rfl rfl rfl) trivial ⟨⟨_, _, rfl, rfl, rfl⟩, trivial⟩)
                have n2550 : W 7 #[false, true, true, false, true, true, true, true, true, false, false, true, false, false, false] (mkSt [(2, MG.one (Cell.ptr 0 0)), (5, MG.one (Cell.sl true (List.map eI v279))), (65, MG.one (cI v287)), (71, MG.one (Cell.pe g1 (eI b334) 0)), (74, MG.one (Cell.ptr 1 11))] [] [(0, [Cell.sl g0 (List.map eI v281), Cell.sl g1 (List.map eI v282), Cell.sl g2 (List.map eTimpl_Pair v283), Cell.sl g3 (List.map eTimpl_Pair v284), cI v285]), (1, [cI v286, cI v287, cI v288, cI v289, cI v290, cI v291, cI v292, cI v293, cI v294, cI v295, cI v296, Cell.sl g4 (List.map eI v297), Cell.sl g5 (List.map eI v298), cI v299, cS v300])] 2) := by
                  refine hI _ _ _ ?_
                  refine A.all [0, 9, 12] (by kernel_rfl) rfl ⟨⟨_, rfl, ?_⟩, ⟨_, rfl, ?_⟩, ⟨_, rfl, ?_⟩, trivial⟩
                  · refine L.loadPtr shape90 hF rfl rfl rfl rfl rfl rfl ?_
                    exact L.nil (A.on (hO _ _ _ n2551) (Le.mk [(0, 1)] hm rfl (S5 rfl rfl rfl rfl rfl rfl rfl rfl rfl rfl) trivial ⟨⟨_, _, rfl, rfl, rfl⟩, trivial⟩))
                  · refine L.loadPe shape3 hF rfl rfl rfl rfl rfl ?_
                    exact L.nil (A.on (hO _ _ _ n3062) (Le.mk [(0, 0), (1, 1)] hm rfl (S5 rfl rfl rfl rfl rfl rfl rfl rfl rfl rfl) trivial (B2 rfl rfl rfl rfl rfl rfl)))
                  · refine L.loadPtr shape24 hF rfl rfl rfl rfl rfl rfl ?_
                    exact L.nil (A.on (hO _ _ _ n6646) (Le.mk [(0, 0)] hm rfl (S5 rfl rfl rfl rfl rfl rfl rfl rfl rfl rfl) trivial ⟨⟨_, _, rfl, rfl, rfl⟩, trivial⟩))
                have n2175 : W 7 #[true, true, true, true, true, true, true, false, false, false, false, true, false, false, false] (mkSt [(5, MG.one (Cell.sl true (List.map eI v279))), (66, MG.one (cI r333)), (68, MG.one (Cell.sl g1 (List.map eI v282))), (69, MG.one (Cell.ptr 0 0)), (74, MG.one (Cell.ptr 0 11))] [] [(0, [cI v286, cI v287, cI v288, cI v289, cI v290, cI v291, cI v292, cI v293, cI v294, cI v295, cI v296, Cell.sl g4 (List.map eI v297), Cell.sl g5 (List.map eI v298), cI v299, cS v300])] 1) := by
                  refine hI _ _ _ ?_
                  refine A.all [7, 12] (by kernel_rfl) rfl ⟨⟨_, rfl, ?_⟩, ⟨_, rfl, ?_⟩, trivial⟩
                  · refine L.loadPtr shape3 hF rfl rfl rfl rfl rfl rfl ?_
                    exact L.nil (A.on (hO _ _ _ n2303) (Le.mk [(0, 0)] hm rfl (S5 rfl rfl rfl rfl rfl rfl rfl rfl rfl rfl) trivial ⟨⟨_, _, rfl, rfl, rfl⟩, trivial⟩))
                  · refine L.loadPtr shape24 hF rfl rfl rfl rfl rfl rfl ?_
                    exact L.nil (A.on (hO _ _ _ n6271) (Le.mk [(0, 0)] hm rfl (S5 rfl rfl rfl rfl rfl rfl rfl rfl rfl rfl) trivial ⟨⟨_, _, rfl, rfl, rfl⟩, trivial⟩))
                have n6359 : W 7 #[true, true, true, false, true, false, true, true, false, false, false, true, true, false, false] (mkSt [(5, MG.one (Cell.sl true (List.map eI v279))), (63, agg [Cell.sl g0 (List.map eI v281), Cell.sl g1 (List.map eI v282), Cell.sl g2 (List.map eTimpl_Pair v283), Cell.sl g3 (List.map eTimpl_Pair v284), cI v285]), (65, MG.one (cI v287)), (67, MG.one (Cell.ptr 0 1)), (70, MG.one (cI v286)), (75, MG.one (Cell.sl g4 (List.map eI v297)))] [] [(0, [Cell.sl g0 (List.map eI v281), Cell.sl g1 (List.map eI v282), Cell.sl g2 (List.map eTimpl_Pair v283), Cell.sl g3 (List.map eTimpl_Pair v284), cI v285])] 1) := by
                  refine hI _ _ _ ?_
                  refine A.all [3, 5] (by kernel_rfl) rfl ⟨⟨_, rfl, ?_⟩, ⟨_, rfl, ?_⟩, trivial⟩
                  · refine L.call [false, false] [] [] 1 hF rfl rfl rfl ent153 rfl rfl rfl rfl rfl (Fspec_RealmOf_gives k7 g0 g1 g2 g3 (⟨v281, v282, v283, v284, v285⟩ : Timpl_Config) v287 r333 hr333) rfl ?_
                    exact L.nil (A.on (hO _ _ _ n6367) (Le.mk [(0, 0)] hm rfl (S5 rfl rfl rfl rfl rfl rfl rfl rfl rfl rfl) trivial ⟨⟨_, _, rfl, rfl, rfl⟩, trivial⟩))
                  · refine L.loadPtr shape24 hF rfl rfl rfl rfl rfl rfl ?_
                    exact L.nil (A.on (hO _ _ _ n6391) (Le.mk [] hm rfl (S6 rfl rfl rfl rfl rfl rfl rfl rfl rfl rfl rfl rfl) trivial trivial))
                have n6239 : W 7 #[true, true, true, true, true, false, true, false, false, false, false, true, true, false, false] (mkSt [(5, MG.one (Cell.sl true (List.map eI v279))), (66, MG.one (cI r333)), (67, MG.one (Cell.ptr 0 1)), (69, MG.one (Cell.ptr 1 0)), (75, MG.one (Cell.sl g4 (List.map eI v297)))] [] [(0, [Cell.sl g0 (List.map eI v281), Cell.sl g1 (List.map eI v282), Cell.sl g2 (List.map eTimpl_Pair v283), Cell.sl g3 (List.map eTimpl_Pair v284), cI v285]), (1, [cI v286, cI v287, cI v288, cI v289, cI v290, cI v291, cI v292, cI v293, cI v294, cI v295, cI v296, Cell.sl g4 (List.map eI v297), Cell.sl g5 (List.map eI v298), cI v299, cS v300])] 2) := by
                  refine hI _ _ _ ?_
                  refine A.all [5, 7] (by kernel_rfl) rfl ⟨⟨_, rfl, ?_⟩, ⟨_, rfl, ?_⟩, trivial⟩
                  · refine L.loadPtr shape24 hF rfl rfl rfl rfl rfl rfl ?_
                    exact L.nil (A.on (hO _ _ _ n6271) (Le.mk [(0, 1)] hm rfl (S5 rfl rfl rfl rfl rfl rfl rfl rfl rfl rfl) trivial ⟨⟨_, _, rfl, rfl, rfl⟩, trivial⟩))
                  · refine L.loadPtr shape3 hF rfl rfl rfl rfl rfl rfl ?_
                    exact L.nil (A.on (hO _ _ _ n6367) (Le.mk [(0, 0)] hm rfl (S5 rfl rfl rfl rfl rfl rfl rfl rfl rfl rfl) trivial ⟨⟨_, _, rfl, rfl, rfl⟩, trivial⟩))
                have n2271 : W 7 #[true, true, true, true, true, false, true, true, false, false, false, true, false, false, false] (mkSt [(5, MG.one (Cell.sl true (List.map eI v279))), (66, MG.one (cI r333)), (67, MG.one (Cell.ptr 0 1)), (70, MG.one (cI v286)), (74, MG.one (Cell.ptr 1 11))] [] [(0, [Cell.sl g0 (List.map eI v281), Cell.sl g1 (List.map eI v282), Cell.sl g2 (List.map eTimpl_Pair v283), Cell.sl g3 (List.map eTimpl_Pair v284), cI v285]), (1, [cI v286, cI v287, cI v288, cI v289, cI v290, cI v291, cI v292, cI v293, cI v294, cI v295, cI v296, Cell.sl g4 (List.map eI v297), Cell.sl g5 (List.map eI v298), cI v299, cS v300])] 2) := by
                  refine hI _ _ _ ?_
                  refine A.all [5, 12] (by kernel_rfl) rfl ⟨⟨_, rfl, ?_⟩, ⟨_, rfl, ?_⟩, trivial⟩
                  · refine L.loadPtr shape24 hF rfl rfl rfl rfl rfl rfl ?_
                    exact L.nil (A.on (hO _ _ _ n2303) (Le.mk [(0, 1)] hm rfl (S5 rfl rfl rfl rfl rfl rfl rfl rfl rfl rfl) trivial ⟨⟨_, _, rfl, rfl, rfl⟩, trivial⟩))
                  · refine L.loadPtr shape24 hF rfl rfl rfl rfl rfl rfl ?_
                    exact L.nil (A.on (hO _ _ _ n6367) (Le.mk [(0, 0)] hm rfl (S5 rfl rfl rfl rfl rfl rfl rfl rfl rfl rfl) trivial ⟨⟨_, _, rfl, rfl, rfl⟩, trivial⟩))
                have n6642 : W 7 #[false, true, false, false, true, true, true, true, true, false, false, true, true, false, false] (mkSt [(2, MG.one (Cell.ptr 0 0)), (5, MG.one (Cell.sl true (List.map eI v279))), (64, MG.one (Cell.ptr 1 1)), (71, MG.one (Cell.pe g1 (eI b334) 0)), (75, MG.one (Cell.sl g4 (List.map eI v297)))] [] [(0, [Cell.sl g0 (List.map eI v281), Cell.sl g1 (List.map eI v282), Cell.sl g2 (List.map eTimpl_Pair v283), Cell.sl g3 (List.map eTimpl_Pair v284), cI v285]), (1, [cI v286, cI v287, cI v288, cI v289, cI v290, cI v291, cI v292, cI v293, cI v294, cI v295, cI v296, Cell.sl g4 (List.map eI v297), Cell.sl g5 (List.map eI v298), cI v299, cS v300])] 2) := by
                  refine hI _ _ _ ?_
                  refine A.all [0, 2, 9] (by kernel_rfl) rfl ⟨⟨_, rfl, ?_⟩, ⟨_, rfl, ?_⟩, ⟨_, rfl, ?_⟩, trivial⟩
                  · refine L.loadPtr shape90 hF rfl rfl rfl rfl rfl rfl ?_
                    exact L.nil (A.on (hO _ _ _ n6643) (Le.mk [(0, 1)] hm rfl (S5 rfl rfl rfl rfl rfl rfl rfl rfl rfl rfl) trivial ⟨⟨_, _, rfl, rfl, rfl⟩, trivial⟩))
                  · refine L.loadPtr shape3 hF rfl rfl rfl rfl rfl rfl ?_
                    exact L.nil (A.on (hO _ _ _ n6646) (Le.mk [(0, 0)] hm rfl (S5 rfl rfl rfl rfl rfl rfl rfl rfl rfl rfl) trivial ⟨⟨_, _, rfl, rfl, rfl⟩, trivial⟩))
                  · refine L.loadPe shape3 hF rfl rfl rfl rfl rfl ?_
                    exact L.nil (A.on (hO _ _ _ n7154) (Le.mk [(0, 0), (1, 1)] hm rfl (S5 rfl rfl rfl rfl rfl rfl rfl rfl rfl rfl) trivial (B2 rfl rfl rfl rfl rfl rfl)))
                have n6390 : W 7 #[false, true, true, false, true, true, true, true, false, false, false, true, true, false, false] (mkSt [(2, MG.one (Cell.ptr 0 0)), (5, MG.one (Cell.sl true (List.map eI v279))), (65, MG.one (cI v287)), (68, MG.one (Cell.sl g1 (List.map eI v282))), (70, MG.one (cI v286)), (75, MG.one (Cell.sl g4 (List.map eI v297)))] [] [(0, [Cell.sl g0 (List.map eI v281), Cell.sl g1 (List.map eI v282), Cell.sl g2 (List.map eTimpl_Pair v283), Cell.sl g3 (List.map eTimpl_Pair v284), cI v285])] 1) := by
                  refine hI _ _ _ ?_
                  refine A.take 8 rfl (by kernel_rfl) (by kernel_rfl) (by kernel_rfl) rfl (Ca.indexAddr) (fun Q0 k0 => L.idxR (xs := v282) (e := eI) Try.underlying24 info3 hF rfl rfl rfl rfl rfl hb334 rfl rfl (L.nil k0)) ?_
                  exact A.on (hO _ _ _ n6646) (Le.mk [(0, 0)] hm rfl (S5 rfl rfl rfl rfl rfl rfl rfl rfl rfl rfl) trivial ⟨⟨_, _, rfl, rfl, rfl⟩, trivial⟩)
                have n6259 : W 8 #[true, true, false, false, true, true, true, false, false, false, false, true, true, false, false] (mkSt [(5, MG.one (Cell.sl true (List.map eI v279))), (63, agg [Cell.sl g0 (List.map eI v281), Cell.sl g1 (List.map eI v282), Cell.sl g2 (List.map eTimpl_Pair v283), Cell.sl g3 (List.map eTimpl_Pair v284), cI v285]), (64, MG.one (Cell.ptr 0 1)), (68, MG.one (Cell.sl g1 (List.map eI v282))), (69, MG.one (Cell.ptr 0 0)), (75, MG.one (Cell.sl g4 (List.map eI v297)))] [] [(0, [cI v286, cI v287, cI v288, cI v289, cI v290, cI v291, cI v292, cI v293, cI v294, cI v295, cI v296, Cell.sl g4 (List.map eI v297), Cell.sl g5 (List.map eI v298), cI v299, cS v300])] 1) := by
                  refine hI _ _ _ ?_
                  refine A.all [2, 7] (by kernel_rfl) rfl ⟨⟨_, rfl, ?_⟩, ⟨_, rfl, ?_⟩, trivial⟩
                  · refine L.loadPtr shape3 hF rfl rfl rfl rfl rfl rfl ?_
                    exact L.nil (A.on (hO _ _ _ n6263) (Le.mk [(0, 0)] hm rfl (S6 rfl rfl rfl rfl rfl rfl rfl rfl rfl rfl rfl rfl) trivial ⟨⟨_, _, rfl, rfl, rfl⟩, trivial⟩))
                  · refine L.loadPtr shape3 hF rfl rfl rfl rfl rfl rfl ?_
                    exact L.nil (A.on (hO _ _ _ n6387) (Le.mk [(0, 0)] hm rfl (S6 rfl rfl rfl rfl rfl rfl rfl rfl rfl rfl rfl rfl) trivial ⟨⟨_, _, rfl, rfl, rfl⟩, trivial⟩))
                have n2291 : W 8 #[true, true, false, false, true, true, true, true, false, false, false, true, false, false, false] (mkSt [(5, MG.one (Cell.sl true (List.map eI v279))), (63, agg [Cell.sl g0 (List.map eI v281), Cell.sl g1 (List.map eI v282), Cell.sl g2 (List.map eTimpl_Pair v283), Cell.sl g3 (List.map eTimpl_Pair v284), cI v285]), (64, MG.one (Cell.ptr 0 1)), (68, MG.one (Cell.sl g1 (List.map eI v282))), (70, MG.one (cI v286)), (74, MG.one (Cell.ptr 0 11))] [] [(0, [cI v286, cI v287, cI v288, cI v289, cI v290, cI v291, cI v292, cI v293, cI v294, cI v295, cI v296, Cell.sl g4 (List.map eI v297), Cell.sl g5 (List.map eI v298), cI v299, cS v300])] 1) := by
                  refine hI _ _ _ ?_
                  refine A.take 8 rfl (by kernel_rfl) (by kernel_rfl) (by kernel_rfl) rfl (Ca.indexAddr) (fun Q0 k0 => L.idxR (xs := v282) (e := eI) Try.underlying24 info3 hF rfl rfl rfl rfl rfl hb334 rfl rfl (L.nil k0)) ?_
                  exact A.on (hO _ _ _ n2547) (Le.mk [(0, 0)] hm rfl (S5 rfl rfl rfl rfl rfl rfl rfl rfl rfl rfl) trivial ⟨⟨_, _, rfl, rfl, rfl⟩, trivial⟩)
                have n2294 : W 8 #[false, true, true, false, true, true, true, true, false, false, false, true, false, false, false] (mkSt [(2, MG.one (Cell.ptr 0 0)), (5, MG.one (Cell.sl true (List.map eI v279))), (65, MG.one (cI v287)), (68, MG.one (Cell.sl g1 (List.map eI v282))), (70, MG.one (cI v286)), (74, MG.one (Cell.ptr 1 11))] [] [(0, [Cell.sl g0 (List.map eI v281), Cell.sl g1 (List.map eI v282), Cell.sl g2 (List.map eTimpl_Pair v283), Cell.sl g3 (List.map eTimpl_Pair v284), cI v285]), (1, [cI v286, cI v287, cI v288, cI v289, cI v290, cI v291, cI v292, cI v293, cI v294, cI v295, cI v296, Cell.sl g4 (List.map eI v297), Cell.sl g5 (List.map eI v298), cI v299, cS v300])] 2) := by
                  refine hI _ _ _ ?_
                  refine A.take 8 rfl (by kernel_rfl) (by kernel_rfl) (by kernel_rfl) rfl (Ca.indexAddr) (fun Q0 k0 => L.idxR (xs := v282) (e := eI) Try.underlying24 info3 hF rfl rfl rfl rfl rfl hb334 rfl rfl (L.nil k0)) ?_
                  exact A.on (hO _ _ _ n2550) (Le.mk [(0, 0), (1, 1)] hm rfl (S5 rfl rfl rfl rfl rfl rfl rfl rfl rfl rfl) trivial (B2 rfl rfl rfl rfl rfl rfl))
                have n2167 : W 8 #[true, true, true, false, true, true, true, false, false, false, false, true, false, false, false] (mkSt [(5, MG.one (Cell.sl true (List.map eI v279))), (63, agg [Cell.sl g0 (List.map eI v281), Cell.sl g1 (List.map eI v282), Cell.sl g2 (List.map eTimpl_Pair v283), Cell.sl g3 (List.map eTimpl_Pair v284), cI v285]), (65, MG.one (cI v287)), (68, MG.one (Cell.sl g1 (List.map eI v282))), (69, MG.one (Cell.ptr 0 0)), (74, MG.one (Cell.ptr 0 11))] [] [(0, [cI v286, cI v287, cI v288, cI v289, cI v290, cI v291, cI v292, cI v293, cI v294, cI v295, cI v296, Cell.sl g4 (List.map eI v297), Cell.sl g5 (List.map eI v298), cI v299, cS v300])] 1) := by
                  refine hI _ _ _ ?_
                  refine A.all [3, 7, 12] (by kernel_rfl) rfl ⟨⟨_, rfl, ?_⟩, ⟨_, rfl, ?_⟩, ⟨_, rfl, ?_⟩, trivial⟩
                  · refine L.call [false, false] [] [] 1 hF rfl rfl rfl ent153 rfl rfl rfl rfl rfl (Fspec_RealmOf_gives k7 g0 g1 g2 g3 (⟨v281, v282, v283, v284, v285⟩ : Timpl_Config) v287 r333 hr333) rfl ?_
                    exact L.nil (A.on (hO _ _ _ n2175) (Le.mk [(0, 0)] hm rfl (S5 rfl rfl rfl rfl rfl rfl rfl rfl rfl rfl) trivial ⟨⟨_, _, rfl, rfl, rfl⟩, trivial⟩))
                  · refine L.loadPtr shape3 hF rfl rfl rfl rfl rfl rfl ?_
                    exact L.nil (A.on (hO _ _ _ n2295) (Le.mk [(0, 0)] hm rfl (S6 rfl rfl rfl rfl rfl rfl rfl rfl rfl rfl rfl rfl) trivial ⟨⟨_, _, rfl, rfl, rfl⟩, trivial⟩))
                  · refine L.loadPtr shape24 hF rfl rfl rfl rfl rfl rfl ?_
                    exact L.nil (A.on (hO _ _ _ n6263) (Le.mk [(0, 0)] hm rfl (S6 rfl rfl rfl rfl rfl rfl rfl rfl rfl rfl rfl rfl) trivial ⟨⟨_, _, rfl, rfl, rfl⟩, trivial⟩))
                have n6355 : W 8 #[true, true, false, false, true, false, true, true, false, false, false, true, true, false, false] (mkSt [(5, MG.one (Cell.sl true (List.map eI v279))), (63, agg [Cell.sl g0 (List.map eI v281), Cell.sl g1 (List.map eI v282), Cell.sl g2 (List.map eTimpl_Pair v283), Cell.sl g3 (List.map eTimpl_Pair v284), cI v285]), (64, MG.one (Cell.ptr 0 1)), (67, MG.one (Cell.ptr 1 1)), (70, MG.one (cI v286)), (75, MG.one (Cell.sl g4 (List.map eI v297)))] [] [(0, [cI v286, cI v287, cI v288, cI v289, cI v290, cI v291, cI v292, cI v293, cI v294, cI v295, cI v296, Cell.sl g4 (List.map eI v297), Cell.sl g5 (List.map eI v298), cI v299, cS v300]), (1, [Cell.sl g0 (List.map eI v281), Cell.sl g1 (List.map eI v282), Cell.sl g2 (List.map eTimpl_Pair v283), Cell.sl g3 (List.map eTimpl_Pair v284), cI v285])] 2) := by
                  refine hI _ _ _ ?_
                  refine A.all [2, 5] (by kernel_rfl) rfl ⟨⟨_, rfl, ?_⟩, ⟨_, rfl, ?_⟩, trivial⟩
                  · refine L.loadPtr shape3 hF rfl rfl rfl rfl rfl rfl ?_
                    exact L.nil (A.on (hO _ _ _ n6359) (Le.mk [(0, 1)] hm rfl (S6 rfl rfl rfl rfl rfl rfl rfl rfl rfl rfl rfl rfl) trivial ⟨⟨_, _, rfl, rfl, rfl⟩, trivial⟩))
                  · refine L.loadPtr shape24 hF rfl rfl rfl rfl rfl rfl ?_
                    exact L.nil (A.on (hO _ _ _ n6387) (Le.mk [(0, 0)] hm rfl (S6 rfl rfl rfl rfl rfl rfl rfl rfl rfl rfl rfl rfl) trivial ⟨⟨_, _, rfl, rfl, rfl⟩, trivial⟩))
                have n6358 : W 8 #[false, true, true, false, true, false, true, true, false, false, false, true, true, false, false] (mkSt [(2, MG.one (Cell.ptr 0 0)), (5, MG.one (Cell.sl true (List.map eI v279))), (65, MG.one (cI v287)), (67, MG.one (Cell.ptr 0 1)), (70, MG.one (cI v286)), (75, MG.one (Cell.sl g4 (List.map eI v297)))] [] [(0, [Cell.sl g0 (List.map eI v281), Cell.sl g1 (List.map eI v282), Cell.sl g2 (List.map eTimpl_Pair v283), Cell.sl g3 (List.map eTimpl_Pair v284), cI v285])] 1) := by
                  refine hI _ _ _ ?_
                  refine A.all [0, 5] (by kernel_rfl) rfl ⟨⟨_, rfl, ?_⟩, ⟨_, rfl, ?_⟩, trivial⟩
                  · refine L.loadPtr shape90 hF rfl rfl rfl rfl rfl rfl ?_
                    exact L.nil (A.on (hO _ _ _ n6359) (Le.mk [(0, 0)] hm rfl (S6 rfl rfl rfl rfl rfl rfl rfl rfl rfl rfl rfl rfl) trivial ⟨⟨_, _, rfl, rfl, rfl⟩, trivial⟩))
                  · refine L.loadPtr shape24 hF rfl rfl rfl rfl rfl rfl ?_
                    exact L.nil (A.on (hO _ _ _ n6390) (Le.mk [(0, 0)] hm rfl (S6 rfl rfl rfl rfl rfl rfl rfl rfl rfl rfl rfl rfl) trivial ⟨⟨_, _, rfl, rfl, rfl⟩, trivial⟩))
                have n6231 : W 8 #[true, true, true, false, true, false, true, false, false, false, false, true, true, false, false] (mkSt [(5, MG.one (Cell.sl true (List.map eI v279))), (63, agg [Cell.sl g0 (List.map eI v281), Cell.sl g1 (List.map eI v282), Cell.sl g2 (List.map eTimpl_Pair v283), Cell.sl g3 (List.map eTimpl_Pair v284), cI v285]), (65, MG.one (cI v287)), (67, MG.one (Cell.ptr 0 1)), (69, MG.one (Cell.ptr 1 0)), (75, MG.one (Cell.sl g4 (List.map eI v297)))] [] [(0, [Cell.sl g0 (List.map eI v281), Cell.sl g1 (List.map eI v282), Cell.sl g2 (List.map eTimpl_Pair v283), Cell.sl g3 (List.map eTimpl_Pair v284), cI v285]), (1, [cI v286, cI v287, cI v288, cI v289, cI v290, cI v291, cI v292, cI v293, cI v294, cI v295, cI v296, Cell.sl g4 (List.map eI v297), Cell.sl g5 (List.map eI v298), cI v299, cS v300])] 2) := by
                  refine hI _ _ _ ?_
                  refine A.all [3, 5, 7] (by kernel_rfl) rfl ⟨⟨_, rfl, ?_⟩, ⟨_, rfl, ?_⟩, ⟨_, rfl, ?_⟩, trivial⟩
                  · refine L.call [false, false] [] [] 2 hF rfl rfl rfl ent153 rfl rfl rfl rfl rfl (Fspec_RealmOf_gives k7 g0 g1 g2 g3 (⟨v281, v282, v283, v284, v285⟩ : Timpl_Config) v287 r333 hr333) rfl ?_
                    exact L.nil (A.on (hO _ _ _ n6239) (Le.mk [(0, 0), (1, 1)] hm rfl (S5 rfl rfl rfl rfl rfl rfl rfl rfl rfl rfl) trivial (B2 rfl rfl rfl rfl rfl rfl)))
                  · refine L.loadPtr shape24 hF rfl rfl rfl rfl rfl rfl ?_
                    exact L.nil (A.on (hO _ _ _ n6263) (Le.mk [(0, 1)] hm rfl (S6 rfl rfl rfl rfl rfl rfl rfl rfl rfl rfl rfl rfl) trivial ⟨⟨_, _, rfl, rfl, rfl⟩, trivial⟩))
                  · refine L.loadPtr shape3 hF rfl rfl rfl rfl rfl rfl ?_
                    exact L.nil (A.on (hO _ _ _ n6359) (Le.mk [(0, 0)] hm rfl (S6 rfl rfl rfl rfl rfl rfl rfl rfl rfl rfl rfl rfl) trivial ⟨⟨_, _, rfl, rfl, rfl⟩, trivial⟩))
                have n2263 : W 8 #[true, true, true, false, true, false, true, true, false, false, false, true, false, false, false] (mkSt [(5, MG.one (Cell.sl true (List.map eI v279))), (63, agg [Cell.sl g0 (List.map eI v281), Cell.sl g1 (List.map eI v282), Cell.sl g2 (List.map eTimpl_Pair v283), Cell.sl g3 (List.map eTimpl_Pair v284), cI v285]), (65, MG.one (cI v287)), (67, MG.one (Cell.ptr 0 1)), (70, MG.one (cI v286)), (74, MG.one (Cell.ptr 1 11))] [] [(0, [Cell.sl g0 (List.map eI v281), Cell.sl g1 (List.map eI v282), Cell.sl g2 (List.map eTimpl_Pair v283), Cell.sl g3 (List.map eTimpl_Pair v284), cI v285]), (1, [cI v286, cI v287, cI v288, cI v289, cI v290, cI v291, cI v292, cI v293, cI v294, cI v295, cI v296, Cell.sl g4 (List.map eI v297), Cell.sl g5 (List.map eI v298), cI v299, cS v300])] 2) := by
                  refine hI _ _ _ ?_
                  refine A.all [3, 5, 12] (by kernel_rfl) rfl ⟨⟨_, rfl, ?_⟩, ⟨_, rfl, ?_⟩, ⟨_, rfl, ?_⟩, trivial⟩
                  · refine L.call [false, false] [] [] 2 hF rfl rfl rfl ent153 rfl rfl rfl rfl rfl (Fspec_RealmOf_gives k7 g0 g1 g2 g3 (⟨v281, v282, v283, v284, v285⟩ : Timpl_Config) v287 r333 hr333) rfl ?_
                    exact L.nil (A.on (hO _ _ _ n2271) (Le.mk [(0, 0), (1, 1)] hm rfl (S5 rfl rfl rfl rfl rfl rfl rfl rfl rfl rfl) trivial (B2 rfl rfl rfl rfl rfl rfl)))
                  · refine L.loadPtr shape24 hF rfl rfl rfl rfl rfl rfl ?_
                    exact L.nil (A.on (hO _ _ _ n2295) (Le.mk [(0, 1)] hm rfl (S6 rfl rfl rfl rfl rfl rfl rfl rfl rfl rfl rfl rfl) trivial ⟨⟨_, _, rfl, rfl, rfl⟩, trivial⟩))
                  · refine L.loadPtr shape24 hF rfl rfl rfl rfl rfl rfl ?_
                    exact L.nil (A.on (hO _ _ _ n6359) (Le.mk [(0, 0)] hm rfl (S6 rfl rfl rfl rfl rfl rfl rfl rfl rfl rfl rfl rfl) trivial ⟨⟨_, _, rfl, rfl, rfl⟩, trivial⟩))
                have n6386 : W 8 #[false, true, false, false, true, true, true, true, false, false, false, true, true, false, false] (mkSt [(2, MG.one (Cell.ptr 0 0)), (5, MG.one (Cell.sl true (List.map eI v279))), (64, MG.one (Cell.ptr 1 1)), (68, MG.one (Cell.sl g1 (List.map eI v282))), (70, MG.one (cI v286)), (75, MG.one (Cell.sl g4 (List.map eI v297)))] [] [(0, [Cell.sl g0 (List.map eI v281), Cell.sl g1 (List.map eI v282), Cell.sl g2 (List.map eTimpl_Pair v283), Cell.sl g3 (List.map eTimpl_Pair v284), cI v285]), (1, [cI v286, cI v287, cI v288, cI v289, cI v290, cI v291, cI v292, cI v293, cI v294, cI v295, cI v296, Cell.sl g4 (List.map eI v297), Cell.sl g5 (List.map eI v298), cI v299, cS v300])] 2) := by
                  refine hI _ _ _ ?_
                  refine A.take 8 rfl (by kernel_rfl) (by kernel_rfl) (by kernel_rfl) rfl (Ca.indexAddr) (fun Q0 k0 => L.idxR (xs := v282) (e := eI) Try.underlying24 info3 hF rfl rfl rfl rfl rfl hb334 rfl rfl (L.nil k0)) ?_
                  exact A.on (hO _ _ _ n6642) (Le.mk [(0, 0), (1, 1)] hm rfl (S5 rfl rfl rfl rfl rfl rfl rfl rfl rfl rfl) trivial (B2 rfl rfl rfl rfl rfl rfl))
                have n6262 : W 8 #[false, true, true, false, true, true, true, false, false, false, false, true, true, false, false] (mkSt [(2, MG.one (Cell.ptr 0 0)), (5, MG.one (Cell.sl true (List.map eI v279))), (65, MG.one (cI v287)), (68, MG.one (Cell.sl g1 (List.map eI v282))), (69, MG.one (Cell.ptr 1 0)), (75, MG.one (Cell.sl g4 (List.map eI v297)))] [] [(0, [Cell.sl g0 (List.map eI v281), Cell.sl g1 (List.map eI v282), Cell.sl g2 (List.map eTimpl_Pair v283), Cell.sl g3 (List.map eTimpl_Pair v284), cI v285]), (1, [cI v286, cI v287, cI v288, cI v289, cI v290, cI v291, cI v292, cI v293, cI v294, cI v295, cI v296, Cell.sl g4 (List.map eI v297), Cell.sl g5 (List.map eI v298), cI v299, cS v300])] 2) := by
                  refine hI _ _ _ ?_
                  refine A.all [0, 7] (by kernel_rfl) rfl ⟨⟨_, rfl, ?_⟩, ⟨_, rfl, ?_⟩, trivial⟩
                  · refine L.loadPtr shape90 hF rfl rfl rfl rfl rfl rfl ?_
                    exact L.nil (A.on (hO _ _ _ n6263) (Le.mk [(0, 1)] hm rfl (S6 rfl rfl rfl rfl rfl rfl rfl rfl rfl rfl rfl rfl) trivial ⟨⟨_, _, rfl, rfl, rfl⟩, trivial⟩))
                  · refine L.loadPtr shape3 hF rfl rfl rfl rfl rfl rfl ?_
                    exact L.nil (A.on (hO _ _ _ n6390) (Le.mk [(0, 0)] hm rfl (S6 rfl rfl rfl rfl rfl rfl rfl rfl rfl rfl rfl rfl) trivial ⟨⟨_, _, rfl, rfl, rfl⟩, trivial⟩))
                have n2290 : W 9 #[false, true, false, false, true, true, true, true, false, false, false, true, false, false, false] (mkSt [(2, MG.one (Cell.ptr 0 0)), (5, MG.one (Cell.sl true (List.map eI v279))), (64, MG.one (Cell.ptr 1 1)), (68, MG.one (Cell.sl g1 (List.map eI v282))), (70, MG.one (cI v286)), (74, MG.one (Cell.ptr 1 11))] [] [(0, [Cell.sl g0 (List.map eI v281), Cell.sl g1 (List.map eI v282), Cell.sl g2 (List.map eTimpl_Pair v283), Cell.sl g3 (List.map eTimpl_Pair v284), cI v285]), (1, [cI v286, cI v287, cI v288, cI v289, cI v290, cI v291, cI v292, cI v293, cI v294, cI v295, cI v296, Cell.sl g4 (List.map eI v297), Cell.sl g5 (List.map eI v298), cI v299, cS v300])] 2) := by
                  refine hI _ _ _ ?_
                  refine A.take 8 rfl (by kernel_rfl) (by kernel_rfl) (by kernel_rfl) rfl (Ca.indexAddr) (fun Q0 k0 => L.idxR (xs := v282) (e := eI) Try.underlying24 info3 hF rfl rfl rfl rfl rfl hb334 rfl rfl (L.nil k0)) ?_
                  refine A.all [0, 2, 9, 12] (by kernel_rfl) rfl ⟨⟨_, rfl, ?_⟩, ⟨_, rfl, ?_⟩, ⟨_, rfl, ?_⟩, ⟨_, rfl, ?_⟩, trivial⟩
                  · refine L.loadPtr shape90 hF rfl rfl rfl rfl rfl rfl ?_
                    exact L.nil (A.on (hO _ _ _ n2547) (Le.mk [(0, 1)] hm rfl (S5 rfl rfl rfl rfl rfl rfl rfl rfl rfl rfl) trivial ⟨⟨_, _, rfl, rfl, rfl⟩, trivial⟩))
                  · refine L.loadPtr shape3 hF rfl rfl rfl rfl rfl rfl ?_
                    exact L.nil (A.on (hO _ _ _ n2550) (Le.mk [(0, 0), (1, 1)] hm rfl (S5 rfl rfl rfl rfl rfl rfl rfl rfl rfl rfl) trivial (B2 rfl rfl rfl rfl rfl rfl)))
                  · refine L.loadPe shape3 hF rfl rfl rfl rfl rfl ?_
                    refine L.nil ?_
                    refine A.all [0, 2, 12] (by kernel_rfl) rfl ⟨⟨_, rfl, ?_⟩, ⟨_, rfl, ?_⟩, ⟨_, rfl, ?_⟩, trivial⟩
                    · refine L.loadPtr shape90 hF rfl rfl rfl rfl rfl rfl ?_
                      exact L.nil (A.on (hO _ _ _ n3059) (Le.mk [(0, 1)] hm rfl (S5 rfl rfl rfl rfl rfl rfl rfl rfl rfl rfl) trivial ⟨⟨_, _, rfl, rfl, rfl⟩, trivial⟩))
                    · refine L.loadPtr shape3 hF rfl rfl rfl rfl rfl rfl ?_
                      exact L.nil (A.on (hO _ _ _ n3062) (Le.mk [(0, 0), (1, 1)] hm rfl (S5 rfl rfl rfl rfl rfl rfl rfl rfl rfl rfl) trivial (B2 rfl rfl rfl rfl rfl rfl)))
                    · refine L.loadPtr shape24 hF rfl rfl rfl rfl rfl rfl ?_
                      exact L.nil (A.on (hO _ _ _ n7154) (Le.mk [(0, 0), (1, 1)] hm rfl (S5 rfl rfl rfl rfl rfl rfl rfl rfl rfl rfl) trivial (B2 rfl rfl rfl rfl rfl rfl)))
                  · refine L.loadPtr shape24 hF rfl rfl rfl rfl rfl rfl ?_
                    exact L.nil (A.on (hO _ _ _ n6642) (Le.mk [(0, 0), (1, 1)] hm rfl (S5 rfl rfl rfl rfl rfl rfl rfl rfl rfl rfl) trivial (B2 rfl rfl rfl rfl rfl rfl)))
                have n2163 : W 9 #[true, true, false, false, true, true, true, false, false, false, false, true, false, false, false] (mkSt [(5, MG.one (Cell.sl true (List.map eI v279))), (63, agg [Cell.sl g0 (List.map eI v281), Cell.sl g1 (List.map eI v282), Cell.sl g2 (List.map eTimpl_Pair v283), Cell.sl g3 (List.map eTimpl_Pair v284), cI v285]), (64, MG.one (Cell.ptr 0 1)), (68, MG.one (Cell.sl g1 (List.map eI v282))), (69, MG.one (Cell.ptr 0 0)), (74, MG.one (Cell.ptr 0 11))] [] [(0, [cI v286, cI v287, cI v288, cI v289, cI v290, cI v291, cI v292, cI v293, cI v294, cI v295, cI v296, Cell.sl g4 (List.map eI v297), Cell.sl g5 (List.map eI v298), cI v299, cS v300])] 1) := by
                  refine hI _ _ _ ?_
                  refine A.all [2, 7, 12] (by kernel_rfl) rfl ⟨⟨_, rfl, ?_⟩, ⟨_, rfl, ?_⟩, ⟨_, rfl, ?_⟩, trivial⟩
                  · refine L.loadPtr shape3 hF rfl rfl rfl rfl rfl rfl ?_
                    exact L.nil (A.on (hO _ _ _ n2167) (Le.mk [(0, 0)] hm rfl (S6 rfl rfl rfl rfl rfl rfl rfl rfl rfl rfl rfl rfl) trivial ⟨⟨_, _, rfl, rfl, rfl⟩, trivial⟩))
                  · refine L.loadPtr shape3 hF rfl rfl rfl rfl rfl rfl ?_
                    exact L.nil (A.on (hO _ _ _ n2291) (Le.mk [(0, 0)] hm rfl (S6 rfl rfl rfl rfl rfl rfl rfl rfl rfl rfl rfl rfl) trivial ⟨⟨_, _, rfl, rfl, rfl⟩, trivial⟩))
                  · refine L.loadPtr shape24 hF rfl rfl rfl rfl rfl rfl ?_
                    exact L.nil (A.on (hO _ _ _ n6259) (Le.mk [(0, 0)] hm rfl (S6 rfl rfl rfl rfl rfl rfl rfl rfl rfl rfl rfl rfl) trivial ⟨⟨_, _, rfl, rfl, rfl⟩, trivial⟩))
                have n2166 : W 9 #[false, true, true, false, true, true, true, false, false, false, false, true, false, false, false] (mkSt [(2, MG.one (Cell.ptr 0 0)), (5, MG.one (Cell.sl true (List.map eI v279))), (65, MG.one (cI v287)), (68, MG.one (Cell.sl g1 (List.map eI v282))), (69, MG.one (Cell.ptr 1 0)), (74, MG.one (Cell.ptr 1 11))] [] [(0, [Cell.sl g0 (List.map eI v281), Cell.sl g1 (List.map eI v282), Cell.sl g2 (List.map eTimpl_Pair v283), Cell.sl g3 (List.map eTimpl_Pair v284), cI v285]), (1, [cI v286, cI v287, cI v288, cI v289, cI v290, cI v291, cI v292, cI v293, cI v294, cI v295, cI v296, Cell.sl g4 (List.map eI v297), Cell.sl g5 (List.map eI v298), cI v299, cS v300])] 2) := by
                  refine hI _ _ _ ?_
                  refine A.all [0, 7, 12] (by kernel_rfl) rfl ⟨⟨_, rfl, ?_⟩, ⟨_, rfl, ?_⟩, ⟨_, rfl, ?_⟩, trivial⟩
                  · refine L.loadPtr shape90 hF rfl rfl rfl rfl rfl rfl ?_
                    exact L.nil (A.on (hO _ _ _ n2167) (Le.mk [(0, 1)] hm rfl (S6 rfl rfl rfl rfl rfl rfl rfl rfl rfl rfl rfl rfl) trivial ⟨⟨_, _, rfl, rfl, rfl⟩, trivial⟩))
                  · refine L.loadPtr shape3 hF rfl rfl rfl rfl rfl rfl ?_
                    exact L.nil (A.on (hO _ _ _ n2294) (Le.mk [(0, 0), (1, 1)] hm rfl (S6 rfl rfl rfl rfl rfl rfl rfl rfl rfl rfl rfl rfl) trivial (B2 rfl rfl rfl rfl rfl rfl)))
                  · refine L.loadPtr shape24 hF rfl rfl rfl rfl rfl rfl ?_
                    exact L.nil (A.on (hO _ _ _ n6262) (Le.mk [(0, 0), (1, 1)] hm rfl (S6 rfl rfl rfl rfl rfl rfl rfl rfl rfl rfl rfl rfl) trivial (B2 rfl rfl rfl rfl rfl rfl)))
                have n2135 : W 9 #[true, true, true, false, true, false, true, false, false, false, false, true, false, false, false] (mkSt [(5, MG.one (Cell.sl true (List.map eI v279))), (63, agg [Cell.sl g0 (List.map eI v281), Cell.sl g1 (List.map eI v282), Cell.sl g2 (List.map eTimpl_Pair v283), Cell.sl g3 (List.map eTimpl_Pair v284), cI v285]), (65, MG.one (cI v287)), (67, MG.one (Cell.ptr 0 1)), (69, MG.one (Cell.ptr 1 0)), (74, MG.one (Cell.ptr 1 11))] [] [(0, [Cell.sl g0 (List.map eI v281), Cell.sl g1 (List.map eI v282), Cell.sl g2 (List.map eTimpl_Pair v283), Cell.sl g3 (List.map eTimpl_Pair v284), cI v285]), (1, [cI v286, cI v287, cI v288, cI v289, cI v290, cI v291, cI v292, cI v293, cI v294, cI v295, cI v296, Cell.sl g4 (List.map eI v297), Cell.sl g5 (List.map eI v298), cI v299, cS v300])] 2) := by
                  refine hI _ _ _ ?_
                  refine A.all [3, 5, 7, 12] (by kernel_rfl) rfl ⟨⟨_, rfl, ?_⟩, ⟨_, rfl, ?_⟩, ⟨_, rfl, ?_⟩, ⟨_, rfl, ?_⟩, trivial⟩
                  · refine L.call [false, false] [] [] 2 hF rfl rfl rfl ent153 rfl rfl rfl rfl rfl (Fspec_RealmOf_gives k7 g0 g1 g2 g3 (⟨v281, v282, v283, v284, v285⟩ : Timpl_Config) v287 r333 hr333) rfl ?_
                    refine L.nil ?_
                    refine A.all [5, 7, 12] (by kernel_rfl) rfl ⟨⟨_, rfl, ?_⟩, ⟨_, rfl, ?_⟩, ⟨_, rfl, ?_⟩, trivial⟩
                    · refine L.loadPtr shape24 hF rfl rfl rfl rfl rfl rfl ?_
                      exact L.nil (A.on (hO _ _ _ n2175) (Le.mk [(0, 1)] hm rfl (S5 rfl rfl rfl rfl rfl rfl rfl rfl rfl rfl) trivial ⟨⟨_, _, rfl, rfl, rfl⟩, trivial⟩))
                    · refine L.loadPtr shape3 hF rfl rfl rfl rfl rfl rfl ?_
                      exact L.nil (A.on (hO _ _ _ n2271) (Le.mk [(0, 0), (1, 1)] hm rfl (S5 rfl rfl rfl rfl rfl rfl rfl rfl rfl rfl) trivial (B2 rfl rfl rfl rfl rfl rfl)))
                    · refine L.loadPtr shape24 hF rfl rfl rfl rfl rfl rfl ?_
                      exact L.nil (A.on (hO _ _ _ n6239) (Le.mk [(0, 0), (1, 1)] hm rfl (S5 rfl rfl rfl rfl rfl rfl rfl rfl rfl rfl) trivial (B2 rfl rfl rfl rfl rfl rfl)))
                  · refine L.loadPtr shape24 hF rfl rfl rfl rfl rfl rfl ?_
                    exact L.nil (A.on (hO _ _ _ n2167) (Le.mk [(0, 1)] hm rfl (S6 rfl rfl rfl rfl rfl rfl rfl rfl rfl rfl rfl rfl) trivial ⟨⟨_, _, rfl, rfl, rfl⟩, trivial⟩))
                  · refine L.loadPtr shape3 hF rfl rfl rfl rfl rfl rfl ?_
                    exact L.nil (A.on (hO _ _ _ n2263) (Le.mk [(0, 0), (1, 1)] hm rfl (S6 rfl rfl rfl rfl rfl rfl rfl rfl rfl rfl rfl rfl) trivial (B2 rfl rfl rfl rfl rfl rfl)))
                  · refine L.loadPtr shape24 hF rfl rfl rfl rfl rfl rfl ?_
                    exact L.nil (A.on (hO _ _ _ n6231) (Le.mk [(0, 0), (1, 1)] hm rfl (S6 rfl rfl rfl rfl rfl rfl rfl rfl rfl rfl rfl rfl) trivial (B2 rfl rfl rfl rfl rfl rfl)))
                have n6354 : W 9 #[false, true, false, false, true, false, true, true, false, false, false, true, true, false, false] (mkSt [(2, MG.one (Cell.ptr 0 0)), (5, MG.one (Cell.sl true (List.map eI v279))), (64, MG.one (Cell.ptr 1 1)), (67, MG.one (Cell.ptr 0 1)), (70, MG.one (cI v286)), (75, MG.one (Cell.sl g4 (List.map eI v297)))] [] [(0, [Cell.sl g0 (List.map eI v281), Cell.sl g1 (List.map eI v282), Cell.sl g2 (List.map eTimpl_Pair v283), Cell.sl g3 (List.map eTimpl_Pair v284), cI v285]), (1, [cI v286, cI v287, cI v288, cI v289, cI v290, cI v291, cI v292, cI v293, cI v294, cI v295, cI v296, Cell.sl g4 (List.map eI v297), Cell.sl g5 (List.map eI v298), cI v299, cS v300])] 2) := by
                  refine hI _ _ _ ?_
                  refine A.all [0, 2, 5] (by kernel_rfl) rfl ⟨⟨_, rfl, ?_⟩, ⟨_, rfl, ?_⟩, ⟨_, rfl, ?_⟩, trivial⟩
                  · refine L.loadPtr shape90 hF rfl rfl rfl rfl rfl rfl ?_
                    exact L.nil (A.on (hO _ _ _ n6355) (Le.mk [(0, 1), (1, 0)] hm rfl (S6 rfl rfl rfl rfl rfl rfl rfl rfl rfl rfl rfl rfl) trivial (B2 rfl rfl rfl rfl rfl rfl)))
                  · refine L.loadPtr shape3 hF rfl rfl rfl rfl rfl rfl ?_
                    exact L.nil (A.on (hO _ _ _ n6358) (Le.mk [(0, 0)] hm rfl (S6 rfl rfl rfl rfl rfl rfl rfl rfl rfl rfl rfl rfl) trivial ⟨⟨_, _, rfl, rfl, rfl⟩, trivial⟩))
                  · refine L.loadPtr shape24 hF rfl rfl rfl rfl rfl rfl ?_
                    exact L.nil (A.on (hO _ _ _ n6386) (Le.mk [(0, 0), (1, 1)] hm rfl (S6 rfl rfl rfl rfl rfl rfl rfl rfl rfl rfl rfl rfl) trivial (B2 rfl rfl rfl rfl rfl rfl)))
                have n6227 : W 9 #[true, true, false, false, true, false, true, false, false, false, false, true, true, false, false] (mkSt [(5, MG.one (Cell.sl true (List.map eI v279))), (63, agg [Cell.sl g0 (List.map eI v281), Cell.sl g1 (List.map eI v282), Cell.sl g2 (List.map eTimpl_Pair v283), Cell.sl g3 (List.map eTimpl_Pair v284), cI v285]), (64, MG.one (Cell.ptr 0 1)), (67, MG.one (Cell.ptr 1 1)), (69, MG.one (Cell.ptr 0 0)), (75, MG.one (Cell.sl g4 (List.map eI v297)))] [] [(0, [cI v286, cI v287, cI v288, cI v289, cI v290, cI v291, cI v292, cI v293, cI v294, cI v295, cI v296, Cell.sl g4 (List.map eI v297), Cell.sl g5 (List.map eI v298), cI v299, cS v300]), (1, [Cell.sl g0 (List.map eI v281), Cell.sl g1 (List.map eI v282), Cell.sl g2 (List.map eTimpl_Pair v283), Cell.sl g3 (List.map eTimpl_Pair v284), cI v285])] 2) := by
                  refine hI _ _ _ ?_
                  refine A.all [2, 5, 7] (by kernel_rfl) rfl ⟨⟨_, rfl, ?_⟩, ⟨_, rfl, ?_⟩, ⟨_, rfl, ?_⟩, trivial⟩
                  · refine L.loadPtr shape3 hF rfl rfl rfl rfl rfl rfl ?_
                    exact L.nil (A.on (hO _ _ _ n6231) (Le.mk [(0, 1), (1, 0)] hm rfl (S6 rfl rfl rfl rfl rfl rfl rfl rfl rfl rfl rfl rfl) trivial (B2 rfl rfl rfl rfl rfl rfl)))
                  · refine L.loadPtr shape24 hF rfl rfl rfl rfl rfl rfl ?_
                    exact L.nil (A.on (hO _ _ _ n6259) (Le.mk [(0, 0)] hm rfl (S6 rfl rfl rfl rfl rfl rfl rfl rfl rfl rfl rfl rfl) trivial ⟨⟨_, _, rfl, rfl, rfl⟩, trivial⟩))
                  · refine L.loadPtr shape3 hF rfl rfl rfl rfl rfl rfl ?_
                    exact L.nil (A.on (hO _ _ _ n6355) (Le.mk [(0, 0), (1, 1)] hm rfl (S6 rfl rfl rfl rfl rfl rfl rfl rfl rfl rfl rfl rfl) trivial (B2 rfl rfl rfl rfl rfl rfl)))
                have n6230 : W 9 #[false, true, true, false, true, false, true, false, false, false, false, true, true, false, false] (mkSt [(2, MG.one (Cell.ptr 0 0)), (5, MG.one (Cell.sl true (List.map eI v279))), (65, MG.one (cI v287)), (67, MG.one (Cell.ptr 0 1)), (69, MG.one (Cell.ptr 1 0)), (75, MG.one (Cell.sl g4 (List.map eI v297)))] [] [(0, [Cell.sl g0 (List.map eI v281), Cell.sl g1 (List.map eI v282), Cell.sl g2 (List.map eTimpl_Pair v283), Cell.sl g3 (List.map eTimpl_Pair v284), cI v285]), (1, [cI v286, cI v287, cI v288, cI v289, cI v290, cI v291, cI v292, cI v293, cI v294, cI v295, cI v296, Cell.sl g4 (List.map eI v297), Cell.sl g5 (List.map eI v298), cI v299, cS v300])] 2) := by
                  refine hI _ _ _ ?_
                  refine A.all [0, 5, 7] (by kernel_rfl) rfl ⟨⟨_, rfl, ?_⟩, ⟨_, rfl, ?_⟩, ⟨_, rfl, ?_⟩, trivial⟩
                  · refine L.loadPtr shape90 hF rfl rfl rfl rfl rfl rfl ?_
                    exact L.nil (A.on (hO _ _ _ n6231) (Le.mk [(0, 0), (1, 1)] hm rfl (S6 rfl rfl rfl rfl rfl rfl rfl rfl rfl rfl rfl rfl) trivial (B2 rfl rfl rfl rfl rfl rfl)))
                  · refine L.loadPtr shape24 hF rfl rfl rfl rfl rfl rfl ?_
                    exact L.nil (A.on (hO _ _ _ n6262) (Le.mk [(0, 0), (1, 1)] hm rfl (S6 rfl rfl rfl rfl rfl rfl rfl rfl rfl rfl rfl rfl) trivial (B2 rfl rfl rfl rfl rfl rfl)))
                  · refine L.loadPtr shape3 hF rfl rfl rfl rfl rfl rfl ?_
                    exact L.nil (A.on (hO _ _ _ n6358) (Le.mk [(0, 0)] hm rfl (S6 rfl rfl rfl rfl rfl rfl rfl rfl rfl rfl rfl rfl) trivial ⟨⟨_, _, rfl, rfl, rfl⟩, trivial⟩))
                have n2259 : W 9 #[true, true, false, false, true, false, true, true, false, false, false, true, false, false, false] (mkSt [(5, MG.one (Cell.sl true (List.map eI v279))), (63, agg [Cell.sl g0 (List.map eI v281), Cell.sl g1 (List.map eI v282), Cell.sl g2 (List.map eTimpl_Pair v283), Cell.sl g3 (List.map eTimpl_Pair v284), cI v285]), (64, MG.one (Cell.ptr 0 1)), (67, MG.one (Cell.ptr 1 1)), (70, MG.one (cI v286)), (74, MG.one (Cell.ptr 0 11))] [] [(0, [cI v286, cI v287, cI v288, cI v289, cI v290, cI v291, cI v292, cI v293, cI v294, cI v295, cI v296, Cell.sl g4 (List.map eI v297), Cell.sl g5 (List.map eI v298), cI v299, cS v300]), (1, [Cell.sl g0 (List.map eI v281), Cell.sl g1 (List.map eI v282), Cell.sl g2 (List.map eTimpl_Pair v283), Cell.sl g3 (List.map eTimpl_Pair v284), cI v285])] 2) := by
                  refine hI _ _ _ ?_
                  refine A.all [2, 5, 12] (by kernel_rfl) rfl ⟨⟨_, rfl, ?_⟩, ⟨_, rfl, ?_⟩, ⟨_, rfl, ?_⟩, trivial⟩
                  · refine L.loadPtr shape3 hF rfl rfl rfl rfl rfl rfl ?_
                    exact L.nil (A.on (hO _ _ _ n2263) (Le.mk [(0, 1), (1, 0)] hm rfl (S6 rfl rfl rfl rfl rfl rfl rfl rfl rfl rfl rfl rfl) trivial (B2 rfl rfl rfl rfl rfl rfl)))
                  · refine L.loadPtr shape24 hF rfl rfl rfl rfl rfl rfl ?_
                    exact L.nil (A.on (hO _ _ _ n2291) (Le.mk [(0, 0)] hm rfl (S6 rfl rfl rfl rfl rfl rfl rfl rfl rfl rfl rfl rfl) trivial ⟨⟨_, _, rfl, rfl, rfl⟩, trivial⟩))
                  · refine L.loadPtr shape24 hF rfl rfl rfl rfl rfl rfl ?_
                    exact L.nil (A.on (hO _ _ _ n6355) (Le.mk [(0, 0), (1, 1)] hm rfl (S6 rfl rfl rfl rfl rfl rfl rfl rfl rfl rfl rfl rfl) trivial (B2 rfl rfl rfl rfl rfl rfl)))
                have n6258 : W 9 #[false, true, false, false, true, true, true, false, false, false, false, true, true, false, false] (mkSt [(2, MG.one (Cell.ptr 0 0)), (5, MG.one (Cell.sl true (List.map eI v279))), (64, MG.one (Cell.ptr 1 1)), (68, MG.one (Cell.sl g1 (List.map eI v282))), (69, MG.one (Cell.ptr 1 0)), (75, MG.one (Cell.sl g4 (List.map eI v297)))] [] [(0, [Cell.sl g0 (List.map eI v281), Cell.sl g1 (List.map eI v282), Cell.sl g2 (List.map eTimpl_Pair v283), Cell.sl g3 (List.map eTimpl_Pair v284), cI v285]), (1, [cI v286, cI v287, cI v288, cI v289, cI v290, cI v291, cI v292, cI v293, cI v294, cI v295, cI v296, Cell.sl g4 (List.map eI v297), Cell.sl g5 (List.map eI v298), cI v299, cS v300])] 2) := by
                  refine hI _ _ _ ?_
                  refine A.all [0, 2, 7] (by kernel_rfl) rfl ⟨⟨_, rfl, ?_⟩, ⟨_, rfl, ?_⟩, ⟨_, rfl, ?_⟩, trivial⟩
                  · refine L.loadPtr shape90 hF rfl rfl rfl rfl rfl rfl ?_
                    exact L.nil (A.on (hO _ _ _ n6259) (Le.mk [(0, 1)] hm rfl (S6 rfl rfl rfl rfl rfl rfl rfl rfl rfl rfl rfl rfl) trivial ⟨⟨_, _, rfl, rfl, rfl⟩, trivial⟩))
                  · refine L.loadPtr shape3 hF rfl rfl rfl rfl rfl rfl ?_
                    exact L.nil (A.on (hO _ _ _ n6262) (Le.mk [(0, 0), (1, 1)] hm rfl (S6 rfl rfl rfl rfl rfl rfl rfl rfl rfl rfl rfl rfl) trivial (B2 rfl rfl rfl rfl rfl rfl)))
                  · refine L.loadPtr shape3 hF rfl rfl rfl rfl rfl rfl ?_
                    exact L.nil (A.on (hO _ _ _ n6386) (Le.mk [(0, 0), (1, 1)] hm rfl (S6 rfl rfl rfl rfl rfl rfl rfl rfl rfl rfl rfl rfl) trivial (B2 rfl rfl rfl rfl rfl rfl)))
                have n2262 : W 9 #[false, true, true, false, true, false, true, true, false, false, false, true, false, false, false] (mkSt [(2, MG.one (Cell.ptr 0 0)), (5, MG.one (Cell.sl true (List.map eI v279))), (65, MG.one (cI v287)), (67, MG.one (Cell.ptr 0 1)), (70, MG.one (cI v286)), (74, MG.one (Cell.ptr 1 11))] [] [(0, [Cell.sl g0 (List.map eI v281), Cell.sl g1 (List.map eI v282), Cell.sl g2 (List.map eTimpl_Pair v283), Cell.sl g3 (List.map eTimpl_Pair v284), cI v285]), (1, [cI v286, cI v287, cI v288, cI v289, cI v290, cI v291, cI v292, cI v293, cI v294, cI v295, cI v296, Cell.sl g4 (List.map eI v297), Cell.sl g5 (List.map eI v298), cI v299, cS v300])] 2) := by
                  refine hI _ _ _ ?_
                  refine A.all [0, 5, 12] (by kernel_rfl) rfl ⟨⟨_, rfl, ?_⟩, ⟨_, rfl, ?_⟩, ⟨_, rfl, ?_⟩, trivial⟩
                  · refine L.loadPtr shape90 hF rfl rfl rfl rfl rfl rfl ?_
                    exact L.nil (A.on (hO _ _ _ n2263) (Le.mk [(0, 0), (1, 1)] hm rfl (S6 rfl rfl rfl rfl rfl rfl rfl rfl rfl rfl rfl rfl) trivial (B2 rfl rfl rfl rfl rfl rfl)))
                  · refine L.loadPtr shape24 hF rfl rfl rfl rfl rfl rfl ?_
                    exact L.nil (A.on (hO _ _ _ n2294) (Le.mk [(0, 0), (1, 1)] hm rfl (S6 rfl rfl rfl rfl rfl rfl rfl rfl rfl rfl rfl rfl) trivial (B2 rfl rfl rfl rfl rfl rfl)))
                  · refine L.loadPtr shape24 hF rfl rfl rfl rfl rfl rfl ?_
                    exact L.nil (A.on (hO _ _ _ n6358) (Le.mk [(0, 0)] hm rfl (S6 rfl rfl rfl rfl rfl rfl rfl rfl rfl rfl rfl rfl) trivial ⟨⟨_, _, rfl, rfl, rfl⟩, trivial⟩))
                refine hI _ _ _ ?_
                refine A.take 1 rfl (by kernel_rfl) (by kernel_rfl) (by kernel_rfl) rfl (Ca.fieldAddr Try.underlying113 rfl info3 rfl) (fun Q0 k0 => L.fieldAddr Try.underlying113 rfl info3 rfl hF rfl rfl rfl rfl rfl (L.nil k0)) ?_
                refine A.take 4 rfl (by kernel_rfl) (by kernel_rfl) (by kernel_rfl) rfl (Ca.fieldAddr Try.underlying90 rfl info24 rfl) (fun Q0 k0 => L.fieldAddr Try.underlying90 rfl info24 rfl hF rfl rfl rfl rfl rfl (L.nil k0)) ?_
                refine A.take 6 rfl (by kernel_rfl) (by kernel_rfl) (by kernel_rfl) rfl (Ca.fieldAddr Try.underlying113 rfl info3 rfl) (fun Q0 k0 => L.fieldAddr Try.underlying113 rfl info3 rfl hF rfl rfl rfl rfl rfl (L.nil k0)) ?_
                refine A.take 11 rfl (by kernel_rfl) (by kernel_rfl) (by kernel_rfl) rfl (Ca.fieldAddr Try.underlying113 rfl info24 rfl) (fun Q0 k0 => L.fieldAddr Try.underlying113 rfl info24 rfl hF rfl rfl rfl rfl rfl (L.nil k0)) ?_
                refine A.all [0, 2, 5, 7, 12] (by kernel_rfl) rfl ⟨⟨_, rfl, ?_⟩, ⟨_, rfl, ?_⟩, ⟨_, rfl, ?_⟩, ⟨_, rfl, ?_⟩, ⟨_, rfl, ?_⟩, trivial⟩
                · refine L.loadPtr shape90 hF rfl rfl rfl rfl rfl rfl ?_
                  refine L.nil ?_
                  refine A.all [2, 5, 7, 12] (by kernel_rfl) rfl ⟨⟨_, rfl, ?_⟩, ⟨_, rfl, ?_⟩, ⟨_, rfl, ?_⟩, ⟨_, rfl, ?_⟩, trivial⟩
                  · refine L.loadPtr shape3 hF rfl rfl rfl rfl rfl rfl ?_
                    exact L.nil (A.on (hO _ _ _ n2135) (Le.mk [(0, 0), (1, 1)] hm rfl (S6 rfl rfl rfl rfl rfl rfl rfl rfl rfl rfl rfl rfl) trivial (B2 rfl rfl rfl rfl rfl rfl)))
                  · refine L.loadPtr shape24 hF rfl rfl rfl rfl rfl rfl ?_
                    exact L.nil (A.on (hO _ _ _ n2163) (Le.mk [(0, 1)] hm rfl (S6 rfl rfl rfl rfl rfl rfl rfl rfl rfl rfl rfl rfl) trivial ⟨⟨_, _, rfl, rfl, rfl⟩, trivial⟩))
                  · refine L.loadPtr shape3 hF rfl rfl rfl rfl rfl rfl ?_
                    exact L.nil (A.on (hO _ _ _ n2259) (Le.mk [(0, 1), (1, 0)] hm rfl (S6 rfl rfl rfl rfl rfl rfl rfl rfl rfl rfl rfl rfl) trivial (B2 rfl rfl rfl rfl rfl rfl)))
                  · refine L.loadPtr shape24 hF rfl rfl rfl rfl rfl rfl ?_
                    exact L.nil (A.on (hO _ _ _ n6227) (Le.mk [(0, 1), (1, 0)] hm rfl (S6 rfl rfl rfl rfl rfl rfl rfl rfl rfl rfl rfl rfl) trivial (B2 rfl rfl rfl rfl rfl rfl)))
                · refine L.loadPtr shape3 hF rfl rfl rfl rfl rfl rfl ?_
                  refine L.nil ?_
                  refine A.all [0, 5, 7, 12] (by kernel_rfl) rfl ⟨⟨_, rfl, ?_⟩, ⟨_, rfl, ?_⟩, ⟨_, rfl, ?_⟩, ⟨_, rfl, ?_⟩, trivial⟩
                  · refine L.loadPtr shape90 hF rfl rfl rfl rfl rfl rfl ?_
                    exact L.nil (A.on (hO _ _ _ n2135) (Le.mk [(0, 0), (1, 1)] hm rfl (S6 rfl rfl rfl rfl rfl rfl rfl rfl rfl rfl rfl rfl) trivial (B2 rfl rfl rfl rfl rfl rfl)))
                  · refine L.loadPtr shape24 hF rfl rfl rfl rfl rfl rfl ?_
                    exact L.nil (A.on (hO _ _ _ n2166) (Le.mk [(0, 0), (1, 1)] hm rfl (S6 rfl rfl rfl rfl rfl rfl rfl rfl rfl rfl rfl rfl) trivial (B2 rfl rfl rfl rfl rfl rfl)))
                  · refine L.loadPtr shape3 hF rfl rfl rfl rfl rfl rfl ?_
                    exact L.nil (A.on (hO _ _ _ n2262) (Le.mk [(0, 0), (1, 1)] hm rfl (S6 rfl rfl rfl rfl rfl rfl rfl rfl rfl rfl rfl rfl) trivial (B2 rfl rfl rfl rfl rfl rfl)))
                  · refine L.loadPtr shape24 hF rfl rfl rfl rfl rfl rfl ?_
                    exact L.nil (A.on (hO _ _ _ n6230) (Le.mk [(0, 0), (1, 1)] hm rfl (S6 rfl rfl rfl rfl rfl rfl rfl rfl rfl rfl rfl rfl) trivial (B2 rfl rfl rfl rfl rfl rfl)))
                · refine L.loadPtr shape24 hF rfl rfl rfl rfl rfl rfl ?_
                  refine L.nil ?_
                  refine A.all [0, 2, 7, 12] (by kernel_rfl) rfl ⟨⟨_, rfl, ?_⟩, ⟨_, rfl, ?_⟩, ⟨_, rfl, ?_⟩, ⟨_, rfl, ?_⟩, trivial⟩
                  · refine L.loadPtr shape90 hF rfl rfl rfl rfl rfl rfl ?_
                    exact L.nil (A.on (hO _ _ _ n2163) (Le.mk [(0, 1)] hm rfl (S6 rfl rfl rfl rfl rfl rfl rfl rfl rfl rfl rfl rfl) trivial ⟨⟨_, _, rfl, rfl, rfl⟩, trivial⟩))
                  · refine L.loadPtr shape3 hF rfl rfl rfl rfl rfl rfl ?_
                    exact L.nil (A.on (hO _ _ _ n2166) (Le.mk [(0, 0), (1, 1)] hm rfl (S6 rfl rfl rfl rfl rfl rfl rfl rfl rfl rfl rfl rfl) trivial (B2 rfl rfl rfl rfl rfl rfl)))
                  · refine L.loadPtr shape3 hF rfl rfl rfl rfl rfl rfl ?_
                    exact L.nil (A.on (hO _ _ _ n2290) (Le.mk [(0, 0), (1, 1)] hm rfl (S6 rfl rfl rfl rfl rfl rfl rfl rfl rfl rfl rfl rfl) trivial (B2 rfl rfl rfl rfl rfl rfl)))
                  · refine L.loadPtr shape24 hF rfl rfl rfl rfl rfl rfl ?_
                    exact L.nil (A.on (hO _ _ _ n6258) (Le.mk [(0, 0), (1, 1)] hm rfl (S6 rfl rfl rfl rfl rfl rfl rfl rfl rfl rfl rfl rfl) trivial (B2 rfl rfl rfl rfl rfl rfl)))
                · refine L.loadPtr shape3 hF rfl rfl rfl rfl rfl rfl ?_
                  refine L.nil ?_
                  refine A.all [0, 2, 5, 12] (by kernel_rfl) rfl ⟨⟨_, rfl, ?_⟩, ⟨_, rfl, ?_⟩, ⟨_, rfl, ?_⟩, ⟨_, rfl, ?_⟩, trivial⟩
                  · refine L.loadPtr shape90 hF rfl rfl rfl rfl rfl rfl ?_
                    exact L.nil (A.on (hO _ _ _ n2259) (Le.mk [(0, 1), (1, 0)] hm rfl (S6 rfl rfl rfl rfl rfl rfl rfl rfl rfl rfl rfl rfl) trivial (B2 rfl rfl rfl rfl rfl rfl)))
                  · refine L.loadPtr shape3 hF rfl rfl rfl rfl rfl rfl ?_
                    exact L.nil (A.on (hO _ _ _ n2262) (Le.mk [(0, 0), (1, 1)] hm rfl (S6 rfl rfl rfl rfl rfl rfl rfl rfl rfl rfl rfl rfl) trivial (B2 rfl rfl rfl rfl rfl rfl)))
                  · refine L.loadPtr shape24 hF rfl rfl rfl rfl rfl rfl ?_
                    exact L.nil (A.on (hO _ _ _ n2290) (Le.mk [(0, 0), (1, 1)] hm rfl (S6 rfl rfl rfl rfl rfl rfl rfl rfl rfl rfl rfl rfl) trivial (B2 rfl rfl rfl rfl rfl rfl)))
                  · refine L.loadPtr shape24 hF rfl rfl rfl rfl rfl rfl ?_
                    exact L.nil (A.on (hO _ _ _ n6354) (Le.mk [(0, 0), (1, 1)] hm rfl (S6 rfl rfl rfl rfl rfl rfl rfl rfl rfl rfl rfl rfl) trivial (B2 rfl rfl rfl rfl rfl rfl)))
                · refine L.loadPtr shape24 hF rfl rfl rfl rfl rfl rfl ?_
                  refine L.nil ?_
                  refine A.all [0, 2, 5, 7] (by kernel_rfl) rfl ⟨⟨_, rfl, ?_⟩, ⟨_, rfl, ?_⟩, ⟨_, rfl, ?_⟩, ⟨_, rfl, ?_⟩, trivial⟩
                  · refine L.loadPtr shape90 hF rfl rfl rfl rfl rfl rfl ?_
                    exact L.nil (A.on (hO _ _ _ n6227) (Le.mk [(0, 1), (1, 0)] hm rfl (S6 rfl rfl rfl rfl rfl rfl rfl rfl rfl rfl rfl rfl) trivial (B2 rfl rfl rfl rfl rfl rfl)))
                  · refine L.loadPtr shape3 hF rfl rfl rfl rfl rfl rfl ?_
                    exact L.nil (A.on (hO _ _ _ n6230) (Le.mk [(0, 0), (1, 1)] hm rfl (S6 rfl rfl rfl rfl rfl rfl rfl rfl rfl rfl rfl rfl) trivial (B2 rfl rfl rfl rfl rfl rfl)))
                  · refine L.loadPtr shape24 hF rfl rfl rfl rfl rfl rfl ?_
                    exact L.nil (A.on (hO _ _ _ n6258) (Le.mk [(0, 0), (1, 1)] hm rfl (S6 rfl rfl rfl rfl rfl rfl rfl rfl rfl rfl rfl rfl) trivial (B2 rfl rfl rfl rfl rfl rfl)))
                  · refine L.loadPtr shape3 hF rfl rfl rfl rfl rfl rfl ?_
                    exact L.nil (A.on (hO _ _ _ n6354) (Le.mk [(0, 0), (1, 1)] hm rfl (S6 rfl rfl rfl rfl rfl rfl rfl rfl rfl rfl rfl rfl) trivial (B2 rfl rfl rfl rfl rfl rfl)))
          have n239 : W 4 #[true, true, true, true, false, true, true, true, false, false, false] (mkSt [(2, MG.one (Cell.ptr 0 0)), (3, MG.one (Cell.ptr 1 0)), (5, MG.one (Cell.own 2)), (31, MG.one (Cell.own 2)), (34, MG.one (cI r9)), (38, MG.one (cI (IntKind.i64.wrap ((3 : Int) + a1.Server))))] [(2, ⟨1, List.map eI ([] : List Int)⟩)] [(0, [Cell.sl g0 (List.map eI a0.UserRealm), Cell.sl g1 (List.map eI a0.ServiceRealm), Cell.sl g2 (List.map eTimpl_Pair a0.Links), Cell.sl g3 (List.map eTimpl_Pair a0.Proxy), cI a0.Skew]), (1, [cI a1.Server, cI a1.Client, cI a1.Key, cI a1.Op, cI a1.Now, cI a1.Auth.Client, cI a1.Auth.Time, cI a1.Auth.Seq, cI a1.Rest.Servers, cI a1.Rest.Ops, cI a1.Rest.End, Cell.sl g4 (List.map eI a1.Path), Cell.sl g5 (List.map eI a1.Via), cI a1.Leaks, cS a1.Ticket])] 3) := by
            refine hI _ _ _ ?_
            refine A.all [4] (by kernel_rfl) rfl ⟨⟨_, rfl, ?_⟩, trivial⟩
            refine L.le (Le.shareAll 2 rfl) ?_
            refine L.call [false, false] [] [] 3 hF rfl rfl rfl ent175 rfl rfl rfl rfl rfl (Fspec_l3Put_gives k  ([] : List Int) r9 r10 hr10) rfl ?_
            refine L.nil ?_
            exact A.on (hO _ _ _ n255) (Le.mk [(0, 0), (1, 1)] hm rfl ⟨⟨_, rfl, rfl⟩, ⟨_, rfl, rfl⟩, ⟨_, rfl, rfl⟩, ⟨_, rfl, rfl⟩, ⟨_, rfl, rfl⟩, trivial⟩ trivial ⟨⟨_, _, rfl, rfl, rfl⟩, ⟨_, _, rfl, rfl, rfl⟩, trivial⟩)
          have n231 : W 5 #[true, true, true, false, false, true, true, true, false, false, false] (mkSt [(2, MG.one (Cell.ptr 0 0)), (3, MG.one (Cell.ptr 1 0)), (5, MG.one (Cell.own 2)), (31, MG.one (Cell.own 2)), (33, MG.one (cI a1.Client)), (38, MG.one (cI (IntKind.i64.wrap ((3 : Int) + a1.Server))))] [(2, ⟨1, List.map eI ([] : List Int)⟩)] [(0, [Cell.sl g0 (List.map eI a0.UserRealm), Cell.sl g1 (List.map eI a0.ServiceRealm), Cell.sl g2 (List.map eTimpl_Pair a0.Links), Cell.sl g3 (List.map eTimpl_Pair a0.Proxy), cI a0.Skew]), (1, [cI a1.Server, cI a1.Client, cI a1.Key, cI a1.Op, cI a1.Now, cI a1.Auth.Client, cI a1.Auth.Time, cI a1.Auth.Seq, cI a1.Rest.Servers, cI a1.Rest.Ops, cI a1.Rest.End, Cell.sl g4 (List.map eI a1.Path), Cell.sl g5 (List.map eI a1.Via), cI a1.Leaks, cS a1.Ticket])] 3) := by
            refine hI _ _ _ ?_
            refine A.all [3] (by kernel_rfl) rfl ⟨⟨_, rfl, ?_⟩, trivial⟩
            refine L.call [false] [] [] 3 hF rfl rfl rfl ent176 rfl rfl rfl rfl rfl (Fspec_PrincipalKey_gives k  a1.Client r9 hr9) rfl ?_
            refine L.nil ?_
            exact A.on (hO _ _ _ n239) (Le.mk [(0, 0), (1, 1), (2, 2)] hm rfl ⟨⟨_, rfl, rfl⟩, ⟨_, rfl, rfl⟩, ⟨_, rfl, rfl⟩, ⟨_, rfl, rfl⟩, ⟨_, rfl, rfl⟩, ⟨_, rfl, rfl⟩, trivial⟩ ⟨⟨_, rfl, rfl⟩, trivial⟩ ⟨⟨_, _, rfl, rfl, rfl⟩, ⟨_, _, rfl, rfl, rfl⟩, trivial⟩)
          refine hI _ _ _ ?_
          refine A.take 0 rfl (by kernel_rfl) (by kernel_rfl) (by kernel_rfl) rfl (Ca.move) (fun Q0 k0 => L.move hF rfl rfl rfl (L.nil k0)) ?_
          refine A.take 1 rfl (by kernel_rfl) (by kernel_rfl) (by kernel_rfl) rfl (Ca.fieldAddr Try.underlying113 rfl info3 rfl) (fun Q0 k0 => L.fieldAddr Try.underlying113 rfl info3 rfl hF rfl rfl rfl rfl rfl (L.nil k0)) ?_
          refine A.take 5 rfl (by kernel_rfl) (by kernel_rfl) (by kernel_rfl) rfl (Ca.fieldAddr Try.underlying113 rfl info3 rfl) (fun Q0 k0 => L.fieldAddr Try.underlying113 rfl info3 rfl hF rfl rfl rfl rfl rfl (L.nil k0)) ?_
          refine A.all [2, 6] (by kernel_rfl) rfl ⟨⟨_, rfl, ?_⟩, ⟨_, rfl, ?_⟩, trivial⟩
          · refine L.loadPtr shape3 hF rfl rfl rfl rfl rfl rfl ?_
            refine L.nil ?_
            refine A.all [3, 6] (by kernel_rfl) rfl ⟨⟨_, rfl, ?_⟩, ⟨_, rfl, ?_⟩, trivial⟩
            · refine L.call [false] [] [] 25 hF rfl rfl rfl ent176 rfl rfl rfl rfl rfl (Fspec_PrincipalKey_gives k  a1.Client r9 hr9) rfl ?_
              refine L.nil ?_
              refine A.all [4, 6] (by kernel_rfl) rfl ⟨⟨_, rfl, ?_⟩, ⟨_, rfl, ?_⟩, trivial⟩
              · refine L.le (Le.shareAll 22 rfl) ?_
                refine L.call [false, false] [] [] 26 hF rfl rfl rfl ent175 rfl rfl rfl rfl rfl (Fspec_l3Put_gives k  ([] : List Int) r9 r10 hr10) rfl ?_
                refine L.nil ?_
                refine A.all [6] (by kernel_rfl) rfl ⟨⟨_, rfl, ?_⟩, trivial⟩
                refine L.loadPtr shape3 hF rfl rfl rfl rfl rfl rfl ?_
                refine L.nil ?_
                refine A.take 7 rfl (by kernel_rfl) (by kernel_rfl) (by kernel_rfl) rfl (Ca.bin rfl rfl (calm_int _ _ _ _ _ _ _ _)) (fun Q0 k0 => L.bin hF rfl rfl rfl rfl rfl rfl (L.nil k0)) ?_
                exact A.on (hO _ _ _ n255) (Le.mk [(0, 20), (1, 21)] hm rfl ⟨⟨_, rfl, rfl⟩, ⟨_, rfl, rfl⟩, ⟨_, rfl, rfl⟩, ⟨_, rfl, rfl⟩, ⟨_, rfl, rfl⟩, trivial⟩ trivial ⟨⟨_, _, rfl, rfl, rfl⟩, ⟨_, _, rfl, rfl, rfl⟩, trivial⟩)
              · refine L.loadPtr shape3 hF rfl rfl rfl rfl rfl rfl ?_
                refine L.nil ?_
                refine A.take 7 rfl (by kernel_rfl) (by kernel_rfl) (by kernel_rfl) rfl (Ca.bin rfl rfl (calm_int _ _ _ _ _ _ _ _)) (fun Q0 k0 => L.bin hF rfl rfl rfl rfl rfl rfl (L.nil k0)) ?_
                exact A.on (hO _ _ _ n239) (Le.mk [(0, 20), (1, 21), (2, 22)] hm rfl ⟨⟨_, rfl, rfl⟩, ⟨_, rfl, rfl⟩, ⟨_, rfl, rfl⟩, ⟨_, rfl, rfl⟩, ⟨_, rfl, rfl⟩, ⟨_, rfl, rfl⟩, trivial⟩ ⟨⟨_, rfl, rfl⟩, trivial⟩ ⟨⟨_, _, rfl, rfl, rfl⟩, ⟨_, _, rfl, rfl, rfl⟩, trivial⟩)
            · refine L.loadPtr shape3 hF rfl rfl rfl rfl rfl rfl ?_
              refine L.nil ?_
              refine A.take 7 rfl (by kernel_rfl) (by kernel_rfl) (by kernel_rfl) rfl (Ca.bin rfl rfl (calm_int _ _ _ _ _ _ _ _)) (fun Q0 k0 => L.bin hF rfl rfl rfl rfl rfl rfl (L.nil k0)) ?_
              exact A.on (hO _ _ _ n231) (Le.mk [(0, 20), (1, 21), (2, 22)] hm rfl ⟨⟨_, rfl, rfl⟩, ⟨_, rfl, rfl⟩, ⟨_, rfl, rfl⟩, ⟨_, rfl, rfl⟩, ⟨_, rfl, rfl⟩, ⟨_, rfl, rfl⟩, trivial⟩ ⟨⟨_, rfl, rfl⟩, trivial⟩ ⟨⟨_, _, rfl, rfl, rfl⟩, ⟨_, _, rfl, rfl, rfl⟩, trivial⟩)
          · refine L.loadPtr shape3 hF rfl rfl rfl rfl rfl rfl ?_
            refine L.nil ?_
            refine A.take 7 rfl (by kernel_rfl) (by kernel_rfl) (by kernel_rfl) rfl (Ca.bin rfl rfl (calm_int _ _ _ _ _ _ _ _)) (fun Q0 k0 => L.bin hF rfl rfl rfl rfl rfl rfl (L.nil k0)) ?_
            refine A.all [2] (by kernel_rfl) rfl ⟨⟨_, rfl, ?_⟩, trivial⟩
            refine L.loadPtr shape3 hF rfl rfl rfl rfl rfl rfl ?_
            refine L.nil ?_
            exact A.on (hO _ _ _ n231) (Le.mk [(0, 20), (1, 21), (2, 22)] hm rfl ⟨⟨_, rfl, rfl⟩, ⟨_, rfl, rfl⟩, ⟨_, rfl, rfl⟩, ⟨_, rfl, rfl⟩, ⟨_, rfl, rfl⟩, ⟨_, rfl, rfl⟩, trivial⟩ ⟨⟨_, rfl, rfl⟩, trivial⟩ ⟨⟨_, _, rfl, rfl, rfl⟩, ⟨_, _, rfl, rfl, rfl⟩, trivial⟩)
/-! ### Fimpl_within -/
def Fimpl_within (k : Nat) (a0 : Int) (a1 : Int) (a2 : Int) : Option Bool := cond (decide (a0 ≥ a1)) (some (decide (a0 ≤ a2))) (some false)
theorem ent113 : MG.Enters Try.prog 113 := ⟨Try.f113, Try.func113, rfl, by decide⟩
set_option maxHeartbeats 8000000 in
set_option maxRecDepth 100000 in
theorem Fimpl_within_gives (k : Nat) (a0 : Int) (a1 : Int) (a2 : Int) (r : Bool) (H : Fimpl_within k a0 a1 a2 = some r) : Gives Try.prog 113 [V.one (cI a0), V.one (cI a1), V.one (cI a2)] [] [V.one (cL r)] [] := by
  refine Gives.intro Try.func113 rfl rfl rfl rfl ?_
  intro F hF hm
  unfold Fimpl_within at H
  obtain ⟨K, hK⟩ : ∃ K, k ≤ K := ⟨k, Nat.le_refl k⟩
  refine WpC.seq ?_
  refine WpC.regionL ?_
  refine L.assign hF rfl rfl rfl ?_
  refine L.nil ?_
  refine WpC.seq ?_
  refine WpC.regionL ?_
  refine L.move hF rfl rfl rfl ?_
  refine L.move hF rfl rfl rfl ?_
  refine L.bin hF rfl rfl rfl rfl rfl rfl ?_
  refine L.move hF rfl rfl rfl ?_
  refine L.split (fun hc => ?_) (fun hc => ?_)
  · replace H := condT hc H
    refine L.move hF rfl rfl rfl ?_
    refine L.move hF rfl rfl rfl ?_
    refine L.bin hF rfl rfl rfl rfl rfl rfl ?_
    refine L.pick hF rfl rfl rfl rfl ?_
    refine L.assign hF rfl rfl rfl ?_
    refine L.nil ?_
    refine WpC.ret ?_
    cases H
    exact Leaves.ret rfl rfl rfl ⟨rfl, rfl⟩
  · replace H := condF hc H
    refine L.off hF rfl rfl ?_
    refine L.off hF rfl rfl ?_
    refine L.off hF rfl rfl ?_
    refine L.pick hF rfl rfl rfl rfl ?_
    refine L.assign hF rfl rfl rfl ?_
    refine L.nil ?_
    refine WpC.ret ?_
    cases H
    exact Leaves.ret rfl rfl rfl ⟨rfl, rfl⟩
/-! ### Fimpl_isRealm -/
def Fimpl_isRealm (k : Nat) (a0 : Int) : Option Bool := (Fimpl_within k a0 (0 : Int) (2 : Int)).bind fun r1 => some r1
theorem ent184 : MG.Enters Try.prog 184 := ⟨Try.f184, Try.func184, rfl, by decide⟩
set_option maxHeartbeats 8000000 in
set_option maxRecDepth 100000 in
theorem Fimpl_isRealm_gives (k : Nat) (a0 : Int) (r : Bool) (H : Fimpl_isRealm k a0 = some r) : Gives Try.prog 184 [V.one (cI a0)] [] [V.one (cL r)] [] := by
  refine Gives.intro Try.func184 rfl rfl rfl rfl ?_
  intro F hF hm
  unfold Fimpl_isRealm at H
  obtain ⟨K, hK⟩ : ∃ K, k ≤ K := ⟨k, Nat.le_refl k⟩
  refine WpC.seq ?_
  refine WpC.regionL ?_
  refine L.assign hF rfl rfl rfl ?_
  refine L.nil ?_
  refine WpC.seq ?_
  refine WpC.regionL ?_
  refine L.move hF rfl rfl rfl ?_
  obtain ⟨r1, hr1, H⟩ := bindS H
  refine L.call [false, false, false] [] [] 1 hF rfl rfl rfl ent113 rfl rfl rfl rfl rfl (Fimpl_within_gives k  a0 (0 : Int) (2 : Int) r1 hr1) rfl ?_
  refine L.assign hF rfl rfl rfl ?_
  refine L.nil ?_
  refine WpC.ret ?_
  cases H
  exact Leaves.ret rfl rfl rfl ⟨rfl, rfl⟩
/-! ### Fimpl_ConfigOk_1 -/
def Fimpl_ConfigOk_1 (k : Nat) (a0 : Timpl_Pair) : Option Bool := (Fimpl_isRealm k a0.A).bind fun r3 => cond r3 ((Fimpl_isRealm k a0.B).bind fun r4 => cond r4 (some (a0.A != a0.B)) (some false)) (some false)
theorem ent247 : MG.Enters Try.prog 247 := ⟨Try.f247, Try.func247, rfl, by decide⟩
set_option maxHeartbeats 8000000 in
set_option maxRecDepth 100000 in
theorem Fimpl_ConfigOk_1_gives (k : Nat) (a0 : Timpl_Pair) (r : Bool) (H : Fimpl_ConfigOk_1 k a0 = some r) : Gives Try.prog 247 [V.agg [cI a0.A, cI a0.B]] [] [V.one (cL r)] [] := by
  refine Gives.intro Try.func247 rfl rfl rfl rfl ?_
  intro F hF hm
  unfold Fimpl_ConfigOk_1 at H
  obtain ⟨K, hK⟩ : ∃ K, k ≤ K := ⟨k, Nat.le_refl k⟩
  refine WpC.seq ?_
  refine WpC.regionL ?_
  refine L.box 2 hF rfl rfl rfl rfl ?_
  refine L.assign hF rfl rfl rfl ?_
  refine L.nil ?_
  refine WpC.seq ?_
  refine WpC.regionL ?_
  refine L.fieldAddr Try.underlying256 rfl info3 rfl hF rfl rfl rfl rfl rfl ?_
  refine L.loadPtr shape3 hF rfl rfl rfl rfl rfl rfl ?_
  obtain ⟨r3, hr3, H⟩ := bindS H
  refine L.call [false] [] [] 3 hF rfl rfl rfl ent184 rfl rfl rfl rfl rfl (Fimpl_isRealm_gives k  a0.A r3 hr3) rfl ?_
  refine L.move hF rfl rfl rfl ?_
  refine L.split (fun hc => ?_) (fun hc => ?_)
  · replace H := condT hc H
    refine L.fieldAddr Try.underlying256 rfl info3 rfl hF rfl rfl rfl rfl rfl ?_
    refine L.loadPtr shape3 hF rfl rfl rfl rfl rfl rfl ?_
    obtain ⟨r4, hr4, H⟩ := bindS H
    refine L.call [false] [] [] 4 hF rfl rfl rfl ent184 rfl rfl rfl rfl rfl (Fimpl_isRealm_gives k  a0.B r4 hr4) rfl ?_
    refine L.pick hF rfl rfl rfl rfl ?_
    refine L.move hF rfl rfl rfl ?_
    refine L.split (fun hc => ?_) (fun hc => ?_)
    · replace H := condT hc H
      refine L.fieldAddr Try.underlying256 rfl info3 rfl hF rfl rfl rfl rfl rfl ?_
      refine L.loadPtr shape3 hF rfl rfl rfl rfl rfl rfl ?_
      refine L.fieldAddr Try.underlying256 rfl info3 rfl hF rfl rfl rfl rfl rfl ?_
      refine L.loadPtr shape3 hF rfl rfl rfl rfl rfl rfl ?_
      refine L.bin hF rfl rfl rfl rfl rfl rfl ?_
      refine L.pick hF rfl rfl rfl rfl ?_
      refine L.assign hF rfl rfl rfl ?_
      refine L.nil ?_
      refine WpC.ret ?_
      cases H
      exact Leaves.ret rfl rfl rfl ⟨rfl, rfl⟩
    · replace H := condF hc H
      refine L.off hF rfl rfl ?_
      refine L.off hF rfl rfl ?_
      refine L.off hF rfl rfl ?_
      refine L.off hF rfl rfl ?_
      refine L.off hF rfl rfl ?_
      refine L.pick hF rfl rfl rfl rfl ?_
      refine L.assign hF rfl rfl rfl ?_
      refine L.nil ?_
      refine WpC.ret ?_
      cases H
      exact Leaves.ret rfl rfl rfl ⟨rfl, rfl⟩
  · replace H := condF hc H
    refine L.off hF rfl rfl ?_
    refine L.off hF rfl rfl ?_
    refine L.off hF rfl rfl ?_
    refine L.pick hF rfl rfl rfl rfl ?_
    refine L.move hF rfl rfl rfl ?_
    refine L.off hF rfl rfl ?_
    refine L.off hF rfl rfl ?_
    refine L.off hF rfl rfl ?_
    refine L.off hF rfl rfl ?_
    refine L.off hF rfl rfl ?_
    refine L.pick hF rfl rfl rfl rfl ?_
    refine L.assign hF rfl rfl rfl ?_
    refine L.nil ?_
    refine WpC.ret ?_
    cases H
    exact Leaves.ret rfl rfl rfl ⟨rfl, rfl⟩
/-! ### Fslices_Index_Pair -/
def Fslices_Index_Pair.l2 : Nat → (List Timpl_Pair) → Int → Int → Int → Int → Option Int
  | 0, _, _, _, _, _ => none
  | k2 + 1, v34, v35, v36, v37, v38 => cond (decide (v36 < v35)) ((at? v34 v36).bind fun b40 => cond ((v37 == b40.A) && ((v38 == b40.B) && true)) (some v36) ((Fslices_Index_Pair.l2 k2) v34 v35 (IntKind.i64.wrap (v36 + (1 : Int))) v37 v38)) (some (-1 : Int))
def Fslices_Index_Pair (k : Nat) (a0 : List Timpl_Pair) (a1 : Timpl_Pair) : Option Int := Fslices_Index_Pair.l2 k a0 (a0.length : Int) (0 : Int) a1.A a1.B
theorem ent283 : MG.Enters Try.prog 283 := ⟨Try.f283, Try.func283, rfl, by decide⟩
set_option maxHeartbeats 8000000 in
set_option maxRecDepth 100000 in
theorem Fslices_Index_Pair_gives (k : Nat) (g0 : Bool) (a0 : List Timpl_Pair) (a1 : Timpl_Pair) (r : Int) (H : Fslices_Index_Pair k a0 a1 = some r) : Gives Try.prog 283 [V.one (Cell.sl g0 (List.map eTimpl_Pair a0)), V.agg [cI a1.A, cI a1.B]] [] [V.one (cI r)] [] := by
  refine Gives.intro Try.func283 rfl rfl rfl rfl ?_
  intro F hF hm
  unfold Fslices_Index_Pair at H
  obtain ⟨K, hK⟩ : ∃ K, k ≤ K := ⟨k, Nat.le_refl k⟩
  refine WpC.seq ?_
  refine WpC.regionL ?_
  refine L.box 3 hF rfl rfl rfl rfl ?_
  refine L.assign hF rfl rfl rfl ?_
  refine L.nil ?_
  refine WpC.seq ?_
  refine WpC.seq ?_
  refine WpC.regionL ?_
  refine L.move hF rfl rfl rfl ?_
  refine L.lenR (xs := a0) (e := eTimpl_Pair) Try.underlying88 hF rfl rfl rfl rfl ?_
  refine L.move hF rfl rfl rfl ?_
  refine L.nil ?_
  refine WpC.block ?_
  refine WpC.loopL (P := Try.prog) (fun n σ => ∃ v34 : List Timpl_Pair, ∃ v35 : Int, ∃ v36 : Int, ∃ v37 : Int, ∃ v38 : Int, n ≤ K ∧ Fslices_Index_Pair.l2 n v34 v35 v36 v37 v38 = some r ∧ σ = mkSt [(0, MG.one (Cell.sl g0 (List.map eTimpl_Pair v34))), (3, MG.one (Cell.ptr 0 0)), (7, MG.one (cI v35)), (8, MG.one (cI v36))] [] [(0, [cI v37, cI v38])] 1) k ⟨_, ⟨a0, (a0.length : Int), (0 : Int), a1.A, a1.B, by omega, H, rfl⟩, Le.mk [(0, 3)] hm rfl ⟨⟨_, rfl, rfl⟩, ⟨_, rfl, rfl⟩, ⟨_, rfl, rfl⟩, ⟨_, rfl, rfl⟩, trivial⟩ trivial ⟨⟨_, _, rfl, rfl, rfl⟩, trivial⟩⟩ ?_
  clear H
  rintro k2 _ ⟨v34, v35, v36, v37, v38, hk2, H, rfl⟩
  cases k2 with
  | zero => cases H
  | succ k2 =>
    rw [Fslices_Index_Pair.l2] at H
    refine WpC.seq ?_
    refine WpC.regionL ?_
    refine L.bin hF rfl rfl rfl rfl rfl rfl ?_
    refine L.nil ?_
    refine WpC.seq ?_
    refine WpC.cond rfl (fun hc => ?_) (fun hc => ?_)
    · replace H := condT hc H
      refine WpC.skip ?_
      refine WpC.seq ?_
      refine WpC.block ?_
      refine WpC.seq ?_
      refine WpC.regionL ?_
      refine L.move hF rfl rfl rfl ?_
      refine L.assign hF rfl rfl rfl ?_
      refine L.nil ?_
      refine WpC.seq ?_
      refine S.begin mixed (by kernel_rfl) ?_
      refine S.st 0 rfl rfl (Qu.load) (fun Q0 k0 => L.loadPtr shape256 hF rfl rfl rfl rfl rfl rfl (L.nil k0)) ?_
      refine S.st 1 rfl rfl ((Ca.move).quiet) (fun Q0 k0 => L.move hF rfl rfl rfl (L.nil k0)) ?_
      refine S.st 2 rfl rfl ((Ca.move).quiet) (fun Q0 k0 => L.move hF rfl rfl rfl (L.nil k0)) ?_
      obtain ⟨b40, hb40, H⟩ := bindS H
      refine S.st 3 rfl rfl ((Ca.indexAddr).quiet) (fun Q0 k0 => L.idxR (xs := v34) (e := eTimpl_Pair) Try.underlying88 info256 hF rfl rfl rfl rfl rfl hb40 rfl rfl (L.nil k0)) ?_
      refine S.st 4 rfl rfl (Qu.load) (fun Q0 k0 => L.loadPe shape256 hF rfl rfl rfl rfl rfl (L.nil k0)) ?_
      refine S.st 5 rfl rfl ((Ca.eqA (r := ((v37 == b40.A) && ((v38 == b40.B) && true))) rfl rfl rfl rfl (by kernel_rfl) (by kernel_rfl)).quiet) (fun Q0 k0 => L.eqA (r := ((v37 == b40.A) && ((v38 == b40.B) && true))) hF rfl rfl rfl rfl rfl rfl (by kernel_rfl) (by kernel_rfl) (L.nil k0)) ?_
      refine S.nil ?_
      refine WpC.cond rfl (fun hc => ?_) (fun hc => ?_)
      · replace H := condT hc H
        refine WpC.seq ?_
        refine WpC.regionL ?_
        refine L.move hF rfl rfl rfl ?_
        refine L.assign hF rfl rfl rfl ?_
        refine L.nil ?_
        refine WpC.ret ?_
        cases H
        exact Leaves.ret rfl rfl rfl ⟨rfl, rfl⟩
      · replace H := condF hc H
        refine WpC.skip ?_
        refine WpC.regionL ?_
        refine L.bin hF rfl rfl rfl rfl rfl rfl ?_
        refine L.move hF rfl rfl rfl ?_
        refine L.nil ?_
        exact ⟨k2, _, by omega, ⟨v34, v35, (IntKind.i64.wrap (v36 + (1 : Int))), v37, v38, by omega, H, rfl⟩, Le.mk [(0, 0)] hm rfl ⟨⟨_, rfl, rfl⟩, ⟨_, rfl, rfl⟩, ⟨_, rfl, rfl⟩, ⟨_, rfl, rfl⟩, trivial⟩ trivial ⟨⟨_, _, rfl, rfl, rfl⟩, trivial⟩⟩
    · replace H := condF hc H
      refine WpC.exit ?_
      refine WpC.seq ?_
      refine WpC.regionL ?_
      refine L.assign hF rfl rfl rfl ?_
      refine L.nil ?_
      refine WpC.ret ?_
      cases H
      exact Leaves.ret rfl rfl rfl ⟨rfl, rfl⟩
/-! ### Fslices_Contains_Pair -/
def Fslices_Contains_Pair (k : Nat) (a0 : List Timpl_Pair) (a1 : Timpl_Pair) : Option Bool := (Fslices_Index_Pair k a0 a1).bind fun r1 => some (decide (r1 ≥ (0 : Int)))
theorem ent252 : MG.Enters Try.prog 252 := ⟨Try.f252, Try.func252, rfl, by decide⟩
set_option maxHeartbeats 8000000 in
set_option maxRecDepth 100000 in
theorem Fslices_Contains_Pair_gives (k : Nat) (g0 : Bool) (a0 : List Timpl_Pair) (a1 : Timpl_Pair) (r : Bool) (H : Fslices_Contains_Pair k a0 a1 = some r) : Gives Try.prog 252 [V.one (Cell.sl g0 (List.map eTimpl_Pair a0)), V.agg [cI a1.A, cI a1.B]] [] [V.one (cL r)] [] := by
  refine Gives.intro Try.func252 rfl rfl rfl rfl ?_
  intro F hF hm
  unfold Fslices_Contains_Pair at H
  obtain ⟨K, hK⟩ : ∃ K, k ≤ K := ⟨k, Nat.le_refl k⟩
  refine WpC.seq ?_
  refine WpC.regionL ?_
  refine L.box 3 hF rfl rfl rfl rfl ?_
  refine L.assign hF rfl rfl rfl ?_
  refine L.nil ?_
  refine WpC.seq ?_
  refine WpC.regionL ?_
  refine L.move hF rfl rfl rfl ?_
  refine L.loadPtr shape256 hF rfl rfl rfl rfl rfl rfl ?_
  obtain ⟨r1, hr1, H⟩ := bindS H
  refine L.call [false, false] [] [] 4 hF rfl rfl rfl ent283 rfl rfl rfl rfl rfl (Fslices_Index_Pair_gives k g0 a0 a1 r1 hr1) rfl ?_
  refine L.bin hF rfl rfl rfl rfl rfl rfl ?_
  refine L.assign hF rfl rfl rfl ?_
  refine L.nil ?_
  refine WpC.ret ?_
  cases H
  exact Leaves.ret rfl rfl rfl ⟨rfl, rfl⟩
/-! ### Fimpl_arePairs__impl_ConfigOk_1 -/
def Fimpl_arePairs__impl_ConfigOk_1.l2 : Nat → (List Timpl_Pair) → Int → Int → Option Bool
  | 0, _, _, _ => none
  | k2 + 1, v84, v85, v86 => cond (decide (v86 < v85)) ((at? v84 v86).bind fun b94 => (Fimpl_ConfigOk_1 k2 b94).bind fun r98 => cond (!r98) (some false) ((part? v84 (0 : Int) v86).bind fun b100 => (Fslices_Contains_Pair k2 b100 b94).bind fun r101 => cond r101 (some false) ((Fimpl_arePairs__impl_ConfigOk_1.l2 k2) v84 v85 (IntKind.i64.wrap (v86 + (1 : Int)))))) (some (decide ((v84.length : Int) ≤ (6 : Int))))
def Fimpl_arePairs__impl_ConfigOk_1 (k : Nat) (a0 : List Timpl_Pair) : Option Bool := Fimpl_arePairs__impl_ConfigOk_1.l2 k a0 (a0.length : Int) (0 : Int)
theorem ent246 : MG.Enters Try.prog 246 := ⟨Try.f246, Try.func246, rfl, by decide⟩
set_option maxHeartbeats 8000000 in
set_option maxRecDepth 100000 in
theorem Fimpl_arePairs__impl_ConfigOk_1_gives (k : Nat) (g0 : Bool) (a0 : List Timpl_Pair) (r : Bool) (H : Fimpl_arePairs__impl_ConfigOk_1 k a0 = some r) : Gives Try.prog 246 [V.one (Cell.sl g0 (List.map eTimpl_Pair a0)), V.one (Cell.clo 247 [])] [] [V.one (cL r)] [] := by
  refine Gives.intro Try.func246 rfl rfl rfl rfl ?_
  intro F hF hm
  unfold Fimpl_arePairs__impl_ConfigOk_1 at H
  obtain ⟨K, hK⟩ : ∃ K, k ≤ K := ⟨k, Nat.le_refl k⟩
  refine WpC.seq ?_
  refine WpC.regionL ?_
  refine L.assign hF rfl rfl rfl ?_
  refine L.nil ?_
  refine WpC.seq ?_
  refine WpC.seq ?_
  refine WpC.regionL ?_
  refine L.move hF rfl rfl rfl ?_
  refine L.lenR (xs := a0) (e := eTimpl_Pair) Try.underlying88 hF rfl rfl rfl rfl ?_
  refine L.move hF rfl rfl rfl ?_
  refine L.nil ?_
  refine WpC.block ?_
  refine WpC.loopL (P := Try.prog) (fun n σ => ∃ v84 : List Timpl_Pair, ∃ v85 : Int, ∃ v86 : Int, n ≤ K ∧ Fimpl_arePairs__impl_ConfigOk_1.l2 n v84 v85 v86 = some r ∧ σ = mkSt [(0, MG.one (Cell.sl g0 (List.map eTimpl_Pair v84))), (1, MG.one (Cell.clo 247 [])), (7, MG.one (Cell.sl g0 (List.map eTimpl_Pair v84))), (8, MG.one (cI v85)), (9, MG.one (cI v86))] [] [] 0) k ⟨_, ⟨a0, (a0.length : Int), (0 : Int), by omega, H, rfl⟩, Le.mk [] hm rfl ⟨⟨_, rfl, rfl⟩, ⟨_, rfl, rfl⟩, ⟨_, rfl, rfl⟩, ⟨_, rfl, rfl⟩, ⟨_, rfl, rfl⟩, trivial⟩ trivial trivial⟩ ?_
  clear H
  rintro k2 _ ⟨v84, v85, v86, hk2, H, rfl⟩
  cases k2 with
  | zero => cases H
  | succ k2 =>
    rw [Fimpl_arePairs__impl_ConfigOk_1.l2] at H
    refine WpC.seq ?_
    refine WpC.regionL ?_
    refine L.bin hF rfl rfl rfl rfl rfl rfl ?_
    refine L.nil ?_
    refine WpC.seq ?_
    refine WpC.cond rfl (fun hc => ?_) (fun hc => ?_)
    · replace H := condT hc H
      refine WpC.skip ?_
      refine WpC.seq ?_
      refine WpC.block ?_
      refine WpC.seq ?_
      refine WpC.regionL ?_
      refine L.move hF rfl rfl rfl ?_
      obtain ⟨b94, hb94, H⟩ := bindS H
      refine L.idxR (xs := v84) (e := eTimpl_Pair) Try.underlying88 info256 hF rfl rfl rfl rfl rfl hb94 rfl rfl ?_
      refine L.loadPe shape256 hF rfl rfl rfl rfl rfl ?_
      refine L.alloc 0 info256 rfl hF rfl rfl rfl rfl ?_
      refine L.assign hF rfl rfl rfl ?_
      refine L.storePtr shape256 hF rfl rfl rfl rfl rfl rfl rfl ?_
      refine L.nil ?_
      refine WpC.seq ?_
      obtain ⟨r98, hr98, H⟩ := bindS H
      rcases Bool.eq_false_or_eq_true ((!r98)) with hc99 | hc99
      · replace H := condT hc99 H
        refine A.begin mixed rfl rfl ?_
        intro W hI hO
        refine hI _ _ _ ?_
        refine A.take 0 rfl (by kernel_rfl) (by kernel_rfl) (by kernel_rfl) rfl (Ca.move) (fun Q0 k0 => L.move hF rfl rfl rfl (L.nil k0)) ?_
        refine A.all [1] (by kernel_rfl) rfl ⟨⟨_, rfl, ?_⟩, trivial⟩
        refine L.loadPtr shape256 hF rfl rfl rfl rfl rfl rfl ?_
        refine L.nil ?_
        refine A.all [2] (by kernel_rfl) rfl ⟨⟨_, rfl, ?_⟩, trivial⟩
        refine L.call [false] [] [] 1 hF rfl rfl rfl ent247 rfl rfl rfl rfl rfl (Fimpl_ConfigOk_1_gives k2  b94 r98 hr98) rfl ?_
        refine L.nil ?_
        refine A.take 3 rfl (by kernel_rfl) (by kernel_rfl) (by kernel_rfl) rfl (Ca.un rfl rfl) (fun Q0 k0 => L.not hF rfl rfl rfl (L.nil k0)) ?_
        refine A.take 4 rfl (by kernel_rfl) (by kernel_rfl) (by kernel_rfl) rfl (Ca.move) (fun Q0 k0 => L.move hF rfl rfl rfl (L.nil k0)) ?_
        refine A.le (τ := mkSt [(0, MG.one (Cell.sl g0 (List.map eTimpl_Pair v84))), (1, MG.one (Cell.clo 247 [])), (5, MG.one (cI v86)), (6, MG.one (Cell.ptr 0 0)), (7, MG.one (Cell.sl g0 (List.map eTimpl_Pair v84))), (8, MG.one (cI v85)), (9, MG.one (cI v86)), (18, MG.one (cL true))] [] [(0, [cI b94.A, cI b94.B])] 1) (Le.mk [(0, 0)] hm rfl ⟨⟨_, rfl, rfl⟩, ⟨_, rfl, rfl⟩, ⟨_, rfl, rfl⟩, ⟨_, rfl, rfl⟩, ⟨_, rfl, rfl⟩, ⟨_, rfl, rfl⟩, ⟨_, rfl, rfl⟩, ⟨_, rfl, congrArg (fun b => some (MG.one (cL b))) hc99⟩, trivial⟩ trivial ⟨⟨_, _, rfl, rfl, rfl⟩, trivial⟩) ?_
        refine A.off 5 rfl (by kernel_rfl) (by kernel_rfl) (by kernel_rfl) rfl hF rfl rfl ?_
        refine A.off 6 rfl (by kernel_rfl) (by kernel_rfl) (by kernel_rfl) rfl hF rfl rfl ?_
        refine A.off 7 rfl (by kernel_rfl) (by kernel_rfl) (by kernel_rfl) rfl hF rfl rfl ?_
        refine A.off 8 rfl (by kernel_rfl) (by kernel_rfl) (by kernel_rfl) rfl hF rfl rfl ?_
        refine A.all [9] (by kernel_rfl) rfl ⟨⟨_, rfl, ?_⟩, trivial⟩
        refine L.off hF rfl rfl ?_
        refine L.nil ?_
        refine A.take 10 rfl (by kernel_rfl) (by kernel_rfl) (by kernel_rfl) rfl (Ca.pick) (fun Q0 k0 => L.pick hF rfl rfl rfl rfl (L.nil k0)) ?_
        refine A.le (τ := mkSt [(0, MG.one (Cell.sl g0 (List.map eTimpl_Pair v84))), (1, MG.one (Cell.clo 247 [])), (7, MG.one (Cell.sl g0 (List.map eTimpl_Pair v84))), (8, MG.one (cI v85)), (9, MG.one (cI v86)), (19, Slot.tup []), (20, Slot.tup []), (21, Slot.tup []), (22, Slot.tup []), (23, Slot.tup []), (24, MG.one (cL true))] [] [] 0) (Le.mk [] hm rfl ⟨⟨_, rfl, rfl⟩, ⟨_, rfl, rfl⟩, ⟨_, rfl, rfl⟩, ⟨_, rfl, rfl⟩, ⟨_, rfl, rfl⟩, ⟨_, rfl, rfl⟩, ⟨_, rfl, rfl⟩, ⟨_, rfl, rfl⟩, ⟨_, rfl, rfl⟩, ⟨_, rfl, rfl⟩, ⟨_, rfl, rfl⟩, trivial⟩ trivial trivial) ?_
        refine A.done (by kernel_rfl) ?_
        refine WpC.cond rfl (fun _ => ?_) (fun hc => by cases hc)
        refine WpC.seq ?_
        refine WpC.regionL ?_
        refine L.assign hF rfl rfl rfl ?_
        refine L.nil ?_
        refine WpC.ret ?_
        cases H
        exact Leaves.ret rfl rfl rfl ⟨rfl, rfl⟩
      · replace H := condF hc99 H
        obtain ⟨b100, hb100, H⟩ := bindS H
        obtain ⟨r101, hr101, H⟩ := bindS H
        refine A.begin mixed rfl rfl ?_
        intro W hI hO
        refine hI _ _ _ ?_
        refine A.take 0 rfl (by kernel_rfl) (by kernel_rfl) (by kernel_rfl) rfl (Ca.move) (fun Q0 k0 => L.move hF rfl rfl rfl (L.nil k0)) ?_
        refine A.all [1] (by kernel_rfl) rfl ⟨⟨_, rfl, ?_⟩, trivial⟩
        refine L.loadPtr shape256 hF rfl rfl rfl rfl rfl rfl ?_
        refine L.nil ?_
        refine A.all [2] (by kernel_rfl) rfl ⟨⟨_, rfl, ?_⟩, trivial⟩
        refine L.call [false] [] [] 1 hF rfl rfl rfl ent247 rfl rfl rfl rfl rfl (Fimpl_ConfigOk_1_gives k2  b94 r98 hr98) rfl ?_
        refine L.nil ?_
        refine A.take 3 rfl (by kernel_rfl) (by kernel_rfl) (by kernel_rfl) rfl (Ca.un rfl rfl) (fun Q0 k0 => L.not hF rfl rfl rfl (L.nil k0)) ?_
        refine A.take 4 rfl (by kernel_rfl) (by kernel_rfl) (by kernel_rfl) rfl (Ca.move) (fun Q0 k0 => L.move hF rfl rfl rfl (L.nil k0)) ?_
        refine A.le (τ := mkSt [(0, MG.one (Cell.sl g0 (List.map eTimpl_Pair v84))), (1, MG.one (Cell.clo 247 [])), (5, MG.one (cI v86)), (6, MG.one (Cell.ptr 0 0)), (7, MG.one (Cell.sl g0 (List.map eTimpl_Pair v84))), (8, MG.one (cI v85)), (9, MG.one (cI v86)), (18, MG.one (cL false))] [] [(0, [cI b94.A, cI b94.B])] 1) (Le.mk [(0, 0)] hm rfl ⟨⟨_, rfl, rfl⟩, ⟨_, rfl, rfl⟩, ⟨_, rfl, rfl⟩, ⟨_, rfl, rfl⟩, ⟨_, rfl, rfl⟩, ⟨_, rfl, rfl⟩, ⟨_, rfl, rfl⟩, ⟨_, rfl, congrArg (fun b => some (MG.one (cL b))) hc99⟩, trivial⟩ trivial ⟨⟨_, _, rfl, rfl, rfl⟩, trivial⟩) ?_
        refine A.take 5 rfl (by kernel_rfl) (by kernel_rfl) (by kernel_rfl) rfl (Ca.move) (fun Q0 k0 => L.move hF rfl rfl rfl (L.nil k0)) ?_
        refine A.take 6 rfl (by kernel_rfl) (by kernel_rfl) (by kernel_rfl) rfl (Ca.move) (fun Q0 k0 => L.move hF rfl rfl rfl (L.nil k0)) ?_
        refine A.take 7 rfl (by kernel_rfl) (by kernel_rfl) (by kernel_rfl) rfl (Ca.slice) (fun Q0 k0 => L.cutR (xs := v84) (ys := b100) (e := eTimpl_Pair) Try.underlying88 info256 hF rfl rfl rfl rfl rfl hb100 (fun _ => rfl) (L.nil k0)) ?_
        refine A.all [8] (by kernel_rfl) rfl ⟨⟨_, rfl, ?_⟩, trivial⟩
        refine L.loadPtr shape256 hF rfl rfl rfl rfl rfl rfl ?_
        refine L.nil ?_
        refine A.all [9] (by kernel_rfl) rfl ⟨⟨_, rfl, ?_⟩, trivial⟩
        refine L.call [false, false] [] [] 1 hF rfl rfl rfl ent252 rfl rfl rfl rfl rfl (Fslices_Contains_Pair_gives k2 g0 b100 b94 r101 hr101) rfl ?_
        refine L.nil ?_
        refine A.take 10 rfl (by kernel_rfl) (by kernel_rfl) (by kernel_rfl) rfl (Ca.pick) (fun Q0 k0 => L.pick hF rfl rfl rfl rfl (L.nil k0)) ?_
        refine A.le (τ := mkSt [(0, MG.one (Cell.sl g0 (List.map eTimpl_Pair v84))), (1, MG.one (Cell.clo 247 [])), (7, MG.one (Cell.sl g0 (List.map eTimpl_Pair v84))), (8, MG.one (cI v85)), (9, MG.one (cI v86)), (19, MG.one (Cell.sl g0 (List.map eTimpl_Pair v84))), (20, MG.one (cI v86)), (21, MG.one (Cell.sl g0 (List.map eTimpl_Pair b100))), (22, agg [cI b94.A, cI b94.B]), (23, MG.one (cL r101)), (24, MG.one (cL r101))] [] [] 0) (Le.mk [] hm rfl ⟨⟨_, rfl, rfl⟩, ⟨_, rfl, rfl⟩, ⟨_, rfl, rfl⟩, ⟨_, rfl, rfl⟩, ⟨_, rfl, rfl⟩, ⟨_, rfl, rfl⟩, ⟨_, rfl, rfl⟩, ⟨_, rfl, rfl⟩, ⟨_, rfl, rfl⟩, ⟨_, rfl, rfl⟩, ⟨_, rfl, rfl⟩, trivial⟩ trivial trivial) ?_
        refine A.done (by kernel_rfl) ?_
        refine WpC.cond rfl (fun hc => ?_) (fun hc => ?_)
        · replace H := condT hc H
          refine WpC.seq ?_
          refine WpC.regionL ?_
          refine L.assign hF rfl rfl rfl ?_
          refine L.nil ?_
          refine WpC.ret ?_
          cases H
          exact Leaves.ret rfl rfl rfl ⟨rfl, rfl⟩
        · replace H := condF hc H
          refine WpC.skip ?_
          refine WpC.regionL ?_
          refine L.bin hF rfl rfl rfl rfl rfl rfl ?_
          refine L.move hF rfl rfl rfl ?_
          refine L.nil ?_
          exact ⟨k2, _, by omega, ⟨v84, v85, (IntKind.i64.wrap (v86 + (1 : Int))), by omega, H, rfl⟩, Le.mk [] hm rfl ⟨⟨_, rfl, rfl⟩, ⟨_, rfl, rfl⟩, ⟨_, rfl, rfl⟩, ⟨_, rfl, rfl⟩, ⟨_, rfl, rfl⟩, trivial⟩ trivial trivial⟩
    · replace H := condF hc H
      refine WpC.exit ?_
      refine WpC.seq ?_
      refine WpC.regionL ?_
      refine L.move hF rfl rfl rfl ?_
      refine L.lenR (xs := v84) (e := eTimpl_Pair) Try.underlying88 hF rfl rfl rfl rfl ?_
      refine L.bin hF rfl rfl rfl rfl rfl rfl ?_
      refine L.assign hF rfl rfl rfl ?_
      refine L.nil ?_
      refine WpC.ret ?_
      cases H
      exact Leaves.ret rfl rfl rfl ⟨rfl, rfl⟩
/-! ### Fimpl_isService -/
def Fimpl_isService (k : Nat) (a0 : Int) : Option Bool := (Fimpl_within k a0 (0 : Int) (2 : Int)).bind fun r1 => some r1
theorem ent157 : MG.Enters Try.prog 157 := ⟨Try.f157, Try.func157, rfl, by decide⟩
set_option maxHeartbeats 8000000 in
set_option maxRecDepth 100000 in
theorem Fimpl_isService_gives (k : Nat) (a0 : Int) (r : Bool) (H : Fimpl_isService k a0 = some r) : Gives Try.prog 157 [V.one (cI a0)] [] [V.one (cL r)] [] := by
  refine Gives.intro Try.func157 rfl rfl rfl rfl ?_
  intro F hF hm
  unfold Fimpl_isService at H
  obtain ⟨K, hK⟩ : ∃ K, k ≤ K := ⟨k, Nat.le_refl k⟩
  refine WpC.seq ?_
  refine WpC.regionL ?_
  refine L.assign hF rfl rfl rfl ?_
  refine L.nil ?_
  refine WpC.seq ?_
  refine WpC.regionL ?_
  refine L.move hF rfl rfl rfl ?_
  obtain ⟨r1, hr1, H⟩ := bindS H
  refine L.call [false, false, false] [] [] 1 hF rfl rfl rfl ent113 rfl rfl rfl rfl rfl (Fimpl_within_gives k  a0 (0 : Int) (2 : Int) r1 hr1) rfl ?_
  refine L.assign hF rfl rfl rfl ?_
  refine L.nil ?_
  refine WpC.ret ?_
  cases H
  exact Leaves.ret rfl rfl rfl ⟨rfl, rfl⟩
/-! ### Fimpl_ConfigOk_2 -/
def Fimpl_ConfigOk_2 (k : Nat) (a0 : Timpl_Pair) : Option Bool := (Fimpl_isService k a0.A).bind fun r3 => cond r3 ((Fimpl_isService k a0.B).bind fun r4 => some r4) (some false)
theorem ent248 : MG.Enters Try.prog 248 := ⟨Try.f248, Try.func248, rfl, by decide⟩
set_option maxHeartbeats 8000000 in
set_option maxRecDepth 100000 in
theorem Fimpl_ConfigOk_2_gives (k : Nat) (a0 : Timpl_Pair) (r : Bool) (H : Fimpl_ConfigOk_2 k a0 = some r) : Gives Try.prog 248 [V.agg [cI a0.A, cI a0.B]] [] [V.one (cL r)] [] := by
  refine Gives.intro Try.func248 rfl rfl rfl rfl ?_
  intro F hF hm
  unfold Fimpl_ConfigOk_2 at H
  obtain ⟨K, hK⟩ : ∃ K, k ≤ K := ⟨k, Nat.le_refl k⟩
  refine WpC.seq ?_
  refine WpC.regionL ?_
  refine L.box 2 hF rfl rfl rfl rfl ?_
  refine L.assign hF rfl rfl rfl ?_
  refine L.nil ?_
  refine WpC.seq ?_
  refine WpC.regionL ?_
  refine L.fieldAddr Try.underlying256 rfl info3 rfl hF rfl rfl rfl rfl rfl ?_
  refine L.loadPtr shape3 hF rfl rfl rfl rfl rfl rfl ?_
  obtain ⟨r3, hr3, H⟩ := bindS H
  refine L.call [false] [] [] 3 hF rfl rfl rfl ent157 rfl rfl rfl rfl rfl (Fimpl_isService_gives k  a0.A r3 hr3) rfl ?_
  refine L.move hF rfl rfl rfl ?_
  refine L.split (fun hc => ?_) (fun hc => ?_)
  · replace H := condT hc H
    refine L.fieldAddr Try.underlying256 rfl info3 rfl hF rfl rfl rfl rfl rfl ?_
    refine L.loadPtr shape3 hF rfl rfl rfl rfl rfl rfl ?_
    obtain ⟨r4, hr4, H⟩ := bindS H
    refine L.call [false] [] [] 4 hF rfl rfl rfl ent157 rfl rfl rfl rfl rfl (Fimpl_isService_gives k  a0.B r4 hr4) rfl ?_
    refine L.pick hF rfl rfl rfl rfl ?_
    refine L.assign hF rfl rfl rfl ?_
    refine L.nil ?_
    refine WpC.ret ?_
    cases H
    exact Leaves.ret rfl rfl rfl ⟨rfl, rfl⟩
  · replace H := condF hc H
    refine L.off hF rfl rfl ?_
    refine L.off hF rfl rfl ?_
    refine L.off hF rfl rfl ?_
    refine L.pick hF rfl rfl rfl rfl ?_
    refine L.assign hF rfl rfl rfl ?_
    refine L.nil ?_
    refine WpC.ret ?_
    cases H
    exact Leaves.ret rfl rfl rfl ⟨rfl, rfl⟩
/-! ### Fimpl_arePairs__impl_ConfigOk_2 -/
def Fimpl_arePairs__impl_ConfigOk_2.l2 : Nat → (List Timpl_Pair) → Int → Int → Option Bool
  | 0, _, _, _ => none
  | k2 + 1, v84, v85, v86 => cond (decide (v86 < v85)) ((at? v84 v86).bind fun b94 => (Fimpl_ConfigOk_2 k2 b94).bind fun r98 => cond (!r98) (some false) ((part? v84 (0 : Int) v86).bind fun b100 => (Fslices_Contains_Pair k2 b100 b94).bind fun r101 => cond r101 (some false) ((Fimpl_arePairs__impl_ConfigOk_2.l2 k2) v84 v85 (IntKind.i64.wrap (v86 + (1 : Int)))))) (some (decide ((v84.length : Int) ≤ (6 : Int))))
def Fimpl_arePairs__impl_ConfigOk_2 (k : Nat) (a0 : List Timpl_Pair) : Option Bool := Fimpl_arePairs__impl_ConfigOk_2.l2 k a0 (a0.length : Int) (0 : Int)
set_option maxHeartbeats 8000000 in
set_option maxRecDepth 100000 in
theorem Fimpl_arePairs__impl_ConfigOk_2_gives (k : Nat) (g0 : Bool) (a0 : List Timpl_Pair) (r : Bool) (H : Fimpl_arePairs__impl_ConfigOk_2 k a0 = some r) : Gives Try.prog 246 [V.one (Cell.sl g0 (List.map eTimpl_Pair a0)), V.one (Cell.clo 248 [])] [] [V.one (cL r)] [] := by
  refine Gives.intro Try.func246 rfl rfl rfl rfl ?_
  intro F hF hm
  unfold Fimpl_arePairs__impl_ConfigOk_2 at H
  obtain ⟨K, hK⟩ : ∃ K, k ≤ K := ⟨k, Nat.le_refl k⟩
  refine WpC.seq ?_
  refine WpC.regionL ?_
  refine L.assign hF rfl rfl rfl ?_
  refine L.nil ?_
  refine WpC.seq ?_
  refine WpC.seq ?_
  refine WpC.regionL ?_
  refine L.move hF rfl rfl rfl ?_
  refine L.lenR (xs := a0) (e := eTimpl_Pair) Try.underlying88 hF rfl rfl rfl rfl ?_
  refine L.move hF rfl rfl rfl ?_
  refine L.nil ?_
  refine WpC.block ?_
  refine WpC.loopL (P := Try.prog) (fun n σ => ∃ v84 : List Timpl_Pair, ∃ v85 : Int, ∃ v86 : Int, n ≤ K ∧ Fimpl_arePairs__impl_ConfigOk_2.l2 n v84 v85 v86 = some r ∧ σ = mkSt [(0, MG.one (Cell.sl g0 (List.map eTimpl_Pair v84))), (1, MG.one (Cell.clo 248 [])), (7, MG.one (Cell.sl g0 (List.map eTimpl_Pair v84))), (8, MG.one (cI v85)), (9, MG.one (cI v86))] [] [] 0) k ⟨_, ⟨a0, (a0.length : Int), (0 : Int), by omega, H, rfl⟩, Le.mk [] hm rfl ⟨⟨_, rfl, rfl⟩, ⟨_, rfl, rfl⟩, ⟨_, rfl, rfl⟩, ⟨_, rfl, rfl⟩, ⟨_, rfl, rfl⟩, trivial⟩ trivial trivial⟩ ?_
  clear H
  rintro k2 _ ⟨v84, v85, v86, hk2, H, rfl⟩
  cases k2 with
  | zero => cases H
  | succ k2 =>
    rw [Fimpl_arePairs__impl_ConfigOk_2.l2] at H
    refine WpC.seq ?_
    refine WpC.regionL ?_
    refine L.bin hF rfl rfl rfl rfl rfl rfl ?_
    refine L.nil ?_
    refine WpC.seq ?_
    refine WpC.cond rfl (fun hc => ?_) (fun hc => ?_)
    · replace H := condT hc H
      refine WpC.skip ?_
      refine WpC.seq ?_
      refine WpC.block ?_
      refine WpC.seq ?_
      refine WpC.regionL ?_
      refine L.move hF rfl rfl rfl ?_
      obtain ⟨b94, hb94, H⟩ := bindS H
      refine L.idxR (xs := v84) (e := eTimpl_Pair) Try.underlying88 info256 hF rfl rfl rfl rfl rfl hb94 rfl rfl ?_
      refine L.loadPe shape256 hF rfl rfl rfl rfl rfl ?_
      refine L.alloc 0 info256 rfl hF rfl rfl rfl rfl ?_
      refine L.assign hF rfl rfl rfl ?_
      refine L.storePtr shape256 hF rfl rfl rfl rfl rfl rfl rfl ?_
      refine L.nil ?_
      refine WpC.seq ?_
      obtain ⟨r98, hr98, H⟩ := bindS H
      rcases Bool.eq_false_or_eq_true ((!r98)) with hc99 | hc99
      · replace H := condT hc99 H
        refine A.begin mixed rfl rfl ?_
        intro W hI hO
        refine hI _ _ _ ?_
        refine A.take 0 rfl (by kernel_rfl) (by kernel_rfl) (by kernel_rfl) rfl (Ca.move) (fun Q0 k0 => L.move hF rfl rfl rfl (L.nil k0)) ?_
        refine A.all [1] (by kernel_rfl) rfl ⟨⟨_, rfl, ?_⟩, trivial⟩
        refine L.loadPtr shape256 hF rfl rfl rfl rfl rfl rfl ?_
        refine L.nil ?_
        refine A.all [2] (by kernel_rfl) rfl ⟨⟨_, rfl, ?_⟩, trivial⟩
        refine L.call [false] [] [] 1 hF rfl rfl rfl ent248 rfl rfl rfl rfl rfl (Fimpl_ConfigOk_2_gives k2  b94 r98 hr98) rfl ?_
        refine L.nil ?_
        refine A.take 3 rfl (by kernel_rfl) (by kernel_rfl) (by kernel_rfl) rfl (Ca.un rfl rfl) (fun Q0 k0 => L.not hF rfl rfl rfl (L.nil k0)) ?_
        refine A.take 4 rfl (by kernel_rfl) (by kernel_rfl) (by kernel_rfl) rfl (Ca.move) (fun Q0 k0 => L.move hF rfl rfl rfl (L.nil k0)) ?_
        refine A.le (τ := mkSt [(0, MG.one (Cell.sl g0 (List.map eTimpl_Pair v84))), (1, MG.one (Cell.clo 248 [])), (5, MG.one (cI v86)), (6, MG.one (Cell.ptr 0 0)), (7, MG.one (Cell.sl g0 (List.map eTimpl_Pair v84))), (8, MG.one (cI v85)), (9, MG.one (cI v86)), (18, MG.one (cL true))] [] [(0, [cI b94.A, cI b94.B])] 1) (Le.mk [(0, 0)] hm rfl ⟨⟨_, rfl, rfl⟩, ⟨_, rfl, rfl⟩, ⟨_, rfl, rfl⟩, ⟨_, rfl, rfl⟩, ⟨_, rfl, rfl⟩, ⟨_, rfl, rfl⟩, ⟨_, rfl, rfl⟩, ⟨_, rfl, congrArg (fun b => some (MG.one (cL b))) hc99⟩, trivial⟩ trivial ⟨⟨_, _, rfl, rfl, rfl⟩, trivial⟩) ?_
        refine A.off 5 rfl (by kernel_rfl) (by kernel_rfl) (by kernel_rfl) rfl hF rfl rfl ?_
        refine A.off 6 rfl (by kernel_rfl) (by kernel_rfl) (by kernel_rfl) rfl hF rfl rfl ?_
        refine A.off 7 rfl (by kernel_rfl) (by kernel_rfl) (by kernel_rfl) rfl hF rfl rfl ?_
        refine A.off 8 rfl (by kernel_rfl) (by kernel_rfl) (by kernel_rfl) rfl hF rfl rfl ?_
        refine A.all [9] (by kernel_rfl) rfl ⟨⟨_, rfl, ?_⟩, trivial⟩
        refine L.off hF rfl rfl ?_
        refine L.nil ?_
        refine A.take 10 rfl (by kernel_rfl) (by kernel_rfl) (by kernel_rfl) rfl (Ca.pick) (fun Q0 k0 => L.pick hF rfl rfl rfl rfl (L.nil k0)) ?_
        refine A.le (τ := mkSt [(0, MG.one (Cell.sl g0 (List.map eTimpl_Pair v84))), (1, MG.one (Cell.clo 248 [])), (7, MG.one (Cell.sl g0 (List.map eTimpl_Pair v84))), (8, MG.one (cI v85)), (9, MG.one (cI v86)), (19, Slot.tup []), (20, Slot.tup []), (21, Slot.tup []), (22, Slot.tup []), (23, Slot.tup []), (24, MG.one (cL true))] [] [] 0) (Le.mk [] hm rfl ⟨⟨_, rfl, rfl⟩, ⟨_, rfl, rfl⟩, ⟨_, rfl, rfl⟩, ⟨_, rfl, rfl⟩, ⟨_, rfl, rfl⟩, ⟨_, rfl, rfl⟩, ⟨_, rfl, rfl⟩, ⟨_, rfl, rfl⟩, ⟨_, rfl, rfl⟩, ⟨_, rfl, rfl⟩, ⟨_, rfl, rfl⟩, trivial⟩ trivial trivial) ?_
        refine A.done (by kernel_rfl) ?_
        refine WpC.cond rfl (fun _ => ?_) (fun hc => by cases hc)
        refine WpC.seq ?_
        refine WpC.regionL ?_
        refine L.assign hF rfl rfl rfl ?_
        refine L.nil ?_
        refine WpC.ret ?_
        cases H
        exact Leaves.ret rfl rfl rfl ⟨rfl, rfl⟩
      · replace H := condF hc99 H
        obtain ⟨b100, hb100, H⟩ := bindS H
        obtain ⟨r101, hr101, H⟩ := bindS H
        refine A.begin mixed rfl rfl ?_
        intro W hI hO
        refine hI _ _ _ ?_
        refine A.take 0 rfl (by kernel_rfl) (by kernel_rfl) (by kernel_rfl) rfl (Ca.move) (fun Q0 k0 => L.move hF rfl rfl rfl (L.nil k0)) ?_
        refine A.all [1] (by kernel_rfl) rfl ⟨⟨_, rfl, ?_⟩, trivial⟩
        refine L.loadPtr shape256 hF rfl rfl rfl rfl rfl rfl ?_
        refine L.nil ?_
        refine A.all [2] (by kernel_rfl) rfl ⟨⟨_, rfl, ?_⟩, trivial⟩
        refine L.call [false] [] [] 1 hF rfl rfl rfl ent248 rfl rfl rfl rfl rfl (Fimpl_ConfigOk_2_gives k2  b94 r98 hr98) rfl ?_
        refine L.nil ?_
        refine A.take 3 rfl (by kernel_rfl) (by kernel_rfl) (by kernel_rfl) rfl (Ca.un rfl rfl) (fun Q0 k0 => L.not hF rfl rfl rfl (L.nil k0)) ?_
        refine A.take 4 rfl (by kernel_rfl) (by kernel_rfl) (by kernel_rfl) rfl (Ca.move) (fun Q0 k0 => L.move hF rfl rfl rfl (L.nil k0)) ?_
        refine A.le (τ := mkSt [(0, MG.one (Cell.sl g0 (List.map eTimpl_Pair v84))), (1, MG.one (Cell.clo 248 [])), (5, MG.one (cI v86)), (6, MG.one (Cell.ptr 0 0)), (7, MG.one (Cell.sl g0 (List.map eTimpl_Pair v84))), (8, MG.one (cI v85)), (9, MG.one (cI v86)), (18, MG.one (cL false))] [] [(0, [cI b94.A, cI b94.B])] 1) (Le.mk [(0, 0)] hm rfl ⟨⟨_, rfl, rfl⟩, ⟨_, rfl, rfl⟩, ⟨_, rfl, rfl⟩, ⟨_, rfl, rfl⟩, ⟨_, rfl, rfl⟩, ⟨_, rfl, rfl⟩, ⟨_, rfl, rfl⟩, ⟨_, rfl, congrArg (fun b => some (MG.one (cL b))) hc99⟩, trivial⟩ trivial ⟨⟨_, _, rfl, rfl, rfl⟩, trivial⟩) ?_
        refine A.take 5 rfl (by kernel_rfl) (by kernel_rfl) (by kernel_rfl) rfl (Ca.move) (fun Q0 k0 => L.move hF rfl rfl rfl (L.nil k0)) ?_
        refine A.take 6 rfl (by kernel_rfl) (by kernel_rfl) (by kernel_rfl) rfl (Ca.move) (fun Q0 k0 => L.move hF rfl rfl rfl (L.nil k0)) ?_
        refine A.take 7 rfl (by kernel_rfl) (by kernel_rfl) (by kernel_rfl) rfl (Ca.slice) (fun Q0 k0 => L.cutR (xs := v84) (ys := b100) (e := eTimpl_Pair) Try.underlying88 info256 hF rfl rfl rfl rfl rfl hb100 (fun _ => rfl) (L.nil k0)) ?_
        refine A.all [8] (by kernel_rfl) rfl ⟨⟨_, rfl, ?_⟩, trivial⟩
        refine L.loadPtr shape256 hF rfl rfl rfl rfl rfl rfl ?_
        refine L.nil ?_
        refine A.all [9] (by kernel_rfl) rfl ⟨⟨_, rfl, ?_⟩, trivial⟩
        refine L.call [false, false] [] [] 1 hF rfl rfl rfl ent252 rfl rfl rfl rfl rfl (Fslices_Contains_Pair_gives k2 g0 b100 b94 r101 hr101) rfl ?_
        refine L.nil ?_
        refine A.take 10 rfl (by kernel_rfl) (by kernel_rfl) (by kernel_rfl) rfl (Ca.pick) (fun Q0 k0 => L.pick hF rfl rfl rfl rfl (L.nil k0)) ?_
        refine A.le (τ := mkSt [(0, MG.one (Cell.sl g0 (List.map eTimpl_Pair v84))), (1, MG.one (Cell.clo 248 [])), (7, MG.one (Cell.sl g0 (List.map eTimpl_Pair v84))), (8, MG.one (cI v85)), (9, MG.one (cI v86)), (19, MG.one (Cell.sl g0 (List.map eTimpl_Pair v84))), (20, MG.one (cI v86)), (21, MG.one (Cell.sl g0 (List.map eTimpl_Pair b100))), (22, agg [cI b94.A, cI b94.B]), (23, MG.one (cL r101)), (24, MG.one (cL r101))] [] [] 0) (Le.mk [] hm rfl ⟨⟨_, rfl, rfl⟩, ⟨_, rfl, rfl⟩, ⟨_, rfl, rfl⟩, ⟨_, rfl, rfl⟩, ⟨_, rfl, rfl⟩, ⟨_, rfl, rfl⟩, ⟨_, rfl, rfl⟩, ⟨_, rfl, rfl⟩, ⟨_, rfl, rfl⟩, ⟨_, rfl, rfl⟩, ⟨_, rfl, rfl⟩, trivial⟩ trivial trivial) ?_
        refine A.done (by kernel_rfl) ?_
        refine WpC.cond rfl (fun hc => ?_) (fun hc => ?_)
        · replace H := condT hc H
          refine WpC.seq ?_
          refine WpC.regionL ?_
          refine L.assign hF rfl rfl rfl ?_
          refine L.nil ?_
          refine WpC.ret ?_
          cases H
          exact Leaves.ret rfl rfl rfl ⟨rfl, rfl⟩
        · replace H := condF hc H
          refine WpC.skip ?_
          refine WpC.regionL ?_
          refine L.bin hF rfl rfl rfl rfl rfl rfl ?_
          refine L.move hF rfl rfl rfl ?_
          refine L.nil ?_
          exact ⟨k2, _, by omega, ⟨v84, v85, (IntKind.i64.wrap (v86 + (1 : Int))), by omega, H, rfl⟩, Le.mk [] hm rfl ⟨⟨_, rfl, rfl⟩, ⟨_, rfl, rfl⟩, ⟨_, rfl, rfl⟩, ⟨_, rfl, rfl⟩, ⟨_, rfl, rfl⟩, trivial⟩ trivial trivial⟩
    · replace H := condF hc H
      refine WpC.exit ?_
      refine WpC.seq ?_
      refine WpC.regionL ?_
      refine L.move hF rfl rfl rfl ?_
      refine L.lenR (xs := v84) (e := eTimpl_Pair) Try.underlying88 hF rfl rfl rfl rfl ?_
      refine L.bin hF rfl rfl rfl rfl rfl rfl ?_
      refine L.assign hF rfl rfl rfl ?_
      refine L.nil ?_
      refine WpC.ret ?_
      cases H
      exact Leaves.ret rfl rfl rfl ⟨rfl, rfl⟩
/-! ### Fimpl_areAll__impl_isRealm -/
def Fimpl_areAll__impl_isRealm.l2 : Nat → (List Int) → Int → Int → Int → Option Bool
  | 0, _, _, _, _ => none
  | k2 + 1, v39, v40, v41, v42 => cond (decide (v42 < v41)) ((at? v39 v42).bind fun b45 => (Fimpl_isRealm k2 b45).bind fun r46 => cond (!r46) (some false) ((Fimpl_areAll__impl_isRealm.l2 k2) v39 v40 v41 (IntKind.i64.wrap (v42 + (1 : Int))))) (some (decide ((v39.length : Int) ≤ v40)))
def Fimpl_areAll__impl_isRealm (k : Nat) (a0 : List Int) (a1 : Int) : Option Bool := Fimpl_areAll__impl_isRealm.l2 k a0 a1 (a0.length : Int) (0 : Int)
theorem ent249 : MG.Enters Try.prog 249 := ⟨Try.f249, Try.func249, rfl, by decide⟩
set_option maxHeartbeats 8000000 in
set_option maxRecDepth 100000 in
theorem Fimpl_areAll__impl_isRealm_gives (k : Nat) (g0 : Bool) (a0 : List Int) (a1 : Int) (r : Bool) (H : Fimpl_areAll__impl_isRealm k a0 a1 = some r) : Gives Try.prog 249 [V.one (Cell.sl g0 (List.map eI a0)), V.one (cI a1), V.one (Cell.clo 184 [])] [] [V.one (cL r)] [] := by
  refine Gives.intro Try.func249 rfl rfl rfl rfl ?_
  intro F hF hm
  unfold Fimpl_areAll__impl_isRealm at H
  obtain ⟨K, hK⟩ : ∃ K, k ≤ K := ⟨k, Nat.le_refl k⟩
  refine WpC.seq ?_
  refine WpC.regionL ?_
  refine L.assign hF rfl rfl rfl ?_
  refine L.nil ?_
  refine WpC.seq ?_
  refine WpC.seq ?_
  refine WpC.regionL ?_
  refine L.move hF rfl rfl rfl ?_
  refine L.lenR (xs := a0) (e := eI) Try.underlying24 hF rfl rfl rfl rfl ?_
  refine L.move hF rfl rfl rfl ?_
  refine L.nil ?_
  refine WpC.block ?_
  refine WpC.loopL (P := Try.prog) (fun n σ => ∃ v39 : List Int, ∃ v40 : Int, ∃ v41 : Int, ∃ v42 : Int, n ≤ K ∧ Fimpl_areAll__impl_isRealm.l2 n v39 v40 v41 v42 = some r ∧ σ = mkSt [(0, MG.one (Cell.sl g0 (List.map eI v39))), (1, MG.one (cI v40)), (2, MG.one (Cell.clo 184 [])), (9, MG.one (Cell.sl g0 (List.map eI v39))), (10, MG.one (cI v41)), (11, MG.one (cI v42))] [] [] 0) k ⟨_, ⟨a0, a1, (a0.length : Int), (0 : Int), by omega, H, rfl⟩, Le.mk [] hm rfl ⟨⟨_, rfl, rfl⟩, ⟨_, rfl, rfl⟩, ⟨_, rfl, rfl⟩, ⟨_, rfl, rfl⟩, ⟨_, rfl, rfl⟩, ⟨_, rfl, rfl⟩, trivial⟩ trivial trivial⟩ ?_
  clear H
  rintro k2 _ ⟨v39, v40, v41, v42, hk2, H, rfl⟩
  cases k2 with
  | zero => cases H
  | succ k2 =>
    rw [Fimpl_areAll__impl_isRealm.l2] at H
    refine WpC.seq ?_
    refine WpC.regionL ?_
    refine L.bin hF rfl rfl rfl rfl rfl rfl ?_
    refine L.nil ?_
    refine WpC.seq ?_
    refine WpC.cond rfl (fun hc => ?_) (fun hc => ?_)
    · replace H := condT hc H
      refine WpC.skip ?_
      refine WpC.seq ?_
      refine WpC.block ?_
      refine WpC.seq ?_
      refine WpC.regionL ?_
      obtain ⟨b45, hb45, H⟩ := bindS H
      refine L.idxR (xs := v39) (e := eI) Try.underlying24 info3 hF rfl rfl rfl rfl rfl hb45 rfl rfl ?_
      refine L.loadPe shape3 hF rfl rfl rfl rfl rfl ?_
      refine L.assign hF rfl rfl rfl ?_
      refine L.nil ?_
      refine WpC.seq ?_
      refine WpC.regionL ?_
      refine L.move hF rfl rfl rfl ?_
      refine L.move hF rfl rfl rfl ?_
      obtain ⟨r46, hr46, H⟩ := bindS H
      refine L.call [false] [] [] 0 hF rfl rfl rfl ent184 rfl rfl rfl rfl rfl (Fimpl_isRealm_gives k2  b45 r46 hr46) rfl ?_
      refine L.not hF rfl rfl rfl ?_
      refine L.nil ?_
      refine WpC.cond rfl (fun hc => ?_) (fun hc => ?_)
      · replace H := condT hc H
        refine WpC.seq ?_
        refine WpC.regionL ?_
        refine L.assign hF rfl rfl rfl ?_
        refine L.nil ?_
        refine WpC.ret ?_
        cases H
        exact Leaves.ret rfl rfl rfl ⟨rfl, rfl⟩
      · replace H := condF hc H
        refine WpC.skip ?_
        refine WpC.regionL ?_
        refine L.bin hF rfl rfl rfl rfl rfl rfl ?_
        refine L.move hF rfl rfl rfl ?_
        refine L.nil ?_
        exact ⟨k2, _, by omega, ⟨v39, v40, v41, (IntKind.i64.wrap (v42 + (1 : Int))), by omega, H, rfl⟩, Le.mk [] hm rfl ⟨⟨_, rfl, rfl⟩, ⟨_, rfl, rfl⟩, ⟨_, rfl, rfl⟩, ⟨_, rfl, rfl⟩, ⟨_, rfl, rfl⟩, ⟨_, rfl, rfl⟩, trivial⟩ trivial trivial⟩
    · replace H := condF hc H
      refine WpC.exit ?_
      refine WpC.seq ?_
      refine WpC.regionL ?_
      refine L.move hF rfl rfl rfl ?_
      refine L.lenR (xs := v39) (e := eI) Try.underlying24 hF rfl rfl rfl rfl ?_
      refine L.move hF rfl rfl rfl ?_
      refine L.bin hF rfl rfl rfl rfl rfl rfl ?_
      refine L.assign hF rfl rfl rfl ?_
      refine L.nil ?_
      refine WpC.ret ?_
      cases H
      exact Leaves.ret rfl rfl rfl ⟨rfl, rfl⟩
/-! ### Fimpl_ConfigOk -/
def Fimpl_ConfigOk (k : Nat) (a0 : Timpl_Config) : Option Bool := (Fimpl_arePairs__impl_ConfigOk_1 k a0.Links).bind fun r1 => (Fimpl_arePairs__impl_ConfigOk_2 k a0.Proxy).bind fun r2 => cond r1 (cond r2 (cond ((a0.UserRealm.length : Int) == (3 : Int)) ((Fimpl_areAll__impl_isRealm k a0.UserRealm (3 : Int)).bind fun r6 => cond r6 (cond ((a0.ServiceRealm.length : Int) == (3 : Int)) ((Fimpl_areAll__impl_isRealm k a0.ServiceRealm (3 : Int)).bind fun r7 => cond r7 ((Fimpl_within k a0.Skew (0 : Int) (20 : Int)).bind fun r8 => some r8) (some false)) (some false)) (some false)) (some false)) (some false)) (some false)
theorem ent156 : MG.Enters Try.prog 156 := ⟨Try.f156, Try.func156, rfl, by decide⟩
set_option maxHeartbeats 8000000 in
set_option maxRecDepth 100000 in
theorem Fimpl_ConfigOk_gives (k : Nat) (g0 : Bool) (g1 : Bool) (g2 : Bool) (g3 : Bool) (a0 : Timpl_Config) (r : Bool) (H : Fimpl_ConfigOk k a0 = some r) : Gives Try.prog 156 [V.agg [Cell.sl g0 (List.map eI a0.UserRealm), Cell.sl g1 (List.map eI a0.ServiceRealm), Cell.sl g2 (List.map eTimpl_Pair a0.Links), Cell.sl g3 (List.map eTimpl_Pair a0.Proxy), cI a0.Skew]] [] [V.one (cL r)] [] := by
  refine Gives.intro Try.func156 rfl rfl rfl rfl ?_
  intro F hF hm
  unfold Fimpl_ConfigOk at H
  obtain ⟨K, hK⟩ : ∃ K, k ≤ K := ⟨k, Nat.le_refl k⟩
  refine WpC.seq ?_
  refine WpC.regionL ?_
  refine L.box 5 hF rfl rfl rfl rfl ?_
  refine L.assign hF rfl rfl rfl ?_
  refine L.nil ?_
  refine WpC.seq ?_
  refine WpC.regionL ?_
  refine L.fieldAddr Try.underlying90 rfl info88 rfl hF rfl rfl rfl rfl rfl ?_
  refine L.loadPtr shape88 hF rfl rfl rfl rfl rfl rfl ?_
  obtain ⟨r1, hr1, H⟩ := bindS H
  refine L.call [false, false] [] [] 6 hF rfl rfl rfl ent246 rfl rfl rfl rfl rfl (Fimpl_arePairs__impl_ConfigOk_1_gives k g2 a0.Links r1 hr1) rfl ?_
  refine L.assign hF rfl rfl rfl ?_
  refine L.nil ?_
  refine WpC.seq ?_
  refine WpC.regionL ?_
  refine L.fieldAddr Try.underlying90 rfl info88 rfl hF rfl rfl rfl rfl rfl ?_
  refine L.loadPtr shape88 hF rfl rfl rfl rfl rfl rfl ?_
  obtain ⟨r2, hr2, H⟩ := bindS H
  refine L.call [false, false] [] [] 7 hF rfl rfl rfl ent246 rfl rfl rfl rfl rfl (Fimpl_arePairs__impl_ConfigOk_2_gives k g3 a0.Proxy r2 hr2) rfl ?_
  refine L.assign hF rfl rfl rfl ?_
  refine L.nil ?_
  refine WpC.seq ?_
  refine WpC.regionL ?_
  refine L.move hF rfl rfl rfl ?_
  refine L.move hF rfl rfl rfl ?_
  refine L.split (fun hc => ?_) (fun hc => ?_)
  · replace H := condT hc H
    refine L.move hF rfl rfl rfl ?_
    refine L.pick hF rfl rfl rfl rfl ?_
    refine L.move hF rfl rfl rfl ?_
    refine L.split (fun hc => ?_) (fun hc => ?_)
    · replace H := condT hc H
      refine L.fieldAddr Try.underlying90 rfl info24 rfl hF rfl rfl rfl rfl rfl ?_
      refine L.loadPtr shape24 hF rfl rfl rfl rfl rfl rfl ?_
      refine L.lenR (xs := a0.UserRealm) (e := eI) Try.underlying24 hF rfl rfl rfl rfl ?_
      refine L.bin hF rfl rfl rfl rfl rfl rfl ?_
      refine L.pick hF rfl rfl rfl rfl ?_
      refine L.move hF rfl rfl rfl ?_
      refine L.split (fun hc => ?_) (fun hc => ?_)
      · replace H := condT hc H
        refine L.fieldAddr Try.underlying90 rfl info24 rfl hF rfl rfl rfl rfl rfl ?_
        refine L.loadPtr shape24 hF rfl rfl rfl rfl rfl rfl ?_
        obtain ⟨r6, hr6, H⟩ := bindS H
        refine L.call [false, false, false] [] [] 8 hF rfl rfl rfl ent249 rfl rfl rfl rfl rfl (Fimpl_areAll__impl_isRealm_gives k g0 a0.UserRealm (3 : Int) r6 hr6) rfl ?_
        refine L.pick hF rfl rfl rfl rfl ?_
        refine L.move hF rfl rfl rfl ?_
        refine L.split (fun hc => ?_) (fun hc => ?_)
        · replace H := condT hc H
          refine L.fieldAddr Try.underlying90 rfl info24 rfl hF rfl rfl rfl rfl rfl ?_
          refine L.loadPtr shape24 hF rfl rfl rfl rfl rfl rfl ?_
          refine L.lenR (xs := a0.ServiceRealm) (e := eI) Try.underlying24 hF rfl rfl rfl rfl ?_
          refine L.bin hF rfl rfl rfl rfl rfl rfl ?_
          refine L.pick hF rfl rfl rfl rfl ?_
          refine L.move hF rfl rfl rfl ?_
          refine L.split (fun hc => ?_) (fun hc => ?_)
          · replace H := condT hc H
            refine L.fieldAddr Try.underlying90 rfl info24 rfl hF rfl rfl rfl rfl rfl ?_
            refine L.loadPtr shape24 hF rfl rfl rfl rfl rfl rfl ?_
            obtain ⟨r7, hr7, H⟩ := bindS H
            refine L.call [false, false, false] [] [] 9 hF rfl rfl rfl ent249 rfl rfl rfl rfl rfl (Fimpl_areAll__impl_isRealm_gives k g1 a0.ServiceRealm (3 : Int) r7 hr7) rfl ?_
            refine L.pick hF rfl rfl rfl rfl ?_
            refine L.move hF rfl rfl rfl ?_
            refine L.split (fun hc => ?_) (fun hc => ?_)
            · replace H := condT hc H
              refine L.fieldAddr Try.underlying90 rfl info3 rfl hF rfl rfl rfl rfl rfl ?_
              refine L.loadPtr shape3 hF rfl rfl rfl rfl rfl rfl ?_
              obtain ⟨r8, hr8, H⟩ := bindS H
              refine L.call [false, false, false] [] [] 10 hF rfl rfl rfl ent113 rfl rfl rfl rfl rfl (Fimpl_within_gives k  a0.Skew (0 : Int) (20 : Int) r8 hr8) rfl ?_
              refine L.pick hF rfl rfl rfl rfl ?_
              refine L.assign hF rfl rfl rfl ?_
              refine L.nil ?_
              refine WpC.ret ?_
              cases H
              exact Leaves.ret rfl rfl rfl ⟨rfl, rfl⟩
            · replace H := condF hc H
              refine L.off hF rfl rfl ?_
              refine L.off hF rfl rfl ?_
              refine L.off hF rfl rfl ?_
              refine L.pick hF rfl rfl rfl rfl ?_
              refine L.assign hF rfl rfl rfl ?_
              refine L.nil ?_
              refine WpC.ret ?_
              cases H
              exact Leaves.ret rfl rfl rfl ⟨rfl, rfl⟩
          · replace H := condF hc H
            refine L.off hF rfl rfl ?_
            refine L.off hF rfl rfl ?_
            refine L.off hF rfl rfl ?_
            refine L.pick hF rfl rfl rfl rfl ?_
            refine L.move hF rfl rfl rfl ?_
            refine L.off hF rfl rfl ?_
            refine L.off hF rfl rfl ?_
            refine L.off hF rfl rfl ?_
            refine L.pick hF rfl rfl rfl rfl ?_
            refine L.assign hF rfl rfl rfl ?_
            refine L.nil ?_
            refine WpC.ret ?_
            cases H
            exact Leaves.ret rfl rfl rfl ⟨rfl, rfl⟩
        · replace H := condF hc H
          refine L.off hF rfl rfl ?_
          refine L.off hF rfl rfl ?_
          refine L.off hF rfl rfl ?_
          refine L.off hF rfl rfl ?_
          refine L.pick hF rfl rfl rfl rfl ?_
          refine L.move hF rfl rfl rfl ?_
          refine L.off hF rfl rfl ?_
          refine L.off hF rfl rfl ?_
          refine L.off hF rfl rfl ?_
          refine L.pick hF rfl rfl rfl rfl ?_
          refine L.move hF rfl rfl rfl ?_
          refine L.off hF rfl rfl ?_
          refine L.off hF rfl rfl ?_
          refine L.off hF rfl rfl ?_
          refine L.pick hF rfl rfl rfl rfl ?_
          refine L.assign hF rfl rfl rfl ?_
          refine L.nil ?_
          refine WpC.ret ?_
          cases H
          exact Leaves.ret rfl rfl rfl ⟨rfl, rfl⟩
      · replace H := condF hc H
        refine L.off hF rfl rfl ?_
        refine L.off hF rfl rfl ?_
        refine L.off hF rfl rfl ?_
        refine L.pick hF rfl rfl rfl rfl ?_
        refine L.move hF rfl rfl rfl ?_
        refine L.off hF rfl rfl ?_
        refine L.off hF rfl rfl ?_
        refine L.off hF rfl rfl ?_
        refine L.off hF rfl rfl ?_
        refine L.pick hF rfl rfl rfl rfl ?_
        refine L.move hF rfl rfl rfl ?_
        refine L.off hF rfl rfl ?_
        refine L.off hF rfl rfl ?_
        refine L.off hF rfl rfl ?_
        refine L.pick hF rfl rfl rfl rfl ?_
        refine L.move hF rfl rfl rfl ?_
        refine L.off hF rfl rfl ?_
        refine L.off hF rfl rfl ?_
        refine L.off hF rfl rfl ?_
        refine L.pick hF rfl rfl rfl rfl ?_
        refine L.assign hF rfl rfl rfl ?_
        refine L.nil ?_
        refine WpC.ret ?_
        cases H
        exact Leaves.ret rfl rfl rfl ⟨rfl, rfl⟩
    · replace H := condF hc H
      refine L.off hF rfl rfl ?_
      refine L.off hF rfl rfl ?_
      refine L.off hF rfl rfl ?_
      refine L.off hF rfl rfl ?_
      refine L.pick hF rfl rfl rfl rfl ?_
      refine L.move hF rfl rfl rfl ?_
      refine L.off hF rfl rfl ?_
      refine L.off hF rfl rfl ?_
      refine L.off hF rfl rfl ?_
      refine L.pick hF rfl rfl rfl rfl ?_
      refine L.move hF rfl rfl rfl ?_
      refine L.off hF rfl rfl ?_
      refine L.off hF rfl rfl ?_
      refine L.off hF rfl rfl ?_
      refine L.off hF rfl rfl ?_
      refine L.pick hF rfl rfl rfl rfl ?_
      refine L.move hF rfl rfl rfl ?_
      refine L.off hF rfl rfl ?_
      refine L.off hF rfl rfl ?_
      refine L.off hF rfl rfl ?_
      refine L.pick hF rfl rfl rfl rfl ?_
      refine L.move hF rfl rfl rfl ?_
      refine L.off hF rfl rfl ?_
      refine L.off hF rfl rfl ?_
      refine L.off hF rfl rfl ?_
      refine L.pick hF rfl rfl rfl rfl ?_
      refine L.assign hF rfl rfl rfl ?_
      refine L.nil ?_
      refine WpC.ret ?_
      cases H
      exact Leaves.ret rfl rfl rfl ⟨rfl, rfl⟩
  · replace H := condF hc H
    refine L.off hF rfl rfl ?_
    refine L.pick hF rfl rfl rfl rfl ?_
    refine L.move hF rfl rfl rfl ?_
    refine L.off hF rfl rfl ?_
    refine L.off hF rfl rfl ?_
    refine L.off hF rfl rfl ?_
    refine L.off hF rfl rfl ?_
    refine L.pick hF rfl rfl rfl rfl ?_
    refine L.move hF rfl rfl rfl ?_
    refine L.off hF rfl rfl ?_
    refine L.off hF rfl rfl ?_
    refine L.off hF rfl rfl ?_
    refine L.pick hF rfl rfl rfl rfl ?_
    refine L.move hF rfl rfl rfl ?_
    refine L.off hF rfl rfl ?_
    refine L.off hF rfl rfl ?_
    refine L.off hF rfl rfl ?_
    refine L.off hF rfl rfl ?_
    refine L.pick hF rfl rfl rfl rfl ?_
    refine L.move hF rfl rfl rfl ?_
    refine L.off hF rfl rfl ?_
    refine L.off hF rfl rfl ?_
    refine L.off hF rfl rfl ?_
    refine L.pick hF rfl rfl rfl rfl ?_
    refine L.move hF rfl rfl rfl ?_
    refine L.off hF rfl rfl ?_
    refine L.off hF rfl rfl ?_
    refine L.off hF rfl rfl ?_
    refine L.pick hF rfl rfl rfl rfl ?_
    refine L.assign hF rfl rfl rfl ?_
    refine L.nil ?_
    refine WpC.ret ?_
    cases H
    exact Leaves.ret rfl rfl rfl ⟨rfl, rfl⟩
/-! ### Fimpl_isPrincipal -/
def Fimpl_isPrincipal (k : Nat) (a0 : Int) : Option Bool := (Fimpl_within k a0 (0 : Int) (5 : Int)).bind fun r1 => some r1
theorem ent145 : MG.Enters Try.prog 145 := ⟨Try.f145, Try.func145, rfl, by decide⟩
set_option maxHeartbeats 8000000 in
set_option maxRecDepth 100000 in
theorem Fimpl_isPrincipal_gives (k : Nat) (a0 : Int) (r : Bool) (H : Fimpl_isPrincipal k a0 = some r) : Gives Try.prog 145 [V.one (cI a0)] [] [V.one (cL r)] [] := by
  refine Gives.intro Try.func145 rfl rfl rfl rfl ?_
  intro F hF hm
  unfold Fimpl_isPrincipal at H
  obtain ⟨K, hK⟩ : ∃ K, k ≤ K := ⟨k, Nat.le_refl k⟩
  refine WpC.seq ?_
  refine WpC.regionL ?_
  refine L.assign hF rfl rfl rfl ?_
  refine L.nil ?_
  refine WpC.seq ?_
  refine WpC.regionL ?_
  refine L.move hF rfl rfl rfl ?_
  obtain ⟨r1, hr1, H⟩ := bindS H
  refine L.call [false, false, false] [] [] 1 hF rfl rfl rfl ent113 rfl rfl rfl rfl rfl (Fimpl_within_gives k  a0 (0 : Int) (5 : Int) r1 hr1) rfl ?_
  refine L.assign hF rfl rfl rfl ?_
  refine L.nil ?_
  refine WpC.ret ?_
  cases H
  exact Leaves.ret rfl rfl rfl ⟨rfl, rfl⟩
/-! ### Fimpl_PrincipalKey -/
def Fimpl_PrincipalKey (k : Nat) (a0 : Int) : Option Int := (Fimpl_within k a0 (0 : Int) (2 : Int)).bind fun r3 => cond r3 (some (IntKind.i64.wrap ((1 : Int) + a0))) ((Fimpl_isPrincipal k a0).bind fun r4 => cond r4 (some (IntKind.i64.wrap ((IntKind.i64.wrap ((11 : Int) + a0)) - (3 : Int)))) (some (0 : Int)))
theorem ent181 : MG.Enters Try.prog 181 := ⟨Try.f181, Try.func181, rfl, by decide⟩
set_option maxHeartbeats 8000000 in
set_option maxRecDepth 100000 in
theorem Fimpl_PrincipalKey_gives (k : Nat) (a0 : Int) (r : Int) (H : Fimpl_PrincipalKey k a0 = some r) : Gives Try.prog 181 [V.one (cI a0)] [] [V.one (cI r)] [] := by
  refine Gives.intro Try.func181 rfl rfl rfl rfl ?_
  intro F hF hm
  unfold Fimpl_PrincipalKey at H
  obtain ⟨K, hK⟩ : ∃ K, k ≤ K := ⟨k, Nat.le_refl k⟩
  refine WpC.seq ?_
  refine WpC.regionL ?_
  refine L.assign hF rfl rfl rfl ?_
  refine L.nil ?_
  refine WpC.seq ?_
  refine WpC.block ?_
  refine WpC.seq ?_
  refine WpC.regionL ?_
  refine L.move hF rfl rfl rfl ?_
  obtain ⟨r3, hr3, H⟩ := bindS H
  refine L.call [false, false, false] [] [] 1 hF rfl rfl rfl ent113 rfl rfl rfl rfl rfl (Fimpl_within_gives k  a0 (0 : Int) (2 : Int) r3 hr3) rfl ?_
  refine L.assign hF rfl rfl rfl ?_
  refine L.nil ?_
  refine WpC.cond rfl (fun hc => ?_) (fun hc => ?_)
  · replace H := condT hc H
    refine WpC.seq ?_
    refine WpC.regionL ?_
    refine L.move hF rfl rfl rfl ?_
    refine L.bin hF rfl rfl rfl rfl rfl rfl ?_
    refine L.assign hF rfl rfl rfl ?_
    refine L.nil ?_
    refine WpC.ret ?_
    cases H
    exact Leaves.ret rfl rfl rfl ⟨rfl, rfl⟩
  · replace H := condF hc H
    refine WpC.seq ?_
    refine WpC.regionL ?_
    refine L.move hF rfl rfl rfl ?_
    obtain ⟨r4, hr4, H⟩ := bindS H
    refine L.call [false] [] [] 2 hF rfl rfl rfl ent145 rfl rfl rfl rfl rfl (Fimpl_isPrincipal_gives k  a0 r4 hr4) rfl ?_
    refine L.assign hF rfl rfl rfl ?_
    refine L.nil ?_
    refine WpC.cond rfl (fun hc => ?_) (fun hc => ?_)
    · replace H := condT hc H
      refine WpC.seq ?_
      refine WpC.regionL ?_
      refine L.move hF rfl rfl rfl ?_
      refine L.bin hF rfl rfl rfl rfl rfl rfl ?_
      refine L.bin hF rfl rfl rfl rfl rfl rfl ?_
      refine L.assign hF rfl rfl rfl ?_
      refine L.nil ?_
      refine WpC.ret ?_
      cases H
      exact Leaves.ret rfl rfl rfl ⟨rfl, rfl⟩
    · replace H := condF hc H
      refine WpC.skip ?_
      refine WpC.seq ?_
      refine WpC.regionL ?_
      refine L.assign hF rfl rfl rfl ?_
      refine L.nil ?_
      refine WpC.ret ?_
      cases H
      exact Leaves.ret rfl rfl rfl ⟨rfl, rfl⟩
/-! ### Fimpl_RealmOf -/
def Fimpl_RealmOf.j2 (k : Nat) (v15 : Int) (v16 : Bool) (v17 : List Int) (v18 : List Int) (v19 : List Timpl_Pair) (v20 : List Timpl_Pair) (v21 : Int) : Option Int := cond v16 (some (-1 : Int)) (cond (decide (v15 < (3 : Int))) ((at? v17 v15).bind fun b22 => some b22) ((at? v18 (IntKind.i64.wrap (v15 - (3 : Int)))).bind fun b23 => some b23))
def Fimpl_RealmOf (k : Nat) (a0 : Timpl_Config) (a1 : Int) : Option Int := (Fimpl_ConfigOk k a0).bind fun r24 => cond (!r24) (Fimpl_RealmOf.j2 k a1 true a0.UserRealm a0.ServiceRealm a0.Links a0.Proxy a0.Skew) ((Fimpl_isPrincipal k a1).bind fun r25 => Fimpl_RealmOf.j2 k a1 (!r25) a0.UserRealm a0.ServiceRealm a0.Links a0.Proxy a0.Skew)
theorem ent159 : MG.Enters Try.prog 159 := ⟨Try.f159, Try.func159, rfl, by decide⟩
set_option maxHeartbeats 8000000 in
set_option maxRecDepth 100000 in
theorem Fimpl_RealmOf_gives (k : Nat) (g0 : Bool) (g1 : Bool) (g2 : Bool) (g3 : Bool) (a0 : Timpl_Config) (a1 : Int) (r : Int) (H : Fimpl_RealmOf k a0 a1 = some r) : Gives Try.prog 159 [V.agg [Cell.sl g0 (List.map eI a0.UserRealm), Cell.sl g1 (List.map eI a0.ServiceRealm), Cell.sl g2 (List.map eTimpl_Pair a0.Links), Cell.sl g3 (List.map eTimpl_Pair a0.Proxy), cI a0.Skew], V.one (cI a1)] [] [V.one (cI r)] [] := by
  refine Gives.intro Try.func159 rfl rfl rfl rfl ?_
  intro F hF hm
  unfold Fimpl_RealmOf at H
  obtain ⟨K, hK⟩ : ∃ K, k ≤ K := ⟨k, Nat.le_refl k⟩
  refine WpC.seq ?_
  refine WpC.regionL ?_
  refine L.box 6 hF rfl rfl rfl rfl ?_
  refine L.assign hF rfl rfl rfl ?_
  refine L.nil ?_
  refine WpC.seq ?_
  refine WpC.block ?_
  refine WpC.join (fun σ => ∃ kj2 : Nat, ∃ v15 : Int, ∃ v16 : Bool, ∃ v17 : List Int, ∃ v18 : List Int, ∃ v19 : List Timpl_Pair, ∃ v20 : List Timpl_Pair, ∃ v21 : Int, kj2 ≤ K ∧ Fimpl_RealmOf.j2 kj2 v15 v16 v17 v18 v19 v20 v21 = some r ∧ σ = mkSt [(1, MG.one (cI v15)), (2, MG.one (Cell.ptr 0 0)), (5, MG.one (cL v16))] [] [(0, [Cell.sl g0 (List.map eI v17), Cell.sl g1 (List.map eI v18), Cell.sl g2 (List.map eTimpl_Pair v19), Cell.sl g3 (List.map eTimpl_Pair v20), cI v21])] 1) ?_ ?_
  · rintro _ ⟨kj2, v15, v16, v17, v18, v19, v20, v21, hkj2, H, rfl⟩
    unfold Fimpl_RealmOf.j2 at H
    refine WpC.cond rfl (fun hc => ?_) (fun hc => ?_)
    · replace H := condT hc H
      refine WpC.seq ?_
      refine WpC.regionL ?_
      refine L.assign hF rfl rfl rfl ?_
      refine L.nil ?_
      refine WpC.ret ?_
      cases H
      exact Leaves.ret rfl rfl rfl ⟨rfl, rfl⟩
    · replace H := condF hc H
      refine WpC.seq ?_
      refine WpC.regionL ?_
      refine L.move hF rfl rfl rfl ?_
      refine L.bin hF rfl rfl rfl rfl rfl rfl ?_
      refine L.assign hF rfl rfl rfl ?_
      refine L.nil ?_
      refine WpC.cond rfl (fun hc => ?_) (fun hc => ?_)
      · replace H := condT hc H
        refine WpC.seq ?_
        refine WpC.regionL ?_
        refine L.fieldAddr Try.underlying90 rfl info24 rfl hF rfl rfl rfl rfl rfl ?_
        refine L.loadPtr shape24 hF rfl rfl rfl rfl rfl rfl ?_
        refine L.move hF rfl rfl rfl ?_
        obtain ⟨b22, hb22, H⟩ := bindS H
        refine L.idxR (xs := v17) (e := eI) Try.underlying24 info3 hF rfl rfl rfl rfl rfl hb22 rfl rfl ?_
        refine L.loadPe shape3 hF rfl rfl rfl rfl rfl ?_
        refine L.assign hF rfl rfl rfl ?_
        refine L.nil ?_
        refine WpC.ret ?_
        cases H
        exact Leaves.ret rfl rfl rfl ⟨rfl, rfl⟩
      · replace H := condF hc H
        refine WpC.skip ?_
        refine WpC.seq ?_
        refine WpC.regionL ?_
        refine L.fieldAddr Try.underlying90 rfl info24 rfl hF rfl rfl rfl rfl rfl ?_
        refine L.loadPtr shape24 hF rfl rfl rfl rfl rfl rfl ?_
        refine L.move hF rfl rfl rfl ?_
        refine L.bin hF rfl rfl rfl rfl rfl rfl ?_
        obtain ⟨b23, hb23, H⟩ := bindS H
        refine L.idxR (xs := v18) (e := eI) Try.underlying24 info3 hF rfl rfl rfl rfl rfl hb23 rfl rfl ?_
        refine L.loadPe shape3 hF rfl rfl rfl rfl rfl ?_
        refine L.assign hF rfl rfl rfl ?_
        refine L.nil ?_
        refine WpC.ret ?_
        cases H
        exact Leaves.ret rfl rfl rfl ⟨rfl, rfl⟩
  · refine WpC.regionL ?_
    refine L.loadPtr shape90 hF rfl rfl rfl rfl rfl rfl ?_
    obtain ⟨r24, hr24, H⟩ := bindS H
    refine L.call [false] [] [] 7 hF rfl rfl rfl ent156 rfl rfl rfl rfl rfl (Fimpl_ConfigOk_gives k g0 g1 g2 g3 a0 r24 hr24) rfl ?_
    refine L.not hF rfl rfl rfl ?_
    refine L.move hF rfl rfl rfl ?_
    refine L.split (fun hc => ?_) (fun hc => ?_)
    · replace H := condT hc H
      refine L.off hF rfl rfl ?_
      refine L.off hF rfl rfl ?_
      refine L.off hF rfl rfl ?_
      refine L.pick hF rfl rfl rfl rfl ?_
      refine L.assign hF rfl rfl rfl ?_
      refine L.nil ?_
      exact ⟨_, ⟨k, a1, true, a0.UserRealm, a0.ServiceRealm, a0.Links, a0.Proxy, a0.Skew, by omega, H, rfl⟩, Le.mk [(0, 6)] hm rfl ⟨⟨_, rfl, rfl⟩, ⟨_, rfl, rfl⟩, ⟨_, rfl, rfl⟩, trivial⟩ trivial ⟨⟨_, _, rfl, rfl, rfl⟩, trivial⟩⟩
    · replace H := condF hc H
      refine L.move hF rfl rfl rfl ?_
      obtain ⟨r25, hr25, H⟩ := bindS H
      refine L.call [false] [] [] 8 hF rfl rfl rfl ent145 rfl rfl rfl rfl rfl (Fimpl_isPrincipal_gives k  a1 r25 hr25) rfl ?_
      refine L.not hF rfl rfl rfl ?_
      refine L.pick hF rfl rfl rfl rfl ?_
      refine L.assign hF rfl rfl rfl ?_
      refine L.nil ?_
      exact ⟨_, ⟨k, a1, (!r25), a0.UserRealm, a0.ServiceRealm, a0.Links, a0.Proxy, a0.Skew, by omega, H, rfl⟩, Le.mk [(0, 6)] hm rfl ⟨⟨_, rfl, rfl⟩, ⟨_, rfl, rfl⟩, ⟨_, rfl, rfl⟩, trivial⟩ trivial ⟨⟨_, _, rfl, rfl, rfl⟩, trivial⟩⟩
/-! ### Fslices_DeleteFunc_int__impl_Concerns_1 (shelf) -/
theorem ent182 : MG.Enters Try.prog 182 := ⟨Try.f182, Try.func182, rfl, by decide⟩
/-! ### Fimpl_CentreKey -/
def Fimpl_CentreKey (k : Nat) (a0 : Int) : Option Int := (Fimpl_isRealm k a0).bind fun r2 => cond (!r2) (some (0 : Int)) (some (IntKind.i64.wrap ((21 : Int) + a0)))
theorem ent185 : MG.Enters Try.prog 185 := ⟨Try.f185, Try.func185, rfl, by decide⟩
set_option maxHeartbeats 8000000 in
set_option maxRecDepth 100000 in
theorem Fimpl_CentreKey_gives (k : Nat) (a0 : Int) (r : Int) (H : Fimpl_CentreKey k a0 = some r) : Gives Try.prog 185 [V.one (cI a0)] [] [V.one (cI r)] [] := by
  refine Gives.intro Try.func185 rfl rfl rfl rfl ?_
  intro F hF hm
  unfold Fimpl_CentreKey at H
  obtain ⟨K, hK⟩ : ∃ K, k ≤ K := ⟨k, Nat.le_refl k⟩
  refine WpC.seq ?_
  refine WpC.regionL ?_
  refine L.assign hF rfl rfl rfl ?_
  refine L.nil ?_
  refine WpC.seq ?_
  refine WpC.seq ?_
  refine WpC.regionL ?_
  refine L.move hF rfl rfl rfl ?_
  obtain ⟨r2, hr2, H⟩ := bindS H
  refine L.call [false] [] [] 1 hF rfl rfl rfl ent184 rfl rfl rfl rfl rfl (Fimpl_isRealm_gives k  a0 r2 hr2) rfl ?_
  refine L.not hF rfl rfl rfl ?_
  refine L.nil ?_
  refine WpC.cond rfl (fun hc => ?_) (fun hc => ?_)
  · replace H := condT hc H
    refine WpC.seq ?_
    refine WpC.regionL ?_
    refine L.assign hF rfl rfl rfl ?_
    refine L.nil ?_
    refine WpC.ret ?_
    cases H
    exact Leaves.ret rfl rfl rfl ⟨rfl, rfl⟩
  · replace H := condF hc H
    refine WpC.skip ?_
    refine WpC.seq ?_
    refine WpC.regionL ?_
    refine L.move hF rfl rfl rfl ?_
    refine L.bin hF rfl rfl rfl rfl rfl rfl ?_
    refine L.assign hF rfl rfl rfl ?_
    refine L.nil ?_
    refine WpC.ret ?_
    cases H
    exact Leaves.ret rfl rfl rfl ⟨rfl, rfl⟩
/-! ### Fimpl_LinkKey -/
def Fimpl_LinkKey (k : Nat) (a0 : Int) (a1 : Int) : Option Int := (Fimpl_isRealm k a0).bind fun r7 => cond (!r7) (some (0 : Int)) ((Fimpl_isRealm k a1).bind fun r8 => cond (!r8) (some (0 : Int)) (some (IntKind.i64.wrap ((IntKind.i64.wrap ((31 : Int) + (IntKind.i64.wrap ((3 : Int) * a0)))) + a1))))
theorem ent186 : MG.Enters Try.prog 186 := ⟨Try.f186, Try.func186, rfl, by decide⟩
set_option maxHeartbeats 8000000 in
set_option maxRecDepth 100000 in
theorem Fimpl_LinkKey_gives (k : Nat) (a0 : Int) (a1 : Int) (r : Int) (H : Fimpl_LinkKey k a0 a1 = some r) : Gives Try.prog 186 [V.one (cI a0), V.one (cI a1)] [] [V.one (cI r)] [] := by
  refine Gives.intro Try.func186 rfl rfl rfl rfl ?_
  intro F hF hm
  unfold Fimpl_LinkKey at H
  obtain ⟨K, hK⟩ : ∃ K, k ≤ K := ⟨k, Nat.le_refl k⟩
  refine WpC.seq ?_
  refine WpC.regionL ?_
  refine L.assign hF rfl rfl rfl ?_
  refine L.nil ?_
  refine WpC.seq ?_
  refine WpC.seq ?_
  refine WpC.regionL ?_
  refine L.move hF rfl rfl rfl ?_
  obtain ⟨r7, hr7, H⟩ := bindS H
  refine L.call [false] [] [] 2 hF rfl rfl rfl ent184 rfl rfl rfl rfl rfl (Fimpl_isRealm_gives k  a0 r7 hr7) rfl ?_
  refine L.not hF rfl rfl rfl ?_
  refine L.move hF rfl rfl rfl ?_
  refine L.split (fun hc => ?_) (fun hc => ?_)
  · replace H := condT hc H
    refine L.off hF rfl rfl ?_
    refine L.off hF rfl rfl ?_
    refine L.off hF rfl rfl ?_
    refine L.pick hF rfl rfl rfl rfl ?_
    refine L.nil ?_
    refine WpC.cond rfl (fun _ => ?_) (fun hc => by cases hc)
    refine WpC.seq ?_
    refine WpC.regionL ?_
    refine L.assign hF rfl rfl rfl ?_
    refine L.nil ?_
    refine WpC.ret ?_
    cases H
    exact Leaves.ret rfl rfl rfl ⟨rfl, rfl⟩
  · replace H := condF hc H
    refine L.move hF rfl rfl rfl ?_
    obtain ⟨r8, hr8, H⟩ := bindS H
    refine L.call [false] [] [] 3 hF rfl rfl rfl ent184 rfl rfl rfl rfl rfl (Fimpl_isRealm_gives k  a1 r8 hr8) rfl ?_
    refine L.not hF rfl rfl rfl ?_
    refine L.pick hF rfl rfl rfl rfl ?_
    refine L.nil ?_
    refine WpC.cond rfl (fun hc => ?_) (fun hc => ?_)
    · replace H := condT hc H
      refine WpC.seq ?_
      refine WpC.regionL ?_
      refine L.assign hF rfl rfl rfl ?_
      refine L.nil ?_
      refine WpC.ret ?_
      cases H
      exact Leaves.ret rfl rfl rfl ⟨rfl, rfl⟩
    · replace H := condF hc H
      refine WpC.skip ?_
      refine WpC.seq ?_
      refine WpC.regionL ?_
      refine L.move hF rfl rfl rfl ?_
      refine L.bin hF rfl rfl rfl rfl rfl rfl ?_
      refine L.bin hF rfl rfl rfl rfl rfl rfl ?_
      refine L.move hF rfl rfl rfl ?_
      refine L.bin hF rfl rfl rfl rfl rfl rfl ?_
      refine L.assign hF rfl rfl rfl ?_
      refine L.nil ?_
      refine WpC.ret ?_
      cases H
      exact Leaves.ret rfl rfl rfl ⟨rfl, rfl⟩
/-! ### Fslices_Sort_int (shelf) -/
theorem ent261 : MG.Enters Try.prog 261 := ⟨Try.f261, Try.func261, rfl, by decide⟩
/-! ### Fslices_Compact_int (shelf) -/
theorem ent262 : MG.Enters Try.prog 262 := ⟨Try.f262, Try.func262, rfl, by decide⟩
/-! ### Fimpl_risen -/
def Fimpl_risen (k : Nat) (a0 : List Int) : Option (List Int) := (Fslices_Sort_int k a0).bind fun r1 => (Fslices_Compact_int k r1).bind fun r2 => some r2
theorem ent187 : MG.Enters Try.prog 187 := ⟨Try.f187, Try.func187, rfl, by decide⟩
set_option maxHeartbeats 8000000 in
set_option maxRecDepth 100000 in
theorem Fimpl_risen_gives (k : Nat) (a0 : List Int) (r : List Int) (H : Fimpl_risen k a0 = some r) : Gives Try.prog 187 [V.one (Cell.ow 1 (List.map eI a0))] [] [V.one (Cell.ow 1 (List.map eI r))] [] := by
  refine Gives.intro Try.func187 rfl rfl rfl rfl ?_
  intro F hF hm
  unfold Fimpl_risen at H
  obtain ⟨K, hK⟩ : ∃ K, k ≤ K := ⟨k, Nat.le_refl k⟩
  refine WpC.seq ?_
  refine WpC.regionL ?_
  refine L.assign hF rfl rfl rfl ?_
  refine L.nil ?_
  refine WpC.seq ?_
  refine WpC.regionL ?_
  refine L.move hF rfl rfl rfl ?_
  obtain ⟨r1, hr1, H⟩ := bindS H
  refine L.callB [true] [] [] 1 [0] hF rfl rfl rfl ent261 rfl rfl rfl rfl rfl (Fslices_Sort_int_gives k  a0 r1 hr1) rfl rfl rfl ?_
  refine L.nil ?_
  refine WpC.seq ?_
  refine WpC.regionL ?_
  refine L.move hF rfl rfl rfl ?_
  obtain ⟨r2, hr2, H⟩ := bindS H
  refine L.call [true] [] [] 1 hF rfl rfl rfl ent262 rfl rfl rfl rfl rfl (Fslices_Compact_int_gives k  r1 r2 hr2) rfl ?_
  refine L.assign hF rfl rfl rfl ?_
  refine L.nil ?_
  refine WpC.ret ?_
  cases H
  exact Leaves.ret rfl rfl rfl ⟨rfl, rfl⟩
end Go.Proofs.Ytcolcmjcjpikcaa.M
