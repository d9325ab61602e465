import Derived.Test.YtcolcmjcjpikcaaFFlowx1
import Derived.Test.YtcolcmjcjpikcaaProg
namespace Go.Proofs.Ytcolcmjcjpikcaa.M
open Go Go.MG
set_option linter.unusedVariables false
set_option linter.unusedSimpArgs false
/-! ### Flaws_eqIntS -/
def Flaws_eqIntS.l2 : Nat → (List Int) → (List Int) → Int → Option Bool
  | 0, _, _, _ => none
  | k2 + 1, v34, v35, v36 => cond (decide (v36 < (v34.length : Int))) ((at? v34 v36).bind fun b39 => (at? v35 v36).bind fun b40 => cond (b39 != b40) (some false) ((Flaws_eqIntS.l2 k2) v34 v35 (IntKind.i64.wrap (v36 + (1 : Int))))) (some true)
def Flaws_eqIntS (k : Nat) (a0 : List Int) (a1 : List Int) : Option Bool := cond ((a0.length : Int) != (a1.length : Int)) (some false) (Flaws_eqIntS.l2 k a0 a1 (0 : Int))
theorem ent26 : Enters Try.prog 26 := ⟨Try.f26, Try.func26, rfl, by decide⟩
set_option maxHeartbeats 8000000 in
set_option maxRecDepth 100000 in
theorem Flaws_eqIntS_gives (k : Nat) (g0 : Bool) (g1 : Bool) (a0 : List Int) (a1 : List Int) (r : Bool) (H : Flaws_eqIntS k a0 a1 = some r) : Gives Try.prog 26 [V.one (Cell.sl g0 (List.map eI a0)), V.one (Cell.sl g1 (List.map eI a1))] [] [V.one (cL r)] [] := by
  refine Gives.intro Try.func26 rfl rfl rfl rfl ?_
  intro F hF hm
  unfold Flaws_eqIntS at H
  obtain ⟨K, hK⟩ : ∃ K, k ≤ K := ⟨k, Nat.le_refl k⟩
  refine WpC.seq ?_
  refine WpC.regionL ?_
  refine L.assign hF rfl rfl rfl ?_
  refine L.nil ?_
  refine WpC.seq ?_
  refine WpC.seq ?_
  refine WpC.regionL ?_
  refine L.move hF rfl rfl rfl ?_
  refine L.lenR (xs := a0) (e := eI) Try.underlying24 hF rfl rfl rfl rfl ?_
  refine L.move hF rfl rfl rfl ?_
  refine L.lenR (xs := a1) (e := eI) Try.underlying24 hF rfl rfl rfl rfl ?_
  refine L.bin hF rfl rfl rfl rfl rfl rfl ?_
  refine L.nil ?_
  refine WpC.cond rfl (fun hc => ?_) (fun hc => ?_)
  · replace H := condT hc H
    refine WpC.seq ?_
    refine WpC.regionL ?_
    refine L.assign hF rfl rfl rfl ?_
    refine L.nil ?_
    refine WpC.ret ?_
    cases H
    exact Leaves.ret rfl rfl rfl ⟨rfl, rfl⟩
  · replace H := condF hc H
    refine WpC.skip ?_
    refine WpC.seq ?_
    refine WpC.seq ?_
    refine WpC.regionL ?_
    refine L.assign hF rfl rfl rfl ?_
    refine L.nil ?_
    refine WpC.block ?_
    refine WpC.loopL (P := Try.prog) (fun n σ => ∃ v34 : List Int, ∃ v35 : List Int, ∃ v36 : Int, n ≤ K ∧ Flaws_eqIntS.l2 n v34 v35 v36 = some r ∧ σ = mkSt [(0, one (Cell.sl g0 (List.map eI v34))), (1, one (Cell.sl g1 (List.map eI v35))), (5, one (cI v36))] [] [] 0) k ⟨_, ⟨a0, a1, (0 : Int), by omega, H, rfl⟩, Le.mk [] hm rfl ⟨⟨_, rfl, rfl⟩, ⟨_, rfl, rfl⟩, ⟨_, rfl, rfl⟩, trivial⟩ trivial trivial⟩ ?_
    clear H
    rintro k2 _ ⟨v34, v35, v36, hk2, H, rfl⟩
    cases k2 with
    | zero => cases H
    | succ k2 =>
      rw [Flaws_eqIntS.l2] at H
      refine WpC.seq ?_
      refine WpC.seq ?_
      refine WpC.regionL ?_
      refine L.move hF rfl rfl rfl ?_
      refine L.move hF rfl rfl rfl ?_
      refine L.lenR (xs := v34) (e := eI) Try.underlying24 hF rfl rfl rfl rfl ?_
      refine L.bin hF rfl rfl rfl rfl rfl rfl ?_
      refine L.nil ?_
      refine WpC.cond rfl (fun hc => ?_) (fun hc => ?_)
      · replace H := condT hc H
        refine WpC.skip ?_
        refine WpC.seq ?_
        refine WpC.block ?_
        refine WpC.seq ?_
        refine S.begin mixed (by kernel_rfl) ?_
        refine S.st 0 rfl rfl ((Ca.move).quiet) (fun Q0 k0 => L.move hF rfl rfl rfl (L.nil k0)) ?_
        refine S.st 1 rfl rfl ((Ca.move).quiet) (fun Q0 k0 => L.move hF rfl rfl rfl (L.nil k0)) ?_
        obtain ⟨b39, hb39, H⟩ := bindS H
        refine S.st 2 rfl rfl ((Ca.indexAddr).quiet) (fun Q0 k0 => L.idxR (xs := v34) (e := eI) Try.underlying24 info3 hF rfl rfl rfl rfl rfl hb39 rfl rfl (L.nil k0)) ?_
        refine S.st 3 rfl rfl (Qu.load) (fun Q0 k0 => L.loadPe shape3 hF rfl rfl rfl rfl rfl (L.nil k0)) ?_
        refine S.st 4 rfl rfl ((Ca.move).quiet) (fun Q0 k0 => L.move hF rfl rfl rfl (L.nil k0)) ?_
        refine S.st 5 rfl rfl ((Ca.move).quiet) (fun Q0 k0 => L.move hF rfl rfl rfl (L.nil k0)) ?_
        obtain ⟨b40, hb40, H⟩ := bindS H
        refine S.st 6 rfl rfl ((Ca.indexAddr).quiet) (fun Q0 k0 => L.idxR (xs := v35) (e := eI) Try.underlying24 info3 hF rfl rfl rfl rfl rfl hb40 rfl rfl (L.nil k0)) ?_
        refine S.st 7 rfl rfl (Qu.load) (fun Q0 k0 => L.loadPe shape3 hF rfl rfl rfl rfl rfl (L.nil k0)) ?_
        refine S.st 8 rfl rfl ((Ca.bin rfl rfl (calm_int _ _ _ _ _ _ _ _)).quiet) (fun Q0 k0 => L.bin hF rfl rfl rfl rfl rfl rfl (L.nil k0)) ?_
        refine S.nil ?_
        refine WpC.cond rfl (fun hc => ?_) (fun hc => ?_)
        · replace H := condT hc H
          refine WpC.seq ?_
          refine WpC.regionL ?_
          refine L.assign hF rfl rfl rfl ?_
          refine L.nil ?_
          refine WpC.ret ?_
          cases H
          exact Leaves.ret rfl rfl rfl ⟨rfl, rfl⟩
        · replace H := condF hc H
          refine WpC.skip ?_
          refine WpC.regionL ?_
          refine L.move hF rfl rfl rfl ?_
          refine L.bin hF rfl rfl rfl rfl rfl rfl ?_
          refine L.assign hF rfl rfl rfl ?_
          refine L.nil ?_
          exact ⟨k2, _, by omega, ⟨v34, v35, (IntKind.i64.wrap (v36 + (1 : Int))), by omega, H, rfl⟩, Le.mk [] hm rfl ⟨⟨_, rfl, rfl⟩, ⟨_, rfl, rfl⟩, ⟨_, rfl, rfl⟩, trivial⟩ trivial trivial⟩
      · replace H := condF hc H
        refine WpC.exit ?_
        refine WpC.seq ?_
        refine WpC.regionL ?_
        refine L.assign hF rfl rfl rfl ?_
        refine L.nil ?_
        refine WpC.ret ?_
        cases H
        exact Leaves.ret rfl rfl rfl ⟨rfl, rfl⟩
/-! ### Flaws_eqPair -/
def Flaws_eqPair (k : Nat) (a0 : Timpl_Pair) (a1 : Timpl_Pair) : Option Bool := cond (a0.A != a1.A) (some false) (cond (a0.B != a1.B) (some false) (some true))
theorem ent253 : Enters Try.prog 253 := ⟨Try.f253, Try.func253, rfl, by decide⟩
set_option maxHeartbeats 8000000 in
set_option maxRecDepth 100000 in
theorem Flaws_eqPair_gives (k : Nat) (a0 : Timpl_Pair) (a1 : Timpl_Pair) (r : Bool) (H : Flaws_eqPair k a0 a1 = some r) : Gives Try.prog 253 [V.agg [cI a0.A, cI a0.B], V.agg [cI a1.A, cI a1.B]] [] [V.one (cL r)] [] := by
  refine Gives.intro Try.func253 rfl rfl rfl rfl ?_
  intro F hF hm
  unfold Flaws_eqPair at H
  obtain ⟨K, hK⟩ : ∃ K, k ≤ K := ⟨k, Nat.le_refl k⟩
  refine WpC.seq ?_
  refine WpC.regionL ?_
  refine L.box 4 hF rfl rfl rfl rfl ?_
  refine L.box 5 hF rfl rfl rfl rfl ?_
  refine L.assign hF rfl rfl rfl ?_
  refine L.nil ?_
  refine WpC.seq ?_
  refine WpC.seq ?_
  refine WpC.regionL ?_
  refine L.fieldAddr Try.underlying256 rfl info3 rfl hF rfl rfl rfl rfl rfl ?_
  refine L.loadPtr shape3 hF rfl rfl rfl rfl rfl rfl ?_
  refine L.fieldAddr Try.underlying256 rfl info3 rfl hF rfl rfl rfl rfl rfl ?_
  refine L.loadPtr shape3 hF rfl rfl rfl rfl rfl rfl ?_
  refine L.bin hF rfl rfl rfl rfl rfl rfl ?_
  refine L.nil ?_
  refine WpC.cond rfl (fun hc => ?_) (fun hc => ?_)
  · replace H := condT hc H
    refine WpC.seq ?_
    refine WpC.regionL ?_
    refine L.assign hF rfl rfl rfl ?_
    refine L.nil ?_
    refine WpC.ret ?_
    cases H
    exact Leaves.ret rfl rfl rfl ⟨rfl, rfl⟩
  · replace H := condF hc H
    refine WpC.skip ?_
    refine WpC.seq ?_
    refine WpC.seq ?_
    refine WpC.regionL ?_
    refine L.fieldAddr Try.underlying256 rfl info3 rfl hF rfl rfl rfl rfl rfl ?_
    refine L.loadPtr shape3 hF rfl rfl rfl rfl rfl rfl ?_
    refine L.fieldAddr Try.underlying256 rfl info3 rfl hF rfl rfl rfl rfl rfl ?_
    refine L.loadPtr shape3 hF rfl rfl rfl rfl rfl rfl ?_
    refine L.bin hF rfl rfl rfl rfl rfl rfl ?_
    refine L.nil ?_
    refine WpC.cond rfl (fun hc => ?_) (fun hc => ?_)
    · replace H := condT hc H
      refine WpC.seq ?_
      refine WpC.regionL ?_
      refine L.assign hF rfl rfl rfl ?_
      refine L.nil ?_
      refine WpC.ret ?_
      cases H
      exact Leaves.ret rfl rfl rfl ⟨rfl, rfl⟩
    · replace H := condF hc H
      refine WpC.skip ?_
      refine WpC.seq ?_
      refine WpC.regionL ?_
      refine L.assign hF rfl rfl rfl ?_
      refine L.nil ?_
      refine WpC.ret ?_
      cases H
      exact Leaves.ret rfl rfl rfl ⟨rfl, rfl⟩
/-! ### Flaws_eqPairS -/
def Flaws_eqPairS.l2 : Nat → (List Timpl_Pair) → (List Timpl_Pair) → Int → Option Bool
  | 0, _, _, _ => none
  | k2 + 1, v44, v45, v46 => cond (decide (v46 < (v44.length : Int))) ((at? v44 v46).bind fun b50 => (at? v45 v46).bind fun b51 => (Flaws_eqPair k2 b50 b51).bind fun r52 => cond (!r52) (some false) ((Flaws_eqPairS.l2 k2) v44 v45 (IntKind.i64.wrap (v46 + (1 : Int))))) (some true)
def Flaws_eqPairS (k : Nat) (a0 : List Timpl_Pair) (a1 : List Timpl_Pair) : Option Bool := cond ((a0.length : Int) != (a1.length : Int)) (some false) (Flaws_eqPairS.l2 k a0 a1 (0 : Int))
theorem ent162 : Enters Try.prog 162 := ⟨Try.f162, Try.func162, rfl, by decide⟩
set_option maxHeartbeats 8000000 in
set_option maxRecDepth 100000 in
theorem Flaws_eqPairS_gives (k : Nat) (g0 : Bool) (g1 : Bool) (a0 : List Timpl_Pair) (a1 : List Timpl_Pair) (r : Bool) (H : Flaws_eqPairS k a0 a1 = some r) : Gives Try.prog 162 [V.one (Cell.sl g0 (List.map eTimpl_Pair a0)), V.one (Cell.sl g1 (List.map eTimpl_Pair a1))] [] [V.one (cL r)] [] := by
  refine Gives.intro Try.func162 rfl rfl rfl rfl ?_
  intro F hF hm
  unfold Flaws_eqPairS at H
  obtain ⟨K, hK⟩ : ∃ K, k ≤ K := ⟨k, Nat.le_refl k⟩
  refine WpC.seq ?_
  refine WpC.regionL ?_
  refine L.assign hF rfl rfl rfl ?_
  refine L.nil ?_
  refine WpC.seq ?_
  refine WpC.seq ?_
  refine WpC.regionL ?_
  refine L.move hF rfl rfl rfl ?_
  refine L.lenR (xs := a0) (e := eTimpl_Pair) Try.underlying88 hF rfl rfl rfl rfl ?_
  refine L.move hF rfl rfl rfl ?_
  refine L.lenR (xs := a1) (e := eTimpl_Pair) Try.underlying88 hF rfl rfl rfl rfl ?_
  refine L.bin hF rfl rfl rfl rfl rfl rfl ?_
  refine L.nil ?_
  refine WpC.cond rfl (fun hc => ?_) (fun hc => ?_)
  · replace H := condT hc H
    refine WpC.seq ?_
    refine WpC.regionL ?_
    refine L.assign hF rfl rfl rfl ?_
    refine L.nil ?_
    refine WpC.ret ?_
    cases H
    exact Leaves.ret rfl rfl rfl ⟨rfl, rfl⟩
  · replace H := condF hc H
    refine WpC.skip ?_
    refine WpC.seq ?_
    refine WpC.seq ?_
    refine WpC.regionL ?_
    refine L.assign hF rfl rfl rfl ?_
    refine L.nil ?_
    refine WpC.block ?_
    refine WpC.loopL (P := Try.prog) (fun n σ => ∃ v44 : List Timpl_Pair, ∃ v45 : List Timpl_Pair, ∃ v46 : Int, n ≤ K ∧ Flaws_eqPairS.l2 n v44 v45 v46 = some r ∧ σ = mkSt [(0, one (Cell.sl g0 (List.map eTimpl_Pair v44))), (1, one (Cell.sl g1 (List.map eTimpl_Pair v45))), (5, one (cI v46))] [] [] 0) k ⟨_, ⟨a0, a1, (0 : Int), by omega, H, rfl⟩, Le.mk [] hm rfl ⟨⟨_, rfl, rfl⟩, ⟨_, rfl, rfl⟩, ⟨_, rfl, rfl⟩, trivial⟩ trivial trivial⟩ ?_
    clear H
    rintro k2 _ ⟨v44, v45, v46, hk2, H, rfl⟩
    cases k2 with
    | zero => cases H
    | succ k2 =>
      rw [Flaws_eqPairS.l2] at H
      refine WpC.seq ?_
      refine WpC.seq ?_
      refine WpC.regionL ?_
      refine L.move hF rfl rfl rfl ?_
      refine L.move hF rfl rfl rfl ?_
      refine L.lenR (xs := v44) (e := eTimpl_Pair) Try.underlying88 hF rfl rfl rfl rfl ?_
      refine L.bin hF rfl rfl rfl rfl rfl rfl ?_
      refine L.nil ?_
      refine WpC.cond rfl (fun hc => ?_) (fun hc => ?_)
      · replace H := condT hc H
        refine WpC.skip ?_
        refine WpC.seq ?_
        refine WpC.block ?_
        refine WpC.seq ?_
        obtain ⟨b50, hb50, H⟩ := bindS H
        obtain ⟨b51, hb51, H⟩ := bindS H
        obtain ⟨r52, hr52, H⟩ := bindS H
        refine A.begin mixed rfl rfl ?_
        intro W hI hO
        have n255 : W 2 #[true, true, true, true, true, true, true, true, false, false] (mkSt [(0, one (Cell.sl g0 (List.map eTimpl_Pair v44))), (1, one (Cell.sl g1 (List.map eTimpl_Pair v45))), (5, one (cI v46)), (20, agg [cI b50.A, cI b50.B]), (24, agg [cI b51.A, cI b51.B])] [] [] 0) := by
          refine hI _ _ _ ?_
          refine A.all [8] (by kernel_rfl) rfl ⟨⟨_, rfl, ?_⟩, trivial⟩
          refine L.call [false, false] [] [] 0 hF rfl rfl rfl ent253 rfl rfl rfl rfl rfl (Flaws_eqPair_gives k2  b50 b51 r52 hr52) rfl ?_
          refine L.nil ?_
          refine A.take 9 rfl (by kernel_rfl) (by kernel_rfl) (by kernel_rfl) rfl (Ca.un rfl rfl) (fun Q0 k0 => L.not hF rfl rfl rfl (L.nil k0)) ?_
          refine A.le (τ := mkSt [(0, one (Cell.sl g0 (List.map eTimpl_Pair v44))), (1, one (Cell.sl g1 (List.map eTimpl_Pair v45))), (5, one (cI v46)), (26, one (cL (!r52)))] [] [] 0) (Le.mk [] hm rfl ⟨⟨_, rfl, rfl⟩, ⟨_, rfl, rfl⟩, ⟨_, rfl, rfl⟩, ⟨_, rfl, rfl⟩, trivial⟩ trivial trivial) ?_
          refine A.done (by kernel_rfl) ?_
          refine WpC.cond rfl (fun hc => ?_) (fun hc => ?_)
          · replace H := condT hc H
            refine WpC.seq ?_
            refine WpC.regionL ?_
            refine L.assign hF rfl rfl rfl ?_
            refine L.nil ?_
            refine WpC.ret ?_
            cases H
            exact Leaves.ret rfl rfl rfl ⟨rfl, rfl⟩
          · replace H := condF hc H
            refine WpC.skip ?_
            refine WpC.regionL ?_
            refine L.move hF rfl rfl rfl ?_
            refine L.bin hF rfl rfl rfl rfl rfl rfl ?_
            refine L.assign hF rfl rfl rfl ?_
            refine L.nil ?_
            exact ⟨k2, _, by omega, ⟨v44, v45, (IntKind.i64.wrap (v46 + (1 : Int))), by omega, H, rfl⟩, Le.mk [] hm rfl ⟨⟨_, rfl, rfl⟩, ⟨_, rfl, rfl⟩, ⟨_, rfl, rfl⟩, trivial⟩ trivial trivial⟩
        refine hI _ _ _ ?_
        refine A.take 0 rfl (by kernel_rfl) (by kernel_rfl) (by kernel_rfl) rfl (Ca.move) (fun Q0 k0 => L.move hF rfl rfl rfl (L.nil k0)) ?_
        refine A.take 1 rfl (by kernel_rfl) (by kernel_rfl) (by kernel_rfl) rfl (Ca.move) (fun Q0 k0 => L.move hF rfl rfl rfl (L.nil k0)) ?_
        refine A.take 2 rfl (by kernel_rfl) (by kernel_rfl) (by kernel_rfl) rfl (Ca.indexAddr) (fun Q0 k0 => L.idxR (xs := v44) (e := eTimpl_Pair) Try.underlying88 info256 hF rfl rfl rfl rfl rfl hb50 rfl rfl (L.nil k0)) ?_
        refine A.take 4 rfl (by kernel_rfl) (by kernel_rfl) (by kernel_rfl) rfl (Ca.move) (fun Q0 k0 => L.move hF rfl rfl rfl (L.nil k0)) ?_
        refine A.take 5 rfl (by kernel_rfl) (by kernel_rfl) (by kernel_rfl) rfl (Ca.move) (fun Q0 k0 => L.move hF rfl rfl rfl (L.nil k0)) ?_
        refine A.take 6 rfl (by kernel_rfl) (by kernel_rfl) (by kernel_rfl) rfl (Ca.indexAddr) (fun Q0 k0 => L.idxR (xs := v45) (e := eTimpl_Pair) Try.underlying88 info256 hF rfl rfl rfl rfl rfl hb51 rfl rfl (L.nil k0)) ?_
        refine A.all [3, 7] (by kernel_rfl) rfl ⟨⟨_, rfl, ?_⟩, ⟨_, rfl, ?_⟩, trivial⟩
        · refine L.loadPe shape256 hF rfl rfl rfl rfl rfl ?_
          refine L.nil ?_
          refine A.all [7] (by kernel_rfl) rfl ⟨⟨_, rfl, ?_⟩, trivial⟩
          refine L.loadPe shape256 hF rfl rfl rfl rfl rfl ?_
          refine L.nil ?_
          exact A.on (hO _ _ _ n255) (Le.mk [] hm rfl ⟨⟨_, rfl, rfl⟩, ⟨_, rfl, rfl⟩, ⟨_, rfl, rfl⟩, ⟨_, rfl, rfl⟩, ⟨_, rfl, rfl⟩, trivial⟩ trivial trivial)
        · refine L.loadPe shape256 hF rfl rfl rfl rfl rfl ?_
          refine L.nil ?_
          refine A.all [3] (by kernel_rfl) rfl ⟨⟨_, rfl, ?_⟩, trivial⟩
          refine L.loadPe shape256 hF rfl rfl rfl rfl rfl ?_
          refine L.nil ?_
          exact A.on (hO _ _ _ n255) (Le.mk [] hm rfl ⟨⟨_, rfl, rfl⟩, ⟨_, rfl, rfl⟩, ⟨_, rfl, rfl⟩, ⟨_, rfl, rfl⟩, ⟨_, rfl, rfl⟩, trivial⟩ trivial trivial)
      · replace H := condF hc H
        refine WpC.exit ?_
        refine WpC.seq ?_
        refine WpC.regionL ?_
        refine L.assign hF rfl rfl rfl ?_
        refine L.nil ?_
        refine WpC.ret ?_
        cases H
        exact Leaves.ret rfl rfl rfl ⟨rfl, rfl⟩
/-! ### Flaws_eqConfig -/
def Flaws_eqConfig (k : Nat) (a0 : Timpl_Config) (a1 : Timpl_Config) : Option Bool := (Flaws_eqIntS k a0.UserRealm a1.UserRealm).bind fun r2 => cond (!r2) (some false) ((Flaws_eqIntS k a0.ServiceRealm a1.ServiceRealm).bind fun r4 => cond (!r4) (some false) ((Flaws_eqPairS k a0.Links a1.Links).bind fun r6 => cond (!r6) (some false) ((Flaws_eqPairS k a0.Proxy a1.Proxy).bind fun r8 => cond (!r8) (some false) (cond (a0.Skew != a1.Skew) (some false) (some true)))))
theorem ent75 : Enters Try.prog 75 := ⟨Try.f75, Try.func75, rfl, by decide⟩
set_option maxHeartbeats 8000000 in
set_option maxRecDepth 100000 in
theorem Flaws_eqConfig_gives (k : Nat) (g0 : Bool) (g1 : Bool) (g2 : Bool) (g3 : Bool) (g4 : Bool) (g5 : Bool) (g6 : Bool) (g7 : Bool) (a0 : Timpl_Config) (a1 : Timpl_Config) (r : Bool) (H : Flaws_eqConfig k a0 a1 = some r) : Gives Try.prog 75 [V.agg [Cell.sl g0 (List.map eI a0.UserRealm), Cell.sl g1 (List.map eI a0.ServiceRealm), Cell.sl g2 (List.map eTimpl_Pair a0.Links), Cell.sl g3 (List.map eTimpl_Pair a0.Proxy), cI a0.Skew], V.agg [Cell.sl g4 (List.map eI a1.UserRealm), Cell.sl g5 (List.map eI a1.ServiceRealm), Cell.sl g6 (List.map eTimpl_Pair a1.Links), Cell.sl g7 (List.map eTimpl_Pair a1.Proxy), cI a1.Skew]] [] [V.one (cL r)] [] := by
  refine Gives.intro Try.func75 rfl rfl rfl rfl ?_
  intro F hF hm
  unfold Flaws_eqConfig at H
  obtain ⟨K, hK⟩ : ∃ K, k ≤ K := ⟨k, Nat.le_refl k⟩
  refine WpC.seq ?_
  refine WpC.regionL ?_
  refine L.box 10 hF rfl rfl rfl rfl ?_
  refine L.box 11 hF rfl rfl rfl rfl ?_
  refine L.assign hF rfl rfl rfl ?_
  refine L.nil ?_
  refine WpC.seq ?_
  refine WpC.seq ?_
  refine WpC.regionL ?_
  refine L.fieldAddr Try.underlying90 rfl info24 rfl hF rfl rfl rfl rfl rfl ?_
  refine L.loadPtr shape24 hF rfl rfl rfl rfl rfl rfl ?_
  refine L.fieldAddr Try.underlying90 rfl info24 rfl hF rfl rfl rfl rfl rfl ?_
  refine L.loadPtr shape24 hF rfl rfl rfl rfl rfl rfl ?_
  obtain ⟨r2, hr2, H⟩ := bindS H
  refine L.call [false, false] [] [] 12 hF rfl rfl rfl ent26 rfl rfl rfl rfl rfl (Flaws_eqIntS_gives k g0 g4 a0.UserRealm a1.UserRealm r2 hr2) rfl ?_
  refine L.not hF rfl rfl rfl ?_
  refine L.nil ?_
  refine WpC.cond rfl (fun hc => ?_) (fun hc => ?_)
  · replace H := condT hc H
    refine WpC.seq ?_
    refine WpC.regionL ?_
    refine L.assign hF rfl rfl rfl ?_
    refine L.nil ?_
    refine WpC.ret ?_
    cases H
    exact Leaves.ret rfl rfl rfl ⟨rfl, rfl⟩
  · replace H := condF hc H
    refine WpC.skip ?_
    refine WpC.seq ?_
    refine WpC.seq ?_
    refine WpC.regionL ?_
    refine L.fieldAddr Try.underlying90 rfl info24 rfl hF rfl rfl rfl rfl rfl ?_
    refine L.loadPtr shape24 hF rfl rfl rfl rfl rfl rfl ?_
    refine L.fieldAddr Try.underlying90 rfl info24 rfl hF rfl rfl rfl rfl rfl ?_
    refine L.loadPtr shape24 hF rfl rfl rfl rfl rfl rfl ?_
    obtain ⟨r4, hr4, H⟩ := bindS H
    refine L.call [false, false] [] [] 13 hF rfl rfl rfl ent26 rfl rfl rfl rfl rfl (Flaws_eqIntS_gives k g1 g5 a0.ServiceRealm a1.ServiceRealm r4 hr4) rfl ?_
    refine L.not hF rfl rfl rfl ?_
    refine L.nil ?_
    refine WpC.cond rfl (fun hc => ?_) (fun hc => ?_)
    · replace H := condT hc H
      refine WpC.seq ?_
      refine WpC.regionL ?_
      refine L.assign hF rfl rfl rfl ?_
      refine L.nil ?_
      refine WpC.ret ?_
      cases H
      exact Leaves.ret rfl rfl rfl ⟨rfl, rfl⟩
    · replace H := condF hc H
      refine WpC.skip ?_
      refine WpC.seq ?_
      refine WpC.seq ?_
      refine WpC.regionL ?_
      refine L.fieldAddr Try.underlying90 rfl info88 rfl hF rfl rfl rfl rfl rfl ?_
      refine L.loadPtr shape88 hF rfl rfl rfl rfl rfl rfl ?_
      refine L.fieldAddr Try.underlying90 rfl info88 rfl hF rfl rfl rfl rfl rfl ?_
      refine L.loadPtr shape88 hF rfl rfl rfl rfl rfl rfl ?_
      obtain ⟨r6, hr6, H⟩ := bindS H
      refine L.call [false, false] [] [] 14 hF rfl rfl rfl ent162 rfl rfl rfl rfl rfl (Flaws_eqPairS_gives k g2 g6 a0.Links a1.Links r6 hr6) rfl ?_
      refine L.not hF rfl rfl rfl ?_
      refine L.nil ?_
      refine WpC.cond rfl (fun hc => ?_) (fun hc => ?_)
      · replace H := condT hc H
        refine WpC.seq ?_
        refine WpC.regionL ?_
        refine L.assign hF rfl rfl rfl ?_
        refine L.nil ?_
        refine WpC.ret ?_
        cases H
        exact Leaves.ret rfl rfl rfl ⟨rfl, rfl⟩
      · replace H := condF hc H
        refine WpC.skip ?_
        refine WpC.seq ?_
        refine WpC.seq ?_
        refine WpC.regionL ?_
        refine L.fieldAddr Try.underlying90 rfl info88 rfl hF rfl rfl rfl rfl rfl ?_
        refine L.loadPtr shape88 hF rfl rfl rfl rfl rfl rfl ?_
        refine L.fieldAddr Try.underlying90 rfl info88 rfl hF rfl rfl rfl rfl rfl ?_
        refine L.loadPtr shape88 hF rfl rfl rfl rfl rfl rfl ?_
        obtain ⟨r8, hr8, H⟩ := bindS H
        refine L.call [false, false] [] [] 15 hF rfl rfl rfl ent162 rfl rfl rfl rfl rfl (Flaws_eqPairS_gives k g3 g7 a0.Proxy a1.Proxy r8 hr8) rfl ?_
        refine L.not hF rfl rfl rfl ?_
        refine L.nil ?_
        refine WpC.cond rfl (fun hc => ?_) (fun hc => ?_)
        · replace H := condT hc H
          refine WpC.seq ?_
          refine WpC.regionL ?_
          refine L.assign hF rfl rfl rfl ?_
          refine L.nil ?_
          refine WpC.ret ?_
          cases H
          exact Leaves.ret rfl rfl rfl ⟨rfl, rfl⟩
        · replace H := condF hc H
          refine WpC.skip ?_
          refine WpC.seq ?_
          refine WpC.seq ?_
          refine WpC.regionL ?_
          refine L.fieldAddr Try.underlying90 rfl info3 rfl hF rfl rfl rfl rfl rfl ?_
          refine L.loadPtr shape3 hF rfl rfl rfl rfl rfl rfl ?_
          refine L.fieldAddr Try.underlying90 rfl info3 rfl hF rfl rfl rfl rfl rfl ?_
          refine L.loadPtr shape3 hF rfl rfl rfl rfl rfl rfl ?_
          refine L.bin hF rfl rfl rfl rfl rfl rfl ?_
          refine L.nil ?_
          refine WpC.cond rfl (fun hc => ?_) (fun hc => ?_)
          · replace H := condT hc H
            refine WpC.seq ?_
            refine WpC.regionL ?_
            refine L.assign hF rfl rfl rfl ?_
            refine L.nil ?_
            refine WpC.ret ?_
            cases H
            exact Leaves.ret rfl rfl rfl ⟨rfl, rfl⟩
          · replace H := condF hc H
            refine WpC.skip ?_
            refine WpC.seq ?_
            refine WpC.regionL ?_
            refine L.assign hF rfl rfl rfl ?_
            refine L.nil ?_
            refine WpC.ret ?_
            cases H
            exact Leaves.ret rfl rfl rfl ⟨rfl, rfl⟩
/-! ### Flaws_markIntS -/
def Flaws_markIntS.l2 : Nat → (List Int) → Int → Int → Option (Int × List Int)
  | 0, _, _, _ => none
  | k2 + 1, v24, v25, v26 => cond (decide (v26 < (v24.length : Int))) ((at? v24 v26).bind fun b28 => (Flaws_markIntS.l2 k2) (v24.set v26.toNat v25) (IntKind.i64.wrap (v25 + (1 : Int))) (IntKind.i64.wrap (v26 + (1 : Int)))) (some (v25, v24))
def Flaws_markIntS (k : Nat) (a0 : List Int) (a1 : Int) : Option (Int × List Int) := Flaws_markIntS.l2 k a0 a1 (0 : Int)
theorem ent29 : Enters Try.prog 29 := ⟨Try.f29, Try.func29, rfl, by decide⟩
set_option maxHeartbeats 8000000 in
set_option maxRecDepth 100000 in
theorem Flaws_markIntS_gives (k : Nat) (a0 : List Int) (a1 : Int) (r : Int × List Int) (H : Flaws_markIntS k a0 a1 = some r) : GivesB Try.prog 29 [V.one (Cell.ow 1 (List.map eI a0)), V.one (cI a1)] [] [0] [V.one (cI r.1)] [] [V.one (Cell.ow 1 (List.map eI r.2))] := by
  refine GivesB.intro Try.func29 rfl rfl rfl rfl rfl rfl ?_
  intro F hF hm
  unfold Flaws_markIntS at H
  obtain ⟨K, hK⟩ : ∃ K, k ≤ K := ⟨k, Nat.le_refl k⟩
  refine WpC.seq ?_
  refine WpC.regionL ?_
  refine L.assign hF rfl rfl rfl ?_
  refine L.nil ?_
  refine WpC.seq ?_
  refine WpC.seq ?_
  refine WpC.regionL ?_
  refine L.assign hF rfl rfl rfl ?_
  refine L.nil ?_
  refine WpC.block ?_
  refine WpC.loopL (P := Try.prog) (fun n σ => ∃ v24 : List Int, ∃ v25 : Int, ∃ v26 : Int, n ≤ K ∧ Flaws_markIntS.l2 n v24 v25 v26 = some r ∧ σ = mkSt [(0, one (Cell.own 0)), (1, one (cI v25)), (5, one (cI v26))] [(0, ⟨1, List.map eI v24⟩)] [] 2) k ⟨_, ⟨a0, a1, (0 : Int), by omega, H, rfl⟩, Le.mk [(0, 0)] hm rfl ⟨⟨_, rfl, rfl⟩, ⟨_, rfl, rfl⟩, ⟨_, rfl, rfl⟩, trivial⟩ ⟨⟨_, rfl, rfl⟩, trivial⟩ trivial⟩ ?_
  clear H
  rintro k2 _ ⟨v24, v25, v26, hk2, H, rfl⟩
  cases k2 with
  | zero => cases H
  | succ k2 =>
    rw [Flaws_markIntS.l2] at H
    refine WpC.seq ?_
    refine WpC.seq ?_
    refine WpC.regionL ?_
    refine L.move hF rfl rfl rfl ?_
    refine L.move hF rfl rfl rfl ?_
    refine L.lenR (xs := v24) (e := eI) Try.underlying24 hF rfl rfl rfl rfl ?_
    refine L.bin hF rfl rfl rfl rfl rfl rfl ?_
    refine L.nil ?_
    refine WpC.cond rfl (fun hc => ?_) (fun hc => ?_)
    · replace H := condT hc H
      refine WpC.skip ?_
      refine WpC.seq ?_
      refine WpC.block ?_
      refine WpC.seq ?_
      refine WpC.regionL ?_
      refine L.move hF rfl rfl rfl ?_
      refine L.move hF rfl rfl rfl ?_
      refine L.move hF rfl rfl rfl ?_
      obtain ⟨b28, hb28, H⟩ := bindS H
      refine L.idxR (xs := v24) (e := eI) Try.underlying24 info3 hF rfl rfl rfl rfl rfl hb28 rfl rfl ?_
      refine L.storeEp (xs := v24) (e := eI) (a' := v25) shape3 hF rfl rfl rfl rfl rfl rfl rfl (at?_get hb28).2 rfl rfl ?_
      refine L.nil ?_
      refine WpC.regionL ?_
      refine L.move hF rfl rfl rfl ?_
      refine L.bin hF rfl rfl rfl rfl rfl rfl ?_
      refine L.assign hF rfl rfl rfl ?_
      refine L.nil ?_
      refine WpC.regionL ?_
      refine L.move hF rfl rfl rfl ?_
      refine L.bin hF rfl rfl rfl rfl rfl rfl ?_
      refine L.assign hF rfl rfl rfl ?_
      refine L.nil ?_
      exact ⟨k2, _, by omega, ⟨(v24.set v26.toNat v25), (IntKind.i64.wrap (v25 + (1 : Int))), (IntKind.i64.wrap (v26 + (1 : Int))), by omega, H, rfl⟩, Le.mk [(0, 0)] hm rfl ⟨⟨_, rfl, rfl⟩, ⟨_, rfl, rfl⟩, ⟨_, rfl, rfl⟩, trivial⟩ ⟨⟨_, rfl, rfl⟩, trivial⟩ trivial⟩
    · replace H := condF hc H
      refine WpC.exit ?_
      refine WpC.seq ?_
      refine WpC.regionL ?_
      refine L.move hF rfl rfl rfl ?_
      refine L.assign hF rfl rfl rfl ?_
      refine L.nil ?_
      refine WpC.ret ?_
      cases H
      exact Leaves.retB rfl rfl rfl rfl ⟨rfl, rfl, rfl⟩
/-! ### Flaws_markPairS -/
def Flaws_markPairS.l2 : Nat → (List Timpl_Pair) → Int → Int → Option (Int × List Timpl_Pair)
  | 0, _, _, _ => none
  | k2 + 1, v34, v35, v36 => cond (decide (v36 < (v34.length : Int))) ((at? v34 v36).bind fun b39 => (at? (v34.set v36.toNat (⟨v35, b39.B⟩ : Timpl_Pair)) v36).bind fun b40 => (Flaws_markPairS.l2 k2) ((v34.set v36.toNat (⟨v35, b39.B⟩ : Timpl_Pair)).set v36.toNat (⟨b40.A, (IntKind.i64.wrap (v35 + (1 : Int)))⟩ : Timpl_Pair)) (IntKind.i64.wrap ((IntKind.i64.wrap (v35 + (1 : Int))) + (1 : Int))) (IntKind.i64.wrap (v36 + (1 : Int)))) (some (v35, v34))
def Flaws_markPairS (k : Nat) (a0 : List Timpl_Pair) (a1 : Int) : Option (Int × List Timpl_Pair) := Flaws_markPairS.l2 k a0 a1 (0 : Int)
theorem ent163 : Enters Try.prog 163 := ⟨Try.f163, Try.func163, rfl, by decide⟩
set_option maxHeartbeats 8000000 in
set_option maxRecDepth 100000 in
theorem Flaws_markPairS_gives (k : Nat) (a0 : List Timpl_Pair) (a1 : Int) (r : Int × List Timpl_Pair) (H : Flaws_markPairS k a0 a1 = some r) : GivesB Try.prog 163 [V.one (Cell.ow 2 (List.map eTimpl_Pair a0)), V.one (cI a1)] [] [0] [V.one (cI r.1)] [] [V.one (Cell.ow 2 (List.map eTimpl_Pair r.2))] := by
  refine GivesB.intro Try.func163 rfl rfl rfl rfl rfl rfl ?_
  intro F hF hm
  unfold Flaws_markPairS at H
  obtain ⟨K, hK⟩ : ∃ K, k ≤ K := ⟨k, Nat.le_refl k⟩
  refine WpC.seq ?_
  refine WpC.regionL ?_
  refine L.assign hF rfl rfl rfl ?_
  refine L.nil ?_
  refine WpC.seq ?_
  refine WpC.seq ?_
  refine WpC.regionL ?_
  refine L.assign hF rfl rfl rfl ?_
  refine L.nil ?_
  refine WpC.block ?_
  refine WpC.loopL (P := Try.prog) (fun n σ => ∃ v34 : List Timpl_Pair, ∃ v35 : Int, ∃ v36 : Int, n ≤ K ∧ Flaws_markPairS.l2 n v34 v35 v36 = some r ∧ σ = mkSt [(0, one (Cell.own 0)), (1, one (cI v35)), (5, one (cI v36))] [(0, ⟨2, List.map eTimpl_Pair v34⟩)] [] 2) k ⟨_, ⟨a0, a1, (0 : Int), by omega, H, rfl⟩, Le.mk [(0, 0)] hm rfl ⟨⟨_, rfl, rfl⟩, ⟨_, rfl, rfl⟩, ⟨_, rfl, rfl⟩, trivial⟩ ⟨⟨_, rfl, rfl⟩, trivial⟩ trivial⟩ ?_
  clear H
  rintro k2 _ ⟨v34, v35, v36, hk2, H, rfl⟩
  cases k2 with
  | zero => cases H
  | succ k2 =>
    rw [Flaws_markPairS.l2] at H
    refine WpC.seq ?_
    refine WpC.seq ?_
    refine WpC.regionL ?_
    refine L.move hF rfl rfl rfl ?_
    refine L.move hF rfl rfl rfl ?_
    refine L.lenR (xs := v34) (e := eTimpl_Pair) Try.underlying88 hF rfl rfl rfl rfl ?_
    refine L.bin hF rfl rfl rfl rfl rfl rfl ?_
    refine L.nil ?_
    refine WpC.cond rfl (fun hc => ?_) (fun hc => ?_)
    · replace H := condT hc H
      refine WpC.skip ?_
      refine WpC.seq ?_
      refine WpC.block ?_
      refine WpC.seq ?_
      refine WpC.regionL ?_
      refine L.move hF rfl rfl rfl ?_
      refine L.move hF rfl rfl rfl ?_
      refine L.move hF rfl rfl rfl ?_
      obtain ⟨b39, hb39, H⟩ := bindS H
      refine L.idxR (xs := v34) (e := eTimpl_Pair) Try.underlying88 info256 hF rfl rfl rfl rfl rfl hb39 rfl rfl ?_
      refine L.fieldAddr Try.underlying256 rfl info3 rfl hF rfl rfl rfl rfl rfl ?_
      refine L.storeEp (xs := v34) (e := eTimpl_Pair) (a' := (⟨v35, b39.B⟩ : Timpl_Pair)) shape3 hF rfl rfl rfl rfl rfl rfl rfl (at?_get hb39).2 rfl rfl ?_
      refine L.nil ?_
      refine WpC.seq ?_
      refine WpC.regionL ?_
      refine L.move hF rfl rfl rfl ?_
      refine L.bin hF rfl rfl rfl rfl rfl rfl ?_
      refine L.assign hF rfl rfl rfl ?_
      refine L.nil ?_
      refine WpC.seq ?_
      refine WpC.regionL ?_
      refine L.move hF rfl rfl rfl ?_
      refine L.move hF rfl rfl rfl ?_
      refine L.move hF rfl rfl rfl ?_
      obtain ⟨b40, hb40, H⟩ := bindS H
      refine L.idxR (xs := (v34.set v36.toNat (⟨v35, b39.B⟩ : Timpl_Pair))) (e := eTimpl_Pair) Try.underlying88 info256 hF rfl rfl rfl rfl rfl hb40 rfl rfl ?_
      refine L.fieldAddr Try.underlying256 rfl info3 rfl hF rfl rfl rfl rfl rfl ?_
      refine L.storeEp (xs := (v34.set v36.toNat (⟨v35, b39.B⟩ : Timpl_Pair))) (e := eTimpl_Pair) (a' := (⟨b40.A, (IntKind.i64.wrap (v35 + (1 : Int)))⟩ : Timpl_Pair)) shape3 hF rfl rfl rfl rfl rfl rfl rfl (at?_get hb40).2 rfl rfl ?_
      refine L.nil ?_
      refine WpC.regionL ?_
      refine L.move hF rfl rfl rfl ?_
      refine L.bin hF rfl rfl rfl rfl rfl rfl ?_
      refine L.assign hF rfl rfl rfl ?_
      refine L.nil ?_
      refine WpC.regionL ?_
      refine L.move hF rfl rfl rfl ?_
      refine L.bin hF rfl rfl rfl rfl rfl rfl ?_
      refine L.assign hF rfl rfl rfl ?_
      refine L.nil ?_
      exact ⟨k2, _, by omega, ⟨((v34.set v36.toNat (⟨v35, b39.B⟩ : Timpl_Pair)).set v36.toNat (⟨b40.A, (IntKind.i64.wrap (v35 + (1 : Int)))⟩ : Timpl_Pair)), (IntKind.i64.wrap ((IntKind.i64.wrap (v35 + (1 : Int))) + (1 : Int))), (IntKind.i64.wrap (v36 + (1 : Int))), by omega, H, rfl⟩, Le.mk [(0, 0)] hm rfl ⟨⟨_, rfl, rfl⟩, ⟨_, rfl, rfl⟩, ⟨_, rfl, rfl⟩, trivial⟩ ⟨⟨_, rfl, rfl⟩, trivial⟩ trivial⟩
    · replace H := condF hc H
      refine WpC.exit ?_
      refine WpC.seq ?_
      refine WpC.regionL ?_
      refine L.move hF rfl rfl rfl ?_
      refine L.assign hF rfl rfl rfl ?_
      refine L.nil ?_
      refine WpC.ret ?_
      cases H
      exact Leaves.retB rfl rfl rfl rfl ⟨rfl, rfl, rfl⟩
/-! ### Flaws_markConfig -/
def Flaws_markConfig (k : Nat) (a0 : Timpl_Config) (a1 : Int) : Option (Int × List Int × List Int × List Timpl_Pair × List Timpl_Pair) := (Flaws_markIntS k a0.UserRealm a1).bind fun r1 => (Flaws_markIntS k a0.ServiceRealm r1.1).bind fun r2 => (Flaws_markPairS k a0.Links r2.1).bind fun r3 => (Flaws_markPairS k a0.Proxy r3.1).bind fun r4 => some (r4.1, r1.2, r2.2, r3.2, r4.2)
theorem ent76 : Enters Try.prog 76 := ⟨Try.f76, Try.func76, rfl, by decide⟩
set_option maxHeartbeats 8000000 in
set_option maxRecDepth 100000 in
theorem Flaws_markConfig_gives (k : Nat) (a0 : Timpl_Config) (a1 : Int) (r : Int × List Int × List Int × List Timpl_Pair × List Timpl_Pair) (H : Flaws_markConfig k a0 a1 = some r) : GivesB Try.prog 76 [V.agg [Cell.ow 1 (List.map eI a0.UserRealm), Cell.ow 1 (List.map eI a0.ServiceRealm), Cell.ow 2 (List.map eTimpl_Pair a0.Links), Cell.ow 2 (List.map eTimpl_Pair a0.Proxy), cI a0.Skew], V.one (cI a1)] [] [0] [V.one (cI r.1)] [] [V.agg [Cell.ow 1 (List.map eI r.2.1), Cell.ow 1 (List.map eI r.2.2.1), Cell.ow 2 (List.map eTimpl_Pair r.2.2.2.1), Cell.ow 2 (List.map eTimpl_Pair r.2.2.2.2), cI a0.Skew]] := by
  refine GivesB.intro Try.func76 rfl rfl rfl rfl rfl rfl ?_
  intro F hF hm
  unfold Flaws_markConfig at H
  obtain ⟨K, hK⟩ : ∃ K, k ≤ K := ⟨k, Nat.le_refl k⟩
  refine WpC.seq ?_
  refine WpC.regionL ?_
  refine L.box 6 hF rfl rfl rfl rfl ?_
  refine L.assign hF rfl rfl rfl ?_
  refine L.nil ?_
  refine WpC.seq ?_
  refine WpC.regionL ?_
  refine L.fieldAddr Try.underlying90 rfl info24 rfl hF rfl rfl rfl rfl rfl ?_
  refine L.loadPtr shape24 hF rfl rfl rfl rfl rfl rfl ?_
  refine L.move hF rfl rfl rfl ?_
  obtain ⟨r1, hr1, H⟩ := bindS H
  refine L.callB [true, false] [] [] 7 [0] hF rfl rfl rfl ent29 rfl rfl rfl rfl rfl (Flaws_markIntS_gives k  a0.UserRealm a1 r1 hr1) rfl rfl rfl ?_
  refine L.assign hF rfl rfl rfl ?_
  refine L.nil ?_
  refine WpC.seq ?_
  refine WpC.regionL ?_
  refine L.fieldAddr Try.underlying90 rfl info24 rfl hF rfl rfl rfl rfl rfl ?_
  refine L.loadPtr shape24 hF rfl rfl rfl rfl rfl rfl ?_
  refine L.move hF rfl rfl rfl ?_
  obtain ⟨r2, hr2, H⟩ := bindS H
  refine L.callB [true, false] [] [] 8 [0] hF rfl rfl rfl ent29 rfl rfl rfl rfl rfl (Flaws_markIntS_gives k  a0.ServiceRealm r1.1 r2 hr2) rfl rfl rfl ?_
  refine L.assign hF rfl rfl rfl ?_
  refine L.nil ?_
  refine WpC.seq ?_
  refine WpC.regionL ?_
  refine L.fieldAddr Try.underlying90 rfl info88 rfl hF rfl rfl rfl rfl rfl ?_
  refine L.loadPtr shape88 hF rfl rfl rfl rfl rfl rfl ?_
  refine L.move hF rfl rfl rfl ?_
  obtain ⟨r3, hr3, H⟩ := bindS H
  refine L.callB [true, false] [] [] 9 [0] hF rfl rfl rfl ent163 rfl rfl rfl rfl rfl (Flaws_markPairS_gives k  a0.Links r2.1 r3 hr3) rfl rfl rfl ?_
  refine L.assign hF rfl rfl rfl ?_
  refine L.nil ?_
  refine WpC.seq ?_
  refine WpC.regionL ?_
  refine L.fieldAddr Try.underlying90 rfl info88 rfl hF rfl rfl rfl rfl rfl ?_
  refine L.loadPtr shape88 hF rfl rfl rfl rfl rfl rfl ?_
  refine L.move hF rfl rfl rfl ?_
  obtain ⟨r4, hr4, H⟩ := bindS H
  refine L.callB [true, false] [] [] 10 [0] hF rfl rfl rfl ent163 rfl rfl rfl rfl rfl (Flaws_markPairS_gives k  a0.Proxy r3.1 r4 hr4) rfl rfl rfl ?_
  refine L.assign hF rfl rfl rfl ?_
  refine L.nil ?_
  refine WpC.seq ?_
  refine WpC.regionL ?_
  refine L.move hF rfl rfl rfl ?_
  refine L.assign hF rfl rfl rfl ?_
  refine L.nil ?_
  refine WpC.ret ?_
  cases H
  exact Leaves.retB rfl rfl rfl rfl ⟨rfl, rfl, rfl⟩
/-! ### Flaws_markText -/
def Flaws_markText.l2 : Nat → Int → (List UInt8) → Option (List UInt8)
  | 0, _, _ => none
  | k2 + 1, v14, v15 => cond (decide (v14 > (0 : Int))) (cond (decide (([(ofI (IntKind.i64.wrap ((48 : Int) + (Int.tmod v14 (10 : Int)))))] : List UInt8).length + v15.length ≤ 9223372036854775807)) ((Flaws_markText.l2 k2) (IntKind.i64.wrap (Int.tdiv v14 (10 : Int))) (([(ofI (IntKind.i64.wrap ((48 : Int) + (Int.tmod v14 (10 : Int)))))] : List UInt8) ++ v15)) none) (cond (decide (([109] : List UInt8).length + v15.length ≤ 9223372036854775807)) (some (([109] : List UInt8) ++ v15)) none)
def Flaws_markText (k : Nat) (a0 : Int) : Option (List UInt8) := cond (decide (a0 ≤ (0 : Int))) (some ([109, 48] : List UInt8)) (Flaws_markText.l2 k a0 ([] : List UInt8))
theorem ent107 : Enters Try.prog 107 := ⟨Try.f107, Try.func107, rfl, by decide⟩
set_option maxHeartbeats 8000000 in
set_option maxRecDepth 100000 in
theorem Flaws_markText_gives (k : Nat) (a0 : Int) (r : List UInt8) (H : Flaws_markText k a0 = some r) : Gives Try.prog 107 [V.one (cI a0)] [] [V.one (cS r)] [] := by
  refine Gives.intro Try.func107 rfl rfl rfl rfl ?_
  intro F hF hm
  unfold Flaws_markText at H
  obtain ⟨K, hK⟩ : ∃ K, k ≤ K := ⟨k, Nat.le_refl k⟩
  refine WpC.seq ?_
  refine WpC.regionL ?_
  refine L.assign hF rfl rfl rfl ?_
  refine L.nil ?_
  refine WpC.seq ?_
  refine WpC.seq ?_
  refine WpC.regionL ?_
  refine L.move hF rfl rfl rfl ?_
  refine L.bin hF rfl rfl rfl rfl rfl rfl ?_
  refine L.nil ?_
  refine WpC.cond rfl (fun hc => ?_) (fun hc => ?_)
  · replace H := condT hc H
    refine WpC.seq ?_
    refine WpC.regionL ?_
    refine L.assign hF rfl rfl rfl ?_
    refine L.nil ?_
    refine WpC.ret ?_
    cases H
    exact Leaves.ret rfl rfl rfl ⟨rfl, rfl⟩
  · replace H := condF hc H
    refine WpC.skip ?_
    refine WpC.seq ?_
    refine WpC.regionL ?_
    refine L.assign hF rfl rfl rfl ?_
    refine L.nil ?_
    refine WpC.seq ?_
    refine WpC.block ?_
    refine WpC.loopL (P := Try.prog) (fun n σ => ∃ v14 : Int, ∃ v15 : List UInt8, n ≤ K ∧ Flaws_markText.l2 n v14 v15 = some r ∧ σ = mkSt [(0, one (cI v14)), (3, one (cS v15))] [] [] 0) k ⟨_, ⟨a0, ([] : List UInt8), by omega, H, rfl⟩, Le.mk [] hm rfl ⟨⟨_, rfl, rfl⟩, ⟨_, rfl, rfl⟩, trivial⟩ trivial trivial⟩ ?_
    clear H
    rintro k2 _ ⟨v14, v15, hk2, H, rfl⟩
    cases k2 with
    | zero => cases H
    | succ k2 =>
      rw [Flaws_markText.l2] at H
      refine WpC.seq ?_
      refine WpC.seq ?_
      refine WpC.regionL ?_
      refine L.move hF rfl rfl rfl ?_
      refine L.bin hF rfl rfl rfl rfl rfl rfl ?_
      refine L.nil ?_
      refine WpC.cond rfl (fun hc => ?_) (fun hc => ?_)
      · replace H := condT hc H
        refine WpC.skip ?_
        refine WpC.block ?_
        refine WpC.seq ?_
        refine WpC.regionL ?_
        refine L.move hF rfl rfl rfl ?_
        refine L.rem hF rfl rfl rfl rfl (by decide) ?_
        refine L.bin hF rfl rfl rfl rfl rfl rfl ?_
        refine L.toB Try.underlying3 Try.underlying5 hF rfl rfl rfl ?_
        refine L.buildSlice (e := eB) 0 ([(ofI (IntKind.i64.wrap ((48 : Int) + (Int.tmod v14 (10 : Int)))))] : List UInt8) Try.underlying50 info5 rfl rfl rfl hF rfl rfl rfl rfl rfl rfl rfl rfl ?_
        refine L.b2s (xs := ([(ofI (IntKind.i64.wrap ((48 : Int) + (Int.tmod v14 (10 : Int)))))] : List UInt8)) Try.underlying50 Try.underlying5 Try.underlying9 hF rfl rfl rfl rfl ?_
        refine L.move hF rfl rfl rfl ?_
        obtain ⟨h16, H⟩ := condG H
        refine L.catS hF rfl rfl rfl rfl (of_decide_eq_true h16) ?_
        refine L.assign hF rfl rfl rfl ?_
        refine L.nil ?_
        refine WpC.regionL ?_
        refine L.move hF rfl rfl rfl ?_
        refine L.quo hF rfl rfl rfl rfl (by decide) ?_
        refine L.assign hF rfl rfl rfl ?_
        refine L.nil ?_
        exact ⟨k2, _, by omega, ⟨(IntKind.i64.wrap (Int.tdiv v14 (10 : Int))), (([(ofI (IntKind.i64.wrap ((48 : Int) + (Int.tmod v14 (10 : Int)))))] : List UInt8) ++ v15), by omega, H, rfl⟩, Le.mk [] hm rfl ⟨⟨_, rfl, rfl⟩, ⟨_, rfl, rfl⟩, trivial⟩ trivial trivial⟩
      · replace H := condF hc H
        refine WpC.exit ?_
        refine WpC.seq ?_
        refine WpC.regionL ?_
        refine L.move hF rfl rfl rfl ?_
        obtain ⟨h17, H⟩ := condG H
        refine L.catS hF rfl rfl rfl rfl (of_decide_eq_true h17) ?_
        refine L.assign hF rfl rfl rfl ?_
        refine L.nil ?_
        refine WpC.ret ?_
        cases H
        exact Leaves.ret rfl rfl rfl ⟨rfl, rfl⟩
/-! ### Flaws_markActS -/
def Flaws_markActS.l2 : Nat → (List Timpl_Act) → Int → Int → Option (Int × List Timpl_Act)
  | 0, _, _, _ => none
  | k2 + 1, v114, v115, v116 => cond (decide (v116 < (v114.length : Int))) ((at? v114 v116).bind fun b127 => (at? (v114.set v116.toNat (⟨v115, b127.A, b127.B, b127.C, b127.D, (⟨b127.Rest.Servers, b127.Rest.Ops, b127.Rest.End⟩ : Timpl_Rest), b127.Text⟩ : Timpl_Act)) v116).bind fun b128 => (at? ((v114.set v116.toNat (⟨v115, b127.A, b127.B, b127.C, b127.D, (⟨b127.Rest.Servers, b127.Rest.Ops, b127.Rest.End⟩ : Timpl_Rest), b127.Text⟩ : Timpl_Act)).set v116.toNat (⟨b128.Kind, (IntKind.i64.wrap (v115 + (1 : Int))), b128.B, b128.C, b128.D, (⟨b128.Rest.Servers, b128.Rest.Ops, b128.Rest.End⟩ : Timpl_Rest), b128.Text⟩ : Timpl_Act)) v116).bind fun b129 => (at? (((v114.set v116.toNat (⟨v115, b127.A, b127.B, b127.C, b127.D, (⟨b127.Rest.Servers, b127.Rest.Ops, b127.Rest.End⟩ : Timpl_Rest), b127.Text⟩ : Timpl_Act)).set v116.toNat (⟨b128.Kind, (IntKind.i64.wrap (v115 + (1 : Int))), b128.B, b128.C, b128.D, (⟨b128.Rest.Servers, b128.Rest.Ops, b128.Rest.End⟩ : Timpl_Rest), b128.Text⟩ : Timpl_Act)).set v116.toNat (⟨b129.Kind, b129.A, (IntKind.i64.wrap ((IntKind.i64.wrap (v115 + (1 : Int))) + (1 : Int))), b129.C, b129.D, (⟨b129.Rest.Servers, b129.Rest.Ops, b129.Rest.End⟩ : Timpl_Rest), b129.Text⟩ : Timpl_Act)) v116).bind fun b130 => (at? ((((v114.set v116.toNat (⟨v115, b127.A, b127.B, b127.C, b127.D, (⟨b127.Rest.Servers, b127.Rest.Ops, b127.Rest.End⟩ : Timpl_Rest), b127.Text⟩ : Timpl_Act)).set v116.toNat (⟨b128.Kind, (IntKind.i64.wrap (v115 + (1 : Int))), b128.B, b128.C, b128.D, (⟨b128.Rest.Servers, b128.Rest.Ops, b128.Rest.End⟩ : Timpl_Rest), b128.Text⟩ : Timpl_Act)).set v116.toNat (⟨b129.Kind, b129.A, (IntKind.i64.wrap ((IntKind.i64.wrap (v115 + (1 : Int))) + (1 : Int))), b129.C, b129.D, (⟨b129.Rest.Servers, b129.Rest.Ops, b129.Rest.End⟩ : Timpl_Rest), b129.Text⟩ : Timpl_Act)).set v116.toNat (⟨b130.Kind, b130.A, b130.B, (IntKind.i64.wrap ((IntKind.i64.wrap ((IntKind.i64.wrap (v115 + (1 : Int))) + (1 : Int))) + (1 : Int))), b130.D, (⟨b130.Rest.Servers, b130.Rest.Ops, b130.Rest.End⟩ : Timpl_Rest), b130.Text⟩ : Timpl_Act)) v116).bind fun b131 => (at? (((((v114.set v116.toNat (⟨v115, b127.A, b127.B, b127.C, b127.D, (⟨b127.Rest.Servers, b127.Rest.Ops, b127.Rest.End⟩ : Timpl_Rest), b127.Text⟩ : Timpl_Act)).set v116.toNat (⟨b128.Kind, (IntKind.i64.wrap (v115 + (1 : Int))), b128.B, b128.C, b128.D, (⟨b128.Rest.Servers, b128.Rest.Ops, b128.Rest.End⟩ : Timpl_Rest), b128.Text⟩ : Timpl_Act)).set v116.toNat (⟨b129.Kind, b129.A, (IntKind.i64.wrap ((IntKind.i64.wrap (v115 + (1 : Int))) + (1 : Int))), b129.C, b129.D, (⟨b129.Rest.Servers, b129.Rest.Ops, b129.Rest.End⟩ : Timpl_Rest), b129.Text⟩ : Timpl_Act)).set v116.toNat (⟨b130.Kind, b130.A, b130.B, (IntKind.i64.wrap ((IntKind.i64.wrap ((IntKind.i64.wrap (v115 + (1 : Int))) + (1 : Int))) + (1 : Int))), b130.D, (⟨b130.Rest.Servers, b130.Rest.Ops, b130.Rest.End⟩ : Timpl_Rest), b130.Text⟩ : Timpl_Act)).set v116.toNat (⟨b131.Kind, b131.A, b131.B, b131.C, (IntKind.i64.wrap ((IntKind.i64.wrap ((IntKind.i64.wrap ((IntKind.i64.wrap (v115 + (1 : Int))) + (1 : Int))) + (1 : Int))) + (1 : Int))), (⟨b131.Rest.Servers, b131.Rest.Ops, b131.Rest.End⟩ : Timpl_Rest), b131.Text⟩ : Timpl_Act)) v116).bind fun b132 => (at? ((((((v114.set v116.toNat (⟨v115, b127.A, b127.B, b127.C, b127.D, (⟨b127.Rest.Servers, b127.Rest.Ops, b127.Rest.End⟩ : Timpl_Rest), b127.Text⟩ : Timpl_Act)).set v116.toNat (⟨b128.Kind, (IntKind.i64.wrap (v115 + (1 : Int))), b128.B, b128.C, b128.D, (⟨b128.Rest.Servers, b128.Rest.Ops, b128.Rest.End⟩ : Timpl_Rest), b128.Text⟩ : Timpl_Act)).set v116.toNat (⟨b129.Kind, b129.A, (IntKind.i64.wrap ((IntKind.i64.wrap (v115 + (1 : Int))) + (1 : Int))), b129.C, b129.D, (⟨b129.Rest.Servers, b129.Rest.Ops, b129.Rest.End⟩ : Timpl_Rest), b129.Text⟩ : Timpl_Act)).set v116.toNat (⟨b130.Kind, b130.A, b130.B, (IntKind.i64.wrap ((IntKind.i64.wrap ((IntKind.i64.wrap (v115 + (1 : Int))) + (1 : Int))) + (1 : Int))), b130.D, (⟨b130.Rest.Servers, b130.Rest.Ops, b130.Rest.End⟩ : Timpl_Rest), b130.Text⟩ : Timpl_Act)).set v116.toNat (⟨b131.Kind, b131.A, b131.B, b131.C, (IntKind.i64.wrap ((IntKind.i64.wrap ((IntKind.i64.wrap ((IntKind.i64.wrap (v115 + (1 : Int))) + (1 : Int))) + (1 : Int))) + (1 : Int))), (⟨b131.Rest.Servers, b131.Rest.Ops, b131.Rest.End⟩ : Timpl_Rest), b131.Text⟩ : Timpl_Act)).set v116.toNat (⟨b132.Kind, b132.A, b132.B, b132.C, b132.D, (⟨(IntKind.i64.wrap ((IntKind.i64.wrap ((IntKind.i64.wrap ((IntKind.i64.wrap ((IntKind.i64.wrap (v115 + (1 : Int))) + (1 : Int))) + (1 : Int))) + (1 : Int))) + (1 : Int))), b132.Rest.Ops, b132.Rest.End⟩ : Timpl_Rest), b132.Text⟩ : Timpl_Act)) v116).bind fun b133 => (at? (((((((v114.set v116.toNat (⟨v115, b127.A, b127.B, b127.C, b127.D, (⟨b127.Rest.Servers, b127.Rest.Ops, b127.Rest.End⟩ : Timpl_Rest), b127.Text⟩ : Timpl_Act)).set v116.toNat (⟨b128.Kind, (IntKind.i64.wrap (v115 + (1 : Int))), b128.B, b128.C, b128.D, (⟨b128.Rest.Servers, b128.Rest.Ops, b128.Rest.End⟩ : Timpl_Rest), b128.Text⟩ : Timpl_Act)).set v116.toNat (⟨b129.Kind, b129.A, (IntKind.i64.wrap ((IntKind.i64.wrap (v115 + (1 : Int))) + (1 : Int))), b129.C, b129.D, (⟨b129.Rest.Servers, b129.Rest.Ops, b129.Rest.End⟩ : Timpl_Rest), b129.Text⟩ : Timpl_Act)).set v116.toNat (⟨b130.Kind, b130.A, b130.B, (IntKind.i64.wrap ((IntKind.i64.wrap ((IntKind.i64.wrap (v115 + (1 : Int))) + (1 : Int))) + (1 : Int))), b130.D, (⟨b130.Rest.Servers, b130.Rest.Ops, b130.Rest.End⟩ : Timpl_Rest), b130.Text⟩ : Timpl_Act)).set v116.toNat (⟨b131.Kind, b131.A, b131.B, b131.C, (IntKind.i64.wrap ((IntKind.i64.wrap ((IntKind.i64.wrap ((IntKind.i64.wrap (v115 + (1 : Int))) + (1 : Int))) + (1 : Int))) + (1 : Int))), (⟨b131.Rest.Servers, b131.Rest.Ops, b131.Rest.End⟩ : Timpl_Rest), b131.Text⟩ : Timpl_Act)).set v116.toNat (⟨b132.Kind, b132.A, b132.B, b132.C, b132.D, (⟨(IntKind.i64.wrap ((IntKind.i64.wrap ((IntKind.i64.wrap ((IntKind.i64.wrap ((IntKind.i64.wrap (v115 + (1 : Int))) + (1 : Int))) + (1 : Int))) + (1 : Int))) + (1 : Int))), b132.Rest.Ops, b132.Rest.End⟩ : Timpl_Rest), b132.Text⟩ : Timpl_Act)).set v116.toNat (⟨b133.Kind, b133.A, b133.B, b133.C, b133.D, (⟨b133.Rest.Servers, (IntKind.i64.wrap ((IntKind.i64.wrap ((IntKind.i64.wrap ((IntKind.i64.wrap ((IntKind.i64.wrap ((IntKind.i64.wrap (v115 + (1 : Int))) + (1 : Int))) + (1 : Int))) + (1 : Int))) + (1 : Int))) + (1 : Int))), b133.Rest.End⟩ : Timpl_Rest), b133.Text⟩ : Timpl_Act)) v116).bind fun b134 => (Flaws_markText k2 (IntKind.i64.wrap ((IntKind.i64.wrap ((IntKind.i64.wrap ((IntKind.i64.wrap ((IntKind.i64.wrap ((IntKind.i64.wrap ((IntKind.i64.wrap ((IntKind.i64.wrap (v115 + (1 : Int))) + (1 : Int))) + (1 : Int))) + (1 : Int))) + (1 : Int))) + (1 : Int))) + (1 : Int))) + (1 : Int)))).bind fun r135 => (at? ((((((((v114.set v116.toNat (⟨v115, b127.A, b127.B, b127.C, b127.D, (⟨b127.Rest.Servers, b127.Rest.Ops, b127.Rest.End⟩ : Timpl_Rest), b127.Text⟩ : Timpl_Act)).set v116.toNat (⟨b128.Kind, (IntKind.i64.wrap (v115 + (1 : Int))), b128.B, b128.C, b128.D, (⟨b128.Rest.Servers, b128.Rest.Ops, b128.Rest.End⟩ : Timpl_Rest), b128.Text⟩ : Timpl_Act)).set v116.toNat (⟨b129.Kind, b129.A, (IntKind.i64.wrap ((IntKind.i64.wrap (v115 + (1 : Int))) + (1 : Int))), b129.C, b129.D, (⟨b129.Rest.Servers, b129.Rest.Ops, b129.Rest.End⟩ : Timpl_Rest), b129.Text⟩ : Timpl_Act)).set v116.toNat (⟨b130.Kind, b130.A, b130.B, (IntKind.i64.wrap ((IntKind.i64.wrap ((IntKind.i64.wrap (v115 + (1 : Int))) + (1 : Int))) + (1 : Int))), b130.D, (⟨b130.Rest.Servers, b130.Rest.Ops, b130.Rest.End⟩ : Timpl_Rest), b130.Text⟩ : Timpl_Act)).set v116.toNat (⟨b131.Kind, b131.A, b131.B, b131.C, (IntKind.i64.wrap ((IntKind.i64.wrap ((IntKind.i64.wrap ((IntKind.i64.wrap (v115 + (1 : Int))) + (1 : Int))) + (1 : Int))) + (1 : Int))), (⟨b131.Rest.Servers, b131.Rest.Ops, b131.Rest.End⟩ : Timpl_Rest), b131.Text⟩ : Timpl_Act)).set v116.toNat (⟨b132.Kind, b132.A, b132.B, b132.C, b132.D, (⟨(IntKind.i64.wrap ((IntKind.i64.wrap ((IntKind.i64.wrap ((IntKind.i64.wrap ((IntKind.i64.wrap (v115 + (1 : Int))) + (1 : Int))) + (1 : Int))) + (1 : Int))) + (1 : Int))), b132.Rest.Ops, b132.Rest.End⟩ : Timpl_Rest), b132.Text⟩ : Timpl_Act)).set v116.toNat (⟨b133.Kind, b133.A, b133.B, b133.C, b133.D, (⟨b133.Rest.Servers, (IntKind.i64.wrap ((IntKind.i64.wrap ((IntKind.i64.wrap ((IntKind.i64.wrap ((IntKind.i64.wrap ((IntKind.i64.wrap (v115 + (1 : Int))) + (1 : Int))) + (1 : Int))) + (1 : Int))) + (1 : Int))) + (1 : Int))), b133.Rest.End⟩ : Timpl_Rest), b133.Text⟩ : Timpl_Act)).set v116.toNat (⟨b134.Kind, b134.A, b134.B, b134.C, b134.D, (⟨b134.Rest.Servers, b134.Rest.Ops, (IntKind.i64.wrap ((IntKind.i64.wrap ((IntKind.i64.wrap ((IntKind.i64.wrap ((IntKind.i64.wrap ((IntKind.i64.wrap ((IntKind.i64.wrap (v115 + (1 : Int))) + (1 : Int))) + (1 : Int))) + (1 : Int))) + (1 : Int))) + (1 : Int))) + (1 : Int)))⟩ : Timpl_Rest), b134.Text⟩ : Timpl_Act)) v116).bind fun b136 => (Flaws_markActS.l2 k2) (((((((((v114.set v116.toNat (⟨v115, b127.A, b127.B, b127.C, b127.D, (⟨b127.Rest.Servers, b127.Rest.Ops, b127.Rest.End⟩ : Timpl_Rest), b127.Text⟩ : Timpl_Act)).set v116.toNat (⟨b128.Kind, (IntKind.i64.wrap (v115 + (1 : Int))), b128.B, b128.C, b128.D, (⟨b128.Rest.Servers, b128.Rest.Ops, b128.Rest.End⟩ : Timpl_Rest), b128.Text⟩ : Timpl_Act)).set v116.toNat (⟨b129.Kind, b129.A, (IntKind.i64.wrap ((IntKind.i64.wrap (v115 + (1 : Int))) + (1 : Int))), b129.C, b129.D, (⟨b129.Rest.Servers, b129.Rest.Ops, b129.Rest.End⟩ : Timpl_Rest), b129.Text⟩ : Timpl_Act)).set v116.toNat (⟨b130.Kind, b130.A, b130.B, (IntKind.i64.wrap ((IntKind.i64.wrap ((IntKind.i64.wrap (v115 + (1 : Int))) + (1 : Int))) + (1 : Int))), b130.D, (⟨b130.Rest.Servers, b130.Rest.Ops, b130.Rest.End⟩ : Timpl_Rest), b130.Text⟩ : Timpl_Act)).set v116.toNat (⟨b131.Kind, b131.A, b131.B, b131.C, (IntKind.i64.wrap ((IntKind.i64.wrap ((IntKind.i64.wrap ((IntKind.i64.wrap (v115 + (1 : Int))) + (1 : Int))) + (1 : Int))) + (1 : Int))), (⟨b131.Rest.Servers, b131.Rest.Ops, b131.Rest.End⟩ : Timpl_Rest), b131.Text⟩ : Timpl_Act)).set v116.toNat (⟨b132.Kind, b132.A, b132.B, b132.C, b132.D, (⟨(IntKind.i64.wrap ((IntKind.i64.wrap ((IntKind.i64.wrap ((IntKind.i64.wrap ((IntKind.i64.wrap (v115 + (1 : Int))) + (1 : Int))) + (1 : Int))) + (1 : Int))) + (1 : Int))), b132.Rest.Ops, b132.Rest.End⟩ : Timpl_Rest), b132.Text⟩ : Timpl_Act)).set v116.toNat (⟨b133.Kind, b133.A, b133.B, b133.C, b133.D, (⟨b133.Rest.Servers, (IntKind.i64.wrap ((IntKind.i64.wrap ((IntKind.i64.wrap ((IntKind.i64.wrap ((IntKind.i64.wrap ((IntKind.i64.wrap (v115 + (1 : Int))) + (1 : Int))) + (1 : Int))) + (1 : Int))) + (1 : Int))) + (1 : Int))), b133.Rest.End⟩ : Timpl_Rest), b133.Text⟩ : Timpl_Act)).set v116.toNat (⟨b134.Kind, b134.A, b134.B, b134.C, b134.D, (⟨b134.Rest.Servers, b134.Rest.Ops, (IntKind.i64.wrap ((IntKind.i64.wrap ((IntKind.i64.wrap ((IntKind.i64.wrap ((IntKind.i64.wrap ((IntKind.i64.wrap ((IntKind.i64.wrap (v115 + (1 : Int))) + (1 : Int))) + (1 : Int))) + (1 : Int))) + (1 : Int))) + (1 : Int))) + (1 : Int)))⟩ : Timpl_Rest), b134.Text⟩ : Timpl_Act)).set v116.toNat (⟨b136.Kind, b136.A, b136.B, b136.C, b136.D, (⟨b136.Rest.Servers, b136.Rest.Ops, b136.Rest.End⟩ : Timpl_Rest), r135⟩ : Timpl_Act)) (IntKind.i64.wrap ((IntKind.i64.wrap ((IntKind.i64.wrap ((IntKind.i64.wrap ((IntKind.i64.wrap ((IntKind.i64.wrap ((IntKind.i64.wrap ((IntKind.i64.wrap ((IntKind.i64.wrap (v115 + (1 : Int))) + (1 : Int))) + (1 : Int))) + (1 : Int))) + (1 : Int))) + (1 : Int))) + (1 : Int))) + (1 : Int))) + (1 : Int))) (IntKind.i64.wrap (v116 + (1 : Int)))) (some (v115, v114))
def Flaws_markActS (k : Nat) (a0 : List Timpl_Act) (a1 : Int) : Option (Int × List Timpl_Act) := Flaws_markActS.l2 k a0 a1 (0 : Int)
theorem ent77 : Enters Try.prog 77 := ⟨Try.f77, Try.func77, rfl, by decide⟩
set_option maxHeartbeats 8000000 in
set_option maxRecDepth 100000 in
theorem Flaws_markActS_gives (k : Nat) (a0 : List Timpl_Act) (a1 : Int) (r : Int × List Timpl_Act) (H : Flaws_markActS k a0 a1 = some r) : GivesB Try.prog 77 [V.one (Cell.ow 9 (List.map eTimpl_Act a0)), V.one (cI a1)] [] [0] [V.one (cI r.1)] [] [V.one (Cell.ow 9 (List.map eTimpl_Act r.2))] := by
  refine GivesB.intro Try.func77 rfl rfl rfl rfl rfl rfl ?_
  intro F hF hm
  unfold Flaws_markActS at H
  obtain ⟨K, hK⟩ : ∃ K, k ≤ K := ⟨k, Nat.le_refl k⟩
  refine WpC.seq ?_
  refine WpC.regionL ?_
  refine L.assign hF rfl rfl rfl ?_
  refine L.nil ?_
  refine WpC.seq ?_
  refine WpC.seq ?_
  refine WpC.regionL ?_
  refine L.assign hF rfl rfl rfl ?_
  refine L.nil ?_
  refine WpC.block ?_
  refine WpC.loopL (P := Try.prog) (fun n σ => ∃ v114 : List Timpl_Act, ∃ v115 : Int, ∃ v116 : Int, n ≤ K ∧ Flaws_markActS.l2 n v114 v115 v116 = some r ∧ σ = mkSt [(0, one (Cell.own 0)), (1, one (cI v115)), (5, one (cI v116))] [(0, ⟨9, List.map eTimpl_Act v114⟩)] [] 2) k ⟨_, ⟨a0, a1, (0 : Int), by omega, H, rfl⟩, Le.mk [(0, 0)] hm rfl ⟨⟨_, rfl, rfl⟩, ⟨_, rfl, rfl⟩, ⟨_, rfl, rfl⟩, trivial⟩ ⟨⟨_, rfl, rfl⟩, trivial⟩ trivial⟩ ?_
  clear H
  rintro k2 _ ⟨v114, v115, v116, hk2, H, rfl⟩
  cases k2 with
  | zero => cases H
  | succ k2 =>
    rw [Flaws_markActS.l2] at H
    refine WpC.seq ?_
    refine WpC.seq ?_
    refine WpC.regionL ?_
    refine L.move hF rfl rfl rfl ?_
    refine L.move hF rfl rfl rfl ?_
    refine L.lenR (xs := v114) (e := eTimpl_Act) Try.underlying86 hF rfl rfl rfl rfl ?_
    refine L.bin hF rfl rfl rfl rfl rfl rfl ?_
    refine L.nil ?_
    refine WpC.cond rfl (fun hc => ?_) (fun hc => ?_)
    · replace H := condT hc H
      refine WpC.skip ?_
      refine WpC.seq ?_
      refine WpC.block ?_
      refine WpC.seq ?_
      refine WpC.regionL ?_
      refine L.move hF rfl rfl rfl ?_
      refine L.move hF rfl rfl rfl ?_
      refine L.move hF rfl rfl rfl ?_
      obtain ⟨b127, hb127, H⟩ := bindS H
      refine L.idxR (xs := v114) (e := eTimpl_Act) Try.underlying86 info195 hF rfl rfl rfl rfl rfl hb127 rfl rfl ?_
      refine L.fieldAddr Try.underlying195 rfl info3 rfl hF rfl rfl rfl rfl rfl ?_
      refine L.storeEp (xs := v114) (e := eTimpl_Act) (a' := (⟨v115, b127.A, b127.B, b127.C, b127.D, (⟨b127.Rest.Servers, b127.Rest.Ops, b127.Rest.End⟩ : Timpl_Rest), b127.Text⟩ : Timpl_Act)) shape3 hF rfl rfl rfl rfl rfl rfl rfl (at?_get hb127).2 rfl rfl ?_
      refine L.nil ?_
      refine WpC.seq ?_
      refine WpC.regionL ?_
      refine L.move hF rfl rfl rfl ?_
      refine L.bin hF rfl rfl rfl rfl rfl rfl ?_
      refine L.assign hF rfl rfl rfl ?_
      refine L.nil ?_
      refine WpC.seq ?_
      refine WpC.regionL ?_
      refine L.move hF rfl rfl rfl ?_
      refine L.move hF rfl rfl rfl ?_
      refine L.move hF rfl rfl rfl ?_
      obtain ⟨b128, hb128, H⟩ := bindS H
      refine L.idxR (xs := (v114.set v116.toNat (⟨v115, b127.A, b127.B, b127.C, b127.D, (⟨b127.Rest.Servers, b127.Rest.Ops, b127.Rest.End⟩ : Timpl_Rest), b127.Text⟩ : Timpl_Act))) (e := eTimpl_Act) Try.underlying86 info195 hF rfl rfl rfl rfl rfl hb128 rfl rfl ?_
      refine L.fieldAddr Try.underlying195 rfl info3 rfl hF rfl rfl rfl rfl rfl ?_
      refine L.storeEp (xs := (v114.set v116.toNat (⟨v115, b127.A, b127.B, b127.C, b127.D, (⟨b127.Rest.Servers, b127.Rest.Ops, b127.Rest.End⟩ : Timpl_Rest), b127.Text⟩ : Timpl_Act))) (e := eTimpl_Act) (a' := (⟨b128.Kind, (IntKind.i64.wrap (v115 + (1 : Int))), b128.B, b128.C, b128.D, (⟨b128.Rest.Servers, b128.Rest.Ops, b128.Rest.End⟩ : Timpl_Rest), b128.Text⟩ : Timpl_Act)) shape3 hF rfl rfl rfl rfl rfl rfl rfl (at?_get hb128).2 rfl rfl ?_
      refine L.nil ?_
      refine WpC.seq ?_
      refine WpC.regionL ?_
      refine L.move hF rfl rfl rfl ?_
      refine L.bin hF rfl rfl rfl rfl rfl rfl ?_
      refine L.assign hF rfl rfl rfl ?_
      refine L.nil ?_
      refine WpC.seq ?_
      refine WpC.regionL ?_
      refine L.move hF rfl rfl rfl ?_
      refine L.move hF rfl rfl rfl ?_
      refine L.move hF rfl rfl rfl ?_
      obtain ⟨b129, hb129, H⟩ := bindS H
      refine L.idxR (xs := ((v114.set v116.toNat (⟨v115, b127.A, b127.B, b127.C, b127.D, (⟨b127.Rest.Servers, b127.Rest.Ops, b127.Rest.End⟩ : Timpl_Rest), b127.Text⟩ : Timpl_Act)).set v116.toNat (⟨b128.Kind, (IntKind.i64.wrap (v115 + (1 : Int))), b128.B, b128.C, b128.D, (⟨b128.Rest.Servers, b128.Rest.Ops, b128.Rest.End⟩ : Timpl_Rest), b128.Text⟩ : Timpl_Act))) (e := eTimpl_Act) Try.underlying86 info195 hF rfl rfl rfl rfl rfl hb129 rfl rfl ?_
      refine L.fieldAddr Try.underlying195 rfl info3 rfl hF rfl rfl rfl rfl rfl ?_
      refine L.storeEp (xs := ((v114.set v116.toNat (⟨v115, b127.A, b127.B, b127.C, b127.D, (⟨b127.Rest.Servers, b127.Rest.Ops, b127.Rest.End⟩ : Timpl_Rest), b127.Text⟩ : Timpl_Act)).set v116.toNat (⟨b128.Kind, (IntKind.i64.wrap (v115 + (1 : Int))), b128.B, b128.C, b128.D, (⟨b128.Rest.Servers, b128.Rest.Ops, b128.Rest.End⟩ : Timpl_Rest), b128.Text⟩ : Timpl_Act))) (e := eTimpl_Act) (a' := (⟨b129.Kind, b129.A, (IntKind.i64.wrap ((IntKind.i64.wrap (v115 + (1 : Int))) + (1 : Int))), b129.C, b129.D, (⟨b129.Rest.Servers, b129.Rest.Ops, b129.Rest.End⟩ : Timpl_Rest), b129.Text⟩ : Timpl_Act)) shape3 hF rfl rfl rfl rfl rfl rfl rfl (at?_get hb129).2 rfl rfl ?_
      refine L.nil ?_
      refine WpC.seq ?_
      refine WpC.regionL ?_
      refine L.move hF rfl rfl rfl ?_
      refine L.bin hF rfl rfl rfl rfl rfl rfl ?_
      refine L.assign hF rfl rfl rfl ?_
      refine L.nil ?_
      refine WpC.seq ?_
      refine WpC.regionL ?_
      refine L.move hF rfl rfl rfl ?_
      refine L.move hF rfl rfl rfl ?_
      refine L.move hF rfl rfl rfl ?_
      obtain ⟨b130, hb130, H⟩ := bindS H
      refine L.idxR (xs := (((v114.set v116.toNat (⟨v115, b127.A, b127.B, b127.C, b127.D, (⟨b127.Rest.Servers, b127.Rest.Ops, b127.Rest.End⟩ : Timpl_Rest), b127.Text⟩ : Timpl_Act)).set v116.toNat (⟨b128.Kind, (IntKind.i64.wrap (v115 + (1 : Int))), b128.B, b128.C, b128.D, (⟨b128.Rest.Servers, b128.Rest.Ops, b128.Rest.End⟩ : Timpl_Rest), b128.Text⟩ : Timpl_Act)).set v116.toNat (⟨b129.Kind, b129.A, (IntKind.i64.wrap ((IntKind.i64.wrap (v115 + (1 : Int))) + (1 : Int))), b129.C, b129.D, (⟨b129.Rest.Servers, b129.Rest.Ops, b129.Rest.End⟩ : Timpl_Rest), b129.Text⟩ : Timpl_Act))) (e := eTimpl_Act) Try.underlying86 info195 hF rfl rfl rfl rfl rfl hb130 rfl rfl ?_
      refine L.fieldAddr Try.underlying195 rfl info3 rfl hF rfl rfl rfl rfl rfl ?_
      refine L.storeEp (xs := (((v114.set v116.toNat (⟨v115, b127.A, b127.B, b127.C, b127.D, (⟨b127.Rest.Servers, b127.Rest.Ops, b127.Rest.End⟩ : Timpl_Rest), b127.Text⟩ : Timpl_Act)).set v116.toNat (⟨b128.Kind, (IntKind.i64.wrap (v115 + (1 : Int))), b128.B, b128.C, b128.D, (⟨b128.Rest.Servers, b128.Rest.Ops, b128.Rest.End⟩ : Timpl_Rest), b128.Text⟩ : Timpl_Act)).set v116.toNat (⟨b129.Kind, b129.A, (IntKind.i64.wrap ((IntKind.i64.wrap (v115 + (1 : Int))) + (1 : Int))), b129.C, b129.D, (⟨b129.Rest.Servers, b129.Rest.Ops, b129.Rest.End⟩ : Timpl_Rest), b129.Text⟩ : Timpl_Act))) (e := eTimpl_Act) (a' := (⟨b130.Kind, b130.A, b130.B, (IntKind.i64.wrap ((IntKind.i64.wrap ((IntKind.i64.wrap (v115 + (1 : Int))) + (1 : Int))) + (1 : Int))), b130.D, (⟨b130.Rest.Servers, b130.Rest.Ops, b130.Rest.End⟩ : Timpl_Rest), b130.Text⟩ : Timpl_Act)) shape3 hF rfl rfl rfl rfl rfl rfl rfl (at?_get hb130).2 rfl rfl ?_
      refine L.nil ?_
      refine WpC.seq ?_
      refine WpC.regionL ?_
      refine L.move hF rfl rfl rfl ?_
      refine L.bin hF rfl rfl rfl rfl rfl rfl ?_
      refine L.assign hF rfl rfl rfl ?_
      refine L.nil ?_
      refine WpC.seq ?_
      refine WpC.regionL ?_
      refine L.move hF rfl rfl rfl ?_
      refine L.move hF rfl rfl rfl ?_
      refine L.move hF rfl rfl rfl ?_
      obtain ⟨b131, hb131, H⟩ := bindS H
      refine L.idxR (xs := ((((v114.set v116.toNat (⟨v115, b127.A, b127.B, b127.C, b127.D, (⟨b127.Rest.Servers, b127.Rest.Ops, b127.Rest.End⟩ : Timpl_Rest), b127.Text⟩ : Timpl_Act)).set v116.toNat (⟨b128.Kind, (IntKind.i64.wrap (v115 + (1 : Int))), b128.B, b128.C, b128.D, (⟨b128.Rest.Servers, b128.Rest.Ops, b128.Rest.End⟩ : Timpl_Rest), b128.Text⟩ : Timpl_Act)).set v116.toNat (⟨b129.Kind, b129.A, (IntKind.i64.wrap ((IntKind.i64.wrap (v115 + (1 : Int))) + (1 : Int))), b129.C, b129.D, (⟨b129.Rest.Servers, b129.Rest.Ops, b129.Rest.End⟩ : Timpl_Rest), b129.Text⟩ : Timpl_Act)).set v116.toNat (⟨b130.Kind, b130.A, b130.B, (IntKind.i64.wrap ((IntKind.i64.wrap ((IntKind.i64.wrap (v115 + (1 : Int))) + (1 : Int))) + (1 : Int))), b130.D, (⟨b130.Rest.Servers, b130.Rest.Ops, b130.Rest.End⟩ : Timpl_Rest), b130.Text⟩ : Timpl_Act))) (e := eTimpl_Act) Try.underlying86 info195 hF rfl rfl rfl rfl rfl hb131 rfl rfl ?_
      refine L.fieldAddr Try.underlying195 rfl info3 rfl hF rfl rfl rfl rfl rfl ?_
      refine L.storeEp (xs := ((((v114.set v116.toNat (⟨v115, b127.A, b127.B, b127.C, b127.D, (⟨b127.Rest.Servers, b127.Rest.Ops, b127.Rest.End⟩ : Timpl_Rest), b127.Text⟩ : Timpl_Act)).set v116.toNat (⟨b128.Kind, (IntKind.i64.wrap (v115 + (1 : Int))), b128.B, b128.C, b128.D, (⟨b128.Rest.Servers, b128.Rest.Ops, b128.Rest.End⟩ : Timpl_Rest), b128.Text⟩ : Timpl_Act)).set v116.toNat (⟨b129.Kind, b129.A, (IntKind.i64.wrap ((IntKind.i64.wrap (v115 + (1 : Int))) + (1 : Int))), b129.C, b129.D, (⟨b129.Rest.Servers, b129.Rest.Ops, b129.Rest.End⟩ : Timpl_Rest), b129.Text⟩ : Timpl_Act)).set v116.toNat (⟨b130.Kind, b130.A, b130.B, (IntKind.i64.wrap ((IntKind.i64.wrap ((IntKind.i64.wrap (v115 + (1 : Int))) + (1 : Int))) + (1 : Int))), b130.D, (⟨b130.Rest.Servers, b130.Rest.Ops, b130.Rest.End⟩ : Timpl_Rest), b130.Text⟩ : Timpl_Act))) (e := eTimpl_Act) (a' := (⟨b131.Kind, b131.A, b131.B, b131.C, (IntKind.i64.wrap ((IntKind.i64.wrap ((IntKind.i64.wrap ((IntKind.i64.wrap (v115 + (1 : Int))) + (1 : Int))) + (1 : Int))) + (1 : Int))), (⟨b131.Rest.Servers, b131.Rest.Ops, b131.Rest.End⟩ : Timpl_Rest), b131.Text⟩ : Timpl_Act)) shape3 hF rfl rfl rfl rfl rfl rfl rfl (at?_get hb131).2 rfl rfl ?_
      refine L.nil ?_
      refine WpC.seq ?_
      refine WpC.regionL ?_
      refine L.move hF rfl rfl rfl ?_
      refine L.bin hF rfl rfl rfl rfl rfl rfl ?_
      refine L.assign hF rfl rfl rfl ?_
      refine L.nil ?_
      refine WpC.seq ?_
      refine WpC.regionL ?_
      refine L.move hF rfl rfl rfl ?_
      refine L.move hF rfl rfl rfl ?_
      refine L.move hF rfl rfl rfl ?_
      obtain ⟨b132, hb132, H⟩ := bindS H
      refine L.idxR (xs := (((((v114.set v116.toNat (⟨v115, b127.A, b127.B, b127.C, b127.D, (⟨b127.Rest.Servers, b127.Rest.Ops, b127.Rest.End⟩ : Timpl_Rest), b127.Text⟩ : Timpl_Act)).set v116.toNat (⟨b128.Kind, (IntKind.i64.wrap (v115 + (1 : Int))), b128.B, b128.C, b128.D, (⟨b128.Rest.Servers, b128.Rest.Ops, b128.Rest.End⟩ : Timpl_Rest), b128.Text⟩ : Timpl_Act)).set v116.toNat (⟨b129.Kind, b129.A, (IntKind.i64.wrap ((IntKind.i64.wrap (v115 + (1 : Int))) + (1 : Int))), b129.C, b129.D, (⟨b129.Rest.Servers, b129.Rest.Ops, b129.Rest.End⟩ : Timpl_Rest), b129.Text⟩ : Timpl_Act)).set v116.toNat (⟨b130.Kind, b130.A, b130.B, (IntKind.i64.wrap ((IntKind.i64.wrap ((IntKind.i64.wrap (v115 + (1 : Int))) + (1 : Int))) + (1 : Int))), b130.D, (⟨b130.Rest.Servers, b130.Rest.Ops, b130.Rest.End⟩ : Timpl_Rest), b130.Text⟩ : Timpl_Act)).set v116.toNat (⟨b131.Kind, b131.A, b131.B, b131.C, (IntKind.i64.wrap ((IntKind.i64.wrap ((IntKind.i64.wrap ((IntKind.i64.wrap (v115 + (1 : Int))) + (1 : Int))) + (1 : Int))) + (1 : Int))), (⟨b131.Rest.Servers, b131.Rest.Ops, b131.Rest.End⟩ : Timpl_Rest), b131.Text⟩ : Timpl_Act))) (e := eTimpl_Act) Try.underlying86 info195 hF rfl rfl rfl rfl rfl hb132 rfl rfl ?_
      refine L.fieldAddr Try.underlying195 rfl info74 rfl hF rfl rfl rfl rfl rfl ?_
      refine L.fieldAddr Try.underlying74 rfl info3 rfl hF rfl rfl rfl rfl rfl ?_
      refine L.storeEp (xs := (((((v114.set v116.toNat (⟨v115, b127.A, b127.B, b127.C, b127.D, (⟨b127.Rest.Servers, b127.Rest.Ops, b127.Rest.End⟩ : Timpl_Rest), b127.Text⟩ : Timpl_Act)).set v116.toNat (⟨b128.Kind, (IntKind.i64.wrap (v115 + (1 : Int))), b128.B, b128.C, b128.D, (⟨b128.Rest.Servers, b128.Rest.Ops, b128.Rest.End⟩ : Timpl_Rest), b128.Text⟩ : Timpl_Act)).set v116.toNat (⟨b129.Kind, b129.A, (IntKind.i64.wrap ((IntKind.i64.wrap (v115 + (1 : Int))) + (1 : Int))), b129.C, b129.D, (⟨b129.Rest.Servers, b129.Rest.Ops, b129.Rest.End⟩ : Timpl_Rest), b129.Text⟩ : Timpl_Act)).set v116.toNat (⟨b130.Kind, b130.A, b130.B, (IntKind.i64.wrap ((IntKind.i64.wrap ((IntKind.i64.wrap (v115 + (1 : Int))) + (1 : Int))) + (1 : Int))), b130.D, (⟨b130.Rest.Servers, b130.Rest.Ops, b130.Rest.End⟩ : Timpl_Rest), b130.Text⟩ : Timpl_Act)).set v116.toNat (⟨b131.Kind, b131.A, b131.B, b131.C, (IntKind.i64.wrap ((IntKind.i64.wrap ((IntKind.i64.wrap ((IntKind.i64.wrap (v115 + (1 : Int))) + (1 : Int))) + (1 : Int))) + (1 : Int))), (⟨b131.Rest.Servers, b131.Rest.Ops, b131.Rest.End⟩ : Timpl_Rest), b131.Text⟩ : Timpl_Act))) (e := eTimpl_Act) (a' := (⟨b132.Kind, b132.A, b132.B, b132.C, b132.D, (⟨(IntKind.i64.wrap ((IntKind.i64.wrap ((IntKind.i64.wrap ((IntKind.i64.wrap ((IntKind.i64.wrap (v115 + (1 : Int))) + (1 : Int))) + (1 : Int))) + (1 : Int))) + (1 : Int))), b132.Rest.Ops, b132.Rest.End⟩ : Timpl_Rest), b132.Text⟩ : Timpl_Act)) shape3 hF rfl rfl rfl rfl rfl rfl rfl (at?_get hb132).2 rfl rfl ?_
      refine L.nil ?_
      refine WpC.seq ?_
      refine WpC.regionL ?_
      refine L.move hF rfl rfl rfl ?_
      refine L.bin hF rfl rfl rfl rfl rfl rfl ?_
      refine L.assign hF rfl rfl rfl ?_
      refine L.nil ?_
      refine WpC.seq ?_
      refine WpC.regionL ?_
      refine L.move hF rfl rfl rfl ?_
      refine L.move hF rfl rfl rfl ?_
      refine L.move hF rfl rfl rfl ?_
      obtain ⟨b133, hb133, H⟩ := bindS H
      refine L.idxR (xs := ((((((v114.set v116.toNat (⟨v115, b127.A, b127.B, b127.C, b127.D, (⟨b127.Rest.Servers, b127.Rest.Ops, b127.Rest.End⟩ : Timpl_Rest), b127.Text⟩ : Timpl_Act)).set v116.toNat (⟨b128.Kind, (IntKind.i64.wrap (v115 + (1 : Int))), b128.B, b128.C, b128.D, (⟨b128.Rest.Servers, b128.Rest.Ops, b128.Rest.End⟩ : Timpl_Rest), b128.Text⟩ : Timpl_Act)).set v116.toNat (⟨b129.Kind, b129.A, (IntKind.i64.wrap ((IntKind.i64.wrap (v115 + (1 : Int))) + (1 : Int))), b129.C, b129.D, (⟨b129.Rest.Servers, b129.Rest.Ops, b129.Rest.End⟩ : Timpl_Rest), b129.Text⟩ : Timpl_Act)).set v116.toNat (⟨b130.Kind, b130.A, b130.B, (IntKind.i64.wrap ((IntKind.i64.wrap ((IntKind.i64.wrap (v115 + (1 : Int))) + (1 : Int))) + (1 : Int))), b130.D, (⟨b130.Rest.Servers, b130.Rest.Ops, b130.Rest.End⟩ : Timpl_Rest), b130.Text⟩ : Timpl_Act)).set v116.toNat (⟨b131.Kind, b131.A, b131.B, b131.C, (IntKind.i64.wrap ((IntKind.i64.wrap ((IntKind.i64.wrap ((IntKind.i64.wrap (v115 + (1 : Int))) + (1 : Int))) + (1 : Int))) + (1 : Int))), (⟨b131.Rest.Servers, b131.Rest.Ops, b131.Rest.End⟩ : Timpl_Rest), b131.Text⟩ : Timpl_Act)).set v116.toNat (⟨b132.Kind, b132.A, b132.B, b132.C, b132.D, (⟨(IntKind.i64.wrap ((IntKind.i64.wrap ((IntKind.i64.wrap ((IntKind.i64.wrap ((IntKind.i64.wrap (v115 + (1 : Int))) + (1 : Int))) + (1 : Int))) + (1 : Int))) + (1 : Int))), b132.Rest.Ops, b132.Rest.End⟩ : Timpl_Rest), b132.Text⟩ : Timpl_Act))) (e := eTimpl_Act) Try.underlying86 info195 hF rfl rfl rfl rfl rfl hb133 rfl rfl ?_
      refine L.fieldAddr Try.underlying195 rfl info74 rfl hF rfl rfl rfl rfl rfl ?_
      refine L.fieldAddr Try.underlying74 rfl info3 rfl hF rfl rfl rfl rfl rfl ?_
      refine L.storeEp (xs := ((((((v114.set v116.toNat (⟨v115, b127.A, b127.B, b127.C, b127.D, (⟨b127.Rest.Servers, b127.Rest.Ops, b127.Rest.End⟩ : Timpl_Rest), b127.Text⟩ : Timpl_Act)).set v116.toNat (⟨b128.Kind, (IntKind.i64.wrap (v115 + (1 : Int))), b128.B, b128.C, b128.D, (⟨b128.Rest.Servers, b128.Rest.Ops, b128.Rest.End⟩ : Timpl_Rest), b128.Text⟩ : Timpl_Act)).set v116.toNat (⟨b129.Kind, b129.A, (IntKind.i64.wrap ((IntKind.i64.wrap (v115 + (1 : Int))) + (1 : Int))), b129.C, b129.D, (⟨b129.Rest.Servers, b129.Rest.Ops, b129.Rest.End⟩ : Timpl_Rest), b129.Text⟩ : Timpl_Act)).set v116.toNat (⟨b130.Kind, b130.A, b130.B, (IntKind.i64.wrap ((IntKind.i64.wrap ((IntKind.i64.wrap (v115 + (1 : Int))) + (1 : Int))) + (1 : Int))), b130.D, (⟨b130.Rest.Servers, b130.Rest.Ops, b130.Rest.End⟩ : Timpl_Rest), b130.Text⟩ : Timpl_Act)).set v116.toNat (⟨b131.Kind, b131.A, b131.B, b131.C, (IntKind.i64.wrap ((IntKind.i64.wrap ((IntKind.i64.wrap ((IntKind.i64.wrap (v115 + (1 : Int))) + (1 : Int))) + (1 : Int))) + (1 : Int))), (⟨b131.Rest.Servers, b131.Rest.Ops, b131.Rest.End⟩ : Timpl_Rest), b131.Text⟩ : Timpl_Act)).set v116.toNat (⟨b132.Kind, b132.A, b132.B, b132.C, b132.D, (⟨(IntKind.i64.wrap ((IntKind.i64.wrap ((IntKind.i64.wrap ((IntKind.i64.wrap ((IntKind.i64.wrap (v115 + (1 : Int))) + (1 : Int))) + (1 : Int))) + (1 : Int))) + (1 : Int))), b132.Rest.Ops, b132.Rest.End⟩ : Timpl_Rest), b132.Text⟩ : Timpl_Act))) (e := eTimpl_Act) (a' := (⟨b133.Kind, b133.A, b133.B, b133.C, b133.D, (⟨b133.Rest.Servers, (IntKind.i64.wrap ((IntKind.i64.wrap ((IntKind.i64.wrap ((IntKind.i64.wrap ((IntKind.i64.wrap ((IntKind.i64.wrap (v115 + (1 : Int))) + (1 : Int))) + (1 : Int))) + (1 : Int))) + (1 : Int))) + (1 : Int))), b133.Rest.End⟩ : Timpl_Rest), b133.Text⟩ : Timpl_Act)) shape3 hF rfl rfl rfl rfl rfl rfl rfl (at?_get hb133).2 rfl rfl ?_
      refine L.nil ?_
      refine WpC.seq ?_
      refine WpC.regionL ?_
      refine L.move hF rfl rfl rfl ?_
      refine L.bin hF rfl rfl rfl rfl rfl rfl ?_
      refine L.assign hF rfl rfl rfl ?_
      refine L.nil ?_
      refine WpC.seq ?_
      refine WpC.regionL ?_
      refine L.move hF rfl rfl rfl ?_
      refine L.move hF rfl rfl rfl ?_
      refine L.move hF rfl rfl rfl ?_
      obtain ⟨b134, hb134, H⟩ := bindS H
      refine L.idxR (xs := (((((((v114.set v116.toNat (⟨v115, b127.A, b127.B, b127.C, b127.D, (⟨b127.Rest.Servers, b127.Rest.Ops, b127.Rest.End⟩ : Timpl_Rest), b127.Text⟩ : Timpl_Act)).set v116.toNat (⟨b128.Kind, (IntKind.i64.wrap (v115 + (1 : Int))), b128.B, b128.C, b128.D, (⟨b128.Rest.Servers, b128.Rest.Ops, b128.Rest.End⟩ : Timpl_Rest), b128.Text⟩ : Timpl_Act)).set v116.toNat (⟨b129.Kind, b129.A, (IntKind.i64.wrap ((IntKind.i64.wrap (v115 + (1 : Int))) + (1 : Int))), b129.C, b129.D, (⟨b129.Rest.Servers, b129.Rest.Ops, b129.Rest.End⟩ : Timpl_Rest), b129.Text⟩ : Timpl_Act)).set v116.toNat (⟨b130.Kind, b130.A, b130.B, (IntKind.i64.wrap ((IntKind.i64.wrap ((IntKind.i64.wrap (v115 + (1 : Int))) + (1 : Int))) + (1 : Int))), b130.D, (⟨b130.Rest.Servers, b130.Rest.Ops, b130.Rest.End⟩ : Timpl_Rest), b130.Text⟩ : Timpl_Act)).set v116.toNat (⟨b131.Kind, b131.A, b131.B, b131.C, (IntKind.i64.wrap ((IntKind.i64.wrap ((IntKind.i64.wrap ((IntKind.i64.wrap (v115 + (1 : Int))) + (1 : Int))) + (1 : Int))) + (1 : Int))), (⟨b131.Rest.Servers, b131.Rest.Ops, b131.Rest.End⟩ : Timpl_Rest), b131.Text⟩ : Timpl_Act)).set v116.toNat (⟨b132.Kind, b132.A, b132.B, b132.C, b132.D, (⟨(IntKind.i64.wrap ((IntKind.i64.wrap ((IntKind.i64.wrap ((IntKind.i64.wrap ((IntKind.i64.wrap (v115 + (1 : Int))) + (1 : Int))) + (1 : Int))) + (1 : Int))) + (1 : Int))), b132.Rest.Ops, b132.Rest.End⟩ : Timpl_Rest), b132.Text⟩ : Timpl_Act)).set v116.toNat (⟨b133.Kind, b133.A, b133.B, b133.C, b133.D, (⟨b133.Rest.Servers, (IntKind.i64.wrap ((IntKind.i64.wrap ((IntKind.i64.wrap ((IntKind.i64.wrap ((IntKind.i64.wrap ((IntKind.i64.wrap (v115 + (1 : Int))) + (1 : Int))) + (1 : Int))) + (1 : Int))) + (1 : Int))) + (1 : Int))), b133.Rest.End⟩ : Timpl_Rest), b133.Text⟩ : Timpl_Act))) (e := eTimpl_Act) Try.underlying86 info195 hF rfl rfl rfl rfl rfl hb134 rfl rfl ?_
      refine L.fieldAddr Try.underlying195 rfl info74 rfl hF rfl rfl rfl rfl rfl ?_
      refine L.fieldAddr Try.underlying74 rfl info3 rfl hF rfl rfl rfl rfl rfl ?_
      refine L.storeEp (xs := (((((((v114.set v116.toNat (⟨v115, b127.A, b127.B, b127.C, b127.D, (⟨b127.Rest.Servers, b127.Rest.Ops, b127.Rest.End⟩ : Timpl_Rest), b127.Text⟩ : Timpl_Act)).set v116.toNat (⟨b128.Kind, (IntKind.i64.wrap (v115 + (1 : Int))), b128.B, b128.C, b128.D, (⟨b128.Rest.Servers, b128.Rest.Ops, b128.Rest.End⟩ : Timpl_Rest), b128.Text⟩ : Timpl_Act)).set v116.toNat (⟨b129.Kind, b129.A, (IntKind.i64.wrap ((IntKind.i64.wrap (v115 + (1 : Int))) + (1 : Int))), b129.C, b129.D, (⟨b129.Rest.Servers, b129.Rest.Ops, b129.Rest.End⟩ : Timpl_Rest), b129.Text⟩ : Timpl_Act)).set v116.toNat (⟨b130.Kind, b130.A, b130.B, (IntKind.i64.wrap ((IntKind.i64.wrap ((IntKind.i64.wrap (v115 + (1 : Int))) + (1 : Int))) + (1 : Int))), b130.D, (⟨b130.Rest.Servers, b130.Rest.Ops, b130.Rest.End⟩ : Timpl_Rest), b130.Text⟩ : Timpl_Act)).set v116.toNat (⟨b131.Kind, b131.A, b131.B, b131.C, (IntKind.i64.wrap ((IntKind.i64.wrap ((IntKind.i64.wrap ((IntKind.i64.wrap (v115 + (1 : Int))) + (1 : Int))) + (1 : Int))) + (1 : Int))), (⟨b131.Rest.Servers, b131.Rest.Ops, b131.Rest.End⟩ : Timpl_Rest), b131.Text⟩ : Timpl_Act)).set v116.toNat (⟨b132.Kind, b132.A, b132.B, b132.C, b132.D, (⟨(IntKind.i64.wrap ((IntKind.i64.wrap ((IntKind.i64.wrap ((IntKind.i64.wrap ((IntKind.i64.wrap (v115 + (1 : Int))) + (1 : Int))) + (1 : Int))) + (1 : Int))) + (1 : Int))), b132.Rest.Ops, b132.Rest.End⟩ : Timpl_Rest), b132.Text⟩ : Timpl_Act)).set v116.toNat (⟨b133.Kind, b133.A, b133.B, b133.C, b133.D, (⟨b133.Rest.Servers, (IntKind.i64.wrap ((IntKind.i64.wrap ((IntKind.i64.wrap ((IntKind.i64.wrap ((IntKind.i64.wrap ((IntKind.i64.wrap (v115 + (1 : Int))) + (1 : Int))) + (1 : Int))) + (1 : Int))) + (1 : Int))) + (1 : Int))), b133.Rest.End⟩ : Timpl_Rest), b133.Text⟩ : Timpl_Act))) (e := eTimpl_Act) (a' := (⟨b134.Kind, b134.A, b134.B, b134.C, b134.D, (⟨b134.Rest.Servers, b134.Rest.Ops, (IntKind.i64.wrap ((IntKind.i64.wrap ((IntKind.i64.wrap ((IntKind.i64.wrap ((IntKind.i64.wrap ((IntKind.i64.wrap ((IntKind.i64.wrap (v115 + (1 : Int))) + (1 : Int))) + (1 : Int))) + (1 : Int))) + (1 : Int))) + (1 : Int))) + (1 : Int)))⟩ : Timpl_Rest), b134.Text⟩ : Timpl_Act)) shape3 hF rfl rfl rfl rfl rfl rfl rfl (at?_get hb134).2 rfl rfl ?_
      refine L.nil ?_
      refine WpC.seq ?_
      refine WpC.regionL ?_
      refine L.move hF rfl rfl rfl ?_
      refine L.bin hF rfl rfl rfl rfl rfl rfl ?_
      refine L.assign hF rfl rfl rfl ?_
      refine L.nil ?_
      refine WpC.seq ?_
      refine WpC.regionL ?_
      refine L.move hF rfl rfl rfl ?_
      refine L.move hF rfl rfl rfl ?_
      refine L.move hF rfl rfl rfl ?_
      obtain ⟨r135, hr135, H⟩ := bindS H
      refine L.call [false] [] [] 2 hF rfl rfl rfl ent107 rfl rfl rfl rfl rfl (Flaws_markText_gives k2  (IntKind.i64.wrap ((IntKind.i64.wrap ((IntKind.i64.wrap ((IntKind.i64.wrap ((IntKind.i64.wrap ((IntKind.i64.wrap ((IntKind.i64.wrap ((IntKind.i64.wrap (v115 + (1 : Int))) + (1 : Int))) + (1 : Int))) + (1 : Int))) + (1 : Int))) + (1 : Int))) + (1 : Int))) + (1 : Int))) r135 hr135) rfl ?_
      obtain ⟨b136, hb136, H⟩ := bindS H
      refine L.idxR (xs := ((((((((v114.set v116.toNat (⟨v115, b127.A, b127.B, b127.C, b127.D, (⟨b127.Rest.Servers, b127.Rest.Ops, b127.Rest.End⟩ : Timpl_Rest), b127.Text⟩ : Timpl_Act)).set v116.toNat (⟨b128.Kind, (IntKind.i64.wrap (v115 + (1 : Int))), b128.B, b128.C, b128.D, (⟨b128.Rest.Servers, b128.Rest.Ops, b128.Rest.End⟩ : Timpl_Rest), b128.Text⟩ : Timpl_Act)).set v116.toNat (⟨b129.Kind, b129.A, (IntKind.i64.wrap ((IntKind.i64.wrap (v115 + (1 : Int))) + (1 : Int))), b129.C, b129.D, (⟨b129.Rest.Servers, b129.Rest.Ops, b129.Rest.End⟩ : Timpl_Rest), b129.Text⟩ : Timpl_Act)).set v116.toNat (⟨b130.Kind, b130.A, b130.B, (IntKind.i64.wrap ((IntKind.i64.wrap ((IntKind.i64.wrap (v115 + (1 : Int))) + (1 : Int))) + (1 : Int))), b130.D, (⟨b130.Rest.Servers, b130.Rest.Ops, b130.Rest.End⟩ : Timpl_Rest), b130.Text⟩ : Timpl_Act)).set v116.toNat (⟨b131.Kind, b131.A, b131.B, b131.C, (IntKind.i64.wrap ((IntKind.i64.wrap ((IntKind.i64.wrap ((IntKind.i64.wrap (v115 + (1 : Int))) + (1 : Int))) + (1 : Int))) + (1 : Int))), (⟨b131.Rest.Servers, b131.Rest.Ops, b131.Rest.End⟩ : Timpl_Rest), b131.Text⟩ : Timpl_Act)).set v116.toNat (⟨b132.Kind, b132.A, b132.B, b132.C, b132.D, (⟨(IntKind.i64.wrap ((IntKind.i64.wrap ((IntKind.i64.wrap ((IntKind.i64.wrap ((IntKind.i64.wrap (v115 + (1 : Int))) + (1 : Int))) + (1 : Int))) + (1 : Int))) + (1 : Int))), b132.Rest.Ops, b132.Rest.End⟩ : Timpl_Rest), b132.Text⟩ : Timpl_Act)).set v116.toNat (⟨b133.Kind, b133.A, b133.B, b133.C, b133.D, (⟨b133.Rest.Servers, (IntKind.i64.wrap ((IntKind.i64.wrap ((IntKind.i64.wrap ((IntKind.i64.wrap ((IntKind.i64.wrap ((IntKind.i64.wrap (v115 + (1 : Int))) + (1 : Int))) + (1 : Int))) + (1 : Int))) + (1 : Int))) + (1 : Int))), b133.Rest.End⟩ : Timpl_Rest), b133.Text⟩ : Timpl_Act)).set v116.toNat (⟨b134.Kind, b134.A, b134.B, b134.C, b134.D, (⟨b134.Rest.Servers, b134.Rest.Ops, (IntKind.i64.wrap ((IntKind.i64.wrap ((IntKind.i64.wrap ((IntKind.i64.wrap ((IntKind.i64.wrap ((IntKind.i64.wrap ((IntKind.i64.wrap (v115 + (1 : Int))) + (1 : Int))) + (1 : Int))) + (1 : Int))) + (1 : Int))) + (1 : Int))) + (1 : Int)))⟩ : Timpl_Rest), b134.Text⟩ : Timpl_Act))) (e := eTimpl_Act) Try.underlying86 info195 hF rfl rfl rfl rfl rfl hb136 rfl rfl ?_
      refine L.fieldAddr Try.underlying195 rfl info9 rfl hF rfl rfl rfl rfl rfl ?_
      refine L.storeEp (xs := ((((((((v114.set v116.toNat (⟨v115, b127.A, b127.B, b127.C, b127.D, (⟨b127.Rest.Servers, b127.Rest.Ops, b127.Rest.End⟩ : Timpl_Rest), b127.Text⟩ : Timpl_Act)).set v116.toNat (⟨b128.Kind, (IntKind.i64.wrap (v115 + (1 : Int))), b128.B, b128.C, b128.D, (⟨b128.Rest.Servers, b128.Rest.Ops, b128.Rest.End⟩ : Timpl_Rest), b128.Text⟩ : Timpl_Act)).set v116.toNat (⟨b129.Kind, b129.A, (IntKind.i64.wrap ((IntKind.i64.wrap (v115 + (1 : Int))) + (1 : Int))), b129.C, b129.D, (⟨b129.Rest.Servers, b129.Rest.Ops, b129.Rest.End⟩ : Timpl_Rest), b129.Text⟩ : Timpl_Act)).set v116.toNat (⟨b130.Kind, b130.A, b130.B, (IntKind.i64.wrap ((IntKind.i64.wrap ((IntKind.i64.wrap (v115 + (1 : Int))) + (1 : Int))) + (1 : Int))), b130.D, (⟨b130.Rest.Servers, b130.Rest.Ops, b130.Rest.End⟩ : Timpl_Rest), b130.Text⟩ : Timpl_Act)).set v116.toNat (⟨b131.Kind, b131.A, b131.B, b131.C, (IntKind.i64.wrap ((IntKind.i64.wrap ((IntKind.i64.wrap ((IntKind.i64.wrap (v115 + (1 : Int))) + (1 : Int))) + (1 : Int))) + (1 : Int))), (⟨b131.Rest.Servers, b131.Rest.Ops, b131.Rest.End⟩ : Timpl_Rest), b131.Text⟩ : Timpl_Act)).set v116.toNat (⟨b132.Kind, b132.A, b132.B, b132.C, b132.D, (⟨(IntKind.i64.wrap ((IntKind.i64.wrap ((IntKind.i64.wrap ((IntKind.i64.wrap ((IntKind.i64.wrap (v115 + (1 : Int))) + (1 : Int))) + (1 : Int))) + (1 : Int))) + (1 : Int))), b132.Rest.Ops, b132.Rest.End⟩ : Timpl_Rest), b132.Text⟩ : Timpl_Act)).set v116.toNat (⟨b133.Kind, b133.A, b133.B, b133.C, b133.D, (⟨b133.Rest.Servers, (IntKind.i64.wrap ((IntKind.i64.wrap ((IntKind.i64.wrap ((IntKind.i64.wrap ((IntKind.i64.wrap ((IntKind.i64.wrap (v115 + (1 : Int))) + (1 : Int))) + (1 : Int))) + (1 : Int))) + (1 : Int))) + (1 : Int))), b133.Rest.End⟩ : Timpl_Rest), b133.Text⟩ : Timpl_Act)).set v116.toNat (⟨b134.Kind, b134.A, b134.B, b134.C, b134.D, (⟨b134.Rest.Servers, b134.Rest.Ops, (IntKind.i64.wrap ((IntKind.i64.wrap ((IntKind.i64.wrap ((IntKind.i64.wrap ((IntKind.i64.wrap ((IntKind.i64.wrap ((IntKind.i64.wrap (v115 + (1 : Int))) + (1 : Int))) + (1 : Int))) + (1 : Int))) + (1 : Int))) + (1 : Int))) + (1 : Int)))⟩ : Timpl_Rest), b134.Text⟩ : Timpl_Act))) (e := eTimpl_Act) (a' := (⟨b136.Kind, b136.A, b136.B, b136.C, b136.D, (⟨b136.Rest.Servers, b136.Rest.Ops, b136.Rest.End⟩ : Timpl_Rest), r135⟩ : Timpl_Act)) shape9 hF rfl rfl rfl rfl rfl rfl rfl (at?_get hb136).2 rfl rfl ?_
      refine L.nil ?_
      refine WpC.regionL ?_
      refine L.move hF rfl rfl rfl ?_
      refine L.bin hF rfl rfl rfl rfl rfl rfl ?_
      refine L.assign hF rfl rfl rfl ?_
      refine L.nil ?_
      refine WpC.regionL ?_
      refine L.move hF rfl rfl rfl ?_
      refine L.bin hF rfl rfl rfl rfl rfl rfl ?_
      refine L.assign hF rfl rfl rfl ?_
      refine L.nil ?_
      exact ⟨k2, _, by omega, ⟨(((((((((v114.set v116.toNat (⟨v115, b127.A, b127.B, b127.C, b127.D, (⟨b127.Rest.Servers, b127.Rest.Ops, b127.Rest.End⟩ : Timpl_Rest), b127.Text⟩ : Timpl_Act)).set v116.toNat (⟨b128.Kind, (IntKind.i64.wrap (v115 + (1 : Int))), b128.B, b128.C, b128.D, (⟨b128.Rest.Servers, b128.Rest.Ops, b128.Rest.End⟩ : Timpl_Rest), b128.Text⟩ : Timpl_Act)).set v116.toNat (⟨b129.Kind, b129.A, (IntKind.i64.wrap ((IntKind.i64.wrap (v115 + (1 : Int))) + (1 : Int))), b129.C, b129.D, (⟨b129.Rest.Servers, b129.Rest.Ops, b129.Rest.End⟩ : Timpl_Rest), b129.Text⟩ : Timpl_Act)).set v116.toNat (⟨b130.Kind, b130.A, b130.B, (IntKind.i64.wrap ((IntKind.i64.wrap ((IntKind.i64.wrap (v115 + (1 : Int))) + (1 : Int))) + (1 : Int))), b130.D, (⟨b130.Rest.Servers, b130.Rest.Ops, b130.Rest.End⟩ : Timpl_Rest), b130.Text⟩ : Timpl_Act)).set v116.toNat (⟨b131.Kind, b131.A, b131.B, b131.C, (IntKind.i64.wrap ((IntKind.i64.wrap ((IntKind.i64.wrap ((IntKind.i64.wrap (v115 + (1 : Int))) + (1 : Int))) + (1 : Int))) + (1 : Int))), (⟨b131.Rest.Servers, b131.Rest.Ops, b131.Rest.End⟩ : Timpl_Rest), b131.Text⟩ : Timpl_Act)).set v116.toNat (⟨b132.Kind, b132.A, b132.B, b132.C, b132.D, (⟨(IntKind.i64.wrap ((IntKind.i64.wrap ((IntKind.i64.wrap ((IntKind.i64.wrap ((IntKind.i64.wrap (v115 + (1 : Int))) + (1 : Int))) + (1 : Int))) + (1 : Int))) + (1 : Int))), b132.Rest.Ops, b132.Rest.End⟩ : Timpl_Rest), b132.Text⟩ : Timpl_Act)).set v116.toNat (⟨b133.Kind, b133.A, b133.B, b133.C, b133.D, (⟨b133.Rest.Servers, (IntKind.i64.wrap ((IntKind.i64.wrap ((IntKind.i64.wrap ((IntKind.i64.wrap ((IntKind.i64.wrap ((IntKind.i64.wrap (v115 + (1 : Int))) + (1 : Int))) + (1 : Int))) + (1 : Int))) + (1 : Int))) + (1 : Int))), b133.Rest.End⟩ : Timpl_Rest), b133.Text⟩ : Timpl_Act)).set v116.toNat (⟨b134.Kind, b134.A, b134.B, b134.C, b134.D, (⟨b134.Rest.Servers, b134.Rest.Ops, (IntKind.i64.wrap ((IntKind.i64.wrap ((IntKind.i64.wrap ((IntKind.i64.wrap ((IntKind.i64.wrap ((IntKind.i64.wrap ((IntKind.i64.wrap (v115 + (1 : Int))) + (1 : Int))) + (1 : Int))) + (1 : Int))) + (1 : Int))) + (1 : Int))) + (1 : Int)))⟩ : Timpl_Rest), b134.Text⟩ : Timpl_Act)).set v116.toNat (⟨b136.Kind, b136.A, b136.B, b136.C, b136.D, (⟨b136.Rest.Servers, b136.Rest.Ops, b136.Rest.End⟩ : Timpl_Rest), r135⟩ : Timpl_Act)), (IntKind.i64.wrap ((IntKind.i64.wrap ((IntKind.i64.wrap ((IntKind.i64.wrap ((IntKind.i64.wrap ((IntKind.i64.wrap ((IntKind.i64.wrap ((IntKind.i64.wrap ((IntKind.i64.wrap (v115 + (1 : Int))) + (1 : Int))) + (1 : Int))) + (1 : Int))) + (1 : Int))) + (1 : Int))) + (1 : Int))) + (1 : Int))) + (1 : Int))), (IntKind.i64.wrap (v116 + (1 : Int))), by omega, H, rfl⟩, Le.mk [(0, 0)] hm rfl ⟨⟨_, rfl, rfl⟩, ⟨_, rfl, rfl⟩, ⟨_, rfl, rfl⟩, trivial⟩ ⟨⟨_, rfl, rfl⟩, trivial⟩ trivial⟩
    · replace H := condF hc H
      refine WpC.exit ?_
      refine WpC.seq ?_
      refine WpC.regionL ?_
      refine L.move hF rfl rfl rfl ?_
      refine L.assign hF rfl rfl rfl ?_
      refine L.nil ?_
      refine WpC.ret ?_
      cases H
      exact Leaves.retB rfl rfl rfl rfl ⟨rfl, rfl, rfl⟩
/-! ### Flaws_heldActS -/
def Flaws_heldActS.l2 : Nat → (List Timpl_Act) → Int → Int → Option Int
  | 0, _, _, _ => none
  | k2 + 1, v214, v215, v216 => cond (decide (v216 < (v214.length : Int))) ((at? v214 v216).bind fun b238 => cond (b238.Kind != v215) (some (-1 : Int)) ((at? v214 v216).bind fun b240 => cond (b240.A != (IntKind.i64.wrap (v215 + (1 : Int)))) (some (-1 : Int)) ((at? v214 v216).bind fun b242 => cond (b242.B != (IntKind.i64.wrap ((IntKind.i64.wrap (v215 + (1 : Int))) + (1 : Int)))) (some (-1 : Int)) ((at? v214 v216).bind fun b244 => cond (b244.C != (IntKind.i64.wrap ((IntKind.i64.wrap ((IntKind.i64.wrap (v215 + (1 : Int))) + (1 : Int))) + (1 : Int)))) (some (-1 : Int)) ((at? v214 v216).bind fun b246 => cond (b246.D != (IntKind.i64.wrap ((IntKind.i64.wrap ((IntKind.i64.wrap ((IntKind.i64.wrap (v215 + (1 : Int))) + (1 : Int))) + (1 : Int))) + (1 : Int)))) (some (-1 : Int)) ((at? v214 v216).bind fun b248 => cond (b248.Rest.Servers != (IntKind.i64.wrap ((IntKind.i64.wrap ((IntKind.i64.wrap ((IntKind.i64.wrap ((IntKind.i64.wrap (v215 + (1 : Int))) + (1 : Int))) + (1 : Int))) + (1 : Int))) + (1 : Int)))) (some (-1 : Int)) ((at? v214 v216).bind fun b250 => cond (b250.Rest.Ops != (IntKind.i64.wrap ((IntKind.i64.wrap ((IntKind.i64.wrap ((IntKind.i64.wrap ((IntKind.i64.wrap ((IntKind.i64.wrap (v215 + (1 : Int))) + (1 : Int))) + (1 : Int))) + (1 : Int))) + (1 : Int))) + (1 : Int)))) (some (-1 : Int)) ((at? v214 v216).bind fun b252 => cond (b252.Rest.End != (IntKind.i64.wrap ((IntKind.i64.wrap ((IntKind.i64.wrap ((IntKind.i64.wrap ((IntKind.i64.wrap ((IntKind.i64.wrap ((IntKind.i64.wrap (v215 + (1 : Int))) + (1 : Int))) + (1 : Int))) + (1 : Int))) + (1 : Int))) + (1 : Int))) + (1 : Int)))) (some (-1 : Int)) ((at? v214 v216).bind fun b255 => (Flaws_markText k2 (IntKind.i64.wrap ((IntKind.i64.wrap ((IntKind.i64.wrap ((IntKind.i64.wrap ((IntKind.i64.wrap ((IntKind.i64.wrap ((IntKind.i64.wrap ((IntKind.i64.wrap (v215 + (1 : Int))) + (1 : Int))) + (1 : Int))) + (1 : Int))) + (1 : Int))) + (1 : Int))) + (1 : Int))) + (1 : Int)))).bind fun r256 => cond (b255.Text != r256) (some (-1 : Int)) ((Flaws_heldActS.l2 k2) v214 (IntKind.i64.wrap ((IntKind.i64.wrap ((IntKind.i64.wrap ((IntKind.i64.wrap ((IntKind.i64.wrap ((IntKind.i64.wrap ((IntKind.i64.wrap ((IntKind.i64.wrap ((IntKind.i64.wrap (v215 + (1 : Int))) + (1 : Int))) + (1 : Int))) + (1 : Int))) + (1 : Int))) + (1 : Int))) + (1 : Int))) + (1 : Int))) + (1 : Int))) (IntKind.i64.wrap (v216 + (1 : Int))))))))))))) (some v215)
def Flaws_heldActS (k : Nat) (a0 : List Timpl_Act) (a1 : Int) : Option Int := Flaws_heldActS.l2 k a0 a1 (0 : Int)
theorem ent78 : Enters Try.prog 78 := ⟨Try.f78, Try.func78, rfl, by decide⟩
set_option maxHeartbeats 8000000 in
set_option maxRecDepth 100000 in
theorem Flaws_heldActS_gives (k : Nat) (g0 : Bool) (a0 : List Timpl_Act) (a1 : Int) (r : Int) (H : Flaws_heldActS k a0 a1 = some r) : Gives Try.prog 78 [V.one (Cell.sl g0 (List.map eTimpl_Act a0)), V.one (cI a1)] [] [V.one (cI r)] [] := by
  refine Gives.intro Try.func78 rfl rfl rfl rfl ?_
  intro F hF hm
  unfold Flaws_heldActS at H
  obtain ⟨K, hK⟩ : ∃ K, k ≤ K := ⟨k, Nat.le_refl k⟩
  refine WpC.seq ?_
  refine WpC.regionL ?_
  refine L.assign hF rfl rfl rfl ?_
  refine L.nil ?_
  refine WpC.seq ?_
  refine WpC.seq ?_
  refine WpC.regionL ?_
  refine L.assign hF rfl rfl rfl ?_
  refine L.nil ?_
  refine WpC.block ?_
  refine WpC.loopL (P := Try.prog) (fun n σ => ∃ v214 : List Timpl_Act, ∃ v215 : Int, ∃ v216 : Int, n ≤ K ∧ Flaws_heldActS.l2 n v214 v215 v216 = some r ∧ σ = mkSt [(0, one (Cell.sl g0 (List.map eTimpl_Act v214))), (1, one (cI v215)), (5, one (cI v216))] [] [] 0) k ⟨_, ⟨a0, a1, (0 : Int), by omega, H, rfl⟩, Le.mk [] hm rfl ⟨⟨_, rfl, rfl⟩, ⟨_, rfl, rfl⟩, ⟨_, rfl, rfl⟩, trivial⟩ trivial trivial⟩ ?_
  clear H
  rintro k2 _ ⟨v214, v215, v216, hk2, H, rfl⟩
  cases k2 with
  | zero => cases H
  | succ k2 =>
    rw [Flaws_heldActS.l2] at H
    refine WpC.seq ?_
    refine WpC.seq ?_
    refine WpC.regionL ?_
    refine L.move hF rfl rfl rfl ?_
    refine L.move hF rfl rfl rfl ?_
    refine L.lenR (xs := v214) (e := eTimpl_Act) Try.underlying86 hF rfl rfl rfl rfl ?_
    refine L.bin hF rfl rfl rfl rfl rfl rfl ?_
    refine L.nil ?_
    refine WpC.cond rfl (fun hc => ?_) (fun hc => ?_)
    · replace H := condT hc H
      refine WpC.skip ?_
      refine WpC.seq ?_
      refine WpC.block ?_
      refine WpC.seq ?_
      refine WpC.seq ?_
      refine WpC.regionL ?_
      refine L.move hF rfl rfl rfl ?_
      refine L.move hF rfl rfl rfl ?_
      obtain ⟨b238, hb238, H⟩ := bindS H
      refine L.idxR (xs := v214) (e := eTimpl_Act) Try.underlying86 info195 hF rfl rfl rfl rfl rfl hb238 rfl rfl ?_
      refine L.fieldAddr Try.underlying195 rfl info3 rfl hF rfl rfl rfl rfl rfl ?_
      refine L.loadPe shape3 hF rfl rfl rfl rfl rfl ?_
      refine L.move hF rfl rfl rfl ?_
      refine L.bin hF rfl rfl rfl rfl rfl rfl ?_
      refine L.nil ?_
      refine WpC.cond rfl (fun hc => ?_) (fun hc => ?_)
      · replace H := condT hc H
        refine WpC.seq ?_
        refine WpC.regionL ?_
        refine L.assign hF rfl rfl rfl ?_
        refine L.nil ?_
        refine WpC.ret ?_
        cases H
        exact Leaves.ret rfl rfl rfl ⟨rfl, rfl⟩
      · replace H := condF hc H
        refine WpC.skip ?_
        refine WpC.seq ?_
        refine WpC.regionL ?_
        refine L.move hF rfl rfl rfl ?_
        refine L.bin hF rfl rfl rfl rfl rfl rfl ?_
        refine L.assign hF rfl rfl rfl ?_
        refine L.nil ?_
        refine WpC.seq ?_
        refine WpC.seq ?_
        refine WpC.regionL ?_
        refine L.move hF rfl rfl rfl ?_
        refine L.move hF rfl rfl rfl ?_
        obtain ⟨b240, hb240, H⟩ := bindS H
        refine L.idxR (xs := v214) (e := eTimpl_Act) Try.underlying86 info195 hF rfl rfl rfl rfl rfl hb240 rfl rfl ?_
        refine L.fieldAddr Try.underlying195 rfl info3 rfl hF rfl rfl rfl rfl rfl ?_
        refine L.loadPe shape3 hF rfl rfl rfl rfl rfl ?_
        refine L.move hF rfl rfl rfl ?_
        refine L.bin hF rfl rfl rfl rfl rfl rfl ?_
        refine L.nil ?_
        refine WpC.cond rfl (fun hc => ?_) (fun hc => ?_)
        · replace H := condT hc H
          refine WpC.seq ?_
          refine WpC.regionL ?_
          refine L.assign hF rfl rfl rfl ?_
          refine L.nil ?_
          refine WpC.ret ?_
          cases H
          exact Leaves.ret rfl rfl rfl ⟨rfl, rfl⟩
        · replace H := condF hc H
          refine WpC.skip ?_
          refine WpC.seq ?_
          refine WpC.regionL ?_
          refine L.move hF rfl rfl rfl ?_
          refine L.bin hF rfl rfl rfl rfl rfl rfl ?_
          refine L.assign hF rfl rfl rfl ?_
          refine L.nil ?_
          refine WpC.seq ?_
          refine WpC.seq ?_
          refine WpC.regionL ?_
          refine L.move hF rfl rfl rfl ?_
          refine L.move hF rfl rfl rfl ?_
          obtain ⟨b242, hb242, H⟩ := bindS H
          refine L.idxR (xs := v214) (e := eTimpl_Act) Try.underlying86 info195 hF rfl rfl rfl rfl rfl hb242 rfl rfl ?_
          refine L.fieldAddr Try.underlying195 rfl info3 rfl hF rfl rfl rfl rfl rfl ?_
          refine L.loadPe shape3 hF rfl rfl rfl rfl rfl ?_
          refine L.move hF rfl rfl rfl ?_
          refine L.bin hF rfl rfl rfl rfl rfl rfl ?_
          refine L.nil ?_
          refine WpC.cond rfl (fun hc => ?_) (fun hc => ?_)
          · replace H := condT hc H
            refine WpC.seq ?_
            refine WpC.regionL ?_
            refine L.assign hF rfl rfl rfl ?_
            refine L.nil ?_
            refine WpC.ret ?_
            cases H
            exact Leaves.ret rfl rfl rfl ⟨rfl, rfl⟩
          · replace H := condF hc H
            refine WpC.skip ?_
            refine WpC.seq ?_
            refine WpC.regionL ?_
            refine L.move hF rfl rfl rfl ?_
            refine L.bin hF rfl rfl rfl rfl rfl rfl ?_
            refine L.assign hF rfl rfl rfl ?_
            refine L.nil ?_
            refine WpC.seq ?_
            refine WpC.seq ?_
            refine WpC.regionL ?_
            refine L.move hF rfl rfl rfl ?_
            refine L.move hF rfl rfl rfl ?_
            obtain ⟨b244, hb244, H⟩ := bindS H
            refine L.idxR (xs := v214) (e := eTimpl_Act) Try.underlying86 info195 hF rfl rfl rfl rfl rfl hb244 rfl rfl ?_
            refine L.fieldAddr Try.underlying195 rfl info3 rfl hF rfl rfl rfl rfl rfl ?_
            refine L.loadPe shape3 hF rfl rfl rfl rfl rfl ?_
            refine L.move hF rfl rfl rfl ?_
            refine L.bin hF rfl rfl rfl rfl rfl rfl ?_
            refine L.nil ?_
            refine WpC.cond rfl (fun hc => ?_) (fun hc => ?_)
            · replace H := condT hc H
              refine WpC.seq ?_
              refine WpC.regionL ?_
              refine L.assign hF rfl rfl rfl ?_
              refine L.nil ?_
              refine WpC.ret ?_
              cases H
              exact Leaves.ret rfl rfl rfl ⟨rfl, rfl⟩
            · replace H := condF hc H
              refine WpC.skip ?_
              refine WpC.seq ?_
              refine WpC.regionL ?_
              refine L.move hF rfl rfl rfl ?_
              refine L.bin hF rfl rfl rfl rfl rfl rfl ?_
              refine L.assign hF rfl rfl rfl ?_
              refine L.nil ?_
              refine WpC.seq ?_
              refine WpC.seq ?_
              refine WpC.regionL ?_
              refine L.move hF rfl rfl rfl ?_
              refine L.move hF rfl rfl rfl ?_
              obtain ⟨b246, hb246, H⟩ := bindS H
              refine L.idxR (xs := v214) (e := eTimpl_Act) Try.underlying86 info195 hF rfl rfl rfl rfl rfl hb246 rfl rfl ?_
              refine L.fieldAddr Try.underlying195 rfl info3 rfl hF rfl rfl rfl rfl rfl ?_
              refine L.loadPe shape3 hF rfl rfl rfl rfl rfl ?_
              refine L.move hF rfl rfl rfl ?_
              refine L.bin hF rfl rfl rfl rfl rfl rfl ?_
              refine L.nil ?_
              refine WpC.cond rfl (fun hc => ?_) (fun hc => ?_)
              · replace H := condT hc H
                refine WpC.seq ?_
                refine WpC.regionL ?_
                refine L.assign hF rfl rfl rfl ?_
                refine L.nil ?_
                refine WpC.ret ?_
                cases H
                exact Leaves.ret rfl rfl rfl ⟨rfl, rfl⟩
              · replace H := condF hc H
                refine WpC.skip ?_
                refine WpC.seq ?_
                refine WpC.regionL ?_
                refine L.move hF rfl rfl rfl ?_
                refine L.bin hF rfl rfl rfl rfl rfl rfl ?_
                refine L.assign hF rfl rfl rfl ?_
                refine L.nil ?_
                refine WpC.seq ?_
                refine WpC.seq ?_
                refine WpC.regionL ?_
                refine L.move hF rfl rfl rfl ?_
                refine L.move hF rfl rfl rfl ?_
                obtain ⟨b248, hb248, H⟩ := bindS H
                refine L.idxR (xs := v214) (e := eTimpl_Act) Try.underlying86 info195 hF rfl rfl rfl rfl rfl hb248 rfl rfl ?_
                refine L.fieldAddr Try.underlying195 rfl info74 rfl hF rfl rfl rfl rfl rfl ?_
                refine L.fieldAddr Try.underlying74 rfl info3 rfl hF rfl rfl rfl rfl rfl ?_
                refine L.loadPe shape3 hF rfl rfl rfl rfl rfl ?_
                refine L.move hF rfl rfl rfl ?_
                refine L.bin hF rfl rfl rfl rfl rfl rfl ?_
                refine L.nil ?_
                refine WpC.cond rfl (fun hc => ?_) (fun hc => ?_)
                · replace H := condT hc H
                  refine WpC.seq ?_
                  refine WpC.regionL ?_
                  refine L.assign hF rfl rfl rfl ?_
                  refine L.nil ?_
                  refine WpC.ret ?_
                  cases H
                  exact Leaves.ret rfl rfl rfl ⟨rfl, rfl⟩
                · replace H := condF hc H
                  refine WpC.skip ?_
                  refine WpC.seq ?_
                  refine WpC.regionL ?_
                  refine L.move hF rfl rfl rfl ?_
                  refine L.bin hF rfl rfl rfl rfl rfl rfl ?_
                  refine L.assign hF rfl rfl rfl ?_
                  refine L.nil ?_
                  refine WpC.seq ?_
                  refine WpC.seq ?_
                  refine WpC.regionL ?_
                  refine L.move hF rfl rfl rfl ?_
                  refine L.move hF rfl rfl rfl ?_
                  obtain ⟨b250, hb250, H⟩ := bindS H
                  refine L.idxR (xs := v214) (e := eTimpl_Act) Try.underlying86 info195 hF rfl rfl rfl rfl rfl hb250 rfl rfl ?_
                  refine L.fieldAddr Try.underlying195 rfl info74 rfl hF rfl rfl rfl rfl rfl ?_
                  refine L.fieldAddr Try.underlying74 rfl info3 rfl hF rfl rfl rfl rfl rfl ?_
                  refine L.loadPe shape3 hF rfl rfl rfl rfl rfl ?_
                  refine L.move hF rfl rfl rfl ?_
                  refine L.bin hF rfl rfl rfl rfl rfl rfl ?_
                  refine L.nil ?_
                  refine WpC.cond rfl (fun hc => ?_) (fun hc => ?_)
                  · replace H := condT hc H
                    refine WpC.seq ?_
                    refine WpC.regionL ?_
                    refine L.assign hF rfl rfl rfl ?_
                    refine L.nil ?_
                    refine WpC.ret ?_
                    cases H
                    exact Leaves.ret rfl rfl rfl ⟨rfl, rfl⟩
                  · replace H := condF hc H
                    refine WpC.skip ?_
                    refine WpC.seq ?_
                    refine WpC.regionL ?_
                    refine L.move hF rfl rfl rfl ?_
                    refine L.bin hF rfl rfl rfl rfl rfl rfl ?_
                    refine L.assign hF rfl rfl rfl ?_
                    refine L.nil ?_
                    refine WpC.seq ?_
                    refine WpC.seq ?_
                    refine WpC.regionL ?_
                    refine L.move hF rfl rfl rfl ?_
                    refine L.move hF rfl rfl rfl ?_
                    obtain ⟨b252, hb252, H⟩ := bindS H
                    refine L.idxR (xs := v214) (e := eTimpl_Act) Try.underlying86 info195 hF rfl rfl rfl rfl rfl hb252 rfl rfl ?_
                    refine L.fieldAddr Try.underlying195 rfl info74 rfl hF rfl rfl rfl rfl rfl ?_
                    refine L.fieldAddr Try.underlying74 rfl info3 rfl hF rfl rfl rfl rfl rfl ?_
                    refine L.loadPe shape3 hF rfl rfl rfl rfl rfl ?_
                    refine L.move hF rfl rfl rfl ?_
                    refine L.bin hF rfl rfl rfl rfl rfl rfl ?_
                    refine L.nil ?_
                    refine WpC.cond rfl (fun hc => ?_) (fun hc => ?_)
                    · replace H := condT hc H
                      refine WpC.seq ?_
                      refine WpC.regionL ?_
                      refine L.assign hF rfl rfl rfl ?_
                      refine L.nil ?_
                      refine WpC.ret ?_
                      cases H
                      exact Leaves.ret rfl rfl rfl ⟨rfl, rfl⟩
                    · replace H := condF hc H
                      refine WpC.skip ?_
                      refine WpC.seq ?_
                      refine WpC.regionL ?_
                      refine L.move hF rfl rfl rfl ?_
                      refine L.bin hF rfl rfl rfl rfl rfl rfl ?_
                      refine L.assign hF rfl rfl rfl ?_
                      refine L.nil ?_
                      refine WpC.seq ?_
                      refine WpC.seq ?_
                      obtain ⟨b255, hb255, H⟩ := bindS H
                      obtain ⟨r256, hr256, H⟩ := bindS H
                      refine A.begin mixed rfl rfl ?_
                      intro W hI hO
                      have n127 : W 1 #[true, true, true, true, true, true, true, false] (mkSt [(0, one (Cell.sl g0 (List.map eTimpl_Act v214))), (1, one (cI (IntKind.i64.wrap ((IntKind.i64.wrap ((IntKind.i64.wrap ((IntKind.i64.wrap ((IntKind.i64.wrap ((IntKind.i64.wrap ((IntKind.i64.wrap ((IntKind.i64.wrap (v215 + (1 : Int))) + (1 : Int))) + (1 : Int))) + (1 : Int))) + (1 : Int))) + (1 : Int))) + (1 : Int))) + (1 : Int))))), (5, one (cI v216)), (91, one (cS b255.Text)), (93, one (cS r256))] [] [] 0) := by
                        refine hI _ _ _ ?_
                        refine A.take 7 rfl (by kernel_rfl) (by kernel_rfl) (by kernel_rfl) rfl (Ca.bin rfl rfl (calm_str _ _ _ _ _ _)) (fun Q0 k0 => L.binS hF rfl rfl rfl rfl rfl (L.nil k0)) ?_
                        refine A.le (τ := mkSt [(0, one (Cell.sl g0 (List.map eTimpl_Act v214))), (1, one (cI (IntKind.i64.wrap ((IntKind.i64.wrap ((IntKind.i64.wrap ((IntKind.i64.wrap ((IntKind.i64.wrap ((IntKind.i64.wrap ((IntKind.i64.wrap ((IntKind.i64.wrap (v215 + (1 : Int))) + (1 : Int))) + (1 : Int))) + (1 : Int))) + (1 : Int))) + (1 : Int))) + (1 : Int))) + (1 : Int))))), (5, one (cI v216)), (94, one (cL (b255.Text != r256)))] [] [] 0) (Le.mk [] hm rfl ⟨⟨_, rfl, rfl⟩, ⟨_, rfl, rfl⟩, ⟨_, rfl, rfl⟩, ⟨_, rfl, rfl⟩, trivial⟩ trivial trivial) ?_
                        refine A.done (by kernel_rfl) ?_
                        refine WpC.cond rfl (fun hc => ?_) (fun hc => ?_)
                        · replace H := condT hc H
                          refine WpC.seq ?_
                          refine WpC.regionL ?_
                          refine L.assign hF rfl rfl rfl ?_
                          refine L.nil ?_
                          refine WpC.ret ?_
                          cases H
                          exact Leaves.ret rfl rfl rfl ⟨rfl, rfl⟩
                        · replace H := condF hc H
                          refine WpC.skip ?_
                          refine WpC.regionL ?_
                          refine L.move hF rfl rfl rfl ?_
                          refine L.bin hF rfl rfl rfl rfl rfl rfl ?_
                          refine L.assign hF rfl rfl rfl ?_
                          refine L.nil ?_
                          refine WpC.regionL ?_
                          refine L.move hF rfl rfl rfl ?_
                          refine L.bin hF rfl rfl rfl rfl rfl rfl ?_
                          refine L.assign hF rfl rfl rfl ?_
                          refine L.nil ?_
                          exact ⟨k2, _, by omega, ⟨v214, (IntKind.i64.wrap ((IntKind.i64.wrap ((IntKind.i64.wrap ((IntKind.i64.wrap ((IntKind.i64.wrap ((IntKind.i64.wrap ((IntKind.i64.wrap ((IntKind.i64.wrap ((IntKind.i64.wrap (v215 + (1 : Int))) + (1 : Int))) + (1 : Int))) + (1 : Int))) + (1 : Int))) + (1 : Int))) + (1 : Int))) + (1 : Int))) + (1 : Int))), (IntKind.i64.wrap (v216 + (1 : Int))), by omega, H, rfl⟩, Le.mk [] hm rfl ⟨⟨_, rfl, rfl⟩, ⟨_, rfl, rfl⟩, ⟨_, rfl, rfl⟩, trivial⟩ trivial trivial⟩
                      refine hI _ _ _ ?_
                      refine A.take 0 rfl (by kernel_rfl) (by kernel_rfl) (by kernel_rfl) rfl (Ca.move) (fun Q0 k0 => L.move hF rfl rfl rfl (L.nil k0)) ?_
                      refine A.take 1 rfl (by kernel_rfl) (by kernel_rfl) (by kernel_rfl) rfl (Ca.move) (fun Q0 k0 => L.move hF rfl rfl rfl (L.nil k0)) ?_
                      refine A.take 2 rfl (by kernel_rfl) (by kernel_rfl) (by kernel_rfl) rfl (Ca.indexAddr) (fun Q0 k0 => L.idxR (xs := v214) (e := eTimpl_Act) Try.underlying86 info195 hF rfl rfl rfl rfl rfl hb255 rfl rfl (L.nil k0)) ?_
                      refine A.take 3 rfl (by kernel_rfl) (by kernel_rfl) (by kernel_rfl) rfl (Ca.fieldAddr Try.underlying195 rfl info9 rfl) (fun Q0 k0 => L.fieldAddr Try.underlying195 rfl info9 rfl hF rfl rfl rfl rfl rfl (L.nil k0)) ?_
                      refine A.take 5 rfl (by kernel_rfl) (by kernel_rfl) (by kernel_rfl) rfl (Ca.move) (fun Q0 k0 => L.move hF rfl rfl rfl (L.nil k0)) ?_
                      refine A.all [4, 6] (by kernel_rfl) rfl ⟨⟨_, rfl, ?_⟩, ⟨_, rfl, ?_⟩, trivial⟩
                      · refine L.loadPe shape9 hF rfl rfl rfl rfl rfl ?_
                        refine L.nil ?_
                        refine A.all [6] (by kernel_rfl) rfl ⟨⟨_, rfl, ?_⟩, trivial⟩
                        refine L.call [false] [] [] 0 hF rfl rfl rfl ent107 rfl rfl rfl rfl rfl (Flaws_markText_gives k2  (IntKind.i64.wrap ((IntKind.i64.wrap ((IntKind.i64.wrap ((IntKind.i64.wrap ((IntKind.i64.wrap ((IntKind.i64.wrap ((IntKind.i64.wrap ((IntKind.i64.wrap (v215 + (1 : Int))) + (1 : Int))) + (1 : Int))) + (1 : Int))) + (1 : Int))) + (1 : Int))) + (1 : Int))) + (1 : Int))) r256 hr256) rfl ?_
                        refine L.nil ?_
                        exact A.on (hO _ _ _ n127) (Le.mk [] hm rfl ⟨⟨_, rfl, rfl⟩, ⟨_, rfl, rfl⟩, ⟨_, rfl, rfl⟩, ⟨_, rfl, rfl⟩, ⟨_, rfl, rfl⟩, trivial⟩ trivial trivial)
                      · refine L.call [false] [] [] 0 hF rfl rfl rfl ent107 rfl rfl rfl rfl rfl (Flaws_markText_gives k2  (IntKind.i64.wrap ((IntKind.i64.wrap ((IntKind.i64.wrap ((IntKind.i64.wrap ((IntKind.i64.wrap ((IntKind.i64.wrap ((IntKind.i64.wrap ((IntKind.i64.wrap (v215 + (1 : Int))) + (1 : Int))) + (1 : Int))) + (1 : Int))) + (1 : Int))) + (1 : Int))) + (1 : Int))) + (1 : Int))) r256 hr256) rfl ?_
                        refine L.nil ?_
                        refine A.all [4] (by kernel_rfl) rfl ⟨⟨_, rfl, ?_⟩, trivial⟩
                        refine L.loadPe shape9 hF rfl rfl rfl rfl rfl ?_
                        refine L.nil ?_
                        exact A.on (hO _ _ _ n127) (Le.mk [] hm rfl ⟨⟨_, rfl, rfl⟩, ⟨_, rfl, rfl⟩, ⟨_, rfl, rfl⟩, ⟨_, rfl, rfl⟩, ⟨_, rfl, rfl⟩, trivial⟩ trivial trivial)
    · replace H := condF hc H
      refine WpC.exit ?_
      refine WpC.seq ?_
      refine WpC.regionL ?_
      refine L.move hF rfl rfl rfl ?_
      refine L.assign hF rfl rfl rfl ?_
      refine L.nil ?_
      refine WpC.ret ?_
      cases H
      exact Leaves.ret rfl rfl rfl ⟨rfl, rfl⟩
/-! ### Flaws_FnExactFlow -/
def Flaws_FnExactFlow (k : Nat) (a0 : Tlaws_Config) (a1 : Int) (a2 : Int) (a3 : Tlaws_Rest) (a4 : Int) : Option Bool := (Flaws_szConfig k a0 (1048576 : Int)).bind fun r1 => cond (decide (r1 < (0 : Int))) (some true) ((Flaws_toConfig k a0).bind fun r2 => (Flaws_toRest k a3).bind fun r3 => (Fspec_Flow k r2 a1 a2 r3 a4).bind fun r4 => (Flaws_toConfig k a0).bind fun r5 => (Flaws_toRest k a3).bind fun r6 => (Fimpl_Flow k r5 a1 a2 r6 a4).bind fun r7 => (Flaws_eqActS k r7 r4).bind fun r9 => cond (!r9) (some false) ((Flaws_toConfig k a0).bind fun r12 => (Flaws_eqConfig k r5 r12).bind fun r13 => cond (!r13) (some false) ((Flaws_markConfig k r5 (1 : Int)).bind fun r14 => cond (decide (r14.1 < (0 : Int))) (some false) ((Flaws_eqActS k r7 r4).bind fun r18 => cond (!r18) (some false) ((Flaws_markActS k r7 (1 : Int)).bind fun r19 => (Flaws_heldActS k r19.2 (1 : Int)).bind fun r20 => cond (decide (r20 < (0 : Int))) (some false) (cond (r20 != r19.1) (some false) ((Flaws_toConfig k a0).bind fun r21 => (Flaws_toRest k a3).bind fun r22 => (Fimpl_Flow k r21 a1 a2 r22 a4).bind fun r23 => (Flaws_eqActS k r23 r4).bind fun r25 => cond (!r25) (some false) ((Flaws_heldActS k r19.2 (1 : Int)).bind fun r26 => cond (decide (r26 < (0 : Int))) (some false) (cond (r26 != r19.1) (some false) (some true))))))))))
theorem ent15 : Enters Try.prog 15 := ⟨Try.f15, Try.func15, rfl, by decide⟩
set_option maxHeartbeats 8000000 in
set_option maxRecDepth 100000 in
theorem Flaws_FnExactFlow_gives (k : Nat) (g0 : Bool) (g1 : Bool) (g2 : Bool) (g3 : Bool) (a0 : Tlaws_Config) (a1 : Int) (a2 : Int) (a3 : Tlaws_Rest) (a4 : Int) (r : Bool) (H : Flaws_FnExactFlow k a0 a1 a2 a3 a4 = some r) : Gives Try.prog 15 [V.agg [Cell.sl g0 (List.map eI a0.UserRealm), Cell.sl g1 (List.map eI a0.ServiceRealm), Cell.sl g2 (List.map eTlaws_Pair a0.Links), Cell.sl g3 (List.map eTlaws_Pair a0.Proxy), cI a0.Skew], V.one (cI a1), V.one (cI a2), V.agg [cI a3.Servers, cI a3.Ops, cI a3.End], V.one (cI a4)] [] [V.one (cL r)] [] := by
  refine Gives.intro Try.func15 rfl rfl rfl rfl ?_
  intro F hF hm
  unfold Flaws_FnExactFlow at H
  obtain ⟨K, hK⟩ : ∃ K, k ≤ K := ⟨k, Nat.le_refl k⟩
  refine WpC.seq ?_
  refine WpC.regionL ?_
  refine L.box 11 hF rfl rfl rfl rfl ?_
  refine L.box 12 hF rfl rfl rfl rfl ?_
  refine L.assign hF rfl rfl rfl ?_
  refine L.nil ?_
  refine WpC.seq ?_
  refine WpC.regionL ?_
  refine L.assign hF rfl rfl rfl ?_
  refine L.nil ?_
  refine WpC.seq ?_
  refine WpC.regionL ?_
  refine L.loadPtr shape83 hF rfl rfl rfl rfl rfl rfl ?_
  refine L.move hF rfl rfl rfl ?_
  obtain ⟨r1, hr1, H⟩ := bindS H
  refine L.call [false, false] [] [] 13 hF rfl rfl rfl ent69 rfl rfl rfl rfl rfl (Flaws_szConfig_gives k g0 g1 g2 g3 a0 (1048576 : Int) r1 hr1) rfl ?_
  refine L.assign hF rfl rfl rfl ?_
  refine L.nil ?_
  refine WpC.seq ?_
  refine WpC.seq ?_
  refine WpC.regionL ?_
  refine L.move hF rfl rfl rfl ?_
  refine L.bin hF rfl rfl rfl rfl rfl rfl ?_
  refine L.nil ?_
  refine WpC.cond rfl (fun hc => ?_) (fun hc => ?_)
  · replace H := condT hc H
    refine WpC.seq ?_
    refine WpC.regionL ?_
    refine L.assign hF rfl rfl rfl ?_
    refine L.nil ?_
    refine WpC.ret ?_
    cases H
    exact Leaves.ret rfl rfl rfl ⟨rfl, rfl⟩
  · replace H := condF hc H
    refine WpC.skip ?_
    refine WpC.seq ?_
    obtain ⟨r2, hr2, H⟩ := bindS H
    obtain ⟨r3, hr3, H⟩ := bindS H
    obtain ⟨r4, hr4, H⟩ := bindS H
    refine A.begin mixed rfl rfl ?_
    intro W hI hO
    have n95 : W 3 #[true, true, true, true, true, false, true, false, false] (mkSt [(1, one (cI a1)), (2, one (cI a2)), (4, one (cI a4)), (5, one (Cell.ptr 0 0)), (8, one (Cell.ptr 1 0)), (25, agg [Cell.own 2, Cell.own 3, Cell.own 4, Cell.own 5, cI r2.Skew]), (26, one (cI a1)), (27, one (cI a2)), (28, agg [cI a3.Servers, cI a3.Ops, cI a3.End]), (30, one (cI a4))] [(2, ⟨1, List.map eI r2.UserRealm⟩), (3, ⟨1, List.map eI r2.ServiceRealm⟩), (4, ⟨2, List.map eTimpl_Pair r2.Links⟩), (5, ⟨2, List.map eTimpl_Pair r2.Proxy⟩)] [(0, [Cell.sl g0 (List.map eI a0.UserRealm), Cell.sl g1 (List.map eI a0.ServiceRealm), Cell.sl g2 (List.map eTlaws_Pair a0.Links), Cell.sl g3 (List.map eTlaws_Pair a0.Proxy), cI a0.Skew]), (1, [cI a3.Servers, cI a3.Ops, cI a3.End])] 6) := by
      refine hI _ _ _ ?_
      refine A.all [5] (by kernel_rfl) rfl ⟨⟨_, rfl, ?_⟩, trivial⟩
      refine L.call [false] [] [] 6 hF rfl rfl rfl ent72 rfl rfl rfl rfl rfl (Flaws_toRest_gives k  a3 r3 hr3) rfl ?_
      refine L.nil ?_
      refine A.all [7] (by kernel_rfl) rfl ⟨⟨_, rfl, ?_⟩, trivial⟩
      refine L.call [false, false, false, false, false] [2, 3, 4, 5] [] 9 hF rfl rfl rfl ent70 rfl rfl rfl rfl rfl (Fspec_Flow_gives k false false false false r2 a1 a2 r3 a4 r4 hr4) rfl ?_
      refine L.nil ?_
      refine A.take 8 rfl (by kernel_rfl) (by kernel_rfl) (by kernel_rfl) rfl (Ca.assign) (fun Q0 k0 => L.assign hF rfl rfl rfl (L.nil k0)) ?_
      refine A.le (τ := mkSt [(1, one (cI a1)), (2, one (cI a2)), (4, one (cI a4)), (5, one (Cell.ptr 0 0)), (8, one (Cell.ptr 1 0)), (12, one (Cell.own 2))] [(2, ⟨9, List.map eTimpl_Act r4⟩)] [(0, [Cell.sl g0 (List.map eI a0.UserRealm), Cell.sl g1 (List.map eI a0.ServiceRealm), Cell.sl g2 (List.map eTlaws_Pair a0.Links), Cell.sl g3 (List.map eTlaws_Pair a0.Proxy), cI a0.Skew]), (1, [cI a3.Servers, cI a3.Ops, cI a3.End])] 3) (Le.mk [(0, 0), (1, 1), (2, 9)] hm rfl ⟨⟨_, rfl, rfl⟩, ⟨_, rfl, rfl⟩, ⟨_, rfl, rfl⟩, ⟨_, rfl, rfl⟩, ⟨_, rfl, rfl⟩, ⟨_, rfl, rfl⟩, trivial⟩ ⟨⟨_, rfl, rfl⟩, trivial⟩ ⟨⟨_, _, rfl, rfl, rfl⟩, ⟨_, _, rfl, rfl, rfl⟩, trivial⟩) ?_
      refine A.done (by kernel_rfl) ?_
      refine WpC.seq ?_
      refine WpC.regionL ?_
      refine L.loadPtr shape83 hF rfl rfl rfl rfl rfl rfl ?_
      obtain ⟨r5, hr5, H⟩ := bindS H
      refine L.call [false] [] [] 3 hF rfl rfl rfl ent71 rfl rfl rfl rfl rfl (Flaws_toConfig_gives k g0 g1 g2 g3 a0 r5 hr5) rfl ?_
      refine L.alloc 8 info90 rfl hF rfl rfl rfl rfl ?_
      refine L.storePtr shape90 hF rfl rfl rfl rfl rfl rfl rfl ?_
      refine L.nil ?_
      refine WpC.seq ?_
      obtain ⟨r6, hr6, H⟩ := bindS H
      obtain ⟨r7, hr7, H⟩ := bindS H
      refine A.begin mixed rfl rfl ?_
      intro W hI hO
      have n63 : W 2 #[true, true, true, true, true, true, false, false] (mkSt [(1, one (cI a1)), (2, one (cI a2)), (4, one (cI a4)), (5, one (Cell.ptr 0 0)), (8, one (Cell.ptr 1 0)), (12, one (Cell.own 2)), (13, one (Cell.ptr 3 0)), (34, agg [Cell.own 4, Cell.own 5, Cell.own 6, Cell.own 7, cI r5.Skew]), (35, one (cI a1)), (36, one (cI a2)), (38, agg [cI r6.Servers, cI r6.Ops, cI r6.End]), (39, one (cI a4))] [(2, ⟨9, List.map eTimpl_Act r4⟩), (4, ⟨1, List.map eI r5.UserRealm⟩), (5, ⟨1, List.map eI r5.ServiceRealm⟩), (6, ⟨2, List.map eTimpl_Pair r5.Links⟩), (7, ⟨2, List.map eTimpl_Pair r5.Proxy⟩)] [(0, [Cell.sl g0 (List.map eI a0.UserRealm), Cell.sl g1 (List.map eI a0.ServiceRealm), Cell.sl g2 (List.map eTlaws_Pair a0.Links), Cell.sl g3 (List.map eTlaws_Pair a0.Proxy), cI a0.Skew]), (1, [cI a3.Servers, cI a3.Ops, cI a3.End]), (3, [Cell.own 4, Cell.own 5, Cell.own 6, Cell.own 7, cI r5.Skew])] 8) := by
        refine hI _ _ _ ?_
        refine A.all [6] (by kernel_rfl) rfl ⟨⟨_, rfl, ?_⟩, trivial⟩
        refine L.call [false, false, false, false, false] [4, 5, 6, 7] [] 8 hF rfl rfl rfl ent73 rfl rfl rfl rfl rfl (Fimpl_Flow_gives k false false false false r5 a1 a2 r6 a4 r7 hr7) rfl ?_
        refine L.nil ?_
        refine A.take 7 rfl (by kernel_rfl) (by kernel_rfl) (by kernel_rfl) rfl (Ca.assign) (fun Q0 k0 => L.assign hF rfl rfl rfl (L.nil k0)) ?_
        refine A.le (τ := mkSt [(1, one (cI a1)), (2, one (cI a2)), (4, one (cI a4)), (5, one (Cell.ptr 0 0)), (8, one (Cell.ptr 1 0)), (12, one (Cell.own 2)), (13, one (Cell.ptr 3 0)), (14, one (Cell.own 4))] [(2, ⟨9, List.map eTimpl_Act r4⟩), (4, ⟨9, List.map eTimpl_Act r7⟩), (5, ⟨1, List.map eI r5.UserRealm⟩), (6, ⟨1, List.map eI r5.ServiceRealm⟩), (7, ⟨2, List.map eTimpl_Pair r5.Links⟩), (8, ⟨2, List.map eTimpl_Pair r5.Proxy⟩)] [(0, [Cell.sl g0 (List.map eI a0.UserRealm), Cell.sl g1 (List.map eI a0.ServiceRealm), Cell.sl g2 (List.map eTlaws_Pair a0.Links), Cell.sl g3 (List.map eTlaws_Pair a0.Proxy), cI a0.Skew]), (1, [cI a3.Servers, cI a3.Ops, cI a3.End]), (3, [Cell.own 5, Cell.own 6, Cell.own 7, Cell.own 8, cI r5.Skew])] 9) (Le.mk [(0, 0), (1, 1), (2, 2), (3, 3), (4, 8), (5, 4), (6, 5), (7, 6), (8, 7)] hm rfl ⟨⟨_, rfl, rfl⟩, ⟨_, rfl, rfl⟩, ⟨_, rfl, rfl⟩, ⟨_, rfl, rfl⟩, ⟨_, rfl, rfl⟩, ⟨_, rfl, rfl⟩, ⟨_, rfl, rfl⟩, ⟨_, rfl, rfl⟩, trivial⟩ ⟨⟨_, rfl, rfl⟩, ⟨_, rfl, rfl⟩, ⟨_, rfl, rfl⟩, ⟨_, rfl, rfl⟩, ⟨_, rfl, rfl⟩, ⟨_, rfl, rfl⟩, trivial⟩ ⟨⟨_, _, rfl, rfl, rfl⟩, ⟨_, _, rfl, rfl, rfl⟩, ⟨_, _, rfl, rfl, rfl⟩, trivial⟩) ?_
        refine A.done (by kernel_rfl) ?_
        refine WpC.seq ?_
        refine WpC.seq ?_
        refine WpC.regionL ?_
        refine L.move hF rfl rfl rfl ?_
        refine L.move hF rfl rfl rfl ?_
        obtain ⟨r9, hr9, H⟩ := bindS H
        refine L.call [false, false] [4, 2] [] 9 hF rfl rfl rfl ent74 rfl rfl rfl rfl rfl (Flaws_eqActS_gives k false false r7 r4 r9 hr9) rfl ?_
        refine L.not hF rfl rfl rfl ?_
        refine L.nil ?_
        refine WpC.cond rfl (fun hc => ?_) (fun hc => ?_)
        · replace H := condT hc H
          refine WpC.seq ?_
          refine WpC.regionL ?_
          refine L.assign hF rfl rfl rfl ?_
          refine L.nil ?_
          refine WpC.ret ?_
          cases H
          exact Leaves.ret rfl rfl rfl ⟨rfl, rfl⟩
        · replace H := condF hc H
          refine WpC.skip ?_
          refine WpC.seq ?_
          refine WpC.seq ?_
          obtain ⟨r12, hr12, H⟩ := bindS H
          obtain ⟨r13, hr13, H⟩ := bindS H
          refine A.begin mixed rfl rfl ?_
          intro W hI hO
          have n7 : W 2 #[true, true, true, false, false] (mkSt [(1, one (cI a1)), (2, one (cI a2)), (4, one (cI a4)), (5, one (Cell.ptr 0 0)), (8, one (Cell.ptr 1 0)), (12, one (Cell.own 2)), (13, one (Cell.ptr 3 0)), (14, one (Cell.own 4)), (45, agg [Cell.own 5, Cell.own 6, Cell.own 7, Cell.own 8, cI r5.Skew]), (47, agg [Cell.own 9, Cell.own 10, Cell.own 11, Cell.own 12, cI r12.Skew])] [(2, ⟨9, List.map eTimpl_Act r4⟩), (4, ⟨9, List.map eTimpl_Act r7⟩), (5, ⟨1, List.map eI r5.UserRealm⟩), (6, ⟨1, List.map eI r5.ServiceRealm⟩), (7, ⟨2, List.map eTimpl_Pair r5.Links⟩), (8, ⟨2, List.map eTimpl_Pair r5.Proxy⟩), (9, ⟨1, List.map eI r12.UserRealm⟩), (10, ⟨1, List.map eI r12.ServiceRealm⟩), (11, ⟨2, List.map eTimpl_Pair r12.Links⟩), (12, ⟨2, List.map eTimpl_Pair r12.Proxy⟩)] [(0, [Cell.sl g0 (List.map eI a0.UserRealm), Cell.sl g1 (List.map eI a0.ServiceRealm), Cell.sl g2 (List.map eTlaws_Pair a0.Links), Cell.sl g3 (List.map eTlaws_Pair a0.Proxy), cI a0.Skew]), (1, [cI a3.Servers, cI a3.Ops, cI a3.End]), (3, [Cell.own 5, Cell.own 6, Cell.own 7, Cell.own 8, cI r5.Skew])] 13) := by
            refine hI _ _ _ ?_
            refine A.all [3] (by kernel_rfl) rfl ⟨⟨_, rfl, ?_⟩, trivial⟩
            refine L.call [false, false] [5, 6, 7, 8, 9, 10, 11, 12] [] 13 hF rfl rfl rfl ent75 rfl rfl rfl rfl rfl (Flaws_eqConfig_gives k false false false false false false false false r5 r12 r13 hr13) rfl ?_
            refine L.nil ?_
            refine A.take 4 rfl (by kernel_rfl) (by kernel_rfl) (by kernel_rfl) rfl (Ca.un rfl rfl) (fun Q0 k0 => L.not hF rfl rfl rfl (L.nil k0)) ?_
            refine A.le (τ := mkSt [(1, one (cI a1)), (2, one (cI a2)), (4, one (cI a4)), (5, one (Cell.ptr 0 0)), (8, one (Cell.ptr 1 0)), (12, one (Cell.own 2)), (13, one (Cell.ptr 3 0)), (14, one (Cell.own 4)), (49, one (cL (!r13)))] [(2, ⟨9, List.map eTimpl_Act r4⟩), (4, ⟨9, List.map eTimpl_Act r7⟩), (5, ⟨1, List.map eI r5.UserRealm⟩), (6, ⟨1, List.map eI r5.ServiceRealm⟩), (7, ⟨2, List.map eTimpl_Pair r5.Links⟩), (8, ⟨2, List.map eTimpl_Pair r5.Proxy⟩)] [(0, [Cell.sl g0 (List.map eI a0.UserRealm), Cell.sl g1 (List.map eI a0.ServiceRealm), Cell.sl g2 (List.map eTlaws_Pair a0.Links), Cell.sl g3 (List.map eTlaws_Pair a0.Proxy), cI a0.Skew]), (1, [cI a3.Servers, cI a3.Ops, cI a3.End]), (3, [Cell.own 5, Cell.own 6, Cell.own 7, Cell.own 8, cI r5.Skew])] 9) (Le.mk [(0, 0), (1, 1), (2, 2), (3, 3), (4, 4), (5, 5), (6, 6), (7, 7), (8, 8)] hm rfl ⟨⟨_, rfl, rfl⟩, ⟨_, rfl, rfl⟩, ⟨_, rfl, rfl⟩, ⟨_, rfl, rfl⟩, ⟨_, rfl, rfl⟩, ⟨_, rfl, rfl⟩, ⟨_, rfl, rfl⟩, ⟨_, rfl, rfl⟩, ⟨_, rfl, rfl⟩, trivial⟩ ⟨⟨_, rfl, rfl⟩, ⟨_, rfl, rfl⟩, ⟨_, rfl, rfl⟩, ⟨_, rfl, rfl⟩, ⟨_, rfl, rfl⟩, ⟨_, rfl, rfl⟩, trivial⟩ ⟨⟨_, _, rfl, rfl, rfl⟩, ⟨_, _, rfl, rfl, rfl⟩, ⟨_, _, rfl, rfl, rfl⟩, trivial⟩) ?_
            refine A.done (by kernel_rfl) ?_
            refine WpC.cond rfl (fun hc => ?_) (fun hc => ?_)
            · replace H := condT hc H
              refine WpC.seq ?_
              refine WpC.regionL ?_
              refine L.assign hF rfl rfl rfl ?_
              refine L.nil ?_
              refine WpC.ret ?_
              cases H
              exact Leaves.ret rfl rfl rfl ⟨rfl, rfl⟩
            · replace H := condF hc H
              refine WpC.skip ?_
              refine WpC.seq ?_
              refine WpC.regionL ?_
              refine L.assign hF rfl rfl rfl ?_
              refine L.nil ?_
              refine WpC.seq ?_
              refine WpC.regionL ?_
              refine L.loadPtr shape90 hF rfl rfl rfl rfl rfl rfl ?_
              refine L.move hF rfl rfl rfl ?_
              obtain ⟨r14, hr14, H⟩ := bindS H
              refine L.callB [true, false] [] [] 9 [0] hF rfl rfl rfl ent76 rfl rfl rfl rfl rfl (Flaws_markConfig_gives k  r5 (1 : Int) r14 hr14) rfl rfl rfl ?_
              refine L.assign hF rfl rfl rfl ?_
              refine L.nil ?_
              refine WpC.seq ?_
              refine WpC.seq ?_
              refine WpC.regionL ?_
              refine L.move hF rfl rfl rfl ?_
              refine L.bin hF rfl rfl rfl rfl rfl rfl ?_
              refine L.move hF rfl rfl rfl ?_
              refine L.split (fun hc => ?_) (fun hc => ?_)
              · replace H := condT hc H
                refine L.off hF rfl rfl ?_
                refine L.off hF rfl rfl ?_
                refine L.off hF rfl rfl ?_
                refine L.off hF rfl rfl ?_
                refine L.pick hF rfl rfl rfl rfl ?_
                refine L.nil ?_
                refine WpC.cond rfl (fun _ => ?_) (fun hc => by cases hc)
                refine WpC.seq ?_
                refine WpC.regionL ?_
                refine L.assign hF rfl rfl rfl ?_
                refine L.nil ?_
                refine WpC.ret ?_
                cases H
                exact Leaves.ret rfl rfl rfl ⟨rfl, rfl⟩
              · replace H := condF hc H
                refine L.move hF rfl rfl rfl ?_
                refine L.move hF rfl rfl rfl ?_
                obtain ⟨r18, hr18, H⟩ := bindS H
                refine L.call [false, false] [4, 2] [] 10 hF rfl rfl rfl ent74 rfl rfl rfl rfl rfl (Flaws_eqActS_gives k false false r7 r4 r18 hr18) rfl ?_
                refine L.not hF rfl rfl rfl ?_
                refine L.pick hF rfl rfl rfl rfl ?_
                refine L.nil ?_
                refine WpC.cond rfl (fun hc => ?_) (fun hc => ?_)
                · replace H := condT hc H
                  refine WpC.seq ?_
                  refine WpC.regionL ?_
                  refine L.assign hF rfl rfl rfl ?_
                  refine L.nil ?_
                  refine WpC.ret ?_
                  cases H
                  exact Leaves.ret rfl rfl rfl ⟨rfl, rfl⟩
                · replace H := condF hc H
                  refine WpC.skip ?_
                  refine WpC.seq ?_
                  refine WpC.regionL ?_
                  refine L.assign hF rfl rfl rfl ?_
                  refine L.nil ?_
                  refine WpC.seq ?_
                  refine WpC.regionL ?_
                  refine L.move hF rfl rfl rfl ?_
                  refine L.move hF rfl rfl rfl ?_
                  obtain ⟨r19, hr19, H⟩ := bindS H
                  refine L.callB [true, false] [] [] 11 [0] hF rfl rfl rfl ent77 rfl rfl rfl rfl rfl (Flaws_markActS_gives k  r7 (1 : Int) r19 hr19) rfl rfl rfl ?_
                  refine L.assign hF rfl rfl rfl ?_
                  refine L.nil ?_
                  refine WpC.seq ?_
                  refine WpC.regionL ?_
                  refine L.assign hF rfl rfl rfl ?_
                  refine L.nil ?_
                  refine WpC.seq ?_
                  refine WpC.regionL ?_
                  refine L.move hF rfl rfl rfl ?_
                  refine L.move hF rfl rfl rfl ?_
                  obtain ⟨r20, hr20, H⟩ := bindS H
                  refine L.call [false, false] [4] [] 12 hF rfl rfl rfl ent78 rfl rfl rfl rfl rfl (Flaws_heldActS_gives k false r19.2 (1 : Int) r20 hr20) rfl ?_
                  refine L.assign hF rfl rfl rfl ?_
                  refine L.nil ?_
                  refine WpC.seq ?_
                  refine WpC.seq ?_
                  refine WpC.regionL ?_
                  refine L.move hF rfl rfl rfl ?_
                  refine L.bin hF rfl rfl rfl rfl rfl rfl ?_
                  refine L.nil ?_
                  refine WpC.cond rfl (fun hc => ?_) (fun hc => ?_)
                  · replace H := condT hc H
                    refine WpC.seq ?_
                    refine WpC.regionL ?_
                    refine L.assign hF rfl rfl rfl ?_
                    refine L.nil ?_
                    refine WpC.ret ?_
                    cases H
                    exact Leaves.ret rfl rfl rfl ⟨rfl, rfl⟩
                  · replace H := condF hc H
                    refine WpC.skip ?_
                    refine WpC.seq ?_
                    refine WpC.seq ?_
                    refine WpC.regionL ?_
                    refine L.move hF rfl rfl rfl ?_
                    refine L.move hF rfl rfl rfl ?_
                    refine L.bin hF rfl rfl rfl rfl rfl rfl ?_
                    refine L.nil ?_
                    refine WpC.cond rfl (fun hc => ?_) (fun hc => ?_)
                    · replace H := condT hc H
                      refine WpC.seq ?_
                      refine WpC.regionL ?_
                      refine L.assign hF rfl rfl rfl ?_
                      refine L.nil ?_
                      refine WpC.ret ?_
                      cases H
                      exact Leaves.ret rfl rfl rfl ⟨rfl, rfl⟩
                    · replace H := condF hc H
                      refine WpC.skip ?_
                      refine WpC.seq ?_
                      obtain ⟨r21, hr21, H⟩ := bindS H
                      obtain ⟨r22, hr22, H⟩ := bindS H
                      obtain ⟨r23, hr23, H⟩ := bindS H
                      refine A.begin mixed rfl rfl ?_
                      intro W hI hO
                      have n95 : W 3 #[true, true, true, true, true, false, true, false, false] (mkSt [(12, one (Cell.own 0)), (14, one (Cell.own 1)), (16, one (cI r19.1)), (73, agg [Cell.own 2, Cell.own 3, Cell.own 4, Cell.own 5, cI r21.Skew]), (74, one (cI a1)), (75, one (cI a2)), (76, agg [cI a3.Servers, cI a3.Ops, cI a3.End]), (78, one (cI a4))] [(0, ⟨9, List.map eTimpl_Act r4⟩), (1, ⟨9, List.map eTimpl_Act r19.2⟩), (2, ⟨1, List.map eI r21.UserRealm⟩), (3, ⟨1, List.map eI r21.ServiceRealm⟩), (4, ⟨2, List.map eTimpl_Pair r21.Links⟩), (5, ⟨2, List.map eTimpl_Pair r21.Proxy⟩)] [] 6) := by
                        refine hI _ _ _ ?_
                        refine A.all [5] (by kernel_rfl) rfl ⟨⟨_, rfl, ?_⟩, trivial⟩
                        refine L.call [false] [] [] 6 hF rfl rfl rfl ent72 rfl rfl rfl rfl rfl (Flaws_toRest_gives k  a3 r22 hr22) rfl ?_
                        refine L.nil ?_
                        refine A.all [7] (by kernel_rfl) rfl ⟨⟨_, rfl, ?_⟩, trivial⟩
                        refine L.call [false, false, false, false, false] [2, 3, 4, 5] [] 9 hF rfl rfl rfl ent73 rfl rfl rfl rfl rfl (Fimpl_Flow_gives k false false false false r21 a1 a2 r22 a4 r23 hr23) rfl ?_
                        refine L.nil ?_
                        refine A.take 8 rfl (by kernel_rfl) (by kernel_rfl) (by kernel_rfl) rfl (Ca.assign) (fun Q0 k0 => L.assign hF rfl rfl rfl (L.nil k0)) ?_
                        refine A.le (τ := mkSt [(12, one (Cell.own 0)), (14, one (Cell.own 1)), (16, one (cI r19.1)), (18, one (Cell.own 2))] [(0, ⟨9, List.map eTimpl_Act r4⟩), (1, ⟨9, List.map eTimpl_Act r19.2⟩), (2, ⟨9, List.map eTimpl_Act r23⟩)] [] 3) (Le.mk [(0, 0), (1, 1), (2, 9)] hm rfl ⟨⟨_, rfl, rfl⟩, ⟨_, rfl, rfl⟩, ⟨_, rfl, rfl⟩, ⟨_, rfl, rfl⟩, trivial⟩ ⟨⟨_, rfl, rfl⟩, ⟨_, rfl, rfl⟩, ⟨_, rfl, rfl⟩, trivial⟩ trivial) ?_
                        refine A.done (by kernel_rfl) ?_
                        refine WpC.seq ?_
                        refine WpC.seq ?_
                        refine WpC.regionL ?_
                        refine L.move hF rfl rfl rfl ?_
                        refine L.move hF rfl rfl rfl ?_
                        obtain ⟨r25, hr25, H⟩ := bindS H
                        refine L.call [false, false] [2, 0] [] 3 hF rfl rfl rfl ent74 rfl rfl rfl rfl rfl (Flaws_eqActS_gives k false false r23 r4 r25 hr25) rfl ?_
                        refine L.not hF rfl rfl rfl ?_
                        refine L.nil ?_
                        refine WpC.cond rfl (fun hc => ?_) (fun hc => ?_)
                        · replace H := condT hc H
                          refine WpC.seq ?_
                          refine WpC.regionL ?_
                          refine L.assign hF rfl rfl rfl ?_
                          refine L.nil ?_
                          refine WpC.ret ?_
                          cases H
                          exact Leaves.ret rfl rfl rfl ⟨rfl, rfl⟩
                        · replace H := condF hc H
                          refine WpC.skip ?_
                          refine WpC.seq ?_
                          refine WpC.regionL ?_
                          refine L.assign hF rfl rfl rfl ?_
                          refine L.nil ?_
                          refine WpC.seq ?_
                          refine WpC.regionL ?_
                          refine L.move hF rfl rfl rfl ?_
                          refine L.move hF rfl rfl rfl ?_
                          obtain ⟨r26, hr26, H⟩ := bindS H
                          refine L.call [false, false] [1] [] 4 hF rfl rfl rfl ent78 rfl rfl rfl rfl rfl (Flaws_heldActS_gives k false r19.2 (1 : Int) r26 hr26) rfl ?_
                          refine L.assign hF rfl rfl rfl ?_
                          refine L.nil ?_
                          refine WpC.seq ?_
                          refine WpC.seq ?_
                          refine WpC.regionL ?_
                          refine L.move hF rfl rfl rfl ?_
                          refine L.bin hF rfl rfl rfl rfl rfl rfl ?_
                          refine L.nil ?_
                          refine WpC.cond rfl (fun hc => ?_) (fun hc => ?_)
                          · replace H := condT hc H
                            refine WpC.seq ?_
                            refine WpC.regionL ?_
                            refine L.assign hF rfl rfl rfl ?_
                            refine L.nil ?_
                            refine WpC.ret ?_
                            cases H
                            exact Leaves.ret rfl rfl rfl ⟨rfl, rfl⟩
                          · replace H := condF hc H
                            refine WpC.skip ?_
                            refine WpC.seq ?_
                            refine WpC.seq ?_
                            refine WpC.regionL ?_
                            refine L.move hF rfl rfl rfl ?_
                            refine L.move hF rfl rfl rfl ?_
                            refine L.bin hF rfl rfl rfl rfl rfl rfl ?_
                            refine L.nil ?_
                            refine WpC.cond rfl (fun hc => ?_) (fun hc => ?_)
                            · replace H := condT hc H
                              refine WpC.seq ?_
                              refine WpC.regionL ?_
                              refine L.assign hF rfl rfl rfl ?_
                              refine L.nil ?_
                              refine WpC.ret ?_
                              cases H
                              exact Leaves.ret rfl rfl rfl ⟨rfl, rfl⟩
                            · replace H := condF hc H
                              refine WpC.skip ?_
                              refine WpC.seq ?_
                              refine WpC.regionL ?_
                              refine L.assign hF rfl rfl rfl ?_
                              refine L.nil ?_
                              refine WpC.ret ?_
                              cases H
                              exact Leaves.ret rfl rfl rfl ⟨rfl, rfl⟩
                      have n93 : W 4 #[true, false, true, true, true, false, true, false, false] (mkSt [(12, one (Cell.own 0)), (14, one (Cell.own 1)), (16, one (cI r19.1)), (72, agg [Cell.sl g0 (List.map eI a0.UserRealm), Cell.sl g1 (List.map eI a0.ServiceRealm), Cell.sl g2 (List.map eTlaws_Pair a0.Links), Cell.sl g3 (List.map eTlaws_Pair a0.Proxy), cI a0.Skew]), (74, one (cI a1)), (75, one (cI a2)), (76, agg [cI a3.Servers, cI a3.Ops, cI a3.End]), (78, one (cI a4))] [(0, ⟨9, List.map eTimpl_Act r4⟩), (1, ⟨9, List.map eTimpl_Act r19.2⟩)] [] 2) := by
                        refine hI _ _ _ ?_
                        refine A.all [1] (by kernel_rfl) rfl ⟨⟨_, rfl, ?_⟩, trivial⟩
                        refine L.call [false] [] [] 2 hF rfl rfl rfl ent71 rfl rfl rfl rfl rfl (Flaws_toConfig_gives k g0 g1 g2 g3 a0 r21 hr21) rfl ?_
                        refine L.nil ?_
                        exact A.on (hO _ _ _ n95) (Le.mk [(0, 0), (1, 1), (2, 2), (3, 3), (4, 4), (5, 5)] hm rfl ⟨⟨_, rfl, rfl⟩, ⟨_, rfl, rfl⟩, ⟨_, rfl, rfl⟩, ⟨_, rfl, rfl⟩, ⟨_, rfl, rfl⟩, ⟨_, rfl, rfl⟩, ⟨_, rfl, rfl⟩, ⟨_, rfl, rfl⟩, trivial⟩ ⟨⟨_, rfl, rfl⟩, ⟨_, rfl, rfl⟩, ⟨_, rfl, rfl⟩, ⟨_, rfl, rfl⟩, ⟨_, rfl, rfl⟩, ⟨_, rfl, rfl⟩, trivial⟩ trivial)
                      refine hI _ _ _ ?_
                      refine A.take 2 rfl (by kernel_rfl) (by kernel_rfl) (by kernel_rfl) rfl (Ca.move) (fun Q0 k0 => L.move hF rfl rfl rfl (L.nil k0)) ?_
                      refine A.take 3 rfl (by kernel_rfl) (by kernel_rfl) (by kernel_rfl) rfl (Ca.move) (fun Q0 k0 => L.move hF rfl rfl rfl (L.nil k0)) ?_
                      refine A.take 6 rfl (by kernel_rfl) (by kernel_rfl) (by kernel_rfl) rfl (Ca.move) (fun Q0 k0 => L.move hF rfl rfl rfl (L.nil k0)) ?_
                      refine A.all [0, 4] (by kernel_rfl) rfl ⟨⟨_, rfl, ?_⟩, ⟨_, rfl, ?_⟩, trivial⟩
                      · refine L.loadPtr shape83 hF rfl rfl rfl rfl rfl rfl ?_
                        refine L.nil ?_
                        refine A.all [1, 4] (by kernel_rfl) rfl ⟨⟨_, rfl, ?_⟩, ⟨_, rfl, ?_⟩, trivial⟩
                        · refine L.call [false] [] [] 13 hF rfl rfl rfl ent71 rfl rfl rfl rfl rfl (Flaws_toConfig_gives k g0 g1 g2 g3 a0 r21 hr21) rfl ?_
                          refine L.nil ?_
                          refine A.all [4] (by kernel_rfl) rfl ⟨⟨_, rfl, ?_⟩, trivial⟩
                          refine L.loadPtr shape84 hF rfl rfl rfl rfl rfl rfl ?_
                          refine L.nil ?_
                          exact A.on (hO _ _ _ n95) (Le.mk [(0, 2), (1, 4), (2, 13), (3, 14), (4, 15), (5, 16)] hm rfl ⟨⟨_, rfl, rfl⟩, ⟨_, rfl, rfl⟩, ⟨_, rfl, rfl⟩, ⟨_, rfl, rfl⟩, ⟨_, rfl, rfl⟩, ⟨_, rfl, rfl⟩, ⟨_, rfl, rfl⟩, ⟨_, rfl, rfl⟩, trivial⟩ ⟨⟨_, rfl, rfl⟩, ⟨_, rfl, rfl⟩, ⟨_, rfl, rfl⟩, ⟨_, rfl, rfl⟩, ⟨_, rfl, rfl⟩, ⟨_, rfl, rfl⟩, trivial⟩ trivial)
                        · refine L.loadPtr shape84 hF rfl rfl rfl rfl rfl rfl ?_
                          refine L.nil ?_
                          exact A.on (hO _ _ _ n93) (Le.mk [(0, 2), (1, 4)] hm rfl ⟨⟨_, rfl, rfl⟩, ⟨_, rfl, rfl⟩, ⟨_, rfl, rfl⟩, ⟨_, rfl, rfl⟩, ⟨_, rfl, rfl⟩, ⟨_, rfl, rfl⟩, ⟨_, rfl, rfl⟩, ⟨_, rfl, rfl⟩, trivial⟩ ⟨⟨_, rfl, rfl⟩, ⟨_, rfl, rfl⟩, trivial⟩ trivial)
                      · refine L.loadPtr shape84 hF rfl rfl rfl rfl rfl rfl ?_
                        refine L.nil ?_
                        refine A.all [0] (by kernel_rfl) rfl ⟨⟨_, rfl, ?_⟩, trivial⟩
                        refine L.loadPtr shape83 hF rfl rfl rfl rfl rfl rfl ?_
                        refine L.nil ?_
                        exact A.on (hO _ _ _ n93) (Le.mk [(0, 2), (1, 4)] hm rfl ⟨⟨_, rfl, rfl⟩, ⟨_, rfl, rfl⟩, ⟨_, rfl, rfl⟩, ⟨_, rfl, rfl⟩, ⟨_, rfl, rfl⟩, ⟨_, rfl, rfl⟩, ⟨_, rfl, rfl⟩, ⟨_, rfl, rfl⟩, trivial⟩ ⟨⟨_, rfl, rfl⟩, ⟨_, rfl, rfl⟩, trivial⟩ trivial)
          have n3 : W 3 #[true, true, false, false, false] (mkSt [(1, one (cI a1)), (2, one (cI a2)), (4, one (cI a4)), (5, one (Cell.ptr 0 0)), (8, one (Cell.ptr 1 0)), (12, one (Cell.own 2)), (13, one (Cell.ptr 3 0)), (14, one (Cell.own 4)), (45, agg [Cell.own 5, Cell.own 6, Cell.own 7, Cell.own 8, cI r5.Skew]), (46, agg [Cell.sl g0 (List.map eI a0.UserRealm), Cell.sl g1 (List.map eI a0.ServiceRealm), Cell.sl g2 (List.map eTlaws_Pair a0.Links), Cell.sl g3 (List.map eTlaws_Pair a0.Proxy), cI a0.Skew])] [(2, ⟨9, List.map eTimpl_Act r4⟩), (4, ⟨9, List.map eTimpl_Act r7⟩), (5, ⟨1, List.map eI r5.UserRealm⟩), (6, ⟨1, List.map eI r5.ServiceRealm⟩), (7, ⟨2, List.map eTimpl_Pair r5.Links⟩), (8, ⟨2, List.map eTimpl_Pair r5.Proxy⟩)] [(0, [Cell.sl g0 (List.map eI a0.UserRealm), Cell.sl g1 (List.map eI a0.ServiceRealm), Cell.sl g2 (List.map eTlaws_Pair a0.Links), Cell.sl g3 (List.map eTlaws_Pair a0.Proxy), cI a0.Skew]), (1, [cI a3.Servers, cI a3.Ops, cI a3.End]), (3, [Cell.own 5, Cell.own 6, Cell.own 7, Cell.own 8, cI r5.Skew])] 9) := by
            refine hI _ _ _ ?_
            refine A.all [2] (by kernel_rfl) rfl ⟨⟨_, rfl, ?_⟩, trivial⟩
            refine L.call [false] [] [] 9 hF rfl rfl rfl ent71 rfl rfl rfl rfl rfl (Flaws_toConfig_gives k g0 g1 g2 g3 a0 r12 hr12) rfl ?_
            refine L.nil ?_
            exact A.on (hO _ _ _ n7) (Le.mk [(0, 0), (1, 1), (2, 2), (3, 3), (4, 4), (5, 5), (6, 6), (7, 7), (8, 8), (9, 9), (10, 10), (11, 11), (12, 12)] hm rfl ⟨⟨_, rfl, rfl⟩, ⟨_, rfl, rfl⟩, ⟨_, rfl, rfl⟩, ⟨_, rfl, rfl⟩, ⟨_, rfl, rfl⟩, ⟨_, rfl, rfl⟩, ⟨_, rfl, rfl⟩, ⟨_, rfl, rfl⟩, ⟨_, rfl, rfl⟩, ⟨_, rfl, rfl⟩, trivial⟩ ⟨⟨_, rfl, rfl⟩, ⟨_, rfl, rfl⟩, ⟨_, rfl, rfl⟩, ⟨_, rfl, rfl⟩, ⟨_, rfl, rfl⟩, ⟨_, rfl, rfl⟩, ⟨_, rfl, rfl⟩, ⟨_, rfl, rfl⟩, ⟨_, rfl, rfl⟩, ⟨_, rfl, rfl⟩, trivial⟩ ⟨⟨_, _, rfl, rfl, rfl⟩, ⟨_, _, rfl, rfl, rfl⟩, ⟨_, _, rfl, rfl, rfl⟩, trivial⟩)
          refine hI _ _ _ ?_
          refine A.all [0, 1] (by kernel_rfl) rfl ⟨⟨_, rfl, ?_⟩, ⟨_, rfl, ?_⟩, trivial⟩
          · refine L.loadPtr shape90 hF rfl rfl rfl rfl rfl rfl ?_
            refine L.nil ?_
            refine A.all [1] (by kernel_rfl) rfl ⟨⟨_, rfl, ?_⟩, trivial⟩
            refine L.loadPtr shape83 hF rfl rfl rfl rfl rfl rfl ?_
            refine L.nil ?_
            exact A.on (hO _ _ _ n3) (Le.mk [(0, 0), (1, 1), (2, 2), (3, 3), (4, 4), (5, 5), (6, 6), (7, 7), (8, 8)] hm rfl ⟨⟨_, rfl, rfl⟩, ⟨_, rfl, rfl⟩, ⟨_, rfl, rfl⟩, ⟨_, rfl, rfl⟩, ⟨_, rfl, rfl⟩, ⟨_, rfl, rfl⟩, ⟨_, rfl, rfl⟩, ⟨_, rfl, rfl⟩, ⟨_, rfl, rfl⟩, ⟨_, rfl, rfl⟩, trivial⟩ ⟨⟨_, rfl, rfl⟩, ⟨_, rfl, rfl⟩, ⟨_, rfl, rfl⟩, ⟨_, rfl, rfl⟩, ⟨_, rfl, rfl⟩, ⟨_, rfl, rfl⟩, trivial⟩ ⟨⟨_, _, rfl, rfl, rfl⟩, ⟨_, _, rfl, rfl, rfl⟩, ⟨_, _, rfl, rfl, rfl⟩, trivial⟩)
          · refine L.loadPtr shape83 hF rfl rfl rfl rfl rfl rfl ?_
            refine L.nil ?_
            refine A.all [0, 2] (by kernel_rfl) rfl ⟨⟨_, rfl, ?_⟩, ⟨_, rfl, ?_⟩, trivial⟩
            · refine L.loadPtr shape90 hF rfl rfl rfl rfl rfl rfl ?_
              refine L.nil ?_
              exact A.on (hO _ _ _ n3) (Le.mk [(0, 0), (1, 1), (2, 2), (3, 3), (4, 4), (5, 5), (6, 6), (7, 7), (8, 8)] hm rfl ⟨⟨_, rfl, rfl⟩, ⟨_, rfl, rfl⟩, ⟨_, rfl, rfl⟩, ⟨_, rfl, rfl⟩, ⟨_, rfl, rfl⟩, ⟨_, rfl, rfl⟩, ⟨_, rfl, rfl⟩, ⟨_, rfl, rfl⟩, ⟨_, rfl, rfl⟩, ⟨_, rfl, rfl⟩, trivial⟩ ⟨⟨_, rfl, rfl⟩, ⟨_, rfl, rfl⟩, ⟨_, rfl, rfl⟩, ⟨_, rfl, rfl⟩, ⟨_, rfl, rfl⟩, ⟨_, rfl, rfl⟩, trivial⟩ ⟨⟨_, _, rfl, rfl, rfl⟩, ⟨_, _, rfl, rfl, rfl⟩, ⟨_, _, rfl, rfl, rfl⟩, trivial⟩)
            · refine L.call [false] [] [] 10 hF rfl rfl rfl ent71 rfl rfl rfl rfl rfl (Flaws_toConfig_gives k g0 g1 g2 g3 a0 r12 hr12) rfl ?_
              refine L.nil ?_
              refine A.all [0] (by kernel_rfl) rfl ⟨⟨_, rfl, ?_⟩, trivial⟩
              refine L.loadPtr shape90 hF rfl rfl rfl rfl rfl rfl ?_
              refine L.nil ?_
              exact A.on (hO _ _ _ n7) (Le.mk [(0, 0), (1, 1), (2, 2), (3, 3), (4, 4), (5, 5), (6, 6), (7, 7), (8, 8), (9, 10), (10, 11), (11, 12), (12, 13)] hm rfl ⟨⟨_, rfl, rfl⟩, ⟨_, rfl, rfl⟩, ⟨_, rfl, rfl⟩, ⟨_, rfl, rfl⟩, ⟨_, rfl, rfl⟩, ⟨_, rfl, rfl⟩, ⟨_, rfl, rfl⟩, ⟨_, rfl, rfl⟩, ⟨_, rfl, rfl⟩, ⟨_, rfl, rfl⟩, trivial⟩ ⟨⟨_, rfl, rfl⟩, ⟨_, rfl, rfl⟩, ⟨_, rfl, rfl⟩, ⟨_, rfl, rfl⟩, ⟨_, rfl, rfl⟩, ⟨_, rfl, rfl⟩, ⟨_, rfl, rfl⟩, ⟨_, rfl, rfl⟩, ⟨_, rfl, rfl⟩, ⟨_, rfl, rfl⟩, trivial⟩ ⟨⟨_, _, rfl, rfl, rfl⟩, ⟨_, _, rfl, rfl, rfl⟩, ⟨_, _, rfl, rfl, rfl⟩, trivial⟩)
      have n47 : W 3 #[true, true, true, true, false, true, false, false] (mkSt [(1, one (cI a1)), (2, one (cI a2)), (4, one (cI a4)), (5, one (Cell.ptr 0 0)), (8, one (Cell.ptr 1 0)), (12, one (Cell.own 2)), (13, one (Cell.ptr 3 0)), (34, agg [Cell.own 4, Cell.own 5, Cell.own 6, Cell.own 7, cI r5.Skew]), (35, one (cI a1)), (36, one (cI a2)), (37, agg [cI a3.Servers, cI a3.Ops, cI a3.End]), (39, one (cI a4))] [(2, ⟨9, List.map eTimpl_Act r4⟩), (4, ⟨1, List.map eI r5.UserRealm⟩), (5, ⟨1, List.map eI r5.ServiceRealm⟩), (6, ⟨2, List.map eTimpl_Pair r5.Links⟩), (7, ⟨2, List.map eTimpl_Pair r5.Proxy⟩)] [(0, [Cell.sl g0 (List.map eI a0.UserRealm), Cell.sl g1 (List.map eI a0.ServiceRealm), Cell.sl g2 (List.map eTlaws_Pair a0.Links), Cell.sl g3 (List.map eTlaws_Pair a0.Proxy), cI a0.Skew]), (1, [cI a3.Servers, cI a3.Ops, cI a3.End]), (3, [Cell.own 4, Cell.own 5, Cell.own 6, Cell.own 7, cI r5.Skew])] 8) := by
        refine hI _ _ _ ?_
        refine A.all [4] (by kernel_rfl) rfl ⟨⟨_, rfl, ?_⟩, trivial⟩
        refine L.call [false] [] [] 8 hF rfl rfl rfl ent72 rfl rfl rfl rfl rfl (Flaws_toRest_gives k  a3 r6 hr6) rfl ?_
        refine L.nil ?_
        exact A.on (hO _ _ _ n63) (Le.mk [(0, 0), (1, 1), (2, 2), (3, 3), (4, 4), (5, 5), (6, 6), (7, 7)] hm rfl ⟨⟨_, rfl, rfl⟩, ⟨_, rfl, rfl⟩, ⟨_, rfl, rfl⟩, ⟨_, rfl, rfl⟩, ⟨_, rfl, rfl⟩, ⟨_, rfl, rfl⟩, ⟨_, rfl, rfl⟩, ⟨_, rfl, rfl⟩, ⟨_, rfl, rfl⟩, ⟨_, rfl, rfl⟩, ⟨_, rfl, rfl⟩, ⟨_, rfl, rfl⟩, trivial⟩ ⟨⟨_, rfl, rfl⟩, ⟨_, rfl, rfl⟩, ⟨_, rfl, rfl⟩, ⟨_, rfl, rfl⟩, ⟨_, rfl, rfl⟩, trivial⟩ ⟨⟨_, _, rfl, rfl, rfl⟩, ⟨_, _, rfl, rfl, rfl⟩, ⟨_, _, rfl, rfl, rfl⟩, trivial⟩)
      refine hI _ _ _ ?_
      refine A.take 1 rfl (by kernel_rfl) (by kernel_rfl) (by kernel_rfl) rfl (Ca.move) (fun Q0 k0 => L.move hF rfl rfl rfl (L.nil k0)) ?_
      refine A.take 2 rfl (by kernel_rfl) (by kernel_rfl) (by kernel_rfl) rfl (Ca.move) (fun Q0 k0 => L.move hF rfl rfl rfl (L.nil k0)) ?_
      refine A.take 5 rfl (by kernel_rfl) (by kernel_rfl) (by kernel_rfl) rfl (Ca.move) (fun Q0 k0 => L.move hF rfl rfl rfl (L.nil k0)) ?_
      refine A.all [0, 3] (by kernel_rfl) rfl ⟨⟨_, rfl, ?_⟩, ⟨_, rfl, ?_⟩, trivial⟩
      · refine L.loadPtr shape90 hF rfl rfl rfl rfl rfl rfl ?_
        refine L.nil ?_
        refine A.all [3] (by kernel_rfl) rfl ⟨⟨_, rfl, ?_⟩, trivial⟩
        refine L.loadPtr shape84 hF rfl rfl rfl rfl rfl rfl ?_
        refine L.nil ?_
        exact A.on (hO _ _ _ n47) (Le.mk [(0, 0), (1, 1), (2, 2), (3, 8), (4, 3), (5, 4), (6, 5), (7, 6)] hm rfl ⟨⟨_, rfl, rfl⟩, ⟨_, rfl, rfl⟩, ⟨_, rfl, rfl⟩, ⟨_, rfl, rfl⟩, ⟨_, rfl, rfl⟩, ⟨_, rfl, rfl⟩, ⟨_, rfl, rfl⟩, ⟨_, rfl, rfl⟩, ⟨_, rfl, rfl⟩, ⟨_, rfl, rfl⟩, ⟨_, rfl, rfl⟩, ⟨_, rfl, rfl⟩, trivial⟩ ⟨⟨_, rfl, rfl⟩, ⟨_, rfl, rfl⟩, ⟨_, rfl, rfl⟩, ⟨_, rfl, rfl⟩, ⟨_, rfl, rfl⟩, trivial⟩ ⟨⟨_, _, rfl, rfl, rfl⟩, ⟨_, _, rfl, rfl, rfl⟩, ⟨_, _, rfl, rfl, rfl⟩, trivial⟩)
      · refine L.loadPtr shape84 hF rfl rfl rfl rfl rfl rfl ?_
        refine L.nil ?_
        refine A.all [0, 4] (by kernel_rfl) rfl ⟨⟨_, rfl, ?_⟩, ⟨_, rfl, ?_⟩, trivial⟩
        · refine L.loadPtr shape90 hF rfl rfl rfl rfl rfl rfl ?_
          refine L.nil ?_
          exact A.on (hO _ _ _ n47) (Le.mk [(0, 0), (1, 1), (2, 2), (3, 8), (4, 3), (5, 4), (6, 5), (7, 6)] hm rfl ⟨⟨_, rfl, rfl⟩, ⟨_, rfl, rfl⟩, ⟨_, rfl, rfl⟩, ⟨_, rfl, rfl⟩, ⟨_, rfl, rfl⟩, ⟨_, rfl, rfl⟩, ⟨_, rfl, rfl⟩, ⟨_, rfl, rfl⟩, ⟨_, rfl, rfl⟩, ⟨_, rfl, rfl⟩, ⟨_, rfl, rfl⟩, ⟨_, rfl, rfl⟩, trivial⟩ ⟨⟨_, rfl, rfl⟩, ⟨_, rfl, rfl⟩, ⟨_, rfl, rfl⟩, ⟨_, rfl, rfl⟩, ⟨_, rfl, rfl⟩, trivial⟩ ⟨⟨_, _, rfl, rfl, rfl⟩, ⟨_, _, rfl, rfl, rfl⟩, ⟨_, _, rfl, rfl, rfl⟩, trivial⟩)
        · refine L.call [false] [] [] 9 hF rfl rfl rfl ent72 rfl rfl rfl rfl rfl (Flaws_toRest_gives k  a3 r6 hr6) rfl ?_
          refine L.nil ?_
          refine A.all [0] (by kernel_rfl) rfl ⟨⟨_, rfl, ?_⟩, trivial⟩
          refine L.loadPtr shape90 hF rfl rfl rfl rfl rfl rfl ?_
          refine L.nil ?_
          exact A.on (hO _ _ _ n63) (Le.mk [(0, 0), (1, 1), (2, 2), (3, 8), (4, 3), (5, 4), (6, 5), (7, 6)] hm rfl ⟨⟨_, rfl, rfl⟩, ⟨_, rfl, rfl⟩, ⟨_, rfl, rfl⟩, ⟨_, rfl, rfl⟩, ⟨_, rfl, rfl⟩, ⟨_, rfl, rfl⟩, ⟨_, rfl, rfl⟩, ⟨_, rfl, rfl⟩, ⟨_, rfl, rfl⟩, ⟨_, rfl, rfl⟩, ⟨_, rfl, rfl⟩, ⟨_, rfl, rfl⟩, trivial⟩ ⟨⟨_, rfl, rfl⟩, ⟨_, rfl, rfl⟩, ⟨_, rfl, rfl⟩, ⟨_, rfl, rfl⟩, ⟨_, rfl, rfl⟩, trivial⟩ ⟨⟨_, _, rfl, rfl, rfl⟩, ⟨_, _, rfl, rfl, rfl⟩, ⟨_, _, rfl, rfl, rfl⟩, trivial⟩)
    have n93 : W 4 #[true, false, true, true, true, false, true, false, false] (mkSt [(1, one (cI a1)), (2, one (cI a2)), (4, one (cI a4)), (5, one (Cell.ptr 0 0)), (8, one (Cell.ptr 1 0)), (24, agg [Cell.sl g0 (List.map eI a0.UserRealm), Cell.sl g1 (List.map eI a0.ServiceRealm), Cell.sl g2 (List.map eTlaws_Pair a0.Links), Cell.sl g3 (List.map eTlaws_Pair a0.Proxy), cI a0.Skew]), (26, one (cI a1)), (27, one (cI a2)), (28, agg [cI a3.Servers, cI a3.Ops, cI a3.End]), (30, one (cI a4))] [] [(0, [Cell.sl g0 (List.map eI a0.UserRealm), Cell.sl g1 (List.map eI a0.ServiceRealm), Cell.sl g2 (List.map eTlaws_Pair a0.Links), Cell.sl g3 (List.map eTlaws_Pair a0.Proxy), cI a0.Skew]), (1, [cI a3.Servers, cI a3.Ops, cI a3.End])] 2) := by
      refine hI _ _ _ ?_
      refine A.all [1] (by kernel_rfl) rfl ⟨⟨_, rfl, ?_⟩, trivial⟩
      refine L.call [false] [] [] 2 hF rfl rfl rfl ent71 rfl rfl rfl rfl rfl (Flaws_toConfig_gives k g0 g1 g2 g3 a0 r2 hr2) rfl ?_
      refine L.nil ?_
      exact A.on (hO _ _ _ n95) (Le.mk [(0, 0), (1, 1), (2, 2), (3, 3), (4, 4), (5, 5)] hm rfl ⟨⟨_, rfl, rfl⟩, ⟨_, rfl, rfl⟩, ⟨_, rfl, rfl⟩, ⟨_, rfl, rfl⟩, ⟨_, rfl, rfl⟩, ⟨_, rfl, rfl⟩, ⟨_, rfl, rfl⟩, ⟨_, rfl, rfl⟩, ⟨_, rfl, rfl⟩, ⟨_, rfl, rfl⟩, trivial⟩ ⟨⟨_, rfl, rfl⟩, ⟨_, rfl, rfl⟩, ⟨_, rfl, rfl⟩, ⟨_, rfl, rfl⟩, trivial⟩ ⟨⟨_, _, rfl, rfl, rfl⟩, ⟨_, _, rfl, rfl, rfl⟩, trivial⟩)
    refine hI _ _ _ ?_
    refine A.take 2 rfl (by kernel_rfl) (by kernel_rfl) (by kernel_rfl) rfl (Ca.move) (fun Q0 k0 => L.move hF rfl rfl rfl (L.nil k0)) ?_
    refine A.take 3 rfl (by kernel_rfl) (by kernel_rfl) (by kernel_rfl) rfl (Ca.move) (fun Q0 k0 => L.move hF rfl rfl rfl (L.nil k0)) ?_
    refine A.take 6 rfl (by kernel_rfl) (by kernel_rfl) (by kernel_rfl) rfl (Ca.move) (fun Q0 k0 => L.move hF rfl rfl rfl (L.nil k0)) ?_
    refine A.all [0, 4] (by kernel_rfl) rfl ⟨⟨_, rfl, ?_⟩, ⟨_, rfl, ?_⟩, trivial⟩
    · refine L.loadPtr shape83 hF rfl rfl rfl rfl rfl rfl ?_
      refine L.nil ?_
      refine A.all [1, 4] (by kernel_rfl) rfl ⟨⟨_, rfl, ?_⟩, ⟨_, rfl, ?_⟩, trivial⟩
      · refine L.call [false] [] [] 14 hF rfl rfl rfl ent71 rfl rfl rfl rfl rfl (Flaws_toConfig_gives k g0 g1 g2 g3 a0 r2 hr2) rfl ?_
        refine L.nil ?_
        refine A.all [4] (by kernel_rfl) rfl ⟨⟨_, rfl, ?_⟩, trivial⟩
        refine L.loadPtr shape84 hF rfl rfl rfl rfl rfl rfl ?_
        refine L.nil ?_
        exact A.on (hO _ _ _ n95) (Le.mk [(0, 11), (1, 12), (2, 14), (3, 15), (4, 16), (5, 17)] hm rfl ⟨⟨_, rfl, rfl⟩, ⟨_, rfl, rfl⟩, ⟨_, rfl, rfl⟩, ⟨_, rfl, rfl⟩, ⟨_, rfl, rfl⟩, ⟨_, rfl, rfl⟩, ⟨_, rfl, rfl⟩, ⟨_, rfl, rfl⟩, ⟨_, rfl, rfl⟩, ⟨_, rfl, rfl⟩, trivial⟩ ⟨⟨_, rfl, rfl⟩, ⟨_, rfl, rfl⟩, ⟨_, rfl, rfl⟩, ⟨_, rfl, rfl⟩, trivial⟩ ⟨⟨_, _, rfl, rfl, rfl⟩, ⟨_, _, rfl, rfl, rfl⟩, trivial⟩)
      · refine L.loadPtr shape84 hF rfl rfl rfl rfl rfl rfl ?_
        refine L.nil ?_
        exact A.on (hO _ _ _ n93) (Le.mk [(0, 11), (1, 12)] hm rfl ⟨⟨_, rfl, rfl⟩, ⟨_, rfl, rfl⟩, ⟨_, rfl, rfl⟩, ⟨_, rfl, rfl⟩, ⟨_, rfl, rfl⟩, ⟨_, rfl, rfl⟩, ⟨_, rfl, rfl⟩, ⟨_, rfl, rfl⟩, ⟨_, rfl, rfl⟩, ⟨_, rfl, rfl⟩, trivial⟩ trivial ⟨⟨_, _, rfl, rfl, rfl⟩, ⟨_, _, rfl, rfl, rfl⟩, trivial⟩)
    · refine L.loadPtr shape84 hF rfl rfl rfl rfl rfl rfl ?_
      refine L.nil ?_
      refine A.all [0] (by kernel_rfl) rfl ⟨⟨_, rfl, ?_⟩, trivial⟩
      refine L.loadPtr shape83 hF rfl rfl rfl rfl rfl rfl ?_
      refine L.nil ?_
      exact A.on (hO _ _ _ n93) (Le.mk [(0, 11), (1, 12)] hm rfl ⟨⟨_, rfl, rfl⟩, ⟨_, rfl, rfl⟩, ⟨_, rfl, rfl⟩, ⟨_, rfl, rfl⟩, ⟨_, rfl, rfl⟩, ⟨_, rfl, rfl⟩, ⟨_, rfl, rfl⟩, ⟨_, rfl, rfl⟩, ⟨_, rfl, rfl⟩, ⟨_, rfl, rfl⟩, trivial⟩ trivial ⟨⟨_, _, rfl, rfl, rfl⟩, ⟨_, _, rfl, rfl, rfl⟩, trivial⟩)
theorem open24 : Go.MG.Opens Try.prog 24 (Go.MG.eR Go.MG.eI) (Go.MG.wfR Go.MG.wfI) := Go.MG.Opens.slice Try.underlying24 (Go.MG.Opens.int Try.underlying3) (fun _ => (by kernel_rfl : Try.prog.cellsOf 3 = 1).symm) (fun _ => rfl) (fun _ => rfl) (by kernel_rfl)
def wfTlaws_Pair (x : Tlaws_Pair) : Prop := Go.MG.wfI x.A ∧ Go.MG.wfI x.B
theorem open258 : Go.MG.Opens Try.prog 258 eTlaws_Pair wfTlaws_Pair := by
  intro H enc W fuel cs x h
  obtain ⟨n, hp⟩ := Go.MG.struct_parts Try.underlying258 (by kernel_rfl : Try.prog.cellsOf 258 = 2) (by kernel_rfl) h
  obtain ⟨c0, k0, y0, rfl, h0, hp⟩ := hp
  obtain ⟨c1, k1, y1, rfl, h1, hp⟩ := hp
  obtain rfl := hp
  obtain ⟨a0, r0, w0⟩ := (Go.MG.Opens.int Try.underlying3) _ _ _ _ _ _ h0
  obtain ⟨a1, r1, w1⟩ := (Go.MG.Opens.int Try.underlying3) _ _ _ _ _ _ h1
  exact ⟨⟨a0, a1⟩, (r0.append (r1.append (rfl : Go.MG.RCs _ [] []))), w0, w1⟩
theorem open81 : Go.MG.Opens Try.prog 81 (Go.MG.eR eTlaws_Pair) (Go.MG.wfR wfTlaws_Pair) := Go.MG.Opens.slice Try.underlying81 open258 (fun _ => (by kernel_rfl : Try.prog.cellsOf 258 = 2).symm) (fun _ => rfl) (fun _ => rfl) (by kernel_rfl)
def wfTlaws_Config (x : Tlaws_Config) : Prop := (Go.MG.wfR Go.MG.wfI) x.UserRealm ∧ (Go.MG.wfR Go.MG.wfI) x.ServiceRealm ∧ (Go.MG.wfR wfTlaws_Pair) x.Links ∧ (Go.MG.wfR wfTlaws_Pair) x.Proxy ∧ Go.MG.wfI x.Skew
theorem open83 : Go.MG.Opens Try.prog 83 eTlaws_Config wfTlaws_Config := by
  intro H enc W fuel cs x h
  obtain ⟨n, hp⟩ := Go.MG.struct_parts Try.underlying83 (by kernel_rfl : Try.prog.cellsOf 83 = 5) (by kernel_rfl) h
  obtain ⟨c0, k0, y0, rfl, h0, hp⟩ := hp
  obtain ⟨c1, k1, y1, rfl, h1, hp⟩ := hp
  obtain ⟨c2, k2, y2, rfl, h2, hp⟩ := hp
  obtain ⟨c3, k3, y3, rfl, h3, hp⟩ := hp
  obtain ⟨c4, k4, y4, rfl, h4, hp⟩ := hp
  obtain rfl := hp
  obtain ⟨a0, r0, w0⟩ := open24 _ _ _ _ _ _ h0
  obtain ⟨a1, r1, w1⟩ := open24 _ _ _ _ _ _ h1
  obtain ⟨a2, r2, w2⟩ := open81 _ _ _ _ _ _ h2
  obtain ⟨a3, r3, w3⟩ := open81 _ _ _ _ _ _ h3
  obtain ⟨a4, r4, w4⟩ := (Go.MG.Opens.int Try.underlying3) _ _ _ _ _ _ h4
  exact ⟨⟨a0, a1, a2, a3, a4⟩, (r0.append (r1.append (r2.append (r3.append (r4.append (rfl : Go.MG.RCs _ [] [])))))), w0, w1, w2, w3, w4⟩
def wfTlaws_Rest (x : Tlaws_Rest) : Prop := Go.MG.wfI x.Servers ∧ Go.MG.wfI x.Ops ∧ Go.MG.wfI x.End
theorem open84 : Go.MG.Opens Try.prog 84 eTlaws_Rest wfTlaws_Rest := by
  intro H enc W fuel cs x h
  obtain ⟨n, hp⟩ := Go.MG.struct_parts Try.underlying84 (by kernel_rfl : Try.prog.cellsOf 84 = 3) (by kernel_rfl) h
  obtain ⟨c0, k0, y0, rfl, h0, hp⟩ := hp
  obtain ⟨c1, k1, y1, rfl, h1, hp⟩ := hp
  obtain ⟨c2, k2, y2, rfl, h2, hp⟩ := hp
  obtain rfl := hp
  obtain ⟨a0, r0, w0⟩ := (Go.MG.Opens.int Try.underlying3) _ _ _ _ _ _ h0
  obtain ⟨a1, r1, w1⟩ := (Go.MG.Opens.int Try.underlying3) _ _ _ _ _ _ h1
  obtain ⟨a2, r2, w2⟩ := (Go.MG.Opens.int Try.underlying3) _ _ _ _ _ _ h2
  exact ⟨⟨a0, a1, a2⟩, (r0.append (r1.append (r2.append (rfl : Go.MG.RCs _ [] [])))), w0, w1, w2⟩
end Go.Proofs.Ytcolcmjcjpikcaa.M
