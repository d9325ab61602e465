import Derived.Test.YtgjbgakcfcomdaaGreatFOncex2
import Derived.Test.YtgjbgakcfcomdaaGreatProg
namespace Go.Proofs.YtgjbgakcfcomdaaGreat.M
open Go Go.MG
set_option linter.unusedVariables false
set_option linter.unusedSimpArgs false
/-! ### Flaws_eqCredS -/
def Flaws_eqCredS.l2 : Nat → (List Timpl_Cred) → (List Timpl_Cred) → Int → Option Bool
 | 0, _, _, _ => none
 | k2 + 1, v44, v45, v46 => cond (decide (v46 < (v44.length : Int))) ((at? v44 v46).bind fun b50 => (at? v45 v46).bind fun b51 => (Flaws_eqCred k2 b50 b51).bind fun r52 => cond (!r52) (some false) ((Flaws_eqCredS.l2 k2) v44 v45 (IntKind.i64.wrap (v46 + (1 : Int))))) (some true)
def Flaws_eqCredS (k : Nat) (a0 : List Timpl_Cred) (a1 : List Timpl_Cred) : Option Bool := cond ((a0.length : Int) != (a1.length : Int)) (some false) (Flaws_eqCredS.l2 k a0 a1 (0 : Int))
theorem ent123 : MG.Enters Tryz.prog 123 := ⟨Tryz.f123, Tryz.func123, rfl, by decide⟩
set_option maxHeartbeats 8000000 in
set_option maxRecDepth 100000 in
theorem Flaws_eqCredS_gives (k : Nat) (g0 : Bool) (g1 : Bool) (a0 : List Timpl_Cred) (a1 : List Timpl_Cred) (r : Bool) (H : Flaws_eqCredS k a0 a1 = some r) : Gives Tryz.prog 123 [V.one (Cell.sl g0 (List.map eTimpl_Cred a0)), V.one (Cell.sl g1 (List.map eTimpl_Cred a1))] [] [V.one (cL r)] [] := by
 refine Gives.intro Tryz.func123 rfl rfl rfl rfl ?_
 intro F hF hm
 unfold Flaws_eqCredS at H
 obtain ⟨K, hK⟩ : ∃ K, k ≤ K := ⟨k, Nat.le_refl k⟩
 refine WpC.seq (WpC.regionL ?_)
 refine L.assign hF rfl rfl rfl (L.nil ?_)
 refine WpC.seq (WpC.seq (WpC.regionL ?_))
 refine L.move hF rfl rfl rfl ?_
 refine L.lenR (xs := a0) (e := eTimpl_Cred) Tryz.underlying75 hF rfl rfl rfl rfl ?_
 refine L.move hF rfl rfl rfl ?_
 refine L.lenR (xs := a1) (e := eTimpl_Cred) Tryz.underlying75 hF rfl rfl rfl rfl ?_
 refine L.bin hF rfl rfl rfl rfl rfl rfl (L.nil ?_)
 refine WpC.cond rfl (fun hc => ?_) (fun hc => ?_)
 ·replace H := condT hc H
  refine WpC.seq (WpC.regionL ?_)
  refine L.assign hF rfl rfl rfl (L.nil ?_)
  refine WpC.ret ?_
  cases H
  exact Leaves.ret rfl rfl rfl ⟨rfl, rfl⟩
 ·replace H := condF hc H
  refine WpC.skip (WpC.seq (WpC.seq (WpC.regionL ?_)))
  refine L.assign hF rfl rfl rfl (L.nil ?_)
  refine WpC.block ?_
  refine WpC.loopL (P := Tryz.prog) (fun n σ => ∃ v44 : List Timpl_Cred, ∃ v45 : List Timpl_Cred, ∃ v46 : Int, n ≤ K ∧ Flaws_eqCredS.l2 n v44 v45 v46 = some r ∧ σ = mkSt [(0, one (Cell.sl g0 (List.map eTimpl_Cred v44))), (1, one (Cell.sl g1 (List.map eTimpl_Cred v45))), (5, one (cI v46))] [] [] 0) k ⟨_, ⟨a0, a1, (0 : Int), by omega, H, rfl⟩, Le.mk [] hm rfl (Sa2 (Sa1 trivial)) trivial trivial⟩ ?_
  clear H
  rintro k2 _ ⟨v44, v45, v46, hk2, H, rfl⟩
  cases k2 with
  | zero => cases H
  | succ k2 =>
   rw [Flaws_eqCredS.l2] at H
   refine WpC.seq (WpC.seq (WpC.regionL ?_))
   refine L.move hF rfl rfl rfl ?_
   refine L.move hF rfl rfl rfl ?_
   refine L.lenR (xs := v44) (e := eTimpl_Cred) Tryz.underlying75 hF rfl rfl rfl rfl ?_
   refine L.bin hF rfl rfl rfl rfl rfl rfl (L.nil ?_)
   refine WpC.cond rfl (fun hc => ?_) (fun hc => ?_)
   ·replace H := condT hc H
    refine WpC.skip (WpC.seq (WpC.block (WpC.seq ?_)))
    obtain ⟨b50, hb50, H⟩ := bindS H
    obtain ⟨b51, hb51, H⟩ := bindS H
    obtain ⟨r52, hr52, H⟩ := bindS H
    refine A.begin mixed rfl rfl ?_
    intro W hI hO
    have n255 : W 2 #[true, true, true, true, true, true, true, true, false, false] (mkSt [(0, one (Cell.sl g0 (List.map eTimpl_Cred v44))), (1, one (Cell.sl g1 (List.map eTimpl_Cred v45))), (5, one (cI v46)), (20, agg (bTimpl_Cred b50)), (24, agg (bTimpl_Cred b51))] [] [] 0) := by
     refine hI _ _ _ ?_
     refine A.all [8] (by kernel_rfl) rfl ⟨⟨_, rfl, ?_⟩, trivial⟩
     refine L.call [false, false] [] [] 0 hF rfl rfl rfl ent197 rfl rfl rfl rfl rfl (Flaws_eqCred_gives k2  b50 b51 r52 hr52) rfl (L.nil ?_)
     refine Atk 9 rfl (Ca.un rfl rfl) (fun Q0 k0 => L.not hF rfl rfl rfl (L.nil k0)) ?_
     refine A.le (τ := mkSt [(0, one (Cell.sl g0 (List.map eTimpl_Cred v44))), (1, one (Cell.sl g1 (List.map eTimpl_Cred v45))), (5, one (cI v46)), (26, one (cL (!r52)))] [] [] 0) (Le.mk [] hm rfl (Sa4 trivial) trivial trivial) ?_
     refine A.done (by kernel_rfl) ?_
     refine WpC.cond rfl (fun hc => ?_) (fun hc => ?_)
     ·replace H := condT hc H
      refine WpC.seq (WpC.regionL ?_)
      refine L.assign hF rfl rfl rfl (L.nil ?_)
      refine WpC.ret ?_
      cases H
      exact Leaves.ret rfl rfl rfl ⟨rfl, rfl⟩
     ·replace H := condF hc H
      refine WpC.skip (WpC.regionL ?_)
      refine L.move hF rfl rfl rfl ?_
      refine L.bin hF rfl rfl rfl rfl rfl rfl ?_
      refine L.assign hF rfl rfl rfl (L.nil ?_)
      exact ⟨k2, _, by omega, ⟨v44, v45, (IntKind.i64.wrap (v46 + (1 : Int))), by omega, H, rfl⟩, Le.mk [] hm rfl (Sa2 (Sa1 trivial)) trivial trivial⟩
    refine hI _ _ _ ?_
    refine Atk 0 rfl (Ca.move) (fun Q0 k0 => L.move hF rfl rfl rfl (L.nil k0)) ?_
    refine Atk 1 rfl (Ca.move) (fun Q0 k0 => L.move hF rfl rfl rfl (L.nil k0)) ?_
    refine Atk 2 rfl (Ca.indexAddr) (fun Q0 k0 => L.idxR (xs := v44) (e := eTimpl_Cred) Tryz.underlying75 info142 hF rfl rfl rfl rfl rfl hb50 rfl rfl (L.nil k0)) ?_
    refine Atk 4 rfl (Ca.move) (fun Q0 k0 => L.move hF rfl rfl rfl (L.nil k0)) ?_
    refine Atk 5 rfl (Ca.move) (fun Q0 k0 => L.move hF rfl rfl rfl (L.nil k0)) ?_
    refine Atk 6 rfl (Ca.indexAddr) (fun Q0 k0 => L.idxR (xs := v45) (e := eTimpl_Cred) Tryz.underlying75 info142 hF rfl rfl rfl rfl rfl hb51 rfl rfl (L.nil k0)) ?_
    refine A.all [3, 7] (by kernel_rfl) rfl ⟨⟨_, rfl, ?_⟩, ⟨_, rfl, ?_⟩, trivial⟩
    ·refine L.loadPe shape142 hF rfl rfl rfl rfl rfl (L.nil ?_)
     refine A.all [7] (by kernel_rfl) rfl ⟨⟨_, rfl, ?_⟩, trivial⟩
     refine L.loadPe shape142 hF rfl rfl rfl rfl rfl (L.nil ?_)
     exact A.on (hO _ _ _ n255) (Le.mk [] hm rfl (Sa4 (Sa1 trivial)) trivial trivial)
    ·refine L.loadPe shape142 hF rfl rfl rfl rfl rfl (L.nil ?_)
     refine A.all [3] (by kernel_rfl) rfl ⟨⟨_, rfl, ?_⟩, trivial⟩
     refine L.loadPe shape142 hF rfl rfl rfl rfl rfl (L.nil ?_)
     exact A.on (hO _ _ _ n255) (Le.mk [] hm rfl (Sa4 (Sa1 trivial)) trivial trivial)
   ·replace H := condF hc H
    refine WpC.exit (WpC.seq (WpC.regionL ?_))
    refine L.assign hF rfl rfl rfl (L.nil ?_)
    refine WpC.ret ?_
    cases H
    exact Leaves.ret rfl rfl rfl ⟨rfl, rfl⟩
/-! ### Flaws_eqAuth -/
def Flaws_eqAuth (k : Nat) (a0 : Timpl_Auth) (a1 : Timpl_Auth) : Option Bool := cond (a0.Client != a1.Client) (some false) (cond (a0.Time != a1.Time) (some false) (cond (a0.Seq != a1.Seq) (some false) (some true)))
theorem ent69 : MG.Enters Tryz.prog 69 := ⟨Tryz.f69, Tryz.func69, rfl, by decide⟩
set_option maxHeartbeats 8000000 in
set_option maxRecDepth 100000 in
theorem Flaws_eqAuth_gives (k : Nat) (a0 : Timpl_Auth) (a1 : Timpl_Auth) (r : Bool) (H : Flaws_eqAuth k a0 a1 = some r) : Gives Tryz.prog 69 [V.agg [cI a0.Client, cI a0.Time, cI a0.Seq], V.agg [cI a1.Client, cI a1.Time, cI a1.Seq]] [] [V.one (cL r)] [] := by
 refine Gives.intro Tryz.func69 rfl rfl rfl rfl ?_
 intro F hF hm
 unfold Flaws_eqAuth at H
 obtain ⟨K, hK⟩ : ∃ K, k ≤ K := ⟨k, Nat.le_refl k⟩
 refine WpC.seq (WpC.regionL ?_)
 refine L.box 6 hF rfl rfl rfl rfl ?_
 refine L.box 7 hF rfl rfl rfl rfl ?_
 refine L.assign hF rfl rfl rfl (L.nil ?_)
 refine WpC.seq (WpC.seq (WpC.regionL ?_))
 refine L.fieldAddr Tryz.underlying35 rfl info3 rfl hF rfl rfl rfl rfl rfl ?_
 refine L.loadPtr shape3 hF rfl rfl rfl rfl rfl rfl ?_
 refine L.fieldAddr Tryz.underlying35 rfl info3 rfl hF rfl rfl rfl rfl rfl ?_
 refine L.loadPtr shape3 hF rfl rfl rfl rfl rfl rfl ?_
 refine L.bin hF rfl rfl rfl rfl rfl rfl (L.nil ?_)
 refine WpC.cond rfl (fun hc => ?_) (fun hc => ?_)
 ·replace H := condT hc H
  refine WpC.seq (WpC.regionL ?_)
  refine L.assign hF rfl rfl rfl (L.nil ?_)
  refine WpC.ret ?_
  cases H
  exact Leaves.ret rfl rfl rfl ⟨rfl, rfl⟩
 ·replace H := condF hc H
  refine WpC.skip (WpC.seq (WpC.seq (WpC.regionL ?_)))
  refine L.fieldAddr Tryz.underlying35 rfl info3 rfl hF rfl rfl rfl rfl rfl ?_
  refine L.loadPtr shape3 hF rfl rfl rfl rfl rfl rfl ?_
  refine L.fieldAddr Tryz.underlying35 rfl info3 rfl hF rfl rfl rfl rfl rfl ?_
  refine L.loadPtr shape3 hF rfl rfl rfl rfl rfl rfl ?_
  refine L.bin hF rfl rfl rfl rfl rfl rfl (L.nil ?_)
  refine WpC.cond rfl (fun hc => ?_) (fun hc => ?_)
  ·replace H := condT hc H
   refine WpC.seq (WpC.regionL ?_)
   refine L.assign hF rfl rfl rfl (L.nil ?_)
   refine WpC.ret ?_
   cases H
   exact Leaves.ret rfl rfl rfl ⟨rfl, rfl⟩
  ·replace H := condF hc H
   refine WpC.skip (WpC.seq (WpC.seq (WpC.regionL ?_)))
   refine L.fieldAddr Tryz.underlying35 rfl info3 rfl hF rfl rfl rfl rfl rfl ?_
   refine L.loadPtr shape3 hF rfl rfl rfl rfl rfl rfl ?_
   refine L.fieldAddr Tryz.underlying35 rfl info3 rfl hF rfl rfl rfl rfl rfl ?_
   refine L.loadPtr shape3 hF rfl rfl rfl rfl rfl rfl ?_
   refine L.bin hF rfl rfl rfl rfl rfl rfl (L.nil ?_)
   refine WpC.cond rfl (fun hc => ?_) (fun hc => ?_)
   ·replace H := condT hc H
    refine WpC.seq (WpC.regionL ?_)
    refine L.assign hF rfl rfl rfl (L.nil ?_)
    refine WpC.ret ?_
    cases H
    exact Leaves.ret rfl rfl rfl ⟨rfl, rfl⟩
   ·replace H := condF hc H
    refine WpC.skip (WpC.seq (WpC.regionL ?_))
    refine L.assign hF rfl rfl rfl (L.nil ?_)
    refine WpC.ret ?_
    cases H
    exact Leaves.ret rfl rfl rfl ⟨rfl, rfl⟩
/-! ### Flaws_eqAuthS -/
def Flaws_eqAuthS.l2 : Nat → (List Timpl_Auth) → (List Timpl_Auth) → Int → Option Bool
 | 0, _, _, _ => none
 | k2 + 1, v44, v45, v46 => cond (decide (v46 < (v44.length : Int))) ((at? v44 v46).bind fun b50 => (at? v45 v46).bind fun b51 => (Flaws_eqAuth k2 b50 b51).bind fun r52 => cond (!r52) (some false) ((Flaws_eqAuthS.l2 k2) v44 v45 (IntKind.i64.wrap (v46 + (1 : Int))))) (some true)
def Flaws_eqAuthS (k : Nat) (a0 : List Timpl_Auth) (a1 : List Timpl_Auth) : Option Bool := cond ((a0.length : Int) != (a1.length : Int)) (some false) (Flaws_eqAuthS.l2 k a0 a1 (0 : Int))
theorem ent68 : MG.Enters Tryz.prog 68 := ⟨Tryz.f68, Tryz.func68, rfl, by decide⟩
set_option maxHeartbeats 8000000 in
set_option maxRecDepth 100000 in
theorem Flaws_eqAuthS_gives (k : Nat) (g0 : Bool) (g1 : Bool) (a0 : List Timpl_Auth) (a1 : List Timpl_Auth) (r : Bool) (H : Flaws_eqAuthS k a0 a1 = some r) : Gives Tryz.prog 68 [V.one (Cell.sl g0 (List.map eTimpl_Auth a0)), V.one (Cell.sl g1 (List.map eTimpl_Auth a1))] [] [V.one (cL r)] [] := by
 refine Gives.intro Tryz.func68 rfl rfl rfl rfl ?_
 intro F hF hm
 unfold Flaws_eqAuthS at H
 obtain ⟨K, hK⟩ : ∃ K, k ≤ K := ⟨k, Nat.le_refl k⟩
 refine WpC.seq (WpC.regionL ?_)
 refine L.assign hF rfl rfl rfl (L.nil ?_)
 refine WpC.seq (WpC.seq (WpC.regionL ?_))
 refine L.move hF rfl rfl rfl ?_
 refine L.lenR (xs := a0) (e := eTimpl_Auth) Tryz.underlying31 hF rfl rfl rfl rfl ?_
 refine L.move hF rfl rfl rfl ?_
 refine L.lenR (xs := a1) (e := eTimpl_Auth) Tryz.underlying31 hF rfl rfl rfl rfl ?_
 refine L.bin hF rfl rfl rfl rfl rfl rfl (L.nil ?_)
 refine WpC.cond rfl (fun hc => ?_) (fun hc => ?_)
 ·replace H := condT hc H
  refine WpC.seq (WpC.regionL ?_)
  refine L.assign hF rfl rfl rfl (L.nil ?_)
  refine WpC.ret ?_
  cases H
  exact Leaves.ret rfl rfl rfl ⟨rfl, rfl⟩
 ·replace H := condF hc H
  refine WpC.skip (WpC.seq (WpC.seq (WpC.regionL ?_)))
  refine L.assign hF rfl rfl rfl (L.nil ?_)
  refine WpC.block ?_
  refine WpC.loopL (P := Tryz.prog) (fun n σ => ∃ v44 : List Timpl_Auth, ∃ v45 : List Timpl_Auth, ∃ v46 : Int, n ≤ K ∧ Flaws_eqAuthS.l2 n v44 v45 v46 = some r ∧ σ = mkSt [(0, one (Cell.sl g0 (List.map eTimpl_Auth v44))), (1, one (Cell.sl g1 (List.map eTimpl_Auth v45))), (5, one (cI v46))] [] [] 0) k ⟨_, ⟨a0, a1, (0 : Int), by omega, H, rfl⟩, Le.mk [] hm rfl (Sa2 (Sa1 trivial)) trivial trivial⟩ ?_
  clear H
  rintro k2 _ ⟨v44, v45, v46, hk2, H, rfl⟩
  cases k2 with
  | zero => cases H
  | succ k2 =>
   rw [Flaws_eqAuthS.l2] at H
   refine WpC.seq (WpC.seq (WpC.regionL ?_))
   refine L.move hF rfl rfl rfl ?_
   refine L.move hF rfl rfl rfl ?_
   refine L.lenR (xs := v44) (e := eTimpl_Auth) Tryz.underlying31 hF rfl rfl rfl rfl ?_
   refine L.bin hF rfl rfl rfl rfl rfl rfl (L.nil ?_)
   refine WpC.cond rfl (fun hc => ?_) (fun hc => ?_)
   ·replace H := condT hc H
    refine WpC.skip (WpC.seq (WpC.block (WpC.seq ?_)))
    obtain ⟨b50, hb50, H⟩ := bindS H
    obtain ⟨b51, hb51, H⟩ := bindS H
    obtain ⟨r52, hr52, H⟩ := bindS H
    refine A.begin mixed rfl rfl ?_
    intro W hI hO
    have n255 : W 2 #[true, true, true, true, true, true, true, true, false, false] (mkSt [(0, one (Cell.sl g0 (List.map eTimpl_Auth v44))), (1, one (Cell.sl g1 (List.map eTimpl_Auth v45))), (5, one (cI v46)), (20, agg (bTimpl_Auth b50)), (24, agg (bTimpl_Auth b51))] [] [] 0) := by
     refine hI _ _ _ ?_
     refine A.all [8] (by kernel_rfl) rfl ⟨⟨_, rfl, ?_⟩, trivial⟩
     refine L.call [false, false] [] [] 0 hF rfl rfl rfl ent69 rfl rfl rfl rfl rfl (Flaws_eqAuth_gives k2  b50 b51 r52 hr52) rfl (L.nil ?_)
     refine Atk 9 rfl (Ca.un rfl rfl) (fun Q0 k0 => L.not hF rfl rfl rfl (L.nil k0)) ?_
     refine A.le (τ := mkSt [(0, one (Cell.sl g0 (List.map eTimpl_Auth v44))), (1, one (Cell.sl g1 (List.map eTimpl_Auth v45))), (5, one (cI v46)), (26, one (cL (!r52)))] [] [] 0) (Le.mk [] hm rfl (Sa4 trivial) trivial trivial) ?_
     refine A.done (by kernel_rfl) ?_
     refine WpC.cond rfl (fun hc => ?_) (fun hc => ?_)
     ·replace H := condT hc H
      refine WpC.seq (WpC.regionL ?_)
      refine L.assign hF rfl rfl rfl (L.nil ?_)
      refine WpC.ret ?_
      cases H
      exact Leaves.ret rfl rfl rfl ⟨rfl, rfl⟩
     ·replace H := condF hc H
      refine WpC.skip (WpC.regionL ?_)
      refine L.move hF rfl rfl rfl ?_
      refine L.bin hF rfl rfl rfl rfl rfl rfl ?_
      refine L.assign hF rfl rfl rfl (L.nil ?_)
      exact ⟨k2, _, by omega, ⟨v44, v45, (IntKind.i64.wrap (v46 + (1 : Int))), by omega, H, rfl⟩, Le.mk [] hm rfl (Sa2 (Sa1 trivial)) trivial trivial⟩
    refine hI _ _ _ ?_
    refine Atk 0 rfl (Ca.move) (fun Q0 k0 => L.move hF rfl rfl rfl (L.nil k0)) ?_
    refine Atk 1 rfl (Ca.move) (fun Q0 k0 => L.move hF rfl rfl rfl (L.nil k0)) ?_
    refine Atk 2 rfl (Ca.indexAddr) (fun Q0 k0 => L.idxR (xs := v44) (e := eTimpl_Auth) Tryz.underlying31 info35 hF rfl rfl rfl rfl rfl hb50 rfl rfl (L.nil k0)) ?_
    refine Atk 4 rfl (Ca.move) (fun Q0 k0 => L.move hF rfl rfl rfl (L.nil k0)) ?_
    refine Atk 5 rfl (Ca.move) (fun Q0 k0 => L.move hF rfl rfl rfl (L.nil k0)) ?_
    refine Atk 6 rfl (Ca.indexAddr) (fun Q0 k0 => L.idxR (xs := v45) (e := eTimpl_Auth) Tryz.underlying31 info35 hF rfl rfl rfl rfl rfl hb51 rfl rfl (L.nil k0)) ?_
    refine A.all [3, 7] (by kernel_rfl) rfl ⟨⟨_, rfl, ?_⟩, ⟨_, rfl, ?_⟩, trivial⟩
    ·refine L.loadPe shape35 hF rfl rfl rfl rfl rfl (L.nil ?_)
     refine A.all [7] (by kernel_rfl) rfl ⟨⟨_, rfl, ?_⟩, trivial⟩
     refine L.loadPe shape35 hF rfl rfl rfl rfl rfl (L.nil ?_)
     exact A.on (hO _ _ _ n255) (Le.mk [] hm rfl (Sa4 (Sa1 trivial)) trivial trivial)
    ·refine L.loadPe shape35 hF rfl rfl rfl rfl rfl (L.nil ?_)
     refine A.all [3] (by kernel_rfl) rfl ⟨⟨_, rfl, ?_⟩, trivial⟩
     refine L.loadPe shape35 hF rfl rfl rfl rfl rfl (L.nil ?_)
     exact A.on (hO _ _ _ n255) (Le.mk [] hm rfl (Sa4 (Sa1 trivial)) trivial trivial)
   ·replace H := condF hc H
    refine WpC.exit (WpC.seq (WpC.regionL ?_))
    refine L.assign hF rfl rfl rfl (L.nil ?_)
    refine WpC.ret ?_
    cases H
    exact Leaves.ret rfl rfl rfl ⟨rfl, rfl⟩
/-! ### Flaws_eqCache -/
def Flaws_eqCache (k : Nat) (a0 : Timpl_Cache) (a1 : Timpl_Cache) : Option Bool := cond (a0.Quiet != a1.Quiet) (some false) ((Flaws_eqAuthS k a0.Seen a1.Seen).bind fun r2 => cond (!r2) (some false) (some true))
theorem ent15 : MG.Enters Tryz.prog 15 := ⟨Tryz.f15, Tryz.func15, rfl, by decide⟩
set_option maxHeartbeats 8000000 in
set_option maxRecDepth 100000 in
theorem Flaws_eqCache_gives (k : Nat) (g0 : Bool) (g1 : Bool) (a0 : Timpl_Cache) (a1 : Timpl_Cache) (r : Bool) (H : Flaws_eqCache k a0 a1 = some r) : Gives Tryz.prog 15 [V.agg [cI a0.Quiet, Cell.sl g0 (List.map eTimpl_Auth a0.Seen)], V.agg [cI a1.Quiet, Cell.sl g1 (List.map eTimpl_Auth a1.Seen)]] [] [V.one (cL r)] [] := by
 refine Gives.intro Tryz.func15 rfl rfl rfl rfl ?_
 intro F hF hm
 unfold Flaws_eqCache at H
 obtain ⟨K, hK⟩ : ∃ K, k ≤ K := ⟨k, Nat.le_refl k⟩
 refine WpC.seq (WpC.regionL ?_)
 refine L.box 4 hF rfl rfl rfl rfl ?_
 refine L.box 5 hF rfl rfl rfl rfl ?_
 refine L.assign hF rfl rfl rfl (L.nil ?_)
 refine WpC.seq (WpC.seq (WpC.regionL ?_))
 refine L.fieldAddr Tryz.underlying33 rfl info3 rfl hF rfl rfl rfl rfl rfl ?_
 refine L.loadPtr shape3 hF rfl rfl rfl rfl rfl rfl ?_
 refine L.fieldAddr Tryz.underlying33 rfl info3 rfl hF rfl rfl rfl rfl rfl ?_
 refine L.loadPtr shape3 hF rfl rfl rfl rfl rfl rfl ?_
 refine L.bin hF rfl rfl rfl rfl rfl rfl (L.nil ?_)
 refine WpC.cond rfl (fun hc => ?_) (fun hc => ?_)
 ·replace H := condT hc H
  refine WpC.seq (WpC.regionL ?_)
  refine L.assign hF rfl rfl rfl (L.nil ?_)
  refine WpC.ret ?_
  cases H
  exact Leaves.ret rfl rfl rfl ⟨rfl, rfl⟩
 ·replace H := condF hc H
  refine WpC.skip (WpC.seq (WpC.seq (WpC.regionL ?_)))
  refine L.fieldAddr Tryz.underlying33 rfl info31 rfl hF rfl rfl rfl rfl rfl ?_
  refine L.loadPtr shape31 hF rfl rfl rfl rfl rfl rfl ?_
  refine L.fieldAddr Tryz.underlying33 rfl info31 rfl hF rfl rfl rfl rfl rfl ?_
  refine L.loadPtr shape31 hF rfl rfl rfl rfl rfl rfl ?_
  obtain ⟨r2, hr2, H⟩ := bindS H
  refine L.call [false, false] [] [] 6 hF rfl rfl rfl ent68 rfl rfl rfl rfl rfl (Flaws_eqAuthS_gives k g0 g1 a0.Seen a1.Seen r2 hr2) rfl ?_
  refine L.not hF rfl rfl rfl (L.nil ?_)
  refine WpC.cond rfl (fun hc => ?_) (fun hc => ?_)
  ·replace H := condT hc H
   refine WpC.seq (WpC.regionL ?_)
   refine L.assign hF rfl rfl rfl (L.nil ?_)
   refine WpC.ret ?_
   cases H
   exact Leaves.ret rfl rfl rfl ⟨rfl, rfl⟩
  ·replace H := condF hc H
   refine WpC.skip (WpC.seq (WpC.regionL ?_))
   refine L.assign hF rfl rfl rfl (L.nil ?_)
   refine WpC.ret ?_
   cases H
   exact Leaves.ret rfl rfl rfl ⟨rfl, rfl⟩
/-! ### Flaws_eqCacheS -/
def Flaws_eqCacheS.l2 : Nat → (List Timpl_Cache) → (List Timpl_Cache) → Int → Option Bool
 | 0, _, _, _ => none
 | k2 + 1, v44, v45, v46 => cond (decide (v46 < (v44.length : Int))) ((at? v44 v46).bind fun b50 => (at? v45 v46).bind fun b51 => (Flaws_eqCache k2 b50 b51).bind fun r52 => cond (!r52) (some false) ((Flaws_eqCacheS.l2 k2) v44 v45 (IntKind.i64.wrap (v46 + (1 : Int))))) (some true)
def Flaws_eqCacheS (k : Nat) (a0 : List Timpl_Cache) (a1 : List Timpl_Cache) : Option Bool := cond ((a0.length : Int) != (a1.length : Int)) (some false) (Flaws_eqCacheS.l2 k a0 a1 (0 : Int))
theorem ent124 : MG.Enters Tryz.prog 124 := ⟨Tryz.f124, Tryz.func124, rfl, by decide⟩
set_option maxHeartbeats 8000000 in
set_option maxRecDepth 100000 in
theorem Flaws_eqCacheS_gives (k : Nat) (g0 : Bool) (g1 : Bool) (a0 : List Timpl_Cache) (a1 : List Timpl_Cache) (r : Bool) (H : Flaws_eqCacheS k a0 a1 = some r) : Gives Tryz.prog 124 [V.one (Cell.sl g0 (List.map eTimpl_Cache a0)), V.one (Cell.sl g1 (List.map eTimpl_Cache a1))] [] [V.one (cL r)] [] := by
 refine Gives.intro Tryz.func124 rfl rfl rfl rfl ?_
 intro F hF hm
 unfold Flaws_eqCacheS at H
 obtain ⟨K, hK⟩ : ∃ K, k ≤ K := ⟨k, Nat.le_refl k⟩
 refine WpC.seq (WpC.regionL ?_)
 refine L.assign hF rfl rfl rfl (L.nil ?_)
 refine WpC.seq (WpC.seq (WpC.regionL ?_))
 refine L.move hF rfl rfl rfl ?_
 refine L.lenR (xs := a0) (e := eTimpl_Cache) Tryz.underlying76 hF rfl rfl rfl rfl ?_
 refine L.move hF rfl rfl rfl ?_
 refine L.lenR (xs := a1) (e := eTimpl_Cache) Tryz.underlying76 hF rfl rfl rfl rfl ?_
 refine L.bin hF rfl rfl rfl rfl rfl rfl (L.nil ?_)
 refine WpC.cond rfl (fun hc => ?_) (fun hc => ?_)
 ·replace H := condT hc H
  refine WpC.seq (WpC.regionL ?_)
  refine L.assign hF rfl rfl rfl (L.nil ?_)
  refine WpC.ret ?_
  cases H
  exact Leaves.ret rfl rfl rfl ⟨rfl, rfl⟩
 ·replace H := condF hc H
  refine WpC.skip (WpC.seq (WpC.seq (WpC.regionL ?_)))
  refine L.assign hF rfl rfl rfl (L.nil ?_)
  refine WpC.block ?_
  refine WpC.loopL (P := Tryz.prog) (fun n σ => ∃ v44 : List Timpl_Cache, ∃ v45 : List Timpl_Cache, ∃ v46 : Int, n ≤ K ∧ Flaws_eqCacheS.l2 n v44 v45 v46 = some r ∧ σ = mkSt [(0, one (Cell.sl g0 (List.map eTimpl_Cache v44))), (1, one (Cell.sl g1 (List.map eTimpl_Cache v45))), (5, one (cI v46))] [] [] 0) k ⟨_, ⟨a0, a1, (0 : Int), by omega, H, rfl⟩, Le.mk [] hm rfl (Sa2 (Sa1 trivial)) trivial trivial⟩ ?_
  clear H
  rintro k2 _ ⟨v44, v45, v46, hk2, H, rfl⟩
  cases k2 with
  | zero => cases H
  | succ k2 =>
   rw [Flaws_eqCacheS.l2] at H
   refine WpC.seq (WpC.seq (WpC.regionL ?_))
   refine L.move hF rfl rfl rfl ?_
   refine L.move hF rfl rfl rfl ?_
   refine L.lenR (xs := v44) (e := eTimpl_Cache) Tryz.underlying76 hF rfl rfl rfl rfl ?_
   refine L.bin hF rfl rfl rfl rfl rfl rfl (L.nil ?_)
   refine WpC.cond rfl (fun hc => ?_) (fun hc => ?_)
   ·replace H := condT hc H
    refine WpC.skip (WpC.seq (WpC.block (WpC.seq ?_)))
    obtain ⟨b50, hb50, H⟩ := bindS H
    obtain ⟨b51, hb51, H⟩ := bindS H
    obtain ⟨r52, hr52, H⟩ := bindS H
    refine A.begin mixed rfl rfl ?_
    intro W hI hO
    have n255 : W 2 #[true, true, true, true, true, true, true, true, false, false] (mkSt [(0, one (Cell.sl g0 (List.map eTimpl_Cache v44))), (1, one (Cell.sl g1 (List.map eTimpl_Cache v45))), (5, one (cI v46)), (20, agg [cI b50.Quiet, Cell.sl g0 (List.map eTimpl_Auth b50.Seen)]), (24, agg [cI b51.Quiet, Cell.sl g1 (List.map eTimpl_Auth b51.Seen)])] [] [] 0) := by
     refine hI _ _ _ ?_
     refine A.all [8] (by kernel_rfl) rfl ⟨⟨_, rfl, ?_⟩, trivial⟩
     refine L.call [false, false] [] [] 0 hF rfl rfl rfl ent15 rfl rfl rfl rfl rfl (Flaws_eqCache_gives k2 g0 g1 b50 b51 r52 hr52) rfl (L.nil ?_)
     refine Atk 9 rfl (Ca.un rfl rfl) (fun Q0 k0 => L.not hF rfl rfl rfl (L.nil k0)) ?_
     refine A.le (τ := mkSt [(0, one (Cell.sl g0 (List.map eTimpl_Cache v44))), (1, one (Cell.sl g1 (List.map eTimpl_Cache v45))), (5, one (cI v46)), (26, one (cL (!r52)))] [] [] 0) (Le.mk [] hm rfl (Sa4 trivial) trivial trivial) ?_
     refine A.done (by kernel_rfl) ?_
     refine WpC.cond rfl (fun hc => ?_) (fun hc => ?_)
     ·replace H := condT hc H
      refine WpC.seq (WpC.regionL ?_)
      refine L.assign hF rfl rfl rfl (L.nil ?_)
      refine WpC.ret ?_
      cases H
      exact Leaves.ret rfl rfl rfl ⟨rfl, rfl⟩
     ·replace H := condF hc H
      refine WpC.skip (WpC.regionL ?_)
      refine L.move hF rfl rfl rfl ?_
      refine L.bin hF rfl rfl rfl rfl rfl rfl ?_
      refine L.assign hF rfl rfl rfl (L.nil ?_)
      exact ⟨k2, _, by omega, ⟨v44, v45, (IntKind.i64.wrap (v46 + (1 : Int))), by omega, H, rfl⟩, Le.mk [] hm rfl (Sa2 (Sa1 trivial)) trivial trivial⟩
    refine hI _ _ _ ?_
    refine Atk 0 rfl (Ca.move) (fun Q0 k0 => L.move hF rfl rfl rfl (L.nil k0)) ?_
    refine Atk 1 rfl (Ca.move) (fun Q0 k0 => L.move hF rfl rfl rfl (L.nil k0)) ?_
    refine Atk 2 rfl (Ca.indexAddr) (fun Q0 k0 => L.idxR (xs := v44) (e := eTimpl_Cache) Tryz.underlying76 info33 hF rfl rfl rfl rfl rfl hb50 rfl rfl (L.nil k0)) ?_
    refine Atk 4 rfl (Ca.move) (fun Q0 k0 => L.move hF rfl rfl rfl (L.nil k0)) ?_
    refine Atk 5 rfl (Ca.move) (fun Q0 k0 => L.move hF rfl rfl rfl (L.nil k0)) ?_
    refine Atk 6 rfl (Ca.indexAddr) (fun Q0 k0 => L.idxR (xs := v45) (e := eTimpl_Cache) Tryz.underlying76 info33 hF rfl rfl rfl rfl rfl hb51 rfl rfl (L.nil k0)) ?_
    refine A.all [3, 7] (by kernel_rfl) rfl ⟨⟨_, rfl, ?_⟩, ⟨_, rfl, ?_⟩, trivial⟩
    ·refine L.loadPe shape33 hF rfl rfl rfl rfl rfl (L.nil ?_)
     refine A.all [7] (by kernel_rfl) rfl ⟨⟨_, rfl, ?_⟩, trivial⟩
     refine L.loadPe shape33 hF rfl rfl rfl rfl rfl (L.nil ?_)
     exact A.on (hO _ _ _ n255) (Le.mk [] hm rfl (Sa4 (Sa1 trivial)) trivial trivial)
    ·refine L.loadPe shape33 hF rfl rfl rfl rfl rfl (L.nil ?_)
     refine A.all [3] (by kernel_rfl) rfl ⟨⟨_, rfl, ?_⟩, trivial⟩
     refine L.loadPe shape33 hF rfl rfl rfl rfl rfl (L.nil ?_)
     exact A.on (hO _ _ _ n255) (Le.mk [] hm rfl (Sa4 (Sa1 trivial)) trivial trivial)
   ·replace H := condF hc H
    refine WpC.exit (WpC.seq (WpC.regionL ?_))
    refine L.assign hF rfl rfl rfl (L.nil ?_)
    refine WpC.ret ?_
    cases H
    exact Leaves.ret rfl rfl rfl ⟨rfl, rfl⟩
/-! ### Flaws_eqEvent -/
def Flaws_eqEvent (k : Nat) (a0 : Timpl_Event) (a1 : Timpl_Event) : Option Bool := cond (a0.Kind != a1.Kind) (some false) (cond (a0.Realm != a1.Realm) (some false) (cond (a0.By != a1.By) (some false) (cond (a0.Client != a1.Client) (some false) (cond (a0.Service != a1.Service) (some false) (cond (a0.Key != a1.Key) (some false) (cond (a0.Parent != a1.Parent) (some false) (cond (a0.Evid != a1.Evid) (some false) ((Flaws_eqRest k (⟨a0.Rest.Servers, a0.Rest.Ops, a0.Rest.End⟩ : Timpl_Rest) (⟨a1.Rest.Servers, a1.Rest.Ops, a1.Rest.End⟩ : Timpl_Rest)).bind fun r2 => cond (!r2) (some false) (some true)))))))))
theorem ent140 : MG.Enters Tryz.prog 140 := ⟨Tryz.f140, Tryz.func140, rfl, by decide⟩
set_option maxHeartbeats 8000000 in
set_option maxRecDepth 100000 in
theorem Flaws_eqEvent_gives (k : Nat) (a0 : Timpl_Event) (a1 : Timpl_Event) (r : Bool) (H : Flaws_eqEvent k a0 a1 = some r) : Gives Tryz.prog 140 [V.agg [cI a0.Kind, cI a0.Realm, cI a0.By, cI a0.Client, cI a0.Service, cI a0.Key, cI a0.Parent, cI a0.Evid, cI a0.Rest.Servers, cI a0.Rest.Ops, cI a0.Rest.End], V.agg [cI a1.Kind, cI a1.Realm, cI a1.By, cI a1.Client, cI a1.Service, cI a1.Key, cI a1.Parent, cI a1.Evid, cI a1.Rest.Servers, cI a1.Rest.Ops, cI a1.Rest.End]] [] [V.one (cL r)] [] := by
 refine Gives.intro Tryz.func140 rfl rfl rfl rfl ?_
 intro F hF hm
 unfold Flaws_eqEvent at H
 obtain ⟨K, hK⟩ : ∃ K, k ≤ K := ⟨k, Nat.le_refl k⟩
 refine WpC.seq (WpC.regionL ?_)
 refine L.box 22 hF rfl rfl rfl rfl ?_
 refine L.box 23 hF rfl rfl rfl rfl ?_
 refine L.assign hF rfl rfl rfl (L.nil ?_)
 refine WpC.seq (WpC.seq (WpC.regionL ?_))
 refine L.fieldAddr Tryz.underlying85 rfl info3 rfl hF rfl rfl rfl rfl rfl ?_
 refine L.loadPtr shape3 hF rfl rfl rfl rfl rfl rfl ?_
 refine L.fieldAddr Tryz.underlying85 rfl info3 rfl hF rfl rfl rfl rfl rfl ?_
 refine L.loadPtr shape3 hF rfl rfl rfl rfl rfl rfl ?_
 refine L.bin hF rfl rfl rfl rfl rfl rfl (L.nil ?_)
 refine WpC.cond rfl (fun hc => ?_) (fun hc => ?_)
 ·replace H := condT hc H
  refine WpC.seq (WpC.regionL ?_)
  refine L.assign hF rfl rfl rfl (L.nil ?_)
  refine WpC.ret ?_
  cases H
  exact Leaves.ret rfl rfl rfl ⟨rfl, rfl⟩
 ·replace H := condF hc H
  refine WpC.skip (WpC.seq (WpC.seq (WpC.regionL ?_)))
  refine L.fieldAddr Tryz.underlying85 rfl info3 rfl hF rfl rfl rfl rfl rfl ?_
  refine L.loadPtr shape3 hF rfl rfl rfl rfl rfl rfl ?_
  refine L.fieldAddr Tryz.underlying85 rfl info3 rfl hF rfl rfl rfl rfl rfl ?_
  refine L.loadPtr shape3 hF rfl rfl rfl rfl rfl rfl ?_
  refine L.bin hF rfl rfl rfl rfl rfl rfl (L.nil ?_)
  refine WpC.cond rfl (fun hc => ?_) (fun hc => ?_)
  ·replace H := condT hc H
   refine WpC.seq (WpC.regionL ?_)
   refine L.assign hF rfl rfl rfl (L.nil ?_)
   refine WpC.ret ?_
   cases H
   exact Leaves.ret rfl rfl rfl ⟨rfl, rfl⟩
  ·replace H := condF hc H
   refine WpC.skip (WpC.seq (WpC.seq (WpC.regionL ?_)))
   refine L.fieldAddr Tryz.underlying85 rfl info3 rfl hF rfl rfl rfl rfl rfl ?_
   refine L.loadPtr shape3 hF rfl rfl rfl rfl rfl rfl ?_
   refine L.fieldAddr Tryz.underlying85 rfl info3 rfl hF rfl rfl rfl rfl rfl ?_
   refine L.loadPtr shape3 hF rfl rfl rfl rfl rfl rfl ?_
   refine L.bin hF rfl rfl rfl rfl rfl rfl (L.nil ?_)
   refine WpC.cond rfl (fun hc => ?_) (fun hc => ?_)
   ·replace H := condT hc H
    refine WpC.seq (WpC.regionL ?_)
    refine L.assign hF rfl rfl rfl (L.nil ?_)
    refine WpC.ret ?_
    cases H
    exact Leaves.ret rfl rfl rfl ⟨rfl, rfl⟩
   ·replace H := condF hc H
    refine WpC.skip (WpC.seq (WpC.seq (WpC.regionL ?_)))
    refine L.fieldAddr Tryz.underlying85 rfl info3 rfl hF rfl rfl rfl rfl rfl ?_
    refine L.loadPtr shape3 hF rfl rfl rfl rfl rfl rfl ?_
    refine L.fieldAddr Tryz.underlying85 rfl info3 rfl hF rfl rfl rfl rfl rfl ?_
    refine L.loadPtr shape3 hF rfl rfl rfl rfl rfl rfl ?_
    refine L.bin hF rfl rfl rfl rfl rfl rfl (L.nil ?_)
    refine WpC.cond rfl (fun hc => ?_) (fun hc => ?_)
    ·replace H := condT hc H
     refine WpC.seq (WpC.regionL ?_)
     refine L.assign hF rfl rfl rfl (L.nil ?_)
     refine WpC.ret ?_
     cases H
     exact Leaves.ret rfl rfl rfl ⟨rfl, rfl⟩
    ·replace H := condF hc H
     refine WpC.skip (WpC.seq (WpC.seq (WpC.regionL ?_)))
     refine L.fieldAddr Tryz.underlying85 rfl info3 rfl hF rfl rfl rfl rfl rfl ?_
     refine L.loadPtr shape3 hF rfl rfl rfl rfl rfl rfl ?_
     refine L.fieldAddr Tryz.underlying85 rfl info3 rfl hF rfl rfl rfl rfl rfl ?_
     refine L.loadPtr shape3 hF rfl rfl rfl rfl rfl rfl ?_
     refine L.bin hF rfl rfl rfl rfl rfl rfl (L.nil ?_)
     refine WpC.cond rfl (fun hc => ?_) (fun hc => ?_)
     ·replace H := condT hc H
      refine WpC.seq (WpC.regionL ?_)
      refine L.assign hF rfl rfl rfl (L.nil ?_)
      refine WpC.ret ?_
      cases H
      exact Leaves.ret rfl rfl rfl ⟨rfl, rfl⟩
     ·replace H := condF hc H
      refine WpC.skip (WpC.seq (WpC.seq (WpC.regionL ?_)))
      refine L.fieldAddr Tryz.underlying85 rfl info3 rfl hF rfl rfl rfl rfl rfl ?_
      refine L.loadPtr shape3 hF rfl rfl rfl rfl rfl rfl ?_
      refine L.fieldAddr Tryz.underlying85 rfl info3 rfl hF rfl rfl rfl rfl rfl ?_
      refine L.loadPtr shape3 hF rfl rfl rfl rfl rfl rfl ?_
      refine L.bin hF rfl rfl rfl rfl rfl rfl (L.nil ?_)
      refine WpC.cond rfl (fun hc => ?_) (fun hc => ?_)
      ·replace H := condT hc H
       refine WpC.seq (WpC.regionL ?_)
       refine L.assign hF rfl rfl rfl (L.nil ?_)
       refine WpC.ret ?_
       cases H
       exact Leaves.ret rfl rfl rfl ⟨rfl, rfl⟩
      ·replace H := condF hc H
       refine WpC.skip (WpC.seq (WpC.seq (WpC.regionL ?_)))
       refine L.fieldAddr Tryz.underlying85 rfl info3 rfl hF rfl rfl rfl rfl rfl ?_
       refine L.loadPtr shape3 hF rfl rfl rfl rfl rfl rfl ?_
       refine L.fieldAddr Tryz.underlying85 rfl info3 rfl hF rfl rfl rfl rfl rfl ?_
       refine L.loadPtr shape3 hF rfl rfl rfl rfl rfl rfl ?_
       refine L.bin hF rfl rfl rfl rfl rfl rfl (L.nil ?_)
       refine WpC.cond rfl (fun hc => ?_) (fun hc => ?_)
       ·replace H := condT hc H
        refine WpC.seq (WpC.regionL ?_)
        refine L.assign hF rfl rfl rfl (L.nil ?_)
        refine WpC.ret ?_
        cases H
        exact Leaves.ret rfl rfl rfl ⟨rfl, rfl⟩
       ·replace H := condF hc H
        refine WpC.skip (WpC.seq (WpC.seq (WpC.regionL ?_)))
        refine L.fieldAddr Tryz.underlying85 rfl info3 rfl hF rfl rfl rfl rfl rfl ?_
        refine L.loadPtr shape3 hF rfl rfl rfl rfl rfl rfl ?_
        refine L.fieldAddr Tryz.underlying85 rfl info3 rfl hF rfl rfl rfl rfl rfl ?_
        refine L.loadPtr shape3 hF rfl rfl rfl rfl rfl rfl ?_
        refine L.bin hF rfl rfl rfl rfl rfl rfl (L.nil ?_)
        refine WpC.cond rfl (fun hc => ?_) (fun hc => ?_)
        ·replace H := condT hc H
         refine WpC.seq (WpC.regionL ?_)
         refine L.assign hF rfl rfl rfl (L.nil ?_)
         refine WpC.ret ?_
         cases H
         exact Leaves.ret rfl rfl rfl ⟨rfl, rfl⟩
        ·replace H := condF hc H
         refine WpC.skip (WpC.seq (WpC.seq (WpC.regionL ?_)))
         refine L.fieldAddr Tryz.underlying85 rfl info37 rfl hF rfl rfl rfl rfl rfl ?_
         refine L.loadPtr shape37 hF rfl rfl rfl rfl rfl rfl ?_
         refine L.fieldAddr Tryz.underlying85 rfl info37 rfl hF rfl rfl rfl rfl rfl ?_
         refine L.loadPtr shape37 hF rfl rfl rfl rfl rfl rfl ?_
         obtain ⟨r2, hr2, H⟩ := bindS H
         refine L.call [false, false] [] [] 24 hF rfl rfl rfl ent70 rfl rfl rfl rfl rfl (Flaws_eqRest_gives k  (⟨a0.Rest.Servers, a0.Rest.Ops, a0.Rest.End⟩ : Timpl_Rest) (⟨a1.Rest.Servers, a1.Rest.Ops, a1.Rest.End⟩ : Timpl_Rest) r2 hr2) rfl ?_
         refine L.not hF rfl rfl rfl (L.nil ?_)
         refine WpC.cond rfl (fun hc => ?_) (fun hc => ?_)
         ·replace H := condT hc H
          refine WpC.seq (WpC.regionL ?_)
          refine L.assign hF rfl rfl rfl (L.nil ?_)
          refine WpC.ret ?_
          cases H
          exact Leaves.ret rfl rfl rfl ⟨rfl, rfl⟩
         ·replace H := condF hc H
          refine WpC.skip (WpC.seq (WpC.regionL ?_))
          refine L.assign hF rfl rfl rfl (L.nil ?_)
          refine WpC.ret ?_
          cases H
          exact Leaves.ret rfl rfl rfl ⟨rfl, rfl⟩
/-! ### Flaws_eqEventS -/
def Flaws_eqEventS.l2 : Nat → (List Timpl_Event) → (List Timpl_Event) → Int → Option Bool
 | 0, _, _, _ => none
 | k2 + 1, v44, v45, v46 => cond (decide (v46 < (v44.length : Int))) ((at? v44 v46).bind fun b50 => (at? v45 v46).bind fun b51 => (Flaws_eqEvent k2 b50 b51).bind fun r52 => cond (!r52) (some false) ((Flaws_eqEventS.l2 k2) v44 v45 (IntKind.i64.wrap (v46 + (1 : Int))))) (some true)
def Flaws_eqEventS (k : Nat) (a0 : List Timpl_Event) (a1 : List Timpl_Event) : Option Bool := cond ((a0.length : Int) != (a1.length : Int)) (some false) (Flaws_eqEventS.l2 k a0 a1 (0 : Int))
theorem ent125 : MG.Enters Tryz.prog 125 := ⟨Tryz.f125, Tryz.func125, rfl, by decide⟩
set_option maxHeartbeats 8000000 in
set_option maxRecDepth 100000 in
theorem Flaws_eqEventS_gives (k : Nat) (g0 : Bool) (g1 : Bool) (a0 : List Timpl_Event) (a1 : List Timpl_Event) (r : Bool) (H : Flaws_eqEventS k a0 a1 = some r) : Gives Tryz.prog 125 [V.one (Cell.sl g0 (List.map eTimpl_Event a0)), V.one (Cell.sl g1 (List.map eTimpl_Event a1))] [] [V.one (cL r)] [] := by
 refine Gives.intro Tryz.func125 rfl rfl rfl rfl ?_
 intro F hF hm
 unfold Flaws_eqEventS at H
 obtain ⟨K, hK⟩ : ∃ K, k ≤ K := ⟨k, Nat.le_refl k⟩
 refine WpC.seq (WpC.regionL ?_)
 refine L.assign hF rfl rfl rfl (L.nil ?_)
 refine WpC.seq (WpC.seq (WpC.regionL ?_))
 refine L.move hF rfl rfl rfl ?_
 refine L.lenR (xs := a0) (e := eTimpl_Event) Tryz.underlying77 hF rfl rfl rfl rfl ?_
 refine L.move hF rfl rfl rfl ?_
 refine L.lenR (xs := a1) (e := eTimpl_Event) Tryz.underlying77 hF rfl rfl rfl rfl ?_
 refine L.bin hF rfl rfl rfl rfl rfl rfl (L.nil ?_)
 refine WpC.cond rfl (fun hc => ?_) (fun hc => ?_)
 ·replace H := condT hc H
  refine WpC.seq (WpC.regionL ?_)
  refine L.assign hF rfl rfl rfl (L.nil ?_)
  refine WpC.ret ?_
  cases H
  exact Leaves.ret rfl rfl rfl ⟨rfl, rfl⟩
 ·replace H := condF hc H
  refine WpC.skip (WpC.seq (WpC.seq (WpC.regionL ?_)))
  refine L.assign hF rfl rfl rfl (L.nil ?_)
  refine WpC.block ?_
  refine WpC.loopL (P := Tryz.prog) (fun n σ => ∃ v44 : List Timpl_Event, ∃ v45 : List Timpl_Event, ∃ v46 : Int, n ≤ K ∧ Flaws_eqEventS.l2 n v44 v45 v46 = some r ∧ σ = mkSt [(0, one (Cell.sl g0 (List.map eTimpl_Event v44))), (1, one (Cell.sl g1 (List.map eTimpl_Event v45))), (5, one (cI v46))] [] [] 0) k ⟨_, ⟨a0, a1, (0 : Int), by omega, H, rfl⟩, Le.mk [] hm rfl (Sa2 (Sa1 trivial)) trivial trivial⟩ ?_
  clear H
  rintro k2 _ ⟨v44, v45, v46, hk2, H, rfl⟩
  cases k2 with
  | zero => cases H
  | succ k2 =>
   rw [Flaws_eqEventS.l2] at H
   refine WpC.seq (WpC.seq (WpC.regionL ?_))
   refine L.move hF rfl rfl rfl ?_
   refine L.move hF rfl rfl rfl ?_
   refine L.lenR (xs := v44) (e := eTimpl_Event) Tryz.underlying77 hF rfl rfl rfl rfl ?_
   refine L.bin hF rfl rfl rfl rfl rfl rfl (L.nil ?_)
   refine WpC.cond rfl (fun hc => ?_) (fun hc => ?_)
   ·replace H := condT hc H
    refine WpC.skip (WpC.seq (WpC.block (WpC.seq ?_)))
    obtain ⟨b50, hb50, H⟩ := bindS H
    obtain ⟨b51, hb51, H⟩ := bindS H
    obtain ⟨r52, hr52, H⟩ := bindS H
    refine A.begin mixed rfl rfl ?_
    intro W hI hO
    have n255 : W 2 #[true, true, true, true, true, true, true, true, false, false] (mkSt [(0, one (Cell.sl g0 (List.map eTimpl_Event v44))), (1, one (Cell.sl g1 (List.map eTimpl_Event v45))), (5, one (cI v46)), (20, agg (bTimpl_Event b50)), (24, agg (bTimpl_Event b51))] [] [] 0) := by
     refine hI _ _ _ ?_
     refine A.all [8] (by kernel_rfl) rfl ⟨⟨_, rfl, ?_⟩, trivial⟩
     refine L.call [false, false] [] [] 0 hF rfl rfl rfl ent140 rfl rfl rfl rfl rfl (Flaws_eqEvent_gives k2  b50 b51 r52 hr52) rfl (L.nil ?_)
     refine Atk 9 rfl (Ca.un rfl rfl) (fun Q0 k0 => L.not hF rfl rfl rfl (L.nil k0)) ?_
     refine A.le (τ := mkSt [(0, one (Cell.sl g0 (List.map eTimpl_Event v44))), (1, one (Cell.sl g1 (List.map eTimpl_Event v45))), (5, one (cI v46)), (26, one (cL (!r52)))] [] [] 0) (Le.mk [] hm rfl (Sa4 trivial) trivial trivial) ?_
     refine A.done (by kernel_rfl) ?_
     refine WpC.cond rfl (fun hc => ?_) (fun hc => ?_)
     ·replace H := condT hc H
      refine WpC.seq (WpC.regionL ?_)
      refine L.assign hF rfl rfl rfl (L.nil ?_)
      refine WpC.ret ?_
      cases H
      exact Leaves.ret rfl rfl rfl ⟨rfl, rfl⟩
     ·replace H := condF hc H
      refine WpC.skip (WpC.regionL ?_)
      refine L.move hF rfl rfl rfl ?_
      refine L.bin hF rfl rfl rfl rfl rfl rfl ?_
      refine L.assign hF rfl rfl rfl (L.nil ?_)
      exact ⟨k2, _, by omega, ⟨v44, v45, (IntKind.i64.wrap (v46 + (1 : Int))), by omega, H, rfl⟩, Le.mk [] hm rfl (Sa2 (Sa1 trivial)) trivial trivial⟩
    refine hI _ _ _ ?_
    refine Atk 0 rfl (Ca.move) (fun Q0 k0 => L.move hF rfl rfl rfl (L.nil k0)) ?_
    refine Atk 1 rfl (Ca.move) (fun Q0 k0 => L.move hF rfl rfl rfl (L.nil k0)) ?_
    refine Atk 2 rfl (Ca.indexAddr) (fun Q0 k0 => L.idxR (xs := v44) (e := eTimpl_Event) Tryz.underlying77 info85 hF rfl rfl rfl rfl rfl hb50 rfl rfl (L.nil k0)) ?_
    refine Atk 4 rfl (Ca.move) (fun Q0 k0 => L.move hF rfl rfl rfl (L.nil k0)) ?_
    refine Atk 5 rfl (Ca.move) (fun Q0 k0 => L.move hF rfl rfl rfl (L.nil k0)) ?_
    refine Atk 6 rfl (Ca.indexAddr) (fun Q0 k0 => L.idxR (xs := v45) (e := eTimpl_Event) Tryz.underlying77 info85 hF rfl rfl rfl rfl rfl hb51 rfl rfl (L.nil k0)) ?_
    refine A.all [3, 7] (by kernel_rfl) rfl ⟨⟨_, rfl, ?_⟩, ⟨_, rfl, ?_⟩, trivial⟩
    ·refine L.loadPe shape85 hF rfl rfl rfl rfl rfl (L.nil ?_)
     refine A.all [7] (by kernel_rfl) rfl ⟨⟨_, rfl, ?_⟩, trivial⟩
     refine L.loadPe shape85 hF rfl rfl rfl rfl rfl (L.nil ?_)
     exact A.on (hO _ _ _ n255) (Le.mk [] hm rfl (Sa4 (Sa1 trivial)) trivial trivial)
    ·refine L.loadPe shape85 hF rfl rfl rfl rfl rfl (L.nil ?_)
     refine A.all [3] (by kernel_rfl) rfl ⟨⟨_, rfl, ?_⟩, trivial⟩
     refine L.loadPe shape85 hF rfl rfl rfl rfl rfl (L.nil ?_)
     exact A.on (hO _ _ _ n255) (Le.mk [] hm rfl (Sa4 (Sa1 trivial)) trivial trivial)
   ·replace H := condF hc H
    refine WpC.exit (WpC.seq (WpC.regionL ?_))
    refine L.assign hF rfl rfl rfl (L.nil ?_)
    refine WpC.ret ?_
    cases H
    exact Leaves.ret rfl rfl rfl ⟨rfl, rfl⟩
/-! ### Flaws_eqAccept -/
def Flaws_eqAccept (k : Nat) (a0 : Timpl_Accept) (a1 : Timpl_Accept) : Option Bool := cond (a0.Server != a1.Server) (some false) (cond (a0.Client != a1.Client) (some false) (cond (a0.Key != a1.Key) (some false) (cond (a0.Op != a1.Op) (some false) (cond (a0.Now != a1.Now) (some false) ((Flaws_eqAuth k (⟨a0.Auth.Client, a0.Auth.Time, a0.Auth.Seq⟩ : Timpl_Auth) (⟨a1.Auth.Client, a1.Auth.Time, a1.Auth.Seq⟩ : Timpl_Auth)).bind fun r2 => cond (!r2) (some false) ((Flaws_eqRest k (⟨a0.Rest.Servers, a0.Rest.Ops, a0.Rest.End⟩ : Timpl_Rest) (⟨a1.Rest.Servers, a1.Rest.Ops, a1.Rest.End⟩ : Timpl_Rest)).bind fun r4 => cond (!r4) (some false) ((Flaws_eqIntS k a0.Path a1.Path).bind fun r6 => cond (!r6) (some false) ((Flaws_eqIntS k a0.Via a1.Via).bind fun r8 => cond (!r8) (some false) (cond (a0.Leaks != a1.Leaks) (some false) (cond (a0.Ticket != a1.Ticket) (some false) (some true)))))))))))
theorem ent16 : MG.Enters Tryz.prog 16 := ⟨Tryz.f16, Tryz.func16, rfl, by decide⟩
set_option maxHeartbeats 8000000 in
set_option maxRecDepth 100000 in
theorem Flaws_eqAccept_gives (k : Nat) (g0 : Bool) (g1 : Bool) (g2 : Bool) (g3 : Bool) (a0 : Timpl_Accept) (a1 : Timpl_Accept) (r : Bool) (H : Flaws_eqAccept k a0 a1 = some r) : Gives Tryz.prog 16 [V.agg [cI a0.Server, cI a0.Client, cI a0.Key, cI a0.Op, cI a0.Now, cI a0.Auth.Client, cI a0.Auth.Time, cI a0.Auth.Seq, cI a0.Rest.Servers, cI a0.Rest.Ops, cI a0.Rest.End, Cell.sl g0 (List.map eI a0.Path), Cell.sl g1 (List.map eI a0.Via), cI a0.Leaks, cS a0.Ticket], V.agg [cI a1.Server, cI a1.Client, cI a1.Key, cI a1.Op, cI a1.Now, cI a1.Auth.Client, cI a1.Auth.Time, cI a1.Auth.Seq, cI a1.Rest.Servers, cI a1.Rest.Ops, cI a1.Rest.End, Cell.sl g2 (List.map eI a1.Path), Cell.sl g3 (List.map eI a1.Via), cI a1.Leaks, cS a1.Ticket]] [] [V.one (cL r)] [] := by
 refine Gives.intro Tryz.func16 rfl rfl rfl rfl ?_
 intro F hF hm
 unfold Flaws_eqAccept at H
 obtain ⟨K, hK⟩ : ∃ K, k ≤ K := ⟨k, Nat.le_refl k⟩
 refine WpC.seq (WpC.regionL ?_)
 refine L.box 30 hF rfl rfl rfl rfl ?_
 refine L.box 31 hF rfl rfl rfl rfl ?_
 refine L.assign hF rfl rfl rfl (L.nil ?_)
 refine WpC.seq (WpC.seq (WpC.regionL ?_))
 refine L.fieldAddr Tryz.underlying39 rfl info3 rfl hF rfl rfl rfl rfl rfl ?_
 refine L.loadPtr shape3 hF rfl rfl rfl rfl rfl rfl ?_
 refine L.fieldAddr Tryz.underlying39 rfl info3 rfl hF rfl rfl rfl rfl rfl ?_
 refine L.loadPtr shape3 hF rfl rfl rfl rfl rfl rfl ?_
 refine L.bin hF rfl rfl rfl rfl rfl rfl (L.nil ?_)
 refine WpC.cond rfl (fun hc => ?_) (fun hc => ?_)
 ·replace H := condT hc H
  refine WpC.seq (WpC.regionL ?_)
  refine L.assign hF rfl rfl rfl (L.nil ?_)
  refine WpC.ret ?_
  cases H
  exact Leaves.ret rfl rfl rfl ⟨rfl, rfl⟩
 ·replace H := condF hc H
  refine WpC.skip (WpC.seq (WpC.seq (WpC.regionL ?_)))
  refine L.fieldAddr Tryz.underlying39 rfl info3 rfl hF rfl rfl rfl rfl rfl ?_
  refine L.loadPtr shape3 hF rfl rfl rfl rfl rfl rfl ?_
  refine L.fieldAddr Tryz.underlying39 rfl info3 rfl hF rfl rfl rfl rfl rfl ?_
  refine L.loadPtr shape3 hF rfl rfl rfl rfl rfl rfl ?_
  refine L.bin hF rfl rfl rfl rfl rfl rfl (L.nil ?_)
  refine WpC.cond rfl (fun hc => ?_) (fun hc => ?_)
  ·replace H := condT hc H
   refine WpC.seq (WpC.regionL ?_)
   refine L.assign hF rfl rfl rfl (L.nil ?_)
   refine WpC.ret ?_
   cases H
   exact Leaves.ret rfl rfl rfl ⟨rfl, rfl⟩
  ·replace H := condF hc H
   refine WpC.skip (WpC.seq (WpC.seq (WpC.regionL ?_)))
   refine L.fieldAddr Tryz.underlying39 rfl info3 rfl hF rfl rfl rfl rfl rfl ?_
   refine L.loadPtr shape3 hF rfl rfl rfl rfl rfl rfl ?_
   refine L.fieldAddr Tryz.underlying39 rfl info3 rfl hF rfl rfl rfl rfl rfl ?_
   refine L.loadPtr shape3 hF rfl rfl rfl rfl rfl rfl ?_
   refine L.bin hF rfl rfl rfl rfl rfl rfl (L.nil ?_)
   refine WpC.cond rfl (fun hc => ?_) (fun hc => ?_)
   ·replace H := condT hc H
    refine WpC.seq (WpC.regionL ?_)
    refine L.assign hF rfl rfl rfl (L.nil ?_)
    refine WpC.ret ?_
    cases H
    exact Leaves.ret rfl rfl rfl ⟨rfl, rfl⟩
   ·replace H := condF hc H
    refine WpC.skip (WpC.seq (WpC.seq (WpC.regionL ?_)))
    refine L.fieldAddr Tryz.underlying39 rfl info3 rfl hF rfl rfl rfl rfl rfl ?_
    refine L.loadPtr shape3 hF rfl rfl rfl rfl rfl rfl ?_
    refine L.fieldAddr Tryz.underlying39 rfl info3 rfl hF rfl rfl rfl rfl rfl ?_
    refine L.loadPtr shape3 hF rfl rfl rfl rfl rfl rfl ?_
    refine L.bin hF rfl rfl rfl rfl rfl rfl (L.nil ?_)
    refine WpC.cond rfl (fun hc => ?_) (fun hc => ?_)
    ·replace H := condT hc H
     refine WpC.seq (WpC.regionL ?_)
     refine L.assign hF rfl rfl rfl (L.nil ?_)
     refine WpC.ret ?_
     cases H
     exact Leaves.ret rfl rfl rfl ⟨rfl, rfl⟩
    ·replace H := condF hc H
     refine WpC.skip (WpC.seq (WpC.seq (WpC.regionL ?_)))
     refine L.fieldAddr Tryz.underlying39 rfl info3 rfl hF rfl rfl rfl rfl rfl ?_
     refine L.loadPtr shape3 hF rfl rfl rfl rfl rfl rfl ?_
     refine L.fieldAddr Tryz.underlying39 rfl info3 rfl hF rfl rfl rfl rfl rfl ?_
     refine L.loadPtr shape3 hF rfl rfl rfl rfl rfl rfl ?_
     refine L.bin hF rfl rfl rfl rfl rfl rfl (L.nil ?_)
     refine WpC.cond rfl (fun hc => ?_) (fun hc => ?_)
     ·replace H := condT hc H
      refine WpC.seq (WpC.regionL ?_)
      refine L.assign hF rfl rfl rfl (L.nil ?_)
      refine WpC.ret ?_
      cases H
      exact Leaves.ret rfl rfl rfl ⟨rfl, rfl⟩
     ·replace H := condF hc H
      refine WpC.skip (WpC.seq (WpC.seq (WpC.regionL ?_)))
      refine L.fieldAddr Tryz.underlying39 rfl info35 rfl hF rfl rfl rfl rfl rfl ?_
      refine L.loadPtr shape35 hF rfl rfl rfl rfl rfl rfl ?_
      refine L.fieldAddr Tryz.underlying39 rfl info35 rfl hF rfl rfl rfl rfl rfl ?_
      refine L.loadPtr shape35 hF rfl rfl rfl rfl rfl rfl ?_
      obtain ⟨r2, hr2, H⟩ := bindS H
      refine L.call [false, false] [] [] 32 hF rfl rfl rfl ent69 rfl rfl rfl rfl rfl (Flaws_eqAuth_gives k  (⟨a0.Auth.Client, a0.Auth.Time, a0.Auth.Seq⟩ : Timpl_Auth) (⟨a1.Auth.Client, a1.Auth.Time, a1.Auth.Seq⟩ : Timpl_Auth) r2 hr2) rfl ?_
      refine L.not hF rfl rfl rfl (L.nil ?_)
      refine WpC.cond rfl (fun hc => ?_) (fun hc => ?_)
      ·replace H := condT hc H
       refine WpC.seq (WpC.regionL ?_)
       refine L.assign hF rfl rfl rfl (L.nil ?_)
       refine WpC.ret ?_
       cases H
       exact Leaves.ret rfl rfl rfl ⟨rfl, rfl⟩
      ·replace H := condF hc H
       refine WpC.skip (WpC.seq (WpC.seq (WpC.regionL ?_)))
       refine L.fieldAddr Tryz.underlying39 rfl info37 rfl hF rfl rfl rfl rfl rfl ?_
       refine L.loadPtr shape37 hF rfl rfl rfl rfl rfl rfl ?_
       refine L.fieldAddr Tryz.underlying39 rfl info37 rfl hF rfl rfl rfl rfl rfl ?_
       refine L.loadPtr shape37 hF rfl rfl rfl rfl rfl rfl ?_
       obtain ⟨r4, hr4, H⟩ := bindS H
       refine L.call [false, false] [] [] 33 hF rfl rfl rfl ent70 rfl rfl rfl rfl rfl (Flaws_eqRest_gives k  (⟨a0.Rest.Servers, a0.Rest.Ops, a0.Rest.End⟩ : Timpl_Rest) (⟨a1.Rest.Servers, a1.Rest.Ops, a1.Rest.End⟩ : Timpl_Rest) r4 hr4) rfl ?_
       refine L.not hF rfl rfl rfl (L.nil ?_)
       refine WpC.cond rfl (fun hc => ?_) (fun hc => ?_)
       ·replace H := condT hc H
        refine WpC.seq (WpC.regionL ?_)
        refine L.assign hF rfl rfl rfl (L.nil ?_)
        refine WpC.ret ?_
        cases H
        exact Leaves.ret rfl rfl rfl ⟨rfl, rfl⟩
       ·replace H := condF hc H
        refine WpC.skip (WpC.seq (WpC.seq (WpC.regionL ?_)))
        refine L.fieldAddr Tryz.underlying39 rfl info22 rfl hF rfl rfl rfl rfl rfl ?_
        refine L.loadPtr shape22 hF rfl rfl rfl rfl rfl rfl ?_
        refine L.fieldAddr Tryz.underlying39 rfl info22 rfl hF rfl rfl rfl rfl rfl ?_
        refine L.loadPtr shape22 hF rfl rfl rfl rfl rfl rfl ?_
        obtain ⟨r6, hr6, H⟩ := bindS H
        refine L.call [false, false] [] [] 34 hF rfl rfl rfl ent71 rfl rfl rfl rfl rfl (Flaws_eqIntS_gives k g0 g2 a0.Path a1.Path r6 hr6) rfl ?_
        refine L.not hF rfl rfl rfl (L.nil ?_)
        refine WpC.cond rfl (fun hc => ?_) (fun hc => ?_)
        ·replace H := condT hc H
         refine WpC.seq (WpC.regionL ?_)
         refine L.assign hF rfl rfl rfl (L.nil ?_)
         refine WpC.ret ?_
         cases H
         exact Leaves.ret rfl rfl rfl ⟨rfl, rfl⟩
        ·replace H := condF hc H
         refine WpC.skip (WpC.seq (WpC.seq (WpC.regionL ?_)))
         refine L.fieldAddr Tryz.underlying39 rfl info22 rfl hF rfl rfl rfl rfl rfl ?_
         refine L.loadPtr shape22 hF rfl rfl rfl rfl rfl rfl ?_
         refine L.fieldAddr Tryz.underlying39 rfl info22 rfl hF rfl rfl rfl rfl rfl ?_
         refine L.loadPtr shape22 hF rfl rfl rfl rfl rfl rfl ?_
         obtain ⟨r8, hr8, H⟩ := bindS H
         refine L.call [false, false] [] [] 35 hF rfl rfl rfl ent71 rfl rfl rfl rfl rfl (Flaws_eqIntS_gives k g1 g3 a0.Via a1.Via r8 hr8) rfl ?_
         refine L.not hF rfl rfl rfl (L.nil ?_)
         refine WpC.cond rfl (fun hc => ?_) (fun hc => ?_)
         ·replace H := condT hc H
          refine WpC.seq (WpC.regionL ?_)
          refine L.assign hF rfl rfl rfl (L.nil ?_)
          refine WpC.ret ?_
          cases H
          exact Leaves.ret rfl rfl rfl ⟨rfl, rfl⟩
         ·replace H := condF hc H
          refine WpC.skip (WpC.seq (WpC.seq (WpC.regionL ?_)))
          refine L.fieldAddr Tryz.underlying39 rfl info3 rfl hF rfl rfl rfl rfl rfl ?_
          refine L.loadPtr shape3 hF rfl rfl rfl rfl rfl rfl ?_
          refine L.fieldAddr Tryz.underlying39 rfl info3 rfl hF rfl rfl rfl rfl rfl ?_
          refine L.loadPtr shape3 hF rfl rfl rfl rfl rfl rfl ?_
          refine L.bin hF rfl rfl rfl rfl rfl rfl (L.nil ?_)
          refine WpC.cond rfl (fun hc => ?_) (fun hc => ?_)
          ·replace H := condT hc H
           refine WpC.seq (WpC.regionL ?_)
           refine L.assign hF rfl rfl rfl (L.nil ?_)
           refine WpC.ret ?_
           cases H
           exact Leaves.ret rfl rfl rfl ⟨rfl, rfl⟩
          ·replace H := condF hc H
           refine WpC.skip (WpC.seq (WpC.seq (WpC.regionL ?_)))
           refine L.fieldAddr Tryz.underlying39 rfl info9 rfl hF rfl rfl rfl rfl rfl ?_
           refine L.loadPtr shape9 hF rfl rfl rfl rfl rfl rfl ?_
           refine L.fieldAddr Tryz.underlying39 rfl info9 rfl hF rfl rfl rfl rfl rfl ?_
           refine L.loadPtr shape9 hF rfl rfl rfl rfl rfl rfl ?_
           refine L.binS hF rfl rfl rfl rfl rfl (L.nil ?_)
           refine WpC.cond rfl (fun hc => ?_) (fun hc => ?_)
           ·replace H := condT hc H
            refine WpC.seq (WpC.regionL ?_)
            refine L.assign hF rfl rfl rfl (L.nil ?_)
            refine WpC.ret ?_
            cases H
            exact Leaves.ret rfl rfl rfl ⟨rfl, rfl⟩
           ·replace H := condF hc H
            refine WpC.skip (WpC.seq (WpC.regionL ?_))
            refine L.assign hF rfl rfl rfl (L.nil ?_)
            refine WpC.ret ?_
            cases H
            exact Leaves.ret rfl rfl rfl ⟨rfl, rfl⟩
/-! ### Flaws_eqAcceptS -/
def Flaws_eqAcceptS.l2 : Nat → (List Timpl_Accept) → (List Timpl_Accept) → Int → Option Bool
 | 0, _, _, _ => none
 | k2 + 1, v44, v45, v46 => cond (decide (v46 < (v44.length : Int))) ((at? v44 v46).bind fun b50 => (at? v45 v46).bind fun b51 => (Flaws_eqAccept k2 b50 b51).bind fun r52 => cond (!r52) (some false) ((Flaws_eqAcceptS.l2 k2) v44 v45 (IntKind.i64.wrap (v46 + (1 : Int))))) (some true)
def Flaws_eqAcceptS (k : Nat) (a0 : List Timpl_Accept) (a1 : List Timpl_Accept) : Option Bool := cond ((a0.length : Int) != (a1.length : Int)) (some false) (Flaws_eqAcceptS.l2 k a0 a1 (0 : Int))
theorem ent126 : MG.Enters Tryz.prog 126 := ⟨Tryz.f126, Tryz.func126, rfl, by decide⟩
set_option maxHeartbeats 8000000 in
set_option maxRecDepth 100000 in
theorem Flaws_eqAcceptS_gives (k : Nat) (g0 : Bool) (g1 : Bool) (a0 : List Timpl_Accept) (a1 : List Timpl_Accept) (r : Bool) (H : Flaws_eqAcceptS k a0 a1 = some r) : Gives Tryz.prog 126 [V.one (Cell.sl g0 (List.map eTimpl_Accept a0)), V.one (Cell.sl g1 (List.map eTimpl_Accept a1))] [] [V.one (cL r)] [] := by
 refine Gives.intro Tryz.func126 rfl rfl rfl rfl ?_
 intro F hF hm
 unfold Flaws_eqAcceptS at H
 obtain ⟨K, hK⟩ : ∃ K, k ≤ K := ⟨k, Nat.le_refl k⟩
 refine WpC.seq (WpC.regionL ?_)
 refine L.assign hF rfl rfl rfl (L.nil ?_)
 refine WpC.seq (WpC.seq (WpC.regionL ?_))
 refine L.move hF rfl rfl rfl ?_
 refine L.lenR (xs := a0) (e := eTimpl_Accept) Tryz.underlying78 hF rfl rfl rfl rfl ?_
 refine L.move hF rfl rfl rfl ?_
 refine L.lenR (xs := a1) (e := eTimpl_Accept) Tryz.underlying78 hF rfl rfl rfl rfl ?_
 refine L.bin hF rfl rfl rfl rfl rfl rfl (L.nil ?_)
 refine WpC.cond rfl (fun hc => ?_) (fun hc => ?_)
 ·replace H := condT hc H
  refine WpC.seq (WpC.regionL ?_)
  refine L.assign hF rfl rfl rfl (L.nil ?_)
  refine WpC.ret ?_
  cases H
  exact Leaves.ret rfl rfl rfl ⟨rfl, rfl⟩
 ·replace H := condF hc H
  refine WpC.skip (WpC.seq (WpC.seq (WpC.regionL ?_)))
  refine L.assign hF rfl rfl rfl (L.nil ?_)
  refine WpC.block ?_
  refine WpC.loopL (P := Tryz.prog) (fun n σ => ∃ v44 : List Timpl_Accept, ∃ v45 : List Timpl_Accept, ∃ v46 : Int, n ≤ K ∧ Flaws_eqAcceptS.l2 n v44 v45 v46 = some r ∧ σ = mkSt [(0, one (Cell.sl g0 (List.map eTimpl_Accept v44))), (1, one (Cell.sl g1 (List.map eTimpl_Accept v45))), (5, one (cI v46))] [] [] 0) k ⟨_, ⟨a0, a1, (0 : Int), by omega, H, rfl⟩, Le.mk [] hm rfl (Sa2 (Sa1 trivial)) trivial trivial⟩ ?_
  clear H
  rintro k2 _ ⟨v44, v45, v46, hk2, H, rfl⟩
  cases k2 with
  | zero => cases H
  | succ k2 =>
   rw [Flaws_eqAcceptS.l2] at H
   refine WpC.seq (WpC.seq (WpC.regionL ?_))
   refine L.move hF rfl rfl rfl ?_
   refine L.move hF rfl rfl rfl ?_
   refine L.lenR (xs := v44) (e := eTimpl_Accept) Tryz.underlying78 hF rfl rfl rfl rfl ?_
   refine L.bin hF rfl rfl rfl rfl rfl rfl (L.nil ?_)
   refine WpC.cond rfl (fun hc => ?_) (fun hc => ?_)
   ·replace H := condT hc H
    refine WpC.skip (WpC.seq (WpC.block (WpC.seq ?_)))
    obtain ⟨b50, hb50, H⟩ := bindS H
    obtain ⟨b51, hb51, H⟩ := bindS H
    obtain ⟨r52, hr52, H⟩ := bindS H
    refine A.begin mixed rfl rfl ?_
    intro W hI hO
    have n255 : W 2 #[true, true, true, true, true, true, true, true, false, false] (mkSt [(0, one (Cell.sl g0 (List.map eTimpl_Accept v44))), (1, one (Cell.sl g1 (List.map eTimpl_Accept v45))), (5, one (cI v46)), (20, agg (bTimpl_Accept g0 g0 b50)), (24, agg (bTimpl_Accept g1 g1 b51))] [] [] 0) := by
     refine hI _ _ _ ?_
     refine A.all [8] (by kernel_rfl) rfl ⟨⟨_, rfl, ?_⟩, trivial⟩
     refine L.call [false, false] [] [] 0 hF rfl rfl rfl ent16 rfl rfl rfl rfl rfl (Flaws_eqAccept_gives k2 g0 g0 g1 g1 b50 b51 r52 hr52) rfl (L.nil ?_)
     refine Atk 9 rfl (Ca.un rfl rfl) (fun Q0 k0 => L.not hF rfl rfl rfl (L.nil k0)) ?_
     refine A.le (τ := mkSt [(0, one (Cell.sl g0 (List.map eTimpl_Accept v44))), (1, one (Cell.sl g1 (List.map eTimpl_Accept v45))), (5, one (cI v46)), (26, one (cL (!r52)))] [] [] 0) (Le.mk [] hm rfl (Sa4 trivial) trivial trivial) ?_
     refine A.done (by kernel_rfl) ?_
     refine WpC.cond rfl (fun hc => ?_) (fun hc => ?_)
     ·replace H := condT hc H
      refine WpC.seq (WpC.regionL ?_)
      refine L.assign hF rfl rfl rfl (L.nil ?_)
      refine WpC.ret ?_
      cases H
      exact Leaves.ret rfl rfl rfl ⟨rfl, rfl⟩
     ·replace H := condF hc H
      refine WpC.skip (WpC.regionL ?_)
      refine L.move hF rfl rfl rfl ?_
      refine L.bin hF rfl rfl rfl rfl rfl rfl ?_
      refine L.assign hF rfl rfl rfl (L.nil ?_)
      exact ⟨k2, _, by omega, ⟨v44, v45, (IntKind.i64.wrap (v46 + (1 : Int))), by omega, H, rfl⟩, Le.mk [] hm rfl (Sa2 (Sa1 trivial)) trivial trivial⟩
    refine hI _ _ _ ?_
    refine Atk 0 rfl (Ca.move) (fun Q0 k0 => L.move hF rfl rfl rfl (L.nil k0)) ?_
    refine Atk 1 rfl (Ca.move) (fun Q0 k0 => L.move hF rfl rfl rfl (L.nil k0)) ?_
    refine Atk 2 rfl (Ca.indexAddr) (fun Q0 k0 => L.idxR (xs := v44) (e := eTimpl_Accept) Tryz.underlying78 info39 hF rfl rfl rfl rfl rfl hb50 rfl rfl (L.nil k0)) ?_
    refine Atk 4 rfl (Ca.move) (fun Q0 k0 => L.move hF rfl rfl rfl (L.nil k0)) ?_
    refine Atk 5 rfl (Ca.move) (fun Q0 k0 => L.move hF rfl rfl rfl (L.nil k0)) ?_
    refine Atk 6 rfl (Ca.indexAddr) (fun Q0 k0 => L.idxR (xs := v45) (e := eTimpl_Accept) Tryz.underlying78 info39 hF rfl rfl rfl rfl rfl hb51 rfl rfl (L.nil k0)) ?_
    refine A.all [3, 7] (by kernel_rfl) rfl ⟨⟨_, rfl, ?_⟩, ⟨_, rfl, ?_⟩, trivial⟩
    ·refine L.loadPe shape39 hF rfl rfl rfl rfl rfl (L.nil ?_)
     refine A.all [7] (by kernel_rfl) rfl ⟨⟨_, rfl, ?_⟩, trivial⟩
     refine L.loadPe shape39 hF rfl rfl rfl rfl rfl (L.nil ?_)
     exact A.on (hO _ _ _ n255) (Le.mk [] hm rfl (Sa4 (Sa1 trivial)) trivial trivial)
    ·refine L.loadPe shape39 hF rfl rfl rfl rfl rfl (L.nil ?_)
     refine A.all [3] (by kernel_rfl) rfl ⟨⟨_, rfl, ?_⟩, trivial⟩
     refine L.loadPe shape39 hF rfl rfl rfl rfl rfl (L.nil ?_)
     exact A.on (hO _ _ _ n255) (Le.mk [] hm rfl (Sa4 (Sa1 trivial)) trivial trivial)
   ·replace H := condF hc H
    refine WpC.exit (WpC.seq (WpC.regionL ?_))
    refine L.assign hF rfl rfl rfl (L.nil ?_)
    refine WpC.ret ?_
    cases H
    exact Leaves.ret rfl rfl rfl ⟨rfl, rfl⟩
/-! ### Flaws_eqWorld -/
def Flaws_eqWorld (k : Nat) (a0 : Timpl_World) (a1 : Timpl_World) : Option Bool := (Flaws_eqConfig k (⟨a0.Config.UserRealm, a0.Config.ServiceRealm, a0.Config.Links, a0.Config.Proxy, a0.Config.Skew⟩ : Timpl_Config) (⟨a1.Config.UserRealm, a1.Config.ServiceRealm, a1.Config.Links, a1.Config.Proxy, a1.Config.Skew⟩ : Timpl_Config)).bind fun r2 => cond (!r2) (some false) (cond (a0.Now != a1.Now) (some false) (cond (a0.Fresh != a1.Fresh) (some false) ((Flaws_eqStringS k a0.Net a1.Net).bind fun r4 => cond (!r4) (some false) ((Flaws_eqKnown k (⟨a0.Known.Terms, a0.Known.Keys⟩ : Timpl_Known) (⟨a1.Known.Terms, a1.Known.Keys⟩ : Timpl_Known)).bind fun r6 => cond (!r6) (some false) ((Flaws_eqWaitS k a0.Waits a1.Waits).bind fun r8 => cond (!r8) (some false) ((Flaws_eqCredS k a0.Creds a1.Creds).bind fun r10 => cond (!r10) (some false) ((Flaws_eqCacheS k a0.Caches a1.Caches).bind fun r12 => cond (!r12) (some false) ((Flaws_eqEventS k a0.Log a1.Log).bind fun r14 => cond (!r14) (some false) ((Flaws_eqAcceptS k a0.Accepts a1.Accepts).bind fun r16 => cond (!r16) (some false) ((Flaws_eqIntS k a0.Leaked a1.Leaked).bind fun r18 => cond (!r18) (some false) (some true)))))))))))
theorem ent32 : MG.Enters Tryz.prog 32 := ⟨Tryz.f32, Tryz.func32, rfl, by decide⟩
set_option maxHeartbeats 8000000 in
set_option maxRecDepth 100000 in
theorem Flaws_eqWorld_gives (k : Nat) (g0 : Bool) (g1 : Bool) (g2 : Bool) (g3 : Bool) (g4 : Bool) (g5 : Bool) (g6 : Bool) (g7 : Bool) (g8 : Bool) (g9 : Bool) (g10 : Bool) (g11 : Bool) (g12 : Bool) (g13 : Bool) (g14 : Bool) (g15 : Bool) (g16 : Bool) (g17 : Bool) (g18 : Bool) (g19 : Bool) (g20 : Bool) (g21 : Bool) (g22 : Bool) (g23 : Bool) (g24 : Bool) (g25 : Bool) (a0 : Timpl_World) (a1 : Timpl_World) (r : Bool) (H : Flaws_eqWorld k a0 a1 = some r) : Gives Tryz.prog 32 [V.agg [Cell.sl g0 (List.map eI a0.Config.UserRealm), Cell.sl g1 (List.map eI a0.Config.ServiceRealm), Cell.sl g2 (List.map eTimpl_Pair a0.Config.Links), Cell.sl g3 (List.map eTimpl_Pair a0.Config.Proxy), cI a0.Config.Skew, cI a0.Now, cI a0.Fresh, Cell.sl g4 (List.map eS a0.Net), Cell.sl g5 (List.map eS a0.Known.Terms), Cell.sl g6 (List.map eI a0.Known.Keys), Cell.sl g7 (List.map eTimpl_Wait a0.Waits), Cell.sl g8 (List.map eTimpl_Cred a0.Creds), Cell.sl g9 (List.map eTimpl_Cache a0.Caches), Cell.sl g10 (List.map eTimpl_Event a0.Log), Cell.sl g11 (List.map eTimpl_Accept a0.Accepts), Cell.sl g12 (List.map eI a0.Leaked)], V.agg [Cell.sl g13 (List.map eI a1.Config.UserRealm), Cell.sl g14 (List.map eI a1.Config.ServiceRealm), Cell.sl g15 (List.map eTimpl_Pair a1.Config.Links), Cell.sl g16 (List.map eTimpl_Pair a1.Config.Proxy), cI a1.Config.Skew, cI a1.Now, cI a1.Fresh, Cell.sl g17 (List.map eS a1.Net), Cell.sl g18 (List.map eS a1.Known.Terms), Cell.sl g19 (List.map eI a1.Known.Keys), Cell.sl g20 (List.map eTimpl_Wait a1.Waits), Cell.sl g21 (List.map eTimpl_Cred a1.Creds), Cell.sl g22 (List.map eTimpl_Cache a1.Caches), Cell.sl g23 (List.map eTimpl_Event a1.Log), Cell.sl g24 (List.map eTimpl_Accept a1.Accepts), Cell.sl g25 (List.map eI a1.Leaked)]] [] [V.one (cL r)] [] := by
 refine Gives.intro Tryz.func32 rfl rfl rfl rfl ?_
 intro F hF hm
 unfold Flaws_eqWorld at H
 obtain ⟨K, hK⟩ : ∃ K, k ≤ K := ⟨k, Nat.le_refl k⟩
 refine WpC.seq (WpC.regionL ?_)
 refine L.box 32 hF rfl rfl rfl rfl ?_
 refine L.box 33 hF rfl rfl rfl rfl ?_
 refine L.assign hF rfl rfl rfl (L.nil ?_)
 refine WpC.seq (WpC.seq (WpC.regionL ?_))
 refine L.fieldAddr Tryz.underlying80 rfl info44 rfl hF rfl rfl rfl rfl rfl ?_
 refine L.loadPtr shape44 hF rfl rfl rfl rfl rfl rfl ?_
 refine L.fieldAddr Tryz.underlying80 rfl info44 rfl hF rfl rfl rfl rfl rfl ?_
 refine L.loadPtr shape44 hF rfl rfl rfl rfl rfl rfl ?_
 obtain ⟨r2, hr2, H⟩ := bindS H
 refine L.call [false, false] [] [] 34 hF rfl rfl rfl ent17 rfl rfl rfl rfl rfl (Flaws_eqConfig_gives k g0 g1 g2 g3 g13 g14 g15 g16 (⟨a0.Config.UserRealm, a0.Config.ServiceRealm, a0.Config.Links, a0.Config.Proxy, a0.Config.Skew⟩ : Timpl_Config) (⟨a1.Config.UserRealm, a1.Config.ServiceRealm, a1.Config.Links, a1.Config.Proxy, a1.Config.Skew⟩ : Timpl_Config) r2 hr2) rfl ?_
 refine L.not hF rfl rfl rfl (L.nil ?_)
 refine WpC.cond rfl (fun hc => ?_) (fun hc => ?_)
 ·replace H := condT hc H
  refine WpC.seq (WpC.regionL ?_)
  refine L.assign hF rfl rfl rfl (L.nil ?_)
  refine WpC.ret ?_
  cases H
  exact Leaves.ret rfl rfl rfl ⟨rfl, rfl⟩
 ·replace H := condF hc H
  refine WpC.skip (WpC.seq (WpC.seq (WpC.regionL ?_)))
  refine L.fieldAddr Tryz.underlying80 rfl info3 rfl hF rfl rfl rfl rfl rfl ?_
  refine L.loadPtr shape3 hF rfl rfl rfl rfl rfl rfl ?_
  refine L.fieldAddr Tryz.underlying80 rfl info3 rfl hF rfl rfl rfl rfl rfl ?_
  refine L.loadPtr shape3 hF rfl rfl rfl rfl rfl rfl ?_
  refine L.bin hF rfl rfl rfl rfl rfl rfl (L.nil ?_)
  refine WpC.cond rfl (fun hc => ?_) (fun hc => ?_)
  ·replace H := condT hc H
   refine WpC.seq (WpC.regionL ?_)
   refine L.assign hF rfl rfl rfl (L.nil ?_)
   refine WpC.ret ?_
   cases H
   exact Leaves.ret rfl rfl rfl ⟨rfl, rfl⟩
  ·replace H := condF hc H
   refine WpC.skip (WpC.seq (WpC.seq (WpC.regionL ?_)))
   refine L.fieldAddr Tryz.underlying80 rfl info3 rfl hF rfl rfl rfl rfl rfl ?_
   refine L.loadPtr shape3 hF rfl rfl rfl rfl rfl rfl ?_
   refine L.fieldAddr Tryz.underlying80 rfl info3 rfl hF rfl rfl rfl rfl rfl ?_
   refine L.loadPtr shape3 hF rfl rfl rfl rfl rfl rfl ?_
   refine L.bin hF rfl rfl rfl rfl rfl rfl (L.nil ?_)
   refine WpC.cond rfl (fun hc => ?_) (fun hc => ?_)
   ·replace H := condT hc H
    refine WpC.seq (WpC.regionL ?_)
    refine L.assign hF rfl rfl rfl (L.nil ?_)
    refine WpC.ret ?_
    cases H
    exact Leaves.ret rfl rfl rfl ⟨rfl, rfl⟩
   ·replace H := condF hc H
    refine WpC.skip (WpC.seq (WpC.seq (WpC.regionL ?_)))
    refine L.fieldAddr Tryz.underlying80 rfl info61 rfl hF rfl rfl rfl rfl rfl ?_
    refine L.loadPtr shape61 hF rfl rfl rfl rfl rfl rfl ?_
    refine L.fieldAddr Tryz.underlying80 rfl info61 rfl hF rfl rfl rfl rfl rfl ?_
    refine L.loadPtr shape61 hF rfl rfl rfl rfl rfl rfl ?_
    obtain ⟨r4, hr4, H⟩ := bindS H
    refine L.call [false, false] [] [] 35 hF rfl rfl rfl ent120 rfl rfl rfl rfl rfl (Flaws_eqStringS_gives k g4 g17 a0.Net a1.Net r4 hr4) rfl ?_
    refine L.not hF rfl rfl rfl (L.nil ?_)
    refine WpC.cond rfl (fun hc => ?_) (fun hc => ?_)
    ·replace H := condT hc H
     refine WpC.seq (WpC.regionL ?_)
     refine L.assign hF rfl rfl rfl (L.nil ?_)
     refine WpC.ret ?_
     cases H
     exact Leaves.ret rfl rfl rfl ⟨rfl, rfl⟩
    ·replace H := condF hc H
     refine WpC.skip (WpC.seq (WpC.seq (WpC.regionL ?_)))
     refine L.fieldAddr Tryz.underlying80 rfl info73 rfl hF rfl rfl rfl rfl rfl ?_
     refine L.loadPtr shape73 hF rfl rfl rfl rfl rfl rfl ?_
     refine L.fieldAddr Tryz.underlying80 rfl info73 rfl hF rfl rfl rfl rfl rfl ?_
     refine L.loadPtr shape73 hF rfl rfl rfl rfl rfl rfl ?_
     obtain ⟨r6, hr6, H⟩ := bindS H
     refine L.call [false, false] [] [] 36 hF rfl rfl rfl ent121 rfl rfl rfl rfl rfl (Flaws_eqKnown_gives k g5 g6 g18 g19 (⟨a0.Known.Terms, a0.Known.Keys⟩ : Timpl_Known) (⟨a1.Known.Terms, a1.Known.Keys⟩ : Timpl_Known) r6 hr6) rfl ?_
     refine L.not hF rfl rfl rfl (L.nil ?_)
     refine WpC.cond rfl (fun hc => ?_) (fun hc => ?_)
     ·replace H := condT hc H
      refine WpC.seq (WpC.regionL ?_)
      refine L.assign hF rfl rfl rfl (L.nil ?_)
      refine WpC.ret ?_
      cases H
      exact Leaves.ret rfl rfl rfl ⟨rfl, rfl⟩
     ·replace H := condF hc H
      refine WpC.skip (WpC.seq (WpC.seq (WpC.regionL ?_)))
      refine L.fieldAddr Tryz.underlying80 rfl info74 rfl hF rfl rfl rfl rfl rfl ?_
      refine L.loadPtr shape74 hF rfl rfl rfl rfl rfl rfl ?_
      refine L.fieldAddr Tryz.underlying80 rfl info74 rfl hF rfl rfl rfl rfl rfl ?_
      refine L.loadPtr shape74 hF rfl rfl rfl rfl rfl rfl ?_
      obtain ⟨r8, hr8, H⟩ := bindS H
      refine L.call [false, false] [] [] 37 hF rfl rfl rfl ent122 rfl rfl rfl rfl rfl (Flaws_eqWaitS_gives k g7 g20 a0.Waits a1.Waits r8 hr8) rfl ?_
      refine L.not hF rfl rfl rfl (L.nil ?_)
      refine WpC.cond rfl (fun hc => ?_) (fun hc => ?_)
      ·replace H := condT hc H
       refine WpC.seq (WpC.regionL ?_)
       refine L.assign hF rfl rfl rfl (L.nil ?_)
       refine WpC.ret ?_
       cases H
       exact Leaves.ret rfl rfl rfl ⟨rfl, rfl⟩
      ·replace H := condF hc H
       refine WpC.skip (WpC.seq (WpC.seq (WpC.regionL ?_)))
       refine L.fieldAddr Tryz.underlying80 rfl info75 rfl hF rfl rfl rfl rfl rfl ?_
       refine L.loadPtr shape75 hF rfl rfl rfl rfl rfl rfl ?_
       refine L.fieldAddr Tryz.underlying80 rfl info75 rfl hF rfl rfl rfl rfl rfl ?_
       refine L.loadPtr shape75 hF rfl rfl rfl rfl rfl rfl ?_
       obtain ⟨r10, hr10, H⟩ := bindS H
       refine L.call [false, false] [] [] 38 hF rfl rfl rfl ent123 rfl rfl rfl rfl rfl (Flaws_eqCredS_gives k g8 g21 a0.Creds a1.Creds r10 hr10) rfl ?_
       refine L.not hF rfl rfl rfl (L.nil ?_)
       refine WpC.cond rfl (fun hc => ?_) (fun hc => ?_)
       ·replace H := condT hc H
        refine WpC.seq (WpC.regionL ?_)
        refine L.assign hF rfl rfl rfl (L.nil ?_)
        refine WpC.ret ?_
        cases H
        exact Leaves.ret rfl rfl rfl ⟨rfl, rfl⟩
       ·replace H := condF hc H
        refine WpC.skip (WpC.seq (WpC.seq (WpC.regionL ?_)))
        refine L.fieldAddr Tryz.underlying80 rfl info76 rfl hF rfl rfl rfl rfl rfl ?_
        refine L.loadPtr shape76 hF rfl rfl rfl rfl rfl rfl ?_
        refine L.fieldAddr Tryz.underlying80 rfl info76 rfl hF rfl rfl rfl rfl rfl ?_
        refine L.loadPtr shape76 hF rfl rfl rfl rfl rfl rfl ?_
        obtain ⟨r12, hr12, H⟩ := bindS H
        refine L.call [false, false] [] [] 39 hF rfl rfl rfl ent124 rfl rfl rfl rfl rfl (Flaws_eqCacheS_gives k g9 g22 a0.Caches a1.Caches r12 hr12) rfl ?_
        refine L.not hF rfl rfl rfl (L.nil ?_)
        refine WpC.cond rfl (fun hc => ?_) (fun hc => ?_)
        ·replace H := condT hc H
         refine WpC.seq (WpC.regionL ?_)
         refine L.assign hF rfl rfl rfl (L.nil ?_)
         refine WpC.ret ?_
         cases H
         exact Leaves.ret rfl rfl rfl ⟨rfl, rfl⟩
        ·replace H := condF hc H
         refine WpC.skip (WpC.seq (WpC.seq (WpC.regionL ?_)))
         refine L.fieldAddr Tryz.underlying80 rfl info77 rfl hF rfl rfl rfl rfl rfl ?_
         refine L.loadPtr shape77 hF rfl rfl rfl rfl rfl rfl ?_
         refine L.fieldAddr Tryz.underlying80 rfl info77 rfl hF rfl rfl rfl rfl rfl ?_
         refine L.loadPtr shape77 hF rfl rfl rfl rfl rfl rfl ?_
         obtain ⟨r14, hr14, H⟩ := bindS H
         refine L.call [false, false] [] [] 40 hF rfl rfl rfl ent125 rfl rfl rfl rfl rfl (Flaws_eqEventS_gives k g10 g23 a0.Log a1.Log r14 hr14) rfl ?_
         refine L.not hF rfl rfl rfl (L.nil ?_)
         refine WpC.cond rfl (fun hc => ?_) (fun hc => ?_)
         ·replace H := condT hc H
          refine WpC.seq (WpC.regionL ?_)
          refine L.assign hF rfl rfl rfl (L.nil ?_)
          refine WpC.ret ?_
          cases H
          exact Leaves.ret rfl rfl rfl ⟨rfl, rfl⟩
         ·replace H := condF hc H
          refine WpC.skip (WpC.seq (WpC.seq (WpC.regionL ?_)))
          refine L.fieldAddr Tryz.underlying80 rfl info78 rfl hF rfl rfl rfl rfl rfl ?_
          refine L.loadPtr shape78 hF rfl rfl rfl rfl rfl rfl ?_
          refine L.fieldAddr Tryz.underlying80 rfl info78 rfl hF rfl rfl rfl rfl rfl ?_
          refine L.loadPtr shape78 hF rfl rfl rfl rfl rfl rfl ?_
          obtain ⟨r16, hr16, H⟩ := bindS H
          refine L.call [false, false] [] [] 41 hF rfl rfl rfl ent126 rfl rfl rfl rfl rfl (Flaws_eqAcceptS_gives k g11 g24 a0.Accepts a1.Accepts r16 hr16) rfl ?_
          refine L.not hF rfl rfl rfl (L.nil ?_)
          refine WpC.cond rfl (fun hc => ?_) (fun hc => ?_)
          ·replace H := condT hc H
           refine WpC.seq (WpC.regionL ?_)
           refine L.assign hF rfl rfl rfl (L.nil ?_)
           refine WpC.ret ?_
           cases H
           exact Leaves.ret rfl rfl rfl ⟨rfl, rfl⟩
          ·replace H := condF hc H
           refine WpC.skip (WpC.seq (WpC.seq (WpC.regionL ?_)))
           refine L.fieldAddr Tryz.underlying80 rfl info22 rfl hF rfl rfl rfl rfl rfl ?_
           refine L.loadPtr shape22 hF rfl rfl rfl rfl rfl rfl ?_
           refine L.fieldAddr Tryz.underlying80 rfl info22 rfl hF rfl rfl rfl rfl rfl ?_
           refine L.loadPtr shape22 hF rfl rfl rfl rfl rfl rfl ?_
           obtain ⟨r18, hr18, H⟩ := bindS H
           refine L.call [false, false] [] [] 42 hF rfl rfl rfl ent71 rfl rfl rfl rfl rfl (Flaws_eqIntS_gives k g12 g25 a0.Leaked a1.Leaked r18 hr18) rfl ?_
           refine L.not hF rfl rfl rfl (L.nil ?_)
           refine WpC.cond rfl (fun hc => ?_) (fun hc => ?_)
           ·replace H := condT hc H
            refine WpC.seq (WpC.regionL ?_)
            refine L.assign hF rfl rfl rfl (L.nil ?_)
            refine WpC.ret ?_
            cases H
            exact Leaves.ret rfl rfl rfl ⟨rfl, rfl⟩
           ·replace H := condF hc H
            refine WpC.skip (WpC.seq (WpC.regionL ?_))
            refine L.assign hF rfl rfl rfl (L.nil ?_)
            refine WpC.ret ?_
            cases H
            exact Leaves.ret rfl rfl rfl ⟨rfl, rfl⟩
/-! ### Flaws_FnExactOnce -/
def Flaws_FnExactOnce (k : Nat) (a0 : Tlaws_World) : Option Bool := (Flaws_szWorld k a0 (1048576 : Int)).bind fun r1 => cond (decide (r1 < (0 : Int))) (some true) ((Flaws_toWorld k a0).bind fun r2 => (Fspec_Once k r2).bind fun r3 => (Flaws_toWorld k a0).bind fun r4 => (Fimpl_Once k r4).bind fun r5 => cond (r5 != r3) (some false) ((Flaws_toWorld k a0).bind fun r8 => (Flaws_eqWorld k r4 r8).bind fun r9 => cond (!r9) (some false) (some true)))
theorem ent6 : MG.Enters Tryz.prog 6 := ⟨Tryz.f6, Tryz.func6, rfl, by decide⟩
set_option maxHeartbeats 8000000 in
set_option maxRecDepth 100000 in
theorem Flaws_FnExactOnce_gives (k : Nat) (g0 : Bool) (g1 : Bool) (g2 : Bool) (g3 : Bool) (g4 : Bool) (g5 : Bool) (g6 : Bool) (g7 : Bool) (g8 : Bool) (g9 : Bool) (g10 : Bool) (g11 : Bool) (g12 : Bool) (a0 : Tlaws_World) (r : Bool) (H : Flaws_FnExactOnce k a0 = some r) : Gives Tryz.prog 6 [V.agg [Cell.sl g0 (List.map eI a0.Config.UserRealm), Cell.sl g1 (List.map eI a0.Config.ServiceRealm), Cell.sl g2 (List.map eTlaws_Pair a0.Config.Links), Cell.sl g3 (List.map eTlaws_Pair a0.Config.Proxy), cI a0.Config.Skew, cI a0.Now, cI a0.Fresh, Cell.sl g4 (List.map eS a0.Net), Cell.sl g5 (List.map eS a0.Known.Terms), Cell.sl g6 (List.map eI a0.Known.Keys), Cell.sl g7 (List.map eTlaws_Wait a0.Waits), Cell.sl g8 (List.map eTlaws_Cred a0.Creds), Cell.sl g9 (List.map eTlaws_Cache a0.Caches), Cell.sl g10 (List.map eTlaws_Event a0.Log), Cell.sl g11 (List.map eTlaws_Accept a0.Accepts), Cell.sl g12 (List.map eI a0.Leaked)]] [] [V.one (cL r)] [] := by
 refine Gives.intro Tryz.func6 rfl rfl rfl rfl ?_
 intro F hF hm
 unfold Flaws_FnExactOnce at H
 obtain ⟨K, hK⟩ : ∃ K, k ≤ K := ⟨k, Nat.le_refl k⟩
 refine WpC.seq (WpC.regionL ?_)
 refine L.box 16 hF rfl rfl rfl rfl ?_
 refine L.assign hF rfl rfl rfl (L.nil ?_)
 refine WpC.seq (WpC.regionL ?_)
 refine L.assign hF rfl rfl rfl (L.nil ?_)
 refine WpC.seq (WpC.regionL ?_)
 refine L.loadPtr shape70 hF rfl rfl rfl rfl rfl rfl ?_
 refine L.move hF rfl rfl rfl ?_
 obtain ⟨r1, hr1, H⟩ := bindS H
 refine L.call [false, false] [] [] 17 hF rfl rfl rfl ent28 rfl rfl rfl rfl rfl (Flaws_szWorld_gives k g0 g1 g2 g3 g4 g5 g6 g7 g8 g9 g10 g11 g12 a0 (1048576 : Int) r1 hr1) rfl ?_
 refine L.assign hF rfl rfl rfl (L.nil ?_)
 refine WpC.seq (WpC.seq (WpC.regionL ?_))
 refine L.move hF rfl rfl rfl ?_
 refine L.bin hF rfl rfl rfl rfl rfl rfl (L.nil ?_)
 refine WpC.cond rfl (fun hc => ?_) (fun hc => ?_)
 ·replace H := condT hc H
  refine WpC.seq (WpC.regionL ?_)
  refine L.assign hF rfl rfl rfl (L.nil ?_)
  refine WpC.ret ?_
  cases H
  exact Leaves.ret rfl rfl rfl ⟨rfl, rfl⟩
 ·replace H := condF hc H
  refine WpC.skip (WpC.seq (WpC.regionL ?_))
  refine L.loadPtr shape70 hF rfl rfl rfl rfl rfl rfl ?_
  obtain ⟨r2, hr2, H⟩ := bindS H
  refine L.call [false] [] [] 18 hF rfl rfl rfl ent30 rfl rfl rfl rfl rfl (Flaws_toWorld_gives k g0 g1 g2 g3 g4 g5 g6 g7 g8 g9 g10 g11 g12 a0 r2 hr2) rfl ?_
  obtain ⟨r3, hr3, H⟩ := bindS H
  refine L.call [false] [18, 19, 20, 21, 25, 26, 27, 28, 29, 30, 31, 32, 33] [] 34 hF rfl rfl rfl ent33 rfl rfl rfl rfl rfl (Fspec_Once_gives k false false false false false false false false false false false false false r2 r3 hr3) rfl ?_
  refine L.assign hF rfl rfl rfl (L.nil ?_)
  refine WpC.seq (WpC.regionL ?_)
  refine L.loadPtr shape70 hF rfl rfl rfl rfl rfl rfl ?_
  obtain ⟨r4, hr4, H⟩ := bindS H
  refine L.call [false] [] [] 35 hF rfl rfl rfl ent30 rfl rfl rfl rfl rfl (Flaws_toWorld_gives k g0 g1 g2 g3 g4 g5 g6 g7 g8 g9 g10 g11 g12 a0 r4 hr4) rfl ?_
  refine L.alloc 51 info80 rfl hF rfl rfl rfl rfl ?_
  refine L.storePtr shape80 hF rfl rfl rfl rfl rfl rfl rfl (L.nil ?_)
  refine WpC.seq (WpC.regionL ?_)
  refine L.loadPtr shape80 hF rfl rfl rfl rfl rfl rfl ?_
  refine L.le (Le.shareAll 49 rfl) ?_
  obtain ⟨r5, hr5, H⟩ := bindS H
  refine L.call [false] [35, 36, 37, 38, 42, 43, 44, 45, 46, 47, 48, 50] [] 52 hF rfl rfl rfl ent34 rfl rfl rfl rfl rfl (Fimpl_Once_gives k false false false false false false false false false false false false r4 r5 hr5) rfl ?_
  refine L.assign hF rfl rfl rfl (L.nil ?_)
  refine WpC.seq (WpC.seq (WpC.regionL ?_))
  refine L.move hF rfl rfl rfl ?_
  refine L.move hF rfl rfl rfl ?_
  refine L.neL Tryz.underlying4 hF rfl rfl rfl rfl (L.nil ?_)
  refine WpC.cond rfl (fun hc => ?_) (fun hc => ?_)
  ·replace H := condT hc H
   refine WpC.seq (WpC.regionL ?_)
   refine L.assign hF rfl rfl rfl (L.nil ?_)
   refine WpC.ret ?_
   cases H
   exact Leaves.ret rfl rfl rfl ⟨rfl, rfl⟩
  ·replace H := condF hc H
   refine WpC.skip (WpC.seq (WpC.seq ?_))
   obtain ⟨r8, hr8, H⟩ := bindS H
   obtain ⟨r9, hr9, H⟩ := bindS H
   refine A.lin (fun β => mkStL [(1, ai (one (Cell.ptr 16 0))), (5, ai (one (Cell.ptr 51 0))), (22, al (β 0) (agg [Cell.own 35, Cell.own 36, Cell.own 37, Cell.own 38, cI r4.Config.Skew, cI r4.Now, cI r4.Fresh, Cell.own 42, Cell.own 43, Cell.own 44, Cell.own 45, Cell.own 46, Cell.own 47, Cell.own 48, Cell.sl true (List.map eTimpl_Accept r4.Accepts), Cell.own 50])), (23, al (β 1) (agg (bTlaws_World g0 g1 g2 g3 g4 g5 g6 g7 g8 g9 g10 g11 g12 a0))), (24, al (β 2) (agg [Cell.own 53, Cell.own 54, Cell.own 55, Cell.own 56, cI r8.Config.Skew, cI r8.Now, cI r8.Fresh, Cell.own 60, Cell.own 61, Cell.own 62, Cell.own 63, Cell.own 64, Cell.own 65, Cell.own 66, Cell.own 67, Cell.own 68])), (25, al (β 3) (one (cL r9))), (26, al (β 4) (one (cL (!r9))))] [(35, ai (⟨1, List.map eI r4.Config.UserRealm⟩)), (36, ai (⟨1, List.map eI r4.Config.ServiceRealm⟩)), (37, ai (⟨2, List.map eTimpl_Pair r4.Config.Links⟩)), (38, ai (⟨2, List.map eTimpl_Pair r4.Config.Proxy⟩)), (42, ai (⟨1, List.map eS r4.Net⟩)), (43, ai (⟨1, List.map eS r4.Known.Terms⟩)), (44, ai (⟨1, List.map eI r4.Known.Keys⟩)), (45, ai (⟨4, List.map eTimpl_Wait r4.Waits⟩)), (46, ai (⟨8, List.map eTimpl_Cred r4.Creds⟩)), (47, ai (⟨2, List.map eTimpl_Cache r4.Caches⟩)), (48, ai (⟨11, List.map eTimpl_Event r4.Log⟩)), (50, ai (⟨1, List.map eI r4.Leaked⟩)), (53, al (β 2) (⟨1, List.map eI r8.Config.UserRealm⟩)), (54, al (β 2) (⟨1, List.map eI r8.Config.ServiceRealm⟩)), (55, al (β 2) (⟨2, List.map eTimpl_Pair r8.Config.Links⟩)), (56, al (β 2) (⟨2, List.map eTimpl_Pair r8.Config.Proxy⟩)), (60, al (β 2) (⟨1, List.map eS r8.Net⟩)), (61, al (β 2) (⟨1, List.map eS r8.Known.Terms⟩)), (62, al (β 2) (⟨1, List.map eI r8.Known.Keys⟩)), (63, al (β 2) (⟨4, List.map eTimpl_Wait r8.Waits⟩)), (64, al (β 2) (⟨8, List.map eTimpl_Cred r8.Creds⟩)), (65, al (β 2) (⟨2, List.map eTimpl_Cache r8.Caches⟩)), (66, al (β 2) (⟨11, List.map eTimpl_Event r8.Log⟩)), (67, al (β 2) (⟨15, List.map eTimpl_Accept r8.Accepts⟩)), (68, al (β 2) (⟨1, List.map eI r8.Leaked⟩))] [(16, ai ((bTlaws_World g0 g1 g2 g3 g4 g5 g6 g7 g8 g9 g10 g11 g12 a0))), (51, ai ([Cell.own 35, Cell.own 36, Cell.own 37, Cell.own 38, cI r4.Config.Skew, cI r4.Now, cI r4.Fresh, Cell.own 42, Cell.own 43, Cell.own 44, Cell.own 45, Cell.own 46, Cell.own 47, Cell.own 48, Cell.sl true (List.map eTimpl_Accept r4.Accepts), Cell.own 50]))] 70) [([], [3, 4]), ([], [2, 3, 4]), ([1], [3, 4]), ([0, 1, 2], [4]), ([0, 1, 2, 3], [])] 5 mixed rfl (by kernel_rfl) ?_ ?_ ?_
   ·exact Le.lin [] hm rfl (sa (sa (kn (kn (kn (kn (kn kz))))))) (ra (ra (ra (ra (ra (ra (ra (ra (ra (ra (ra (ra (kn (kn (kn (kn (kn (kn (kn (kn (kn (kn (kn (kn (kn kz))))))))))))))))))))))))) (ba (ba kz))
   ·refine ⟨⟨_, rfl, fun β => ?_⟩, ⟨_, rfl, fun β => ?_⟩, ⟨_, rfl, fun β => ?_⟩, ⟨_, rfl, fun β => ?_⟩, ⟨_, rfl, fun β => ?_⟩, trivial⟩
    ·refine L.loadPtr shape80 hF rfl rfl rfl rfl rfl rfl ?_
     exact L.nil (Le.lin [] hm rfl (sa (sa (sa (su (su (kn (kn kz))))))) (ra (ra (ra (ra (ra (ra (ra (ra (ra (ra (ra (ra (ru (ru (ru (ru (ru (ru (ru (ru (ru (ru (ru (ru (ru kz))))))))))))))))))))))))) (ba (ba kz)))
    ·refine L.loadPtr shape70 hF rfl rfl rfl rfl rfl rfl ?_
     exact L.nil (Le.lin [] hm rfl (sa (sa (su (sa (kn (kn (kn kz))))))) (ra (ra (ra (ra (ra (ra (ra (ra (ra (ra (ra (ra (kn (kn (kn (kn (kn (kn (kn (kn (kn (kn (kn (kn (kn kz))))))))))))))))))))))))) (ba (ba kz)))
    ·refine L.call [false] [] [] 70 hF rfl rfl rfl ent30 rfl rfl rfl rfl rfl (Flaws_toWorld_gives k g0 g1 g2 g3 g4 g5 g6 g7 g8 g9 g10 g11 g12 a0 r8 hr8) rfl ?_
     exact L.nil (Le.lin [(53, 70), (54, 71), (55, 72), (56, 73), (57, 74), (58, 75), (59, 76), (60, 77), (61, 78), (62, 79), (63, 80), (64, 81), (65, 82), (66, 83), (67, 84), (68, 85)] hm rfl (sa (sa (su (sa (sa (kn (kn kz))))))) (ra (ra (ra (ra (ra (ra (ra (ra (ra (ra (ra (ra (ra (ra (ra (ra (ra (ra (ra (ra (ra (ra (ra (ra (ra kz))))))))))))))))))))))))) (ba (ba kz)))
    ·refine L.call [false, false] [35, 36, 37, 38, 42, 43, 44, 45, 46, 47, 48, 50, 53, 54, 55, 56, 60, 61, 62, 63, 64, 65, 66, 67, 68] [] 70 hF rfl rfl rfl ent32 rfl rfl rfl rfl rfl (Flaws_eqWorld_gives k false false false false false false false false false false false true false false false false false false false false false false false false false false r4 r8 r9 hr9) rfl ?_
     exact L.nil (Le.lin [(69, 70)] hm rfl (sa (sa (sa (sa (sa (sa (kn kz))))))) (ra (ra (ra (ra (ra (ra (ra (ra (ra (ra (ra (ra (ra (ra (ra (ra (ra (ra (ra (ra (ra (ra (ra (ra (ra kz))))))))))))))))))))))))) (ba (ba kz)))
    ·refine L.not hF rfl rfl rfl ?_
     exact L.nil (Le.lin [] hm rfl (sa (sa (sa (sa (sa (sa (sa kz))))))) (ra (ra (ra (ra (ra (ra (ra (ra (ra (ra (ra (ra (ra (ra (ra (ra (ra (ra (ra (ra (ra (ra (ra (ra (ra kz))))))))))))))))))))))))) (ba (ba kz)))
   refine ⟨_, (Le.mk [] hm rfl (Sa1 trivial) trivial trivial : Le _ _ (mkSt [(26, one (cL (!r9)))] [] [] 0)), ?_⟩
   refine WpC.cond rfl (fun hc => ?_) (fun hc => ?_)
   ·replace H := condT hc H
    refine WpC.seq (WpC.regionL ?_)
    refine L.assign hF rfl rfl rfl (L.nil ?_)
    refine WpC.ret ?_
    cases H
    exact Leaves.ret rfl rfl rfl ⟨rfl, rfl⟩
   ·replace H := condF hc H
    refine WpC.skip (WpC.seq (WpC.regionL ?_))
    refine L.assign hF rfl rfl rfl (L.nil ?_)
    refine WpC.ret ?_
    cases H
    exact Leaves.ret rfl rfl rfl ⟨rfl, rfl⟩
theorem open22 : Go.MG.Opens Tryz.prog 22 (Go.MG.eR Go.MG.eI) (Go.MG.wfR Go.MG.wfI) := Go.MG.Opens.slice Tryz.underlying22 (Go.MG.Opens.int Tryz.underlying3) (fun _ => (by kernel_rfl : Tryz.prog.cellsOf 3 = 1).symm) (fun _ => rfl) (fun _ => rfl) (by kernel_rfl)
def wfTlaws_Pair (x : Tlaws_Pair) : Prop := Go.MG.wfI x.A ∧ Go.MG.wfI x.B
theorem open201 : Go.MG.Opens Tryz.prog 201 eTlaws_Pair wfTlaws_Pair := by
  intro H enc W fuel cs x h
  obtain ⟨n, hp⟩ := Go.MG.struct_parts Tryz.underlying201 (by kernel_rfl : Tryz.prog.cellsOf 201 = 2) (by kernel_rfl) h
  obtain ⟨c0, k0, y0, rfl, h0, hp⟩ := hp
  obtain ⟨c1, k1, y1, rfl, h1, hp⟩ := hp
  obtain rfl := hp
  obtain ⟨a0, r0, w0⟩ := (Go.MG.Opens.int Tryz.underlying3) _ _ _ _ _ _ h0
  obtain ⟨a1, r1, w1⟩ := (Go.MG.Opens.int Tryz.underlying3) _ _ _ _ _ _ h1
  exact ⟨⟨a0, a1⟩, (r0.append (r1.append (rfl : Go.MG.RCs _ [] []))), w0, w1⟩
theorem open23 : Go.MG.Opens Tryz.prog 23 (Go.MG.eR eTlaws_Pair) (Go.MG.wfR wfTlaws_Pair) := Go.MG.Opens.slice Tryz.underlying23 open201 (fun _ => (by kernel_rfl : Tryz.prog.cellsOf 201 = 2).symm) (fun _ => rfl) (fun _ => rfl) (by kernel_rfl)
def wfTlaws_Config (x : Tlaws_Config) : Prop := (Go.MG.wfR Go.MG.wfI) x.UserRealm ∧ (Go.MG.wfR Go.MG.wfI) x.ServiceRealm ∧ (Go.MG.wfR wfTlaws_Pair) x.Links ∧ (Go.MG.wfR wfTlaws_Pair) x.Proxy ∧ Go.MG.wfI x.Skew
theorem open25 : Go.MG.Opens Tryz.prog 25 eTlaws_Config wfTlaws_Config := by
  intro H enc W fuel cs x h
  obtain ⟨n, hp⟩ := Go.MG.struct_parts Tryz.underlying25 (by kernel_rfl : Tryz.prog.cellsOf 25 = 5) (by kernel_rfl) h
  obtain ⟨c0, k0, y0, rfl, h0, hp⟩ := hp
  obtain ⟨c1, k1, y1, rfl, h1, hp⟩ := hp
  obtain ⟨c2, k2, y2, rfl, h2, hp⟩ := hp
  obtain ⟨c3, k3, y3, rfl, h3, hp⟩ := hp
  obtain ⟨c4, k4, y4, rfl, h4, hp⟩ := hp
  obtain rfl := hp
  obtain ⟨a0, r0, w0⟩ := open22 _ _ _ _ _ _ h0
  obtain ⟨a1, r1, w1⟩ := open22 _ _ _ _ _ _ h1
  obtain ⟨a2, r2, w2⟩ := open23 _ _ _ _ _ _ h2
  obtain ⟨a3, r3, w3⟩ := open23 _ _ _ _ _ _ h3
  obtain ⟨a4, r4, w4⟩ := (Go.MG.Opens.int Tryz.underlying3) _ _ _ _ _ _ h4
  exact ⟨⟨a0, a1, a2, a3, a4⟩, (r0.append (r1.append (r2.append (r3.append (r4.append (rfl : Go.MG.RCs _ [] [])))))), w0, w1, w2, w3, w4⟩
theorem open61 : Go.MG.Opens Tryz.prog 61 (Go.MG.eR Go.MG.eS) (Go.MG.wfR Go.MG.wfS) := Go.MG.Opens.slice Tryz.underlying61 (Go.MG.Opens.str Tryz.underlying9) (fun _ => (by kernel_rfl : Tryz.prog.cellsOf 9 = 1).symm) (fun _ => rfl) (fun _ => rfl) (by kernel_rfl)
def wfTlaws_Known (x : Tlaws_Known) : Prop := (Go.MG.wfR Go.MG.wfS) x.Terms ∧ (Go.MG.wfR Go.MG.wfI) x.Keys
theorem open63 : Go.MG.Opens Tryz.prog 63 eTlaws_Known wfTlaws_Known := by
  intro H enc W fuel cs x h
  obtain ⟨n, hp⟩ := Go.MG.struct_parts Tryz.underlying63 (by kernel_rfl : Tryz.prog.cellsOf 63 = 2) (by kernel_rfl) h
  obtain ⟨c0, k0, y0, rfl, h0, hp⟩ := hp
  obtain ⟨c1, k1, y1, rfl, h1, hp⟩ := hp
  obtain rfl := hp
  obtain ⟨a0, r0, w0⟩ := open61 _ _ _ _ _ _ h0
  obtain ⟨a1, r1, w1⟩ := open22 _ _ _ _ _ _ h1
  exact ⟨⟨a0, a1⟩, (r0.append (r1.append (rfl : Go.MG.RCs _ [] []))), w0, w1⟩
def wfTlaws_Wait (x : Tlaws_Wait) : Prop := (fun _ => True) x.On ∧ Go.MG.wfI x.Nonce ∧ Go.MG.wfI x.Key ∧ Go.MG.wfI x.Client
theorem open231 : Go.MG.Opens Tryz.prog 231 eTlaws_Wait wfTlaws_Wait := by
  intro H enc W fuel cs x h
  obtain ⟨n, hp⟩ := Go.MG.struct_parts Tryz.underlying231 (by kernel_rfl : Tryz.prog.cellsOf 231 = 4) (by kernel_rfl) h
  obtain ⟨c0, k0, y0, rfl, h0, hp⟩ := hp
  obtain ⟨c1, k1, y1, rfl, h1, hp⟩ := hp
  obtain ⟨c2, k2, y2, rfl, h2, hp⟩ := hp
  obtain ⟨c3, k3, y3, rfl, h3, hp⟩ := hp
  obtain rfl := hp
  obtain ⟨a0, r0, w0⟩ := (Go.MG.Opens.bool Tryz.underlying4) _ _ _ _ _ _ h0
  obtain ⟨a1, r1, w1⟩ := (Go.MG.Opens.int Tryz.underlying3) _ _ _ _ _ _ h1
  obtain ⟨a2, r2, w2⟩ := (Go.MG.Opens.int Tryz.underlying3) _ _ _ _ _ _ h2
  obtain ⟨a3, r3, w3⟩ := (Go.MG.Opens.int Tryz.underlying3) _ _ _ _ _ _ h3
  exact ⟨⟨a0, a1, a2, a3⟩, (r0.append (r1.append (r2.append (r3.append (rfl : Go.MG.RCs _ [] []))))), w0, w1, w2, w3⟩
theorem open64 : Go.MG.Opens Tryz.prog 64 (Go.MG.eR eTlaws_Wait) (Go.MG.wfR wfTlaws_Wait) := Go.MG.Opens.slice Tryz.underlying64 open231 (fun _ => (by kernel_rfl : Tryz.prog.cellsOf 231 = 4).symm) (fun _ => rfl) (fun _ => rfl) (by kernel_rfl)
def wfTlaws_Rest (x : Tlaws_Rest) : Prop := Go.MG.wfI x.Servers ∧ Go.MG.wfI x.Ops ∧ Go.MG.wfI x.End
theorem open223 : Go.MG.Opens Tryz.prog 223 eTlaws_Rest wfTlaws_Rest := by
  intro H enc W fuel cs x h
  obtain ⟨n, hp⟩ := Go.MG.struct_parts Tryz.underlying223 (by kernel_rfl : Tryz.prog.cellsOf 223 = 3) (by kernel_rfl) h
  obtain ⟨c0, k0, y0, rfl, h0, hp⟩ := hp
  obtain ⟨c1, k1, y1, rfl, h1, hp⟩ := hp
  obtain ⟨c2, k2, y2, rfl, h2, hp⟩ := hp
  obtain rfl := hp
  obtain ⟨a0, r0, w0⟩ := (Go.MG.Opens.int Tryz.underlying3) _ _ _ _ _ _ h0
  obtain ⟨a1, r1, w1⟩ := (Go.MG.Opens.int Tryz.underlying3) _ _ _ _ _ _ h1
  obtain ⟨a2, r2, w2⟩ := (Go.MG.Opens.int Tryz.underlying3) _ _ _ _ _ _ h2
  exact ⟨⟨a0, a1, a2⟩, (r0.append (r1.append (r2.append (rfl : Go.MG.RCs _ [] [])))), w0, w1, w2⟩
def wfTlaws_Cred (x : Tlaws_Cred) : Prop := Go.MG.wfI x.Owner ∧ Go.MG.wfI x.Client ∧ Go.MG.wfI x.Service ∧ Go.MG.wfI x.Key ∧ wfTlaws_Rest x.Rest ∧ Go.MG.wfS x.Ticket
theorem open225 : Go.MG.Opens Tryz.prog 225 eTlaws_Cred wfTlaws_Cred := by
  intro H enc W fuel cs x h
  obtain ⟨n, hp⟩ := Go.MG.struct_parts Tryz.underlying225 (by kernel_rfl : Tryz.prog.cellsOf 225 = 8) (by kernel_rfl) h
  obtain ⟨c0, k0, y0, rfl, h0, hp⟩ := hp
  obtain ⟨c1, k1, y1, rfl, h1, hp⟩ := hp
  obtain ⟨c2, k2, y2, rfl, h2, hp⟩ := hp
  obtain ⟨c3, k3, y3, rfl, h3, hp⟩ := hp
  obtain ⟨c4, k4, y4, rfl, h4, hp⟩ := hp
  obtain ⟨c5, k5, y5, rfl, h5, hp⟩ := hp
  obtain rfl := hp
  obtain ⟨a0, r0, w0⟩ := (Go.MG.Opens.int Tryz.underlying3) _ _ _ _ _ _ h0
  obtain ⟨a1, r1, w1⟩ := (Go.MG.Opens.int Tryz.underlying3) _ _ _ _ _ _ h1
  obtain ⟨a2, r2, w2⟩ := (Go.MG.Opens.int Tryz.underlying3) _ _ _ _ _ _ h2
  obtain ⟨a3, r3, w3⟩ := (Go.MG.Opens.int Tryz.underlying3) _ _ _ _ _ _ h3
  obtain ⟨a4, r4, w4⟩ := open223 _ _ _ _ _ _ h4
  obtain ⟨a5, r5, w5⟩ := (Go.MG.Opens.str Tryz.underlying9) _ _ _ _ _ _ h5
  exact ⟨⟨a0, a1, a2, a3, a4, a5⟩, (r0.append (r1.append (r2.append (r3.append (r4.append (r5.append (rfl : Go.MG.RCs _ [] []))))))), w0, w1, w2, w3, w4, w5⟩
theorem open65 : Go.MG.Opens Tryz.prog 65 (Go.MG.eR eTlaws_Cred) (Go.MG.wfR wfTlaws_Cred) := Go.MG.Opens.slice Tryz.underlying65 open225 (fun _ => (by kernel_rfl : Tryz.prog.cellsOf 225 = 8).symm) (fun _ => rfl) (fun _ => rfl) (by kernel_rfl)
def wfTlaws_Auth (x : Tlaws_Auth) : Prop := Go.MG.wfI x.Client ∧ Go.MG.wfI x.Time ∧ Go.MG.wfI x.Seq
theorem open203 : Go.MG.Opens Tryz.prog 203 eTlaws_Auth wfTlaws_Auth := by
  intro H enc W fuel cs x h
  obtain ⟨n, hp⟩ := Go.MG.struct_parts Tryz.underlying203 (by kernel_rfl : Tryz.prog.cellsOf 203 = 3) (by kernel_rfl) h
  obtain ⟨c0, k0, y0, rfl, h0, hp⟩ := hp
  obtain ⟨c1, k1, y1, rfl, h1, hp⟩ := hp
  obtain ⟨c2, k2, y2, rfl, h2, hp⟩ := hp
  obtain rfl := hp
  obtain ⟨a0, r0, w0⟩ := (Go.MG.Opens.int Tryz.underlying3) _ _ _ _ _ _ h0
  obtain ⟨a1, r1, w1⟩ := (Go.MG.Opens.int Tryz.underlying3) _ _ _ _ _ _ h1
  obtain ⟨a2, r2, w2⟩ := (Go.MG.Opens.int Tryz.underlying3) _ _ _ _ _ _ h2
  exact ⟨⟨a0, a1, a2⟩, (r0.append (r1.append (r2.append (rfl : Go.MG.RCs _ [] [])))), w0, w1, w2⟩
theorem open26 : Go.MG.Opens Tryz.prog 26 (Go.MG.eR eTlaws_Auth) (Go.MG.wfR wfTlaws_Auth) := Go.MG.Opens.slice Tryz.underlying26 open203 (fun _ => (by kernel_rfl : Tryz.prog.cellsOf 203 = 3).symm) (fun _ => rfl) (fun _ => rfl) (by kernel_rfl)
def wfTlaws_Cache (x : Tlaws_Cache) : Prop := Go.MG.wfI x.Quiet ∧ (Go.MG.wfR wfTlaws_Auth) x.Seen
theorem open28 : Go.MG.Opens Tryz.prog 28 eTlaws_Cache wfTlaws_Cache := by
  intro H enc W fuel cs x h
  obtain ⟨n, hp⟩ := Go.MG.struct_parts Tryz.underlying28 (by kernel_rfl : Tryz.prog.cellsOf 28 = 2) (by kernel_rfl) h
  obtain ⟨c0, k0, y0, rfl, h0, hp⟩ := hp
  obtain ⟨c1, k1, y1, rfl, h1, hp⟩ := hp
  obtain rfl := hp
  obtain ⟨a0, r0, w0⟩ := (Go.MG.Opens.int Tryz.underlying3) _ _ _ _ _ _ h0
  obtain ⟨a1, r1, w1⟩ := open26 _ _ _ _ _ _ h1
  exact ⟨⟨a0, a1⟩, (r0.append (r1.append (rfl : Go.MG.RCs _ [] []))), w0, w1⟩
theorem open66 : Go.MG.Opens Tryz.prog 66 (Go.MG.eR eTlaws_Cache) (Go.MG.wfR wfTlaws_Cache) := Go.MG.Opens.slice Tryz.underlying66 open28 (fun _ => (by kernel_rfl : Tryz.prog.cellsOf 28 = 2).symm) (fun _ => rfl) (fun _ => rfl) (by kernel_rfl)
def wfTlaws_Event (x : Tlaws_Event) : Prop := Go.MG.wfI x.Kind ∧ Go.MG.wfI x.Realm ∧ Go.MG.wfI x.By ∧ Go.MG.wfI x.Client ∧ Go.MG.wfI x.Service ∧ Go.MG.wfI x.Key ∧ Go.MG.wfI x.Parent ∧ Go.MG.wfI x.Evid ∧ wfTlaws_Rest x.Rest
theorem open235 : Go.MG.Opens Tryz.prog 235 eTlaws_Event wfTlaws_Event := by
  intro H enc W fuel cs x h
  obtain ⟨n, hp⟩ := Go.MG.struct_parts Tryz.underlying235 (by kernel_rfl : Tryz.prog.cellsOf 235 = 11) (by kernel_rfl) h
  obtain ⟨c0, k0, y0, rfl, h0, hp⟩ := hp
  obtain ⟨c1, k1, y1, rfl, h1, hp⟩ := hp
  obtain ⟨c2, k2, y2, rfl, h2, hp⟩ := hp
  obtain ⟨c3, k3, y3, rfl, h3, hp⟩ := hp
  obtain ⟨c4, k4, y4, rfl, h4, hp⟩ := hp
  obtain ⟨c5, k5, y5, rfl, h5, hp⟩ := hp
  obtain ⟨c6, k6, y6, rfl, h6, hp⟩ := hp
  obtain ⟨c7, k7, y7, rfl, h7, hp⟩ := hp
  obtain ⟨c8, k8, y8, rfl, h8, hp⟩ := hp
  obtain rfl := hp
  obtain ⟨a0, r0, w0⟩ := (Go.MG.Opens.int Tryz.underlying3) _ _ _ _ _ _ h0
  obtain ⟨a1, r1, w1⟩ := (Go.MG.Opens.int Tryz.underlying3) _ _ _ _ _ _ h1
  obtain ⟨a2, r2, w2⟩ := (Go.MG.Opens.int Tryz.underlying3) _ _ _ _ _ _ h2
  obtain ⟨a3, r3, w3⟩ := (Go.MG.Opens.int Tryz.underlying3) _ _ _ _ _ _ h3
  obtain ⟨a4, r4, w4⟩ := (Go.MG.Opens.int Tryz.underlying3) _ _ _ _ _ _ h4
  obtain ⟨a5, r5, w5⟩ := (Go.MG.Opens.int Tryz.underlying3) _ _ _ _ _ _ h5
  obtain ⟨a6, r6, w6⟩ := (Go.MG.Opens.int Tryz.underlying3) _ _ _ _ _ _ h6
  obtain ⟨a7, r7, w7⟩ := (Go.MG.Opens.int Tryz.underlying3) _ _ _ _ _ _ h7
  obtain ⟨a8, r8, w8⟩ := open223 _ _ _ _ _ _ h8
  exact ⟨⟨a0, a1, a2, a3, a4, a5, a6, a7, a8⟩, (r0.append (r1.append (r2.append (r3.append (r4.append (r5.append (r6.append (r7.append (r8.append (rfl : Go.MG.RCs _ [] [])))))))))), w0, w1, w2, w3, w4, w5, w6, w7, w8⟩
theorem open67 : Go.MG.Opens Tryz.prog 67 (Go.MG.eR eTlaws_Event) (Go.MG.wfR wfTlaws_Event) := Go.MG.Opens.slice Tryz.underlying67 open235 (fun _ => (by kernel_rfl : Tryz.prog.cellsOf 235 = 11).symm) (fun _ => rfl) (fun _ => rfl) (by kernel_rfl)
def wfTlaws_Accept (x : Tlaws_Accept) : Prop := Go.MG.wfI x.Server ∧ Go.MG.wfI x.Client ∧ Go.MG.wfI x.Key ∧ Go.MG.wfI x.Op ∧ Go.MG.wfI x.Now ∧ wfTlaws_Auth x.Auth ∧ wfTlaws_Rest x.Rest ∧ (Go.MG.wfR Go.MG.wfI) x.Path ∧ (Go.MG.wfR Go.MG.wfI) x.Via ∧ Go.MG.wfI x.Leaks ∧ Go.MG.wfS x.Ticket
theorem open228 : Go.MG.Opens Tryz.prog 228 eTlaws_Accept wfTlaws_Accept := by
  intro H enc W fuel cs x h
  obtain ⟨n, hp⟩ := Go.MG.struct_parts Tryz.underlying228 (by kernel_rfl : Tryz.prog.cellsOf 228 = 15) (by kernel_rfl) h
  obtain ⟨c0, k0, y0, rfl, h0, hp⟩ := hp
  obtain ⟨c1, k1, y1, rfl, h1, hp⟩ := hp
  obtain ⟨c2, k2, y2, rfl, h2, hp⟩ := hp
  obtain ⟨c3, k3, y3, rfl, h3, hp⟩ := hp
  obtain ⟨c4, k4, y4, rfl, h4, hp⟩ := hp
  obtain ⟨c5, k5, y5, rfl, h5, hp⟩ := hp
  obtain ⟨c6, k6, y6, rfl, h6, hp⟩ := hp
  obtain ⟨c7, k7, y7, rfl, h7, hp⟩ := hp
  obtain ⟨c8, k8, y8, rfl, h8, hp⟩ := hp
  obtain ⟨c9, k9, y9, rfl, h9, hp⟩ := hp
  obtain ⟨c10, k10, y10, rfl, h10, hp⟩ := hp
  obtain rfl := hp
  obtain ⟨a0, r0, w0⟩ := (Go.MG.Opens.int Tryz.underlying3) _ _ _ _ _ _ h0
  obtain ⟨a1, r1, w1⟩ := (Go.MG.Opens.int Tryz.underlying3) _ _ _ _ _ _ h1
  obtain ⟨a2, r2, w2⟩ := (Go.MG.Opens.int Tryz.underlying3) _ _ _ _ _ _ h2
  obtain ⟨a3, r3, w3⟩ := (Go.MG.Opens.int Tryz.underlying3) _ _ _ _ _ _ h3
  obtain ⟨a4, r4, w4⟩ := (Go.MG.Opens.int Tryz.underlying3) _ _ _ _ _ _ h4
  obtain ⟨a5, r5, w5⟩ := open203 _ _ _ _ _ _ h5
  obtain ⟨a6, r6, w6⟩ := open223 _ _ _ _ _ _ h6
  obtain ⟨a7, r7, w7⟩ := open22 _ _ _ _ _ _ h7
  obtain ⟨a8, r8, w8⟩ := open22 _ _ _ _ _ _ h8
  obtain ⟨a9, r9, w9⟩ := (Go.MG.Opens.int Tryz.underlying3) _ _ _ _ _ _ h9
  obtain ⟨a10, r10, w10⟩ := (Go.MG.Opens.str Tryz.underlying9) _ _ _ _ _ _ h10
  exact ⟨⟨a0, a1, a2, a3, a4, a5, a6, a7, a8, a9, a10⟩, (r0.append (r1.append (r2.append (r3.append (r4.append (r5.append (r6.append (r7.append (r8.append (r9.append (r10.append (rfl : Go.MG.RCs _ [] [])))))))))))), w0, w1, w2, w3, w4, w5, w6, w7, w8, w9, w10⟩
theorem open68 : Go.MG.Opens Tryz.prog 68 (Go.MG.eR eTlaws_Accept) (Go.MG.wfR wfTlaws_Accept) := Go.MG.Opens.slice Tryz.underlying68 open228 (fun _ => (by kernel_rfl : Tryz.prog.cellsOf 228 = 15).symm) (fun _ => rfl) (fun _ => rfl) (by kernel_rfl)
def wfTlaws_World (x : Tlaws_World) : Prop := wfTlaws_Config x.Config ∧ Go.MG.wfI x.Now ∧ Go.MG.wfI x.Fresh ∧ (Go.MG.wfR Go.MG.wfS) x.Net ∧ wfTlaws_Known x.Known ∧ (Go.MG.wfR wfTlaws_Wait) x.Waits ∧ (Go.MG.wfR wfTlaws_Cred) x.Creds ∧ (Go.MG.wfR wfTlaws_Cache) x.Caches ∧ (Go.MG.wfR wfTlaws_Event) x.Log ∧ (Go.MG.wfR wfTlaws_Accept) x.Accepts ∧ (Go.MG.wfR Go.MG.wfI) x.Leaked
theorem open70 : Go.MG.Opens Tryz.prog 70 eTlaws_World wfTlaws_World := by
  intro H enc W fuel cs x h
  obtain ⟨n, hp⟩ := Go.MG.struct_parts Tryz.underlying70 (by kernel_rfl : Tryz.prog.cellsOf 70 = 16) (by kernel_rfl) h
  obtain ⟨c0, k0, y0, rfl, h0, hp⟩ := hp
  obtain ⟨c1, k1, y1, rfl, h1, hp⟩ := hp
  obtain ⟨c2, k2, y2, rfl, h2, hp⟩ := hp
  obtain ⟨c3, k3, y3, rfl, h3, hp⟩ := hp
  obtain ⟨c4, k4, y4, rfl, h4, hp⟩ := hp
  obtain ⟨c5, k5, y5, rfl, h5, hp⟩ := hp
  obtain ⟨c6, k6, y6, rfl, h6, hp⟩ := hp
  obtain ⟨c7, k7, y7, rfl, h7, hp⟩ := hp
  obtain ⟨c8, k8, y8, rfl, h8, hp⟩ := hp
  obtain ⟨c9, k9, y9, rfl, h9, hp⟩ := hp
  obtain ⟨c10, k10, y10, rfl, h10, hp⟩ := hp
  obtain rfl := hp
  obtain ⟨a0, r0, w0⟩ := open25 _ _ _ _ _ _ h0
  obtain ⟨a1, r1, w1⟩ := (Go.MG.Opens.int Tryz.underlying3) _ _ _ _ _ _ h1
  obtain ⟨a2, r2, w2⟩ := (Go.MG.Opens.int Tryz.underlying3) _ _ _ _ _ _ h2
  obtain ⟨a3, r3, w3⟩ := open61 _ _ _ _ _ _ h3
  obtain ⟨a4, r4, w4⟩ := open63 _ _ _ _ _ _ h4
  obtain ⟨a5, r5, w5⟩ := open64 _ _ _ _ _ _ h5
  obtain ⟨a6, r6, w6⟩ := open65 _ _ _ _ _ _ h6
  obtain ⟨a7, r7, w7⟩ := open66 _ _ _ _ _ _ h7
  obtain ⟨a8, r8, w8⟩ := open67 _ _ _ _ _ _ h8
  obtain ⟨a9, r9, w9⟩ := open68 _ _ _ _ _ _ h9
  obtain ⟨a10, r10, w10⟩ := open22 _ _ _ _ _ _ h10
  exact ⟨⟨a0, a1, a2, a3, a4, a5, a6, a7, a8, a9, a10⟩, (r0.append (r1.append (r2.append (r3.append (r4.append (r5.append (r6.append (r7.append (r8.append (r9.append (r10.append (rfl : Go.MG.RCs _ [] [])))))))))))), w0, w1, w2, w3, w4, w5, w6, w7, w8, w9, w10⟩
end Go.Proofs.YtgjbgakcfcomdaaGreat.M
