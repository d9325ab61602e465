import Derived.Test.YtgjbgakcfcomdaaFNewWorldx0
import Derived.Test.YtgjbgakcfcomdaaProg
namespace Go.Proofs.Ytgjbgakcfcomdaa.M
open Go Go.MG
set_option linter.unusedVariables false
set_option linter.unusedSimpArgs false
/-! ### Flaws_eqKnown -/
def Flaws_eqKnown (k : Nat) (a0 : Timpl_Known) (a1 : Timpl_Known) : Option Bool := (Flaws_eqStringS k a0.Terms a1.Terms).bind fun r2 => cond (!r2) (some false) ((Flaws_eqIntS k a0.Keys a1.Keys).bind fun r4 => cond (!r4) (some false) (some true))
theorem ent97 : MG.Enters Try.prog 97 := ⟨Try.f97, Try.func97, rfl, by decide⟩
set_option maxHeartbeats 8000000 in
set_option maxRecDepth 100000 in
theorem Flaws_eqKnown_gives (k : Nat) (g0 : Bool) (g1 : Bool) (g2 : Bool) (g3 : Bool) (a0 : Timpl_Known) (a1 : Timpl_Known) (r : Bool) (H : Flaws_eqKnown k a0 a1 = some r) : Gives Try.prog 97 [V.agg [Cell.sl g0 (List.map eS a0.Terms), Cell.sl g1 (List.map eI a0.Keys)], V.agg [Cell.sl g2 (List.map eS a1.Terms), Cell.sl g3 (List.map eI a1.Keys)]] [] [V.one (cL r)] [] := by
 refine Gives.intro Try.func97 rfl rfl rfl rfl ?_
 intro F hF hm
 unfold Flaws_eqKnown at H
 obtain ⟨K, hK⟩ : ∃ K, k ≤ K := ⟨k, Nat.le_refl k⟩
 refine WpC.seq (WpC.regionL ?_)
 refine L.box 4 hF rfl rfl rfl rfl ?_
 refine L.box 5 hF rfl rfl rfl rfl ?_
 refine L.assign hF rfl rfl rfl (L.nil ?_)
 refine WpC.seq (WpC.seq (WpC.regionL ?_))
 refine L.fieldAddr Try.underlying65 rfl info63 rfl hF rfl rfl rfl rfl rfl ?_
 refine L.loadPtr shape63 hF rfl rfl rfl rfl rfl rfl ?_
 refine L.fieldAddr Try.underlying65 rfl info63 rfl hF rfl rfl rfl rfl rfl ?_
 refine L.loadPtr shape63 hF rfl rfl rfl rfl rfl rfl ?_
 obtain ⟨r2, hr2, H⟩ := bindS H
 refine L.call [false, false] [] [] 6 hF rfl rfl rfl ent96 rfl rfl rfl rfl rfl (Flaws_eqStringS_gives k g0 g2 a0.Terms a1.Terms r2 hr2) rfl ?_
 refine L.not hF rfl rfl rfl (L.nil ?_)
 refine WpC.cond rfl (fun hc => ?_) (fun hc => ?_)
 ·replace H := condT hc H
  refine WpC.seq (WpC.regionL ?_)
  refine L.assign hF rfl rfl rfl (L.nil ?_)
  refine WpC.ret ?_
  cases H
  exact Leaves.ret rfl rfl rfl ⟨rfl, rfl⟩
 ·replace H := condF hc H
  refine WpC.skip (WpC.seq (WpC.seq (WpC.regionL ?_)))
  refine L.fieldAddr Try.underlying65 rfl info39 rfl hF rfl rfl rfl rfl rfl ?_
  refine L.loadPtr shape39 hF rfl rfl rfl rfl rfl rfl ?_
  refine L.fieldAddr Try.underlying65 rfl info39 rfl hF rfl rfl rfl rfl rfl ?_
  refine L.loadPtr shape39 hF rfl rfl rfl rfl rfl rfl ?_
  obtain ⟨r4, hr4, H⟩ := bindS H
  refine L.call [false, false] [] [] 7 hF rfl rfl rfl ent103 rfl rfl rfl rfl rfl (Flaws_eqIntS_gives k g1 g3 a0.Keys a1.Keys r4 hr4) rfl ?_
  refine L.not hF rfl rfl rfl (L.nil ?_)
  refine WpC.cond rfl (fun hc => ?_) (fun hc => ?_)
  ·replace H := condT hc H
   refine WpC.seq (WpC.regionL ?_)
   refine L.assign hF rfl rfl rfl (L.nil ?_)
   refine WpC.ret ?_
   cases H
   exact Leaves.ret rfl rfl rfl ⟨rfl, rfl⟩
  ·replace H := condF hc H
   refine WpC.skip (WpC.seq (WpC.regionL ?_))
   refine L.assign hF rfl rfl rfl (L.nil ?_)
   refine WpC.ret ?_
   cases H
   exact Leaves.ret rfl rfl rfl ⟨rfl, rfl⟩
/-! ### Flaws_eqWait -/
def Flaws_eqWait (k : Nat) (a0 : Timpl_Wait) (a1 : Timpl_Wait) : Option Bool := cond (a0.On != a1.On) (some false) (cond (a0.Nonce != a1.Nonce) (some false) (cond (a0.Key != a1.Key) (some false) (cond (a0.Client != a1.Client) (some false) (some true))))
theorem ent143 : MG.Enters Try.prog 143 := ⟨Try.f143, Try.func143, rfl, by decide⟩
set_option maxHeartbeats 8000000 in
set_option maxRecDepth 100000 in
theorem Flaws_eqWait_gives (k : Nat) (a0 : Timpl_Wait) (a1 : Timpl_Wait) (r : Bool) (H : Flaws_eqWait k a0 a1 = some r) : Gives Try.prog 143 [V.agg [cL a0.On, cI a0.Nonce, cI a0.Key, cI a0.Client], V.agg [cL a1.On, cI a1.Nonce, cI a1.Key, cI a1.Client]] [] [V.one (cL r)] [] := by
 refine Gives.intro Try.func143 rfl rfl rfl rfl ?_
 intro F hF hm
 unfold Flaws_eqWait at H
 obtain ⟨K, hK⟩ : ∃ K, k ≤ K := ⟨k, Nat.le_refl k⟩
 refine WpC.seq (WpC.regionL ?_)
 refine L.box 8 hF rfl rfl rfl rfl ?_
 refine L.box 9 hF rfl rfl rfl rfl ?_
 refine L.assign hF rfl rfl rfl (L.nil ?_)
 refine WpC.seq (WpC.seq (WpC.regionL ?_))
 refine L.fieldAddr Try.underlying172 rfl info4 rfl hF rfl rfl rfl rfl rfl ?_
 refine L.loadPtr shape4 hF rfl rfl rfl rfl rfl rfl ?_
 refine L.fieldAddr Try.underlying172 rfl info4 rfl hF rfl rfl rfl rfl rfl ?_
 refine L.loadPtr shape4 hF rfl rfl rfl rfl rfl rfl ?_
 refine L.neL Try.underlying4 hF rfl rfl rfl rfl (L.nil ?_)
 refine WpC.cond rfl (fun hc => ?_) (fun hc => ?_)
 ·replace H := condT hc H
  refine WpC.seq (WpC.regionL ?_)
  refine L.assign hF rfl rfl rfl (L.nil ?_)
  refine WpC.ret ?_
  cases H
  exact Leaves.ret rfl rfl rfl ⟨rfl, rfl⟩
 ·replace H := condF hc H
  refine WpC.skip (WpC.seq (WpC.seq (WpC.regionL ?_)))
  refine L.fieldAddr Try.underlying172 rfl info3 rfl hF rfl rfl rfl rfl rfl ?_
  refine L.loadPtr shape3 hF rfl rfl rfl rfl rfl rfl ?_
  refine L.fieldAddr Try.underlying172 rfl info3 rfl hF rfl rfl rfl rfl rfl ?_
  refine L.loadPtr shape3 hF rfl rfl rfl rfl rfl rfl ?_
  refine L.bin hF rfl rfl rfl rfl rfl rfl (L.nil ?_)
  refine WpC.cond rfl (fun hc => ?_) (fun hc => ?_)
  ·replace H := condT hc H
   refine WpC.seq (WpC.regionL ?_)
   refine L.assign hF rfl rfl rfl (L.nil ?_)
   refine WpC.ret ?_
   cases H
   exact Leaves.ret rfl rfl rfl ⟨rfl, rfl⟩
  ·replace H := condF hc H
   refine WpC.skip (WpC.seq (WpC.seq (WpC.regionL ?_)))
   refine L.fieldAddr Try.underlying172 rfl info3 rfl hF rfl rfl rfl rfl rfl ?_
   refine L.loadPtr shape3 hF rfl rfl rfl rfl rfl rfl ?_
   refine L.fieldAddr Try.underlying172 rfl info3 rfl hF rfl rfl rfl rfl rfl ?_
   refine L.loadPtr shape3 hF rfl rfl rfl rfl rfl rfl ?_
   refine L.bin hF rfl rfl rfl rfl rfl rfl (L.nil ?_)
   refine WpC.cond rfl (fun hc => ?_) (fun hc => ?_)
   ·replace H := condT hc H
    refine WpC.seq (WpC.regionL ?_)
    refine L.assign hF rfl rfl rfl (L.nil ?_)
    refine WpC.ret ?_
    cases H
    exact Leaves.ret rfl rfl rfl ⟨rfl, rfl⟩
   ·replace H := condF hc H
    refine WpC.skip (WpC.seq (WpC.seq (WpC.regionL ?_)))
    refine L.fieldAddr Try.underlying172 rfl info3 rfl hF rfl rfl rfl rfl rfl ?_
    refine L.loadPtr shape3 hF rfl rfl rfl rfl rfl rfl ?_
    refine L.fieldAddr Try.underlying172 rfl info3 rfl hF rfl rfl rfl rfl rfl ?_
    refine L.loadPtr shape3 hF rfl rfl rfl rfl rfl rfl ?_
    refine L.bin hF rfl rfl rfl rfl rfl rfl (L.nil ?_)
    refine WpC.cond rfl (fun hc => ?_) (fun hc => ?_)
    ·replace H := condT hc H
     refine WpC.seq (WpC.regionL ?_)
     refine L.assign hF rfl rfl rfl (L.nil ?_)
     refine WpC.ret ?_
     cases H
     exact Leaves.ret rfl rfl rfl ⟨rfl, rfl⟩
    ·replace H := condF hc H
     refine WpC.skip (WpC.seq (WpC.regionL ?_))
     refine L.assign hF rfl rfl rfl (L.nil ?_)
     refine WpC.ret ?_
     cases H
     exact Leaves.ret rfl rfl rfl ⟨rfl, rfl⟩
/-! ### Flaws_eqWaitS -/
def Flaws_eqWaitS.l2 : Nat → (List Timpl_Wait) → (List Timpl_Wait) → Int → Option Bool
 | 0, _, _, _ => none
 | k2 + 1, v44, v45, v46 => cond (decide (v46 < (v44.length : Int))) ((at? v44 v46).bind fun b50 => (at? v45 v46).bind fun b51 => (Flaws_eqWait k2 b50 b51).bind fun r52 => cond (!r52) (some false) ((Flaws_eqWaitS.l2 k2) v44 v45 (IntKind.i64.wrap (v46 + (1 : Int))))) (some true)
def Flaws_eqWaitS (k : Nat) (a0 : List Timpl_Wait) (a1 : List Timpl_Wait) : Option Bool := cond ((a0.length : Int) != (a1.length : Int)) (some false) (Flaws_eqWaitS.l2 k a0 a1 (0 : Int))
theorem ent98 : MG.Enters Try.prog 98 := ⟨Try.f98, Try.func98, rfl, by decide⟩
set_option maxHeartbeats 8000000 in
set_option maxRecDepth 100000 in
theorem Flaws_eqWaitS_gives (k : Nat) (g0 : Bool) (g1 : Bool) (a0 : List Timpl_Wait) (a1 : List Timpl_Wait) (r : Bool) (H : Flaws_eqWaitS k a0 a1 = some r) : Gives Try.prog 98 [V.one (Cell.sl g0 (List.map eTimpl_Wait a0)), V.one (Cell.sl g1 (List.map eTimpl_Wait a1))] [] [V.one (cL r)] [] := by
 refine Gives.intro Try.func98 rfl rfl rfl rfl ?_
 intro F hF hm
 unfold Flaws_eqWaitS at H
 obtain ⟨K, hK⟩ : ∃ K, k ≤ K := ⟨k, Nat.le_refl k⟩
 refine WpC.seq (WpC.regionL ?_)
 refine L.assign hF rfl rfl rfl (L.nil ?_)
 refine WpC.seq (WpC.seq (WpC.regionL ?_))
 refine L.move hF rfl rfl rfl ?_
 refine L.lenR (xs := a0) (e := eTimpl_Wait) Try.underlying66 hF rfl rfl rfl rfl ?_
 refine L.move hF rfl rfl rfl ?_
 refine L.lenR (xs := a1) (e := eTimpl_Wait) Try.underlying66 hF rfl rfl rfl rfl ?_
 refine L.bin hF rfl rfl rfl rfl rfl rfl (L.nil ?_)
 refine WpC.cond rfl (fun hc => ?_) (fun hc => ?_)
 ·replace H := condT hc H
  refine WpC.seq (WpC.regionL ?_)
  refine L.assign hF rfl rfl rfl (L.nil ?_)
  refine WpC.ret ?_
  cases H
  exact Leaves.ret rfl rfl rfl ⟨rfl, rfl⟩
 ·replace H := condF hc H
  refine WpC.skip (WpC.seq (WpC.seq (WpC.regionL ?_)))
  refine L.assign hF rfl rfl rfl (L.nil ?_)
  refine WpC.block ?_
  refine WpC.loopL (P := Try.prog) (fun n σ => ∃ v44 : List Timpl_Wait, ∃ v45 : List Timpl_Wait, ∃ v46 : Int, n ≤ K ∧ Flaws_eqWaitS.l2 n v44 v45 v46 = some r ∧ σ = mkSt [(0, one (Cell.sl g0 (List.map eTimpl_Wait v44))), (1, one (Cell.sl g1 (List.map eTimpl_Wait v45))), (5, one (cI v46))] [] [] 0) k ⟨_, ⟨a0, a1, (0 : Int), by omega, H, rfl⟩, Le.mk [] hm rfl (Sa2 (Sa1 trivial)) trivial trivial⟩ ?_
  clear H
  rintro k2 _ ⟨v44, v45, v46, hk2, H, rfl⟩
  cases k2 with
  | zero => cases H
  | succ k2 =>
   rw [Flaws_eqWaitS.l2] at H
   refine WpC.seq (WpC.seq (WpC.regionL ?_))
   refine L.move hF rfl rfl rfl ?_
   refine L.move hF rfl rfl rfl ?_
   refine L.lenR (xs := v44) (e := eTimpl_Wait) Try.underlying66 hF rfl rfl rfl rfl ?_
   refine L.bin hF rfl rfl rfl rfl rfl rfl (L.nil ?_)
   refine WpC.cond rfl (fun hc => ?_) (fun hc => ?_)
   ·replace H := condT hc H
    refine WpC.skip (WpC.seq (WpC.block (WpC.seq ?_)))
    obtain ⟨b50, hb50, H⟩ := bindS H
    obtain ⟨b51, hb51, H⟩ := bindS H
    obtain ⟨r52, hr52, H⟩ := bindS H
    refine A.begin mixed rfl rfl ?_
    intro W hI hO
    have n255 : W 2 #[true, true, true, true, true, true, true, true, false, false] (mkSt [(0, one (Cell.sl g0 (List.map eTimpl_Wait v44))), (1, one (Cell.sl g1 (List.map eTimpl_Wait v45))), (5, one (cI v46)), (20, agg (bTimpl_Wait b50)), (24, agg (bTimpl_Wait b51))] [] [] 0) := by
     refine hI _ _ _ ?_
     refine A.all [8] (by kernel_rfl) rfl ⟨⟨_, rfl, ?_⟩, trivial⟩
     refine L.call [false, false] [] [] 0 hF rfl rfl rfl ent143 rfl rfl rfl rfl rfl (Flaws_eqWait_gives k2  b50 b51 r52 hr52) rfl (L.nil ?_)
     refine Atk 9 rfl (Ca.un rfl rfl) (fun Q0 k0 => L.not hF rfl rfl rfl (L.nil k0)) ?_
     refine A.le (τ := mkSt [(0, one (Cell.sl g0 (List.map eTimpl_Wait v44))), (1, one (Cell.sl g1 (List.map eTimpl_Wait v45))), (5, one (cI v46)), (26, one (cL (!r52)))] [] [] 0) (Le.mk [] hm rfl (Sa4 trivial) trivial trivial) ?_
     refine A.done (by kernel_rfl) ?_
     refine WpC.cond rfl (fun hc => ?_) (fun hc => ?_)
     ·replace H := condT hc H
      refine WpC.seq (WpC.regionL ?_)
      refine L.assign hF rfl rfl rfl (L.nil ?_)
      refine WpC.ret ?_
      cases H
      exact Leaves.ret rfl rfl rfl ⟨rfl, rfl⟩
     ·replace H := condF hc H
      refine WpC.skip (WpC.regionL ?_)
      refine L.move hF rfl rfl rfl ?_
      refine L.bin hF rfl rfl rfl rfl rfl rfl ?_
      refine L.assign hF rfl rfl rfl (L.nil ?_)
      exact ⟨k2, _, by omega, ⟨v44, v45, (IntKind.i64.wrap (v46 + (1 : Int))), by omega, H, rfl⟩, Le.mk [] hm rfl (Sa2 (Sa1 trivial)) trivial trivial⟩
    refine hI _ _ _ ?_
    refine Atk 0 rfl (Ca.move) (fun Q0 k0 => L.move hF rfl rfl rfl (L.nil k0)) ?_
    refine Atk 1 rfl (Ca.move) (fun Q0 k0 => L.move hF rfl rfl rfl (L.nil k0)) ?_
    refine Atk 2 rfl (Ca.indexAddr) (fun Q0 k0 => L.idxR (xs := v44) (e := eTimpl_Wait) Try.underlying66 info172 hF rfl rfl rfl rfl rfl hb50 rfl rfl (L.nil k0)) ?_
    refine Atk 4 rfl (Ca.move) (fun Q0 k0 => L.move hF rfl rfl rfl (L.nil k0)) ?_
    refine Atk 5 rfl (Ca.move) (fun Q0 k0 => L.move hF rfl rfl rfl (L.nil k0)) ?_
    refine Atk 6 rfl (Ca.indexAddr) (fun Q0 k0 => L.idxR (xs := v45) (e := eTimpl_Wait) Try.underlying66 info172 hF rfl rfl rfl rfl rfl hb51 rfl rfl (L.nil k0)) ?_
    refine A.all [3, 7] (by kernel_rfl) rfl ⟨⟨_, rfl, ?_⟩, ⟨_, rfl, ?_⟩, trivial⟩
    ·refine L.loadPe shape172 hF rfl rfl rfl rfl rfl (L.nil ?_)
     refine A.all [7] (by kernel_rfl) rfl ⟨⟨_, rfl, ?_⟩, trivial⟩
     refine L.loadPe shape172 hF rfl rfl rfl rfl rfl (L.nil ?_)
     exact A.on (hO _ _ _ n255) (Le.mk [] hm rfl (Sa4 (Sa1 trivial)) trivial trivial)
    ·refine L.loadPe shape172 hF rfl rfl rfl rfl rfl (L.nil ?_)
     refine A.all [3] (by kernel_rfl) rfl ⟨⟨_, rfl, ?_⟩, trivial⟩
     refine L.loadPe shape172 hF rfl rfl rfl rfl rfl (L.nil ?_)
     exact A.on (hO _ _ _ n255) (Le.mk [] hm rfl (Sa4 (Sa1 trivial)) trivial trivial)
   ·replace H := condF hc H
    refine WpC.exit (WpC.seq (WpC.regionL ?_))
    refine L.assign hF rfl rfl rfl (L.nil ?_)
    refine WpC.ret ?_
    cases H
    exact Leaves.ret rfl rfl rfl ⟨rfl, rfl⟩
/-! ### Flaws_eqRest -/
def Flaws_eqRest (k : Nat) (a0 : Timpl_Rest) (a1 : Timpl_Rest) : Option Bool := cond (a0.Servers != a1.Servers) (some false) (cond (a0.Ops != a1.Ops) (some false) (cond (a0.End != a1.End) (some false) (some true)))
theorem ent161 : MG.Enters Try.prog 161 := ⟨Try.f161, Try.func161, rfl, by decide⟩
set_option maxHeartbeats 8000000 in
set_option maxRecDepth 100000 in
theorem Flaws_eqRest_gives (k : Nat) (a0 : Timpl_Rest) (a1 : Timpl_Rest) (r : Bool) (H : Flaws_eqRest k a0 a1 = some r) : Gives Try.prog 161 [V.agg [cI a0.Servers, cI a0.Ops, cI a0.End], V.agg [cI a1.Servers, cI a1.Ops, cI a1.End]] [] [V.one (cL r)] [] := by
 refine Gives.intro Try.func161 rfl rfl rfl rfl ?_
 intro F hF hm
 unfold Flaws_eqRest at H
 obtain ⟨K, hK⟩ : ∃ K, k ≤ K := ⟨k, Nat.le_refl k⟩
 refine WpC.seq (WpC.regionL ?_)
 refine L.box 6 hF rfl rfl rfl rfl ?_
 refine L.box 7 hF rfl rfl rfl rfl ?_
 refine L.assign hF rfl rfl rfl (L.nil ?_)
 refine WpC.seq (WpC.seq (WpC.regionL ?_))
 refine L.fieldAddr Try.underlying175 rfl info3 rfl hF rfl rfl rfl rfl rfl ?_
 refine L.loadPtr shape3 hF rfl rfl rfl rfl rfl rfl ?_
 refine L.fieldAddr Try.underlying175 rfl info3 rfl hF rfl rfl rfl rfl rfl ?_
 refine L.loadPtr shape3 hF rfl rfl rfl rfl rfl rfl ?_
 refine L.bin hF rfl rfl rfl rfl rfl rfl (L.nil ?_)
 refine WpC.cond rfl (fun hc => ?_) (fun hc => ?_)
 ·replace H := condT hc H
  refine WpC.seq (WpC.regionL ?_)
  refine L.assign hF rfl rfl rfl (L.nil ?_)
  refine WpC.ret ?_
  cases H
  exact Leaves.ret rfl rfl rfl ⟨rfl, rfl⟩
 ·replace H := condF hc H
  refine WpC.skip (WpC.seq (WpC.seq (WpC.regionL ?_)))
  refine L.fieldAddr Try.underlying175 rfl info3 rfl hF rfl rfl rfl rfl rfl ?_
  refine L.loadPtr shape3 hF rfl rfl rfl rfl rfl rfl ?_
  refine L.fieldAddr Try.underlying175 rfl info3 rfl hF rfl rfl rfl rfl rfl ?_
  refine L.loadPtr shape3 hF rfl rfl rfl rfl rfl rfl ?_
  refine L.bin hF rfl rfl rfl rfl rfl rfl (L.nil ?_)
  refine WpC.cond rfl (fun hc => ?_) (fun hc => ?_)
  ·replace H := condT hc H
   refine WpC.seq (WpC.regionL ?_)
   refine L.assign hF rfl rfl rfl (L.nil ?_)
   refine WpC.ret ?_
   cases H
   exact Leaves.ret rfl rfl rfl ⟨rfl, rfl⟩
  ·replace H := condF hc H
   refine WpC.skip (WpC.seq (WpC.seq (WpC.regionL ?_)))
   refine L.fieldAddr Try.underlying175 rfl info3 rfl hF rfl rfl rfl rfl rfl ?_
   refine L.loadPtr shape3 hF rfl rfl rfl rfl rfl rfl ?_
   refine L.fieldAddr Try.underlying175 rfl info3 rfl hF rfl rfl rfl rfl rfl ?_
   refine L.loadPtr shape3 hF rfl rfl rfl rfl rfl rfl ?_
   refine L.bin hF rfl rfl rfl rfl rfl rfl (L.nil ?_)
   refine WpC.cond rfl (fun hc => ?_) (fun hc => ?_)
   ·replace H := condT hc H
    refine WpC.seq (WpC.regionL ?_)
    refine L.assign hF rfl rfl rfl (L.nil ?_)
    refine WpC.ret ?_
    cases H
    exact Leaves.ret rfl rfl rfl ⟨rfl, rfl⟩
   ·replace H := condF hc H
    refine WpC.skip (WpC.seq (WpC.regionL ?_))
    refine L.assign hF rfl rfl rfl (L.nil ?_)
    refine WpC.ret ?_
    cases H
    exact Leaves.ret rfl rfl rfl ⟨rfl, rfl⟩
/-! ### Flaws_eqCred -/
def Flaws_eqCred (k : Nat) (a0 : Timpl_Cred) (a1 : Timpl_Cred) : Option Bool := cond (a0.Owner != a1.Owner) (some false) (cond (a0.Client != a1.Client) (some false) (cond (a0.Service != a1.Service) (some false) (cond (a0.Key != a1.Key) (some false) ((Flaws_eqRest k (⟨a0.Rest.Servers, a0.Rest.Ops, a0.Rest.End⟩ : Timpl_Rest) (⟨a1.Rest.Servers, a1.Rest.Ops, a1.Rest.End⟩ : Timpl_Rest)).bind fun r2 => cond (!r2) (some false) (cond (a0.Ticket != a1.Ticket) (some false) (some true))))))
theorem ent144 : MG.Enters Try.prog 144 := ⟨Try.f144, Try.func144, rfl, by decide⟩
set_option maxHeartbeats 8000000 in
set_option maxRecDepth 100000 in
theorem Flaws_eqCred_gives (k : Nat) (a0 : Timpl_Cred) (a1 : Timpl_Cred) (r : Bool) (H : Flaws_eqCred k a0 a1 = some r) : Gives Try.prog 144 [V.agg [cI a0.Owner, cI a0.Client, cI a0.Service, cI a0.Key, cI a0.Rest.Servers, cI a0.Rest.Ops, cI a0.Rest.End, cS a0.Ticket], V.agg [cI a1.Owner, cI a1.Client, cI a1.Service, cI a1.Key, cI a1.Rest.Servers, cI a1.Rest.Ops, cI a1.Rest.End, cS a1.Ticket]] [] [V.one (cL r)] [] := by
 refine Gives.intro Try.func144 rfl rfl rfl rfl ?_
 intro F hF hm
 unfold Flaws_eqCred at H
 obtain ⟨K, hK⟩ : ∃ K, k ≤ K := ⟨k, Nat.le_refl k⟩
 refine WpC.seq (WpC.regionL ?_)
 refine L.box 16 hF rfl rfl rfl rfl ?_
 refine L.box 17 hF rfl rfl rfl rfl ?_
 refine L.assign hF rfl rfl rfl (L.nil ?_)
 refine WpC.seq (WpC.seq (WpC.regionL ?_))
 refine L.fieldAddr Try.underlying177 rfl info3 rfl hF rfl rfl rfl rfl rfl ?_
 refine L.loadPtr shape3 hF rfl rfl rfl rfl rfl rfl ?_
 refine L.fieldAddr Try.underlying177 rfl info3 rfl hF rfl rfl rfl rfl rfl ?_
 refine L.loadPtr shape3 hF rfl rfl rfl rfl rfl rfl ?_
 refine L.bin hF rfl rfl rfl rfl rfl rfl (L.nil ?_)
 refine WpC.cond rfl (fun hc => ?_) (fun hc => ?_)
 ·replace H := condT hc H
  refine WpC.seq (WpC.regionL ?_)
  refine L.assign hF rfl rfl rfl (L.nil ?_)
  refine WpC.ret ?_
  cases H
  exact Leaves.ret rfl rfl rfl ⟨rfl, rfl⟩
 ·replace H := condF hc H
  refine WpC.skip (WpC.seq (WpC.seq (WpC.regionL ?_)))
  refine L.fieldAddr Try.underlying177 rfl info3 rfl hF rfl rfl rfl rfl rfl ?_
  refine L.loadPtr shape3 hF rfl rfl rfl rfl rfl rfl ?_
  refine L.fieldAddr Try.underlying177 rfl info3 rfl hF rfl rfl rfl rfl rfl ?_
  refine L.loadPtr shape3 hF rfl rfl rfl rfl rfl rfl ?_
  refine L.bin hF rfl rfl rfl rfl rfl rfl (L.nil ?_)
  refine WpC.cond rfl (fun hc => ?_) (fun hc => ?_)
  ·replace H := condT hc H
   refine WpC.seq (WpC.regionL ?_)
   refine L.assign hF rfl rfl rfl (L.nil ?_)
   refine WpC.ret ?_
   cases H
   exact Leaves.ret rfl rfl rfl ⟨rfl, rfl⟩
  ·replace H := condF hc H
   refine WpC.skip (WpC.seq (WpC.seq (WpC.regionL ?_)))
   refine L.fieldAddr Try.underlying177 rfl info3 rfl hF rfl rfl rfl rfl rfl ?_
   refine L.loadPtr shape3 hF rfl rfl rfl rfl rfl rfl ?_
   refine L.fieldAddr Try.underlying177 rfl info3 rfl hF rfl rfl rfl rfl rfl ?_
   refine L.loadPtr shape3 hF rfl rfl rfl rfl rfl rfl ?_
   refine L.bin hF rfl rfl rfl rfl rfl rfl (L.nil ?_)
   refine WpC.cond rfl (fun hc => ?_) (fun hc => ?_)
   ·replace H := condT hc H
    refine WpC.seq (WpC.regionL ?_)
    refine L.assign hF rfl rfl rfl (L.nil ?_)
    refine WpC.ret ?_
    cases H
    exact Leaves.ret rfl rfl rfl ⟨rfl, rfl⟩
   ·replace H := condF hc H
    refine WpC.skip (WpC.seq (WpC.seq (WpC.regionL ?_)))
    refine L.fieldAddr Try.underlying177 rfl info3 rfl hF rfl rfl rfl rfl rfl ?_
    refine L.loadPtr shape3 hF rfl rfl rfl rfl rfl rfl ?_
    refine L.fieldAddr Try.underlying177 rfl info3 rfl hF rfl rfl rfl rfl rfl ?_
    refine L.loadPtr shape3 hF rfl rfl rfl rfl rfl rfl ?_
    refine L.bin hF rfl rfl rfl rfl rfl rfl (L.nil ?_)
    refine WpC.cond rfl (fun hc => ?_) (fun hc => ?_)
    ·replace H := condT hc H
     refine WpC.seq (WpC.regionL ?_)
     refine L.assign hF rfl rfl rfl (L.nil ?_)
     refine WpC.ret ?_
     cases H
     exact Leaves.ret rfl rfl rfl ⟨rfl, rfl⟩
    ·replace H := condF hc H
     refine WpC.skip (WpC.seq (WpC.seq (WpC.regionL ?_)))
     refine L.fieldAddr Try.underlying177 rfl info175 rfl hF rfl rfl rfl rfl rfl ?_
     refine L.loadPtr shape175 hF rfl rfl rfl rfl rfl rfl ?_
     refine L.fieldAddr Try.underlying177 rfl info175 rfl hF rfl rfl rfl rfl rfl ?_
     refine L.loadPtr shape175 hF rfl rfl rfl rfl rfl rfl ?_
     obtain ⟨r2, hr2, H⟩ := bindS H
     refine L.call [false, false] [] [] 18 hF rfl rfl rfl ent161 rfl rfl rfl rfl rfl (Flaws_eqRest_gives k  (⟨a0.Rest.Servers, a0.Rest.Ops, a0.Rest.End⟩ : Timpl_Rest) (⟨a1.Rest.Servers, a1.Rest.Ops, a1.Rest.End⟩ : Timpl_Rest) r2 hr2) rfl ?_
     refine L.not hF rfl rfl rfl (L.nil ?_)
     refine WpC.cond rfl (fun hc => ?_) (fun hc => ?_)
     ·replace H := condT hc H
      refine WpC.seq (WpC.regionL ?_)
      refine L.assign hF rfl rfl rfl (L.nil ?_)
      refine WpC.ret ?_
      cases H
      exact Leaves.ret rfl rfl rfl ⟨rfl, rfl⟩
     ·replace H := condF hc H
      refine WpC.skip (WpC.seq (WpC.seq (WpC.regionL ?_)))
      refine L.fieldAddr Try.underlying177 rfl info9 rfl hF rfl rfl rfl rfl rfl ?_
      refine L.loadPtr shape9 hF rfl rfl rfl rfl rfl rfl ?_
      refine L.fieldAddr Try.underlying177 rfl info9 rfl hF rfl rfl rfl rfl rfl ?_
      refine L.loadPtr shape9 hF rfl rfl rfl rfl rfl rfl ?_
      refine L.binS hF rfl rfl rfl rfl rfl (L.nil ?_)
      refine WpC.cond rfl (fun hc => ?_) (fun hc => ?_)
      ·replace H := condT hc H
       refine WpC.seq (WpC.regionL ?_)
       refine L.assign hF rfl rfl rfl (L.nil ?_)
       refine WpC.ret ?_
       cases H
       exact Leaves.ret rfl rfl rfl ⟨rfl, rfl⟩
      ·replace H := condF hc H
       refine WpC.skip (WpC.seq (WpC.regionL ?_))
       refine L.assign hF rfl rfl rfl (L.nil ?_)
       refine WpC.ret ?_
       cases H
       exact Leaves.ret rfl rfl rfl ⟨rfl, rfl⟩
/-! ### Flaws_eqCredS -/
def Flaws_eqCredS.l2 : Nat → (List Timpl_Cred) → (List Timpl_Cred) → Int → Option Bool
 | 0, _, _, _ => none
 | k2 + 1, v44, v45, v46 => cond (decide (v46 < (v44.length : Int))) ((at? v44 v46).bind fun b50 => (at? v45 v46).bind fun b51 => (Flaws_eqCred k2 b50 b51).bind fun r52 => cond (!r52) (some false) ((Flaws_eqCredS.l2 k2) v44 v45 (IntKind.i64.wrap (v46 + (1 : Int))))) (some true)
def Flaws_eqCredS (k : Nat) (a0 : List Timpl_Cred) (a1 : List Timpl_Cred) : Option Bool := cond ((a0.length : Int) != (a1.length : Int)) (some false) (Flaws_eqCredS.l2 k a0 a1 (0 : Int))
theorem ent99 : MG.Enters Try.prog 99 := ⟨Try.f99, Try.func99, rfl, by decide⟩
set_option maxHeartbeats 8000000 in
set_option maxRecDepth 100000 in
theorem Flaws_eqCredS_gives (k : Nat) (g0 : Bool) (g1 : Bool) (a0 : List Timpl_Cred) (a1 : List Timpl_Cred) (r : Bool) (H : Flaws_eqCredS k a0 a1 = some r) : Gives Try.prog 99 [V.one (Cell.sl g0 (List.map eTimpl_Cred a0)), V.one (Cell.sl g1 (List.map eTimpl_Cred a1))] [] [V.one (cL r)] [] := by
 refine Gives.intro Try.func99 rfl rfl rfl rfl ?_
 intro F hF hm
 unfold Flaws_eqCredS at H
 obtain ⟨K, hK⟩ : ∃ K, k ≤ K := ⟨k, Nat.le_refl k⟩
 refine WpC.seq (WpC.regionL ?_)
 refine L.assign hF rfl rfl rfl (L.nil ?_)
 refine WpC.seq (WpC.seq (WpC.regionL ?_))
 refine L.move hF rfl rfl rfl ?_
 refine L.lenR (xs := a0) (e := eTimpl_Cred) Try.underlying67 hF rfl rfl rfl rfl ?_
 refine L.move hF rfl rfl rfl ?_
 refine L.lenR (xs := a1) (e := eTimpl_Cred) Try.underlying67 hF rfl rfl rfl rfl ?_
 refine L.bin hF rfl rfl rfl rfl rfl rfl (L.nil ?_)
 refine WpC.cond rfl (fun hc => ?_) (fun hc => ?_)
 ·replace H := condT hc H
  refine WpC.seq (WpC.regionL ?_)
  refine L.assign hF rfl rfl rfl (L.nil ?_)
  refine WpC.ret ?_
  cases H
  exact Leaves.ret rfl rfl rfl ⟨rfl, rfl⟩
 ·replace H := condF hc H
  refine WpC.skip (WpC.seq (WpC.seq (WpC.regionL ?_)))
  refine L.assign hF rfl rfl rfl (L.nil ?_)
  refine WpC.block ?_
  refine WpC.loopL (P := Try.prog) (fun n σ => ∃ v44 : List Timpl_Cred, ∃ v45 : List Timpl_Cred, ∃ v46 : Int, n ≤ K ∧ Flaws_eqCredS.l2 n v44 v45 v46 = some r ∧ σ = mkSt [(0, one (Cell.sl g0 (List.map eTimpl_Cred v44))), (1, one (Cell.sl g1 (List.map eTimpl_Cred v45))), (5, one (cI v46))] [] [] 0) k ⟨_, ⟨a0, a1, (0 : Int), by omega, H, rfl⟩, Le.mk [] hm rfl (Sa2 (Sa1 trivial)) trivial trivial⟩ ?_
  clear H
  rintro k2 _ ⟨v44, v45, v46, hk2, H, rfl⟩
  cases k2 with
  | zero => cases H
  | succ k2 =>
   rw [Flaws_eqCredS.l2] at H
   refine WpC.seq (WpC.seq (WpC.regionL ?_))
   refine L.move hF rfl rfl rfl ?_
   refine L.move hF rfl rfl rfl ?_
   refine L.lenR (xs := v44) (e := eTimpl_Cred) Try.underlying67 hF rfl rfl rfl rfl ?_
   refine L.bin hF rfl rfl rfl rfl rfl rfl (L.nil ?_)
   refine WpC.cond rfl (fun hc => ?_) (fun hc => ?_)
   ·replace H := condT hc H
    refine WpC.skip (WpC.seq (WpC.block (WpC.seq ?_)))
    obtain ⟨b50, hb50, H⟩ := bindS H
    obtain ⟨b51, hb51, H⟩ := bindS H
    obtain ⟨r52, hr52, H⟩ := bindS H
    refine A.begin mixed rfl rfl ?_
    intro W hI hO
    have n255 : W 2 #[true, true, true, true, true, true, true, true, false, false] (mkSt [(0, one (Cell.sl g0 (List.map eTimpl_Cred v44))), (1, one (Cell.sl g1 (List.map eTimpl_Cred v45))), (5, one (cI v46)), (20, agg (bTimpl_Cred b50)), (24, agg (bTimpl_Cred b51))] [] [] 0) := by
     refine hI _ _ _ ?_
     refine A.all [8] (by kernel_rfl) rfl ⟨⟨_, rfl, ?_⟩, trivial⟩
     refine L.call [false, false] [] [] 0 hF rfl rfl rfl ent144 rfl rfl rfl rfl rfl (Flaws_eqCred_gives k2  b50 b51 r52 hr52) rfl (L.nil ?_)
     refine Atk 9 rfl (Ca.un rfl rfl) (fun Q0 k0 => L.not hF rfl rfl rfl (L.nil k0)) ?_
     refine A.le (τ := mkSt [(0, one (Cell.sl g0 (List.map eTimpl_Cred v44))), (1, one (Cell.sl g1 (List.map eTimpl_Cred v45))), (5, one (cI v46)), (26, one (cL (!r52)))] [] [] 0) (Le.mk [] hm rfl (Sa4 trivial) trivial trivial) ?_
     refine A.done (by kernel_rfl) ?_
     refine WpC.cond rfl (fun hc => ?_) (fun hc => ?_)
     ·replace H := condT hc H
      refine WpC.seq (WpC.regionL ?_)
      refine L.assign hF rfl rfl rfl (L.nil ?_)
      refine WpC.ret ?_
      cases H
      exact Leaves.ret rfl rfl rfl ⟨rfl, rfl⟩
     ·replace H := condF hc H
      refine WpC.skip (WpC.regionL ?_)
      refine L.move hF rfl rfl rfl ?_
      refine L.bin hF rfl rfl rfl rfl rfl rfl ?_
      refine L.assign hF rfl rfl rfl (L.nil ?_)
      exact ⟨k2, _, by omega, ⟨v44, v45, (IntKind.i64.wrap (v46 + (1 : Int))), by omega, H, rfl⟩, Le.mk [] hm rfl (Sa2 (Sa1 trivial)) trivial trivial⟩
    refine hI _ _ _ ?_
    refine Atk 0 rfl (Ca.move) (fun Q0 k0 => L.move hF rfl rfl rfl (L.nil k0)) ?_
    refine Atk 1 rfl (Ca.move) (fun Q0 k0 => L.move hF rfl rfl rfl (L.nil k0)) ?_
    refine Atk 2 rfl (Ca.indexAddr) (fun Q0 k0 => L.idxR (xs := v44) (e := eTimpl_Cred) Try.underlying67 info177 hF rfl rfl rfl rfl rfl hb50 rfl rfl (L.nil k0)) ?_
    refine Atk 4 rfl (Ca.move) (fun Q0 k0 => L.move hF rfl rfl rfl (L.nil k0)) ?_
    refine Atk 5 rfl (Ca.move) (fun Q0 k0 => L.move hF rfl rfl rfl (L.nil k0)) ?_
    refine Atk 6 rfl (Ca.indexAddr) (fun Q0 k0 => L.idxR (xs := v45) (e := eTimpl_Cred) Try.underlying67 info177 hF rfl rfl rfl rfl rfl hb51 rfl rfl (L.nil k0)) ?_
    refine A.all [3, 7] (by kernel_rfl) rfl ⟨⟨_, rfl, ?_⟩, ⟨_, rfl, ?_⟩, trivial⟩
    ·refine L.loadPe shape177 hF rfl rfl rfl rfl rfl (L.nil ?_)
     refine A.all [7] (by kernel_rfl) rfl ⟨⟨_, rfl, ?_⟩, trivial⟩
     refine L.loadPe shape177 hF rfl rfl rfl rfl rfl (L.nil ?_)
     exact A.on (hO _ _ _ n255) (Le.mk [] hm rfl (Sa4 (Sa1 trivial)) trivial trivial)
    ·refine L.loadPe shape177 hF rfl rfl rfl rfl rfl (L.nil ?_)
     refine A.all [3] (by kernel_rfl) rfl ⟨⟨_, rfl, ?_⟩, trivial⟩
     refine L.loadPe shape177 hF rfl rfl rfl rfl rfl (L.nil ?_)
     exact A.on (hO _ _ _ n255) (Le.mk [] hm rfl (Sa4 (Sa1 trivial)) trivial trivial)
   ·replace H := condF hc H
    refine WpC.exit (WpC.seq (WpC.regionL ?_))
    refine L.assign hF rfl rfl rfl (L.nil ?_)
    refine WpC.ret ?_
    cases H
    exact Leaves.ret rfl rfl rfl ⟨rfl, rfl⟩
/-! ### Flaws_eqAuth -/
def Flaws_eqAuth (k : Nat) (a0 : Timpl_Auth) (a1 : Timpl_Auth) : Option Bool := cond (a0.Client != a1.Client) (some false) (cond (a0.Time != a1.Time) (some false) (cond (a0.Seq != a1.Seq) (some false) (some true)))
theorem ent163 : MG.Enters Try.prog 163 := ⟨Try.f163, Try.func163, rfl, by decide⟩
set_option maxHeartbeats 8000000 in
set_option maxRecDepth 100000 in
theorem Flaws_eqAuth_gives (k : Nat) (a0 : Timpl_Auth) (a1 : Timpl_Auth) (r : Bool) (H : Flaws_eqAuth k a0 a1 = some r) : Gives Try.prog 163 [V.agg [cI a0.Client, cI a0.Time, cI a0.Seq], V.agg [cI a1.Client, cI a1.Time, cI a1.Seq]] [] [V.one (cL r)] [] := by
 refine Gives.intro Try.func163 rfl rfl rfl rfl ?_
 intro F hF hm
 unfold Flaws_eqAuth at H
 obtain ⟨K, hK⟩ : ∃ K, k ≤ K := ⟨k, Nat.le_refl k⟩
 refine WpC.seq (WpC.regionL ?_)
 refine L.box 6 hF rfl rfl rfl rfl ?_
 refine L.box 7 hF rfl rfl rfl rfl ?_
 refine L.assign hF rfl rfl rfl (L.nil ?_)
 refine WpC.seq (WpC.seq (WpC.regionL ?_))
 refine L.fieldAddr Try.underlying184 rfl info3 rfl hF rfl rfl rfl rfl rfl ?_
 refine L.loadPtr shape3 hF rfl rfl rfl rfl rfl rfl ?_
 refine L.fieldAddr Try.underlying184 rfl info3 rfl hF rfl rfl rfl rfl rfl ?_
 refine L.loadPtr shape3 hF rfl rfl rfl rfl rfl rfl ?_
 refine L.bin hF rfl rfl rfl rfl rfl rfl (L.nil ?_)
 refine WpC.cond rfl (fun hc => ?_) (fun hc => ?_)
 ·replace H := condT hc H
  refine WpC.seq (WpC.regionL ?_)
  refine L.assign hF rfl rfl rfl (L.nil ?_)
  refine WpC.ret ?_
  cases H
  exact Leaves.ret rfl rfl rfl ⟨rfl, rfl⟩
 ·replace H := condF hc H
  refine WpC.skip (WpC.seq (WpC.seq (WpC.regionL ?_)))
  refine L.fieldAddr Try.underlying184 rfl info3 rfl hF rfl rfl rfl rfl rfl ?_
  refine L.loadPtr shape3 hF rfl rfl rfl rfl rfl rfl ?_
  refine L.fieldAddr Try.underlying184 rfl info3 rfl hF rfl rfl rfl rfl rfl ?_
  refine L.loadPtr shape3 hF rfl rfl rfl rfl rfl rfl ?_
  refine L.bin hF rfl rfl rfl rfl rfl rfl (L.nil ?_)
  refine WpC.cond rfl (fun hc => ?_) (fun hc => ?_)
  ·replace H := condT hc H
   refine WpC.seq (WpC.regionL ?_)
   refine L.assign hF rfl rfl rfl (L.nil ?_)
   refine WpC.ret ?_
   cases H
   exact Leaves.ret rfl rfl rfl ⟨rfl, rfl⟩
  ·replace H := condF hc H
   refine WpC.skip (WpC.seq (WpC.seq (WpC.regionL ?_)))
   refine L.fieldAddr Try.underlying184 rfl info3 rfl hF rfl rfl rfl rfl rfl ?_
   refine L.loadPtr shape3 hF rfl rfl rfl rfl rfl rfl ?_
   refine L.fieldAddr Try.underlying184 rfl info3 rfl hF rfl rfl rfl rfl rfl ?_
   refine L.loadPtr shape3 hF rfl rfl rfl rfl rfl rfl ?_
   refine L.bin hF rfl rfl rfl rfl rfl rfl (L.nil ?_)
   refine WpC.cond rfl (fun hc => ?_) (fun hc => ?_)
   ·replace H := condT hc H
    refine WpC.seq (WpC.regionL ?_)
    refine L.assign hF rfl rfl rfl (L.nil ?_)
    refine WpC.ret ?_
    cases H
    exact Leaves.ret rfl rfl rfl ⟨rfl, rfl⟩
   ·replace H := condF hc H
    refine WpC.skip (WpC.seq (WpC.regionL ?_))
    refine L.assign hF rfl rfl rfl (L.nil ?_)
    refine WpC.ret ?_
    cases H
    exact Leaves.ret rfl rfl rfl ⟨rfl, rfl⟩
/-! ### Flaws_eqAuthS -/
def Flaws_eqAuthS.l2 : Nat → (List Timpl_Auth) → (List Timpl_Auth) → Int → Option Bool
 | 0, _, _, _ => none
 | k2 + 1, v44, v45, v46 => cond (decide (v46 < (v44.length : Int))) ((at? v44 v46).bind fun b50 => (at? v45 v46).bind fun b51 => (Flaws_eqAuth k2 b50 b51).bind fun r52 => cond (!r52) (some false) ((Flaws_eqAuthS.l2 k2) v44 v45 (IntKind.i64.wrap (v46 + (1 : Int))))) (some true)
def Flaws_eqAuthS (k : Nat) (a0 : List Timpl_Auth) (a1 : List Timpl_Auth) : Option Bool := cond ((a0.length : Int) != (a1.length : Int)) (some false) (Flaws_eqAuthS.l2 k a0 a1 (0 : Int))
theorem ent162 : MG.Enters Try.prog 162 := ⟨Try.f162, Try.func162, rfl, by decide⟩
set_option maxHeartbeats 8000000 in
set_option maxRecDepth 100000 in
theorem Flaws_eqAuthS_gives (k : Nat) (g0 : Bool) (g1 : Bool) (a0 : List Timpl_Auth) (a1 : List Timpl_Auth) (r : Bool) (H : Flaws_eqAuthS k a0 a1 = some r) : Gives Try.prog 162 [V.one (Cell.sl g0 (List.map eTimpl_Auth a0)), V.one (Cell.sl g1 (List.map eTimpl_Auth a1))] [] [V.one (cL r)] [] := by
 refine Gives.intro Try.func162 rfl rfl rfl rfl ?_
 intro F hF hm
 unfold Flaws_eqAuthS at H
 obtain ⟨K, hK⟩ : ∃ K, k ≤ K := ⟨k, Nat.le_refl k⟩
 refine WpC.seq (WpC.regionL ?_)
 refine L.assign hF rfl rfl rfl (L.nil ?_)
 refine WpC.seq (WpC.seq (WpC.regionL ?_))
 refine L.move hF rfl rfl rfl ?_
 refine L.lenR (xs := a0) (e := eTimpl_Auth) Try.underlying128 hF rfl rfl rfl rfl ?_
 refine L.move hF rfl rfl rfl ?_
 refine L.lenR (xs := a1) (e := eTimpl_Auth) Try.underlying128 hF rfl rfl rfl rfl ?_
 refine L.bin hF rfl rfl rfl rfl rfl rfl (L.nil ?_)
 refine WpC.cond rfl (fun hc => ?_) (fun hc => ?_)
 ·replace H := condT hc H
  refine WpC.seq (WpC.regionL ?_)
  refine L.assign hF rfl rfl rfl (L.nil ?_)
  refine WpC.ret ?_
  cases H
  exact Leaves.ret rfl rfl rfl ⟨rfl, rfl⟩
 ·replace H := condF hc H
  refine WpC.skip (WpC.seq (WpC.seq (WpC.regionL ?_)))
  refine L.assign hF rfl rfl rfl (L.nil ?_)
  refine WpC.block ?_
  refine WpC.loopL (P := Try.prog) (fun n σ => ∃ v44 : List Timpl_Auth, ∃ v45 : List Timpl_Auth, ∃ v46 : Int, n ≤ K ∧ Flaws_eqAuthS.l2 n v44 v45 v46 = some r ∧ σ = mkSt [(0, one (Cell.sl g0 (List.map eTimpl_Auth v44))), (1, one (Cell.sl g1 (List.map eTimpl_Auth v45))), (5, one (cI v46))] [] [] 0) k ⟨_, ⟨a0, a1, (0 : Int), by omega, H, rfl⟩, Le.mk [] hm rfl (Sa2 (Sa1 trivial)) trivial trivial⟩ ?_
  clear H
  rintro k2 _ ⟨v44, v45, v46, hk2, H, rfl⟩
  cases k2 with
  | zero => cases H
  | succ k2 =>
   rw [Flaws_eqAuthS.l2] at H
   refine WpC.seq (WpC.seq (WpC.regionL ?_))
   refine L.move hF rfl rfl rfl ?_
   refine L.move hF rfl rfl rfl ?_
   refine L.lenR (xs := v44) (e := eTimpl_Auth) Try.underlying128 hF rfl rfl rfl rfl ?_
   refine L.bin hF rfl rfl rfl rfl rfl rfl (L.nil ?_)
   refine WpC.cond rfl (fun hc => ?_) (fun hc => ?_)
   ·replace H := condT hc H
    refine WpC.skip (WpC.seq (WpC.block (WpC.seq ?_)))
    obtain ⟨b50, hb50, H⟩ := bindS H
    obtain ⟨b51, hb51, H⟩ := bindS H
    obtain ⟨r52, hr52, H⟩ := bindS H
    refine A.begin mixed rfl rfl ?_
    intro W hI hO
    have n255 : W 2 #[true, true, true, true, true, true, true, true, false, false] (mkSt [(0, one (Cell.sl g0 (List.map eTimpl_Auth v44))), (1, one (Cell.sl g1 (List.map eTimpl_Auth v45))), (5, one (cI v46)), (20, agg (bTimpl_Auth b50)), (24, agg (bTimpl_Auth b51))] [] [] 0) := by
     refine hI _ _ _ ?_
     refine A.all [8] (by kernel_rfl) rfl ⟨⟨_, rfl, ?_⟩, trivial⟩
     refine L.call [false, false] [] [] 0 hF rfl rfl rfl ent163 rfl rfl rfl rfl rfl (Flaws_eqAuth_gives k2  b50 b51 r52 hr52) rfl (L.nil ?_)
     refine Atk 9 rfl (Ca.un rfl rfl) (fun Q0 k0 => L.not hF rfl rfl rfl (L.nil k0)) ?_
     refine A.le (τ := mkSt [(0, one (Cell.sl g0 (List.map eTimpl_Auth v44))), (1, one (Cell.sl g1 (List.map eTimpl_Auth v45))), (5, one (cI v46)), (26, one (cL (!r52)))] [] [] 0) (Le.mk [] hm rfl (Sa4 trivial) trivial trivial) ?_
     refine A.done (by kernel_rfl) ?_
     refine WpC.cond rfl (fun hc => ?_) (fun hc => ?_)
     ·replace H := condT hc H
      refine WpC.seq (WpC.regionL ?_)
      refine L.assign hF rfl rfl rfl (L.nil ?_)
      refine WpC.ret ?_
      cases H
      exact Leaves.ret rfl rfl rfl ⟨rfl, rfl⟩
     ·replace H := condF hc H
      refine WpC.skip (WpC.regionL ?_)
      refine L.move hF rfl rfl rfl ?_
      refine L.bin hF rfl rfl rfl rfl rfl rfl ?_
      refine L.assign hF rfl rfl rfl (L.nil ?_)
      exact ⟨k2, _, by omega, ⟨v44, v45, (IntKind.i64.wrap (v46 + (1 : Int))), by omega, H, rfl⟩, Le.mk [] hm rfl (Sa2 (Sa1 trivial)) trivial trivial⟩
    refine hI _ _ _ ?_
    refine Atk 0 rfl (Ca.move) (fun Q0 k0 => L.move hF rfl rfl rfl (L.nil k0)) ?_
    refine Atk 1 rfl (Ca.move) (fun Q0 k0 => L.move hF rfl rfl rfl (L.nil k0)) ?_
    refine Atk 2 rfl (Ca.indexAddr) (fun Q0 k0 => L.idxR (xs := v44) (e := eTimpl_Auth) Try.underlying128 info184 hF rfl rfl rfl rfl rfl hb50 rfl rfl (L.nil k0)) ?_
    refine Atk 4 rfl (Ca.move) (fun Q0 k0 => L.move hF rfl rfl rfl (L.nil k0)) ?_
    refine Atk 5 rfl (Ca.move) (fun Q0 k0 => L.move hF rfl rfl rfl (L.nil k0)) ?_
    refine Atk 6 rfl (Ca.indexAddr) (fun Q0 k0 => L.idxR (xs := v45) (e := eTimpl_Auth) Try.underlying128 info184 hF rfl rfl rfl rfl rfl hb51 rfl rfl (L.nil k0)) ?_
    refine A.all [3, 7] (by kernel_rfl) rfl ⟨⟨_, rfl, ?_⟩, ⟨_, rfl, ?_⟩, trivial⟩
    ·refine L.loadPe shape184 hF rfl rfl rfl rfl rfl (L.nil ?_)
     refine A.all [7] (by kernel_rfl) rfl ⟨⟨_, rfl, ?_⟩, trivial⟩
     refine L.loadPe shape184 hF rfl rfl rfl rfl rfl (L.nil ?_)
     exact A.on (hO _ _ _ n255) (Le.mk [] hm rfl (Sa4 (Sa1 trivial)) trivial trivial)
    ·refine L.loadPe shape184 hF rfl rfl rfl rfl rfl (L.nil ?_)
     refine A.all [3] (by kernel_rfl) rfl ⟨⟨_, rfl, ?_⟩, trivial⟩
     refine L.loadPe shape184 hF rfl rfl rfl rfl rfl (L.nil ?_)
     exact A.on (hO _ _ _ n255) (Le.mk [] hm rfl (Sa4 (Sa1 trivial)) trivial trivial)
   ·replace H := condF hc H
    refine WpC.exit (WpC.seq (WpC.regionL ?_))
    refine L.assign hF rfl rfl rfl (L.nil ?_)
    refine WpC.ret ?_
    cases H
    exact Leaves.ret rfl rfl rfl ⟨rfl, rfl⟩
/-! ### Flaws_eqCache -/
def Flaws_eqCache (k : Nat) (a0 : Timpl_Cache) (a1 : Timpl_Cache) : Option Bool := cond (a0.Quiet != a1.Quiet) (some false) ((Flaws_eqAuthS k a0.Seen a1.Seen).bind fun r2 => cond (!r2) (some false) (some true))
theorem ent145 : MG.Enters Try.prog 145 := ⟨Try.f145, Try.func145, rfl, by decide⟩
set_option maxHeartbeats 8000000 in
set_option maxRecDepth 100000 in
theorem Flaws_eqCache_gives (k : Nat) (g0 : Bool) (g1 : Bool) (a0 : Timpl_Cache) (a1 : Timpl_Cache) (r : Bool) (H : Flaws_eqCache k a0 a1 = some r) : Gives Try.prog 145 [V.agg [cI a0.Quiet, Cell.sl g0 (List.map eTimpl_Auth a0.Seen)], V.agg [cI a1.Quiet, Cell.sl g1 (List.map eTimpl_Auth a1.Seen)]] [] [V.one (cL r)] [] := by
 refine Gives.intro Try.func145 rfl rfl rfl rfl ?_
 intro F hF hm
 unfold Flaws_eqCache at H
 obtain ⟨K, hK⟩ : ∃ K, k ≤ K := ⟨k, Nat.le_refl k⟩
 refine WpC.seq (WpC.regionL ?_)
 refine L.box 4 hF rfl rfl rfl rfl ?_
 refine L.box 5 hF rfl rfl rfl rfl ?_
 refine L.assign hF rfl rfl rfl (L.nil ?_)
 refine WpC.seq (WpC.seq (WpC.regionL ?_))
 refine L.fieldAddr Try.underlying130 rfl info3 rfl hF rfl rfl rfl rfl rfl ?_
 refine L.loadPtr shape3 hF rfl rfl rfl rfl rfl rfl ?_
 refine L.fieldAddr Try.underlying130 rfl info3 rfl hF rfl rfl rfl rfl rfl ?_
 refine L.loadPtr shape3 hF rfl rfl rfl rfl rfl rfl ?_
 refine L.bin hF rfl rfl rfl rfl rfl rfl (L.nil ?_)
 refine WpC.cond rfl (fun hc => ?_) (fun hc => ?_)
 ·replace H := condT hc H
  refine WpC.seq (WpC.regionL ?_)
  refine L.assign hF rfl rfl rfl (L.nil ?_)
  refine WpC.ret ?_
  cases H
  exact Leaves.ret rfl rfl rfl ⟨rfl, rfl⟩
 ·replace H := condF hc H
  refine WpC.skip (WpC.seq (WpC.seq (WpC.regionL ?_)))
  refine L.fieldAddr Try.underlying130 rfl info128 rfl hF rfl rfl rfl rfl rfl ?_
  refine L.loadPtr shape128 hF rfl rfl rfl rfl rfl rfl ?_
  refine L.fieldAddr Try.underlying130 rfl info128 rfl hF rfl rfl rfl rfl rfl ?_
  refine L.loadPtr shape128 hF rfl rfl rfl rfl rfl rfl ?_
  obtain ⟨r2, hr2, H⟩ := bindS H
  refine L.call [false, false] [] [] 6 hF rfl rfl rfl ent162 rfl rfl rfl rfl rfl (Flaws_eqAuthS_gives k g0 g1 a0.Seen a1.Seen r2 hr2) rfl ?_
  refine L.not hF rfl rfl rfl (L.nil ?_)
  refine WpC.cond rfl (fun hc => ?_) (fun hc => ?_)
  ·replace H := condT hc H
   refine WpC.seq (WpC.regionL ?_)
   refine L.assign hF rfl rfl rfl (L.nil ?_)
   refine WpC.ret ?_
   cases H
   exact Leaves.ret rfl rfl rfl ⟨rfl, rfl⟩
  ·replace H := condF hc H
   refine WpC.skip (WpC.seq (WpC.regionL ?_))
   refine L.assign hF rfl rfl rfl (L.nil ?_)
   refine WpC.ret ?_
   cases H
   exact Leaves.ret rfl rfl rfl ⟨rfl, rfl⟩
/-! ### Flaws_eqCacheS -/
def Flaws_eqCacheS.l2 : Nat → (List Timpl_Cache) → (List Timpl_Cache) → Int → Option Bool
 | 0, _, _, _ => none
 | k2 + 1, v44, v45, v46 => cond (decide (v46 < (v44.length : Int))) ((at? v44 v46).bind fun b50 => (at? v45 v46).bind fun b51 => (Flaws_eqCache k2 b50 b51).bind fun r52 => cond (!r52) (some false) ((Flaws_eqCacheS.l2 k2) v44 v45 (IntKind.i64.wrap (v46 + (1 : Int))))) (some true)
def Flaws_eqCacheS (k : Nat) (a0 : List Timpl_Cache) (a1 : List Timpl_Cache) : Option Bool := cond ((a0.length : Int) != (a1.length : Int)) (some false) (Flaws_eqCacheS.l2 k a0 a1 (0 : Int))
theorem ent100 : MG.Enters Try.prog 100 := ⟨Try.f100, Try.func100, rfl, by decide⟩
set_option maxHeartbeats 8000000 in
set_option maxRecDepth 100000 in
theorem Flaws_eqCacheS_gives (k : Nat) (g0 : Bool) (g1 : Bool) (a0 : List Timpl_Cache) (a1 : List Timpl_Cache) (r : Bool) (H : Flaws_eqCacheS k a0 a1 = some r) : Gives Try.prog 100 [V.one (Cell.sl g0 (List.map eTimpl_Cache a0)), V.one (Cell.sl g1 (List.map eTimpl_Cache a1))] [] [V.one (cL r)] [] := by
 refine Gives.intro Try.func100 rfl rfl rfl rfl ?_
 intro F hF hm
 unfold Flaws_eqCacheS at H
 obtain ⟨K, hK⟩ : ∃ K, k ≤ K := ⟨k, Nat.le_refl k⟩
 refine WpC.seq (WpC.regionL ?_)
 refine L.assign hF rfl rfl rfl (L.nil ?_)
 refine WpC.seq (WpC.seq (WpC.regionL ?_))
 refine L.move hF rfl rfl rfl ?_
 refine L.lenR (xs := a0) (e := eTimpl_Cache) Try.underlying68 hF rfl rfl rfl rfl ?_
 refine L.move hF rfl rfl rfl ?_
 refine L.lenR (xs := a1) (e := eTimpl_Cache) Try.underlying68 hF rfl rfl rfl rfl ?_
 refine L.bin hF rfl rfl rfl rfl rfl rfl (L.nil ?_)
 refine WpC.cond rfl (fun hc => ?_) (fun hc => ?_)
 ·replace H := condT hc H
  refine WpC.seq (WpC.regionL ?_)
  refine L.assign hF rfl rfl rfl (L.nil ?_)
  refine WpC.ret ?_
  cases H
  exact Leaves.ret rfl rfl rfl ⟨rfl, rfl⟩
 ·replace H := condF hc H
  refine WpC.skip (WpC.seq (WpC.seq (WpC.regionL ?_)))
  refine L.assign hF rfl rfl rfl (L.nil ?_)
  refine WpC.block ?_
  refine WpC.loopL (P := Try.prog) (fun n σ => ∃ v44 : List Timpl_Cache, ∃ v45 : List Timpl_Cache, ∃ v46 : Int, n ≤ K ∧ Flaws_eqCacheS.l2 n v44 v45 v46 = some r ∧ σ = mkSt [(0, one (Cell.sl g0 (List.map eTimpl_Cache v44))), (1, one (Cell.sl g1 (List.map eTimpl_Cache v45))), (5, one (cI v46))] [] [] 0) k ⟨_, ⟨a0, a1, (0 : Int), by omega, H, rfl⟩, Le.mk [] hm rfl (Sa2 (Sa1 trivial)) trivial trivial⟩ ?_
  clear H
  rintro k2 _ ⟨v44, v45, v46, hk2, H, rfl⟩
  cases k2 with
  | zero => cases H
  | succ k2 =>
   rw [Flaws_eqCacheS.l2] at H
   refine WpC.seq (WpC.seq (WpC.regionL ?_))
   refine L.move hF rfl rfl rfl ?_
   refine L.move hF rfl rfl rfl ?_
   refine L.lenR (xs := v44) (e := eTimpl_Cache) Try.underlying68 hF rfl rfl rfl rfl ?_
   refine L.bin hF rfl rfl rfl rfl rfl rfl (L.nil ?_)
   refine WpC.cond rfl (fun hc => ?_) (fun hc => ?_)
   ·replace H := condT hc H
    refine WpC.skip (WpC.seq (WpC.block (WpC.seq ?_)))
    obtain ⟨b50, hb50, H⟩ := bindS H
    obtain ⟨b51, hb51, H⟩ := bindS H
    obtain ⟨r52, hr52, H⟩ := bindS H
    refine A.begin mixed rfl rfl ?_
    intro W hI hO
    have n255 : W 2 #[true, true, true, true, true, true, true, true, false, false] (mkSt [(0, one (Cell.sl g0 (List.map eTimpl_Cache v44))), (1, one (Cell.sl g1 (List.map eTimpl_Cache v45))), (5, one (cI v46)), (20, agg [cI b50.Quiet, Cell.sl g0 (List.map eTimpl_Auth b50.Seen)]), (24, agg [cI b51.Quiet, Cell.sl g1 (List.map eTimpl_Auth b51.Seen)])] [] [] 0) := by
     refine hI _ _ _ ?_
     refine A.all [8] (by kernel_rfl) rfl ⟨⟨_, rfl, ?_⟩, trivial⟩
     refine L.call [false, false] [] [] 0 hF rfl rfl rfl ent145 rfl rfl rfl rfl rfl (Flaws_eqCache_gives k2 g0 g1 b50 b51 r52 hr52) rfl (L.nil ?_)
     refine Atk 9 rfl (Ca.un rfl rfl) (fun Q0 k0 => L.not hF rfl rfl rfl (L.nil k0)) ?_
     refine A.le (τ := mkSt [(0, one (Cell.sl g0 (List.map eTimpl_Cache v44))), (1, one (Cell.sl g1 (List.map eTimpl_Cache v45))), (5, one (cI v46)), (26, one (cL (!r52)))] [] [] 0) (Le.mk [] hm rfl (Sa4 trivial) trivial trivial) ?_
     refine A.done (by kernel_rfl) ?_
     refine WpC.cond rfl (fun hc => ?_) (fun hc => ?_)
     ·replace H := condT hc H
      refine WpC.seq (WpC.regionL ?_)
      refine L.assign hF rfl rfl rfl (L.nil ?_)
      refine WpC.ret ?_
      cases H
      exact Leaves.ret rfl rfl rfl ⟨rfl, rfl⟩
     ·replace H := condF hc H
      refine WpC.skip (WpC.regionL ?_)
      refine L.move hF rfl rfl rfl ?_
      refine L.bin hF rfl rfl rfl rfl rfl rfl ?_
      refine L.assign hF rfl rfl rfl (L.nil ?_)
      exact ⟨k2, _, by omega, ⟨v44, v45, (IntKind.i64.wrap (v46 + (1 : Int))), by omega, H, rfl⟩, Le.mk [] hm rfl (Sa2 (Sa1 trivial)) trivial trivial⟩
    refine hI _ _ _ ?_
    refine Atk 0 rfl (Ca.move) (fun Q0 k0 => L.move hF rfl rfl rfl (L.nil k0)) ?_
    refine Atk 1 rfl (Ca.move) (fun Q0 k0 => L.move hF rfl rfl rfl (L.nil k0)) ?_
    refine Atk 2 rfl (Ca.indexAddr) (fun Q0 k0 => L.idxR (xs := v44) (e := eTimpl_Cache) Try.underlying68 info130 hF rfl rfl rfl rfl rfl hb50 rfl rfl (L.nil k0)) ?_
    refine Atk 4 rfl (Ca.move) (fun Q0 k0 => L.move hF rfl rfl rfl (L.nil k0)) ?_
    refine Atk 5 rfl (Ca.move) (fun Q0 k0 => L.move hF rfl rfl rfl (L.nil k0)) ?_
    refine Atk 6 rfl (Ca.indexAddr) (fun Q0 k0 => L.idxR (xs := v45) (e := eTimpl_Cache) Try.underlying68 info130 hF rfl rfl rfl rfl rfl hb51 rfl rfl (L.nil k0)) ?_
    refine A.all [3, 7] (by kernel_rfl) rfl ⟨⟨_, rfl, ?_⟩, ⟨_, rfl, ?_⟩, trivial⟩
    ·refine L.loadPe shape130 hF rfl rfl rfl rfl rfl (L.nil ?_)
     refine A.all [7] (by kernel_rfl) rfl ⟨⟨_, rfl, ?_⟩, trivial⟩
     refine L.loadPe shape130 hF rfl rfl rfl rfl rfl (L.nil ?_)
     exact A.on (hO _ _ _ n255) (Le.mk [] hm rfl (Sa4 (Sa1 trivial)) trivial trivial)
    ·refine L.loadPe shape130 hF rfl rfl rfl rfl rfl (L.nil ?_)
     refine A.all [3] (by kernel_rfl) rfl ⟨⟨_, rfl, ?_⟩, trivial⟩
     refine L.loadPe shape130 hF rfl rfl rfl rfl rfl (L.nil ?_)
     exact A.on (hO _ _ _ n255) (Le.mk [] hm rfl (Sa4 (Sa1 trivial)) trivial trivial)
   ·replace H := condF hc H
    refine WpC.exit (WpC.seq (WpC.regionL ?_))
    refine L.assign hF rfl rfl rfl (L.nil ?_)
    refine WpC.ret ?_
    cases H
    exact Leaves.ret rfl rfl rfl ⟨rfl, rfl⟩
/-! ### Flaws_eqEvent -/
def Flaws_eqEvent (k : Nat) (a0 : Timpl_Event) (a1 : Timpl_Event) : Option Bool := cond (a0.Kind != a1.Kind) (some false) (cond (a0.Realm != a1.Realm) (some false) (cond (a0.By != a1.By) (some false) (cond (a0.Client != a1.Client) (some false) (cond (a0.Service != a1.Service) (some false) (cond (a0.Key != a1.Key) (some false) (cond (a0.Parent != a1.Parent) (some false) (cond (a0.Evid != a1.Evid) (some false) ((Flaws_eqRest k (⟨a0.Rest.Servers, a0.Rest.Ops, a0.Rest.End⟩ : Timpl_Rest) (⟨a1.Rest.Servers, a1.Rest.Ops, a1.Rest.End⟩ : Timpl_Rest)).bind fun r2 => cond (!r2) (some false) (some true)))))))))
theorem ent146 : MG.Enters Try.prog 146 := ⟨Try.f146, Try.func146, rfl, by decide⟩
set_option maxHeartbeats 8000000 in
set_option maxRecDepth 100000 in
theorem Flaws_eqEvent_gives (k : Nat) (a0 : Timpl_Event) (a1 : Timpl_Event) (r : Bool) (H : Flaws_eqEvent k a0 a1 = some r) : Gives Try.prog 146 [V.agg [cI a0.Kind, cI a0.Realm, cI a0.By, cI a0.Client, cI a0.Service, cI a0.Key, cI a0.Parent, cI a0.Evid, cI a0.Rest.Servers, cI a0.Rest.Ops, cI a0.Rest.End], V.agg [cI a1.Kind, cI a1.Realm, cI a1.By, cI a1.Client, cI a1.Service, cI a1.Key, cI a1.Parent, cI a1.Evid, cI a1.Rest.Servers, cI a1.Rest.Ops, cI a1.Rest.End]] [] [V.one (cL r)] [] := by
 refine Gives.intro Try.func146 rfl rfl rfl rfl ?_
 intro F hF hm
 unfold Flaws_eqEvent at H
 obtain ⟨K, hK⟩ : ∃ K, k ≤ K := ⟨k, Nat.le_refl k⟩
 refine WpC.seq (WpC.regionL ?_)
 refine L.box 22 hF rfl rfl rfl rfl ?_
 refine L.box 23 hF rfl rfl rfl rfl ?_
 refine L.assign hF rfl rfl rfl (L.nil ?_)
 refine WpC.seq (WpC.seq (WpC.regionL ?_))
 refine L.fieldAddr Try.underlying181 rfl info3 rfl hF rfl rfl rfl rfl rfl ?_
 refine L.loadPtr shape3 hF rfl rfl rfl rfl rfl rfl ?_
 refine L.fieldAddr Try.underlying181 rfl info3 rfl hF rfl rfl rfl rfl rfl ?_
 refine L.loadPtr shape3 hF rfl rfl rfl rfl rfl rfl ?_
 refine L.bin hF rfl rfl rfl rfl rfl rfl (L.nil ?_)
 refine WpC.cond rfl (fun hc => ?_) (fun hc => ?_)
 ·replace H := condT hc H
  refine WpC.seq (WpC.regionL ?_)
  refine L.assign hF rfl rfl rfl (L.nil ?_)
  refine WpC.ret ?_
  cases H
  exact Leaves.ret rfl rfl rfl ⟨rfl, rfl⟩
 ·replace H := condF hc H
  refine WpC.skip (WpC.seq (WpC.seq (WpC.regionL ?_)))
  refine L.fieldAddr Try.underlying181 rfl info3 rfl hF rfl rfl rfl rfl rfl ?_
  refine L.loadPtr shape3 hF rfl rfl rfl rfl rfl rfl ?_
  refine L.fieldAddr Try.underlying181 rfl info3 rfl hF rfl rfl rfl rfl rfl ?_
  refine L.loadPtr shape3 hF rfl rfl rfl rfl rfl rfl ?_
  refine L.bin hF rfl rfl rfl rfl rfl rfl (L.nil ?_)
  refine WpC.cond rfl (fun hc => ?_) (fun hc => ?_)
  ·replace H := condT hc H
   refine WpC.seq (WpC.regionL ?_)
   refine L.assign hF rfl rfl rfl (L.nil ?_)
   refine WpC.ret ?_
   cases H
   exact Leaves.ret rfl rfl rfl ⟨rfl, rfl⟩
  ·replace H := condF hc H
   refine WpC.skip (WpC.seq (WpC.seq (WpC.regionL ?_)))
   refine L.fieldAddr Try.underlying181 rfl info3 rfl hF rfl rfl rfl rfl rfl ?_
   refine L.loadPtr shape3 hF rfl rfl rfl rfl rfl rfl ?_
   refine L.fieldAddr Try.underlying181 rfl info3 rfl hF rfl rfl rfl rfl rfl ?_
   refine L.loadPtr shape3 hF rfl rfl rfl rfl rfl rfl ?_
   refine L.bin hF rfl rfl rfl rfl rfl rfl (L.nil ?_)
   refine WpC.cond rfl (fun hc => ?_) (fun hc => ?_)
   ·replace H := condT hc H
    refine WpC.seq (WpC.regionL ?_)
    refine L.assign hF rfl rfl rfl (L.nil ?_)
    refine WpC.ret ?_
    cases H
    exact Leaves.ret rfl rfl rfl ⟨rfl, rfl⟩
   ·replace H := condF hc H
    refine WpC.skip (WpC.seq (WpC.seq (WpC.regionL ?_)))
    refine L.fieldAddr Try.underlying181 rfl info3 rfl hF rfl rfl rfl rfl rfl ?_
    refine L.loadPtr shape3 hF rfl rfl rfl rfl rfl rfl ?_
    refine L.fieldAddr Try.underlying181 rfl info3 rfl hF rfl rfl rfl rfl rfl ?_
    refine L.loadPtr shape3 hF rfl rfl rfl rfl rfl rfl ?_
    refine L.bin hF rfl rfl rfl rfl rfl rfl (L.nil ?_)
    refine WpC.cond rfl (fun hc => ?_) (fun hc => ?_)
    ·replace H := condT hc H
     refine WpC.seq (WpC.regionL ?_)
     refine L.assign hF rfl rfl rfl (L.nil ?_)
     refine WpC.ret ?_
     cases H
     exact Leaves.ret rfl rfl rfl ⟨rfl, rfl⟩
    ·replace H := condF hc H
     refine WpC.skip (WpC.seq (WpC.seq (WpC.regionL ?_)))
     refine L.fieldAddr Try.underlying181 rfl info3 rfl hF rfl rfl rfl rfl rfl ?_
     refine L.loadPtr shape3 hF rfl rfl rfl rfl rfl rfl ?_
     refine L.fieldAddr Try.underlying181 rfl info3 rfl hF rfl rfl rfl rfl rfl ?_
     refine L.loadPtr shape3 hF rfl rfl rfl rfl rfl rfl ?_
     refine L.bin hF rfl rfl rfl rfl rfl rfl (L.nil ?_)
     refine WpC.cond rfl (fun hc => ?_) (fun hc => ?_)
     ·replace H := condT hc H
      refine WpC.seq (WpC.regionL ?_)
      refine L.assign hF rfl rfl rfl (L.nil ?_)
      refine WpC.ret ?_
      cases H
      exact Leaves.ret rfl rfl rfl ⟨rfl, rfl⟩
     ·replace H := condF hc H
      refine WpC.skip (WpC.seq (WpC.seq (WpC.regionL ?_)))
      refine L.fieldAddr Try.underlying181 rfl info3 rfl hF rfl rfl rfl rfl rfl ?_
      refine L.loadPtr shape3 hF rfl rfl rfl rfl rfl rfl ?_
      refine L.fieldAddr Try.underlying181 rfl info3 rfl hF rfl rfl rfl rfl rfl ?_
      refine L.loadPtr shape3 hF rfl rfl rfl rfl rfl rfl ?_
      refine L.bin hF rfl rfl rfl rfl rfl rfl (L.nil ?_)
      refine WpC.cond rfl (fun hc => ?_) (fun hc => ?_)
      ·replace H := condT hc H
       refine WpC.seq (WpC.regionL ?_)
       refine L.assign hF rfl rfl rfl (L.nil ?_)
       refine WpC.ret ?_
       cases H
       exact Leaves.ret rfl rfl rfl ⟨rfl, rfl⟩
      ·replace H := condF hc H
       refine WpC.skip (WpC.seq (WpC.seq (WpC.regionL ?_)))
       refine L.fieldAddr Try.underlying181 rfl info3 rfl hF rfl rfl rfl rfl rfl ?_
       refine L.loadPtr shape3 hF rfl rfl rfl rfl rfl rfl ?_
       refine L.fieldAddr Try.underlying181 rfl info3 rfl hF rfl rfl rfl rfl rfl ?_
       refine L.loadPtr shape3 hF rfl rfl rfl rfl rfl rfl ?_
       refine L.bin hF rfl rfl rfl rfl rfl rfl (L.nil ?_)
       refine WpC.cond rfl (fun hc => ?_) (fun hc => ?_)
       ·replace H := condT hc H
        refine WpC.seq (WpC.regionL ?_)
        refine L.assign hF rfl rfl rfl (L.nil ?_)
        refine WpC.ret ?_
        cases H
        exact Leaves.ret rfl rfl rfl ⟨rfl, rfl⟩
       ·replace H := condF hc H
        refine WpC.skip (WpC.seq (WpC.seq (WpC.regionL ?_)))
        refine L.fieldAddr Try.underlying181 rfl info3 rfl hF rfl rfl rfl rfl rfl ?_
        refine L.loadPtr shape3 hF rfl rfl rfl rfl rfl rfl ?_
        refine L.fieldAddr Try.underlying181 rfl info3 rfl hF rfl rfl rfl rfl rfl ?_
        refine L.loadPtr shape3 hF rfl rfl rfl rfl rfl rfl ?_
        refine L.bin hF rfl rfl rfl rfl rfl rfl (L.nil ?_)
        refine WpC.cond rfl (fun hc => ?_) (fun hc => ?_)
        ·replace H := condT hc H
         refine WpC.seq (WpC.regionL ?_)
         refine L.assign hF rfl rfl rfl (L.nil ?_)
         refine WpC.ret ?_
         cases H
         exact Leaves.ret rfl rfl rfl ⟨rfl, rfl⟩
        ·replace H := condF hc H
         refine WpC.skip (WpC.seq (WpC.seq (WpC.regionL ?_)))
         refine L.fieldAddr Try.underlying181 rfl info175 rfl hF rfl rfl rfl rfl rfl ?_
         refine L.loadPtr shape175 hF rfl rfl rfl rfl rfl rfl ?_
         refine L.fieldAddr Try.underlying181 rfl info175 rfl hF rfl rfl rfl rfl rfl ?_
         refine L.loadPtr shape175 hF rfl rfl rfl rfl rfl rfl ?_
         obtain ⟨r2, hr2, H⟩ := bindS H
         refine L.call [false, false] [] [] 24 hF rfl rfl rfl ent161 rfl rfl rfl rfl rfl (Flaws_eqRest_gives k  (⟨a0.Rest.Servers, a0.Rest.Ops, a0.Rest.End⟩ : Timpl_Rest) (⟨a1.Rest.Servers, a1.Rest.Ops, a1.Rest.End⟩ : Timpl_Rest) r2 hr2) rfl ?_
         refine L.not hF rfl rfl rfl (L.nil ?_)
         refine WpC.cond rfl (fun hc => ?_) (fun hc => ?_)
         ·replace H := condT hc H
          refine WpC.seq (WpC.regionL ?_)
          refine L.assign hF rfl rfl rfl (L.nil ?_)
          refine WpC.ret ?_
          cases H
          exact Leaves.ret rfl rfl rfl ⟨rfl, rfl⟩
         ·replace H := condF hc H
          refine WpC.skip (WpC.seq (WpC.regionL ?_))
          refine L.assign hF rfl rfl rfl (L.nil ?_)
          refine WpC.ret ?_
          cases H
          exact Leaves.ret rfl rfl rfl ⟨rfl, rfl⟩
/-! ### Flaws_eqEventS -/
def Flaws_eqEventS.l2 : Nat → (List Timpl_Event) → (List Timpl_Event) → Int → Option Bool
 | 0, _, _, _ => none
 | k2 + 1, v44, v45, v46 => cond (decide (v46 < (v44.length : Int))) ((at? v44 v46).bind fun b50 => (at? v45 v46).bind fun b51 => (Flaws_eqEvent k2 b50 b51).bind fun r52 => cond (!r52) (some false) ((Flaws_eqEventS.l2 k2) v44 v45 (IntKind.i64.wrap (v46 + (1 : Int))))) (some true)
def Flaws_eqEventS (k : Nat) (a0 : List Timpl_Event) (a1 : List Timpl_Event) : Option Bool := cond ((a0.length : Int) != (a1.length : Int)) (some false) (Flaws_eqEventS.l2 k a0 a1 (0 : Int))
theorem ent101 : MG.Enters Try.prog 101 := ⟨Try.f101, Try.func101, rfl, by decide⟩
set_option maxHeartbeats 8000000 in
set_option maxRecDepth 100000 in
theorem Flaws_eqEventS_gives (k : Nat) (g0 : Bool) (g1 : Bool) (a0 : List Timpl_Event) (a1 : List Timpl_Event) (r : Bool) (H : Flaws_eqEventS k a0 a1 = some r) : Gives Try.prog 101 [V.one (Cell.sl g0 (List.map eTimpl_Event a0)), V.one (Cell.sl g1 (List.map eTimpl_Event a1))] [] [V.one (cL r)] [] := by
 refine Gives.intro Try.func101 rfl rfl rfl rfl ?_
 intro F hF hm
 unfold Flaws_eqEventS at H
 obtain ⟨K, hK⟩ : ∃ K, k ≤ K := ⟨k, Nat.le_refl k⟩
 refine WpC.seq (WpC.regionL ?_)
 refine L.assign hF rfl rfl rfl (L.nil ?_)
 refine WpC.seq (WpC.seq (WpC.regionL ?_))
 refine L.move hF rfl rfl rfl ?_
 refine L.lenR (xs := a0) (e := eTimpl_Event) Try.underlying69 hF rfl rfl rfl rfl ?_
 refine L.move hF rfl rfl rfl ?_
 refine L.lenR (xs := a1) (e := eTimpl_Event) Try.underlying69 hF rfl rfl rfl rfl ?_
 refine L.bin hF rfl rfl rfl rfl rfl rfl (L.nil ?_)
 refine WpC.cond rfl (fun hc => ?_) (fun hc => ?_)
 ·replace H := condT hc H
  refine WpC.seq (WpC.regionL ?_)
  refine L.assign hF rfl rfl rfl (L.nil ?_)
  refine WpC.ret ?_
  cases H
  exact Leaves.ret rfl rfl rfl ⟨rfl, rfl⟩
 ·replace H := condF hc H
  refine WpC.skip (WpC.seq (WpC.seq (WpC.regionL ?_)))
  refine L.assign hF rfl rfl rfl (L.nil ?_)
  refine WpC.block ?_
  refine WpC.loopL (P := Try.prog) (fun n σ => ∃ v44 : List Timpl_Event, ∃ v45 : List Timpl_Event, ∃ v46 : Int, n ≤ K ∧ Flaws_eqEventS.l2 n v44 v45 v46 = some r ∧ σ = mkSt [(0, one (Cell.sl g0 (List.map eTimpl_Event v44))), (1, one (Cell.sl g1 (List.map eTimpl_Event v45))), (5, one (cI v46))] [] [] 0) k ⟨_, ⟨a0, a1, (0 : Int), by omega, H, rfl⟩, Le.mk [] hm rfl (Sa2 (Sa1 trivial)) trivial trivial⟩ ?_
  clear H
  rintro k2 _ ⟨v44, v45, v46, hk2, H, rfl⟩
  cases k2 with
  | zero => cases H
  | succ k2 =>
   rw [Flaws_eqEventS.l2] at H
   refine WpC.seq (WpC.seq (WpC.regionL ?_))
   refine L.move hF rfl rfl rfl ?_
   refine L.move hF rfl rfl rfl ?_
   refine L.lenR (xs := v44) (e := eTimpl_Event) Try.underlying69 hF rfl rfl rfl rfl ?_
   refine L.bin hF rfl rfl rfl rfl rfl rfl (L.nil ?_)
   refine WpC.cond rfl (fun hc => ?_) (fun hc => ?_)
   ·replace H := condT hc H
    refine WpC.skip (WpC.seq (WpC.block (WpC.seq ?_)))
    obtain ⟨b50, hb50, H⟩ := bindS H
    obtain ⟨b51, hb51, H⟩ := bindS H
    obtain ⟨r52, hr52, H⟩ := bindS H
    refine A.begin mixed rfl rfl ?_
    intro W hI hO
    have n255 : W 2 #[true, true, true, true, true, true, true, true, false, false] (mkSt [(0, one (Cell.sl g0 (List.map eTimpl_Event v44))), (1, one (Cell.sl g1 (List.map eTimpl_Event v45))), (5, one (cI v46)), (20, agg (bTimpl_Event b50)), (24, agg (bTimpl_Event b51))] [] [] 0) := by
     refine hI _ _ _ ?_
     refine A.all [8] (by kernel_rfl) rfl ⟨⟨_, rfl, ?_⟩, trivial⟩
     refine L.call [false, false] [] [] 0 hF rfl rfl rfl ent146 rfl rfl rfl rfl rfl (Flaws_eqEvent_gives k2  b50 b51 r52 hr52) rfl (L.nil ?_)
     refine Atk 9 rfl (Ca.un rfl rfl) (fun Q0 k0 => L.not hF rfl rfl rfl (L.nil k0)) ?_
     refine A.le (τ := mkSt [(0, one (Cell.sl g0 (List.map eTimpl_Event v44))), (1, one (Cell.sl g1 (List.map eTimpl_Event v45))), (5, one (cI v46)), (26, one (cL (!r52)))] [] [] 0) (Le.mk [] hm rfl (Sa4 trivial) trivial trivial) ?_
     refine A.done (by kernel_rfl) ?_
     refine WpC.cond rfl (fun hc => ?_) (fun hc => ?_)
     ·replace H := condT hc H
      refine WpC.seq (WpC.regionL ?_)
      refine L.assign hF rfl rfl rfl (L.nil ?_)
      refine WpC.ret ?_
      cases H
      exact Leaves.ret rfl rfl rfl ⟨rfl, rfl⟩
     ·replace H := condF hc H
      refine WpC.skip (WpC.regionL ?_)
      refine L.move hF rfl rfl rfl ?_
      refine L.bin hF rfl rfl rfl rfl rfl rfl ?_
      refine L.assign hF rfl rfl rfl (L.nil ?_)
      exact ⟨k2, _, by omega, ⟨v44, v45, (IntKind.i64.wrap (v46 + (1 : Int))), by omega, H, rfl⟩, Le.mk [] hm rfl (Sa2 (Sa1 trivial)) trivial trivial⟩
    refine hI _ _ _ ?_
    refine Atk 0 rfl (Ca.move) (fun Q0 k0 => L.move hF rfl rfl rfl (L.nil k0)) ?_
    refine Atk 1 rfl (Ca.move) (fun Q0 k0 => L.move hF rfl rfl rfl (L.nil k0)) ?_
    refine Atk 2 rfl (Ca.indexAddr) (fun Q0 k0 => L.idxR (xs := v44) (e := eTimpl_Event) Try.underlying69 info181 hF rfl rfl rfl rfl rfl hb50 rfl rfl (L.nil k0)) ?_
    refine Atk 4 rfl (Ca.move) (fun Q0 k0 => L.move hF rfl rfl rfl (L.nil k0)) ?_
    refine Atk 5 rfl (Ca.move) (fun Q0 k0 => L.move hF rfl rfl rfl (L.nil k0)) ?_
    refine Atk 6 rfl (Ca.indexAddr) (fun Q0 k0 => L.idxR (xs := v45) (e := eTimpl_Event) Try.underlying69 info181 hF rfl rfl rfl rfl rfl hb51 rfl rfl (L.nil k0)) ?_
    refine A.all [3, 7] (by kernel_rfl) rfl ⟨⟨_, rfl, ?_⟩, ⟨_, rfl, ?_⟩, trivial⟩
    ·refine L.loadPe shape181 hF rfl rfl rfl rfl rfl (L.nil ?_)
     refine A.all [7] (by kernel_rfl) rfl ⟨⟨_, rfl, ?_⟩, trivial⟩
     refine L.loadPe shape181 hF rfl rfl rfl rfl rfl (L.nil ?_)
     exact A.on (hO _ _ _ n255) (Le.mk [] hm rfl (Sa4 (Sa1 trivial)) trivial trivial)
    ·refine L.loadPe shape181 hF rfl rfl rfl rfl rfl (L.nil ?_)
     refine A.all [3] (by kernel_rfl) rfl ⟨⟨_, rfl, ?_⟩, trivial⟩
     refine L.loadPe shape181 hF rfl rfl rfl rfl rfl (L.nil ?_)
     exact A.on (hO _ _ _ n255) (Le.mk [] hm rfl (Sa4 (Sa1 trivial)) trivial trivial)
   ·replace H := condF hc H
    refine WpC.exit (WpC.seq (WpC.regionL ?_))
    refine L.assign hF rfl rfl rfl (L.nil ?_)
    refine WpC.ret ?_
    cases H
    exact Leaves.ret rfl rfl rfl ⟨rfl, rfl⟩
/-! ### Flaws_eqAccept -/
def Flaws_eqAccept (k : Nat) (a0 : Timpl_Accept) (a1 : Timpl_Accept) : Option Bool := cond (a0.Server != a1.Server) (some false) (cond (a0.Client != a1.Client) (some false) (cond (a0.Key != a1.Key) (some false) (cond (a0.Op != a1.Op) (some false) (cond (a0.Now != a1.Now) (some false) ((Flaws_eqAuth k (⟨a0.Auth.Client, a0.Auth.Time, a0.Auth.Seq⟩ : Timpl_Auth) (⟨a1.Auth.Client, a1.Auth.Time, a1.Auth.Seq⟩ : Timpl_Auth)).bind fun r2 => cond (!r2) (some false) ((Flaws_eqRest k (⟨a0.Rest.Servers, a0.Rest.Ops, a0.Rest.End⟩ : Timpl_Rest) (⟨a1.Rest.Servers, a1.Rest.Ops, a1.Rest.End⟩ : Timpl_Rest)).bind fun r4 => cond (!r4) (some false) ((Flaws_eqIntS k a0.Path a1.Path).bind fun r6 => cond (!r6) (some false) ((Flaws_eqIntS k a0.Via a1.Via).bind fun r8 => cond (!r8) (some false) (cond (a0.Leaks != a1.Leaks) (some false) (cond (a0.Ticket != a1.Ticket) (some false) (some true)))))))))))
theorem ent147 : MG.Enters Try.prog 147 := ⟨Try.f147, Try.func147, rfl, by decide⟩
set_option maxHeartbeats 8000000 in
set_option maxRecDepth 100000 in
theorem Flaws_eqAccept_gives (k : Nat) (g0 : Bool) (g1 : Bool) (g2 : Bool) (g3 : Bool) (a0 : Timpl_Accept) (a1 : Timpl_Accept) (r : Bool) (H : Flaws_eqAccept k a0 a1 = some r) : Gives Try.prog 147 [V.agg [cI a0.Server, cI a0.Client, cI a0.Key, cI a0.Op, cI a0.Now, cI a0.Auth.Client, cI a0.Auth.Time, cI a0.Auth.Seq, cI a0.Rest.Servers, cI a0.Rest.Ops, cI a0.Rest.End, Cell.sl g0 (List.map eI a0.Path), Cell.sl g1 (List.map eI a0.Via), cI a0.Leaks, cS a0.Ticket], V.agg [cI a1.Server, cI a1.Client, cI a1.Key, cI a1.Op, cI a1.Now, cI a1.Auth.Client, cI a1.Auth.Time, cI a1.Auth.Seq, cI a1.Rest.Servers, cI a1.Rest.Ops, cI a1.Rest.End, Cell.sl g2 (List.map eI a1.Path), Cell.sl g3 (List.map eI a1.Via), cI a1.Leaks, cS a1.Ticket]] [] [V.one (cL r)] [] := by
 refine Gives.intro Try.func147 rfl rfl rfl rfl ?_
 intro F hF hm
 unfold Flaws_eqAccept at H
 obtain ⟨K, hK⟩ : ∃ K, k ≤ K := ⟨k, Nat.le_refl k⟩
 refine WpC.seq (WpC.regionL ?_)
 refine L.box 30 hF rfl rfl rfl rfl ?_
 refine L.box 31 hF rfl rfl rfl rfl ?_
 refine L.assign hF rfl rfl rfl (L.nil ?_)
 refine WpC.seq (WpC.seq (WpC.regionL ?_))
 refine L.fieldAddr Try.underlying186 rfl info3 rfl hF rfl rfl rfl rfl rfl ?_
 refine L.loadPtr shape3 hF rfl rfl rfl rfl rfl rfl ?_
 refine L.fieldAddr Try.underlying186 rfl info3 rfl hF rfl rfl rfl rfl rfl ?_
 refine L.loadPtr shape3 hF rfl rfl rfl rfl rfl rfl ?_
 refine L.bin hF rfl rfl rfl rfl rfl rfl (L.nil ?_)
 refine WpC.cond rfl (fun hc => ?_) (fun hc => ?_)
 ·replace H := condT hc H
  refine WpC.seq (WpC.regionL ?_)
  refine L.assign hF rfl rfl rfl (L.nil ?_)
  refine WpC.ret ?_
  cases H
  exact Leaves.ret rfl rfl rfl ⟨rfl, rfl⟩
 ·replace H := condF hc H
  refine WpC.skip (WpC.seq (WpC.seq (WpC.regionL ?_)))
  refine L.fieldAddr Try.underlying186 rfl info3 rfl hF rfl rfl rfl rfl rfl ?_
  refine L.loadPtr shape3 hF rfl rfl rfl rfl rfl rfl ?_
  refine L.fieldAddr Try.underlying186 rfl info3 rfl hF rfl rfl rfl rfl rfl ?_
  refine L.loadPtr shape3 hF rfl rfl rfl rfl rfl rfl ?_
  refine L.bin hF rfl rfl rfl rfl rfl rfl (L.nil ?_)
  refine WpC.cond rfl (fun hc => ?_) (fun hc => ?_)
  ·replace H := condT hc H
   refine WpC.seq (WpC.regionL ?_)
   refine L.assign hF rfl rfl rfl (L.nil ?_)
   refine WpC.ret ?_
   cases H
   exact Leaves.ret rfl rfl rfl ⟨rfl, rfl⟩
  ·replace H := condF hc H
   refine WpC.skip (WpC.seq (WpC.seq (WpC.regionL ?_)))
   refine L.fieldAddr Try.underlying186 rfl info3 rfl hF rfl rfl rfl rfl rfl ?_
   refine L.loadPtr shape3 hF rfl rfl rfl rfl rfl rfl ?_
   refine L.fieldAddr Try.underlying186 rfl info3 rfl hF rfl rfl rfl rfl rfl ?_
   refine L.loadPtr shape3 hF rfl rfl rfl rfl rfl rfl ?_
   refine L.bin hF rfl rfl rfl rfl rfl rfl (L.nil ?_)
   refine WpC.cond rfl (fun hc => ?_) (fun hc => ?_)
   ·replace H := condT hc H
    refine WpC.seq (WpC.regionL ?_)
    refine L.assign hF rfl rfl rfl (L.nil ?_)
    refine WpC.ret ?_
    cases H
    exact Leaves.ret rfl rfl rfl ⟨rfl, rfl⟩
   ·replace H := condF hc H
    refine WpC.skip (WpC.seq (WpC.seq (WpC.regionL ?_)))
    refine L.fieldAddr Try.underlying186 rfl info3 rfl hF rfl rfl rfl rfl rfl ?_
    refine L.loadPtr shape3 hF rfl rfl rfl rfl rfl rfl ?_
    refine L.fieldAddr Try.underlying186 rfl info3 rfl hF rfl rfl rfl rfl rfl ?_
    refine L.loadPtr shape3 hF rfl rfl rfl rfl rfl rfl ?_
    refine L.bin hF rfl rfl rfl rfl rfl rfl (L.nil ?_)
    refine WpC.cond rfl (fun hc => ?_) (fun hc => ?_)
    ·replace H := condT hc H
     refine WpC.seq (WpC.regionL ?_)
     refine L.assign hF rfl rfl rfl (L.nil ?_)
     refine WpC.ret ?_
     cases H
     exact Leaves.ret rfl rfl rfl ⟨rfl, rfl⟩
    ·replace H := condF hc H
     refine WpC.skip (WpC.seq (WpC.seq (WpC.regionL ?_)))
     refine L.fieldAddr Try.underlying186 rfl info3 rfl hF rfl rfl rfl rfl rfl ?_
     refine L.loadPtr shape3 hF rfl rfl rfl rfl rfl rfl ?_
     refine L.fieldAddr Try.underlying186 rfl info3 rfl hF rfl rfl rfl rfl rfl ?_
     refine L.loadPtr shape3 hF rfl rfl rfl rfl rfl rfl ?_
     refine L.bin hF rfl rfl rfl rfl rfl rfl (L.nil ?_)
     refine WpC.cond rfl (fun hc => ?_) (fun hc => ?_)
     ·replace H := condT hc H
      refine WpC.seq (WpC.regionL ?_)
      refine L.assign hF rfl rfl rfl (L.nil ?_)
      refine WpC.ret ?_
      cases H
      exact Leaves.ret rfl rfl rfl ⟨rfl, rfl⟩
     ·replace H := condF hc H
      refine WpC.skip (WpC.seq (WpC.seq (WpC.regionL ?_)))
      refine L.fieldAddr Try.underlying186 rfl info184 rfl hF rfl rfl rfl rfl rfl ?_
      refine L.loadPtr shape184 hF rfl rfl rfl rfl rfl rfl ?_
      refine L.fieldAddr Try.underlying186 rfl info184 rfl hF rfl rfl rfl rfl rfl ?_
      refine L.loadPtr shape184 hF rfl rfl rfl rfl rfl rfl ?_
      obtain ⟨r2, hr2, H⟩ := bindS H
      refine L.call [false, false] [] [] 32 hF rfl rfl rfl ent163 rfl rfl rfl rfl rfl (Flaws_eqAuth_gives k  (⟨a0.Auth.Client, a0.Auth.Time, a0.Auth.Seq⟩ : Timpl_Auth) (⟨a1.Auth.Client, a1.Auth.Time, a1.Auth.Seq⟩ : Timpl_Auth) r2 hr2) rfl ?_
      refine L.not hF rfl rfl rfl (L.nil ?_)
      refine WpC.cond rfl (fun hc => ?_) (fun hc => ?_)
      ·replace H := condT hc H
       refine WpC.seq (WpC.regionL ?_)
       refine L.assign hF rfl rfl rfl (L.nil ?_)
       refine WpC.ret ?_
       cases H
       exact Leaves.ret rfl rfl rfl ⟨rfl, rfl⟩
      ·replace H := condF hc H
       refine WpC.skip (WpC.seq (WpC.seq (WpC.regionL ?_)))
       refine L.fieldAddr Try.underlying186 rfl info175 rfl hF rfl rfl rfl rfl rfl ?_
       refine L.loadPtr shape175 hF rfl rfl rfl rfl rfl rfl ?_
       refine L.fieldAddr Try.underlying186 rfl info175 rfl hF rfl rfl rfl rfl rfl ?_
       refine L.loadPtr shape175 hF rfl rfl rfl rfl rfl rfl ?_
       obtain ⟨r4, hr4, H⟩ := bindS H
       refine L.call [false, false] [] [] 33 hF rfl rfl rfl ent161 rfl rfl rfl rfl rfl (Flaws_eqRest_gives k  (⟨a0.Rest.Servers, a0.Rest.Ops, a0.Rest.End⟩ : Timpl_Rest) (⟨a1.Rest.Servers, a1.Rest.Ops, a1.Rest.End⟩ : Timpl_Rest) r4 hr4) rfl ?_
       refine L.not hF rfl rfl rfl (L.nil ?_)
       refine WpC.cond rfl (fun hc => ?_) (fun hc => ?_)
       ·replace H := condT hc H
        refine WpC.seq (WpC.regionL ?_)
        refine L.assign hF rfl rfl rfl (L.nil ?_)
        refine WpC.ret ?_
        cases H
        exact Leaves.ret rfl rfl rfl ⟨rfl, rfl⟩
       ·replace H := condF hc H
        refine WpC.skip (WpC.seq (WpC.seq (WpC.regionL ?_)))
        refine L.fieldAddr Try.underlying186 rfl info39 rfl hF rfl rfl rfl rfl rfl ?_
        refine L.loadPtr shape39 hF rfl rfl rfl rfl rfl rfl ?_
        refine L.fieldAddr Try.underlying186 rfl info39 rfl hF rfl rfl rfl rfl rfl ?_
        refine L.loadPtr shape39 hF rfl rfl rfl rfl rfl rfl ?_
        obtain ⟨r6, hr6, H⟩ := bindS H
        refine L.call [false, false] [] [] 34 hF rfl rfl rfl ent103 rfl rfl rfl rfl rfl (Flaws_eqIntS_gives k g0 g2 a0.Path a1.Path r6 hr6) rfl ?_
        refine L.not hF rfl rfl rfl (L.nil ?_)
        refine WpC.cond rfl (fun hc => ?_) (fun hc => ?_)
        ·replace H := condT hc H
         refine WpC.seq (WpC.regionL ?_)
         refine L.assign hF rfl rfl rfl (L.nil ?_)
         refine WpC.ret ?_
         cases H
         exact Leaves.ret rfl rfl rfl ⟨rfl, rfl⟩
        ·replace H := condF hc H
         refine WpC.skip (WpC.seq (WpC.seq (WpC.regionL ?_)))
         refine L.fieldAddr Try.underlying186 rfl info39 rfl hF rfl rfl rfl rfl rfl ?_
         refine L.loadPtr shape39 hF rfl rfl rfl rfl rfl rfl ?_
         refine L.fieldAddr Try.underlying186 rfl info39 rfl hF rfl rfl rfl rfl rfl ?_
         refine L.loadPtr shape39 hF rfl rfl rfl rfl rfl rfl ?_
         obtain ⟨r8, hr8, H⟩ := bindS H
         refine L.call [false, false] [] [] 35 hF rfl rfl rfl ent103 rfl rfl rfl rfl rfl (Flaws_eqIntS_gives k g1 g3 a0.Via a1.Via r8 hr8) rfl ?_
         refine L.not hF rfl rfl rfl (L.nil ?_)
         refine WpC.cond rfl (fun hc => ?_) (fun hc => ?_)
         ·replace H := condT hc H
          refine WpC.seq (WpC.regionL ?_)
          refine L.assign hF rfl rfl rfl (L.nil ?_)
          refine WpC.ret ?_
          cases H
          exact Leaves.ret rfl rfl rfl ⟨rfl, rfl⟩
         ·replace H := condF hc H
          refine WpC.skip (WpC.seq (WpC.seq (WpC.regionL ?_)))
          refine L.fieldAddr Try.underlying186 rfl info3 rfl hF rfl rfl rfl rfl rfl ?_
          refine L.loadPtr shape3 hF rfl rfl rfl rfl rfl rfl ?_
          refine L.fieldAddr Try.underlying186 rfl info3 rfl hF rfl rfl rfl rfl rfl ?_
          refine L.loadPtr shape3 hF rfl rfl rfl rfl rfl rfl ?_
          refine L.bin hF rfl rfl rfl rfl rfl rfl (L.nil ?_)
          refine WpC.cond rfl (fun hc => ?_) (fun hc => ?_)
          ·replace H := condT hc H
           refine WpC.seq (WpC.regionL ?_)
           refine L.assign hF rfl rfl rfl (L.nil ?_)
           refine WpC.ret ?_
           cases H
           exact Leaves.ret rfl rfl rfl ⟨rfl, rfl⟩
          ·replace H := condF hc H
           refine WpC.skip (WpC.seq (WpC.seq (WpC.regionL ?_)))
           refine L.fieldAddr Try.underlying186 rfl info9 rfl hF rfl rfl rfl rfl rfl ?_
           refine L.loadPtr shape9 hF rfl rfl rfl rfl rfl rfl ?_
           refine L.fieldAddr Try.underlying186 rfl info9 rfl hF rfl rfl rfl rfl rfl ?_
           refine L.loadPtr shape9 hF rfl rfl rfl rfl rfl rfl ?_
           refine L.binS hF rfl rfl rfl rfl rfl (L.nil ?_)
           refine WpC.cond rfl (fun hc => ?_) (fun hc => ?_)
           ·replace H := condT hc H
            refine WpC.seq (WpC.regionL ?_)
            refine L.assign hF rfl rfl rfl (L.nil ?_)
            refine WpC.ret ?_
            cases H
            exact Leaves.ret rfl rfl rfl ⟨rfl, rfl⟩
           ·replace H := condF hc H
            refine WpC.skip (WpC.seq (WpC.regionL ?_))
            refine L.assign hF rfl rfl rfl (L.nil ?_)
            refine WpC.ret ?_
            cases H
            exact Leaves.ret rfl rfl rfl ⟨rfl, rfl⟩
/-! ### Flaws_eqAcceptS -/
def Flaws_eqAcceptS.l2 : Nat → (List Timpl_Accept) → (List Timpl_Accept) → Int → Option Bool
 | 0, _, _, _ => none
 | k2 + 1, v44, v45, v46 => cond (decide (v46 < (v44.length : Int))) ((at? v44 v46).bind fun b50 => (at? v45 v46).bind fun b51 => (Flaws_eqAccept k2 b50 b51).bind fun r52 => cond (!r52) (some false) ((Flaws_eqAcceptS.l2 k2) v44 v45 (IntKind.i64.wrap (v46 + (1 : Int))))) (some true)
def Flaws_eqAcceptS (k : Nat) (a0 : List Timpl_Accept) (a1 : List Timpl_Accept) : Option Bool := cond ((a0.length : Int) != (a1.length : Int)) (some false) (Flaws_eqAcceptS.l2 k a0 a1 (0 : Int))
theorem ent102 : MG.Enters Try.prog 102 := ⟨Try.f102, Try.func102, rfl, by decide⟩
set_option maxHeartbeats 8000000 in
set_option maxRecDepth 100000 in
theorem Flaws_eqAcceptS_gives (k : Nat) (g0 : Bool) (g1 : Bool) (a0 : List Timpl_Accept) (a1 : List Timpl_Accept) (r : Bool) (H : Flaws_eqAcceptS k a0 a1 = some r) : Gives Try.prog 102 [V.one (Cell.sl g0 (List.map eTimpl_Accept a0)), V.one (Cell.sl g1 (List.map eTimpl_Accept a1))] [] [V.one (cL r)] [] := by
 refine Gives.intro Try.func102 rfl rfl rfl rfl ?_
 intro F hF hm
 unfold Flaws_eqAcceptS at H
 obtain ⟨K, hK⟩ : ∃ K, k ≤ K := ⟨k, Nat.le_refl k⟩
 refine WpC.seq (WpC.regionL ?_)
 refine L.assign hF rfl rfl rfl (L.nil ?_)
 refine WpC.seq (WpC.seq (WpC.regionL ?_))
 refine L.move hF rfl rfl rfl ?_
 refine L.lenR (xs := a0) (e := eTimpl_Accept) Try.underlying70 hF rfl rfl rfl rfl ?_
 refine L.move hF rfl rfl rfl ?_
 refine L.lenR (xs := a1) (e := eTimpl_Accept) Try.underlying70 hF rfl rfl rfl rfl ?_
 refine L.bin hF rfl rfl rfl rfl rfl rfl (L.nil ?_)
 refine WpC.cond rfl (fun hc => ?_) (fun hc => ?_)
 ·replace H := condT hc H
  refine WpC.seq (WpC.regionL ?_)
  refine L.assign hF rfl rfl rfl (L.nil ?_)
  refine WpC.ret ?_
  cases H
  exact Leaves.ret rfl rfl rfl ⟨rfl, rfl⟩
 ·replace H := condF hc H
  refine WpC.skip (WpC.seq (WpC.seq (WpC.regionL ?_)))
  refine L.assign hF rfl rfl rfl (L.nil ?_)
  refine WpC.block ?_
  refine WpC.loopL (P := Try.prog) (fun n σ => ∃ v44 : List Timpl_Accept, ∃ v45 : List Timpl_Accept, ∃ v46 : Int, n ≤ K ∧ Flaws_eqAcceptS.l2 n v44 v45 v46 = some r ∧ σ = mkSt [(0, one (Cell.sl g0 (List.map eTimpl_Accept v44))), (1, one (Cell.sl g1 (List.map eTimpl_Accept v45))), (5, one (cI v46))] [] [] 0) k ⟨_, ⟨a0, a1, (0 : Int), by omega, H, rfl⟩, Le.mk [] hm rfl (Sa2 (Sa1 trivial)) trivial trivial⟩ ?_
  clear H
  rintro k2 _ ⟨v44, v45, v46, hk2, H, rfl⟩
  cases k2 with
  | zero => cases H
  | succ k2 =>
   rw [Flaws_eqAcceptS.l2] at H
   refine WpC.seq (WpC.seq (WpC.regionL ?_))
   refine L.move hF rfl rfl rfl ?_
   refine L.move hF rfl rfl rfl ?_
   refine L.lenR (xs := v44) (e := eTimpl_Accept) Try.underlying70 hF rfl rfl rfl rfl ?_
   refine L.bin hF rfl rfl rfl rfl rfl rfl (L.nil ?_)
   refine WpC.cond rfl (fun hc => ?_) (fun hc => ?_)
   ·replace H := condT hc H
    refine WpC.skip (WpC.seq (WpC.block (WpC.seq ?_)))
    obtain ⟨b50, hb50, H⟩ := bindS H
    obtain ⟨b51, hb51, H⟩ := bindS H
    obtain ⟨r52, hr52, H⟩ := bindS H
    refine A.begin mixed rfl rfl ?_
    intro W hI hO
    have n255 : W 2 #[true, true, true, true, true, true, true, true, false, false] (mkSt [(0, one (Cell.sl g0 (List.map eTimpl_Accept v44))), (1, one (Cell.sl g1 (List.map eTimpl_Accept v45))), (5, one (cI v46)), (20, agg (bTimpl_Accept g0 g0 b50)), (24, agg (bTimpl_Accept g1 g1 b51))] [] [] 0) := by
     refine hI _ _ _ ?_
     refine A.all [8] (by kernel_rfl) rfl ⟨⟨_, rfl, ?_⟩, trivial⟩
     refine L.call [false, false] [] [] 0 hF rfl rfl rfl ent147 rfl rfl rfl rfl rfl (Flaws_eqAccept_gives k2 g0 g0 g1 g1 b50 b51 r52 hr52) rfl (L.nil ?_)
     refine Atk 9 rfl (Ca.un rfl rfl) (fun Q0 k0 => L.not hF rfl rfl rfl (L.nil k0)) ?_
     refine A.le (τ := mkSt [(0, one (Cell.sl g0 (List.map eTimpl_Accept v44))), (1, one (Cell.sl g1 (List.map eTimpl_Accept v45))), (5, one (cI v46)), (26, one (cL (!r52)))] [] [] 0) (Le.mk [] hm rfl (Sa4 trivial) trivial trivial) ?_
     refine A.done (by kernel_rfl) ?_
     refine WpC.cond rfl (fun hc => ?_) (fun hc => ?_)
     ·replace H := condT hc H
      refine WpC.seq (WpC.regionL ?_)
      refine L.assign hF rfl rfl rfl (L.nil ?_)
      refine WpC.ret ?_
      cases H
      exact Leaves.ret rfl rfl rfl ⟨rfl, rfl⟩
     ·replace H := condF hc H
      refine WpC.skip (WpC.regionL ?_)
      refine L.move hF rfl rfl rfl ?_
      refine L.bin hF rfl rfl rfl rfl rfl rfl ?_
      refine L.assign hF rfl rfl rfl (L.nil ?_)
      exact ⟨k2, _, by omega, ⟨v44, v45, (IntKind.i64.wrap (v46 + (1 : Int))), by omega, H, rfl⟩, Le.mk [] hm rfl (Sa2 (Sa1 trivial)) trivial trivial⟩
    refine hI _ _ _ ?_
    refine Atk 0 rfl (Ca.move) (fun Q0 k0 => L.move hF rfl rfl rfl (L.nil k0)) ?_
    refine Atk 1 rfl (Ca.move) (fun Q0 k0 => L.move hF rfl rfl rfl (L.nil k0)) ?_
    refine Atk 2 rfl (Ca.indexAddr) (fun Q0 k0 => L.idxR (xs := v44) (e := eTimpl_Accept) Try.underlying70 info186 hF rfl rfl rfl rfl rfl hb50 rfl rfl (L.nil k0)) ?_
    refine Atk 4 rfl (Ca.move) (fun Q0 k0 => L.move hF rfl rfl rfl (L.nil k0)) ?_
    refine Atk 5 rfl (Ca.move) (fun Q0 k0 => L.move hF rfl rfl rfl (L.nil k0)) ?_
    refine Atk 6 rfl (Ca.indexAddr) (fun Q0 k0 => L.idxR (xs := v45) (e := eTimpl_Accept) Try.underlying70 info186 hF rfl rfl rfl rfl rfl hb51 rfl rfl (L.nil k0)) ?_
    refine A.all [3, 7] (by kernel_rfl) rfl ⟨⟨_, rfl, ?_⟩, ⟨_, rfl, ?_⟩, trivial⟩
    ·refine L.loadPe shape186 hF rfl rfl rfl rfl rfl (L.nil ?_)
     refine A.all [7] (by kernel_rfl) rfl ⟨⟨_, rfl, ?_⟩, trivial⟩
     refine L.loadPe shape186 hF rfl rfl rfl rfl rfl (L.nil ?_)
     exact A.on (hO _ _ _ n255) (Le.mk [] hm rfl (Sa4 (Sa1 trivial)) trivial trivial)
    ·refine L.loadPe shape186 hF rfl rfl rfl rfl rfl (L.nil ?_)
     refine A.all [3] (by kernel_rfl) rfl ⟨⟨_, rfl, ?_⟩, trivial⟩
     refine L.loadPe shape186 hF rfl rfl rfl rfl rfl (L.nil ?_)
     exact A.on (hO _ _ _ n255) (Le.mk [] hm rfl (Sa4 (Sa1 trivial)) trivial trivial)
   ·replace H := condF hc H
    refine WpC.exit (WpC.seq (WpC.regionL ?_))
    refine L.assign hF rfl rfl rfl (L.nil ?_)
    refine WpC.ret ?_
    cases H
    exact Leaves.ret rfl rfl rfl ⟨rfl, rfl⟩
/-! ### Flaws_eqWorld -/
def Flaws_eqWorld (k : Nat) (a0 : Timpl_World) (a1 : Timpl_World) : Option Bool := (Flaws_eqConfig k (⟨a0.Config.UserRealm, a0.Config.ServiceRealm, a0.Config.Links, a0.Config.Proxy, a0.Config.Skew⟩ : Timpl_Config) (⟨a1.Config.UserRealm, a1.Config.ServiceRealm, a1.Config.Links, a1.Config.Proxy, a1.Config.Skew⟩ : Timpl_Config)).bind fun r2 => cond (!r2) (some false) (cond (a0.Now != a1.Now) (some false) (cond (a0.Fresh != a1.Fresh) (some false) ((Flaws_eqStringS k a0.Net a1.Net).bind fun r4 => cond (!r4) (some false) ((Flaws_eqKnown k (⟨a0.Known.Terms, a0.Known.Keys⟩ : Timpl_Known) (⟨a1.Known.Terms, a1.Known.Keys⟩ : Timpl_Known)).bind fun r6 => cond (!r6) (some false) ((Flaws_eqWaitS k a0.Waits a1.Waits).bind fun r8 => cond (!r8) (some false) ((Flaws_eqCredS k a0.Creds a1.Creds).bind fun r10 => cond (!r10) (some false) ((Flaws_eqCacheS k a0.Caches a1.Caches).bind fun r12 => cond (!r12) (some false) ((Flaws_eqEventS k a0.Log a1.Log).bind fun r14 => cond (!r14) (some false) ((Flaws_eqAcceptS k a0.Accepts a1.Accepts).bind fun r16 => cond (!r16) (some false) ((Flaws_eqIntS k a0.Leaked a1.Leaked).bind fun r18 => cond (!r18) (some false) (some true)))))))))))
theorem ent46 : MG.Enters Try.prog 46 := ⟨Try.f46, Try.func46, rfl, by decide⟩
set_option maxHeartbeats 8000000 in
set_option maxRecDepth 100000 in
theorem Flaws_eqWorld_gives (k : Nat) (g0 : Bool) (g1 : Bool) (g2 : Bool) (g3 : Bool) (g4 : Bool) (g5 : Bool) (g6 : Bool) (g7 : Bool) (g8 : Bool) (g9 : Bool) (g10 : Bool) (g11 : Bool) (g12 : Bool) (g13 : Bool) (g14 : Bool) (g15 : Bool) (g16 : Bool) (g17 : Bool) (g18 : Bool) (g19 : Bool) (g20 : Bool) (g21 : Bool) (g22 : Bool) (g23 : Bool) (g24 : Bool) (g25 : Bool) (a0 : Timpl_World) (a1 : Timpl_World) (r : Bool) (H : Flaws_eqWorld k a0 a1 = some r) : Gives Try.prog 46 [V.agg [Cell.sl g0 (List.map eI a0.Config.UserRealm), Cell.sl g1 (List.map eI a0.Config.ServiceRealm), Cell.sl g2 (List.map eTimpl_Pair a0.Config.Links), Cell.sl g3 (List.map eTimpl_Pair a0.Config.Proxy), cI a0.Config.Skew, cI a0.Now, cI a0.Fresh, Cell.sl g4 (List.map eS a0.Net), Cell.sl g5 (List.map eS a0.Known.Terms), Cell.sl g6 (List.map eI a0.Known.Keys), Cell.sl g7 (List.map eTimpl_Wait a0.Waits), Cell.sl g8 (List.map eTimpl_Cred a0.Creds), Cell.sl g9 (List.map eTimpl_Cache a0.Caches), Cell.sl g10 (List.map eTimpl_Event a0.Log), Cell.sl g11 (List.map eTimpl_Accept a0.Accepts), Cell.sl g12 (List.map eI a0.Leaked)], V.agg [Cell.sl g13 (List.map eI a1.Config.UserRealm), Cell.sl g14 (List.map eI a1.Config.ServiceRealm), Cell.sl g15 (List.map eTimpl_Pair a1.Config.Links), Cell.sl g16 (List.map eTimpl_Pair a1.Config.Proxy), cI a1.Config.Skew, cI a1.Now, cI a1.Fresh, Cell.sl g17 (List.map eS a1.Net), Cell.sl g18 (List.map eS a1.Known.Terms), Cell.sl g19 (List.map eI a1.Known.Keys), Cell.sl g20 (List.map eTimpl_Wait a1.Waits), Cell.sl g21 (List.map eTimpl_Cred a1.Creds), Cell.sl g22 (List.map eTimpl_Cache a1.Caches), Cell.sl g23 (List.map eTimpl_Event a1.Log), Cell.sl g24 (List.map eTimpl_Accept a1.Accepts), Cell.sl g25 (List.map eI a1.Leaked)]] [] [V.one (cL r)] [] := by
 refine Gives.intro Try.func46 rfl rfl rfl rfl ?_
 intro F hF hm
 unfold Flaws_eqWorld at H
 obtain ⟨K, hK⟩ : ∃ K, k ≤ K := ⟨k, Nat.le_refl k⟩
 refine WpC.seq (WpC.regionL ?_)
 refine L.box 32 hF rfl rfl rfl rfl ?_
 refine L.box 33 hF rfl rfl rfl rfl ?_
 refine L.assign hF rfl rfl rfl (L.nil ?_)
 refine WpC.seq (WpC.seq (WpC.regionL ?_))
 refine L.fieldAddr Try.underlying72 rfl info62 rfl hF rfl rfl rfl rfl rfl ?_
 refine L.loadPtr shape62 hF rfl rfl rfl rfl rfl rfl ?_
 refine L.fieldAddr Try.underlying72 rfl info62 rfl hF rfl rfl rfl rfl rfl ?_
 refine L.loadPtr shape62 hF rfl rfl rfl rfl rfl rfl ?_
 obtain ⟨r2, hr2, H⟩ := bindS H
 refine L.call [false, false] [] [] 34 hF rfl rfl rfl ent47 rfl rfl rfl rfl rfl (Flaws_eqConfig_gives k g0 g1 g2 g3 g13 g14 g15 g16 (⟨a0.Config.UserRealm, a0.Config.ServiceRealm, a0.Config.Links, a0.Config.Proxy, a0.Config.Skew⟩ : Timpl_Config) (⟨a1.Config.UserRealm, a1.Config.ServiceRealm, a1.Config.Links, a1.Config.Proxy, a1.Config.Skew⟩ : Timpl_Config) r2 hr2) rfl ?_
 refine L.not hF rfl rfl rfl (L.nil ?_)
 refine WpC.cond rfl (fun hc => ?_) (fun hc => ?_)
 ·replace H := condT hc H
  refine WpC.seq (WpC.regionL ?_)
  refine L.assign hF rfl rfl rfl (L.nil ?_)
  refine WpC.ret ?_
  cases H
  exact Leaves.ret rfl rfl rfl ⟨rfl, rfl⟩
 ·replace H := condF hc H
  refine WpC.skip (WpC.seq (WpC.seq (WpC.regionL ?_)))
  refine L.fieldAddr Try.underlying72 rfl info3 rfl hF rfl rfl rfl rfl rfl ?_
  refine L.loadPtr shape3 hF rfl rfl rfl rfl rfl rfl ?_
  refine L.fieldAddr Try.underlying72 rfl info3 rfl hF rfl rfl rfl rfl rfl ?_
  refine L.loadPtr shape3 hF rfl rfl rfl rfl rfl rfl ?_
  refine L.bin hF rfl rfl rfl rfl rfl rfl (L.nil ?_)
  refine WpC.cond rfl (fun hc => ?_) (fun hc => ?_)
  ·replace H := condT hc H
   refine WpC.seq (WpC.regionL ?_)
   refine L.assign hF rfl rfl rfl (L.nil ?_)
   refine WpC.ret ?_
   cases H
   exact Leaves.ret rfl rfl rfl ⟨rfl, rfl⟩
  ·replace H := condF hc H
   refine WpC.skip (WpC.seq (WpC.seq (WpC.regionL ?_)))
   refine L.fieldAddr Try.underlying72 rfl info3 rfl hF rfl rfl rfl rfl rfl ?_
   refine L.loadPtr shape3 hF rfl rfl rfl rfl rfl rfl ?_
   refine L.fieldAddr Try.underlying72 rfl info3 rfl hF rfl rfl rfl rfl rfl ?_
   refine L.loadPtr shape3 hF rfl rfl rfl rfl rfl rfl ?_
   refine L.bin hF rfl rfl rfl rfl rfl rfl (L.nil ?_)
   refine WpC.cond rfl (fun hc => ?_) (fun hc => ?_)
   ·replace H := condT hc H
    refine WpC.seq (WpC.regionL ?_)
    refine L.assign hF rfl rfl rfl (L.nil ?_)
    refine WpC.ret ?_
    cases H
    exact Leaves.ret rfl rfl rfl ⟨rfl, rfl⟩
   ·replace H := condF hc H
    refine WpC.skip (WpC.seq (WpC.seq (WpC.regionL ?_)))
    refine L.fieldAddr Try.underlying72 rfl info63 rfl hF rfl rfl rfl rfl rfl ?_
    refine L.loadPtr shape63 hF rfl rfl rfl rfl rfl rfl ?_
    refine L.fieldAddr Try.underlying72 rfl info63 rfl hF rfl rfl rfl rfl rfl ?_
    refine L.loadPtr shape63 hF rfl rfl rfl rfl rfl rfl ?_
    obtain ⟨r4, hr4, H⟩ := bindS H
    refine L.call [false, false] [] [] 35 hF rfl rfl rfl ent96 rfl rfl rfl rfl rfl (Flaws_eqStringS_gives k g4 g17 a0.Net a1.Net r4 hr4) rfl ?_
    refine L.not hF rfl rfl rfl (L.nil ?_)
    refine WpC.cond rfl (fun hc => ?_) (fun hc => ?_)
    ·replace H := condT hc H
     refine WpC.seq (WpC.regionL ?_)
     refine L.assign hF rfl rfl rfl (L.nil ?_)
     refine WpC.ret ?_
     cases H
     exact Leaves.ret rfl rfl rfl ⟨rfl, rfl⟩
    ·replace H := condF hc H
     refine WpC.skip (WpC.seq (WpC.seq (WpC.regionL ?_)))
     refine L.fieldAddr Try.underlying72 rfl info65 rfl hF rfl rfl rfl rfl rfl ?_
     refine L.loadPtr shape65 hF rfl rfl rfl rfl rfl rfl ?_
     refine L.fieldAddr Try.underlying72 rfl info65 rfl hF rfl rfl rfl rfl rfl ?_
     refine L.loadPtr shape65 hF rfl rfl rfl rfl rfl rfl ?_
     obtain ⟨r6, hr6, H⟩ := bindS H
     refine L.call [false, false] [] [] 36 hF rfl rfl rfl ent97 rfl rfl rfl rfl rfl (Flaws_eqKnown_gives k g5 g6 g18 g19 (⟨a0.Known.Terms, a0.Known.Keys⟩ : Timpl_Known) (⟨a1.Known.Terms, a1.Known.Keys⟩ : Timpl_Known) r6 hr6) rfl ?_
     refine L.not hF rfl rfl rfl (L.nil ?_)
     refine WpC.cond rfl (fun hc => ?_) (fun hc => ?_)
     ·replace H := condT hc H
      refine WpC.seq (WpC.regionL ?_)
      refine L.assign hF rfl rfl rfl (L.nil ?_)
      refine WpC.ret ?_
      cases H
      exact Leaves.ret rfl rfl rfl ⟨rfl, rfl⟩
     ·replace H := condF hc H
      refine WpC.skip (WpC.seq (WpC.seq (WpC.regionL ?_)))
      refine L.fieldAddr Try.underlying72 rfl info66 rfl hF rfl rfl rfl rfl rfl ?_
      refine L.loadPtr shape66 hF rfl rfl rfl rfl rfl rfl ?_
      refine L.fieldAddr Try.underlying72 rfl info66 rfl hF rfl rfl rfl rfl rfl ?_
      refine L.loadPtr shape66 hF rfl rfl rfl rfl rfl rfl ?_
      obtain ⟨r8, hr8, H⟩ := bindS H
      refine L.call [false, false] [] [] 37 hF rfl rfl rfl ent98 rfl rfl rfl rfl rfl (Flaws_eqWaitS_gives k g7 g20 a0.Waits a1.Waits r8 hr8) rfl ?_
      refine L.not hF rfl rfl rfl (L.nil ?_)
      refine WpC.cond rfl (fun hc => ?_) (fun hc => ?_)
      ·replace H := condT hc H
       refine WpC.seq (WpC.regionL ?_)
       refine L.assign hF rfl rfl rfl (L.nil ?_)
       refine WpC.ret ?_
       cases H
       exact Leaves.ret rfl rfl rfl ⟨rfl, rfl⟩
      ·replace H := condF hc H
       refine WpC.skip (WpC.seq (WpC.seq (WpC.regionL ?_)))
       refine L.fieldAddr Try.underlying72 rfl info67 rfl hF rfl rfl rfl rfl rfl ?_
       refine L.loadPtr shape67 hF rfl rfl rfl rfl rfl rfl ?_
       refine L.fieldAddr Try.underlying72 rfl info67 rfl hF rfl rfl rfl rfl rfl ?_
       refine L.loadPtr shape67 hF rfl rfl rfl rfl rfl rfl ?_
       obtain ⟨r10, hr10, H⟩ := bindS H
       refine L.call [false, false] [] [] 38 hF rfl rfl rfl ent99 rfl rfl rfl rfl rfl (Flaws_eqCredS_gives k g8 g21 a0.Creds a1.Creds r10 hr10) rfl ?_
       refine L.not hF rfl rfl rfl (L.nil ?_)
       refine WpC.cond rfl (fun hc => ?_) (fun hc => ?_)
       ·replace H := condT hc H
        refine WpC.seq (WpC.regionL ?_)
        refine L.assign hF rfl rfl rfl (L.nil ?_)
        refine WpC.ret ?_
        cases H
        exact Leaves.ret rfl rfl rfl ⟨rfl, rfl⟩
       ·replace H := condF hc H
        refine WpC.skip (WpC.seq (WpC.seq (WpC.regionL ?_)))
        refine L.fieldAddr Try.underlying72 rfl info68 rfl hF rfl rfl rfl rfl rfl ?_
        refine L.loadPtr shape68 hF rfl rfl rfl rfl rfl rfl ?_
        refine L.fieldAddr Try.underlying72 rfl info68 rfl hF rfl rfl rfl rfl rfl ?_
        refine L.loadPtr shape68 hF rfl rfl rfl rfl rfl rfl ?_
        obtain ⟨r12, hr12, H⟩ := bindS H
        refine L.call [false, false] [] [] 39 hF rfl rfl rfl ent100 rfl rfl rfl rfl rfl (Flaws_eqCacheS_gives k g9 g22 a0.Caches a1.Caches r12 hr12) rfl ?_
        refine L.not hF rfl rfl rfl (L.nil ?_)
        refine WpC.cond rfl (fun hc => ?_) (fun hc => ?_)
        ·replace H := condT hc H
         refine WpC.seq (WpC.regionL ?_)
         refine L.assign hF rfl rfl rfl (L.nil ?_)
         refine WpC.ret ?_
         cases H
         exact Leaves.ret rfl rfl rfl ⟨rfl, rfl⟩
        ·replace H := condF hc H
         refine WpC.skip (WpC.seq (WpC.seq (WpC.regionL ?_)))
         refine L.fieldAddr Try.underlying72 rfl info69 rfl hF rfl rfl rfl rfl rfl ?_
         refine L.loadPtr shape69 hF rfl rfl rfl rfl rfl rfl ?_
         refine L.fieldAddr Try.underlying72 rfl info69 rfl hF rfl rfl rfl rfl rfl ?_
         refine L.loadPtr shape69 hF rfl rfl rfl rfl rfl rfl ?_
         obtain ⟨r14, hr14, H⟩ := bindS H
         refine L.call [false, false] [] [] 40 hF rfl rfl rfl ent101 rfl rfl rfl rfl rfl (Flaws_eqEventS_gives k g10 g23 a0.Log a1.Log r14 hr14) rfl ?_
         refine L.not hF rfl rfl rfl (L.nil ?_)
         refine WpC.cond rfl (fun hc => ?_) (fun hc => ?_)
         ·replace H := condT hc H
          refine WpC.seq (WpC.regionL ?_)
          refine L.assign hF rfl rfl rfl (L.nil ?_)
          refine WpC.ret ?_
          cases H
          exact Leaves.ret rfl rfl rfl ⟨rfl, rfl⟩
         ·replace H := condF hc H
          refine WpC.skip (WpC.seq (WpC.seq (WpC.regionL ?_)))
          refine L.fieldAddr Try.underlying72 rfl info70 rfl hF rfl rfl rfl rfl rfl ?_
          refine L.loadPtr shape70 hF rfl rfl rfl rfl rfl rfl ?_
          refine L.fieldAddr Try.underlying72 rfl info70 rfl hF rfl rfl rfl rfl rfl ?_
          refine L.loadPtr shape70 hF rfl rfl rfl rfl rfl rfl ?_
          obtain ⟨r16, hr16, H⟩ := bindS H
          refine L.call [false, false] [] [] 41 hF rfl rfl rfl ent102 rfl rfl rfl rfl rfl (Flaws_eqAcceptS_gives k g11 g24 a0.Accepts a1.Accepts r16 hr16) rfl ?_
          refine L.not hF rfl rfl rfl (L.nil ?_)
          refine WpC.cond rfl (fun hc => ?_) (fun hc => ?_)
          ·replace H := condT hc H
           refine WpC.seq (WpC.regionL ?_)
           refine L.assign hF rfl rfl rfl (L.nil ?_)
           refine WpC.ret ?_
           cases H
           exact Leaves.ret rfl rfl rfl ⟨rfl, rfl⟩
          ·replace H := condF hc H
           refine WpC.skip (WpC.seq (WpC.seq (WpC.regionL ?_)))
           refine L.fieldAddr Try.underlying72 rfl info39 rfl hF rfl rfl rfl rfl rfl ?_
           refine L.loadPtr shape39 hF rfl rfl rfl rfl rfl rfl ?_
           refine L.fieldAddr Try.underlying72 rfl info39 rfl hF rfl rfl rfl rfl rfl ?_
           refine L.loadPtr shape39 hF rfl rfl rfl rfl rfl rfl ?_
           obtain ⟨r18, hr18, H⟩ := bindS H
           refine L.call [false, false] [] [] 42 hF rfl rfl rfl ent103 rfl rfl rfl rfl rfl (Flaws_eqIntS_gives k g12 g25 a0.Leaked a1.Leaked r18 hr18) rfl ?_
           refine L.not hF rfl rfl rfl (L.nil ?_)
           refine WpC.cond rfl (fun hc => ?_) (fun hc => ?_)
           ·replace H := condT hc H
            refine WpC.seq (WpC.regionL ?_)
            refine L.assign hF rfl rfl rfl (L.nil ?_)
            refine WpC.ret ?_
            cases H
            exact Leaves.ret rfl rfl rfl ⟨rfl, rfl⟩
           ·replace H := condF hc H
            refine WpC.skip (WpC.seq (WpC.regionL ?_))
            refine L.assign hF rfl rfl rfl (L.nil ?_)
            refine WpC.ret ?_
            cases H
            exact Leaves.ret rfl rfl rfl ⟨rfl, rfl⟩
/-! ### Flaws_markIntS -/
def Flaws_markIntS.l2 : Nat → (List Int) → Int → Int → Option (Int × List Int)
 | 0, _, _, _ => none
 | k2 + 1, v24, v25, v26 => cond (decide (v26 < (v24.length : Int))) ((at? v24 v26).bind fun b28 => (Flaws_markIntS.l2 k2) (v24.set v26.toNat v25) (IntKind.i64.wrap (v25 + (1 : Int))) (IntKind.i64.wrap (v26 + (1 : Int)))) (some (v25, v24))
def Flaws_markIntS (k : Nat) (a0 : List Int) (a1 : Int) : Option (Int × List Int) := Flaws_markIntS.l2 k a0 a1 (0 : Int)
theorem ent55 : MG.Enters Try.prog 55 := ⟨Try.f55, Try.func55, rfl, by decide⟩
set_option maxHeartbeats 8000000 in
set_option maxRecDepth 100000 in
theorem Flaws_markIntS_gives (k : Nat) (a0 : List Int) (a1 : Int) (r : Int × List Int) (H : Flaws_markIntS k a0 a1 = some r) : GivesB Try.prog 55 [V.one (Cell.ow 1 (List.map eI a0)), V.one (cI a1)] [] [0] [V.one (cI r.1)] [] [V.one (Cell.ow 1 (List.map eI r.2))] := by
 refine GivesB.intro Try.func55 rfl rfl rfl rfl rfl rfl ?_
 intro F hF hm
 unfold Flaws_markIntS at H
 obtain ⟨K, hK⟩ : ∃ K, k ≤ K := ⟨k, Nat.le_refl k⟩
 refine WpC.seq (WpC.regionL ?_)
 refine L.assign hF rfl rfl rfl (L.nil ?_)
 refine WpC.seq (WpC.seq (WpC.regionL ?_))
 refine L.assign hF rfl rfl rfl (L.nil ?_)
 refine WpC.block ?_
 refine WpC.loopL (P := Try.prog) (fun n σ => ∃ v24 : List Int, ∃ v25 : Int, ∃ v26 : Int, n ≤ K ∧ Flaws_markIntS.l2 n v24 v25 v26 = some r ∧ σ = mkSt [(0, one (Cell.own 0)), (1, one (cI v25)), (5, one (cI v26))] [(0, ⟨1, List.map eI v24⟩)] [] 2) k ⟨_, ⟨a0, a1, (0 : Int), by omega, H, rfl⟩, Le.mk [(0, 0)] hm rfl (Sa2 (Sa1 trivial)) (Ra1 trivial) trivial⟩ ?_
 clear H
 rintro k2 _ ⟨v24, v25, v26, hk2, H, rfl⟩
 cases k2 with
 | zero => cases H
 | succ k2 =>
  rw [Flaws_markIntS.l2] at H
  refine WpC.seq (WpC.seq (WpC.regionL ?_))
  refine L.move hF rfl rfl rfl ?_
  refine L.move hF rfl rfl rfl ?_
  refine L.lenR (xs := v24) (e := eI) Try.underlying39 hF rfl rfl rfl rfl ?_
  refine L.bin hF rfl rfl rfl rfl rfl rfl (L.nil ?_)
  refine WpC.cond rfl (fun hc => ?_) (fun hc => ?_)
  ·replace H := condT hc H
   refine WpC.skip (WpC.seq (WpC.block (WpC.seq (WpC.regionL ?_))))
   refine L.move hF rfl rfl rfl ?_
   refine L.move hF rfl rfl rfl ?_
   refine L.move hF rfl rfl rfl ?_
   obtain ⟨b28, hb28, H⟩ := bindS H
   refine L.idxR (xs := v24) (e := eI) Try.underlying39 info3 hF rfl rfl rfl rfl rfl hb28 rfl rfl ?_
   refine L.storeEp (xs := v24) (e := eI) (a' := v25) shape3 hF rfl rfl rfl rfl rfl rfl rfl (at?_get hb28).2 rfl rfl ?_
   refine L.nil ?_
   refine WpC.regionL ?_
   refine L.move hF rfl rfl rfl ?_
   refine L.bin hF rfl rfl rfl rfl rfl rfl ?_
   refine L.assign hF rfl rfl rfl (L.nil ?_)
   refine WpC.regionL ?_
   refine L.move hF rfl rfl rfl ?_
   refine L.bin hF rfl rfl rfl rfl rfl rfl ?_
   refine L.assign hF rfl rfl rfl (L.nil ?_)
   exact ⟨k2, _, by omega, ⟨(v24.set v26.toNat v25), (IntKind.i64.wrap (v25 + (1 : Int))), (IntKind.i64.wrap (v26 + (1 : Int))), by omega, H, rfl⟩, Le.mk [(0, 0)] hm rfl (Sa2 (Sa1 trivial)) (Ra1 trivial) trivial⟩
  ·replace H := condF hc H
   refine WpC.exit (WpC.seq (WpC.regionL ?_))
   refine L.move hF rfl rfl rfl ?_
   refine L.assign hF rfl rfl rfl (L.nil ?_)
   refine WpC.ret ?_
   cases H
   exact Leaves.retB rfl rfl rfl rfl ⟨rfl, rfl, rfl⟩
/-! ### Flaws_markPairS -/
def Flaws_markPairS.l2 : Nat → (List Timpl_Pair) → Int → Int → Option (Int × List Timpl_Pair)
 | 0, _, _, _ => none
 | k2 + 1, v34, v35, v36 => cond (decide (v36 < (v34.length : Int))) ((at? v34 v36).bind fun b39 => (at? (v34.set v36.toNat (⟨v35, b39.B⟩ : Timpl_Pair)) v36).bind fun b40 => (Flaws_markPairS.l2 k2) (v34.set v36.toNat (⟨b40.A, (IntKind.i64.wrap (v35 + (1 : Int)))⟩ : Timpl_Pair)) (IntKind.i64.wrap ((IntKind.i64.wrap (v35 + (1 : Int))) + (1 : Int))) (IntKind.i64.wrap (v36 + (1 : Int)))) (some (v35, v34))
def Flaws_markPairS (k : Nat) (a0 : List Timpl_Pair) (a1 : Int) : Option (Int × List Timpl_Pair) := Flaws_markPairS.l2 k a0 a1 (0 : Int)
theorem ent105 : MG.Enters Try.prog 105 := ⟨Try.f105, Try.func105, rfl, by decide⟩
set_option maxHeartbeats 8000000 in
set_option maxRecDepth 100000 in
theorem Flaws_markPairS_gives (k : Nat) (a0 : List Timpl_Pair) (a1 : Int) (r : Int × List Timpl_Pair) (H : Flaws_markPairS k a0 a1 = some r) : GivesB Try.prog 105 [V.one (Cell.ow 2 (List.map eTimpl_Pair a0)), V.one (cI a1)] [] [0] [V.one (cI r.1)] [] [V.one (Cell.ow 2 (List.map eTimpl_Pair r.2))] := by
 refine GivesB.intro Try.func105 rfl rfl rfl rfl rfl rfl ?_
 intro F hF hm
 unfold Flaws_markPairS at H
 obtain ⟨K, hK⟩ : ∃ K, k ≤ K := ⟨k, Nat.le_refl k⟩
 refine WpC.seq (WpC.regionL ?_)
 refine L.assign hF rfl rfl rfl (L.nil ?_)
 refine WpC.seq (WpC.seq (WpC.regionL ?_))
 refine L.assign hF rfl rfl rfl (L.nil ?_)
 refine WpC.block ?_
 refine WpC.loopL (P := Try.prog) (fun n σ => ∃ v34 : List Timpl_Pair, ∃ v35 : Int, ∃ v36 : Int, n ≤ K ∧ Flaws_markPairS.l2 n v34 v35 v36 = some r ∧ σ = mkSt [(0, one (Cell.own 0)), (1, one (cI v35)), (5, one (cI v36))] [(0, ⟨2, List.map eTimpl_Pair v34⟩)] [] 2) k ⟨_, ⟨a0, a1, (0 : Int), by omega, H, rfl⟩, Le.mk [(0, 0)] hm rfl (Sa2 (Sa1 trivial)) (Ra1 trivial) trivial⟩ ?_
 clear H
 rintro k2 _ ⟨v34, v35, v36, hk2, H, rfl⟩
 cases k2 with
 | zero => cases H
 | succ k2 =>
  rw [Flaws_markPairS.l2] at H
  refine WpC.seq (WpC.seq (WpC.regionL ?_))
  refine L.move hF rfl rfl rfl ?_
  refine L.move hF rfl rfl rfl ?_
  refine L.lenR (xs := v34) (e := eTimpl_Pair) Try.underlying60 hF rfl rfl rfl rfl ?_
  refine L.bin hF rfl rfl rfl rfl rfl rfl (L.nil ?_)
  refine WpC.cond rfl (fun hc => ?_) (fun hc => ?_)
  ·replace H := condT hc H
   refine WpC.skip (WpC.seq (WpC.block (WpC.seq (WpC.regionL ?_))))
   refine L.move hF rfl rfl rfl ?_
   refine L.move hF rfl rfl rfl ?_
   refine L.move hF rfl rfl rfl ?_
   obtain ⟨b39, hb39, H⟩ := bindS H
   refine L.idxR (xs := v34) (e := eTimpl_Pair) Try.underlying60 info164 hF rfl rfl rfl rfl rfl hb39 rfl rfl ?_
   refine L.fieldAddr Try.underlying164 rfl info3 rfl hF rfl rfl rfl rfl rfl ?_
   refine L.storeEp (xs := v34) (e := eTimpl_Pair) (a' := (⟨v35, b39.B⟩ : Timpl_Pair)) shape3 hF rfl rfl rfl rfl rfl rfl rfl (at?_get hb39).2 rfl rfl ?_
   refine L.nil ?_
   refine WpC.seq (WpC.regionL ?_)
   refine L.move hF rfl rfl rfl ?_
   refine L.bin hF rfl rfl rfl rfl rfl rfl ?_
   refine L.assign hF rfl rfl rfl (L.nil ?_)
   refine WpC.seq (WpC.regionL ?_)
   refine L.move hF rfl rfl rfl ?_
   refine L.move hF rfl rfl rfl ?_
   refine L.move hF rfl rfl rfl ?_
   obtain ⟨b40, hb40, H⟩ := bindS H
   refine L.idxR (xs := (v34.set v36.toNat (⟨v35, b39.B⟩ : Timpl_Pair))) (e := eTimpl_Pair) Try.underlying60 info164 hF rfl rfl rfl rfl rfl hb40 rfl rfl ?_
   refine L.fieldAddr Try.underlying164 rfl info3 rfl hF rfl rfl rfl rfl rfl ?_
   refine L.storeEp (xs := (v34.set v36.toNat (⟨v35, b39.B⟩ : Timpl_Pair))) (e := eTimpl_Pair) (a' := (⟨b40.A, (IntKind.i64.wrap (v35 + (1 : Int)))⟩ : Timpl_Pair)) shape3 hF rfl rfl rfl rfl rfl rfl rfl (at?_get hb40).2 rfl rfl ?_
   refine L.le (Le.ss 0 rfl) (L.nil ?_)
   refine WpC.regionL ?_
   refine L.move hF rfl rfl rfl ?_
   refine L.bin hF rfl rfl rfl rfl rfl rfl ?_
   refine L.assign hF rfl rfl rfl (L.nil ?_)
   refine WpC.regionL ?_
   refine L.move hF rfl rfl rfl ?_
   refine L.bin hF rfl rfl rfl rfl rfl rfl ?_
   refine L.assign hF rfl rfl rfl (L.nil ?_)
   exact ⟨k2, _, by omega, ⟨(v34.set v36.toNat (⟨b40.A, (IntKind.i64.wrap (v35 + (1 : Int)))⟩ : Timpl_Pair)), (IntKind.i64.wrap ((IntKind.i64.wrap (v35 + (1 : Int))) + (1 : Int))), (IntKind.i64.wrap (v36 + (1 : Int))), by omega, H, rfl⟩, Le.mk [(0, 0)] hm rfl (Sa2 (Sa1 trivial)) (Ra1 trivial) trivial⟩
  ·replace H := condF hc H
   refine WpC.exit (WpC.seq (WpC.regionL ?_))
   refine L.move hF rfl rfl rfl ?_
   refine L.assign hF rfl rfl rfl (L.nil ?_)
   refine WpC.ret ?_
   cases H
   exact Leaves.retB rfl rfl rfl rfl ⟨rfl, rfl, rfl⟩
/-! ### Flaws_markConfig -/
def Flaws_markConfig (k : Nat) (a0 : Timpl_Config) (a1 : Int) : Option (Int × List Int × List Int × List Timpl_Pair × List Timpl_Pair) := (Flaws_markIntS k a0.UserRealm a1).bind fun r1 => (Flaws_markIntS k a0.ServiceRealm r1.1).bind fun r2 => (Flaws_markPairS k a0.Links r2.1).bind fun r3 => (Flaws_markPairS k a0.Proxy r3.1).bind fun r4 => some (r4.1, r1.2, r2.2, r3.2, r4.2)
theorem ent48 : MG.Enters Try.prog 48 := ⟨Try.f48, Try.func48, rfl, by decide⟩
set_option maxHeartbeats 8000000 in
set_option maxRecDepth 100000 in
theorem Flaws_markConfig_gives (k : Nat) (a0 : Timpl_Config) (a1 : Int) (r : Int × List Int × List Int × List Timpl_Pair × List Timpl_Pair) (H : Flaws_markConfig k a0 a1 = some r) : GivesB Try.prog 48 [V.agg [Cell.ow 1 (List.map eI a0.UserRealm), Cell.ow 1 (List.map eI a0.ServiceRealm), Cell.ow 2 (List.map eTimpl_Pair a0.Links), Cell.ow 2 (List.map eTimpl_Pair a0.Proxy), cI a0.Skew], V.one (cI a1)] [] [0] [V.one (cI r.1)] [] [V.agg [Cell.ow 1 (List.map eI r.2.1), Cell.ow 1 (List.map eI r.2.2.1), Cell.ow 2 (List.map eTimpl_Pair r.2.2.2.1), Cell.ow 2 (List.map eTimpl_Pair r.2.2.2.2), cI a0.Skew]] := by
 refine GivesB.intro Try.func48 rfl rfl rfl rfl rfl rfl ?_
 intro F hF hm
 unfold Flaws_markConfig at H
 obtain ⟨K, hK⟩ : ∃ K, k ≤ K := ⟨k, Nat.le_refl k⟩
 refine WpC.seq (WpC.regionL ?_)
 refine L.box 6 hF rfl rfl rfl rfl ?_
 refine L.assign hF rfl rfl rfl (L.nil ?_)
 refine WpC.seq (WpC.regionL ?_)
 refine L.fieldAddr Try.underlying62 rfl info39 rfl hF rfl rfl rfl rfl rfl ?_
 refine L.loadPtr shape39 hF rfl rfl rfl rfl rfl rfl ?_
 refine L.move hF rfl rfl rfl ?_
 obtain ⟨r1, hr1, H⟩ := bindS H
 refine L.callB [true, false] [] [] 7 [0] hF rfl rfl rfl ent55 rfl rfl rfl rfl rfl (Flaws_markIntS_gives k  a0.UserRealm a1 r1 hr1) rfl rfl rfl ?_
 refine L.assign hF rfl rfl rfl (L.nil ?_)
 refine WpC.seq (WpC.regionL ?_)
 refine L.fieldAddr Try.underlying62 rfl info39 rfl hF rfl rfl rfl rfl rfl ?_
 refine L.loadPtr shape39 hF rfl rfl rfl rfl rfl rfl ?_
 refine L.move hF rfl rfl rfl ?_
 obtain ⟨r2, hr2, H⟩ := bindS H
 refine L.callB [true, false] [] [] 8 [0] hF rfl rfl rfl ent55 rfl rfl rfl rfl rfl (Flaws_markIntS_gives k  a0.ServiceRealm r1.1 r2 hr2) rfl rfl rfl ?_
 refine L.assign hF rfl rfl rfl (L.nil ?_)
 refine WpC.seq (WpC.regionL ?_)
 refine L.fieldAddr Try.underlying62 rfl info60 rfl hF rfl rfl rfl rfl rfl ?_
 refine L.loadPtr shape60 hF rfl rfl rfl rfl rfl rfl ?_
 refine L.move hF rfl rfl rfl ?_
 obtain ⟨r3, hr3, H⟩ := bindS H
 refine L.callB [true, false] [] [] 9 [0] hF rfl rfl rfl ent105 rfl rfl rfl rfl rfl (Flaws_markPairS_gives k  a0.Links r2.1 r3 hr3) rfl rfl rfl ?_
 refine L.assign hF rfl rfl rfl (L.nil ?_)
 refine WpC.seq (WpC.regionL ?_)
 refine L.fieldAddr Try.underlying62 rfl info60 rfl hF rfl rfl rfl rfl rfl ?_
 refine L.loadPtr shape60 hF rfl rfl rfl rfl rfl rfl ?_
 refine L.move hF rfl rfl rfl ?_
 obtain ⟨r4, hr4, H⟩ := bindS H
 refine L.callB [true, false] [] [] 10 [0] hF rfl rfl rfl ent105 rfl rfl rfl rfl rfl (Flaws_markPairS_gives k  a0.Proxy r3.1 r4 hr4) rfl rfl rfl ?_
 refine L.assign hF rfl rfl rfl (L.nil ?_)
 refine WpC.seq (WpC.regionL ?_)
 refine L.move hF rfl rfl rfl ?_
 refine L.assign hF rfl rfl rfl (L.nil ?_)
 refine WpC.ret ?_
 cases H
 exact Leaves.retB rfl rfl rfl rfl ⟨rfl, rfl, rfl⟩
/-! ### Flaws_markText -/
def Flaws_markText.l2 : Nat → Int → (List UInt8) → Option (List UInt8)
 | 0, _, _ => none
 | k2 + 1, v14, v15 => cond (decide (v14 > (0 : Int))) (cond (decide (([(ofI (IntKind.i64.wrap ((48 : Int) + (Int.tmod v14 (10 : Int)))))] : List UInt8).length + v15.length ≤ 9223372036854775807)) ((Flaws_markText.l2 k2) (IntKind.i64.wrap (Int.tdiv v14 (10 : Int))) (([(ofI (IntKind.i64.wrap ((48 : Int) + (Int.tmod v14 (10 : Int)))))] : List UInt8) ++ v15)) none) (cond (decide (([109] : List UInt8).length + v15.length ≤ 9223372036854775807)) (some (([109] : List UInt8) ++ v15)) none)
def Flaws_markText (k : Nat) (a0 : Int) : Option (List UInt8) := cond (decide (a0 ≤ (0 : Int))) (some ([109, 48] : List UInt8)) (Flaws_markText.l2 k a0 ([] : List UInt8))
theorem ent54 : MG.Enters Try.prog 54 := ⟨Try.f54, Try.func54, rfl, by decide⟩
set_option maxHeartbeats 8000000 in
set_option maxRecDepth 100000 in
theorem Flaws_markText_gives (k : Nat) (a0 : Int) (r : List UInt8) (H : Flaws_markText k a0 = some r) : Gives Try.prog 54 [V.one (cI a0)] [] [V.one (cS r)] [] := by
 refine Gives.intro Try.func54 rfl rfl rfl rfl ?_
 intro F hF hm
 unfold Flaws_markText at H
 obtain ⟨K, hK⟩ : ∃ K, k ≤ K := ⟨k, Nat.le_refl k⟩
 refine WpC.seq (WpC.regionL ?_)
 refine L.assign hF rfl rfl rfl (L.nil ?_)
 refine WpC.seq (WpC.seq (WpC.regionL ?_))
 refine L.move hF rfl rfl rfl ?_
 refine L.bin hF rfl rfl rfl rfl rfl rfl (L.nil ?_)
 refine WpC.cond rfl (fun hc => ?_) (fun hc => ?_)
 ·replace H := condT hc H
  refine WpC.seq (WpC.regionL ?_)
  refine L.assign hF rfl rfl rfl (L.nil ?_)
  refine WpC.ret ?_
  cases H
  exact Leaves.ret rfl rfl rfl ⟨rfl, rfl⟩
 ·replace H := condF hc H
  refine WpC.skip (WpC.seq (WpC.regionL ?_))
  refine L.assign hF rfl rfl rfl (L.nil ?_)
  refine WpC.seq (WpC.block ?_)
  refine WpC.loopL (P := Try.prog) (fun n σ => ∃ v14 : Int, ∃ v15 : List UInt8, n ≤ K ∧ Flaws_markText.l2 n v14 v15 = some r ∧ σ = mkSt [(0, one (cI v14)), (3, one (cS v15))] [] [] 0) k ⟨_, ⟨a0, ([] : List UInt8), by omega, H, rfl⟩, Le.mk [] hm rfl (Sa2 trivial) trivial trivial⟩ ?_
  clear H
  rintro k2 _ ⟨v14, v15, hk2, H, rfl⟩
  cases k2 with
  | zero => cases H
  | succ k2 =>
   rw [Flaws_markText.l2] at H
   refine WpC.seq (WpC.seq (WpC.regionL ?_))
   refine L.move hF rfl rfl rfl ?_
   refine L.bin hF rfl rfl rfl rfl rfl rfl (L.nil ?_)
   refine WpC.cond rfl (fun hc => ?_) (fun hc => ?_)
   ·replace H := condT hc H
    refine WpC.skip (WpC.block (WpC.seq (WpC.regionL ?_)))
    refine L.move hF rfl rfl rfl ?_
    refine L.rem hF rfl rfl rfl rfl (by decide) ?_
    refine L.bin hF rfl rfl rfl rfl rfl rfl ?_
    refine L.toB Try.underlying3 Try.underlying5 hF rfl rfl rfl ?_
    refine L.buildSlice (e := eB) 0 ([(ofI (IntKind.i64.wrap ((48 : Int) + (Int.tmod v14 (10 : Int)))))] : List UInt8) Try.underlying33 info5 rfl rfl rfl hF rfl rfl rfl rfl rfl rfl rfl rfl ?_
    refine L.b2s (xs := ([(ofI (IntKind.i64.wrap ((48 : Int) + (Int.tmod v14 (10 : Int)))))] : List UInt8)) Try.underlying33 Try.underlying5 Try.underlying9 hF rfl rfl rfl rfl ?_
    refine L.move hF rfl rfl rfl ?_
    obtain ⟨h16, H⟩ := condG H
    refine L.catS hF rfl rfl rfl rfl (of_decide_eq_true h16) ?_
    refine L.assign hF rfl rfl rfl (L.nil ?_)
    refine WpC.regionL ?_
    refine L.move hF rfl rfl rfl ?_
    refine L.quo hF rfl rfl rfl rfl (by decide) ?_
    refine L.assign hF rfl rfl rfl (L.nil ?_)
    exact ⟨k2, _, by omega, ⟨(IntKind.i64.wrap (Int.tdiv v14 (10 : Int))), (([(ofI (IntKind.i64.wrap ((48 : Int) + (Int.tmod v14 (10 : Int)))))] : List UInt8) ++ v15), by omega, H, rfl⟩, Le.mk [] hm rfl (Sa2 trivial) trivial trivial⟩
   ·replace H := condF hc H
    refine WpC.exit (WpC.seq (WpC.regionL ?_))
    refine L.move hF rfl rfl rfl ?_
    obtain ⟨h17, H⟩ := condG H
    refine L.catS hF rfl rfl rfl rfl (of_decide_eq_true h17) ?_
    refine L.assign hF rfl rfl rfl (L.nil ?_)
    refine WpC.ret ?_
    cases H
    exact Leaves.ret rfl rfl rfl ⟨rfl, rfl⟩
/-! ### Flaws_markStringS -/
def Flaws_markStringS.l2 : Nat → (List (List UInt8)) → Int → Int → Option (Int × List (List UInt8))
 | 0, _, _, _ => none
 | k2 + 1, v34, v35, v36 => cond (decide (v36 < (v34.length : Int))) ((Flaws_markText k2 v35).bind fun r39 => (at? v34 v36).bind fun b40 => (Flaws_markStringS.l2 k2) (v34.set v36.toNat r39) (IntKind.i64.wrap (v35 + (1 : Int))) (IntKind.i64.wrap (v36 + (1 : Int)))) (some (v35, v34))
def Flaws_markStringS (k : Nat) (a0 : List (List UInt8)) (a1 : Int) : Option (Int × List (List UInt8)) := Flaws_markStringS.l2 k a0 a1 (0 : Int)
theorem ent106 : MG.Enters Try.prog 106 := ⟨Try.f106, Try.func106, rfl, by decide⟩
set_option maxHeartbeats 8000000 in
set_option maxRecDepth 100000 in
theorem Flaws_markStringS_gives (k : Nat) (a0 : List (List UInt8)) (a1 : Int) (r : Int × List (List UInt8)) (H : Flaws_markStringS k a0 a1 = some r) : GivesB Try.prog 106 [V.one (Cell.ow 1 (List.map eS a0)), V.one (cI a1)] [] [0] [V.one (cI r.1)] [] [V.one (Cell.ow 1 (List.map eS r.2))] := by
 refine GivesB.intro Try.func106 rfl rfl rfl rfl rfl rfl ?_
 intro F hF hm
 unfold Flaws_markStringS at H
 obtain ⟨K, hK⟩ : ∃ K, k ≤ K := ⟨k, Nat.le_refl k⟩
 refine WpC.seq (WpC.regionL ?_)
 refine L.assign hF rfl rfl rfl (L.nil ?_)
 refine WpC.seq (WpC.seq (WpC.regionL ?_))
 refine L.assign hF rfl rfl rfl (L.nil ?_)
 refine WpC.block ?_
 refine WpC.loopL (P := Try.prog) (fun n σ => ∃ v34 : List (List UInt8), ∃ v35 : Int, ∃ v36 : Int, n ≤ K ∧ Flaws_markStringS.l2 n v34 v35 v36 = some r ∧ σ = mkSt [(0, one (Cell.own 0)), (1, one (cI v35)), (5, one (cI v36))] [(0, ⟨1, List.map eS v34⟩)] [] 2) k ⟨_, ⟨a0, a1, (0 : Int), by omega, H, rfl⟩, Le.mk [(0, 0)] hm rfl (Sa2 (Sa1 trivial)) (Ra1 trivial) trivial⟩ ?_
 clear H
 rintro k2 _ ⟨v34, v35, v36, hk2, H, rfl⟩
 cases k2 with
 | zero => cases H
 | succ k2 =>
  rw [Flaws_markStringS.l2] at H
  refine WpC.seq (WpC.seq (WpC.regionL ?_))
  refine L.move hF rfl rfl rfl ?_
  refine L.move hF rfl rfl rfl ?_
  refine L.lenR (xs := v34) (e := eS) Try.underlying63 hF rfl rfl rfl rfl ?_
  refine L.bin hF rfl rfl rfl rfl rfl rfl (L.nil ?_)
  refine WpC.cond rfl (fun hc => ?_) (fun hc => ?_)
  ·replace H := condT hc H
   refine WpC.skip (WpC.seq (WpC.block (WpC.seq (WpC.regionL ?_))))
   refine L.move hF rfl rfl rfl ?_
   refine L.move hF rfl rfl rfl ?_
   refine L.move hF rfl rfl rfl ?_
   obtain ⟨r39, hr39, H⟩ := bindS H
   refine L.call [false] [] [] 2 hF rfl rfl rfl ent54 rfl rfl rfl rfl rfl (Flaws_markText_gives k2  v35 r39 hr39) rfl ?_
   obtain ⟨b40, hb40, H⟩ := bindS H
   refine L.idxR (xs := v34) (e := eS) Try.underlying63 info9 hF rfl rfl rfl rfl rfl hb40 rfl rfl ?_
   refine L.storeEp (xs := v34) (e := eS) (a' := r39) shape9 hF rfl rfl rfl rfl rfl rfl rfl (at?_get hb40).2 rfl rfl ?_
   refine L.nil ?_
   refine WpC.regionL ?_
   refine L.move hF rfl rfl rfl ?_
   refine L.bin hF rfl rfl rfl rfl rfl rfl ?_
   refine L.assign hF rfl rfl rfl (L.nil ?_)
   refine WpC.regionL ?_
   refine L.move hF rfl rfl rfl ?_
   refine L.bin hF rfl rfl rfl rfl rfl rfl ?_
   refine L.assign hF rfl rfl rfl (L.nil ?_)
   exact ⟨k2, _, by omega, ⟨(v34.set v36.toNat r39), (IntKind.i64.wrap (v35 + (1 : Int))), (IntKind.i64.wrap (v36 + (1 : Int))), by omega, H, rfl⟩, Le.mk [(0, 0)] hm rfl (Sa2 (Sa1 trivial)) (Ra1 trivial) trivial⟩
  ·replace H := condF hc H
   refine WpC.exit (WpC.seq (WpC.regionL ?_))
   refine L.move hF rfl rfl rfl ?_
   refine L.assign hF rfl rfl rfl (L.nil ?_)
   refine WpC.ret ?_
   cases H
   exact Leaves.retB rfl rfl rfl rfl ⟨rfl, rfl, rfl⟩
/-! ### Flaws_markKnown -/
def Flaws_markKnown (k : Nat) (a0 : Timpl_Known) (a1 : Int) : Option (Int × List (List UInt8) × List Int) := (Flaws_markStringS k a0.Terms a1).bind fun r1 => (Flaws_markIntS k a0.Keys r1.1).bind fun r2 => some (r2.1, r1.2, r2.2)
theorem ent107 : MG.Enters Try.prog 107 := ⟨Try.f107, Try.func107, rfl, by decide⟩
set_option maxHeartbeats 8000000 in
set_option maxRecDepth 100000 in
theorem Flaws_markKnown_gives (k : Nat) (a0 : Timpl_Known) (a1 : Int) (r : Int × List (List UInt8) × List Int) (H : Flaws_markKnown k a0 a1 = some r) : GivesB Try.prog 107 [V.agg [Cell.ow 1 (List.map eS a0.Terms), Cell.ow 1 (List.map eI a0.Keys)], V.one (cI a1)] [] [0] [V.one (cI r.1)] [] [V.agg [Cell.ow 1 (List.map eS r.2.1), Cell.ow 1 (List.map eI r.2.2)]] := by
 refine GivesB.intro Try.func107 rfl rfl rfl rfl rfl rfl ?_
 intro F hF hm
 unfold Flaws_markKnown at H
 obtain ⟨K, hK⟩ : ∃ K, k ≤ K := ⟨k, Nat.le_refl k⟩
 refine WpC.seq (WpC.regionL ?_)
 refine L.box 3 hF rfl rfl rfl rfl ?_
 refine L.assign hF rfl rfl rfl (L.nil ?_)
 refine WpC.seq (WpC.regionL ?_)
 refine L.fieldAddr Try.underlying65 rfl info63 rfl hF rfl rfl rfl rfl rfl ?_
 refine L.loadPtr shape63 hF rfl rfl rfl rfl rfl rfl ?_
 refine L.move hF rfl rfl rfl ?_
 obtain ⟨r1, hr1, H⟩ := bindS H
 refine L.callB [true, false] [] [] 4 [0] hF rfl rfl rfl ent106 rfl rfl rfl rfl rfl (Flaws_markStringS_gives k  a0.Terms a1 r1 hr1) rfl rfl rfl ?_
 refine L.assign hF rfl rfl rfl (L.nil ?_)
 refine WpC.seq (WpC.regionL ?_)
 refine L.fieldAddr Try.underlying65 rfl info39 rfl hF rfl rfl rfl rfl rfl ?_
 refine L.loadPtr shape39 hF rfl rfl rfl rfl rfl rfl ?_
 refine L.move hF rfl rfl rfl ?_
 obtain ⟨r2, hr2, H⟩ := bindS H
 refine L.callB [true, false] [] [] 5 [0] hF rfl rfl rfl ent55 rfl rfl rfl rfl rfl (Flaws_markIntS_gives k  a0.Keys r1.1 r2 hr2) rfl rfl rfl ?_
 refine L.assign hF rfl rfl rfl (L.nil ?_)
 refine WpC.seq (WpC.regionL ?_)
 refine L.move hF rfl rfl rfl ?_
 refine L.assign hF rfl rfl rfl (L.nil ?_)
 refine WpC.ret ?_
 cases H
 exact Leaves.retB rfl rfl rfl rfl ⟨rfl, rfl, rfl⟩
/-! ### Flaws_markWaitS -/
def Flaws_markWaitS.l2 : Nat → (List Timpl_Wait) → Int → Int → Option (Int × List Timpl_Wait)
 | 0, _, _, _ => none
 | k2 + 1, v54, v55, v56 => cond (decide (v56 < (v54.length : Int))) ((at? v54 v56).bind fun b61 => (at? (v54.set v56.toNat (⟨((Int.tmod v55 (3 : Int)) == (0 : Int)), b61.Nonce, b61.Key, b61.Client⟩ : Timpl_Wait)) v56).bind fun b62 => (at? (v54.set v56.toNat (⟨b62.On, (IntKind.i64.wrap (v55 + (1 : Int))), b62.Key, b62.Client⟩ : Timpl_Wait)) v56).bind fun b63 => (at? (v54.set v56.toNat (⟨b63.On, b63.Nonce, (IntKind.i64.wrap ((IntKind.i64.wrap (v55 + (1 : Int))) + (1 : Int))), b63.Client⟩ : Timpl_Wait)) v56).bind fun b64 => (Flaws_markWaitS.l2 k2) (v54.set v56.toNat (⟨b64.On, b64.Nonce, b64.Key, (IntKind.i64.wrap ((IntKind.i64.wrap ((IntKind.i64.wrap (v55 + (1 : Int))) + (1 : Int))) + (1 : Int)))⟩ : Timpl_Wait)) (IntKind.i64.wrap ((IntKind.i64.wrap ((IntKind.i64.wrap ((IntKind.i64.wrap (v55 + (1 : Int))) + (1 : Int))) + (1 : Int))) + (1 : Int))) (IntKind.i64.wrap (v56 + (1 : Int)))) (some (v55, v54))
def Flaws_markWaitS (k : Nat) (a0 : List Timpl_Wait) (a1 : Int) : Option (Int × List Timpl_Wait) := Flaws_markWaitS.l2 k a0 a1 (0 : Int)
theorem ent108 : MG.Enters Try.prog 108 := ⟨Try.f108, Try.func108, rfl, by decide⟩
set_option maxHeartbeats 8000000 in
set_option maxRecDepth 100000 in
theorem Flaws_markWaitS_gives (k : Nat) (a0 : List Timpl_Wait) (a1 : Int) (r : Int × List Timpl_Wait) (H : Flaws_markWaitS k a0 a1 = some r) : GivesB Try.prog 108 [V.one (Cell.ow 4 (List.map eTimpl_Wait a0)), V.one (cI a1)] [] [0] [V.one (cI r.1)] [] [V.one (Cell.ow 4 (List.map eTimpl_Wait r.2))] := by
 refine GivesB.intro Try.func108 rfl rfl rfl rfl rfl rfl ?_
 intro F hF hm
 unfold Flaws_markWaitS at H
 obtain ⟨K, hK⟩ : ∃ K, k ≤ K := ⟨k, Nat.le_refl k⟩
 refine WpC.seq (WpC.regionL ?_)
 refine L.assign hF rfl rfl rfl (L.nil ?_)
 refine WpC.seq (WpC.seq (WpC.regionL ?_))
 refine L.assign hF rfl rfl rfl (L.nil ?_)
 refine WpC.block ?_
 refine WpC.loopL (P := Try.prog) (fun n σ => ∃ v54 : List Timpl_Wait, ∃ v55 : Int, ∃ v56 : Int, n ≤ K ∧ Flaws_markWaitS.l2 n v54 v55 v56 = some r ∧ σ = mkSt [(0, one (Cell.own 0)), (1, one (cI v55)), (5, one (cI v56))] [(0, ⟨4, List.map eTimpl_Wait v54⟩)] [] 2) k ⟨_, ⟨a0, a1, (0 : Int), by omega, H, rfl⟩, Le.mk [(0, 0)] hm rfl (Sa2 (Sa1 trivial)) (Ra1 trivial) trivial⟩ ?_
 clear H
 rintro k2 _ ⟨v54, v55, v56, hk2, H, rfl⟩
 cases k2 with
 | zero => cases H
 | succ k2 =>
  rw [Flaws_markWaitS.l2] at H
  refine WpC.seq (WpC.seq (WpC.regionL ?_))
  refine L.move hF rfl rfl rfl ?_
  refine L.move hF rfl rfl rfl ?_
  refine L.lenR (xs := v54) (e := eTimpl_Wait) Try.underlying66 hF rfl rfl rfl rfl ?_
  refine L.bin hF rfl rfl rfl rfl rfl rfl (L.nil ?_)
  refine WpC.cond rfl (fun hc => ?_) (fun hc => ?_)
  ·replace H := condT hc H
   refine WpC.skip (WpC.seq (WpC.block (WpC.seq (WpC.regionL ?_))))
   refine L.move hF rfl rfl rfl ?_
   refine L.move hF rfl rfl rfl ?_
   refine L.move hF rfl rfl rfl ?_
   refine L.rem hF rfl rfl rfl rfl (by decide) ?_
   refine L.bin hF rfl rfl rfl rfl rfl rfl ?_
   obtain ⟨b61, hb61, H⟩ := bindS H
   refine L.idxR (xs := v54) (e := eTimpl_Wait) Try.underlying66 info172 hF rfl rfl rfl rfl rfl hb61 rfl rfl ?_
   refine L.fieldAddr Try.underlying172 rfl info4 rfl hF rfl rfl rfl rfl rfl ?_
   refine L.storeEp (xs := v54) (e := eTimpl_Wait) (a' := (⟨((Int.tmod v55 (3 : Int)) == (0 : Int)), b61.Nonce, b61.Key, b61.Client⟩ : Timpl_Wait)) shape4 hF rfl rfl rfl rfl rfl rfl rfl (at?_get hb61).2 rfl rfl ?_
   refine L.nil ?_
   refine WpC.seq (WpC.regionL ?_)
   refine L.move hF rfl rfl rfl ?_
   refine L.bin hF rfl rfl rfl rfl rfl rfl ?_
   refine L.assign hF rfl rfl rfl (L.nil ?_)
   refine WpC.seq (WpC.regionL ?_)
   refine L.move hF rfl rfl rfl ?_
   refine L.move hF rfl rfl rfl ?_
   refine L.move hF rfl rfl rfl ?_
   obtain ⟨b62, hb62, H⟩ := bindS H
   refine L.idxR (xs := (v54.set v56.toNat (⟨((Int.tmod v55 (3 : Int)) == (0 : Int)), b61.Nonce, b61.Key, b61.Client⟩ : Timpl_Wait))) (e := eTimpl_Wait) Try.underlying66 info172 hF rfl rfl rfl rfl rfl hb62 rfl rfl ?_
   refine L.fieldAddr Try.underlying172 rfl info3 rfl hF rfl rfl rfl rfl rfl ?_
   refine L.storeEp (xs := (v54.set v56.toNat (⟨((Int.tmod v55 (3 : Int)) == (0 : Int)), b61.Nonce, b61.Key, b61.Client⟩ : Timpl_Wait))) (e := eTimpl_Wait) (a' := (⟨b62.On, (IntKind.i64.wrap (v55 + (1 : Int))), b62.Key, b62.Client⟩ : Timpl_Wait)) shape3 hF rfl rfl rfl rfl rfl rfl rfl (at?_get hb62).2 rfl rfl ?_
   refine L.le (Le.ss 0 rfl) (L.nil ?_)
   refine WpC.seq (WpC.regionL ?_)
   refine L.move hF rfl rfl rfl ?_
   refine L.bin hF rfl rfl rfl rfl rfl rfl ?_
   refine L.assign hF rfl rfl rfl (L.nil ?_)
   refine WpC.seq (WpC.regionL ?_)
   refine L.move hF rfl rfl rfl ?_
   refine L.move hF rfl rfl rfl ?_
   refine L.move hF rfl rfl rfl ?_
   obtain ⟨b63, hb63, H⟩ := bindS H
   refine L.idxR (xs := (v54.set v56.toNat (⟨b62.On, (IntKind.i64.wrap (v55 + (1 : Int))), b62.Key, b62.Client⟩ : Timpl_Wait))) (e := eTimpl_Wait) Try.underlying66 info172 hF rfl rfl rfl rfl rfl hb63 rfl rfl ?_
   refine L.fieldAddr Try.underlying172 rfl info3 rfl hF rfl rfl rfl rfl rfl ?_
   refine L.storeEp (xs := (v54.set v56.toNat (⟨b62.On, (IntKind.i64.wrap (v55 + (1 : Int))), b62.Key, b62.Client⟩ : Timpl_Wait))) (e := eTimpl_Wait) (a' := (⟨b63.On, b63.Nonce, (IntKind.i64.wrap ((IntKind.i64.wrap (v55 + (1 : Int))) + (1 : Int))), b63.Client⟩ : Timpl_Wait)) shape3 hF rfl rfl rfl rfl rfl rfl rfl (at?_get hb63).2 rfl rfl ?_
   refine L.le (Le.ss 0 rfl) (L.nil ?_)
   refine WpC.seq (WpC.regionL ?_)
   refine L.move hF rfl rfl rfl ?_
   refine L.bin hF rfl rfl rfl rfl rfl rfl ?_
   refine L.assign hF rfl rfl rfl (L.nil ?_)
   refine WpC.seq (WpC.regionL ?_)
   refine L.move hF rfl rfl rfl ?_
   refine L.move hF rfl rfl rfl ?_
   refine L.move hF rfl rfl rfl ?_
   obtain ⟨b64, hb64, H⟩ := bindS H
   refine L.idxR (xs := (v54.set v56.toNat (⟨b63.On, b63.Nonce, (IntKind.i64.wrap ((IntKind.i64.wrap (v55 + (1 : Int))) + (1 : Int))), b63.Client⟩ : Timpl_Wait))) (e := eTimpl_Wait) Try.underlying66 info172 hF rfl rfl rfl rfl rfl hb64 rfl rfl ?_
   refine L.fieldAddr Try.underlying172 rfl info3 rfl hF rfl rfl rfl rfl rfl ?_
   refine L.storeEp (xs := (v54.set v56.toNat (⟨b63.On, b63.Nonce, (IntKind.i64.wrap ((IntKind.i64.wrap (v55 + (1 : Int))) + (1 : Int))), b63.Client⟩ : Timpl_Wait))) (e := eTimpl_Wait) (a' := (⟨b64.On, b64.Nonce, b64.Key, (IntKind.i64.wrap ((IntKind.i64.wrap ((IntKind.i64.wrap (v55 + (1 : Int))) + (1 : Int))) + (1 : Int)))⟩ : Timpl_Wait)) shape3 hF rfl rfl rfl rfl rfl rfl rfl (at?_get hb64).2 rfl rfl ?_
   refine L.le (Le.ss 0 rfl) (L.nil ?_)
   refine WpC.regionL ?_
   refine L.move hF rfl rfl rfl ?_
   refine L.bin hF rfl rfl rfl rfl rfl rfl ?_
   refine L.assign hF rfl rfl rfl (L.nil ?_)
   refine WpC.regionL ?_
   refine L.move hF rfl rfl rfl ?_
   refine L.bin hF rfl rfl rfl rfl rfl rfl ?_
   refine L.assign hF rfl rfl rfl (L.nil ?_)
   exact ⟨k2, _, by omega, ⟨(v54.set v56.toNat (⟨b64.On, b64.Nonce, b64.Key, (IntKind.i64.wrap ((IntKind.i64.wrap ((IntKind.i64.wrap (v55 + (1 : Int))) + (1 : Int))) + (1 : Int)))⟩ : Timpl_Wait)), (IntKind.i64.wrap ((IntKind.i64.wrap ((IntKind.i64.wrap ((IntKind.i64.wrap (v55 + (1 : Int))) + (1 : Int))) + (1 : Int))) + (1 : Int))), (IntKind.i64.wrap (v56 + (1 : Int))), by omega, H, rfl⟩, Le.mk [(0, 0)] hm rfl (Sa2 (Sa1 trivial)) (Ra1 trivial) trivial⟩
  ·replace H := condF hc H
   refine WpC.exit (WpC.seq (WpC.regionL ?_))
   refine L.move hF rfl rfl rfl ?_
   refine L.assign hF rfl rfl rfl (L.nil ?_)
   refine WpC.ret ?_
   cases H
   exact Leaves.retB rfl rfl rfl rfl ⟨rfl, rfl, rfl⟩
/-! ### Flaws_markCredS -/
def Flaws_markCredS.l2 : Nat → (List Timpl_Cred) → Int → Int → Option (Int × List Timpl_Cred)
 | 0, _, _, _ => none
 | k2 + 1, v104, v105, v106 => cond (decide (v106 < (v104.length : Int))) ((at? v104 v106).bind fun b116 => (at? (v104.set v106.toNat (⟨v105, b116.Client, b116.Service, b116.Key, (⟨b116.Rest.Servers, b116.Rest.Ops, b116.Rest.End⟩ : Timpl_Rest), b116.Ticket⟩ : Timpl_Cred)) v106).bind fun b117 => (at? (v104.set v106.toNat (⟨b117.Owner, (IntKind.i64.wrap (v105 + (1 : Int))), b117.Service, b117.Key, (⟨b117.Rest.Servers, b117.Rest.Ops, b117.Rest.End⟩ : Timpl_Rest), b117.Ticket⟩ : Timpl_Cred)) v106).bind fun b118 => (at? (v104.set v106.toNat (⟨b118.Owner, b118.Client, (IntKind.i64.wrap ((IntKind.i64.wrap (v105 + (1 : Int))) + (1 : Int))), b118.Key, (⟨b118.Rest.Servers, b118.Rest.Ops, b118.Rest.End⟩ : Timpl_Rest), b118.Ticket⟩ : Timpl_Cred)) v106).bind fun b119 => (at? (v104.set v106.toNat (⟨b119.Owner, b119.Client, b119.Service, (IntKind.i64.wrap ((IntKind.i64.wrap ((IntKind.i64.wrap (v105 + (1 : Int))) + (1 : Int))) + (1 : Int))), (⟨b119.Rest.Servers, b119.Rest.Ops, b119.Rest.End⟩ : Timpl_Rest), b119.Ticket⟩ : Timpl_Cred)) v106).bind fun b120 => (at? (v104.set v106.toNat (⟨b120.Owner, b120.Client, b120.Service, b120.Key, (⟨(IntKind.i64.wrap ((IntKind.i64.wrap ((IntKind.i64.wrap ((IntKind.i64.wrap (v105 + (1 : Int))) + (1 : Int))) + (1 : Int))) + (1 : Int))), b120.Rest.Ops, b120.Rest.End⟩ : Timpl_Rest), b120.Ticket⟩ : Timpl_Cred)) v106).bind fun b121 => (at? (v104.set v106.toNat (⟨b121.Owner, b121.Client, b121.Service, b121.Key, (⟨b121.Rest.Servers, (IntKind.i64.wrap ((IntKind.i64.wrap ((IntKind.i64.wrap ((IntKind.i64.wrap ((IntKind.i64.wrap (v105 + (1 : Int))) + (1 : Int))) + (1 : Int))) + (1 : Int))) + (1 : Int))), b121.Rest.End⟩ : Timpl_Rest), b121.Ticket⟩ : Timpl_Cred)) v106).bind fun b122 => (Flaws_markText k2 (IntKind.i64.wrap ((IntKind.i64.wrap ((IntKind.i64.wrap ((IntKind.i64.wrap ((IntKind.i64.wrap ((IntKind.i64.wrap ((IntKind.i64.wrap (v105 + (1 : Int))) + (1 : Int))) + (1 : Int))) + (1 : Int))) + (1 : Int))) + (1 : Int))) + (1 : Int)))).bind fun r123 => (at? (v104.set v106.toNat (⟨b122.Owner, b122.Client, b122.Service, b122.Key, (⟨b122.Rest.Servers, b122.Rest.Ops, (IntKind.i64.wrap ((IntKind.i64.wrap ((IntKind.i64.wrap ((IntKind.i64.wrap ((IntKind.i64.wrap ((IntKind.i64.wrap (v105 + (1 : Int))) + (1 : Int))) + (1 : Int))) + (1 : Int))) + (1 : Int))) + (1 : Int)))⟩ : Timpl_Rest), b122.Ticket⟩ : Timpl_Cred)) v106).bind fun b124 => (Flaws_markCredS.l2 k2) (v104.set v106.toNat (⟨b124.Owner, b124.Client, b124.Service, b124.Key, (⟨b124.Rest.Servers, b124.Rest.Ops, b124.Rest.End⟩ : Timpl_Rest), r123⟩ : Timpl_Cred)) (IntKind.i64.wrap ((IntKind.i64.wrap ((IntKind.i64.wrap ((IntKind.i64.wrap ((IntKind.i64.wrap ((IntKind.i64.wrap ((IntKind.i64.wrap ((IntKind.i64.wrap (v105 + (1 : Int))) + (1 : Int))) + (1 : Int))) + (1 : Int))) + (1 : Int))) + (1 : Int))) + (1 : Int))) + (1 : Int))) (IntKind.i64.wrap (v106 + (1 : Int)))) (some (v105, v104))
def Flaws_markCredS (k : Nat) (a0 : List Timpl_Cred) (a1 : Int) : Option (Int × List Timpl_Cred) := Flaws_markCredS.l2 k a0 a1 (0 : Int)
theorem ent109 : MG.Enters Try.prog 109 := ⟨Try.f109, Try.func109, rfl, by decide⟩
set_option maxHeartbeats 8000000 in
set_option maxRecDepth 100000 in
theorem Flaws_markCredS_gives (k : Nat) (a0 : List Timpl_Cred) (a1 : Int) (r : Int × List Timpl_Cred) (H : Flaws_markCredS k a0 a1 = some r) : GivesB Try.prog 109 [V.one (Cell.ow 8 (List.map eTimpl_Cred a0)), V.one (cI a1)] [] [0] [V.one (cI r.1)] [] [V.one (Cell.ow 8 (List.map eTimpl_Cred r.2))] := by
 refine GivesB.intro Try.func109 rfl rfl rfl rfl rfl rfl ?_
 intro F hF hm
 unfold Flaws_markCredS at H
 obtain ⟨K, hK⟩ : ∃ K, k ≤ K := ⟨k, Nat.le_refl k⟩
 refine WpC.seq (WpC.regionL ?_)
 refine L.assign hF rfl rfl rfl (L.nil ?_)
 refine WpC.seq (WpC.seq (WpC.regionL ?_))
 refine L.assign hF rfl rfl rfl (L.nil ?_)
 refine WpC.block ?_
 refine WpC.loopL (P := Try.prog) (fun n σ => ∃ v104 : List Timpl_Cred, ∃ v105 : Int, ∃ v106 : Int, n ≤ K ∧ Flaws_markCredS.l2 n v104 v105 v106 = some r ∧ σ = mkSt [(0, one (Cell.own 0)), (1, one (cI v105)), (5, one (cI v106))] [(0, ⟨8, List.map eTimpl_Cred v104⟩)] [] 2) k ⟨_, ⟨a0, a1, (0 : Int), by omega, H, rfl⟩, Le.mk [(0, 0)] hm rfl (Sa2 (Sa1 trivial)) (Ra1 trivial) trivial⟩ ?_
 clear H
 rintro k2 _ ⟨v104, v105, v106, hk2, H, rfl⟩
 cases k2 with
 | zero => cases H
 | succ k2 =>
  rw [Flaws_markCredS.l2] at H
  refine WpC.seq (WpC.seq (WpC.regionL ?_))
  refine L.move hF rfl rfl rfl ?_
  refine L.move hF rfl rfl rfl ?_
  refine L.lenR (xs := v104) (e := eTimpl_Cred) Try.underlying67 hF rfl rfl rfl rfl ?_
  refine L.bin hF rfl rfl rfl rfl rfl rfl (L.nil ?_)
  refine WpC.cond rfl (fun hc => ?_) (fun hc => ?_)
  ·replace H := condT hc H
   refine WpC.skip (WpC.seq (WpC.block (WpC.seq (WpC.regionL ?_))))
   refine L.move hF rfl rfl rfl ?_
   refine L.move hF rfl rfl rfl ?_
   refine L.move hF rfl rfl rfl ?_
   obtain ⟨b116, hb116, H⟩ := bindS H
   refine L.idxR (xs := v104) (e := eTimpl_Cred) Try.underlying67 info177 hF rfl rfl rfl rfl rfl hb116 rfl rfl ?_
   refine L.fieldAddr Try.underlying177 rfl info3 rfl hF rfl rfl rfl rfl rfl ?_
   refine L.storeEp (xs := v104) (e := eTimpl_Cred) (a' := (⟨v105, b116.Client, b116.Service, b116.Key, (⟨b116.Rest.Servers, b116.Rest.Ops, b116.Rest.End⟩ : Timpl_Rest), b116.Ticket⟩ : Timpl_Cred)) shape3 hF rfl rfl rfl rfl rfl rfl rfl (at?_get hb116).2 rfl rfl ?_
   refine L.nil ?_
   refine WpC.seq (WpC.regionL ?_)
   refine L.move hF rfl rfl rfl ?_
   refine L.bin hF rfl rfl rfl rfl rfl rfl ?_
   refine L.assign hF rfl rfl rfl (L.nil ?_)
   refine WpC.seq (WpC.regionL ?_)
   refine L.move hF rfl rfl rfl ?_
   refine L.move hF rfl rfl rfl ?_
   refine L.move hF rfl rfl rfl ?_
   obtain ⟨b117, hb117, H⟩ := bindS H
   refine L.idxR (xs := (v104.set v106.toNat (⟨v105, b116.Client, b116.Service, b116.Key, (⟨b116.Rest.Servers, b116.Rest.Ops, b116.Rest.End⟩ : Timpl_Rest), b116.Ticket⟩ : Timpl_Cred))) (e := eTimpl_Cred) Try.underlying67 info177 hF rfl rfl rfl rfl rfl hb117 rfl rfl ?_
   refine L.fieldAddr Try.underlying177 rfl info3 rfl hF rfl rfl rfl rfl rfl ?_
   refine L.storeEp (xs := (v104.set v106.toNat (⟨v105, b116.Client, b116.Service, b116.Key, (⟨b116.Rest.Servers, b116.Rest.Ops, b116.Rest.End⟩ : Timpl_Rest), b116.Ticket⟩ : Timpl_Cred))) (e := eTimpl_Cred) (a' := (⟨b117.Owner, (IntKind.i64.wrap (v105 + (1 : Int))), b117.Service, b117.Key, (⟨b117.Rest.Servers, b117.Rest.Ops, b117.Rest.End⟩ : Timpl_Rest), b117.Ticket⟩ : Timpl_Cred)) shape3 hF rfl rfl rfl rfl rfl rfl rfl (at?_get hb117).2 rfl rfl ?_
   refine L.le (Le.ss 0 rfl) (L.nil ?_)
   refine WpC.seq (WpC.regionL ?_)
   refine L.move hF rfl rfl rfl ?_
   refine L.bin hF rfl rfl rfl rfl rfl rfl ?_
   refine L.assign hF rfl rfl rfl (L.nil ?_)
   refine WpC.seq (WpC.regionL ?_)
   refine L.move hF rfl rfl rfl ?_
   refine L.move hF rfl rfl rfl ?_
   refine L.move hF rfl rfl rfl ?_
   obtain ⟨b118, hb118, H⟩ := bindS H
   refine L.idxR (xs := (v104.set v106.toNat (⟨b117.Owner, (IntKind.i64.wrap (v105 + (1 : Int))), b117.Service, b117.Key, (⟨b117.Rest.Servers, b117.Rest.Ops, b117.Rest.End⟩ : Timpl_Rest), b117.Ticket⟩ : Timpl_Cred))) (e := eTimpl_Cred) Try.underlying67 info177 hF rfl rfl rfl rfl rfl hb118 rfl rfl ?_
   refine L.fieldAddr Try.underlying177 rfl info3 rfl hF rfl rfl rfl rfl rfl ?_
   refine L.storeEp (xs := (v104.set v106.toNat (⟨b117.Owner, (IntKind.i64.wrap (v105 + (1 : Int))), b117.Service, b117.Key, (⟨b117.Rest.Servers, b117.Rest.Ops, b117.Rest.End⟩ : Timpl_Rest), b117.Ticket⟩ : Timpl_Cred))) (e := eTimpl_Cred) (a' := (⟨b118.Owner, b118.Client, (IntKind.i64.wrap ((IntKind.i64.wrap (v105 + (1 : Int))) + (1 : Int))), b118.Key, (⟨b118.Rest.Servers, b118.Rest.Ops, b118.Rest.End⟩ : Timpl_Rest), b118.Ticket⟩ : Timpl_Cred)) shape3 hF rfl rfl rfl rfl rfl rfl rfl (at?_get hb118).2 rfl rfl ?_
   refine L.le (Le.ss 0 rfl) (L.nil ?_)
   refine WpC.seq (WpC.regionL ?_)
   refine L.move hF rfl rfl rfl ?_
   refine L.bin hF rfl rfl rfl rfl rfl rfl ?_
   refine L.assign hF rfl rfl rfl (L.nil ?_)
   refine WpC.seq (WpC.regionL ?_)
   refine L.move hF rfl rfl rfl ?_
   refine L.move hF rfl rfl rfl ?_
   refine L.move hF rfl rfl rfl ?_
   obtain ⟨b119, hb119, H⟩ := bindS H
   refine L.idxR (xs := (v104.set v106.toNat (⟨b118.Owner, b118.Client, (IntKind.i64.wrap ((IntKind.i64.wrap (v105 + (1 : Int))) + (1 : Int))), b118.Key, (⟨b118.Rest.Servers, b118.Rest.Ops, b118.Rest.End⟩ : Timpl_Rest), b118.Ticket⟩ : Timpl_Cred))) (e := eTimpl_Cred) Try.underlying67 info177 hF rfl rfl rfl rfl rfl hb119 rfl rfl ?_
   refine L.fieldAddr Try.underlying177 rfl info3 rfl hF rfl rfl rfl rfl rfl ?_
   refine L.storeEp (xs := (v104.set v106.toNat (⟨b118.Owner, b118.Client, (IntKind.i64.wrap ((IntKind.i64.wrap (v105 + (1 : Int))) + (1 : Int))), b118.Key, (⟨b118.Rest.Servers, b118.Rest.Ops, b118.Rest.End⟩ : Timpl_Rest), b118.Ticket⟩ : Timpl_Cred))) (e := eTimpl_Cred) (a' := (⟨b119.Owner, b119.Client, b119.Service, (IntKind.i64.wrap ((IntKind.i64.wrap ((IntKind.i64.wrap (v105 + (1 : Int))) + (1 : Int))) + (1 : Int))), (⟨b119.Rest.Servers, b119.Rest.Ops, b119.Rest.End⟩ : Timpl_Rest), b119.Ticket⟩ : Timpl_Cred)) shape3 hF rfl rfl rfl rfl rfl rfl rfl (at?_get hb119).2 rfl rfl ?_
   refine L.le (Le.ss 0 rfl) (L.nil ?_)
   refine WpC.seq (WpC.regionL ?_)
   refine L.move hF rfl rfl rfl ?_
   refine L.bin hF rfl rfl rfl rfl rfl rfl ?_
   refine L.assign hF rfl rfl rfl (L.nil ?_)
   refine WpC.seq (WpC.regionL ?_)
   refine L.move hF rfl rfl rfl ?_
   refine L.move hF rfl rfl rfl ?_
   refine L.move hF rfl rfl rfl ?_
   obtain ⟨b120, hb120, H⟩ := bindS H
   refine L.idxR (xs := (v104.set v106.toNat (⟨b119.Owner, b119.Client, b119.Service, (IntKind.i64.wrap ((IntKind.i64.wrap ((IntKind.i64.wrap (v105 + (1 : Int))) + (1 : Int))) + (1 : Int))), (⟨b119.Rest.Servers, b119.Rest.Ops, b119.Rest.End⟩ : Timpl_Rest), b119.Ticket⟩ : Timpl_Cred))) (e := eTimpl_Cred) Try.underlying67 info177 hF rfl rfl rfl rfl rfl hb120 rfl rfl ?_
   refine L.fieldAddr Try.underlying177 rfl info175 rfl hF rfl rfl rfl rfl rfl ?_
   refine L.fieldAddr Try.underlying175 rfl info3 rfl hF rfl rfl rfl rfl rfl ?_
   refine L.storeEp (xs := (v104.set v106.toNat (⟨b119.Owner, b119.Client, b119.Service, (IntKind.i64.wrap ((IntKind.i64.wrap ((IntKind.i64.wrap (v105 + (1 : Int))) + (1 : Int))) + (1 : Int))), (⟨b119.Rest.Servers, b119.Rest.Ops, b119.Rest.End⟩ : Timpl_Rest), b119.Ticket⟩ : Timpl_Cred))) (e := eTimpl_Cred) (a' := (⟨b120.Owner, b120.Client, b120.Service, b120.Key, (⟨(IntKind.i64.wrap ((IntKind.i64.wrap ((IntKind.i64.wrap ((IntKind.i64.wrap (v105 + (1 : Int))) + (1 : Int))) + (1 : Int))) + (1 : Int))), b120.Rest.Ops, b120.Rest.End⟩ : Timpl_Rest), b120.Ticket⟩ : Timpl_Cred)) shape3 hF rfl rfl rfl rfl rfl rfl rfl (at?_get hb120).2 rfl rfl ?_
   refine L.le (Le.ss 0 rfl) (L.nil ?_)
   refine WpC.seq (WpC.regionL ?_)
   refine L.move hF rfl rfl rfl ?_
   refine L.bin hF rfl rfl rfl rfl rfl rfl ?_
   refine L.assign hF rfl rfl rfl (L.nil ?_)
   refine WpC.seq (WpC.regionL ?_)
   refine L.move hF rfl rfl rfl ?_
   refine L.move hF rfl rfl rfl ?_
   refine L.move hF rfl rfl rfl ?_
   obtain ⟨b121, hb121, H⟩ := bindS H
   refine L.idxR (xs := (v104.set v106.toNat (⟨b120.Owner, b120.Client, b120.Service, b120.Key, (⟨(IntKind.i64.wrap ((IntKind.i64.wrap ((IntKind.i64.wrap ((IntKind.i64.wrap (v105 + (1 : Int))) + (1 : Int))) + (1 : Int))) + (1 : Int))), b120.Rest.Ops, b120.Rest.End⟩ : Timpl_Rest), b120.Ticket⟩ : Timpl_Cred))) (e := eTimpl_Cred) Try.underlying67 info177 hF rfl rfl rfl rfl rfl hb121 rfl rfl ?_
   refine L.fieldAddr Try.underlying177 rfl info175 rfl hF rfl rfl rfl rfl rfl ?_
   refine L.fieldAddr Try.underlying175 rfl info3 rfl hF rfl rfl rfl rfl rfl ?_
   refine L.storeEp (xs := (v104.set v106.toNat (⟨b120.Owner, b120.Client, b120.Service, b120.Key, (⟨(IntKind.i64.wrap ((IntKind.i64.wrap ((IntKind.i64.wrap ((IntKind.i64.wrap (v105 + (1 : Int))) + (1 : Int))) + (1 : Int))) + (1 : Int))), b120.Rest.Ops, b120.Rest.End⟩ : Timpl_Rest), b120.Ticket⟩ : Timpl_Cred))) (e := eTimpl_Cred) (a' := (⟨b121.Owner, b121.Client, b121.Service, b121.Key, (⟨b121.Rest.Servers, (IntKind.i64.wrap ((IntKind.i64.wrap ((IntKind.i64.wrap ((IntKind.i64.wrap ((IntKind.i64.wrap (v105 + (1 : Int))) + (1 : Int))) + (1 : Int))) + (1 : Int))) + (1 : Int))), b121.Rest.End⟩ : Timpl_Rest), b121.Ticket⟩ : Timpl_Cred)) shape3 hF rfl rfl rfl rfl rfl rfl rfl (at?_get hb121).2 rfl rfl ?_
   refine L.le (Le.ss 0 rfl) (L.nil ?_)
   refine WpC.seq (WpC.regionL ?_)
   refine L.move hF rfl rfl rfl ?_
   refine L.bin hF rfl rfl rfl rfl rfl rfl ?_
   refine L.assign hF rfl rfl rfl (L.nil ?_)
   refine WpC.seq (WpC.regionL ?_)
   refine L.move hF rfl rfl rfl ?_
   refine L.move hF rfl rfl rfl ?_
   refine L.move hF rfl rfl rfl ?_
   obtain ⟨b122, hb122, H⟩ := bindS H
   refine L.idxR (xs := (v104.set v106.toNat (⟨b121.Owner, b121.Client, b121.Service, b121.Key, (⟨b121.Rest.Servers, (IntKind.i64.wrap ((IntKind.i64.wrap ((IntKind.i64.wrap ((IntKind.i64.wrap ((IntKind.i64.wrap (v105 + (1 : Int))) + (1 : Int))) + (1 : Int))) + (1 : Int))) + (1 : Int))), b121.Rest.End⟩ : Timpl_Rest), b121.Ticket⟩ : Timpl_Cred))) (e := eTimpl_Cred) Try.underlying67 info177 hF rfl rfl rfl rfl rfl hb122 rfl rfl ?_
   refine L.fieldAddr Try.underlying177 rfl info175 rfl hF rfl rfl rfl rfl rfl ?_
   refine L.fieldAddr Try.underlying175 rfl info3 rfl hF rfl rfl rfl rfl rfl ?_
   refine L.storeEp (xs := (v104.set v106.toNat (⟨b121.Owner, b121.Client, b121.Service, b121.Key, (⟨b121.Rest.Servers, (IntKind.i64.wrap ((IntKind.i64.wrap ((IntKind.i64.wrap ((IntKind.i64.wrap ((IntKind.i64.wrap (v105 + (1 : Int))) + (1 : Int))) + (1 : Int))) + (1 : Int))) + (1 : Int))), b121.Rest.End⟩ : Timpl_Rest), b121.Ticket⟩ : Timpl_Cred))) (e := eTimpl_Cred) (a' := (⟨b122.Owner, b122.Client, b122.Service, b122.Key, (⟨b122.Rest.Servers, b122.Rest.Ops, (IntKind.i64.wrap ((IntKind.i64.wrap ((IntKind.i64.wrap ((IntKind.i64.wrap ((IntKind.i64.wrap ((IntKind.i64.wrap (v105 + (1 : Int))) + (1 : Int))) + (1 : Int))) + (1 : Int))) + (1 : Int))) + (1 : Int)))⟩ : Timpl_Rest), b122.Ticket⟩ : Timpl_Cred)) shape3 hF rfl rfl rfl rfl rfl rfl rfl (at?_get hb122).2 rfl rfl ?_
   refine L.le (Le.ss 0 rfl) (L.nil ?_)
   refine WpC.seq (WpC.regionL ?_)
   refine L.move hF rfl rfl rfl ?_
   refine L.bin hF rfl rfl rfl rfl rfl rfl ?_
   refine L.assign hF rfl rfl rfl (L.nil ?_)
   refine WpC.seq (WpC.regionL ?_)
   refine L.move hF rfl rfl rfl ?_
   refine L.move hF rfl rfl rfl ?_
   refine L.move hF rfl rfl rfl ?_
   obtain ⟨r123, hr123, H⟩ := bindS H
   refine L.call [false] [] [] 2 hF rfl rfl rfl ent54 rfl rfl rfl rfl rfl (Flaws_markText_gives k2  (IntKind.i64.wrap ((IntKind.i64.wrap ((IntKind.i64.wrap ((IntKind.i64.wrap ((IntKind.i64.wrap ((IntKind.i64.wrap ((IntKind.i64.wrap (v105 + (1 : Int))) + (1 : Int))) + (1 : Int))) + (1 : Int))) + (1 : Int))) + (1 : Int))) + (1 : Int))) r123 hr123) rfl ?_
   obtain ⟨b124, hb124, H⟩ := bindS H
   refine L.idxR (xs := (v104.set v106.toNat (⟨b122.Owner, b122.Client, b122.Service, b122.Key, (⟨b122.Rest.Servers, b122.Rest.Ops, (IntKind.i64.wrap ((IntKind.i64.wrap ((IntKind.i64.wrap ((IntKind.i64.wrap ((IntKind.i64.wrap ((IntKind.i64.wrap (v105 + (1 : Int))) + (1 : Int))) + (1 : Int))) + (1 : Int))) + (1 : Int))) + (1 : Int)))⟩ : Timpl_Rest), b122.Ticket⟩ : Timpl_Cred))) (e := eTimpl_Cred) Try.underlying67 info177 hF rfl rfl rfl rfl rfl hb124 rfl rfl ?_
   refine L.fieldAddr Try.underlying177 rfl info9 rfl hF rfl rfl rfl rfl rfl ?_
   refine L.storeEp (xs := (v104.set v106.toNat (⟨b122.Owner, b122.Client, b122.Service, b122.Key, (⟨b122.Rest.Servers, b122.Rest.Ops, (IntKind.i64.wrap ((IntKind.i64.wrap ((IntKind.i64.wrap ((IntKind.i64.wrap ((IntKind.i64.wrap ((IntKind.i64.wrap (v105 + (1 : Int))) + (1 : Int))) + (1 : Int))) + (1 : Int))) + (1 : Int))) + (1 : Int)))⟩ : Timpl_Rest), b122.Ticket⟩ : Timpl_Cred))) (e := eTimpl_Cred) (a' := (⟨b124.Owner, b124.Client, b124.Service, b124.Key, (⟨b124.Rest.Servers, b124.Rest.Ops, b124.Rest.End⟩ : Timpl_Rest), r123⟩ : Timpl_Cred)) shape9 hF rfl rfl rfl rfl rfl rfl rfl (at?_get hb124).2 rfl rfl ?_
   refine L.le (Le.ss 0 rfl) (L.nil ?_)
   refine WpC.regionL ?_
   refine L.move hF rfl rfl rfl ?_
   refine L.bin hF rfl rfl rfl rfl rfl rfl ?_
   refine L.assign hF rfl rfl rfl (L.nil ?_)
   refine WpC.regionL ?_
   refine L.move hF rfl rfl rfl ?_
   refine L.bin hF rfl rfl rfl rfl rfl rfl ?_
   refine L.assign hF rfl rfl rfl (L.nil ?_)
   exact ⟨k2, _, by omega, ⟨(v104.set v106.toNat (⟨b124.Owner, b124.Client, b124.Service, b124.Key, (⟨b124.Rest.Servers, b124.Rest.Ops, b124.Rest.End⟩ : Timpl_Rest), r123⟩ : Timpl_Cred)), (IntKind.i64.wrap ((IntKind.i64.wrap ((IntKind.i64.wrap ((IntKind.i64.wrap ((IntKind.i64.wrap ((IntKind.i64.wrap ((IntKind.i64.wrap ((IntKind.i64.wrap (v105 + (1 : Int))) + (1 : Int))) + (1 : Int))) + (1 : Int))) + (1 : Int))) + (1 : Int))) + (1 : Int))) + (1 : Int))), (IntKind.i64.wrap (v106 + (1 : Int))), by omega, H, rfl⟩, Le.mk [(0, 0)] hm rfl (Sa2 (Sa1 trivial)) (Ra1 trivial) trivial⟩
  ·replace H := condF hc H
   refine WpC.exit (WpC.seq (WpC.regionL ?_))
   refine L.move hF rfl rfl rfl ?_
   refine L.assign hF rfl rfl rfl (L.nil ?_)
   refine WpC.ret ?_
   cases H
   exact Leaves.retB rfl rfl rfl rfl ⟨rfl, rfl, rfl⟩
/-! ### Flaws_markAuthS -/
def Flaws_markAuthS.l2 : Nat → (List Timpl_Auth) → Int → Int → Option (Int × List Timpl_Auth)
 | 0, _, _, _ => none
 | k2 + 1, v44, v45, v46 => cond (decide (v46 < (v44.length : Int))) ((at? v44 v46).bind fun b50 => (at? (v44.set v46.toNat (⟨v45, b50.Time, b50.Seq⟩ : Timpl_Auth)) v46).bind fun b51 => (at? (v44.set v46.toNat (⟨b51.Client, (IntKind.i64.wrap (v45 + (1 : Int))), b51.Seq⟩ : Timpl_Auth)) v46).bind fun b52 => (Flaws_markAuthS.l2 k2) (v44.set v46.toNat (⟨b52.Client, b52.Time, (IntKind.i64.wrap ((IntKind.i64.wrap (v45 + (1 : Int))) + (1 : Int)))⟩ : Timpl_Auth)) (IntKind.i64.wrap ((IntKind.i64.wrap ((IntKind.i64.wrap (v45 + (1 : Int))) + (1 : Int))) + (1 : Int))) (IntKind.i64.wrap (v46 + (1 : Int)))) (some (v45, v44))
def Flaws_markAuthS (k : Nat) (a0 : List Timpl_Auth) (a1 : Int) : Option (Int × List Timpl_Auth) := Flaws_markAuthS.l2 k a0 a1 (0 : Int)
theorem ent149 : MG.Enters Try.prog 149 := ⟨Try.f149, Try.func149, rfl, by decide⟩
set_option maxHeartbeats 8000000 in
set_option maxRecDepth 100000 in
theorem Flaws_markAuthS_gives (k : Nat) (a0 : List Timpl_Auth) (a1 : Int) (r : Int × List Timpl_Auth) (H : Flaws_markAuthS k a0 a1 = some r) : GivesB Try.prog 149 [V.one (Cell.ow 3 (List.map eTimpl_Auth a0)), V.one (cI a1)] [] [0] [V.one (cI r.1)] [] [V.one (Cell.ow 3 (List.map eTimpl_Auth r.2))] := by
 refine GivesB.intro Try.func149 rfl rfl rfl rfl rfl rfl ?_
 intro F hF hm
 unfold Flaws_markAuthS at H
 obtain ⟨K, hK⟩ : ∃ K, k ≤ K := ⟨k, Nat.le_refl k⟩
 refine WpC.seq (WpC.regionL ?_)
 refine L.assign hF rfl rfl rfl (L.nil ?_)
 refine WpC.seq (WpC.seq (WpC.regionL ?_))
 refine L.assign hF rfl rfl rfl (L.nil ?_)
 refine WpC.block ?_
 refine WpC.loopL (P := Try.prog) (fun n σ => ∃ v44 : List Timpl_Auth, ∃ v45 : Int, ∃ v46 : Int, n ≤ K ∧ Flaws_markAuthS.l2 n v44 v45 v46 = some r ∧ σ = mkSt [(0, one (Cell.own 0)), (1, one (cI v45)), (5, one (cI v46))] [(0, ⟨3, List.map eTimpl_Auth v44⟩)] [] 2) k ⟨_, ⟨a0, a1, (0 : Int), by omega, H, rfl⟩, Le.mk [(0, 0)] hm rfl (Sa2 (Sa1 trivial)) (Ra1 trivial) trivial⟩ ?_
 clear H
 rintro k2 _ ⟨v44, v45, v46, hk2, H, rfl⟩
 cases k2 with
 | zero => cases H
 | succ k2 =>
  rw [Flaws_markAuthS.l2] at H
  refine WpC.seq (WpC.seq (WpC.regionL ?_))
  refine L.move hF rfl rfl rfl ?_
  refine L.move hF rfl rfl rfl ?_
  refine L.lenR (xs := v44) (e := eTimpl_Auth) Try.underlying128 hF rfl rfl rfl rfl ?_
  refine L.bin hF rfl rfl rfl rfl rfl rfl (L.nil ?_)
  refine WpC.cond rfl (fun hc => ?_) (fun hc => ?_)
  ·replace H := condT hc H
   refine WpC.skip (WpC.seq (WpC.block (WpC.seq (WpC.regionL ?_))))
   refine L.move hF rfl rfl rfl ?_
   refine L.move hF rfl rfl rfl ?_
   refine L.move hF rfl rfl rfl ?_
   obtain ⟨b50, hb50, H⟩ := bindS H
   refine L.idxR (xs := v44) (e := eTimpl_Auth) Try.underlying128 info184 hF rfl rfl rfl rfl rfl hb50 rfl rfl ?_
   refine L.fieldAddr Try.underlying184 rfl info3 rfl hF rfl rfl rfl rfl rfl ?_
   refine L.storeEp (xs := v44) (e := eTimpl_Auth) (a' := (⟨v45, b50.Time, b50.Seq⟩ : Timpl_Auth)) shape3 hF rfl rfl rfl rfl rfl rfl rfl (at?_get hb50).2 rfl rfl ?_
   refine L.nil ?_
   refine WpC.seq (WpC.regionL ?_)
   refine L.move hF rfl rfl rfl ?_
   refine L.bin hF rfl rfl rfl rfl rfl rfl ?_
   refine L.assign hF rfl rfl rfl (L.nil ?_)
   refine WpC.seq (WpC.regionL ?_)
   refine L.move hF rfl rfl rfl ?_
   refine L.move hF rfl rfl rfl ?_
   refine L.move hF rfl rfl rfl ?_
   obtain ⟨b51, hb51, H⟩ := bindS H
   refine L.idxR (xs := (v44.set v46.toNat (⟨v45, b50.Time, b50.Seq⟩ : Timpl_Auth))) (e := eTimpl_Auth) Try.underlying128 info184 hF rfl rfl rfl rfl rfl hb51 rfl rfl ?_
   refine L.fieldAddr Try.underlying184 rfl info3 rfl hF rfl rfl rfl rfl rfl ?_
   refine L.storeEp (xs := (v44.set v46.toNat (⟨v45, b50.Time, b50.Seq⟩ : Timpl_Auth))) (e := eTimpl_Auth) (a' := (⟨b51.Client, (IntKind.i64.wrap (v45 + (1 : Int))), b51.Seq⟩ : Timpl_Auth)) shape3 hF rfl rfl rfl rfl rfl rfl rfl (at?_get hb51).2 rfl rfl ?_
   refine L.le (Le.ss 0 rfl) (L.nil ?_)
   refine WpC.seq (WpC.regionL ?_)
   refine L.move hF rfl rfl rfl ?_
   refine L.bin hF rfl rfl rfl rfl rfl rfl ?_
   refine L.assign hF rfl rfl rfl (L.nil ?_)
   refine WpC.seq (WpC.regionL ?_)
   refine L.move hF rfl rfl rfl ?_
   refine L.move hF rfl rfl rfl ?_
   refine L.move hF rfl rfl rfl ?_
   obtain ⟨b52, hb52, H⟩ := bindS H
   refine L.idxR (xs := (v44.set v46.toNat (⟨b51.Client, (IntKind.i64.wrap (v45 + (1 : Int))), b51.Seq⟩ : Timpl_Auth))) (e := eTimpl_Auth) Try.underlying128 info184 hF rfl rfl rfl rfl rfl hb52 rfl rfl ?_
   refine L.fieldAddr Try.underlying184 rfl info3 rfl hF rfl rfl rfl rfl rfl ?_
   refine L.storeEp (xs := (v44.set v46.toNat (⟨b51.Client, (IntKind.i64.wrap (v45 + (1 : Int))), b51.Seq⟩ : Timpl_Auth))) (e := eTimpl_Auth) (a' := (⟨b52.Client, b52.Time, (IntKind.i64.wrap ((IntKind.i64.wrap (v45 + (1 : Int))) + (1 : Int)))⟩ : Timpl_Auth)) shape3 hF rfl rfl rfl rfl rfl rfl rfl (at?_get hb52).2 rfl rfl ?_
   refine L.le (Le.ss 0 rfl) (L.nil ?_)
   refine WpC.regionL ?_
   refine L.move hF rfl rfl rfl ?_
   refine L.bin hF rfl rfl rfl rfl rfl rfl ?_
   refine L.assign hF rfl rfl rfl (L.nil ?_)
   refine WpC.regionL ?_
   refine L.move hF rfl rfl rfl ?_
   refine L.bin hF rfl rfl rfl rfl rfl rfl ?_
   refine L.assign hF rfl rfl rfl (L.nil ?_)
   exact ⟨k2, _, by omega, ⟨(v44.set v46.toNat (⟨b52.Client, b52.Time, (IntKind.i64.wrap ((IntKind.i64.wrap (v45 + (1 : Int))) + (1 : Int)))⟩ : Timpl_Auth)), (IntKind.i64.wrap ((IntKind.i64.wrap ((IntKind.i64.wrap (v45 + (1 : Int))) + (1 : Int))) + (1 : Int))), (IntKind.i64.wrap (v46 + (1 : Int))), by omega, H, rfl⟩, Le.mk [(0, 0)] hm rfl (Sa2 (Sa1 trivial)) (Ra1 trivial) trivial⟩
  ·replace H := condF hc H
   refine WpC.exit (WpC.seq (WpC.regionL ?_))
   refine L.move hF rfl rfl rfl ?_
   refine L.assign hF rfl rfl rfl (L.nil ?_)
   refine WpC.ret ?_
   cases H
   exact Leaves.retB rfl rfl rfl rfl ⟨rfl, rfl, rfl⟩
/-! ### Flaws_markCacheS -/
def Flaws_markCacheS.l2 : Nat → (List Timpl_Cache) → Int → Int → Option (Int × List Timpl_Cache)
 | 0, _, _, _ => none
 | k2 + 1, v44, v45, v46 => cond (decide (v46 < (v44.length : Int))) ((at? v44 v46).bind fun b50 => (at? (v44.set v46.toNat (⟨v45, b50.Seen⟩ : Timpl_Cache)) v46).bind fun b51 => (Flaws_markAuthS k2 b51.Seen (IntKind.i64.wrap (v45 + (1 : Int)))).bind fun r52 => (Flaws_markCacheS.l2 k2) (v44.set v46.toNat (⟨b51.Quiet, r52.2⟩ : Timpl_Cache)) r52.1 (IntKind.i64.wrap (v46 + (1 : Int)))) (some (v45, v44))
def Flaws_markCacheS (k : Nat) (a0 : List Timpl_Cache) (a1 : Int) : Option (Int × List Timpl_Cache) := Flaws_markCacheS.l2 k a0 a1 (0 : Int)
theorem ent110 : MG.Enters Try.prog 110 := ⟨Try.f110, Try.func110, rfl, by decide⟩
set_option maxHeartbeats 8000000 in
set_option maxRecDepth 100000 in
theorem Flaws_markCacheS_gives (k : Nat) (a0 : List Timpl_Cache) (a1 : Int) (r : Int × List Timpl_Cache) (H : Flaws_markCacheS k a0 a1 = some r) : GivesB Try.prog 110 [V.one (Cell.ow 2 (List.map eTimpl_Cache a0)), V.one (cI a1)] [] [0] [V.one (cI r.1)] [] [V.one (Cell.ow 2 (List.map eTimpl_Cache r.2))] := by
 refine GivesB.intro Try.func110 rfl rfl rfl rfl rfl rfl ?_
 intro F hF hm
 unfold Flaws_markCacheS at H
 obtain ⟨K, hK⟩ : ∃ K, k ≤ K := ⟨k, Nat.le_refl k⟩
 refine WpC.seq (WpC.regionL ?_)
 refine L.assign hF rfl rfl rfl (L.nil ?_)
 refine WpC.seq (WpC.seq (WpC.regionL ?_))
 refine L.assign hF rfl rfl rfl (L.nil ?_)
 refine WpC.block ?_
 refine WpC.loopL (P := Try.prog) (fun n σ => ∃ v44 : List Timpl_Cache, ∃ v45 : Int, ∃ v46 : Int, n ≤ K ∧ Flaws_markCacheS.l2 n v44 v45 v46 = some r ∧ σ = mkSt [(0, one (Cell.own 0)), (1, one (cI v45)), (5, one (cI v46))] [(0, ⟨2, List.map eTimpl_Cache v44⟩)] [] 2) k ⟨_, ⟨a0, a1, (0 : Int), by omega, H, rfl⟩, Le.mk [(0, 0)] hm rfl (Sa2 (Sa1 trivial)) (Ra1 trivial) trivial⟩ ?_
 clear H
 rintro k2 _ ⟨v44, v45, v46, hk2, H, rfl⟩
 cases k2 with
 | zero => cases H
 | succ k2 =>
  rw [Flaws_markCacheS.l2] at H
  refine WpC.seq (WpC.seq (WpC.regionL ?_))
  refine L.move hF rfl rfl rfl ?_
  refine L.move hF rfl rfl rfl ?_
  refine L.lenR (xs := v44) (e := eTimpl_Cache) Try.underlying68 hF rfl rfl rfl rfl ?_
  refine L.bin hF rfl rfl rfl rfl rfl rfl (L.nil ?_)
  refine WpC.cond rfl (fun hc => ?_) (fun hc => ?_)
  ·replace H := condT hc H
   refine WpC.skip (WpC.seq (WpC.block (WpC.seq (WpC.regionL ?_))))
   refine L.move hF rfl rfl rfl ?_
   refine L.move hF rfl rfl rfl ?_
   refine L.move hF rfl rfl rfl ?_
   obtain ⟨b50, hb50, H⟩ := bindS H
   refine L.idxR (xs := v44) (e := eTimpl_Cache) Try.underlying68 info130 hF rfl rfl rfl rfl rfl hb50 rfl rfl ?_
   refine L.fieldAddr Try.underlying130 rfl info3 rfl hF rfl rfl rfl rfl rfl ?_
   refine L.storeEp (xs := v44) (e := eTimpl_Cache) (a' := (⟨v45, b50.Seen⟩ : Timpl_Cache)) shape3 hF rfl rfl rfl rfl rfl rfl rfl (at?_get hb50).2 rfl rfl ?_
   refine L.nil ?_
   refine WpC.seq (WpC.regionL ?_)
   refine L.move hF rfl rfl rfl ?_
   refine L.bin hF rfl rfl rfl rfl rfl rfl ?_
   refine L.assign hF rfl rfl rfl (L.nil ?_)
   refine WpC.regionL ?_
   refine L.move hF rfl rfl rfl ?_
   refine L.move hF rfl rfl rfl ?_
   obtain ⟨b51, hb51, H⟩ := bindS H
   refine L.idxR (xs := (v44.set v46.toNat (⟨v45, b50.Seen⟩ : Timpl_Cache))) (e := eTimpl_Cache) Try.underlying68 info130 hF rfl rfl rfl rfl rfl hb51 rfl rfl ?_
   refine L.fieldAddr Try.underlying130 rfl info128 rfl hF rfl rfl rfl rfl rfl ?_
   refine L.out (xs := (v44.set v46.toNat (⟨v45, b50.Seen⟩ : Timpl_Cache))) (e := eTimpl_Cache) (a := b51) 0 v46.toNat 1 2 rfl (at?_get hb51).2 rfl rfl (fun ub51 => ?_)
   refine L.loadEpR (xs := (v44.set v46.toNat (⟨v45, b50.Seen⟩ : Timpl_Cache))) (e := eTimpl_Cache) 1 2 shape128 hF rfl rfl rfl rfl (at?_get hb51).2 rfl rfl rfl rfl rfl ?_
   refine L.move hF rfl rfl rfl ?_
   obtain ⟨r52, hr52, H⟩ := bindS H
   refine L.callB [true, false] [] [] 3 [0] hF rfl rfl rfl ent149 rfl rfl rfl rfl rfl (Flaws_markAuthS_gives k2  b51.Seen (IntKind.i64.wrap (v45 + (1 : Int))) r52 hr52) rfl rfl rfl ?_
   refine L.assign hF rfl rfl rfl ?_
   refine L.le ((Le.back (xs := (v44.set v46.toNat (⟨v45, b50.Seen⟩ : Timpl_Cache))) (e := eTimpl_Cache) (a' := (⟨b51.Quiet, r52.2⟩ : Timpl_Cache)) 0 v46.toNat 1 2 rfl (at?_get hb51).2 rfl rfl rfl rfl rfl).trans (Le.ss 0 rfl)) ?_
   refine L.nil ?_
   refine WpC.regionL ?_
   refine L.move hF rfl rfl rfl ?_
   refine L.bin hF rfl rfl rfl rfl rfl rfl ?_
   refine L.assign hF rfl rfl rfl (L.nil ?_)
   exact ⟨k2, _, by omega, ⟨(v44.set v46.toNat (⟨b51.Quiet, r52.2⟩ : Timpl_Cache)), r52.1, (IntKind.i64.wrap (v46 + (1 : Int))), by omega, H, rfl⟩, Le.mk [(0, 0)] hm rfl (Sa2 (Sa1 trivial)) (Ra1 trivial) trivial⟩
  ·replace H := condF hc H
   refine WpC.exit (WpC.seq (WpC.regionL ?_))
   refine L.move hF rfl rfl rfl ?_
   refine L.assign hF rfl rfl rfl (L.nil ?_)
   refine WpC.ret ?_
   cases H
   exact Leaves.retB rfl rfl rfl rfl ⟨rfl, rfl, rfl⟩
/-! ### Flaws_markEventS -/
def Flaws_markEventS.l2 : Nat → (List Timpl_Event) → Int → Int → Option (Int × List Timpl_Event)
 | 0, _, _, _ => none
 | k2 + 1, v124, v125, v126 => cond (decide (v126 < (v124.length : Int))) ((at? v124 v126).bind fun b138 => (at? (v124.set v126.toNat (⟨v125, b138.Realm, b138.By, b138.Client, b138.Service, b138.Key, b138.Parent, b138.Evid, (⟨b138.Rest.Servers, b138.Rest.Ops, b138.Rest.End⟩ : Timpl_Rest)⟩ : Timpl_Event)) v126).bind fun b139 => (at? (v124.set v126.toNat (⟨b139.Kind, (IntKind.i64.wrap (v125 + (1 : Int))), b139.By, b139.Client, b139.Service, b139.Key, b139.Parent, b139.Evid, (⟨b139.Rest.Servers, b139.Rest.Ops, b139.Rest.End⟩ : Timpl_Rest)⟩ : Timpl_Event)) v126).bind fun b140 => (at? (v124.set v126.toNat (⟨b140.Kind, b140.Realm, (IntKind.i64.wrap ((IntKind.i64.wrap (v125 + (1 : Int))) + (1 : Int))), b140.Client, b140.Service, b140.Key, b140.Parent, b140.Evid, (⟨b140.Rest.Servers, b140.Rest.Ops, b140.Rest.End⟩ : Timpl_Rest)⟩ : Timpl_Event)) v126).bind fun b141 => (at? (v124.set v126.toNat (⟨b141.Kind, b141.Realm, b141.By, (IntKind.i64.wrap ((IntKind.i64.wrap ((IntKind.i64.wrap (v125 + (1 : Int))) + (1 : Int))) + (1 : Int))), b141.Service, b141.Key, b141.Parent, b141.Evid, (⟨b141.Rest.Servers, b141.Rest.Ops, b141.Rest.End⟩ : Timpl_Rest)⟩ : Timpl_Event)) v126).bind fun b142 => (at? (v124.set v126.toNat (⟨b142.Kind, b142.Realm, b142.By, b142.Client, (IntKind.i64.wrap ((IntKind.i64.wrap ((IntKind.i64.wrap ((IntKind.i64.wrap (v125 + (1 : Int))) + (1 : Int))) + (1 : Int))) + (1 : Int))), b142.Key, b142.Parent, b142.Evid, (⟨b142.Rest.Servers, b142.Rest.Ops, b142.Rest.End⟩ : Timpl_Rest)⟩ : Timpl_Event)) v126).bind fun b143 => (at? (v124.set v126.toNat (⟨b143.Kind, b143.Realm, b143.By, b143.Client, b143.Service, (IntKind.i64.wrap ((IntKind.i64.wrap ((IntKind.i64.wrap ((IntKind.i64.wrap ((IntKind.i64.wrap (v125 + (1 : Int))) + (1 : Int))) + (1 : Int))) + (1 : Int))) + (1 : Int))), b143.Parent, b143.Evid, (⟨b143.Rest.Servers, b143.Rest.Ops, b143.Rest.End⟩ : Timpl_Rest)⟩ : Timpl_Event)) v126).bind fun b144 => (at? (v124.set v126.toNat (⟨b144.Kind, b144.Realm, b144.By, b144.Client, b144.Service, b144.Key, (IntKind.i64.wrap ((IntKind.i64.wrap ((IntKind.i64.wrap ((IntKind.i64.wrap ((IntKind.i64.wrap ((IntKind.i64.wrap (v125 + (1 : Int))) + (1 : Int))) + (1 : Int))) + (1 : Int))) + (1 : Int))) + (1 : Int))), b144.Evid, (⟨b144.Rest.Servers, b144.Rest.Ops, b144.Rest.End⟩ : Timpl_Rest)⟩ : Timpl_Event)) v126).bind fun b145 => (at? (v124.set v126.toNat (⟨b145.Kind, b145.Realm, b145.By, b145.Client, b145.Service, b145.Key, b145.Parent, (IntKind.i64.wrap ((IntKind.i64.wrap ((IntKind.i64.wrap ((IntKind.i64.wrap ((IntKind.i64.wrap ((IntKind.i64.wrap ((IntKind.i64.wrap (v125 + (1 : Int))) + (1 : Int))) + (1 : Int))) + (1 : Int))) + (1 : Int))) + (1 : Int))) + (1 : Int))), (⟨b145.Rest.Servers, b145.Rest.Ops, b145.Rest.End⟩ : Timpl_Rest)⟩ : Timpl_Event)) v126).bind fun b146 => (at? (v124.set v126.toNat (⟨b146.Kind, b146.Realm, b146.By, b146.Client, b146.Service, b146.Key, b146.Parent, b146.Evid, (⟨(IntKind.i64.wrap ((IntKind.i64.wrap ((IntKind.i64.wrap ((IntKind.i64.wrap ((IntKind.i64.wrap ((IntKind.i64.wrap ((IntKind.i64.wrap ((IntKind.i64.wrap (v125 + (1 : Int))) + (1 : Int))) + (1 : Int))) + (1 : Int))) + (1 : Int))) + (1 : Int))) + (1 : Int))) + (1 : Int))), b146.Rest.Ops, b146.Rest.End⟩ : Timpl_Rest)⟩ : Timpl_Event)) v126).bind fun b147 => (at? (v124.set v126.toNat (⟨b147.Kind, b147.Realm, b147.By, b147.Client, b147.Service, b147.Key, b147.Parent, b147.Evid, (⟨b147.Rest.Servers, (IntKind.i64.wrap ((IntKind.i64.wrap ((IntKind.i64.wrap ((IntKind.i64.wrap ((IntKind.i64.wrap ((IntKind.i64.wrap ((IntKind.i64.wrap ((IntKind.i64.wrap ((IntKind.i64.wrap (v125 + (1 : Int))) + (1 : Int))) + (1 : Int))) + (1 : Int))) + (1 : Int))) + (1 : Int))) + (1 : Int))) + (1 : Int))) + (1 : Int))), b147.Rest.End⟩ : Timpl_Rest)⟩ : Timpl_Event)) v126).bind fun b148 => (Flaws_markEventS.l2 k2) (v124.set v126.toNat (⟨b148.Kind, b148.Realm, b148.By, b148.Client, b148.Service, b148.Key, b148.Parent, b148.Evid, (⟨b148.Rest.Servers, b148.Rest.Ops, (IntKind.i64.wrap ((IntKind.i64.wrap ((IntKind.i64.wrap ((IntKind.i64.wrap ((IntKind.i64.wrap ((IntKind.i64.wrap ((IntKind.i64.wrap ((IntKind.i64.wrap ((IntKind.i64.wrap ((IntKind.i64.wrap (v125 + (1 : Int))) + (1 : Int))) + (1 : Int))) + (1 : Int))) + (1 : Int))) + (1 : Int))) + (1 : Int))) + (1 : Int))) + (1 : Int))) + (1 : Int)))⟩ : Timpl_Rest)⟩ : Timpl_Event)) (IntKind.i64.wrap ((IntKind.i64.wrap ((IntKind.i64.wrap ((IntKind.i64.wrap ((IntKind.i64.wrap ((IntKind.i64.wrap ((IntKind.i64.wrap ((IntKind.i64.wrap ((IntKind.i64.wrap ((IntKind.i64.wrap ((IntKind.i64.wrap (v125 + (1 : Int))) + (1 : Int))) + (1 : Int))) + (1 : Int))) + (1 : Int))) + (1 : Int))) + (1 : Int))) + (1 : Int))) + (1 : Int))) + (1 : Int))) + (1 : Int))) (IntKind.i64.wrap (v126 + (1 : Int)))) (some (v125, v124))
def Flaws_markEventS (k : Nat) (a0 : List Timpl_Event) (a1 : Int) : Option (Int × List Timpl_Event) := Flaws_markEventS.l2 k a0 a1 (0 : Int)
theorem ent111 : MG.Enters Try.prog 111 := ⟨Try.f111, Try.func111, rfl, by decide⟩
set_option maxHeartbeats 8000000 in
set_option maxRecDepth 100000 in
theorem Flaws_markEventS_gives (k : Nat) (a0 : List Timpl_Event) (a1 : Int) (r : Int × List Timpl_Event) (H : Flaws_markEventS k a0 a1 = some r) : GivesB Try.prog 111 [V.one (Cell.ow 11 (List.map eTimpl_Event a0)), V.one (cI a1)] [] [0] [V.one (cI r.1)] [] [V.one (Cell.ow 11 (List.map eTimpl_Event r.2))] := by
 refine GivesB.intro Try.func111 rfl rfl rfl rfl rfl rfl ?_
 intro F hF hm
 unfold Flaws_markEventS at H
 obtain ⟨K, hK⟩ : ∃ K, k ≤ K := ⟨k, Nat.le_refl k⟩
 refine WpC.seq (WpC.regionL ?_)
 refine L.assign hF rfl rfl rfl (L.nil ?_)
 refine WpC.seq (WpC.seq (WpC.regionL ?_))
 refine L.assign hF rfl rfl rfl (L.nil ?_)
 refine WpC.block ?_
 refine WpC.loopL (P := Try.prog) (fun n σ => ∃ v124 : List Timpl_Event, ∃ v125 : Int, ∃ v126 : Int, n ≤ K ∧ Flaws_markEventS.l2 n v124 v125 v126 = some r ∧ σ = mkSt [(0, one (Cell.own 0)), (1, one (cI v125)), (5, one (cI v126))] [(0, ⟨11, List.map eTimpl_Event v124⟩)] [] 2) k ⟨_, ⟨a0, a1, (0 : Int), by omega, H, rfl⟩, Le.mk [(0, 0)] hm rfl (Sa2 (Sa1 trivial)) (Ra1 trivial) trivial⟩ ?_
 clear H
 rintro k2 _ ⟨v124, v125, v126, hk2, H, rfl⟩
 cases k2 with
 | zero => cases H
 | succ k2 =>
  rw [Flaws_markEventS.l2] at H
  refine WpC.seq (WpC.seq (WpC.regionL ?_))
  refine L.move hF rfl rfl rfl ?_
  refine L.move hF rfl rfl rfl ?_
  refine L.lenR (xs := v124) (e := eTimpl_Event) Try.underlying69 hF rfl rfl rfl rfl ?_
  refine L.bin hF rfl rfl rfl rfl rfl rfl (L.nil ?_)
  refine WpC.cond rfl (fun hc => ?_) (fun hc => ?_)
  ·replace H := condT hc H
   refine WpC.skip (WpC.seq (WpC.block (WpC.seq (WpC.regionL ?_))))
   refine L.move hF rfl rfl rfl ?_
   refine L.move hF rfl rfl rfl ?_
   refine L.move hF rfl rfl rfl ?_
   obtain ⟨b138, hb138, H⟩ := bindS H
   refine L.idxR (xs := v124) (e := eTimpl_Event) Try.underlying69 info181 hF rfl rfl rfl rfl rfl hb138 rfl rfl ?_
   refine L.fieldAddr Try.underlying181 rfl info3 rfl hF rfl rfl rfl rfl rfl ?_
   refine L.storeEp (xs := v124) (e := eTimpl_Event) (a' := (⟨v125, b138.Realm, b138.By, b138.Client, b138.Service, b138.Key, b138.Parent, b138.Evid, (⟨b138.Rest.Servers, b138.Rest.Ops, b138.Rest.End⟩ : Timpl_Rest)⟩ : Timpl_Event)) shape3 hF rfl rfl rfl rfl rfl rfl rfl (at?_get hb138).2 rfl rfl ?_
   refine L.nil ?_
   refine WpC.seq (WpC.regionL ?_)
   refine L.move hF rfl rfl rfl ?_
   refine L.bin hF rfl rfl rfl rfl rfl rfl ?_
   refine L.assign hF rfl rfl rfl (L.nil ?_)
   refine WpC.seq (WpC.regionL ?_)
   refine L.move hF rfl rfl rfl ?_
   refine L.move hF rfl rfl rfl ?_
   refine L.move hF rfl rfl rfl ?_
   obtain ⟨b139, hb139, H⟩ := bindS H
   refine L.idxR (xs := (v124.set v126.toNat (⟨v125, b138.Realm, b138.By, b138.Client, b138.Service, b138.Key, b138.Parent, b138.Evid, (⟨b138.Rest.Servers, b138.Rest.Ops, b138.Rest.End⟩ : Timpl_Rest)⟩ : Timpl_Event))) (e := eTimpl_Event) Try.underlying69 info181 hF rfl rfl rfl rfl rfl hb139 rfl rfl ?_
   refine L.fieldAddr Try.underlying181 rfl info3 rfl hF rfl rfl rfl rfl rfl ?_
   refine L.storeEp (xs := (v124.set v126.toNat (⟨v125, b138.Realm, b138.By, b138.Client, b138.Service, b138.Key, b138.Parent, b138.Evid, (⟨b138.Rest.Servers, b138.Rest.Ops, b138.Rest.End⟩ : Timpl_Rest)⟩ : Timpl_Event))) (e := eTimpl_Event) (a' := (⟨b139.Kind, (IntKind.i64.wrap (v125 + (1 : Int))), b139.By, b139.Client, b139.Service, b139.Key, b139.Parent, b139.Evid, (⟨b139.Rest.Servers, b139.Rest.Ops, b139.Rest.End⟩ : Timpl_Rest)⟩ : Timpl_Event)) shape3 hF rfl rfl rfl rfl rfl rfl rfl (at?_get hb139).2 rfl rfl ?_
   refine L.le (Le.ss 0 rfl) (L.nil ?_)
   refine WpC.seq (WpC.regionL ?_)
   refine L.move hF rfl rfl rfl ?_
   refine L.bin hF rfl rfl rfl rfl rfl rfl ?_
   refine L.assign hF rfl rfl rfl (L.nil ?_)
   refine WpC.seq (WpC.regionL ?_)
   refine L.move hF rfl rfl rfl ?_
   refine L.move hF rfl rfl rfl ?_
   refine L.move hF rfl rfl rfl ?_
   obtain ⟨b140, hb140, H⟩ := bindS H
   refine L.idxR (xs := (v124.set v126.toNat (⟨b139.Kind, (IntKind.i64.wrap (v125 + (1 : Int))), b139.By, b139.Client, b139.Service, b139.Key, b139.Parent, b139.Evid, (⟨b139.Rest.Servers, b139.Rest.Ops, b139.Rest.End⟩ : Timpl_Rest)⟩ : Timpl_Event))) (e := eTimpl_Event) Try.underlying69 info181 hF rfl rfl rfl rfl rfl hb140 rfl rfl ?_
   refine L.fieldAddr Try.underlying181 rfl info3 rfl hF rfl rfl rfl rfl rfl ?_
   refine L.storeEp (xs := (v124.set v126.toNat (⟨b139.Kind, (IntKind.i64.wrap (v125 + (1 : Int))), b139.By, b139.Client, b139.Service, b139.Key, b139.Parent, b139.Evid, (⟨b139.Rest.Servers, b139.Rest.Ops, b139.Rest.End⟩ : Timpl_Rest)⟩ : Timpl_Event))) (e := eTimpl_Event) (a' := (⟨b140.Kind, b140.Realm, (IntKind.i64.wrap ((IntKind.i64.wrap (v125 + (1 : Int))) + (1 : Int))), b140.Client, b140.Service, b140.Key, b140.Parent, b140.Evid, (⟨b140.Rest.Servers, b140.Rest.Ops, b140.Rest.End⟩ : Timpl_Rest)⟩ : Timpl_Event)) shape3 hF rfl rfl rfl rfl rfl rfl rfl (at?_get hb140).2 rfl rfl ?_
   refine L.le (Le.ss 0 rfl) (L.nil ?_)
   refine WpC.seq (WpC.regionL ?_)
   refine L.move hF rfl rfl rfl ?_
   refine L.bin hF rfl rfl rfl rfl rfl rfl ?_
   refine L.assign hF rfl rfl rfl (L.nil ?_)
   refine WpC.seq (WpC.regionL ?_)
   refine L.move hF rfl rfl rfl ?_
   refine L.move hF rfl rfl rfl ?_
   refine L.move hF rfl rfl rfl ?_
   obtain ⟨b141, hb141, H⟩ := bindS H
   refine L.idxR (xs := (v124.set v126.toNat (⟨b140.Kind, b140.Realm, (IntKind.i64.wrap ((IntKind.i64.wrap (v125 + (1 : Int))) + (1 : Int))), b140.Client, b140.Service, b140.Key, b140.Parent, b140.Evid, (⟨b140.Rest.Servers, b140.Rest.Ops, b140.Rest.End⟩ : Timpl_Rest)⟩ : Timpl_Event))) (e := eTimpl_Event) Try.underlying69 info181 hF rfl rfl rfl rfl rfl hb141 rfl rfl ?_
   refine L.fieldAddr Try.underlying181 rfl info3 rfl hF rfl rfl rfl rfl rfl ?_
   refine L.storeEp (xs := (v124.set v126.toNat (⟨b140.Kind, b140.Realm, (IntKind.i64.wrap ((IntKind.i64.wrap (v125 + (1 : Int))) + (1 : Int))), b140.Client, b140.Service, b140.Key, b140.Parent, b140.Evid, (⟨b140.Rest.Servers, b140.Rest.Ops, b140.Rest.End⟩ : Timpl_Rest)⟩ : Timpl_Event))) (e := eTimpl_Event) (a' := (⟨b141.Kind, b141.Realm, b141.By, (IntKind.i64.wrap ((IntKind.i64.wrap ((IntKind.i64.wrap (v125 + (1 : Int))) + (1 : Int))) + (1 : Int))), b141.Service, b141.Key, b141.Parent, b141.Evid, (⟨b141.Rest.Servers, b141.Rest.Ops, b141.Rest.End⟩ : Timpl_Rest)⟩ : Timpl_Event)) shape3 hF rfl rfl rfl rfl rfl rfl rfl (at?_get hb141).2 rfl rfl ?_
   refine L.le (Le.ss 0 rfl) (L.nil ?_)
   refine WpC.seq (WpC.regionL ?_)
   refine L.move hF rfl rfl rfl ?_
   refine L.bin hF rfl rfl rfl rfl rfl rfl ?_
   refine L.assign hF rfl rfl rfl (L.nil ?_)
   refine WpC.seq (WpC.regionL ?_)
   refine L.move hF rfl rfl rfl ?_
   refine L.move hF rfl rfl rfl ?_
   refine L.move hF rfl rfl rfl ?_
   obtain ⟨b142, hb142, H⟩ := bindS H
   refine L.idxR (xs := (v124.set v126.toNat (⟨b141.Kind, b141.Realm, b141.By, (IntKind.i64.wrap ((IntKind.i64.wrap ((IntKind.i64.wrap (v125 + (1 : Int))) + (1 : Int))) + (1 : Int))), b141.Service, b141.Key, b141.Parent, b141.Evid, (⟨b141.Rest.Servers, b141.Rest.Ops, b141.Rest.End⟩ : Timpl_Rest)⟩ : Timpl_Event))) (e := eTimpl_Event) Try.underlying69 info181 hF rfl rfl rfl rfl rfl hb142 rfl rfl ?_
   refine L.fieldAddr Try.underlying181 rfl info3 rfl hF rfl rfl rfl rfl rfl ?_
   refine L.storeEp (xs := (v124.set v126.toNat (⟨b141.Kind, b141.Realm, b141.By, (IntKind.i64.wrap ((IntKind.i64.wrap ((IntKind.i64.wrap (v125 + (1 : Int))) + (1 : Int))) + (1 : Int))), b141.Service, b141.Key, b141.Parent, b141.Evid, (⟨b141.Rest.Servers, b141.Rest.Ops, b141.Rest.End⟩ : Timpl_Rest)⟩ : Timpl_Event))) (e := eTimpl_Event) (a' := (⟨b142.Kind, b142.Realm, b142.By, b142.Client, (IntKind.i64.wrap ((IntKind.i64.wrap ((IntKind.i64.wrap ((IntKind.i64.wrap (v125 + (1 : Int))) + (1 : Int))) + (1 : Int))) + (1 : Int))), b142.Key, b142.Parent, b142.Evid, (⟨b142.Rest.Servers, b142.Rest.Ops, b142.Rest.End⟩ : Timpl_Rest)⟩ : Timpl_Event)) shape3 hF rfl rfl rfl rfl rfl rfl rfl (at?_get hb142).2 rfl rfl ?_
   refine L.le (Le.ss 0 rfl) (L.nil ?_)
   refine WpC.seq (WpC.regionL ?_)
   refine L.move hF rfl rfl rfl ?_
   refine L.bin hF rfl rfl rfl rfl rfl rfl ?_
   refine L.assign hF rfl rfl rfl (L.nil ?_)
   refine WpC.seq (WpC.regionL ?_)
   refine L.move hF rfl rfl rfl ?_
   refine L.move hF rfl rfl rfl ?_
   refine L.move hF rfl rfl rfl ?_
   obtain ⟨b143, hb143, H⟩ := bindS H
   refine L.idxR (xs := (v124.set v126.toNat (⟨b142.Kind, b142.Realm, b142.By, b142.Client, (IntKind.i64.wrap ((IntKind.i64.wrap ((IntKind.i64.wrap ((IntKind.i64.wrap (v125 + (1 : Int))) + (1 : Int))) + (1 : Int))) + (1 : Int))), b142.Key, b142.Parent, b142.Evid, (⟨b142.Rest.Servers, b142.Rest.Ops, b142.Rest.End⟩ : Timpl_Rest)⟩ : Timpl_Event))) (e := eTimpl_Event) Try.underlying69 info181 hF rfl rfl rfl rfl rfl hb143 rfl rfl ?_
   refine L.fieldAddr Try.underlying181 rfl info3 rfl hF rfl rfl rfl rfl rfl ?_
   refine L.storeEp (xs := (v124.set v126.toNat (⟨b142.Kind, b142.Realm, b142.By, b142.Client, (IntKind.i64.wrap ((IntKind.i64.wrap ((IntKind.i64.wrap ((IntKind.i64.wrap (v125 + (1 : Int))) + (1 : Int))) + (1 : Int))) + (1 : Int))), b142.Key, b142.Parent, b142.Evid, (⟨b142.Rest.Servers, b142.Rest.Ops, b142.Rest.End⟩ : Timpl_Rest)⟩ : Timpl_Event))) (e := eTimpl_Event) (a' := (⟨b143.Kind, b143.Realm, b143.By, b143.Client, b143.Service, (IntKind.i64.wrap ((IntKind.i64.wrap ((IntKind.i64.wrap ((IntKind.i64.wrap ((IntKind.i64.wrap (v125 + (1 : Int))) + (1 : Int))) + (1 : Int))) + (1 : Int))) + (1 : Int))), b143.Parent, b143.Evid, (⟨b143.Rest.Servers, b143.Rest.Ops, b143.Rest.End⟩ : Timpl_Rest)⟩ : Timpl_Event)) shape3 hF rfl rfl rfl rfl rfl rfl rfl (at?_get hb143).2 rfl rfl ?_
   refine L.le (Le.ss 0 rfl) (L.nil ?_)
   refine WpC.seq (WpC.regionL ?_)
   refine L.move hF rfl rfl rfl ?_
   refine L.bin hF rfl rfl rfl rfl rfl rfl ?_
   refine L.assign hF rfl rfl rfl (L.nil ?_)
   refine WpC.seq (WpC.regionL ?_)
   refine L.move hF rfl rfl rfl ?_
   refine L.move hF rfl rfl rfl ?_
   refine L.move hF rfl rfl rfl ?_
   obtain ⟨b144, hb144, H⟩ := bindS H
   refine L.idxR (xs := (v124.set v126.toNat (⟨b143.Kind, b143.Realm, b143.By, b143.Client, b143.Service, (IntKind.i64.wrap ((IntKind.i64.wrap ((IntKind.i64.wrap ((IntKind.i64.wrap ((IntKind.i64.wrap (v125 + (1 : Int))) + (1 : Int))) + (1 : Int))) + (1 : Int))) + (1 : Int))), b143.Parent, b143.Evid, (⟨b143.Rest.Servers, b143.Rest.Ops, b143.Rest.End⟩ : Timpl_Rest)⟩ : Timpl_Event))) (e := eTimpl_Event) Try.underlying69 info181 hF rfl rfl rfl rfl rfl hb144 rfl rfl ?_
   refine L.fieldAddr Try.underlying181 rfl info3 rfl hF rfl rfl rfl rfl rfl ?_
   refine L.storeEp (xs := (v124.set v126.toNat (⟨b143.Kind, b143.Realm, b143.By, b143.Client, b143.Service, (IntKind.i64.wrap ((IntKind.i64.wrap ((IntKind.i64.wrap ((IntKind.i64.wrap ((IntKind.i64.wrap (v125 + (1 : Int))) + (1 : Int))) + (1 : Int))) + (1 : Int))) + (1 : Int))), b143.Parent, b143.Evid, (⟨b143.Rest.Servers, b143.Rest.Ops, b143.Rest.End⟩ : Timpl_Rest)⟩ : Timpl_Event))) (e := eTimpl_Event) (a' := (⟨b144.Kind, b144.Realm, b144.By, b144.Client, b144.Service, b144.Key, (IntKind.i64.wrap ((IntKind.i64.wrap ((IntKind.i64.wrap ((IntKind.i64.wrap ((IntKind.i64.wrap ((IntKind.i64.wrap (v125 + (1 : Int))) + (1 : Int))) + (1 : Int))) + (1 : Int))) + (1 : Int))) + (1 : Int))), b144.Evid, (⟨b144.Rest.Servers, b144.Rest.Ops, b144.Rest.End⟩ : Timpl_Rest)⟩ : Timpl_Event)) shape3 hF rfl rfl rfl rfl rfl rfl rfl (at?_get hb144).2 rfl rfl ?_
   refine L.le (Le.ss 0 rfl) (L.nil ?_)
   refine WpC.seq (WpC.regionL ?_)
   refine L.move hF rfl rfl rfl ?_
   refine L.bin hF rfl rfl rfl rfl rfl rfl ?_
   refine L.assign hF rfl rfl rfl (L.nil ?_)
   refine WpC.seq (WpC.regionL ?_)
   refine L.move hF rfl rfl rfl ?_
   refine L.move hF rfl rfl rfl ?_
   refine L.move hF rfl rfl rfl ?_
   obtain ⟨b145, hb145, H⟩ := bindS H
   refine L.idxR (xs := (v124.set v126.toNat (⟨b144.Kind, b144.Realm, b144.By, b144.Client, b144.Service, b144.Key, (IntKind.i64.wrap ((IntKind.i64.wrap ((IntKind.i64.wrap ((IntKind.i64.wrap ((IntKind.i64.wrap ((IntKind.i64.wrap (v125 + (1 : Int))) + (1 : Int))) + (1 : Int))) + (1 : Int))) + (1 : Int))) + (1 : Int))), b144.Evid, (⟨b144.Rest.Servers, b144.Rest.Ops, b144.Rest.End⟩ : Timpl_Rest)⟩ : Timpl_Event))) (e := eTimpl_Event) Try.underlying69 info181 hF rfl rfl rfl rfl rfl hb145 rfl rfl ?_
   refine L.fieldAddr Try.underlying181 rfl info3 rfl hF rfl rfl rfl rfl rfl ?_
   refine L.storeEp (xs := (v124.set v126.toNat (⟨b144.Kind, b144.Realm, b144.By, b144.Client, b144.Service, b144.Key, (IntKind.i64.wrap ((IntKind.i64.wrap ((IntKind.i64.wrap ((IntKind.i64.wrap ((IntKind.i64.wrap ((IntKind.i64.wrap (v125 + (1 : Int))) + (1 : Int))) + (1 : Int))) + (1 : Int))) + (1 : Int))) + (1 : Int))), b144.Evid, (⟨b144.Rest.Servers, b144.Rest.Ops, b144.Rest.End⟩ : Timpl_Rest)⟩ : Timpl_Event))) (e := eTimpl_Event) (a' := (⟨b145.Kind, b145.Realm, b145.By, b145.Client, b145.Service, b145.Key, b145.Parent, (IntKind.i64.wrap ((IntKind.i64.wrap ((IntKind.i64.wrap ((IntKind.i64.wrap ((IntKind.i64.wrap ((IntKind.i64.wrap ((IntKind.i64.wrap (v125 + (1 : Int))) + (1 : Int))) + (1 : Int))) + (1 : Int))) + (1 : Int))) + (1 : Int))) + (1 : Int))), (⟨b145.Rest.Servers, b145.Rest.Ops, b145.Rest.End⟩ : Timpl_Rest)⟩ : Timpl_Event)) shape3 hF rfl rfl rfl rfl rfl rfl rfl (at?_get hb145).2 rfl rfl ?_
   refine L.le (Le.ss 0 rfl) (L.nil ?_)
   refine WpC.seq (WpC.regionL ?_)
   refine L.move hF rfl rfl rfl ?_
   refine L.bin hF rfl rfl rfl rfl rfl rfl ?_
   refine L.assign hF rfl rfl rfl (L.nil ?_)
   refine WpC.seq (WpC.regionL ?_)
   refine L.move hF rfl rfl rfl ?_
   refine L.move hF rfl rfl rfl ?_
   refine L.move hF rfl rfl rfl ?_
   obtain ⟨b146, hb146, H⟩ := bindS H
   refine L.idxR (xs := (v124.set v126.toNat (⟨b145.Kind, b145.Realm, b145.By, b145.Client, b145.Service, b145.Key, b145.Parent, (IntKind.i64.wrap ((IntKind.i64.wrap ((IntKind.i64.wrap ((IntKind.i64.wrap ((IntKind.i64.wrap ((IntKind.i64.wrap ((IntKind.i64.wrap (v125 + (1 : Int))) + (1 : Int))) + (1 : Int))) + (1 : Int))) + (1 : Int))) + (1 : Int))) + (1 : Int))), (⟨b145.Rest.Servers, b145.Rest.Ops, b145.Rest.End⟩ : Timpl_Rest)⟩ : Timpl_Event))) (e := eTimpl_Event) Try.underlying69 info181 hF rfl rfl rfl rfl rfl hb146 rfl rfl ?_
   refine L.fieldAddr Try.underlying181 rfl info175 rfl hF rfl rfl rfl rfl rfl ?_
   refine L.fieldAddr Try.underlying175 rfl info3 rfl hF rfl rfl rfl rfl rfl ?_
   refine L.storeEp (xs := (v124.set v126.toNat (⟨b145.Kind, b145.Realm, b145.By, b145.Client, b145.Service, b145.Key, b145.Parent, (IntKind.i64.wrap ((IntKind.i64.wrap ((IntKind.i64.wrap ((IntKind.i64.wrap ((IntKind.i64.wrap ((IntKind.i64.wrap ((IntKind.i64.wrap (v125 + (1 : Int))) + (1 : Int))) + (1 : Int))) + (1 : Int))) + (1 : Int))) + (1 : Int))) + (1 : Int))), (⟨b145.Rest.Servers, b145.Rest.Ops, b145.Rest.End⟩ : Timpl_Rest)⟩ : Timpl_Event))) (e := eTimpl_Event) (a' := (⟨b146.Kind, b146.Realm, b146.By, b146.Client, b146.Service, b146.Key, b146.Parent, b146.Evid, (⟨(IntKind.i64.wrap ((IntKind.i64.wrap ((IntKind.i64.wrap ((IntKind.i64.wrap ((IntKind.i64.wrap ((IntKind.i64.wrap ((IntKind.i64.wrap ((IntKind.i64.wrap (v125 + (1 : Int))) + (1 : Int))) + (1 : Int))) + (1 : Int))) + (1 : Int))) + (1 : Int))) + (1 : Int))) + (1 : Int))), b146.Rest.Ops, b146.Rest.End⟩ : Timpl_Rest)⟩ : Timpl_Event)) shape3 hF rfl rfl rfl rfl rfl rfl rfl (at?_get hb146).2 rfl rfl ?_
   refine L.le (Le.ss 0 rfl) (L.nil ?_)
   refine WpC.seq (WpC.regionL ?_)
   refine L.move hF rfl rfl rfl ?_
   refine L.bin hF rfl rfl rfl rfl rfl rfl ?_
   refine L.assign hF rfl rfl rfl (L.nil ?_)
   refine WpC.seq (WpC.regionL ?_)
   refine L.move hF rfl rfl rfl ?_
   refine L.move hF rfl rfl rfl ?_
   refine L.move hF rfl rfl rfl ?_
   obtain ⟨b147, hb147, H⟩ := bindS H
   refine L.idxR (xs := (v124.set v126.toNat (⟨b146.Kind, b146.Realm, b146.By, b146.Client, b146.Service, b146.Key, b146.Parent, b146.Evid, (⟨(IntKind.i64.wrap ((IntKind.i64.wrap ((IntKind.i64.wrap ((IntKind.i64.wrap ((IntKind.i64.wrap ((IntKind.i64.wrap ((IntKind.i64.wrap ((IntKind.i64.wrap (v125 + (1 : Int))) + (1 : Int))) + (1 : Int))) + (1 : Int))) + (1 : Int))) + (1 : Int))) + (1 : Int))) + (1 : Int))), b146.Rest.Ops, b146.Rest.End⟩ : Timpl_Rest)⟩ : Timpl_Event))) (e := eTimpl_Event) Try.underlying69 info181 hF rfl rfl rfl rfl rfl hb147 rfl rfl ?_
   refine L.fieldAddr Try.underlying181 rfl info175 rfl hF rfl rfl rfl rfl rfl ?_
   refine L.fieldAddr Try.underlying175 rfl info3 rfl hF rfl rfl rfl rfl rfl ?_
   refine L.storeEp (xs := (v124.set v126.toNat (⟨b146.Kind, b146.Realm, b146.By, b146.Client, b146.Service, b146.Key, b146.Parent, b146.Evid, (⟨(IntKind.i64.wrap ((IntKind.i64.wrap ((IntKind.i64.wrap ((IntKind.i64.wrap ((IntKind.i64.wrap ((IntKind.i64.wrap ((IntKind.i64.wrap ((IntKind.i64.wrap (v125 + (1 : Int))) + (1 : Int))) + (1 : Int))) + (1 : Int))) + (1 : Int))) + (1 : Int))) + (1 : Int))) + (1 : Int))), b146.Rest.Ops, b146.Rest.End⟩ : Timpl_Rest)⟩ : Timpl_Event))) (e := eTimpl_Event) (a' := (⟨b147.Kind, b147.Realm, b147.By, b147.Client, b147.Service, b147.Key, b147.Parent, b147.Evid, (⟨b147.Rest.Servers, (IntKind.i64.wrap ((IntKind.i64.wrap ((IntKind.i64.wrap ((IntKind.i64.wrap ((IntKind.i64.wrap ((IntKind.i64.wrap ((IntKind.i64.wrap ((IntKind.i64.wrap ((IntKind.i64.wrap (v125 + (1 : Int))) + (1 : Int))) + (1 : Int))) + (1 : Int))) + (1 : Int))) + (1 : Int))) + (1 : Int))) + (1 : Int))) + (1 : Int))), b147.Rest.End⟩ : Timpl_Rest)⟩ : Timpl_Event)) shape3 hF rfl rfl rfl rfl rfl rfl rfl (at?_get hb147).2 rfl rfl ?_
   refine L.le (Le.ss 0 rfl) (L.nil ?_)
   refine WpC.seq (WpC.regionL ?_)
   refine L.move hF rfl rfl rfl ?_
   refine L.bin hF rfl rfl rfl rfl rfl rfl ?_
   refine L.assign hF rfl rfl rfl (L.nil ?_)
   refine WpC.seq (WpC.regionL ?_)
   refine L.move hF rfl rfl rfl ?_
   refine L.move hF rfl rfl rfl ?_
   refine L.move hF rfl rfl rfl ?_
   obtain ⟨b148, hb148, H⟩ := bindS H
   refine L.idxR (xs := (v124.set v126.toNat (⟨b147.Kind, b147.Realm, b147.By, b147.Client, b147.Service, b147.Key, b147.Parent, b147.Evid, (⟨b147.Rest.Servers, (IntKind.i64.wrap ((IntKind.i64.wrap ((IntKind.i64.wrap ((IntKind.i64.wrap ((IntKind.i64.wrap ((IntKind.i64.wrap ((IntKind.i64.wrap ((IntKind.i64.wrap ((IntKind.i64.wrap (v125 + (1 : Int))) + (1 : Int))) + (1 : Int))) + (1 : Int))) + (1 : Int))) + (1 : Int))) + (1 : Int))) + (1 : Int))) + (1 : Int))), b147.Rest.End⟩ : Timpl_Rest)⟩ : Timpl_Event))) (e := eTimpl_Event) Try.underlying69 info181 hF rfl rfl rfl rfl rfl hb148 rfl rfl ?_
   refine L.fieldAddr Try.underlying181 rfl info175 rfl hF rfl rfl rfl rfl rfl ?_
   refine L.fieldAddr Try.underlying175 rfl info3 rfl hF rfl rfl rfl rfl rfl ?_
   refine L.storeEp (xs := (v124.set v126.toNat (⟨b147.Kind, b147.Realm, b147.By, b147.Client, b147.Service, b147.Key, b147.Parent, b147.Evid, (⟨b147.Rest.Servers, (IntKind.i64.wrap ((IntKind.i64.wrap ((IntKind.i64.wrap ((IntKind.i64.wrap ((IntKind.i64.wrap ((IntKind.i64.wrap ((IntKind.i64.wrap ((IntKind.i64.wrap ((IntKind.i64.wrap (v125 + (1 : Int))) + (1 : Int))) + (1 : Int))) + (1 : Int))) + (1 : Int))) + (1 : Int))) + (1 : Int))) + (1 : Int))) + (1 : Int))), b147.Rest.End⟩ : Timpl_Rest)⟩ : Timpl_Event))) (e := eTimpl_Event) (a' := (⟨b148.Kind, b148.Realm, b148.By, b148.Client, b148.Service, b148.Key, b148.Parent, b148.Evid, (⟨b148.Rest.Servers, b148.Rest.Ops, (IntKind.i64.wrap ((IntKind.i64.wrap ((IntKind.i64.wrap ((IntKind.i64.wrap ((IntKind.i64.wrap ((IntKind.i64.wrap ((IntKind.i64.wrap ((IntKind.i64.wrap ((IntKind.i64.wrap ((IntKind.i64.wrap (v125 + (1 : Int))) + (1 : Int))) + (1 : Int))) + (1 : Int))) + (1 : Int))) + (1 : Int))) + (1 : Int))) + (1 : Int))) + (1 : Int))) + (1 : Int)))⟩ : Timpl_Rest)⟩ : Timpl_Event)) shape3 hF rfl rfl rfl rfl rfl rfl rfl (at?_get hb148).2 rfl rfl ?_
   refine L.le (Le.ss 0 rfl) (L.nil ?_)
   refine WpC.regionL ?_
   refine L.move hF rfl rfl rfl ?_
   refine L.bin hF rfl rfl rfl rfl rfl rfl ?_
   refine L.assign hF rfl rfl rfl (L.nil ?_)
   refine WpC.regionL ?_
   refine L.move hF rfl rfl rfl ?_
   refine L.bin hF rfl rfl rfl rfl rfl rfl ?_
   refine L.assign hF rfl rfl rfl (L.nil ?_)
   exact ⟨k2, _, by omega, ⟨(v124.set v126.toNat (⟨b148.Kind, b148.Realm, b148.By, b148.Client, b148.Service, b148.Key, b148.Parent, b148.Evid, (⟨b148.Rest.Servers, b148.Rest.Ops, (IntKind.i64.wrap ((IntKind.i64.wrap ((IntKind.i64.wrap ((IntKind.i64.wrap ((IntKind.i64.wrap ((IntKind.i64.wrap ((IntKind.i64.wrap ((IntKind.i64.wrap ((IntKind.i64.wrap ((IntKind.i64.wrap (v125 + (1 : Int))) + (1 : Int))) + (1 : Int))) + (1 : Int))) + (1 : Int))) + (1 : Int))) + (1 : Int))) + (1 : Int))) + (1 : Int))) + (1 : Int)))⟩ : Timpl_Rest)⟩ : Timpl_Event)), (IntKind.i64.wrap ((IntKind.i64.wrap ((IntKind.i64.wrap ((IntKind.i64.wrap ((IntKind.i64.wrap ((IntKind.i64.wrap ((IntKind.i64.wrap ((IntKind.i64.wrap ((IntKind.i64.wrap ((IntKind.i64.wrap ((IntKind.i64.wrap (v125 + (1 : Int))) + (1 : Int))) + (1 : Int))) + (1 : Int))) + (1 : Int))) + (1 : Int))) + (1 : Int))) + (1 : Int))) + (1 : Int))) + (1 : Int))) + (1 : Int))), (IntKind.i64.wrap (v126 + (1 : Int))), by omega, H, rfl⟩, Le.mk [(0, 0)] hm rfl (Sa2 (Sa1 trivial)) (Ra1 trivial) trivial⟩
  ·replace H := condF hc H
   refine WpC.exit (WpC.seq (WpC.regionL ?_))
   refine L.move hF rfl rfl rfl ?_
   refine L.assign hF rfl rfl rfl (L.nil ?_)
   refine WpC.ret ?_
   cases H
   exact Leaves.retB rfl rfl rfl rfl ⟨rfl, rfl, rfl⟩
/-! ### Flaws_markAcceptS -/
def Flaws_markAcceptS.l2 : Nat → (List Timpl_Accept) → Int → Int → Option (Int × List Timpl_Accept)
 | 0, _, _, _ => none
 | k2 + 1, v194, v195, v196 => cond (decide (v196 < (v194.length : Int))) ((at? v194 v196).bind fun b215 => (at? (v194.set v196.toNat (⟨v195, b215.Client, b215.Key, b215.Op, b215.Now, (⟨b215.Auth.Client, b215.Auth.Time, b215.Auth.Seq⟩ : Timpl_Auth), (⟨b215.Rest.Servers, b215.Rest.Ops, b215.Rest.End⟩ : Timpl_Rest), b215.Path, b215.Via, b215.Leaks, b215.Ticket⟩ : Timpl_Accept)) v196).bind fun b216 => (at? (v194.set v196.toNat (⟨b216.Server, (IntKind.i64.wrap (v195 + (1 : Int))), b216.Key, b216.Op, b216.Now, (⟨b216.Auth.Client, b216.Auth.Time, b216.Auth.Seq⟩ : Timpl_Auth), (⟨b216.Rest.Servers, b216.Rest.Ops, b216.Rest.End⟩ : Timpl_Rest), b216.Path, b216.Via, b216.Leaks, b216.Ticket⟩ : Timpl_Accept)) v196).bind fun b217 => (at? (v194.set v196.toNat (⟨b217.Server, b217.Client, (IntKind.i64.wrap ((IntKind.i64.wrap (v195 + (1 : Int))) + (1 : Int))), b217.Op, b217.Now, (⟨b217.Auth.Client, b217.Auth.Time, b217.Auth.Seq⟩ : Timpl_Auth), (⟨b217.Rest.Servers, b217.Rest.Ops, b217.Rest.End⟩ : Timpl_Rest), b217.Path, b217.Via, b217.Leaks, b217.Ticket⟩ : Timpl_Accept)) v196).bind fun b218 => (at? (v194.set v196.toNat (⟨b218.Server, b218.Client, b218.Key, (IntKind.i64.wrap ((IntKind.i64.wrap ((IntKind.i64.wrap (v195 + (1 : Int))) + (1 : Int))) + (1 : Int))), b218.Now, (⟨b218.Auth.Client, b218.Auth.Time, b218.Auth.Seq⟩ : Timpl_Auth), (⟨b218.Rest.Servers, b218.Rest.Ops, b218.Rest.End⟩ : Timpl_Rest), b218.Path, b218.Via, b218.Leaks, b218.Ticket⟩ : Timpl_Accept)) v196).bind fun b219 => (at? (v194.set v196.toNat (⟨b219.Server, b219.Client, b219.Key, b219.Op, (IntKind.i64.wrap ((IntKind.i64.wrap ((IntKind.i64.wrap ((IntKind.i64.wrap (v195 + (1 : Int))) + (1 : Int))) + (1 : Int))) + (1 : Int))), (⟨b219.Auth.Client, b219.Auth.Time, b219.Auth.Seq⟩ : Timpl_Auth), (⟨b219.Rest.Servers, b219.Rest.Ops, b219.Rest.End⟩ : Timpl_Rest), b219.Path, b219.Via, b219.Leaks, b219.Ticket⟩ : Timpl_Accept)) v196).bind fun b220 => (at? (v194.set v196.toNat (⟨b220.Server, b220.Client, b220.Key, b220.Op, b220.Now, (⟨(IntKind.i64.wrap ((IntKind.i64.wrap ((IntKind.i64.wrap ((IntKind.i64.wrap ((IntKind.i64.wrap (v195 + (1 : Int))) + (1 : Int))) + (1 : Int))) + (1 : Int))) + (1 : Int))), b220.Auth.Time, b220.Auth.Seq⟩ : Timpl_Auth), (⟨b220.Rest.Servers, b220.Rest.Ops, b220.Rest.End⟩ : Timpl_Rest), b220.Path, b220.Via, b220.Leaks, b220.Ticket⟩ : Timpl_Accept)) v196).bind fun b221 => (at? (v194.set v196.toNat (⟨b221.Server, b221.Client, b221.Key, b221.Op, b221.Now, (⟨b221.Auth.Client, (IntKind.i64.wrap ((IntKind.i64.wrap ((IntKind.i64.wrap ((IntKind.i64.wrap ((IntKind.i64.wrap ((IntKind.i64.wrap (v195 + (1 : Int))) + (1 : Int))) + (1 : Int))) + (1 : Int))) + (1 : Int))) + (1 : Int))), b221.Auth.Seq⟩ : Timpl_Auth), (⟨b221.Rest.Servers, b221.Rest.Ops, b221.Rest.End⟩ : Timpl_Rest), b221.Path, b221.Via, b221.Leaks, b221.Ticket⟩ : Timpl_Accept)) v196).bind fun b222 => (at? (v194.set v196.toNat (⟨b222.Server, b222.Client, b222.Key, b222.Op, b222.Now, (⟨b222.Auth.Client, b222.Auth.Time, (IntKind.i64.wrap ((IntKind.i64.wrap ((IntKind.i64.wrap ((IntKind.i64.wrap ((IntKind.i64.wrap ((IntKind.i64.wrap ((IntKind.i64.wrap (v195 + (1 : Int))) + (1 : Int))) + (1 : Int))) + (1 : Int))) + (1 : Int))) + (1 : Int))) + (1 : Int)))⟩ : Timpl_Auth), (⟨b222.Rest.Servers, b222.Rest.Ops, b222.Rest.End⟩ : Timpl_Rest), b222.Path, b222.Via, b222.Leaks, b222.Ticket⟩ : Timpl_Accept)) v196).bind fun b223 => (at? (v194.set v196.toNat (⟨b223.Server, b223.Client, b223.Key, b223.Op, b223.Now, (⟨b223.Auth.Client, b223.Auth.Time, b223.Auth.Seq⟩ : Timpl_Auth), (⟨(IntKind.i64.wrap ((IntKind.i64.wrap ((IntKind.i64.wrap ((IntKind.i64.wrap ((IntKind.i64.wrap ((IntKind.i64.wrap ((IntKind.i64.wrap ((IntKind.i64.wrap (v195 + (1 : Int))) + (1 : Int))) + (1 : Int))) + (1 : Int))) + (1 : Int))) + (1 : Int))) + (1 : Int))) + (1 : Int))), b223.Rest.Ops, b223.Rest.End⟩ : Timpl_Rest), b223.Path, b223.Via, b223.Leaks, b223.Ticket⟩ : Timpl_Accept)) v196).bind fun b224 => (at? (v194.set v196.toNat (⟨b224.Server, b224.Client, b224.Key, b224.Op, b224.Now, (⟨b224.Auth.Client, b224.Auth.Time, b224.Auth.Seq⟩ : Timpl_Auth), (⟨b224.Rest.Servers, (IntKind.i64.wrap ((IntKind.i64.wrap ((IntKind.i64.wrap ((IntKind.i64.wrap ((IntKind.i64.wrap ((IntKind.i64.wrap ((IntKind.i64.wrap ((IntKind.i64.wrap ((IntKind.i64.wrap (v195 + (1 : Int))) + (1 : Int))) + (1 : Int))) + (1 : Int))) + (1 : Int))) + (1 : Int))) + (1 : Int))) + (1 : Int))) + (1 : Int))), b224.Rest.End⟩ : Timpl_Rest), b224.Path, b224.Via, b224.Leaks, b224.Ticket⟩ : Timpl_Accept)) v196).bind fun b225 => (at? (v194.set v196.toNat (⟨b225.Server, b225.Client, b225.Key, b225.Op, b225.Now, (⟨b225.Auth.Client, b225.Auth.Time, b225.Auth.Seq⟩ : Timpl_Auth), (⟨b225.Rest.Servers, b225.Rest.Ops, (IntKind.i64.wrap ((IntKind.i64.wrap ((IntKind.i64.wrap ((IntKind.i64.wrap ((IntKind.i64.wrap ((IntKind.i64.wrap ((IntKind.i64.wrap ((IntKind.i64.wrap ((IntKind.i64.wrap ((IntKind.i64.wrap (v195 + (1 : Int))) + (1 : Int))) + (1 : Int))) + (1 : Int))) + (1 : Int))) + (1 : Int))) + (1 : Int))) + (1 : Int))) + (1 : Int))) + (1 : Int)))⟩ : Timpl_Rest), b225.Path, b225.Via, b225.Leaks, b225.Ticket⟩ : Timpl_Accept)) v196).bind fun b226 => (Flaws_markIntS k2 b226.Path (IntKind.i64.wrap ((IntKind.i64.wrap ((IntKind.i64.wrap ((IntKind.i64.wrap ((IntKind.i64.wrap ((IntKind.i64.wrap ((IntKind.i64.wrap ((IntKind.i64.wrap ((IntKind.i64.wrap ((IntKind.i64.wrap ((IntKind.i64.wrap (v195 + (1 : Int))) + (1 : Int))) + (1 : Int))) + (1 : Int))) + (1 : Int))) + (1 : Int))) + (1 : Int))) + (1 : Int))) + (1 : Int))) + (1 : Int))) + (1 : Int)))).bind fun r227 => (at? (v194.set v196.toNat (⟨b226.Server, b226.Client, b226.Key, b226.Op, b226.Now, (⟨b226.Auth.Client, b226.Auth.Time, b226.Auth.Seq⟩ : Timpl_Auth), (⟨b226.Rest.Servers, b226.Rest.Ops, b226.Rest.End⟩ : Timpl_Rest), r227.2, b226.Via, b226.Leaks, b226.Ticket⟩ : Timpl_Accept)) v196).bind fun b228 => (Flaws_markIntS k2 b228.Via r227.1).bind fun r229 => (at? (v194.set v196.toNat (⟨b228.Server, b228.Client, b228.Key, b228.Op, b228.Now, (⟨b228.Auth.Client, b228.Auth.Time, b228.Auth.Seq⟩ : Timpl_Auth), (⟨b228.Rest.Servers, b228.Rest.Ops, b228.Rest.End⟩ : Timpl_Rest), b228.Path, r229.2, b228.Leaks, b228.Ticket⟩ : Timpl_Accept)) v196).bind fun b230 => (Flaws_markText k2 (IntKind.i64.wrap (r229.1 + (1 : Int)))).bind fun r231 => (at? (v194.set v196.toNat (⟨b230.Server, b230.Client, b230.Key, b230.Op, b230.Now, (⟨b230.Auth.Client, b230.Auth.Time, b230.Auth.Seq⟩ : Timpl_Auth), (⟨b230.Rest.Servers, b230.Rest.Ops, b230.Rest.End⟩ : Timpl_Rest), b230.Path, b230.Via, r229.1, b230.Ticket⟩ : Timpl_Accept)) v196).bind fun b232 => (Flaws_markAcceptS.l2 k2) (v194.set v196.toNat (⟨b232.Server, b232.Client, b232.Key, b232.Op, b232.Now, (⟨b232.Auth.Client, b232.Auth.Time, b232.Auth.Seq⟩ : Timpl_Auth), (⟨b232.Rest.Servers, b232.Rest.Ops, b232.Rest.End⟩ : Timpl_Rest), b232.Path, b232.Via, b232.Leaks, r231⟩ : Timpl_Accept)) (IntKind.i64.wrap ((IntKind.i64.wrap (r229.1 + (1 : Int))) + (1 : Int))) (IntKind.i64.wrap (v196 + (1 : Int)))) (some (v195, v194))
def Flaws_markAcceptS (k : Nat) (a0 : List Timpl_Accept) (a1 : Int) : Option (Int × List Timpl_Accept) := Flaws_markAcceptS.l2 k a0 a1 (0 : Int)
theorem ent112 : MG.Enters Try.prog 112 := ⟨Try.f112, Try.func112, rfl, by decide⟩
set_option maxHeartbeats 8000000 in
set_option maxRecDepth 100000 in
theorem Flaws_markAcceptS_gives (k : Nat) (a0 : List Timpl_Accept) (a1 : Int) (r : Int × List Timpl_Accept) (H : Flaws_markAcceptS k a0 a1 = some r) : GivesB Try.prog 112 [V.one (Cell.ow 15 (List.map eTimpl_Accept a0)), V.one (cI a1)] [] [0] [V.one (cI r.1)] [] [V.one (Cell.ow 15 (List.map eTimpl_Accept r.2))] := by
 refine GivesB.intro Try.func112 rfl rfl rfl rfl rfl rfl ?_
 intro F hF hm
 unfold Flaws_markAcceptS at H
 obtain ⟨K, hK⟩ : ∃ K, k ≤ K := ⟨k, Nat.le_refl k⟩
 refine WpC.seq (WpC.regionL ?_)
 refine L.assign hF rfl rfl rfl (L.nil ?_)
 refine WpC.seq (WpC.seq (WpC.regionL ?_))
 refine L.assign hF rfl rfl rfl (L.nil ?_)
 refine WpC.block ?_
 refine WpC.loopL (P := Try.prog) (fun n σ => ∃ v194 : List Timpl_Accept, ∃ v195 : Int, ∃ v196 : Int, n ≤ K ∧ Flaws_markAcceptS.l2 n v194 v195 v196 = some r ∧ σ = mkSt [(0, one (Cell.own 0)), (1, one (cI v195)), (5, one (cI v196))] [(0, ⟨15, List.map eTimpl_Accept v194⟩)] [] 2) k ⟨_, ⟨a0, a1, (0 : Int), by omega, H, rfl⟩, Le.mk [(0, 0)] hm rfl (Sa2 (Sa1 trivial)) (Ra1 trivial) trivial⟩ ?_
 clear H
 rintro k2 _ ⟨v194, v195, v196, hk2, H, rfl⟩
 cases k2 with
 | zero => cases H
 | succ k2 =>
  rw [Flaws_markAcceptS.l2] at H
  refine WpC.seq (WpC.seq (WpC.regionL ?_))
  refine L.move hF rfl rfl rfl ?_
  refine L.move hF rfl rfl rfl ?_
  refine L.lenR (xs := v194) (e := eTimpl_Accept) Try.underlying70 hF rfl rfl rfl rfl ?_
  refine L.bin hF rfl rfl rfl rfl rfl rfl (L.nil ?_)
  refine WpC.cond rfl (fun hc => ?_) (fun hc => ?_)
  ·replace H := condT hc H
   refine WpC.skip (WpC.seq (WpC.block (WpC.seq (WpC.regionL ?_))))
   refine L.move hF rfl rfl rfl ?_
   refine L.move hF rfl rfl rfl ?_
   refine L.move hF rfl rfl rfl ?_
   obtain ⟨b215, hb215, H⟩ := bindS H
   refine L.idxR (xs := v194) (e := eTimpl_Accept) Try.underlying70 info186 hF rfl rfl rfl rfl rfl hb215 rfl rfl ?_
   refine L.fieldAddr Try.underlying186 rfl info3 rfl hF rfl rfl rfl rfl rfl ?_
   refine L.storeEp (xs := v194) (e := eTimpl_Accept) (a' := (⟨v195, b215.Client, b215.Key, b215.Op, b215.Now, (⟨b215.Auth.Client, b215.Auth.Time, b215.Auth.Seq⟩ : Timpl_Auth), (⟨b215.Rest.Servers, b215.Rest.Ops, b215.Rest.End⟩ : Timpl_Rest), b215.Path, b215.Via, b215.Leaks, b215.Ticket⟩ : Timpl_Accept)) shape3 hF rfl rfl rfl rfl rfl rfl rfl (at?_get hb215).2 rfl rfl ?_
   refine L.nil ?_
   refine WpC.seq (WpC.regionL ?_)
   refine L.move hF rfl rfl rfl ?_
   refine L.bin hF rfl rfl rfl rfl rfl rfl ?_
   refine L.assign hF rfl rfl rfl (L.nil ?_)
   refine WpC.seq (WpC.regionL ?_)
   refine L.move hF rfl rfl rfl ?_
   refine L.move hF rfl rfl rfl ?_
   refine L.move hF rfl rfl rfl ?_
   obtain ⟨b216, hb216, H⟩ := bindS H
   refine L.idxR (xs := (v194.set v196.toNat (⟨v195, b215.Client, b215.Key, b215.Op, b215.Now, (⟨b215.Auth.Client, b215.Auth.Time, b215.Auth.Seq⟩ : Timpl_Auth), (⟨b215.Rest.Servers, b215.Rest.Ops, b215.Rest.End⟩ : Timpl_Rest), b215.Path, b215.Via, b215.Leaks, b215.Ticket⟩ : Timpl_Accept))) (e := eTimpl_Accept) Try.underlying70 info186 hF rfl rfl rfl rfl rfl hb216 rfl rfl ?_
   refine L.fieldAddr Try.underlying186 rfl info3 rfl hF rfl rfl rfl rfl rfl ?_
   refine L.storeEp (xs := (v194.set v196.toNat (⟨v195, b215.Client, b215.Key, b215.Op, b215.Now, (⟨b215.Auth.Client, b215.Auth.Time, b215.Auth.Seq⟩ : Timpl_Auth), (⟨b215.Rest.Servers, b215.Rest.Ops, b215.Rest.End⟩ : Timpl_Rest), b215.Path, b215.Via, b215.Leaks, b215.Ticket⟩ : Timpl_Accept))) (e := eTimpl_Accept) (a' := (⟨b216.Server, (IntKind.i64.wrap (v195 + (1 : Int))), b216.Key, b216.Op, b216.Now, (⟨b216.Auth.Client, b216.Auth.Time, b216.Auth.Seq⟩ : Timpl_Auth), (⟨b216.Rest.Servers, b216.Rest.Ops, b216.Rest.End⟩ : Timpl_Rest), b216.Path, b216.Via, b216.Leaks, b216.Ticket⟩ : Timpl_Accept)) shape3 hF rfl rfl rfl rfl rfl rfl rfl (at?_get hb216).2 rfl rfl ?_
   refine L.le (Le.ss 0 rfl) (L.nil ?_)
   refine WpC.seq (WpC.regionL ?_)
   refine L.move hF rfl rfl rfl ?_
   refine L.bin hF rfl rfl rfl rfl rfl rfl ?_
   refine L.assign hF rfl rfl rfl (L.nil ?_)
   refine WpC.seq (WpC.regionL ?_)
   refine L.move hF rfl rfl rfl ?_
   refine L.move hF rfl rfl rfl ?_
   refine L.move hF rfl rfl rfl ?_
   obtain ⟨b217, hb217, H⟩ := bindS H
   refine L.idxR (xs := (v194.set v196.toNat (⟨b216.Server, (IntKind.i64.wrap (v195 + (1 : Int))), b216.Key, b216.Op, b216.Now, (⟨b216.Auth.Client, b216.Auth.Time, b216.Auth.Seq⟩ : Timpl_Auth), (⟨b216.Rest.Servers, b216.Rest.Ops, b216.Rest.End⟩ : Timpl_Rest), b216.Path, b216.Via, b216.Leaks, b216.Ticket⟩ : Timpl_Accept))) (e := eTimpl_Accept) Try.underlying70 info186 hF rfl rfl rfl rfl rfl hb217 rfl rfl ?_
   refine L.fieldAddr Try.underlying186 rfl info3 rfl hF rfl rfl rfl rfl rfl ?_
   refine L.storeEp (xs := (v194.set v196.toNat (⟨b216.Server, (IntKind.i64.wrap (v195 + (1 : Int))), b216.Key, b216.Op, b216.Now, (⟨b216.Auth.Client, b216.Auth.Time, b216.Auth.Seq⟩ : Timpl_Auth), (⟨b216.Rest.Servers, b216.Rest.Ops, b216.Rest.End⟩ : Timpl_Rest), b216.Path, b216.Via, b216.Leaks, b216.Ticket⟩ : Timpl_Accept))) (e := eTimpl_Accept) (a' := (⟨b217.Server, b217.Client, (IntKind.i64.wrap ((IntKind.i64.wrap (v195 + (1 : Int))) + (1 : Int))), b217.Op, b217.Now, (⟨b217.Auth.Client, b217.Auth.Time, b217.Auth.Seq⟩ : Timpl_Auth), (⟨b217.Rest.Servers, b217.Rest.Ops, b217.Rest.End⟩ : Timpl_Rest), b217.Path, b217.Via, b217.Leaks, b217.Ticket⟩ : Timpl_Accept)) shape3 hF rfl rfl rfl rfl rfl rfl rfl (at?_get hb217).2 rfl rfl ?_
   refine L.le (Le.ss 0 rfl) (L.nil ?_)
   refine WpC.seq (WpC.regionL ?_)
   refine L.move hF rfl rfl rfl ?_
   refine L.bin hF rfl rfl rfl rfl rfl rfl ?_
   refine L.assign hF rfl rfl rfl (L.nil ?_)
   refine WpC.seq (WpC.regionL ?_)
   refine L.move hF rfl rfl rfl ?_
   refine L.move hF rfl rfl rfl ?_
   refine L.move hF rfl rfl rfl ?_
   obtain ⟨b218, hb218, H⟩ := bindS H
   refine L.idxR (xs := (v194.set v196.toNat (⟨b217.Server, b217.Client, (IntKind.i64.wrap ((IntKind.i64.wrap (v195 + (1 : Int))) + (1 : Int))), b217.Op, b217.Now, (⟨b217.Auth.Client, b217.Auth.Time, b217.Auth.Seq⟩ : Timpl_Auth), (⟨b217.Rest.Servers, b217.Rest.Ops, b217.Rest.End⟩ : Timpl_Rest), b217.Path, b217.Via, b217.Leaks, b217.Ticket⟩ : Timpl_Accept))) (e := eTimpl_Accept) Try.underlying70 info186 hF rfl rfl rfl rfl rfl hb218 rfl rfl ?_
   refine L.fieldAddr Try.underlying186 rfl info3 rfl hF rfl rfl rfl rfl rfl ?_
   refine L.storeEp (xs := (v194.set v196.toNat (⟨b217.Server, b217.Client, (IntKind.i64.wrap ((IntKind.i64.wrap (v195 + (1 : Int))) + (1 : Int))), b217.Op, b217.Now, (⟨b217.Auth.Client, b217.Auth.Time, b217.Auth.Seq⟩ : Timpl_Auth), (⟨b217.Rest.Servers, b217.Rest.Ops, b217.Rest.End⟩ : Timpl_Rest), b217.Path, b217.Via, b217.Leaks, b217.Ticket⟩ : Timpl_Accept))) (e := eTimpl_Accept) (a' := (⟨b218.Server, b218.Client, b218.Key, (IntKind.i64.wrap ((IntKind.i64.wrap ((IntKind.i64.wrap (v195 + (1 : Int))) + (1 : Int))) + (1 : Int))), b218.Now, (⟨b218.Auth.Client, b218.Auth.Time, b218.Auth.Seq⟩ : Timpl_Auth), (⟨b218.Rest.Servers, b218.Rest.Ops, b218.Rest.End⟩ : Timpl_Rest), b218.Path, b218.Via, b218.Leaks, b218.Ticket⟩ : Timpl_Accept)) shape3 hF rfl rfl rfl rfl rfl rfl rfl (at?_get hb218).2 rfl rfl ?_
   refine L.le (Le.ss 0 rfl) (L.nil ?_)
   refine WpC.seq (WpC.regionL ?_)
   refine L.move hF rfl rfl rfl ?_
   refine L.bin hF rfl rfl rfl rfl rfl rfl ?_
   refine L.assign hF rfl rfl rfl (L.nil ?_)
   refine WpC.seq (WpC.regionL ?_)
   refine L.move hF rfl rfl rfl ?_
   refine L.move hF rfl rfl rfl ?_
   refine L.move hF rfl rfl rfl ?_
   obtain ⟨b219, hb219, H⟩ := bindS H
   refine L.idxR (xs := (v194.set v196.toNat (⟨b218.Server, b218.Client, b218.Key, (IntKind.i64.wrap ((IntKind.i64.wrap ((IntKind.i64.wrap (v195 + (1 : Int))) + (1 : Int))) + (1 : Int))), b218.Now, (⟨b218.Auth.Client, b218.Auth.Time, b218.Auth.Seq⟩ : Timpl_Auth), (⟨b218.Rest.Servers, b218.Rest.Ops, b218.Rest.End⟩ : Timpl_Rest), b218.Path, b218.Via, b218.Leaks, b218.Ticket⟩ : Timpl_Accept))) (e := eTimpl_Accept) Try.underlying70 info186 hF rfl rfl rfl rfl rfl hb219 rfl rfl ?_
   refine L.fieldAddr Try.underlying186 rfl info3 rfl hF rfl rfl rfl rfl rfl ?_
   refine L.storeEp (xs := (v194.set v196.toNat (⟨b218.Server, b218.Client, b218.Key, (IntKind.i64.wrap ((IntKind.i64.wrap ((IntKind.i64.wrap (v195 + (1 : Int))) + (1 : Int))) + (1 : Int))), b218.Now, (⟨b218.Auth.Client, b218.Auth.Time, b218.Auth.Seq⟩ : Timpl_Auth), (⟨b218.Rest.Servers, b218.Rest.Ops, b218.Rest.End⟩ : Timpl_Rest), b218.Path, b218.Via, b218.Leaks, b218.Ticket⟩ : Timpl_Accept))) (e := eTimpl_Accept) (a' := (⟨b219.Server, b219.Client, b219.Key, b219.Op, (IntKind.i64.wrap ((IntKind.i64.wrap ((IntKind.i64.wrap ((IntKind.i64.wrap (v195 + (1 : Int))) + (1 : Int))) + (1 : Int))) + (1 : Int))), (⟨b219.Auth.Client, b219.Auth.Time, b219.Auth.Seq⟩ : Timpl_Auth), (⟨b219.Rest.Servers, b219.Rest.Ops, b219.Rest.End⟩ : Timpl_Rest), b219.Path, b219.Via, b219.Leaks, b219.Ticket⟩ : Timpl_Accept)) shape3 hF rfl rfl rfl rfl rfl rfl rfl (at?_get hb219).2 rfl rfl ?_
   refine L.le (Le.ss 0 rfl) (L.nil ?_)
   refine WpC.seq (WpC.regionL ?_)
   refine L.move hF rfl rfl rfl ?_
   refine L.bin hF rfl rfl rfl rfl rfl rfl ?_
   refine L.assign hF rfl rfl rfl (L.nil ?_)
   refine WpC.seq (WpC.regionL ?_)
   refine L.move hF rfl rfl rfl ?_
   refine L.move hF rfl rfl rfl ?_
   refine L.move hF rfl rfl rfl ?_
   obtain ⟨b220, hb220, H⟩ := bindS H
   refine L.idxR (xs := (v194.set v196.toNat (⟨b219.Server, b219.Client, b219.Key, b219.Op, (IntKind.i64.wrap ((IntKind.i64.wrap ((IntKind.i64.wrap ((IntKind.i64.wrap (v195 + (1 : Int))) + (1 : Int))) + (1 : Int))) + (1 : Int))), (⟨b219.Auth.Client, b219.Auth.Time, b219.Auth.Seq⟩ : Timpl_Auth), (⟨b219.Rest.Servers, b219.Rest.Ops, b219.Rest.End⟩ : Timpl_Rest), b219.Path, b219.Via, b219.Leaks, b219.Ticket⟩ : Timpl_Accept))) (e := eTimpl_Accept) Try.underlying70 info186 hF rfl rfl rfl rfl rfl hb220 rfl rfl ?_
   refine L.fieldAddr Try.underlying186 rfl info184 rfl hF rfl rfl rfl rfl rfl ?_
   refine L.fieldAddr Try.underlying184 rfl info3 rfl hF rfl rfl rfl rfl rfl ?_
   refine L.storeEp (xs := (v194.set v196.toNat (⟨b219.Server, b219.Client, b219.Key, b219.Op, (IntKind.i64.wrap ((IntKind.i64.wrap ((IntKind.i64.wrap ((IntKind.i64.wrap (v195 + (1 : Int))) + (1 : Int))) + (1 : Int))) + (1 : Int))), (⟨b219.Auth.Client, b219.Auth.Time, b219.Auth.Seq⟩ : Timpl_Auth), (⟨b219.Rest.Servers, b219.Rest.Ops, b219.Rest.End⟩ : Timpl_Rest), b219.Path, b219.Via, b219.Leaks, b219.Ticket⟩ : Timpl_Accept))) (e := eTimpl_Accept) (a' := (⟨b220.Server, b220.Client, b220.Key, b220.Op, b220.Now, (⟨(IntKind.i64.wrap ((IntKind.i64.wrap ((IntKind.i64.wrap ((IntKind.i64.wrap ((IntKind.i64.wrap (v195 + (1 : Int))) + (1 : Int))) + (1 : Int))) + (1 : Int))) + (1 : Int))), b220.Auth.Time, b220.Auth.Seq⟩ : Timpl_Auth), (⟨b220.Rest.Servers, b220.Rest.Ops, b220.Rest.End⟩ : Timpl_Rest), b220.Path, b220.Via, b220.Leaks, b220.Ticket⟩ : Timpl_Accept)) shape3 hF rfl rfl rfl rfl rfl rfl rfl (at?_get hb220).2 rfl rfl ?_
   refine L.le (Le.ss 0 rfl) (L.nil ?_)
   refine WpC.seq (WpC.regionL ?_)
   refine L.move hF rfl rfl rfl ?_
   refine L.bin hF rfl rfl rfl rfl rfl rfl ?_
   refine L.assign hF rfl rfl rfl (L.nil ?_)
   refine WpC.seq (WpC.regionL ?_)
   refine L.move hF rfl rfl rfl ?_
   refine L.move hF rfl rfl rfl ?_
   refine L.move hF rfl rfl rfl ?_
   obtain ⟨b221, hb221, H⟩ := bindS H
   refine L.idxR (xs := (v194.set v196.toNat (⟨b220.Server, b220.Client, b220.Key, b220.Op, b220.Now, (⟨(IntKind.i64.wrap ((IntKind.i64.wrap ((IntKind.i64.wrap ((IntKind.i64.wrap ((IntKind.i64.wrap (v195 + (1 : Int))) + (1 : Int))) + (1 : Int))) + (1 : Int))) + (1 : Int))), b220.Auth.Time, b220.Auth.Seq⟩ : Timpl_Auth), (⟨b220.Rest.Servers, b220.Rest.Ops, b220.Rest.End⟩ : Timpl_Rest), b220.Path, b220.Via, b220.Leaks, b220.Ticket⟩ : Timpl_Accept))) (e := eTimpl_Accept) Try.underlying70 info186 hF rfl rfl rfl rfl rfl hb221 rfl rfl ?_
   refine L.fieldAddr Try.underlying186 rfl info184 rfl hF rfl rfl rfl rfl rfl ?_
   refine L.fieldAddr Try.underlying184 rfl info3 rfl hF rfl rfl rfl rfl rfl ?_
   refine L.storeEp (xs := (v194.set v196.toNat (⟨b220.Server, b220.Client, b220.Key, b220.Op, b220.Now, (⟨(IntKind.i64.wrap ((IntKind.i64.wrap ((IntKind.i64.wrap ((IntKind.i64.wrap ((IntKind.i64.wrap (v195 + (1 : Int))) + (1 : Int))) + (1 : Int))) + (1 : Int))) + (1 : Int))), b220.Auth.Time, b220.Auth.Seq⟩ : Timpl_Auth), (⟨b220.Rest.Servers, b220.Rest.Ops, b220.Rest.End⟩ : Timpl_Rest), b220.Path, b220.Via, b220.Leaks, b220.Ticket⟩ : Timpl_Accept))) (e := eTimpl_Accept) (a' := (⟨b221.Server, b221.Client, b221.Key, b221.Op, b221.Now, (⟨b221.Auth.Client, (IntKind.i64.wrap ((IntKind.i64.wrap ((IntKind.i64.wrap ((IntKind.i64.wrap ((IntKind.i64.wrap ((IntKind.i64.wrap (v195 + (1 : Int))) + (1 : Int))) + (1 : Int))) + (1 : Int))) + (1 : Int))) + (1 : Int))), b221.Auth.Seq⟩ : Timpl_Auth), (⟨b221.Rest.Servers, b221.Rest.Ops, b221.Rest.End⟩ : Timpl_Rest), b221.Path, b221.Via, b221.Leaks, b221.Ticket⟩ : Timpl_Accept)) shape3 hF rfl rfl rfl rfl rfl rfl rfl (at?_get hb221).2 rfl rfl ?_
   refine L.le (Le.ss 0 rfl) (L.nil ?_)
   refine WpC.seq (WpC.regionL ?_)
   refine L.move hF rfl rfl rfl ?_
   refine L.bin hF rfl rfl rfl rfl rfl rfl ?_
   refine L.assign hF rfl rfl rfl (L.nil ?_)
   refine WpC.seq (WpC.regionL ?_)
   refine L.move hF rfl rfl rfl ?_
   refine L.move hF rfl rfl rfl ?_
   refine L.move hF rfl rfl rfl ?_
   obtain ⟨b222, hb222, H⟩ := bindS H
   refine L.idxR (xs := (v194.set v196.toNat (⟨b221.Server, b221.Client, b221.Key, b221.Op, b221.Now, (⟨b221.Auth.Client, (IntKind.i64.wrap ((IntKind.i64.wrap ((IntKind.i64.wrap ((IntKind.i64.wrap ((IntKind.i64.wrap ((IntKind.i64.wrap (v195 + (1 : Int))) + (1 : Int))) + (1 : Int))) + (1 : Int))) + (1 : Int))) + (1 : Int))), b221.Auth.Seq⟩ : Timpl_Auth), (⟨b221.Rest.Servers, b221.Rest.Ops, b221.Rest.End⟩ : Timpl_Rest), b221.Path, b221.Via, b221.Leaks, b221.Ticket⟩ : Timpl_Accept))) (e := eTimpl_Accept) Try.underlying70 info186 hF rfl rfl rfl rfl rfl hb222 rfl rfl ?_
   refine L.fieldAddr Try.underlying186 rfl info184 rfl hF rfl rfl rfl rfl rfl ?_
   refine L.fieldAddr Try.underlying184 rfl info3 rfl hF rfl rfl rfl rfl rfl ?_
   refine L.storeEp (xs := (v194.set v196.toNat (⟨b221.Server, b221.Client, b221.Key, b221.Op, b221.Now, (⟨b221.Auth.Client, (IntKind.i64.wrap ((IntKind.i64.wrap ((IntKind.i64.wrap ((IntKind.i64.wrap ((IntKind.i64.wrap ((IntKind.i64.wrap (v195 + (1 : Int))) + (1 : Int))) + (1 : Int))) + (1 : Int))) + (1 : Int))) + (1 : Int))), b221.Auth.Seq⟩ : Timpl_Auth), (⟨b221.Rest.Servers, b221.Rest.Ops, b221.Rest.End⟩ : Timpl_Rest), b221.Path, b221.Via, b221.Leaks, b221.Ticket⟩ : Timpl_Accept))) (e := eTimpl_Accept) (a' := (⟨b222.Server, b222.Client, b222.Key, b222.Op, b222.Now, (⟨b222.Auth.Client, b222.Auth.Time, (IntKind.i64.wrap ((IntKind.i64.wrap ((IntKind.i64.wrap ((IntKind.i64.wrap ((IntKind.i64.wrap ((IntKind.i64.wrap ((IntKind.i64.wrap (v195 + (1 : Int))) + (1 : Int))) + (1 : Int))) + (1 : Int))) + (1 : Int))) + (1 : Int))) + (1 : Int)))⟩ : Timpl_Auth), (⟨b222.Rest.Servers, b222.Rest.Ops, b222.Rest.End⟩ : Timpl_Rest), b222.Path, b222.Via, b222.Leaks, b222.Ticket⟩ : Timpl_Accept)) shape3 hF rfl rfl rfl rfl rfl rfl rfl (at?_get hb222).2 rfl rfl ?_
   refine L.le (Le.ss 0 rfl) (L.nil ?_)
   refine WpC.seq (WpC.regionL ?_)
   refine L.move hF rfl rfl rfl ?_
   refine L.bin hF rfl rfl rfl rfl rfl rfl ?_
   refine L.assign hF rfl rfl rfl (L.nil ?_)
   refine WpC.seq (WpC.regionL ?_)
   refine L.move hF rfl rfl rfl ?_
   refine L.move hF rfl rfl rfl ?_
   refine L.move hF rfl rfl rfl ?_
   obtain ⟨b223, hb223, H⟩ := bindS H
   refine L.idxR (xs := (v194.set v196.toNat (⟨b222.Server, b222.Client, b222.Key, b222.Op, b222.Now, (⟨b222.Auth.Client, b222.Auth.Time, (IntKind.i64.wrap ((IntKind.i64.wrap ((IntKind.i64.wrap ((IntKind.i64.wrap ((IntKind.i64.wrap ((IntKind.i64.wrap ((IntKind.i64.wrap (v195 + (1 : Int))) + (1 : Int))) + (1 : Int))) + (1 : Int))) + (1 : Int))) + (1 : Int))) + (1 : Int)))⟩ : Timpl_Auth), (⟨b222.Rest.Servers, b222.Rest.Ops, b222.Rest.End⟩ : Timpl_Rest), b222.Path, b222.Via, b222.Leaks, b222.Ticket⟩ : Timpl_Accept))) (e := eTimpl_Accept) Try.underlying70 info186 hF rfl rfl rfl rfl rfl hb223 rfl rfl ?_
   refine L.fieldAddr Try.underlying186 rfl info175 rfl hF rfl rfl rfl rfl rfl ?_
   refine L.fieldAddr Try.underlying175 rfl info3 rfl hF rfl rfl rfl rfl rfl ?_
   refine L.storeEp (xs := (v194.set v196.toNat (⟨b222.Server, b222.Client, b222.Key, b222.Op, b222.Now, (⟨b222.Auth.Client, b222.Auth.Time, (IntKind.i64.wrap ((IntKind.i64.wrap ((IntKind.i64.wrap ((IntKind.i64.wrap ((IntKind.i64.wrap ((IntKind.i64.wrap ((IntKind.i64.wrap (v195 + (1 : Int))) + (1 : Int))) + (1 : Int))) + (1 : Int))) + (1 : Int))) + (1 : Int))) + (1 : Int)))⟩ : Timpl_Auth), (⟨b222.Rest.Servers, b222.Rest.Ops, b222.Rest.End⟩ : Timpl_Rest), b222.Path, b222.Via, b222.Leaks, b222.Ticket⟩ : Timpl_Accept))) (e := eTimpl_Accept) (a' := (⟨b223.Server, b223.Client, b223.Key, b223.Op, b223.Now, (⟨b223.Auth.Client, b223.Auth.Time, b223.Auth.Seq⟩ : Timpl_Auth), (⟨(IntKind.i64.wrap ((IntKind.i64.wrap ((IntKind.i64.wrap ((IntKind.i64.wrap ((IntKind.i64.wrap ((IntKind.i64.wrap ((IntKind.i64.wrap ((IntKind.i64.wrap (v195 + (1 : Int))) + (1 : Int))) + (1 : Int))) + (1 : Int))) + (1 : Int))) + (1 : Int))) + (1 : Int))) + (1 : Int))), b223.Rest.Ops, b223.Rest.End⟩ : Timpl_Rest), b223.Path, b223.Via, b223.Leaks, b223.Ticket⟩ : Timpl_Accept)) shape3 hF rfl rfl rfl rfl rfl rfl rfl (at?_get hb223).2 rfl rfl ?_
   refine L.le (Le.ss 0 rfl) (L.nil ?_)
   refine WpC.seq (WpC.regionL ?_)
   refine L.move hF rfl rfl rfl ?_
   refine L.bin hF rfl rfl rfl rfl rfl rfl ?_
   refine L.assign hF rfl rfl rfl (L.nil ?_)
   refine WpC.seq (WpC.regionL ?_)
   refine L.move hF rfl rfl rfl ?_
   refine L.move hF rfl rfl rfl ?_
   refine L.move hF rfl rfl rfl ?_
   obtain ⟨b224, hb224, H⟩ := bindS H
   refine L.idxR (xs := (v194.set v196.toNat (⟨b223.Server, b223.Client, b223.Key, b223.Op, b223.Now, (⟨b223.Auth.Client, b223.Auth.Time, b223.Auth.Seq⟩ : Timpl_Auth), (⟨(IntKind.i64.wrap ((IntKind.i64.wrap ((IntKind.i64.wrap ((IntKind.i64.wrap ((IntKind.i64.wrap ((IntKind.i64.wrap ((IntKind.i64.wrap ((IntKind.i64.wrap (v195 + (1 : Int))) + (1 : Int))) + (1 : Int))) + (1 : Int))) + (1 : Int))) + (1 : Int))) + (1 : Int))) + (1 : Int))), b223.Rest.Ops, b223.Rest.End⟩ : Timpl_Rest), b223.Path, b223.Via, b223.Leaks, b223.Ticket⟩ : Timpl_Accept))) (e := eTimpl_Accept) Try.underlying70 info186 hF rfl rfl rfl rfl rfl hb224 rfl rfl ?_
   refine L.fieldAddr Try.underlying186 rfl info175 rfl hF rfl rfl rfl rfl rfl ?_
   refine L.fieldAddr Try.underlying175 rfl info3 rfl hF rfl rfl rfl rfl rfl ?_
   refine L.storeEp (xs := (v194.set v196.toNat (⟨b223.Server, b223.Client, b223.Key, b223.Op, b223.Now, (⟨b223.Auth.Client, b223.Auth.Time, b223.Auth.Seq⟩ : Timpl_Auth), (⟨(IntKind.i64.wrap ((IntKind.i64.wrap ((IntKind.i64.wrap ((IntKind.i64.wrap ((IntKind.i64.wrap ((IntKind.i64.wrap ((IntKind.i64.wrap ((IntKind.i64.wrap (v195 + (1 : Int))) + (1 : Int))) + (1 : Int))) + (1 : Int))) + (1 : Int))) + (1 : Int))) + (1 : Int))) + (1 : Int))), b223.Rest.Ops, b223.Rest.End⟩ : Timpl_Rest), b223.Path, b223.Via, b223.Leaks, b223.Ticket⟩ : Timpl_Accept))) (e := eTimpl_Accept) (a' := (⟨b224.Server, b224.Client, b224.Key, b224.Op, b224.Now, (⟨b224.Auth.Client, b224.Auth.Time, b224.Auth.Seq⟩ : Timpl_Auth), (⟨b224.Rest.Servers, (IntKind.i64.wrap ((IntKind.i64.wrap ((IntKind.i64.wrap ((IntKind.i64.wrap ((IntKind.i64.wrap ((IntKind.i64.wrap ((IntKind.i64.wrap ((IntKind.i64.wrap ((IntKind.i64.wrap (v195 + (1 : Int))) + (1 : Int))) + (1 : Int))) + (1 : Int))) + (1 : Int))) + (1 : Int))) + (1 : Int))) + (1 : Int))) + (1 : Int))), b224.Rest.End⟩ : Timpl_Rest), b224.Path, b224.Via, b224.Leaks, b224.Ticket⟩ : Timpl_Accept)) shape3 hF rfl rfl rfl rfl rfl rfl rfl (at?_get hb224).2 rfl rfl ?_
   refine L.le (Le.ss 0 rfl) (L.nil ?_)
   refine WpC.seq (WpC.regionL ?_)
   refine L.move hF rfl rfl rfl ?_
   refine L.bin hF rfl rfl rfl rfl rfl rfl ?_
   refine L.assign hF rfl rfl rfl (L.nil ?_)
   refine WpC.seq (WpC.regionL ?_)
   refine L.move hF rfl rfl rfl ?_
   refine L.move hF rfl rfl rfl ?_
   refine L.move hF rfl rfl rfl ?_
   obtain ⟨b225, hb225, H⟩ := bindS H
   refine L.idxR (xs := (v194.set v196.toNat (⟨b224.Server, b224.Client, b224.Key, b224.Op, b224.Now, (⟨b224.Auth.Client, b224.Auth.Time, b224.Auth.Seq⟩ : Timpl_Auth), (⟨b224.Rest.Servers, (IntKind.i64.wrap ((IntKind.i64.wrap ((IntKind.i64.wrap ((IntKind.i64.wrap ((IntKind.i64.wrap ((IntKind.i64.wrap ((IntKind.i64.wrap ((IntKind.i64.wrap ((IntKind.i64.wrap (v195 + (1 : Int))) + (1 : Int))) + (1 : Int))) + (1 : Int))) + (1 : Int))) + (1 : Int))) + (1 : Int))) + (1 : Int))) + (1 : Int))), b224.Rest.End⟩ : Timpl_Rest), b224.Path, b224.Via, b224.Leaks, b224.Ticket⟩ : Timpl_Accept))) (e := eTimpl_Accept) Try.underlying70 info186 hF rfl rfl rfl rfl rfl hb225 rfl rfl ?_
   refine L.fieldAddr Try.underlying186 rfl info175 rfl hF rfl rfl rfl rfl rfl ?_
   refine L.fieldAddr Try.underlying175 rfl info3 rfl hF rfl rfl rfl rfl rfl ?_
   refine L.storeEp (xs := (v194.set v196.toNat (⟨b224.Server, b224.Client, b224.Key, b224.Op, b224.Now, (⟨b224.Auth.Client, b224.Auth.Time, b224.Auth.Seq⟩ : Timpl_Auth), (⟨b224.Rest.Servers, (IntKind.i64.wrap ((IntKind.i64.wrap ((IntKind.i64.wrap ((IntKind.i64.wrap ((IntKind.i64.wrap ((IntKind.i64.wrap ((IntKind.i64.wrap ((IntKind.i64.wrap ((IntKind.i64.wrap (v195 + (1 : Int))) + (1 : Int))) + (1 : Int))) + (1 : Int))) + (1 : Int))) + (1 : Int))) + (1 : Int))) + (1 : Int))) + (1 : Int))), b224.Rest.End⟩ : Timpl_Rest), b224.Path, b224.Via, b224.Leaks, b224.Ticket⟩ : Timpl_Accept))) (e := eTimpl_Accept) (a' := (⟨b225.Server, b225.Client, b225.Key, b225.Op, b225.Now, (⟨b225.Auth.Client, b225.Auth.Time, b225.Auth.Seq⟩ : Timpl_Auth), (⟨b225.Rest.Servers, b225.Rest.Ops, (IntKind.i64.wrap ((IntKind.i64.wrap ((IntKind.i64.wrap ((IntKind.i64.wrap ((IntKind.i64.wrap ((IntKind.i64.wrap ((IntKind.i64.wrap ((IntKind.i64.wrap ((IntKind.i64.wrap ((IntKind.i64.wrap (v195 + (1 : Int))) + (1 : Int))) + (1 : Int))) + (1 : Int))) + (1 : Int))) + (1 : Int))) + (1 : Int))) + (1 : Int))) + (1 : Int))) + (1 : Int)))⟩ : Timpl_Rest), b225.Path, b225.Via, b225.Leaks, b225.Ticket⟩ : Timpl_Accept)) shape3 hF rfl rfl rfl rfl rfl rfl rfl (at?_get hb225).2 rfl rfl ?_
   refine L.le (Le.ss 0 rfl) (L.nil ?_)
   refine WpC.seq (WpC.regionL ?_)
   refine L.move hF rfl rfl rfl ?_
   refine L.bin hF rfl rfl rfl rfl rfl rfl ?_
   refine L.assign hF rfl rfl rfl (L.nil ?_)
   refine WpC.seq (WpC.regionL ?_)
   refine L.move hF rfl rfl rfl ?_
   refine L.move hF rfl rfl rfl ?_
   obtain ⟨b226, hb226, H⟩ := bindS H
   refine L.idxR (xs := (v194.set v196.toNat (⟨b225.Server, b225.Client, b225.Key, b225.Op, b225.Now, (⟨b225.Auth.Client, b225.Auth.Time, b225.Auth.Seq⟩ : Timpl_Auth), (⟨b225.Rest.Servers, b225.Rest.Ops, (IntKind.i64.wrap ((IntKind.i64.wrap ((IntKind.i64.wrap ((IntKind.i64.wrap ((IntKind.i64.wrap ((IntKind.i64.wrap ((IntKind.i64.wrap ((IntKind.i64.wrap ((IntKind.i64.wrap ((IntKind.i64.wrap (v195 + (1 : Int))) + (1 : Int))) + (1 : Int))) + (1 : Int))) + (1 : Int))) + (1 : Int))) + (1 : Int))) + (1 : Int))) + (1 : Int))) + (1 : Int)))⟩ : Timpl_Rest), b225.Path, b225.Via, b225.Leaks, b225.Ticket⟩ : Timpl_Accept))) (e := eTimpl_Accept) Try.underlying70 info186 hF rfl rfl rfl rfl rfl hb226 rfl rfl ?_
   refine L.fieldAddr Try.underlying186 rfl info39 rfl hF rfl rfl rfl rfl rfl ?_
   refine L.out (xs := (v194.set v196.toNat (⟨b225.Server, b225.Client, b225.Key, b225.Op, b225.Now, (⟨b225.Auth.Client, b225.Auth.Time, b225.Auth.Seq⟩ : Timpl_Auth), (⟨b225.Rest.Servers, b225.Rest.Ops, (IntKind.i64.wrap ((IntKind.i64.wrap ((IntKind.i64.wrap ((IntKind.i64.wrap ((IntKind.i64.wrap ((IntKind.i64.wrap ((IntKind.i64.wrap ((IntKind.i64.wrap ((IntKind.i64.wrap ((IntKind.i64.wrap (v195 + (1 : Int))) + (1 : Int))) + (1 : Int))) + (1 : Int))) + (1 : Int))) + (1 : Int))) + (1 : Int))) + (1 : Int))) + (1 : Int))) + (1 : Int)))⟩ : Timpl_Rest), b225.Path, b225.Via, b225.Leaks, b225.Ticket⟩ : Timpl_Accept))) (e := eTimpl_Accept) (a := b226) 0 v196.toNat 11 2 rfl (at?_get hb226).2 rfl rfl (fun ub226 => ?_)
   refine L.loadEpR (xs := (v194.set v196.toNat (⟨b225.Server, b225.Client, b225.Key, b225.Op, b225.Now, (⟨b225.Auth.Client, b225.Auth.Time, b225.Auth.Seq⟩ : Timpl_Auth), (⟨b225.Rest.Servers, b225.Rest.Ops, (IntKind.i64.wrap ((IntKind.i64.wrap ((IntKind.i64.wrap ((IntKind.i64.wrap ((IntKind.i64.wrap ((IntKind.i64.wrap ((IntKind.i64.wrap ((IntKind.i64.wrap ((IntKind.i64.wrap ((IntKind.i64.wrap (v195 + (1 : Int))) + (1 : Int))) + (1 : Int))) + (1 : Int))) + (1 : Int))) + (1 : Int))) + (1 : Int))) + (1 : Int))) + (1 : Int))) + (1 : Int)))⟩ : Timpl_Rest), b225.Path, b225.Via, b225.Leaks, b225.Ticket⟩ : Timpl_Accept))) (e := eTimpl_Accept) 11 2 shape39 hF rfl rfl rfl rfl (at?_get hb226).2 rfl rfl rfl rfl rfl ?_
   refine L.move hF rfl rfl rfl ?_
   obtain ⟨r227, hr227, H⟩ := bindS H
   refine L.callB [true, false] [] [] 3 [0] hF rfl rfl rfl ent55 rfl rfl rfl rfl rfl (Flaws_markIntS_gives k2  b226.Path (IntKind.i64.wrap ((IntKind.i64.wrap ((IntKind.i64.wrap ((IntKind.i64.wrap ((IntKind.i64.wrap ((IntKind.i64.wrap ((IntKind.i64.wrap ((IntKind.i64.wrap ((IntKind.i64.wrap ((IntKind.i64.wrap ((IntKind.i64.wrap (v195 + (1 : Int))) + (1 : Int))) + (1 : Int))) + (1 : Int))) + (1 : Int))) + (1 : Int))) + (1 : Int))) + (1 : Int))) + (1 : Int))) + (1 : Int))) + (1 : Int))) r227 hr227) rfl rfl rfl ?_
   refine L.assign hF rfl rfl rfl ?_
   refine L.le ((Le.back (xs := (v194.set v196.toNat (⟨b225.Server, b225.Client, b225.Key, b225.Op, b225.Now, (⟨b225.Auth.Client, b225.Auth.Time, b225.Auth.Seq⟩ : Timpl_Auth), (⟨b225.Rest.Servers, b225.Rest.Ops, (IntKind.i64.wrap ((IntKind.i64.wrap ((IntKind.i64.wrap ((IntKind.i64.wrap ((IntKind.i64.wrap ((IntKind.i64.wrap ((IntKind.i64.wrap ((IntKind.i64.wrap ((IntKind.i64.wrap ((IntKind.i64.wrap (v195 + (1 : Int))) + (1 : Int))) + (1 : Int))) + (1 : Int))) + (1 : Int))) + (1 : Int))) + (1 : Int))) + (1 : Int))) + (1 : Int))) + (1 : Int)))⟩ : Timpl_Rest), b225.Path, b225.Via, b225.Leaks, b225.Ticket⟩ : Timpl_Accept))) (e := eTimpl_Accept) (a' := (⟨b226.Server, b226.Client, b226.Key, b226.Op, b226.Now, (⟨b226.Auth.Client, b226.Auth.Time, b226.Auth.Seq⟩ : Timpl_Auth), (⟨b226.Rest.Servers, b226.Rest.Ops, b226.Rest.End⟩ : Timpl_Rest), r227.2, b226.Via, b226.Leaks, b226.Ticket⟩ : Timpl_Accept)) 0 v196.toNat 11 2 rfl (at?_get hb226).2 rfl rfl rfl rfl rfl).trans (Le.ss 0 rfl)) ?_
   refine L.nil ?_
   refine WpC.seq (WpC.regionL ?_)
   refine L.move hF rfl rfl rfl ?_
   refine L.move hF rfl rfl rfl ?_
   obtain ⟨b228, hb228, H⟩ := bindS H
   refine L.idxR (xs := (v194.set v196.toNat (⟨b226.Server, b226.Client, b226.Key, b226.Op, b226.Now, (⟨b226.Auth.Client, b226.Auth.Time, b226.Auth.Seq⟩ : Timpl_Auth), (⟨b226.Rest.Servers, b226.Rest.Ops, b226.Rest.End⟩ : Timpl_Rest), r227.2, b226.Via, b226.Leaks, b226.Ticket⟩ : Timpl_Accept))) (e := eTimpl_Accept) Try.underlying70 info186 hF rfl rfl rfl rfl rfl hb228 rfl rfl ?_
   refine L.fieldAddr Try.underlying186 rfl info39 rfl hF rfl rfl rfl rfl rfl ?_
   refine L.out (xs := (v194.set v196.toNat (⟨b226.Server, b226.Client, b226.Key, b226.Op, b226.Now, (⟨b226.Auth.Client, b226.Auth.Time, b226.Auth.Seq⟩ : Timpl_Auth), (⟨b226.Rest.Servers, b226.Rest.Ops, b226.Rest.End⟩ : Timpl_Rest), r227.2, b226.Via, b226.Leaks, b226.Ticket⟩ : Timpl_Accept))) (e := eTimpl_Accept) (a := b228) 0 v196.toNat 12 4 rfl (at?_get hb228).2 rfl rfl (fun ub228 => ?_)
   refine L.loadEpR (xs := (v194.set v196.toNat (⟨b226.Server, b226.Client, b226.Key, b226.Op, b226.Now, (⟨b226.Auth.Client, b226.Auth.Time, b226.Auth.Seq⟩ : Timpl_Auth), (⟨b226.Rest.Servers, b226.Rest.Ops, b226.Rest.End⟩ : Timpl_Rest), r227.2, b226.Via, b226.Leaks, b226.Ticket⟩ : Timpl_Accept))) (e := eTimpl_Accept) 12 4 shape39 hF rfl rfl rfl rfl (at?_get hb228).2 rfl rfl rfl rfl rfl ?_
   refine L.move hF rfl rfl rfl ?_
   obtain ⟨r229, hr229, H⟩ := bindS H
   refine L.callB [true, false] [] [] 5 [0] hF rfl rfl rfl ent55 rfl rfl rfl rfl rfl (Flaws_markIntS_gives k2  b228.Via r227.1 r229 hr229) rfl rfl rfl ?_
   refine L.assign hF rfl rfl rfl ?_
   refine L.le ((Le.back (xs := (v194.set v196.toNat (⟨b226.Server, b226.Client, b226.Key, b226.Op, b226.Now, (⟨b226.Auth.Client, b226.Auth.Time, b226.Auth.Seq⟩ : Timpl_Auth), (⟨b226.Rest.Servers, b226.Rest.Ops, b226.Rest.End⟩ : Timpl_Rest), r227.2, b226.Via, b226.Leaks, b226.Ticket⟩ : Timpl_Accept))) (e := eTimpl_Accept) (a' := (⟨b228.Server, b228.Client, b228.Key, b228.Op, b228.Now, (⟨b228.Auth.Client, b228.Auth.Time, b228.Auth.Seq⟩ : Timpl_Auth), (⟨b228.Rest.Servers, b228.Rest.Ops, b228.Rest.End⟩ : Timpl_Rest), b228.Path, r229.2, b228.Leaks, b228.Ticket⟩ : Timpl_Accept)) 0 v196.toNat 12 4 rfl (at?_get hb228).2 rfl rfl rfl rfl rfl).trans (Le.ss 0 rfl)) ?_
   refine L.nil ?_
   refine WpC.seq (WpC.regionL ?_)
   refine L.move hF rfl rfl rfl ?_
   refine L.move hF rfl rfl rfl ?_
   refine L.move hF rfl rfl rfl ?_
   obtain ⟨b230, hb230, H⟩ := bindS H
   refine L.idxR (xs := (v194.set v196.toNat (⟨b228.Server, b228.Client, b228.Key, b228.Op, b228.Now, (⟨b228.Auth.Client, b228.Auth.Time, b228.Auth.Seq⟩ : Timpl_Auth), (⟨b228.Rest.Servers, b228.Rest.Ops, b228.Rest.End⟩ : Timpl_Rest), b228.Path, r229.2, b228.Leaks, b228.Ticket⟩ : Timpl_Accept))) (e := eTimpl_Accept) Try.underlying70 info186 hF rfl rfl rfl rfl rfl hb230 rfl rfl ?_
   refine L.fieldAddr Try.underlying186 rfl info3 rfl hF rfl rfl rfl rfl rfl ?_
   refine L.storeEp (xs := (v194.set v196.toNat (⟨b228.Server, b228.Client, b228.Key, b228.Op, b228.Now, (⟨b228.Auth.Client, b228.Auth.Time, b228.Auth.Seq⟩ : Timpl_Auth), (⟨b228.Rest.Servers, b228.Rest.Ops, b228.Rest.End⟩ : Timpl_Rest), b228.Path, r229.2, b228.Leaks, b228.Ticket⟩ : Timpl_Accept))) (e := eTimpl_Accept) (a' := (⟨b230.Server, b230.Client, b230.Key, b230.Op, b230.Now, (⟨b230.Auth.Client, b230.Auth.Time, b230.Auth.Seq⟩ : Timpl_Auth), (⟨b230.Rest.Servers, b230.Rest.Ops, b230.Rest.End⟩ : Timpl_Rest), b230.Path, b230.Via, r229.1, b230.Ticket⟩ : Timpl_Accept)) shape3 hF rfl rfl rfl rfl rfl rfl rfl (at?_get hb230).2 rfl rfl ?_
   refine L.le (Le.ss 0 rfl) (L.nil ?_)
   refine WpC.seq (WpC.regionL ?_)
   refine L.move hF rfl rfl rfl ?_
   refine L.bin hF rfl rfl rfl rfl rfl rfl ?_
   refine L.assign hF rfl rfl rfl (L.nil ?_)
   refine WpC.seq (WpC.regionL ?_)
   refine L.move hF rfl rfl rfl ?_
   refine L.move hF rfl rfl rfl ?_
   refine L.move hF rfl rfl rfl ?_
   obtain ⟨r231, hr231, H⟩ := bindS H
   refine L.call [false] [] [] 6 hF rfl rfl rfl ent54 rfl rfl rfl rfl rfl (Flaws_markText_gives k2  (IntKind.i64.wrap (r229.1 + (1 : Int))) r231 hr231) rfl ?_
   obtain ⟨b232, hb232, H⟩ := bindS H
   refine L.idxR (xs := (v194.set v196.toNat (⟨b230.Server, b230.Client, b230.Key, b230.Op, b230.Now, (⟨b230.Auth.Client, b230.Auth.Time, b230.Auth.Seq⟩ : Timpl_Auth), (⟨b230.Rest.Servers, b230.Rest.Ops, b230.Rest.End⟩ : Timpl_Rest), b230.Path, b230.Via, r229.1, b230.Ticket⟩ : Timpl_Accept))) (e := eTimpl_Accept) Try.underlying70 info186 hF rfl rfl rfl rfl rfl hb232 rfl rfl ?_
   refine L.fieldAddr Try.underlying186 rfl info9 rfl hF rfl rfl rfl rfl rfl ?_
   refine L.storeEp (xs := (v194.set v196.toNat (⟨b230.Server, b230.Client, b230.Key, b230.Op, b230.Now, (⟨b230.Auth.Client, b230.Auth.Time, b230.Auth.Seq⟩ : Timpl_Auth), (⟨b230.Rest.Servers, b230.Rest.Ops, b230.Rest.End⟩ : Timpl_Rest), b230.Path, b230.Via, r229.1, b230.Ticket⟩ : Timpl_Accept))) (e := eTimpl_Accept) (a' := (⟨b232.Server, b232.Client, b232.Key, b232.Op, b232.Now, (⟨b232.Auth.Client, b232.Auth.Time, b232.Auth.Seq⟩ : Timpl_Auth), (⟨b232.Rest.Servers, b232.Rest.Ops, b232.Rest.End⟩ : Timpl_Rest), b232.Path, b232.Via, b232.Leaks, r231⟩ : Timpl_Accept)) shape9 hF rfl rfl rfl rfl rfl rfl rfl (at?_get hb232).2 rfl rfl ?_
   refine L.le (Le.ss 0 rfl) (L.nil ?_)
   refine WpC.regionL ?_
   refine L.move hF rfl rfl rfl ?_
   refine L.bin hF rfl rfl rfl rfl rfl rfl ?_
   refine L.assign hF rfl rfl rfl (L.nil ?_)
   refine WpC.regionL ?_
   refine L.move hF rfl rfl rfl ?_
   refine L.bin hF rfl rfl rfl rfl rfl rfl ?_
   refine L.assign hF rfl rfl rfl (L.nil ?_)
   exact ⟨k2, _, by omega, ⟨(v194.set v196.toNat (⟨b232.Server, b232.Client, b232.Key, b232.Op, b232.Now, (⟨b232.Auth.Client, b232.Auth.Time, b232.Auth.Seq⟩ : Timpl_Auth), (⟨b232.Rest.Servers, b232.Rest.Ops, b232.Rest.End⟩ : Timpl_Rest), b232.Path, b232.Via, b232.Leaks, r231⟩ : Timpl_Accept)), (IntKind.i64.wrap ((IntKind.i64.wrap (r229.1 + (1 : Int))) + (1 : Int))), (IntKind.i64.wrap (v196 + (1 : Int))), by omega, H, rfl⟩, Le.mk [(0, 0)] hm rfl (Sa2 (Sa1 trivial)) (Ra1 trivial) trivial⟩
  ·replace H := condF hc H
   refine WpC.exit (WpC.seq (WpC.regionL ?_))
   refine L.move hF rfl rfl rfl ?_
   refine L.assign hF rfl rfl rfl (L.nil ?_)
   refine WpC.ret ?_
   cases H
   exact Leaves.retB rfl rfl rfl rfl ⟨rfl, rfl, rfl⟩
/-! ### Flaws_markWorld -/
def Flaws_markWorld (k : Nat) (a0 : Timpl_World) (a1 : Int) : Option (Int × List Int × List Int × List Timpl_Pair × List Timpl_Pair × List (List UInt8) × List (List UInt8) × List Int × List Timpl_Wait × List Timpl_Cred × List Timpl_Cache × List Timpl_Event × List Timpl_Accept × List Int) := (Flaws_markConfig k (⟨a0.Config.UserRealm, a0.Config.ServiceRealm, a0.Config.Links, a0.Config.Proxy, a0.Config.Skew⟩ : Timpl_Config) a1).bind fun r1 => (Flaws_markStringS k a0.Net r1.1).bind fun r2 => (Flaws_markKnown k (⟨a0.Known.Terms, a0.Known.Keys⟩ : Timpl_Known) r2.1).bind fun r3 => (Flaws_markWaitS k a0.Waits r3.1).bind fun r4 => (Flaws_markCredS k a0.Creds r4.1).bind fun r5 => (Flaws_markCacheS k a0.Caches r5.1).bind fun r6 => (Flaws_markEventS k a0.Log r6.1).bind fun r7 => (Flaws_markAcceptS k a0.Accepts r7.1).bind fun r8 => (Flaws_markIntS k a0.Leaked r8.1).bind fun r9 => some (r9.1, r1.2.1, r1.2.2.1, r1.2.2.2.1, r1.2.2.2.2, r2.2, r3.2.1, r3.2.2, r4.2, r5.2, r6.2, r7.2, r8.2, r9.2)
theorem ent49 : MG.Enters Try.prog 49 := ⟨Try.f49, Try.func49, rfl, by decide⟩
set_option maxHeartbeats 8000000 in
set_option maxRecDepth 100000 in
theorem Flaws_markWorld_gives (k : Nat) (a0 : Timpl_World) (a1 : Int) (r : Int × List Int × List Int × List Timpl_Pair × List Timpl_Pair × List (List UInt8) × List (List UInt8) × List Int × List Timpl_Wait × List Timpl_Cred × List Timpl_Cache × List Timpl_Event × List Timpl_Accept × List Int) (H : Flaws_markWorld k a0 a1 = some r) : GivesB Try.prog 49 [V.agg [Cell.ow 1 (List.map eI a0.Config.UserRealm), Cell.ow 1 (List.map eI a0.Config.ServiceRealm), Cell.ow 2 (List.map eTimpl_Pair a0.Config.Links), Cell.ow 2 (List.map eTimpl_Pair a0.Config.Proxy), cI a0.Config.Skew, cI a0.Now, cI a0.Fresh, Cell.ow 1 (List.map eS a0.Net), Cell.ow 1 (List.map eS a0.Known.Terms), Cell.ow 1 (List.map eI a0.Known.Keys), Cell.ow 4 (List.map eTimpl_Wait a0.Waits), Cell.ow 8 (List.map eTimpl_Cred a0.Creds), Cell.ow 2 (List.map eTimpl_Cache a0.Caches), Cell.ow 11 (List.map eTimpl_Event a0.Log), Cell.ow 15 (List.map eTimpl_Accept a0.Accepts), Cell.ow 1 (List.map eI a0.Leaked)], V.one (cI a1)] [] [0] [V.one (cI r.1)] [] [V.agg [Cell.ow 1 (List.map eI r.2.1), Cell.ow 1 (List.map eI r.2.2.1), Cell.ow 2 (List.map eTimpl_Pair r.2.2.2.1), Cell.ow 2 (List.map eTimpl_Pair r.2.2.2.2.1), cI a0.Config.Skew, cI a0.Now, cI a0.Fresh, Cell.ow 1 (List.map eS r.2.2.2.2.2.1), Cell.ow 1 (List.map eS r.2.2.2.2.2.2.1), Cell.ow 1 (List.map eI r.2.2.2.2.2.2.2.1), Cell.ow 4 (List.map eTimpl_Wait r.2.2.2.2.2.2.2.2.1), Cell.ow 8 (List.map eTimpl_Cred r.2.2.2.2.2.2.2.2.2.1), Cell.ow 2 (List.map eTimpl_Cache r.2.2.2.2.2.2.2.2.2.2.1), Cell.ow 11 (List.map eTimpl_Event r.2.2.2.2.2.2.2.2.2.2.2.1), Cell.ow 15 (List.map eTimpl_Accept r.2.2.2.2.2.2.2.2.2.2.2.2.1), Cell.ow 1 (List.map eI r.2.2.2.2.2.2.2.2.2.2.2.2.2)]] := by
 refine GivesB.intro Try.func49 rfl rfl rfl rfl rfl rfl ?_
 intro F hF hm
 unfold Flaws_markWorld at H
 obtain ⟨K, hK⟩ : ∃ K, k ≤ K := ⟨k, Nat.le_refl k⟩
 refine WpC.seq (WpC.regionL ?_)
 refine L.box 17 hF rfl rfl rfl rfl ?_
 refine L.assign hF rfl rfl rfl ?_
 refine L.le (τ := mkSt [(1, one (cI a1)), (2, one (Cell.ptr 17 0))] [(0, ⟨1, List.map eI a0.Config.UserRealm⟩), (1, ⟨1, List.map eI a0.Config.ServiceRealm⟩), (2, ⟨2, List.map eTimpl_Pair a0.Config.Links⟩), (3, ⟨2, List.map eTimpl_Pair a0.Config.Proxy⟩), (7, ⟨1, List.map eS a0.Net⟩), (8, ⟨1, List.map eS a0.Known.Terms⟩), (9, ⟨1, List.map eI a0.Known.Keys⟩), (10, ⟨4, List.map eTimpl_Wait a0.Waits⟩), (11, ⟨8, List.map eTimpl_Cred a0.Creds⟩), (12, ⟨2, List.map eTimpl_Cache a0.Caches⟩), (13, ⟨11, List.map eTimpl_Event a0.Log⟩), (14, ⟨15, List.map eTimpl_Accept a0.Accepts⟩), (15, ⟨1, List.map eI a0.Leaked⟩)] [(17, [Cell.own 0, Cell.own 1, Cell.own 2, Cell.own 3, cI a0.Config.Skew, cI a0.Now, cI a0.Fresh, Cell.own 7, Cell.own 8, Cell.own 9, Cell.own 10, Cell.own 11, Cell.own 12, Cell.own 13, Cell.own 14, Cell.own 15])] 18) (Le.mk [(0, 0), (1, 1), (2, 2), (3, 3), (7, 7), (8, 8), (9, 9), (10, 10), (11, 11), (12, 12), (13, 13), (14, 14), (15, 15), (17, 17)] hm rfl (Sa2 trivial) (Ra8 (Ra4 (Ra1 trivial))) (Ba1 trivial)) (L.nil ?_)
 refine WpC.seq (WpC.regionL ?_)
 refine L.fieldAddr Try.underlying72 rfl info62 rfl hF rfl rfl rfl rfl rfl ?_
 refine L.loadPtr shape62 hF rfl rfl rfl rfl rfl rfl ?_
 refine L.move hF rfl rfl rfl ?_
 obtain ⟨r1, hr1, H⟩ := bindS H
 refine L.callB [true, false] [] [] 18 [0] hF rfl rfl rfl ent48 rfl rfl rfl rfl rfl (Flaws_markConfig_gives k  (⟨a0.Config.UserRealm, a0.Config.ServiceRealm, a0.Config.Links, a0.Config.Proxy, a0.Config.Skew⟩ : Timpl_Config) a1 r1 hr1) rfl rfl rfl ?_
 refine L.assign hF rfl rfl rfl ?_
 refine L.le (τ := mkSt [(1, one (cI r1.1)), (2, one (Cell.ptr 17 0))] [(0, ⟨1, List.map eI r1.2.1⟩), (1, ⟨1, List.map eI r1.2.2.1⟩), (2, ⟨2, List.map eTimpl_Pair r1.2.2.2.1⟩), (3, ⟨2, List.map eTimpl_Pair r1.2.2.2.2⟩), (7, ⟨1, List.map eS a0.Net⟩), (8, ⟨1, List.map eS a0.Known.Terms⟩), (9, ⟨1, List.map eI a0.Known.Keys⟩), (10, ⟨4, List.map eTimpl_Wait a0.Waits⟩), (11, ⟨8, List.map eTimpl_Cred a0.Creds⟩), (12, ⟨2, List.map eTimpl_Cache a0.Caches⟩), (13, ⟨11, List.map eTimpl_Event a0.Log⟩), (14, ⟨15, List.map eTimpl_Accept a0.Accepts⟩), (15, ⟨1, List.map eI a0.Leaked⟩)] [(17, [Cell.own 0, Cell.own 1, Cell.own 2, Cell.own 3, cI a0.Config.Skew, cI a0.Now, cI a0.Fresh, Cell.own 7, Cell.own 8, Cell.own 9, Cell.own 10, Cell.own 11, Cell.own 12, Cell.own 13, Cell.own 14, Cell.own 15])] 18) (Le.mk [(0, 0), (1, 1), (2, 2), (3, 3), (7, 7), (8, 8), (9, 9), (10, 10), (11, 11), (12, 12), (13, 13), (14, 14), (15, 15), (17, 17)] hm rfl (Sa2 trivial) (Ra8 (Ra4 (Ra1 trivial))) (Ba1 trivial)) (L.nil ?_)
 refine WpC.seq (WpC.regionL ?_)
 refine L.fieldAddr Try.underlying72 rfl info63 rfl hF rfl rfl rfl rfl rfl ?_
 refine L.loadPtr shape63 hF rfl rfl rfl rfl rfl rfl ?_
 refine L.move hF rfl rfl rfl ?_
 obtain ⟨r2, hr2, H⟩ := bindS H
 refine L.callB [true, false] [] [] 18 [0] hF rfl rfl rfl ent106 rfl rfl rfl rfl rfl (Flaws_markStringS_gives k  a0.Net r1.1 r2 hr2) rfl rfl rfl ?_
 refine L.assign hF rfl rfl rfl ?_
 refine L.le (τ := mkSt [(1, one (cI r2.1)), (2, one (Cell.ptr 17 0))] [(0, ⟨1, List.map eI r1.2.1⟩), (1, ⟨1, List.map eI r1.2.2.1⟩), (2, ⟨2, List.map eTimpl_Pair r1.2.2.2.1⟩), (3, ⟨2, List.map eTimpl_Pair r1.2.2.2.2⟩), (7, ⟨1, List.map eS r2.2⟩), (8, ⟨1, List.map eS a0.Known.Terms⟩), (9, ⟨1, List.map eI a0.Known.Keys⟩), (10, ⟨4, List.map eTimpl_Wait a0.Waits⟩), (11, ⟨8, List.map eTimpl_Cred a0.Creds⟩), (12, ⟨2, List.map eTimpl_Cache a0.Caches⟩), (13, ⟨11, List.map eTimpl_Event a0.Log⟩), (14, ⟨15, List.map eTimpl_Accept a0.Accepts⟩), (15, ⟨1, List.map eI a0.Leaked⟩)] [(17, [Cell.own 0, Cell.own 1, Cell.own 2, Cell.own 3, cI a0.Config.Skew, cI a0.Now, cI a0.Fresh, Cell.own 7, Cell.own 8, Cell.own 9, Cell.own 10, Cell.own 11, Cell.own 12, Cell.own 13, Cell.own 14, Cell.own 15])] 18) (Le.mk [(0, 0), (1, 1), (2, 2), (3, 3), (7, 7), (8, 8), (9, 9), (10, 10), (11, 11), (12, 12), (13, 13), (14, 14), (15, 15), (17, 17)] hm rfl (Sa2 trivial) (Ra8 (Ra4 (Ra1 trivial))) (Ba1 trivial)) (L.nil ?_)
 refine WpC.seq (WpC.regionL ?_)
 refine L.fieldAddr Try.underlying72 rfl info65 rfl hF rfl rfl rfl rfl rfl ?_
 refine L.loadPtr shape65 hF rfl rfl rfl rfl rfl rfl ?_
 refine L.move hF rfl rfl rfl ?_
 obtain ⟨r3, hr3, H⟩ := bindS H
 refine L.callB [true, false] [] [] 18 [0] hF rfl rfl rfl ent107 rfl rfl rfl rfl rfl (Flaws_markKnown_gives k  (⟨a0.Known.Terms, a0.Known.Keys⟩ : Timpl_Known) r2.1 r3 hr3) rfl rfl rfl ?_
 refine L.assign hF rfl rfl rfl ?_
 refine L.le (τ := mkSt [(1, one (cI r3.1)), (2, one (Cell.ptr 17 0))] [(0, ⟨1, List.map eI r1.2.1⟩), (1, ⟨1, List.map eI r1.2.2.1⟩), (2, ⟨2, List.map eTimpl_Pair r1.2.2.2.1⟩), (3, ⟨2, List.map eTimpl_Pair r1.2.2.2.2⟩), (7, ⟨1, List.map eS r2.2⟩), (8, ⟨1, List.map eS r3.2.1⟩), (9, ⟨1, List.map eI r3.2.2⟩), (10, ⟨4, List.map eTimpl_Wait a0.Waits⟩), (11, ⟨8, List.map eTimpl_Cred a0.Creds⟩), (12, ⟨2, List.map eTimpl_Cache a0.Caches⟩), (13, ⟨11, List.map eTimpl_Event a0.Log⟩), (14, ⟨15, List.map eTimpl_Accept a0.Accepts⟩), (15, ⟨1, List.map eI a0.Leaked⟩)] [(17, [Cell.own 0, Cell.own 1, Cell.own 2, Cell.own 3, cI a0.Config.Skew, cI a0.Now, cI a0.Fresh, Cell.own 7, Cell.own 8, Cell.own 9, Cell.own 10, Cell.own 11, Cell.own 12, Cell.own 13, Cell.own 14, Cell.own 15])] 18) (Le.mk [(0, 0), (1, 1), (2, 2), (3, 3), (7, 7), (8, 8), (9, 9), (10, 10), (11, 11), (12, 12), (13, 13), (14, 14), (15, 15), (17, 17)] hm rfl (Sa2 trivial) (Ra8 (Ra4 (Ra1 trivial))) (Ba1 trivial)) (L.nil ?_)
 refine WpC.seq (WpC.regionL ?_)
 refine L.fieldAddr Try.underlying72 rfl info66 rfl hF rfl rfl rfl rfl rfl ?_
 refine L.loadPtr shape66 hF rfl rfl rfl rfl rfl rfl ?_
 refine L.move hF rfl rfl rfl ?_
 obtain ⟨r4, hr4, H⟩ := bindS H
 refine L.callB [true, false] [] [] 18 [0] hF rfl rfl rfl ent108 rfl rfl rfl rfl rfl (Flaws_markWaitS_gives k  a0.Waits r3.1 r4 hr4) rfl rfl rfl ?_
 refine L.assign hF rfl rfl rfl ?_
 refine L.le (τ := mkSt [(1, one (cI r4.1)), (2, one (Cell.ptr 17 0))] [(0, ⟨1, List.map eI r1.2.1⟩), (1, ⟨1, List.map eI r1.2.2.1⟩), (2, ⟨2, List.map eTimpl_Pair r1.2.2.2.1⟩), (3, ⟨2, List.map eTimpl_Pair r1.2.2.2.2⟩), (7, ⟨1, List.map eS r2.2⟩), (8, ⟨1, List.map eS r3.2.1⟩), (9, ⟨1, List.map eI r3.2.2⟩), (10, ⟨4, List.map eTimpl_Wait r4.2⟩), (11, ⟨8, List.map eTimpl_Cred a0.Creds⟩), (12, ⟨2, List.map eTimpl_Cache a0.Caches⟩), (13, ⟨11, List.map eTimpl_Event a0.Log⟩), (14, ⟨15, List.map eTimpl_Accept a0.Accepts⟩), (15, ⟨1, List.map eI a0.Leaked⟩)] [(17, [Cell.own 0, Cell.own 1, Cell.own 2, Cell.own 3, cI a0.Config.Skew, cI a0.Now, cI a0.Fresh, Cell.own 7, Cell.own 8, Cell.own 9, Cell.own 10, Cell.own 11, Cell.own 12, Cell.own 13, Cell.own 14, Cell.own 15])] 18) (Le.mk [(0, 0), (1, 1), (2, 2), (3, 3), (7, 7), (8, 8), (9, 9), (10, 10), (11, 11), (12, 12), (13, 13), (14, 14), (15, 15), (17, 17)] hm rfl (Sa2 trivial) (Ra8 (Ra4 (Ra1 trivial))) (Ba1 trivial)) (L.nil ?_)
 refine WpC.seq (WpC.regionL ?_)
 refine L.fieldAddr Try.underlying72 rfl info67 rfl hF rfl rfl rfl rfl rfl ?_
 refine L.loadPtr shape67 hF rfl rfl rfl rfl rfl rfl ?_
 refine L.move hF rfl rfl rfl ?_
 obtain ⟨r5, hr5, H⟩ := bindS H
 refine L.callB [true, false] [] [] 18 [0] hF rfl rfl rfl ent109 rfl rfl rfl rfl rfl (Flaws_markCredS_gives k  a0.Creds r4.1 r5 hr5) rfl rfl rfl ?_
 refine L.assign hF rfl rfl rfl ?_
 refine L.le (τ := mkSt [(1, one (cI r5.1)), (2, one (Cell.ptr 17 0))] [(0, ⟨1, List.map eI r1.2.1⟩), (1, ⟨1, List.map eI r1.2.2.1⟩), (2, ⟨2, List.map eTimpl_Pair r1.2.2.2.1⟩), (3, ⟨2, List.map eTimpl_Pair r1.2.2.2.2⟩), (7, ⟨1, List.map eS r2.2⟩), (8, ⟨1, List.map eS r3.2.1⟩), (9, ⟨1, List.map eI r3.2.2⟩), (10, ⟨4, List.map eTimpl_Wait r4.2⟩), (11, ⟨8, List.map eTimpl_Cred r5.2⟩), (12, ⟨2, List.map eTimpl_Cache a0.Caches⟩), (13, ⟨11, List.map eTimpl_Event a0.Log⟩), (14, ⟨15, List.map eTimpl_Accept a0.Accepts⟩), (15, ⟨1, List.map eI a0.Leaked⟩)] [(17, [Cell.own 0, Cell.own 1, Cell.own 2, Cell.own 3, cI a0.Config.Skew, cI a0.Now, cI a0.Fresh, Cell.own 7, Cell.own 8, Cell.own 9, Cell.own 10, Cell.own 11, Cell.own 12, Cell.own 13, Cell.own 14, Cell.own 15])] 18) (Le.mk [(0, 0), (1, 1), (2, 2), (3, 3), (7, 7), (8, 8), (9, 9), (10, 10), (11, 11), (12, 12), (13, 13), (14, 14), (15, 15), (17, 17)] hm rfl (Sa2 trivial) (Ra8 (Ra4 (Ra1 trivial))) (Ba1 trivial)) (L.nil ?_)
 refine WpC.seq (WpC.regionL ?_)
 refine L.fieldAddr Try.underlying72 rfl info68 rfl hF rfl rfl rfl rfl rfl ?_
 refine L.loadPtr shape68 hF rfl rfl rfl rfl rfl rfl ?_
 refine L.move hF rfl rfl rfl ?_
 obtain ⟨r6, hr6, H⟩ := bindS H
 refine L.callB [true, false] [] [] 18 [0] hF rfl rfl rfl ent110 rfl rfl rfl rfl rfl (Flaws_markCacheS_gives k  a0.Caches r5.1 r6 hr6) rfl rfl rfl ?_
 refine L.assign hF rfl rfl rfl ?_
 refine L.le (τ := mkSt [(1, one (cI r6.1)), (2, one (Cell.ptr 17 0))] [(0, ⟨1, List.map eI r1.2.1⟩), (1, ⟨1, List.map eI r1.2.2.1⟩), (2, ⟨2, List.map eTimpl_Pair r1.2.2.2.1⟩), (3, ⟨2, List.map eTimpl_Pair r1.2.2.2.2⟩), (7, ⟨1, List.map eS r2.2⟩), (8, ⟨1, List.map eS r3.2.1⟩), (9, ⟨1, List.map eI r3.2.2⟩), (10, ⟨4, List.map eTimpl_Wait r4.2⟩), (11, ⟨8, List.map eTimpl_Cred r5.2⟩), (12, ⟨2, List.map eTimpl_Cache r6.2⟩), (13, ⟨11, List.map eTimpl_Event a0.Log⟩), (14, ⟨15, List.map eTimpl_Accept a0.Accepts⟩), (15, ⟨1, List.map eI a0.Leaked⟩)] [(17, [Cell.own 0, Cell.own 1, Cell.own 2, Cell.own 3, cI a0.Config.Skew, cI a0.Now, cI a0.Fresh, Cell.own 7, Cell.own 8, Cell.own 9, Cell.own 10, Cell.own 11, Cell.own 12, Cell.own 13, Cell.own 14, Cell.own 15])] 18) (Le.mk [(0, 0), (1, 1), (2, 2), (3, 3), (7, 7), (8, 8), (9, 9), (10, 10), (11, 11), (12, 12), (13, 13), (14, 14), (15, 15), (17, 17)] hm rfl (Sa2 trivial) (Ra8 (Ra4 (Ra1 trivial))) (Ba1 trivial)) (L.nil ?_)
 refine WpC.seq (WpC.regionL ?_)
 refine L.fieldAddr Try.underlying72 rfl info69 rfl hF rfl rfl rfl rfl rfl ?_
 refine L.loadPtr shape69 hF rfl rfl rfl rfl rfl rfl ?_
 refine L.move hF rfl rfl rfl ?_
 obtain ⟨r7, hr7, H⟩ := bindS H
 refine L.callB [true, false] [] [] 18 [0] hF rfl rfl rfl ent111 rfl rfl rfl rfl rfl (Flaws_markEventS_gives k  a0.Log r6.1 r7 hr7) rfl rfl rfl ?_
 refine L.assign hF rfl rfl rfl ?_
 refine L.le (τ := mkSt [(1, one (cI r7.1)), (2, one (Cell.ptr 17 0))] [(0, ⟨1, List.map eI r1.2.1⟩), (1, ⟨1, List.map eI r1.2.2.1⟩), (2, ⟨2, List.map eTimpl_Pair r1.2.2.2.1⟩), (3, ⟨2, List.map eTimpl_Pair r1.2.2.2.2⟩), (7, ⟨1, List.map eS r2.2⟩), (8, ⟨1, List.map eS r3.2.1⟩), (9, ⟨1, List.map eI r3.2.2⟩), (10, ⟨4, List.map eTimpl_Wait r4.2⟩), (11, ⟨8, List.map eTimpl_Cred r5.2⟩), (12, ⟨2, List.map eTimpl_Cache r6.2⟩), (13, ⟨11, List.map eTimpl_Event r7.2⟩), (14, ⟨15, List.map eTimpl_Accept a0.Accepts⟩), (15, ⟨1, List.map eI a0.Leaked⟩)] [(17, [Cell.own 0, Cell.own 1, Cell.own 2, Cell.own 3, cI a0.Config.Skew, cI a0.Now, cI a0.Fresh, Cell.own 7, Cell.own 8, Cell.own 9, Cell.own 10, Cell.own 11, Cell.own 12, Cell.own 13, Cell.own 14, Cell.own 15])] 18) (Le.mk [(0, 0), (1, 1), (2, 2), (3, 3), (7, 7), (8, 8), (9, 9), (10, 10), (11, 11), (12, 12), (13, 13), (14, 14), (15, 15), (17, 17)] hm rfl (Sa2 trivial) (Ra8 (Ra4 (Ra1 trivial))) (Ba1 trivial)) (L.nil ?_)
 refine WpC.seq (WpC.regionL ?_)
 refine L.fieldAddr Try.underlying72 rfl info70 rfl hF rfl rfl rfl rfl rfl ?_
 refine L.loadPtr shape70 hF rfl rfl rfl rfl rfl rfl ?_
 refine L.move hF rfl rfl rfl ?_
 obtain ⟨r8, hr8, H⟩ := bindS H
 refine L.callB [true, false] [] [] 18 [0] hF rfl rfl rfl ent112 rfl rfl rfl rfl rfl (Flaws_markAcceptS_gives k  a0.Accepts r7.1 r8 hr8) rfl rfl rfl ?_
 refine L.assign hF rfl rfl rfl ?_
 refine L.le (τ := mkSt [(1, one (cI r8.1)), (2, one (Cell.ptr 17 0))] [(0, ⟨1, List.map eI r1.2.1⟩), (1, ⟨1, List.map eI r1.2.2.1⟩), (2, ⟨2, List.map eTimpl_Pair r1.2.2.2.1⟩), (3, ⟨2, List.map eTimpl_Pair r1.2.2.2.2⟩), (7, ⟨1, List.map eS r2.2⟩), (8, ⟨1, List.map eS r3.2.1⟩), (9, ⟨1, List.map eI r3.2.2⟩), (10, ⟨4, List.map eTimpl_Wait r4.2⟩), (11, ⟨8, List.map eTimpl_Cred r5.2⟩), (12, ⟨2, List.map eTimpl_Cache r6.2⟩), (13, ⟨11, List.map eTimpl_Event r7.2⟩), (14, ⟨15, List.map eTimpl_Accept r8.2⟩), (15, ⟨1, List.map eI a0.Leaked⟩)] [(17, [Cell.own 0, Cell.own 1, Cell.own 2, Cell.own 3, cI a0.Config.Skew, cI a0.Now, cI a0.Fresh, Cell.own 7, Cell.own 8, Cell.own 9, Cell.own 10, Cell.own 11, Cell.own 12, Cell.own 13, Cell.own 14, Cell.own 15])] 18) (Le.mk [(0, 0), (1, 1), (2, 2), (3, 3), (7, 7), (8, 8), (9, 9), (10, 10), (11, 11), (12, 12), (13, 13), (14, 14), (15, 15), (17, 17)] hm rfl (Sa2 trivial) (Ra8 (Ra4 (Ra1 trivial))) (Ba1 trivial)) (L.nil ?_)
 refine WpC.seq (WpC.regionL ?_)
 refine L.fieldAddr Try.underlying72 rfl info39 rfl hF rfl rfl rfl rfl rfl ?_
 refine L.loadPtr shape39 hF rfl rfl rfl rfl rfl rfl ?_
 refine L.move hF rfl rfl rfl ?_
 obtain ⟨r9, hr9, H⟩ := bindS H
 refine L.callB [true, false] [] [] 18 [0] hF rfl rfl rfl ent55 rfl rfl rfl rfl rfl (Flaws_markIntS_gives k  a0.Leaked r8.1 r9 hr9) rfl rfl rfl ?_
 refine L.assign hF rfl rfl rfl ?_
 refine L.le (τ := mkSt [(1, one (cI r9.1))] [(0, ⟨1, List.map eI r1.2.1⟩), (1, ⟨1, List.map eI r1.2.2.1⟩), (2, ⟨2, List.map eTimpl_Pair r1.2.2.2.1⟩), (3, ⟨2, List.map eTimpl_Pair r1.2.2.2.2⟩), (7, ⟨1, List.map eS r2.2⟩), (8, ⟨1, List.map eS r3.2.1⟩), (9, ⟨1, List.map eI r3.2.2⟩), (10, ⟨4, List.map eTimpl_Wait r4.2⟩), (11, ⟨8, List.map eTimpl_Cred r5.2⟩), (12, ⟨2, List.map eTimpl_Cache r6.2⟩), (13, ⟨11, List.map eTimpl_Event r7.2⟩), (14, ⟨15, List.map eTimpl_Accept r8.2⟩), (15, ⟨1, List.map eI r9.2⟩)] [] 17) (Le.mk [(0, 0), (1, 1), (2, 2), (3, 3), (7, 7), (8, 8), (9, 9), (10, 10), (11, 11), (12, 12), (13, 13), (14, 14), (15, 15)] hm rfl (Sa1 trivial) (Ra8 (Ra4 (Ra1 trivial))) trivial) (L.nil ?_)
 refine WpC.seq (WpC.regionL ?_)
 refine L.move hF rfl rfl rfl ?_
 refine L.assign hF rfl rfl rfl ?_
 refine L.le (τ := mkSt [(4, one (cI r9.1))] [(0, ⟨1, List.map eI r1.2.1⟩), (1, ⟨1, List.map eI r1.2.2.1⟩), (2, ⟨2, List.map eTimpl_Pair r1.2.2.2.1⟩), (3, ⟨2, List.map eTimpl_Pair r1.2.2.2.2⟩), (7, ⟨1, List.map eS r2.2⟩), (8, ⟨1, List.map eS r3.2.1⟩), (9, ⟨1, List.map eI r3.2.2⟩), (10, ⟨4, List.map eTimpl_Wait r4.2⟩), (11, ⟨8, List.map eTimpl_Cred r5.2⟩), (12, ⟨2, List.map eTimpl_Cache r6.2⟩), (13, ⟨11, List.map eTimpl_Event r7.2⟩), (14, ⟨15, List.map eTimpl_Accept r8.2⟩), (15, ⟨1, List.map eI r9.2⟩)] [] 17) (Le.mk [(0, 0), (1, 1), (2, 2), (3, 3), (7, 7), (8, 8), (9, 9), (10, 10), (11, 11), (12, 12), (13, 13), (14, 14), (15, 15)] hm rfl (Sa1 trivial) (Ra8 (Ra4 (Ra1 trivial))) trivial) (L.nil ?_)
 refine WpC.ret ?_
 cases H
 exact Leaves.retB rfl rfl rfl rfl ⟨rfl, rfl, rfl⟩
/-! ### Flaws_heldIntS -/
def Flaws_heldIntS.l2 : Nat → (List Int) → Int → Int → Option Int
 | 0, _, _, _ => none
 | k2 + 1, v34, v35, v36 => cond (decide (v36 < (v34.length : Int))) ((at? v34 v36).bind fun b40 => cond (b40 != v35) (some (-1 : Int)) ((Flaws_heldIntS.l2 k2) v34 (IntKind.i64.wrap (v35 + (1 : Int))) (IntKind.i64.wrap (v36 + (1 : Int))))) (some v35)
def Flaws_heldIntS (k : Nat) (a0 : List Int) (a1 : Int) : Option Int := Flaws_heldIntS.l2 k a0 a1 (0 : Int)
theorem ent56 : MG.Enters Try.prog 56 := ⟨Try.f56, Try.func56, rfl, by decide⟩
set_option maxHeartbeats 8000000 in
set_option maxRecDepth 100000 in
theorem Flaws_heldIntS_gives (k : Nat) (g0 : Bool) (a0 : List Int) (a1 : Int) (r : Int) (H : Flaws_heldIntS k a0 a1 = some r) : Gives Try.prog 56 [V.one (Cell.sl g0 (List.map eI a0)), V.one (cI a1)] [] [V.one (cI r)] [] := by
 refine Gives.intro Try.func56 rfl rfl rfl rfl ?_
 intro F hF hm
 unfold Flaws_heldIntS at H
 obtain ⟨K, hK⟩ : ∃ K, k ≤ K := ⟨k, Nat.le_refl k⟩
 refine WpC.seq (WpC.regionL ?_)
 refine L.assign hF rfl rfl rfl (L.nil ?_)
 refine WpC.seq (WpC.seq (WpC.regionL ?_))
 refine L.assign hF rfl rfl rfl (L.nil ?_)
 refine WpC.block ?_
 refine WpC.loopL (P := Try.prog) (fun n σ => ∃ v34 : List Int, ∃ v35 : Int, ∃ v36 : Int, n ≤ K ∧ Flaws_heldIntS.l2 n v34 v35 v36 = some r ∧ σ = mkSt [(0, one (Cell.sl g0 (List.map eI v34))), (1, one (cI v35)), (5, one (cI v36))] [] [] 0) k ⟨_, ⟨a0, a1, (0 : Int), by omega, H, rfl⟩, Le.mk [] hm rfl (Sa2 (Sa1 trivial)) trivial trivial⟩ ?_
 clear H
 rintro k2 _ ⟨v34, v35, v36, hk2, H, rfl⟩
 cases k2 with
 | zero => cases H
 | succ k2 =>
  rw [Flaws_heldIntS.l2] at H
  refine WpC.seq (WpC.seq (WpC.regionL ?_))
  refine L.move hF rfl rfl rfl ?_
  refine L.move hF rfl rfl rfl ?_
  refine L.lenR (xs := v34) (e := eI) Try.underlying39 hF rfl rfl rfl rfl ?_
  refine L.bin hF rfl rfl rfl rfl rfl rfl (L.nil ?_)
  refine WpC.cond rfl (fun hc => ?_) (fun hc => ?_)
  ·replace H := condT hc H
   refine WpC.skip (WpC.seq (WpC.block (WpC.seq (WpC.seq (WpC.regionL ?_)))))
   refine L.move hF rfl rfl rfl ?_
   refine L.move hF rfl rfl rfl ?_
   obtain ⟨b40, hb40, H⟩ := bindS H
   refine L.idxR (xs := v34) (e := eI) Try.underlying39 info3 hF rfl rfl rfl rfl rfl hb40 rfl rfl ?_
   refine L.loadPe shape3 hF rfl rfl rfl rfl rfl ?_
   refine L.move hF rfl rfl rfl ?_
   refine L.bin hF rfl rfl rfl rfl rfl rfl (L.nil ?_)
   refine WpC.cond rfl (fun hc => ?_) (fun hc => ?_)
   ·replace H := condT hc H
    refine WpC.seq (WpC.regionL ?_)
    refine L.assign hF rfl rfl rfl (L.nil ?_)
    refine WpC.ret ?_
    cases H
    exact Leaves.ret rfl rfl rfl ⟨rfl, rfl⟩
   ·replace H := condF hc H
    refine WpC.skip (WpC.regionL ?_)
    refine L.move hF rfl rfl rfl ?_
    refine L.bin hF rfl rfl rfl rfl rfl rfl ?_
    refine L.assign hF rfl rfl rfl (L.nil ?_)
    refine WpC.regionL ?_
    refine L.move hF rfl rfl rfl ?_
    refine L.bin hF rfl rfl rfl rfl rfl rfl ?_
    refine L.assign hF rfl rfl rfl (L.nil ?_)
    exact ⟨k2, _, by omega, ⟨v34, (IntKind.i64.wrap (v35 + (1 : Int))), (IntKind.i64.wrap (v36 + (1 : Int))), by omega, H, rfl⟩, Le.mk [] hm rfl (Sa2 (Sa1 trivial)) trivial trivial⟩
  ·replace H := condF hc H
   refine WpC.exit (WpC.seq (WpC.regionL ?_))
   refine L.move hF rfl rfl rfl ?_
   refine L.assign hF rfl rfl rfl (L.nil ?_)
   refine WpC.ret ?_
   cases H
   exact Leaves.ret rfl rfl rfl ⟨rfl, rfl⟩
end Go.Proofs.Ytgjbgakcfcomdaa.M
