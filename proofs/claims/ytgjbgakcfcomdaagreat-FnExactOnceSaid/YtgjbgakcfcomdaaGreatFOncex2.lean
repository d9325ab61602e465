import Derived.Test.YtgjbgakcfcomdaaGreatFOncex1
import Derived.Test.YtgjbgakcfcomdaaGreatProg
namespace Go.Proofs.YtgjbgakcfcomdaaGreat.M
open Go Go.MG
set_option linter.unusedVariables false
set_option linter.unusedSimpArgs false
/-! ### Fslices_ContainsFunc_Accept__impl_Once_1 -/
def Fslices_ContainsFunc_Accept__impl_Once_1 (k : Nat) (a0 : List Timpl_Accept) (o0 : Timpl_Accept) : Option (Bool × Timpl_Accept) := (Fslices_IndexFunc_Accept__impl_Once_1 k a0 o0).bind fun r1 => some ((decide (r1.1 ≥ (0 : Int))), r1.2)
theorem ent127 : MG.Enters Tryz.prog 127 := ⟨Tryz.f127, Tryz.func127, rfl, by decide⟩
set_option maxHeartbeats 8000000 in
set_option maxRecDepth 100000 in
theorem Fslices_ContainsFunc_Accept__impl_Once_1_gives (k : Nat) (g0 : Bool) (a0 : List Timpl_Accept) (o0 : Timpl_Accept) (r : Bool × Timpl_Accept) (H : Fslices_ContainsFunc_Accept__impl_Once_1 k a0 o0 = some r) : Gives Tryz.prog 127 [V.one (Cell.sl g0 (List.map eTimpl_Accept a0)), V.one (Cell.clo 128 [Cell.ptr 0 0])] [[cI o0.Server, cI o0.Client, cI o0.Key, cI o0.Op, cI o0.Now, cI o0.Auth.Client, cI o0.Auth.Time, cI o0.Auth.Seq, cI o0.Rest.Servers, cI o0.Rest.Ops, cI o0.Rest.End, Cell.sl true (List.map eI o0.Path), Cell.sl true (List.map eI o0.Via), cI o0.Leaks, cS o0.Ticket]] [V.one (cL r.1)] [[cI r.2.Server, cI r.2.Client, cI r.2.Key, cI r.2.Op, cI r.2.Now, cI r.2.Auth.Client, cI r.2.Auth.Time, cI r.2.Auth.Seq, cI r.2.Rest.Servers, cI r.2.Rest.Ops, cI r.2.Rest.End, Cell.sl true (List.map eI r.2.Path), Cell.sl true (List.map eI r.2.Via), cI r.2.Leaks, cS r.2.Ticket]] := by
 refine Gives.intro Tryz.func127 rfl rfl rfl rfl ?_
 intro F hF hm
 unfold Fslices_ContainsFunc_Accept__impl_Once_1 at H
 obtain ⟨K, hK⟩ : ∃ K, k ≤ K := ⟨k, Nat.le_refl k⟩
 refine WpC.seq (WpC.regionL ?_)
 refine L.assign hF rfl rfl rfl (L.nil ?_)
 refine WpC.seq (WpC.regionL ?_)
 refine L.move hF rfl rfl rfl ?_
 refine L.move hF rfl rfl rfl ?_
 obtain ⟨r1, hr1, H⟩ := bindS H
 refine L.call [false, false] [] [0] 18 hF rfl rfl rfl ent198 rfl rfl rfl rfl rfl (Fslices_IndexFunc_Accept__impl_Once_1_gives k g0 a0 o0 r1 hr1) rfl ?_
 refine L.bin hF rfl rfl rfl rfl rfl rfl ?_
 refine L.assign hF rfl rfl rfl (L.nil ?_)
 refine WpC.ret ?_
 cases H
 exact Leaves.ret rfl rfl rfl ⟨rfl, rfl⟩
/-! ### Fimpl_within -/
def Fimpl_within (k : Nat) (a0 : Int) (a1 : Int) (a2 : Int) : Option Bool := cond (decide (a0 ≥ a1)) (some (decide (a0 ≤ a2))) (some false)
theorem ent118 : MG.Enters Tryz.prog 118 := ⟨Tryz.f118, Tryz.func118, rfl, by decide⟩
set_option maxHeartbeats 8000000 in
set_option maxRecDepth 100000 in
theorem Fimpl_within_gives (k : Nat) (a0 : Int) (a1 : Int) (a2 : Int) (r : Bool) (H : Fimpl_within k a0 a1 a2 = some r) : Gives Tryz.prog 118 [V.one (cI a0), V.one (cI a1), V.one (cI a2)] [] [V.one (cL r)] [] := by
 refine Gives.intro Tryz.func118 rfl rfl rfl rfl ?_
 intro F hF hm
 unfold Fimpl_within at H
 obtain ⟨K, hK⟩ : ∃ K, k ≤ K := ⟨k, Nat.le_refl k⟩
 refine WpC.seq (WpC.regionL ?_)
 refine L.assign hF rfl rfl rfl (L.nil ?_)
 refine WpC.seq (WpC.regionL ?_)
 refine L.move hF rfl rfl rfl ?_
 refine L.move hF rfl rfl rfl ?_
 refine L.bin hF rfl rfl rfl rfl rfl rfl ?_
 refine L.move hF rfl rfl rfl ?_
 refine L.split (fun hc => ?_) (fun hc => ?_)
 ·replace H := condT hc H
  refine L.move hF rfl rfl rfl ?_
  refine L.move hF rfl rfl rfl ?_
  refine L.bin hF rfl rfl rfl rfl rfl rfl ?_
  refine L.pick hF rfl rfl rfl rfl ?_
  refine L.assign hF rfl rfl rfl (L.nil ?_)
  refine WpC.ret ?_
  cases H
  exact Leaves.ret rfl rfl rfl ⟨rfl, rfl⟩
 ·replace H := condF hc H
  refine L.off hF rfl rfl ?_
  refine L.off hF rfl rfl ?_
  refine L.off hF rfl rfl ?_
  refine L.pick hF rfl rfl rfl rfl ?_
  refine L.assign hF rfl rfl rfl (L.nil ?_)
  refine WpC.ret ?_
  cases H
  exact Leaves.ret rfl rfl rfl ⟨rfl, rfl⟩
/-! ### Fimpl_isNonce -/
def Fimpl_isNonce (k : Nat) (a0 : Int) : Option Bool := (Fimpl_within k a0 (0 : Int) (1000000 : Int)).bind fun r1 => some r1
theorem ent137 : MG.Enters Tryz.prog 137 := ⟨Tryz.f137, Tryz.func137, rfl, by decide⟩
set_option maxHeartbeats 8000000 in
set_option maxRecDepth 100000 in
theorem Fimpl_isNonce_gives (k : Nat) (a0 : Int) (r : Bool) (H : Fimpl_isNonce k a0 = some r) : Gives Tryz.prog 137 [V.one (cI a0)] [] [V.one (cL r)] [] := by
 refine Gives.intro Tryz.func137 rfl rfl rfl rfl ?_
 intro F hF hm
 unfold Fimpl_isNonce at H
 obtain ⟨K, hK⟩ : ∃ K, k ≤ K := ⟨k, Nat.le_refl k⟩
 refine WpC.seq (WpC.regionL ?_)
 refine L.assign hF rfl rfl rfl (L.nil ?_)
 refine WpC.seq (WpC.regionL ?_)
 refine L.move hF rfl rfl rfl ?_
 obtain ⟨r1, hr1, H⟩ := bindS H
 refine L.call [false, false, false] [] [] 1 hF rfl rfl rfl ent118 rfl rfl rfl rfl rfl (Fimpl_within_gives k  a0 (0 : Int) (1000000 : Int) r1 hr1) rfl ?_
 refine L.assign hF rfl rfl rfl (L.nil ?_)
 refine WpC.ret ?_
 cases H
 exact Leaves.ret rfl rfl rfl ⟨rfl, rfl⟩
/-! ### Fimpl_isKey -/
def Fimpl_isKey (k : Nat) (a0 : Int) : Option Bool := (Fimpl_within k a0 (1 : Int) (1000000 : Int)).bind fun r1 => some r1
theorem ent189 : MG.Enters Tryz.prog 189 := ⟨Tryz.f189, Tryz.func189, rfl, by decide⟩
set_option maxHeartbeats 8000000 in
set_option maxRecDepth 100000 in
theorem Fimpl_isKey_gives (k : Nat) (a0 : Int) (r : Bool) (H : Fimpl_isKey k a0 = some r) : Gives Tryz.prog 189 [V.one (cI a0)] [] [V.one (cL r)] [] := by
 refine Gives.intro Tryz.func189 rfl rfl rfl rfl ?_
 intro F hF hm
 unfold Fimpl_isKey at H
 obtain ⟨K, hK⟩ : ∃ K, k ≤ K := ⟨k, Nat.le_refl k⟩
 refine WpC.seq (WpC.regionL ?_)
 refine L.assign hF rfl rfl rfl (L.nil ?_)
 refine WpC.seq (WpC.regionL ?_)
 refine L.move hF rfl rfl rfl ?_
 obtain ⟨r1, hr1, H⟩ := bindS H
 refine L.call [false, false, false] [] [] 1 hF rfl rfl rfl ent118 rfl rfl rfl rfl rfl (Fimpl_within_gives k  a0 (1 : Int) (1000000 : Int) r1 hr1) rfl ?_
 refine L.assign hF rfl rfl rfl (L.nil ?_)
 refine WpC.ret ?_
 cases H
 exact Leaves.ret rfl rfl rfl ⟨rfl, rfl⟩
/-! ### Fimpl_isPrincipal -/
def Fimpl_isPrincipal (k : Nat) (a0 : Int) : Option Bool := (Fimpl_within k a0 (0 : Int) (5 : Int)).bind fun r1 => some r1
theorem ent190 : MG.Enters Tryz.prog 190 := ⟨Tryz.f190, Tryz.func190, rfl, by decide⟩
set_option maxHeartbeats 8000000 in
set_option maxRecDepth 100000 in
theorem Fimpl_isPrincipal_gives (k : Nat) (a0 : Int) (r : Bool) (H : Fimpl_isPrincipal k a0 = some r) : Gives Tryz.prog 190 [V.one (cI a0)] [] [V.one (cL r)] [] := by
 refine Gives.intro Tryz.func190 rfl rfl rfl rfl ?_
 intro F hF hm
 unfold Fimpl_isPrincipal at H
 obtain ⟨K, hK⟩ : ∃ K, k ≤ K := ⟨k, Nat.le_refl k⟩
 refine WpC.seq (WpC.regionL ?_)
 refine L.assign hF rfl rfl rfl (L.nil ?_)
 refine WpC.seq (WpC.regionL ?_)
 refine L.move hF rfl rfl rfl ?_
 obtain ⟨r1, hr1, H⟩ := bindS H
 refine L.call [false, false, false] [] [] 1 hF rfl rfl rfl ent118 rfl rfl rfl rfl rfl (Fimpl_within_gives k  a0 (0 : Int) (5 : Int) r1 hr1) rfl ?_
 refine L.assign hF rfl rfl rfl (L.nil ?_)
 refine WpC.ret ?_
 cases H
 exact Leaves.ret rfl rfl rfl ⟨rfl, rfl⟩
/-! ### Fimpl_waitOk -/
def Fimpl_waitOk (k : Nat) (a0 : Timpl_Wait) : Option Bool := cond (!a0.On) (some ((a0.On == false) && ((a0.Nonce == (0 : Int)) && ((a0.Key == (0 : Int)) && ((a0.Client == (0 : Int)) && true))))) ((Fimpl_isNonce k a0.Nonce).bind fun r4 => cond r4 ((Fimpl_isKey k a0.Key).bind fun r5 => cond r5 ((Fimpl_isPrincipal k a0.Client).bind fun r6 => some r6) (some false)) (some false))
theorem ent112 : MG.Enters Tryz.prog 112 := ⟨Tryz.f112, Tryz.func112, rfl, by decide⟩
set_option maxHeartbeats 8000000 in
set_option maxRecDepth 100000 in
theorem Fimpl_waitOk_gives (k : Nat) (a0 : Timpl_Wait) (r : Bool) (H : Fimpl_waitOk k a0 = some r) : Gives Tryz.prog 112 [V.agg [cL a0.On, cI a0.Nonce, cI a0.Key, cI a0.Client]] [] [V.one (cL r)] [] := by
 refine Gives.intro Tryz.func112 rfl rfl rfl rfl ?_
 intro F hF hm
 unfold Fimpl_waitOk at H
 obtain ⟨K, hK⟩ : ∃ K, k ≤ K := ⟨k, Nat.le_refl k⟩
 refine WpC.seq (WpC.regionL ?_)
 refine L.box 4 hF rfl rfl rfl rfl ?_
 refine L.assign hF rfl rfl rfl (L.nil ?_)
 refine WpC.seq (WpC.seq (WpC.regionL ?_))
 refine L.fieldAddr Tryz.underlying159 rfl info4 rfl hF rfl rfl rfl rfl rfl ?_
 refine L.loadPtr shape4 hF rfl rfl rfl rfl rfl rfl ?_
 refine L.not hF rfl rfl rfl (L.nil ?_)
 refine WpC.cond rfl (fun hc => ?_) (fun hc => ?_)
 ·replace H := condT hc H
  refine WpC.seq (WpC.regionL ?_)
  refine L.loadPtr shape159 hF rfl rfl rfl rfl rfl rfl ?_
  refine L.buildF built159 hF rfl rfl rfl rfl ?_
  refine L.eqA (r := ((a0.On == false) && ((a0.Nonce == (0 : Int)) && ((a0.Key == (0 : Int)) && ((a0.Client == (0 : Int)) && true))))) hF rfl rfl rfl rfl rfl rfl (by kernel_rfl) (by kernel_rfl) ?_
  refine L.assign hF rfl rfl rfl (L.nil ?_)
  refine WpC.ret ?_
  cases H
  exact Leaves.ret rfl rfl rfl ⟨rfl, rfl⟩
 ·replace H := condF hc H
  refine WpC.skip (WpC.seq (WpC.regionL ?_))
  refine L.fieldAddr Tryz.underlying159 rfl info3 rfl hF rfl rfl rfl rfl rfl ?_
  refine L.loadPtr shape3 hF rfl rfl rfl rfl rfl rfl ?_
  obtain ⟨r4, hr4, H⟩ := bindS H
  refine L.call [false] [] [] 5 hF rfl rfl rfl ent137 rfl rfl rfl rfl rfl (Fimpl_isNonce_gives k  a0.Nonce r4 hr4) rfl ?_
  refine L.move hF rfl rfl rfl ?_
  refine L.split (fun hc => ?_) (fun hc => ?_)
  ·replace H := condT hc H
   refine L.fieldAddr Tryz.underlying159 rfl info3 rfl hF rfl rfl rfl rfl rfl ?_
   refine L.loadPtr shape3 hF rfl rfl rfl rfl rfl rfl ?_
   obtain ⟨r5, hr5, H⟩ := bindS H
   refine L.call [false] [] [] 6 hF rfl rfl rfl ent189 rfl rfl rfl rfl rfl (Fimpl_isKey_gives k  a0.Key r5 hr5) rfl ?_
   refine L.pick hF rfl rfl rfl rfl ?_
   refine L.move hF rfl rfl rfl ?_
   refine L.split (fun hc => ?_) (fun hc => ?_)
   ·replace H := condT hc H
    refine L.fieldAddr Tryz.underlying159 rfl info3 rfl hF rfl rfl rfl rfl rfl ?_
    refine L.loadPtr shape3 hF rfl rfl rfl rfl rfl rfl ?_
    obtain ⟨r6, hr6, H⟩ := bindS H
    refine L.call [false] [] [] 7 hF rfl rfl rfl ent190 rfl rfl rfl rfl rfl (Fimpl_isPrincipal_gives k  a0.Client r6 hr6) rfl ?_
    refine L.pick hF rfl rfl rfl rfl ?_
    refine L.assign hF rfl rfl rfl (L.nil ?_)
    refine WpC.ret ?_
    cases H
    exact Leaves.ret rfl rfl rfl ⟨rfl, rfl⟩
   ·replace H := condF hc H
    refine L.off hF rfl rfl ?_
    refine L.off hF rfl rfl ?_
    refine L.off hF rfl rfl ?_
    refine L.pick hF rfl rfl rfl rfl ?_
    refine L.assign hF rfl rfl rfl (L.nil ?_)
    refine WpC.ret ?_
    cases H
    exact Leaves.ret rfl rfl rfl ⟨rfl, rfl⟩
  ·replace H := condF hc H
   refine L.off hF rfl rfl ?_
   refine L.off hF rfl rfl ?_
   refine L.off hF rfl rfl ?_
   refine L.pick hF rfl rfl rfl rfl ?_
   refine L.move hF rfl rfl rfl ?_
   refine L.off hF rfl rfl ?_
   refine L.off hF rfl rfl ?_
   refine L.off hF rfl rfl ?_
   refine L.pick hF rfl rfl rfl rfl ?_
   refine L.assign hF rfl rfl rfl (L.nil ?_)
   refine WpC.ret ?_
   cases H
   exact Leaves.ret rfl rfl rfl ⟨rfl, rfl⟩
/-! ### Fimpl_isService -/
def Fimpl_isService (k : Nat) (a0 : Int) : Option Bool := (Fimpl_within k a0 (0 : Int) (2 : Int)).bind fun r1 => some r1
theorem ent61 : MG.Enters Tryz.prog 61 := ⟨Tryz.f61, Tryz.func61, rfl, by decide⟩
set_option maxHeartbeats 8000000 in
set_option maxRecDepth 100000 in
theorem Fimpl_isService_gives (k : Nat) (a0 : Int) (r : Bool) (H : Fimpl_isService k a0 = some r) : Gives Tryz.prog 61 [V.one (cI a0)] [] [V.one (cL r)] [] := by
 refine Gives.intro Tryz.func61 rfl rfl rfl rfl ?_
 intro F hF hm
 unfold Fimpl_isService at H
 obtain ⟨K, hK⟩ : ∃ K, k ≤ K := ⟨k, Nat.le_refl k⟩
 refine WpC.seq (WpC.regionL ?_)
 refine L.assign hF rfl rfl rfl (L.nil ?_)
 refine WpC.seq (WpC.regionL ?_)
 refine L.move hF rfl rfl rfl ?_
 obtain ⟨r1, hr1, H⟩ := bindS H
 refine L.call [false, false, false] [] [] 1 hF rfl rfl rfl ent118 rfl rfl rfl rfl rfl (Fimpl_within_gives k  a0 (0 : Int) (2 : Int) r1 hr1) rfl ?_
 refine L.assign hF rfl rfl rfl (L.nil ?_)
 refine WpC.ret ?_
 cases H
 exact Leaves.ret rfl rfl rfl ⟨rfl, rfl⟩
/-! ### Fimpl_isRealm -/
def Fimpl_isRealm (k : Nat) (a0 : Int) : Option Bool := (Fimpl_within k a0 (0 : Int) (2 : Int)).bind fun r1 => some r1
theorem ent135 : MG.Enters Tryz.prog 135 := ⟨Tryz.f135, Tryz.func135, rfl, by decide⟩
set_option maxHeartbeats 8000000 in
set_option maxRecDepth 100000 in
theorem Fimpl_isRealm_gives (k : Nat) (a0 : Int) (r : Bool) (H : Fimpl_isRealm k a0 = some r) : Gives Tryz.prog 135 [V.one (cI a0)] [] [V.one (cL r)] [] := by
 refine Gives.intro Tryz.func135 rfl rfl rfl rfl ?_
 intro F hF hm
 unfold Fimpl_isRealm at H
 obtain ⟨K, hK⟩ : ∃ K, k ≤ K := ⟨k, Nat.le_refl k⟩
 refine WpC.seq (WpC.regionL ?_)
 refine L.assign hF rfl rfl rfl (L.nil ?_)
 refine WpC.seq (WpC.regionL ?_)
 refine L.move hF rfl rfl rfl ?_
 obtain ⟨r1, hr1, H⟩ := bindS H
 refine L.call [false, false, false] [] [] 1 hF rfl rfl rfl ent118 rfl rfl rfl rfl rfl (Fimpl_within_gives k  a0 (0 : Int) (2 : Int) r1 hr1) rfl ?_
 refine L.assign hF rfl rfl rfl (L.nil ?_)
 refine WpC.ret ?_
 cases H
 exact Leaves.ret rfl rfl rfl ⟨rfl, rfl⟩
/-! ### Fimpl_isFor -/
def Fimpl_isFor (k : Nat) (a0 : Int) : Option Bool := (Fimpl_isService k a0).bind fun r3 => cond r3 (some true) ((Fimpl_isRealm k (IntKind.i64.wrap (a0 - (10 : Int)))).bind fun r4 => some r4)
theorem ent191 : MG.Enters Tryz.prog 191 := ⟨Tryz.f191, Tryz.func191, rfl, by decide⟩
set_option maxHeartbeats 8000000 in
set_option maxRecDepth 100000 in
theorem Fimpl_isFor_gives (k : Nat) (a0 : Int) (r : Bool) (H : Fimpl_isFor k a0 = some r) : Gives Tryz.prog 191 [V.one (cI a0)] [] [V.one (cL r)] [] := by
 refine Gives.intro Tryz.func191 rfl rfl rfl rfl ?_
 intro F hF hm
 unfold Fimpl_isFor at H
 obtain ⟨K, hK⟩ : ∃ K, k ≤ K := ⟨k, Nat.le_refl k⟩
 refine WpC.seq (WpC.regionL ?_)
 refine L.assign hF rfl rfl rfl (L.nil ?_)
 refine WpC.seq (WpC.regionL ?_)
 refine L.move hF rfl rfl rfl ?_
 obtain ⟨r3, hr3, H⟩ := bindS H
 refine L.call [false] [] [] 1 hF rfl rfl rfl ent61 rfl rfl rfl rfl rfl (Fimpl_isService_gives k  a0 r3 hr3) rfl ?_
 refine L.move hF rfl rfl rfl ?_
 refine L.split (fun hc => ?_) (fun hc => ?_)
 ·replace H := condT hc H
  refine L.off hF rfl rfl ?_
  refine L.off hF rfl rfl ?_
  refine L.off hF rfl rfl ?_
  refine L.pick hF rfl rfl rfl rfl ?_
  refine L.assign hF rfl rfl rfl (L.nil ?_)
  refine WpC.ret ?_
  cases H
  exact Leaves.ret rfl rfl rfl ⟨rfl, rfl⟩
 ·replace H := condF hc H
  refine L.move hF rfl rfl rfl ?_
  refine L.bin hF rfl rfl rfl rfl rfl rfl ?_
  obtain ⟨r4, hr4, H⟩ := bindS H
  refine L.call [false] [] [] 2 hF rfl rfl rfl ent135 rfl rfl rfl rfl rfl (Fimpl_isRealm_gives k  (IntKind.i64.wrap (a0 - (10 : Int))) r4 hr4) rfl ?_
  refine L.pick hF rfl rfl rfl rfl ?_
  refine L.assign hF rfl rfl rfl (L.nil ?_)
  refine WpC.ret ?_
  cases H
  exact Leaves.ret rfl rfl rfl ⟨rfl, rfl⟩
/-! ### Fimpl_isTime -/
def Fimpl_isTime (k : Nat) (a0 : Int) : Option Bool := (Fimpl_within k a0 (0 : Int) (100000 : Int)).bind fun r1 => some r1
theorem ent62 : MG.Enters Tryz.prog 62 := ⟨Tryz.f62, Tryz.func62, rfl, by decide⟩
set_option maxHeartbeats 8000000 in
set_option maxRecDepth 100000 in
theorem Fimpl_isTime_gives (k : Nat) (a0 : Int) (r : Bool) (H : Fimpl_isTime k a0 = some r) : Gives Tryz.prog 62 [V.one (cI a0)] [] [V.one (cL r)] [] := by
 refine Gives.intro Tryz.func62 rfl rfl rfl rfl ?_
 intro F hF hm
 unfold Fimpl_isTime at H
 obtain ⟨K, hK⟩ : ∃ K, k ≤ K := ⟨k, Nat.le_refl k⟩
 refine WpC.seq (WpC.regionL ?_)
 refine L.assign hF rfl rfl rfl (L.nil ?_)
 refine WpC.seq (WpC.regionL ?_)
 refine L.move hF rfl rfl rfl ?_
 obtain ⟨r1, hr1, H⟩ := bindS H
 refine L.call [false, false, false] [] [] 1 hF rfl rfl rfl ent118 rfl rfl rfl rfl rfl (Fimpl_within_gives k  a0 (0 : Int) (100000 : Int) r1 hr1) rfl ?_
 refine L.assign hF rfl rfl rfl (L.nil ?_)
 refine WpC.ret ?_
 cases H
 exact Leaves.ret rfl rfl rfl ⟨rfl, rfl⟩
/-! ### Fimpl_RestOk -/
def Fimpl_RestOk (k : Nat) (a0 : Timpl_Rest) : Option Bool := (Fimpl_within k a0.Servers (0 : Int) (7 : Int)).bind fun r4 => cond r4 ((Fimpl_within k a0.Ops (0 : Int) (255 : Int)).bind fun r5 => cond r5 ((Fimpl_isTime k a0.End).bind fun r6 => some r6) (some false)) (some false)
theorem ent163 : MG.Enters Tryz.prog 163 := ⟨Tryz.f163, Tryz.func163, rfl, by decide⟩
set_option maxHeartbeats 8000000 in
set_option maxRecDepth 100000 in
theorem Fimpl_RestOk_gives (k : Nat) (a0 : Timpl_Rest) (r : Bool) (H : Fimpl_RestOk k a0 = some r) : Gives Tryz.prog 163 [V.agg [cI a0.Servers, cI a0.Ops, cI a0.End]] [] [V.one (cL r)] [] := by
 refine Gives.intro Tryz.func163 rfl rfl rfl rfl ?_
 intro F hF hm
 unfold Fimpl_RestOk at H
 obtain ⟨K, hK⟩ : ∃ K, k ≤ K := ⟨k, Nat.le_refl k⟩
 refine WpC.seq (WpC.regionL ?_)
 refine L.box 3 hF rfl rfl rfl rfl ?_
 refine L.assign hF rfl rfl rfl (L.nil ?_)
 refine WpC.seq (WpC.regionL ?_)
 refine L.fieldAddr Tryz.underlying37 rfl info3 rfl hF rfl rfl rfl rfl rfl ?_
 refine L.loadPtr shape3 hF rfl rfl rfl rfl rfl rfl ?_
 obtain ⟨r4, hr4, H⟩ := bindS H
 refine L.call [false, false, false] [] [] 4 hF rfl rfl rfl ent118 rfl rfl rfl rfl rfl (Fimpl_within_gives k  a0.Servers (0 : Int) (7 : Int) r4 hr4) rfl ?_
 refine L.move hF rfl rfl rfl ?_
 refine L.split (fun hc => ?_) (fun hc => ?_)
 ·replace H := condT hc H
  refine L.fieldAddr Tryz.underlying37 rfl info3 rfl hF rfl rfl rfl rfl rfl ?_
  refine L.loadPtr shape3 hF rfl rfl rfl rfl rfl rfl ?_
  obtain ⟨r5, hr5, H⟩ := bindS H
  refine L.call [false, false, false] [] [] 5 hF rfl rfl rfl ent118 rfl rfl rfl rfl rfl (Fimpl_within_gives k  a0.Ops (0 : Int) (255 : Int) r5 hr5) rfl ?_
  refine L.pick hF rfl rfl rfl rfl ?_
  refine L.move hF rfl rfl rfl ?_
  refine L.split (fun hc => ?_) (fun hc => ?_)
  ·replace H := condT hc H
   refine L.fieldAddr Tryz.underlying37 rfl info3 rfl hF rfl rfl rfl rfl rfl ?_
   refine L.loadPtr shape3 hF rfl rfl rfl rfl rfl rfl ?_
   obtain ⟨r6, hr6, H⟩ := bindS H
   refine L.call [false] [] [] 6 hF rfl rfl rfl ent62 rfl rfl rfl rfl rfl (Fimpl_isTime_gives k  a0.End r6 hr6) rfl ?_
   refine L.pick hF rfl rfl rfl rfl ?_
   refine L.assign hF rfl rfl rfl (L.nil ?_)
   refine WpC.ret ?_
   cases H
   exact Leaves.ret rfl rfl rfl ⟨rfl, rfl⟩
  ·replace H := condF hc H
   refine L.off hF rfl rfl ?_
   refine L.off hF rfl rfl ?_
   refine L.off hF rfl rfl ?_
   refine L.pick hF rfl rfl rfl rfl ?_
   refine L.assign hF rfl rfl rfl (L.nil ?_)
   refine WpC.ret ?_
   cases H
   exact Leaves.ret rfl rfl rfl ⟨rfl, rfl⟩
 ·replace H := condF hc H
  refine L.off hF rfl rfl ?_
  refine L.off hF rfl rfl ?_
  refine L.off hF rfl rfl ?_
  refine L.pick hF rfl rfl rfl rfl ?_
  refine L.move hF rfl rfl rfl ?_
  refine L.off hF rfl rfl ?_
  refine L.off hF rfl rfl ?_
  refine L.off hF rfl rfl ?_
  refine L.pick hF rfl rfl rfl rfl ?_
  refine L.assign hF rfl rfl rfl (L.nil ?_)
  refine WpC.ret ?_
  cases H
  exact Leaves.ret rfl rfl rfl ⟨rfl, rfl⟩
/-! ### Fimpl_Var -/
def Fimpl_Var.l2 : Nat → Int → (List UInt8) → Option (List UInt8)
 | 0, _, _ => none
 | k2 + 1, v16, v17 => cond (decide (v16 > (127 : Int))) (cond (decide ((2 * (v17.length + ([(ofI (Go.bits .or .i64 (Go.bits .and .i64 v16 (127 : Int)) (128 : Int)))] : List UInt8).length) + 192) * 1 ≤ 281474976710656)) ((Fimpl_Var.l2 k2) (shrI .i64 v16 (7 : Int)) (v17 ++ ([(ofI (Go.bits .or .i64 (Go.bits .and .i64 v16 (127 : Int)) (128 : Int)))] : List UInt8))) none) (cond (decide ((2 * (v17.length + ([(ofI v16)] : List UInt8).length) + 192) * 1 ≤ 281474976710656)) (some (v17 ++ ([(ofI v16)] : List UInt8))) none)
def Fimpl_Var (k : Nat) (a0 : Int) : Option (List UInt8) := (Fimpl_within k a0 (0 : Int) (562949953421311 : Int)).bind fun r2 => cond (!r2) (some ([] : List UInt8)) (Fimpl_Var.l2 k a0 ([] : List UInt8))
theorem ent245 : MG.Enters Tryz.prog 245 := ⟨Tryz.f245, Tryz.func245, rfl, by decide⟩
set_option maxHeartbeats 8000000 in
set_option maxRecDepth 100000 in
theorem Fimpl_Var_gives (k : Nat) (a0 : Int) (r : List UInt8) (H : Fimpl_Var k a0 = some r) : Gives Tryz.prog 245 [V.one (cI a0)] [] [V.one (cS r)] [] := by
 refine Gives.intro Tryz.func245 rfl rfl rfl rfl ?_
 intro F hF hm
 unfold Fimpl_Var at H
 obtain ⟨K, hK⟩ : ∃ K, k ≤ K := ⟨k, Nat.le_refl k⟩
 refine WpC.seq (WpC.regionL ?_)
 refine L.assign hF rfl rfl rfl (L.nil ?_)
 refine WpC.seq (WpC.seq (WpC.regionL ?_))
 refine L.move hF rfl rfl rfl ?_
 obtain ⟨r2, hr2, H⟩ := bindS H
 refine L.call [false, false, false] [] [] 1 hF rfl rfl rfl ent118 rfl rfl rfl rfl rfl (Fimpl_within_gives k  a0 (0 : Int) (562949953421311 : Int) r2 hr2) rfl ?_
 refine L.not hF rfl rfl rfl (L.nil ?_)
 refine WpC.cond rfl (fun hc => ?_) (fun hc => ?_)
 ·replace H := condT hc H
  refine WpC.seq (WpC.regionL ?_)
  refine L.assign hF rfl rfl rfl (L.nil ?_)
  refine WpC.ret ?_
  cases H
  exact Leaves.ret rfl rfl rfl ⟨rfl, rfl⟩
 ·replace H := condF hc H
  refine WpC.skip (WpC.seq (WpC.regionL ?_))
  refine L.buildSlice (e := eB) 2 ([] : List UInt8) Tryz.underlying54 info5 rfl rfl rfl hF rfl rfl rfl rfl rfl rfl rfl rfl ?_
  refine L.assign hF rfl rfl rfl (L.nil ?_)
  refine WpC.seq (WpC.block ?_)
  refine WpC.loopL (P := Tryz.prog) (fun n σ => ∃ v16 : Int, ∃ v17 : List UInt8, n ≤ K ∧ Fimpl_Var.l2 n v16 v17 = some r ∧ σ = mkSt [(0, one (cI v16)), (3, one (Cell.own 0))] [(0, ⟨1, List.map eB v17⟩)] [] 1) k ⟨_, ⟨a0, ([] : List UInt8), by omega, H, rfl⟩, Le.mk [(0, 2)] hm rfl (Sa2 trivial) (Ra1 trivial) trivial⟩ ?_
  clear H
  rintro k2 _ ⟨v16, v17, hk2, H, rfl⟩
  cases k2 with
  | zero => cases H
  | succ k2 =>
   rw [Fimpl_Var.l2] at H
   refine WpC.seq (WpC.seq (WpC.regionL ?_))
   refine L.move hF rfl rfl rfl ?_
   refine L.bin hF rfl rfl rfl rfl rfl rfl (L.nil ?_)
   refine WpC.cond rfl (fun hc => ?_) (fun hc => ?_)
   ·replace H := condT hc H
    refine WpC.skip (WpC.block (WpC.seq (WpC.regionL ?_)))
    refine L.move hF rfl rfl rfl ?_
    refine L.move hF rfl rfl rfl ?_
    refine L.bin hF rfl rfl rfl rfl rfl rfl ?_
    refine L.bin hF rfl rfl rfl rfl rfl rfl ?_
    refine L.toB Tryz.underlying3 Tryz.underlying5 hF rfl rfl rfl ?_
    refine L.buildSlice (e := eB) 1 ([(ofI (Go.bits .or .i64 (Go.bits .and .i64 v16 (127 : Int)) (128 : Int)))] : List UInt8) Tryz.underlying54 info5 rfl rfl rfl hF rfl rfl rfl rfl rfl rfl rfl rfl ?_
    obtain ⟨h18, H⟩ := condG H
    refine L.append (xs := v17) (ys := ([(ofI (Go.bits .or .i64 (Go.bits .and .i64 v16 (127 : Int)) (128 : Int)))] : List UInt8)) (e := eB) 2 Tryz.underlying54 info5 rfl rfl hF rfl rfl rfl rfl rfl rfl rfl rfl (fun _ => rfl) (fun _ _ h1 h2 => by cases h1; cases h2; rfl) ⟨_, Tryz.underlying54⟩ (of_decide_eq_true h18) rfl rfl ?_
    refine L.assign hF rfl rfl rfl (L.nil ?_)
    refine WpC.regionL ?_
    refine L.move hF rfl rfl rfl ?_
    refine L.shr hF rfl rfl rfl rfl (by decide) ?_
    refine L.assign hF rfl rfl rfl (L.nil ?_)
    exact ⟨k2, _, by omega, ⟨(shrI .i64 v16 (7 : Int)), (v17 ++ ([(ofI (Go.bits .or .i64 (Go.bits .and .i64 v16 (127 : Int)) (128 : Int)))] : List UInt8)), by omega, H, rfl⟩, Le.mk [(0, 2)] hm rfl (Sa2 trivial) (Ra1 trivial) trivial⟩
   ·replace H := condF hc H
    refine WpC.exit (WpC.seq (WpC.regionL ?_))
    refine L.move hF rfl rfl rfl ?_
    refine L.move hF rfl rfl rfl ?_
    refine L.toB Tryz.underlying3 Tryz.underlying5 hF rfl rfl rfl ?_
    refine L.buildSlice (e := eB) 1 ([(ofI v16)] : List UInt8) Tryz.underlying54 info5 rfl rfl rfl hF rfl rfl rfl rfl rfl rfl rfl rfl ?_
    obtain ⟨h19, H⟩ := condG H
    refine L.append (xs := v17) (ys := ([(ofI v16)] : List UInt8)) (e := eB) 2 Tryz.underlying54 info5 rfl rfl hF rfl rfl rfl rfl rfl rfl rfl rfl (fun _ => rfl) (fun _ _ h1 h2 => by cases h1; cases h2; rfl) ⟨_, Tryz.underlying54⟩ (of_decide_eq_true h19) rfl rfl ?_
    refine L.b2s (xs := (v17 ++ ([(ofI v16)] : List UInt8))) Tryz.underlying54 Tryz.underlying5 Tryz.underlying9 hF rfl rfl rfl rfl ?_
    refine L.assign hF rfl rfl rfl (L.nil ?_)
    refine WpC.ret ?_
    cases H
    exact Leaves.ret rfl rfl rfl ⟨rfl, rfl⟩
/-! ### Fimpl_ReadVar -/
def Fimpl_ReadVar.l2 : Nat → (List UInt8) → Int → Int → Option (Int × Int)
 | 0, _, _, _ => none
 | k2 + 1, v82, v83, v84 => cond (decide (v84 < (v82.length : Int))) (cond (decide (v84 < (7 : Int))) ((at? v82 v84).bind fun b92 => cond (!(decide ((IntKind.i64.wrap ((7 : Int) * v84)) < 0))) ((at? v82 v84).bind fun b94 => cond (decide (b94 < (128 : UInt8))) ((Fimpl_Var k2 (Go.bits .or .i64 v83 (shlI .i64 ((b92 &&& (127 : UInt8)).toNat : Int) (IntKind.i64.wrap ((7 : Int) * v84))))).bind fun r97 => (cut? v82 (0 : Int) (IntKind.i64.wrap (v84 + (1 : Int)))).bind fun b98 => cond (r97 != b98) (some ((0 : Int), (0 : Int))) (some ((Go.bits .or .i64 v83 (shlI .i64 ((b92 &&& (127 : UInt8)).toNat : Int) (IntKind.i64.wrap ((7 : Int) * v84)))), (IntKind.i64.wrap (v84 + (1 : Int)))))) ((Fimpl_ReadVar.l2 k2) v82 (Go.bits .or .i64 v83 (shlI .i64 ((b92 &&& (127 : UInt8)).toNat : Int) (IntKind.i64.wrap ((7 : Int) * v84)))) (IntKind.i64.wrap (v84 + (1 : Int))))) none) (some ((0 : Int), (0 : Int)))) (some ((0 : Int), (0 : Int)))
def Fimpl_ReadVar (k : Nat) (a0 : List UInt8) : Option (Int × Int) := Fimpl_ReadVar.l2 k a0 (0 : Int) (0 : Int)
theorem ent238 : MG.Enters Tryz.prog 238 := ⟨Tryz.f238, Tryz.func238, rfl, by decide⟩
set_option maxHeartbeats 8000000 in
set_option maxRecDepth 100000 in
theorem Fimpl_ReadVar_gives (k : Nat) (a0 : List UInt8) (r : Int × Int) (H : Fimpl_ReadVar k a0 = some r) : Gives Tryz.prog 238 [V.one (cS a0)] [] [V.one (cI r.1), V.one (cI r.2)] [] := by
 refine Gives.intro Tryz.func238 rfl rfl rfl rfl ?_
 intro F hF hm
 unfold Fimpl_ReadVar at H
 obtain ⟨K, hK⟩ : ∃ K, k ≤ K := ⟨k, Nat.le_refl k⟩
 refine WpC.seq (WpC.regionL ?_)
 refine L.assign hF rfl rfl rfl ?_
 refine L.assign hF rfl rfl rfl (L.nil ?_)
 refine WpC.seq (WpC.regionL ?_)
 refine L.assign hF rfl rfl rfl (L.nil ?_)
 refine WpC.seq (WpC.seq (WpC.regionL ?_))
 refine L.assign hF rfl rfl rfl (L.nil ?_)
 refine WpC.block ?_
 refine WpC.loopL (P := Tryz.prog) (fun n σ => ∃ v82 : List UInt8, ∃ v83 : Int, ∃ v84 : Int, n ≤ K ∧ Fimpl_ReadVar.l2 n v82 v83 v84 = some r ∧ σ = mkSt [(0, one (cS v82)), (4, one (cI v83)), (5, one (cI v84))] [] [] 0) k ⟨_, ⟨a0, (0 : Int), (0 : Int), by omega, H, rfl⟩, Le.mk [] hm rfl (Sa2 (Sa1 trivial)) trivial trivial⟩ ?_
 clear H
 rintro k2 _ ⟨v82, v83, v84, hk2, H, rfl⟩
 cases k2 with
 | zero => cases H
 | succ k2 =>
  rw [Fimpl_ReadVar.l2] at H
  refine WpC.seq (WpC.seq (WpC.regionL ?_))
  refine L.move hF rfl rfl rfl ?_
  refine L.move hF rfl rfl rfl ?_
  refine L.lenS Tryz.underlying9 hF rfl rfl rfl ?_
  refine L.bin hF rfl rfl rfl rfl rfl rfl ?_
  refine L.move hF rfl rfl rfl ?_
  refine L.split (fun hc => ?_) (fun hc => ?_)
  ·replace H := condT hc H
   refine L.move hF rfl rfl rfl ?_
   refine L.bin hF rfl rfl rfl rfl rfl rfl ?_
   refine L.pick hF rfl rfl rfl rfl (L.nil ?_)
   refine WpC.cond rfl (fun hc => ?_) (fun hc => ?_)
   ·replace H := condT hc H
    refine WpC.skip (WpC.seq (WpC.block (WpC.seq (WpC.regionL ?_))))
    refine L.move hF rfl rfl rfl ?_
    refine L.move hF rfl rfl rfl ?_
    refine L.move hF rfl rfl rfl ?_
    obtain ⟨b92, hb92, H⟩ := bindS H
    refine L.idxS Tryz.underlying9 hF rfl rfl rfl rfl hb92 ?_
    refine L.binB (a := b92) (b := (127 : UInt8)) hF rfl rfl rfl rfl rfl ?_
    refine L.ofB Tryz.underlying5 Tryz.underlying3 hF rfl rfl rfl ?_
    refine L.move hF rfl rfl rfl ?_
    refine L.bin hF rfl rfl rfl rfl rfl rfl ?_
    obtain ⟨h93, H⟩ := condG H
    refine L.shl hF rfl rfl rfl rfl (by simpa using h93) ?_
    refine L.bin hF rfl rfl rfl rfl rfl rfl ?_
    refine L.assign hF rfl rfl rfl (L.nil ?_)
    refine WpC.seq (WpC.regionL ?_)
    refine L.move hF rfl rfl rfl ?_
    refine L.move hF rfl rfl rfl ?_
    obtain ⟨b94, hb94, H⟩ := bindS H
    refine L.idxS Tryz.underlying9 hF rfl rfl rfl rfl hb94 ?_
    refine L.binB (a := b94) (b := (128 : UInt8)) hF rfl rfl rfl rfl rfl (L.nil ?_)
    refine WpC.cond rfl (fun hc => ?_) (fun hc => ?_)
    ·replace H := condT hc H
     refine WpC.seq (WpC.seq ?_)
     obtain ⟨r97, hr97, H⟩ := bindS H
     obtain ⟨b98, hb98, H⟩ := bindS H
     refine A.begin mixed rfl rfl ?_
     intro W hI hO
     refine hI _ _ _ ?_
     refine Atk 0 rfl (Ca.move) (fun Q0 k0 => L.move hF rfl rfl rfl (L.nil k0)) ?_
     refine Atk 2 rfl (Ca.move) (fun Q0 k0 => L.move hF rfl rfl rfl (L.nil k0)) ?_
     refine Atk 3 rfl (Ca.move) (fun Q0 k0 => L.move hF rfl rfl rfl (L.nil k0)) ?_
     refine Atk 4 rfl (Ca.bin rfl rfl (calm_int _ _ _ _ _ _ _ _)) (fun Q0 k0 => L.bin hF rfl rfl rfl rfl rfl rfl (L.nil k0)) ?_
     refine Atk 5 rfl (Ca.slice) (fun Q0 k0 => L.cutS Tryz.underlying9 hF rfl rfl rfl rfl rfl hb98 (L.nil k0)) ?_
     refine A.all [1] (by kernel_rfl) rfl ⟨⟨_, rfl, ?_⟩, trivial⟩
     refine L.call [false] [] [] 0 hF rfl rfl rfl ent245 rfl rfl rfl rfl rfl (Fimpl_Var_gives k2  (Go.bits .or .i64 v83 (shlI .i64 ((b92 &&& (127 : UInt8)).toNat : Int) (IntKind.i64.wrap ((7 : Int) * v84)))) r97 hr97) rfl (L.nil ?_)
     refine Atk 6 rfl (Ca.bin rfl rfl (calm_str _ _ _ _ _ _)) (fun Q0 k0 => L.binS hF rfl rfl rfl rfl rfl (L.nil k0)) ?_
     refine A.le (τ := mkSt [(4, one (cI (Go.bits .or .i64 v83 (shlI .i64 ((b92 &&& (127 : UInt8)).toNat : Int) (IntKind.i64.wrap ((7 : Int) * v84)))))), (5, one (cI v84)), (36, one (cL (r97 != b98)))] [] [] 0) (Le.mk [] hm rfl (Sa2 (Sa1 trivial)) trivial trivial) ?_
     refine A.done (by kernel_rfl) ?_
     refine WpC.cond rfl (fun hc => ?_) (fun hc => ?_)
     ·replace H := condT hc H
      refine WpC.seq (WpC.regionL ?_)
      refine L.assign hF rfl rfl rfl ?_
      refine L.assign hF rfl rfl rfl (L.nil ?_)
      refine WpC.ret ?_
      cases H
      exact Leaves.ret rfl rfl rfl ⟨rfl, rfl⟩
     ·replace H := condF hc H
      refine WpC.skip (WpC.seq (WpC.regionL ?_))
      refine L.move hF rfl rfl rfl ?_
      refine L.move hF rfl rfl rfl ?_
      refine L.bin hF rfl rfl rfl rfl rfl rfl ?_
      refine L.assign hF rfl rfl rfl ?_
      refine L.assign hF rfl rfl rfl (L.nil ?_)
      refine WpC.ret ?_
      cases H
      exact Leaves.ret rfl rfl rfl ⟨rfl, rfl⟩
    ·replace H := condF hc H
     refine WpC.skip (WpC.regionL ?_)
     refine L.move hF rfl rfl rfl ?_
     refine L.bin hF rfl rfl rfl rfl rfl rfl ?_
     refine L.assign hF rfl rfl rfl (L.nil ?_)
     exact ⟨k2, _, by omega, ⟨v82, (Go.bits .or .i64 v83 (shlI .i64 ((b92 &&& (127 : UInt8)).toNat : Int) (IntKind.i64.wrap ((7 : Int) * v84)))), (IntKind.i64.wrap (v84 + (1 : Int))), by omega, H, rfl⟩, Le.mk [] hm rfl (Sa2 (Sa1 trivial)) trivial trivial⟩
   ·replace H := condF hc H
    refine WpC.exit (WpC.seq (WpC.regionL ?_))
    refine L.assign hF rfl rfl rfl ?_
    refine L.assign hF rfl rfl rfl (L.nil ?_)
    refine WpC.ret ?_
    cases H
    exact Leaves.ret rfl rfl rfl ⟨rfl, rfl⟩
  ·replace H := condF hc H
   refine L.off hF rfl rfl ?_
   refine L.off hF rfl rfl ?_
   refine L.pick hF rfl rfl rfl rfl (L.nil ?_)
   refine WpC.cond rfl (fun hc => by cases hc) (fun _ => ?_)
   refine WpC.exit (WpC.seq (WpC.regionL ?_))
   refine L.assign hF rfl rfl rfl ?_
   refine L.assign hF rfl rfl rfl (L.nil ?_)
   refine WpC.ret ?_
   cases H
   exact Leaves.ret rfl rfl rfl ⟨rfl, rfl⟩
/-! ### Fimpl_varAt -/
def Fimpl_varAt (k : Nat) (a0 : List UInt8) (a1 : Int) : Option (Int × Int) := (cut? a0 a1 (a0.length : Int)).bind fun b1 => (Fimpl_ReadVar k b1).bind fun r2 => cond (r2.2 == (0 : Int)) (some ((-1 : Int), a1)) (some (r2.1, (IntKind.i64.wrap (a1 + r2.2))))
theorem ent208 : MG.Enters Tryz.prog 208 := ⟨Tryz.f208, Tryz.func208, rfl, by decide⟩
set_option maxHeartbeats 8000000 in
set_option maxRecDepth 100000 in
theorem Fimpl_varAt_gives (k : Nat) (a0 : List UInt8) (a1 : Int) (r : Int × Int) (H : Fimpl_varAt k a0 a1 = some r) : Gives Tryz.prog 208 [V.one (cS a0), V.one (cI a1)] [] [V.one (cI r.1), V.one (cI r.2)] [] := by
 refine Gives.intro Tryz.func208 rfl rfl rfl rfl ?_
 intro F hF hm
 unfold Fimpl_varAt at H
 obtain ⟨K, hK⟩ : ∃ K, k ≤ K := ⟨k, Nat.le_refl k⟩
 refine WpC.seq (WpC.regionL ?_)
 refine L.assign hF rfl rfl rfl ?_
 refine L.assign hF rfl rfl rfl (L.nil ?_)
 refine WpC.seq (WpC.regionL ?_)
 refine L.move hF rfl rfl rfl ?_
 refine L.move hF rfl rfl rfl ?_
 obtain ⟨b1, hb1, H⟩ := bindS H
 refine L.cutS Tryz.underlying9 hF rfl rfl rfl rfl rfl hb1 ?_
 obtain ⟨r2, hr2, H⟩ := bindS H
 refine L.call [false] [] [] 2 hF rfl rfl rfl ent238 rfl rfl rfl rfl rfl (Fimpl_ReadVar_gives k  b1 r2 hr2) rfl ?_
 refine L.move hF rfl rfl rfl ?_
 refine L.extract hF rfl rfl rfl rfl ?_
 refine L.extract hF rfl rfl rfl rfl ?_
 refine L.assign hF rfl rfl rfl ?_
 refine L.assign hF rfl rfl rfl (L.nil ?_)
 refine WpC.seq (WpC.seq (WpC.regionL ?_))
 refine L.move hF rfl rfl rfl ?_
 refine L.bin hF rfl rfl rfl rfl rfl rfl (L.nil ?_)
 refine WpC.cond rfl (fun hc => ?_) (fun hc => ?_)
 ·replace H := condT hc H
  refine WpC.seq (WpC.regionL ?_)
  refine L.move hF rfl rfl rfl ?_
  refine L.assign hF rfl rfl rfl ?_
  refine L.assign hF rfl rfl rfl (L.nil ?_)
  refine WpC.ret ?_
  cases H
  exact Leaves.ret rfl rfl rfl ⟨rfl, rfl⟩
 ·replace H := condF hc H
  refine WpC.skip (WpC.seq (WpC.regionL ?_))
  refine L.move hF rfl rfl rfl ?_
  refine L.move hF rfl rfl rfl ?_
  refine L.move hF rfl rfl rfl ?_
  refine L.bin hF rfl rfl rfl rfl rfl rfl ?_
  refine L.assign hF rfl rfl rfl ?_
  refine L.assign hF rfl rfl rfl (L.nil ?_)
  refine WpC.ret ?_
  cases H
  exact Leaves.ret rfl rfl rfl ⟨rfl, rfl⟩
/-! ### Fimpl_termAt -/
def Fimpl_termAt.l4 (cREC : (List UInt8) → Int → Int → Option Int) : Nat → (List UInt8) → Int → Int → Int → Int → Option Int
 | 0, _, _, _, _, _ => none
 | k4 + 1, v96, v97, v98, v99, v100 => cond (decide (v100 < v98)) (cond (decide (v99 ≥ (0 : Int))) ((cREC v96 v99 (IntKind.i64.wrap (v97 - (1 : Int)))).bind fun r102 => (Fimpl_termAt.l4 cREC k4) v96 v97 v98 r102 (IntKind.i64.wrap (v100 + (1 : Int)))) (some v99)) (some v99)
def Fimpl_termAt : Nat → (List UInt8) → Int → Int → Option Int
 | 0, _, _, _ => none
 | k + 1, a0, a1, a2 => cond (decide (a1 ≥ (a0.length : Int))) (some (-1 : Int)) (cond (decide (a2 < (1 : Int))) (some (-1 : Int)) ((Fimpl_varAt k a0 (IntKind.i64.wrap (a1 + (1 : Int)))).bind fun r1 => (at? a0 a1).bind fun b54 => cond (b54 == (97 : UInt8)) ((Fimpl_within k r1.1 (0 : Int) (40 : Int)).bind fun r58 => cond (!r58) (some (-1 : Int)) (cond (decide (r1.1 > (IntKind.i64.wrap ((a0.length : Int) - r1.2)))) (some (-1 : Int)) (some (IntKind.i64.wrap (r1.2 + r1.1))))) (cond (b54 == (107 : UInt8)) ((Fimpl_isKey k r1.1).bind fun r60 => cond (!r60) (some (-1 : Int)) (some r1.2)) (cond (b54 == (108 : UInt8)) ((Fimpl_within k r1.1 (0 : Int) (12 : Int)).bind fun r62 => cond (!r62) (some (-1 : Int)) (Fimpl_termAt.l4 (Fimpl_termAt k) k a0 a2 r1.1 r1.2 (0 : Int))) (cond (b54 == (115 : UInt8)) ((Fimpl_isKey k r1.1).bind fun r104 => cond (!r104) (some (-1 : Int)) (((Fimpl_termAt k) a0 r1.2 (IntKind.i64.wrap (a2 - (1 : Int)))).bind fun r105 => some r105)) (some (-1 : Int)))))))
theorem ent193 : MG.Enters Tryz.prog 193 := ⟨Tryz.f193, Tryz.func193, rfl, by decide⟩
set_option maxHeartbeats 8000000 in
set_option maxRecDepth 100000 in
theorem Fimpl_termAt_gives : ∀ (k : Nat) (a0 : List UInt8) (a1 : Int) (a2 : Int) (r : Int) (H : Fimpl_termAt k a0 a1 a2 = some r), Gives Tryz.prog 193 [V.one (cS a0), V.one (cI a1), V.one (cI a2)] [] [V.one (cI r)] [] := by
 intro k
 induction k with
 | zero => intros; rename_i H; cases H
 | succ k ih =>
  intro a0 a1 a2 r H
  refine Gives.intro Tryz.func193 rfl rfl rfl rfl ?_
  intro F hF hm
  rw [Fimpl_termAt] at H
  obtain ⟨K, hK⟩ : ∃ K, k ≤ K := ⟨k, Nat.le_refl k⟩
  refine WpC.seq (WpC.regionL ?_)
  refine L.assign hF rfl rfl rfl (L.nil ?_)
  refine WpC.seq (WpC.seq (WpC.regionL ?_))
  refine L.move hF rfl rfl rfl ?_
  refine L.move hF rfl rfl rfl ?_
  refine L.lenS Tryz.underlying9 hF rfl rfl rfl ?_
  refine L.bin hF rfl rfl rfl rfl rfl rfl ?_
  refine L.move hF rfl rfl rfl ?_
  refine L.split (fun hc => ?_) (fun hc => ?_)
  ·replace H := condT hc H
   refine L.off hF rfl rfl ?_
   refine L.off hF rfl rfl ?_
   refine L.pick hF rfl rfl rfl rfl (L.nil ?_)
   refine WpC.cond rfl (fun _ => ?_) (fun hc => by cases hc)
   refine WpC.seq (WpC.regionL ?_)
   refine L.assign hF rfl rfl rfl (L.nil ?_)
   refine WpC.ret ?_
   cases H
   exact Leaves.ret rfl rfl rfl ⟨rfl, rfl⟩
  ·replace H := condF hc H
   refine L.move hF rfl rfl rfl ?_
   refine L.bin hF rfl rfl rfl rfl rfl rfl ?_
   refine L.pick hF rfl rfl rfl rfl (L.nil ?_)
   refine WpC.cond rfl (fun hc => ?_) (fun hc => ?_)
   ·replace H := condT hc H
    refine WpC.seq (WpC.regionL ?_)
    refine L.assign hF rfl rfl rfl (L.nil ?_)
    refine WpC.ret ?_
    cases H
    exact Leaves.ret rfl rfl rfl ⟨rfl, rfl⟩
   ·replace H := condF hc H
    refine WpC.skip (WpC.seq (WpC.regionL ?_))
    refine L.move hF rfl rfl rfl ?_
    refine L.move hF rfl rfl rfl ?_
    refine L.bin hF rfl rfl rfl rfl rfl rfl ?_
    obtain ⟨r1, hr1, H⟩ := bindS H
    refine L.call [false, false] [] [] 3 hF rfl rfl rfl ent208 rfl rfl rfl rfl rfl (Fimpl_varAt_gives k  a0 (IntKind.i64.wrap (a1 + (1 : Int))) r1 hr1) rfl ?_
    refine L.move hF rfl rfl rfl ?_
    refine L.extract hF rfl rfl rfl rfl ?_
    refine L.extract hF rfl rfl rfl rfl ?_
    refine L.assign hF rfl rfl rfl ?_
    refine L.assign hF rfl rfl rfl (L.nil ?_)
    refine WpC.seq (WpC.seq (WpC.regionL ?_))
    refine L.move hF rfl rfl rfl ?_
    refine L.move hF rfl rfl rfl ?_
    obtain ⟨b54, hb54, H⟩ := bindS H
    refine L.idxS Tryz.underlying9 hF rfl rfl rfl rfl hb54 (L.nil ?_)
    refine WpC.block (WpC.seq (WpC.regionL ?_))
    refine L.binB (a := b54) (b := (97 : UInt8)) hF rfl rfl rfl rfl rfl ?_
    refine L.assign hF rfl rfl rfl (L.nil ?_)
    refine WpC.cond rfl (fun hc => ?_) (fun hc => ?_)
    ·replace H := condT hc H
     refine WpC.seq (WpC.seq (WpC.regionL ?_))
     refine L.move hF rfl rfl rfl ?_
     obtain ⟨r58, hr58, H⟩ := bindS H
     refine L.call [false, false, false] [] [] 5 hF rfl rfl rfl ent118 rfl rfl rfl rfl rfl (Fimpl_within_gives k  r1.1 (0 : Int) (40 : Int) r58 hr58) rfl ?_
     refine L.not hF rfl rfl rfl ?_
     refine L.move hF rfl rfl rfl ?_
     refine L.split (fun hc => ?_) (fun hc => ?_)
     ·replace H := condT hc H
      refine L.off hF rfl rfl ?_
      refine L.off hF rfl rfl ?_
      refine L.off hF rfl rfl ?_
      refine L.off hF rfl rfl ?_
      refine L.off hF rfl rfl ?_
      refine L.off hF rfl rfl ?_
      refine L.pick hF rfl rfl rfl rfl (L.nil ?_)
      refine WpC.cond rfl (fun _ => ?_) (fun hc => by cases hc)
      refine WpC.seq (WpC.regionL ?_)
      refine L.assign hF rfl rfl rfl (L.nil ?_)
      refine WpC.ret ?_
      cases H
      exact Leaves.ret rfl rfl rfl ⟨rfl, rfl⟩
     ·replace H := condF hc H
      refine L.move hF rfl rfl rfl ?_
      refine L.move hF rfl rfl rfl ?_
      refine L.lenS Tryz.underlying9 hF rfl rfl rfl ?_
      refine L.move hF rfl rfl rfl ?_
      refine L.bin hF rfl rfl rfl rfl rfl rfl ?_
      refine L.bin hF rfl rfl rfl rfl rfl rfl ?_
      refine L.pick hF rfl rfl rfl rfl (L.nil ?_)
      refine WpC.cond rfl (fun hc => ?_) (fun hc => ?_)
      ·replace H := condT hc H
       refine WpC.seq (WpC.regionL ?_)
       refine L.assign hF rfl rfl rfl (L.nil ?_)
       refine WpC.ret ?_
       cases H
       exact Leaves.ret rfl rfl rfl ⟨rfl, rfl⟩
      ·replace H := condF hc H
       refine WpC.skip (WpC.seq (WpC.regionL ?_))
       refine L.move hF rfl rfl rfl ?_
       refine L.move hF rfl rfl rfl ?_
       refine L.bin hF rfl rfl rfl rfl rfl rfl ?_
       refine L.assign hF rfl rfl rfl (L.nil ?_)
       refine WpC.ret ?_
       cases H
       exact Leaves.ret rfl rfl rfl ⟨rfl, rfl⟩
    ·replace H := condF hc H
     refine WpC.seq (WpC.regionL ?_)
     refine L.binB (a := b54) (b := (107 : UInt8)) hF rfl rfl rfl rfl rfl ?_
     refine L.assign hF rfl rfl rfl (L.nil ?_)
     refine WpC.cond rfl (fun hc => ?_) (fun hc => ?_)
     ·replace H := condT hc H
      refine WpC.seq (WpC.seq (WpC.regionL ?_))
      refine L.move hF rfl rfl rfl ?_
      obtain ⟨r60, hr60, H⟩ := bindS H
      refine L.call [false] [] [] 5 hF rfl rfl rfl ent189 rfl rfl rfl rfl rfl (Fimpl_isKey_gives k  r1.1 r60 hr60) rfl ?_
      refine L.not hF rfl rfl rfl (L.nil ?_)
      refine WpC.cond rfl (fun hc => ?_) (fun hc => ?_)
      ·replace H := condT hc H
       refine WpC.seq (WpC.regionL ?_)
       refine L.assign hF rfl rfl rfl (L.nil ?_)
       refine WpC.ret ?_
       cases H
       exact Leaves.ret rfl rfl rfl ⟨rfl, rfl⟩
      ·replace H := condF hc H
       refine WpC.skip (WpC.seq (WpC.regionL ?_))
       refine L.move hF rfl rfl rfl ?_
       refine L.assign hF rfl rfl rfl (L.nil ?_)
       refine WpC.ret ?_
       cases H
       exact Leaves.ret rfl rfl rfl ⟨rfl, rfl⟩
     ·replace H := condF hc H
      refine WpC.seq (WpC.regionL ?_)
      refine L.binB (a := b54) (b := (108 : UInt8)) hF rfl rfl rfl rfl rfl ?_
      refine L.assign hF rfl rfl rfl (L.nil ?_)
      refine WpC.cond rfl (fun hc => ?_) (fun hc => ?_)
      ·replace H := condT hc H
       refine WpC.seq (WpC.seq (WpC.regionL ?_))
       refine L.move hF rfl rfl rfl ?_
       obtain ⟨r62, hr62, H⟩ := bindS H
       refine L.call [false, false, false] [] [] 5 hF rfl rfl rfl ent118 rfl rfl rfl rfl rfl (Fimpl_within_gives k  r1.1 (0 : Int) (12 : Int) r62 hr62) rfl ?_
       refine L.not hF rfl rfl rfl (L.nil ?_)
       refine WpC.cond rfl (fun hc => ?_) (fun hc => ?_)
       ·replace H := condT hc H
        refine WpC.seq (WpC.regionL ?_)
        refine L.assign hF rfl rfl rfl (L.nil ?_)
        refine WpC.ret ?_
        cases H
        exact Leaves.ret rfl rfl rfl ⟨rfl, rfl⟩
       ·replace H := condF hc H
        refine WpC.skip (WpC.seq (WpC.seq (WpC.regionL ?_)))
        refine L.assign hF rfl rfl rfl (L.nil ?_)
        refine WpC.block ?_
        refine WpC.loopL (P := Tryz.prog) (fun n σ => ∃ v96 : List UInt8, ∃ v97 : Int, ∃ v98 : Int, ∃ v99 : Int, ∃ v100 : Int, n ≤ K ∧ Fimpl_termAt.l4 (Fimpl_termAt k) n v96 v97 v98 v99 v100 = some r ∧ σ = mkSt [(0, one (cS v96)), (2, one (cI v97)), (7, one (cI v98)), (8, one (cI v99)), (9, one (cI v100))] [] [] 0) k ⟨_, ⟨a0, a2, r1.1, r1.2, (0 : Int), by omega, H, rfl⟩, Le.mk [] hm rfl (Sa4 (Sa1 trivial)) trivial trivial⟩ ?_
        clear H
        rintro k4 _ ⟨v96, v97, v98, v99, v100, hk4, H, rfl⟩
        cases k4 with
        | zero => cases H
        | succ k4 =>
         rw [Fimpl_termAt.l4] at H
         refine WpC.seq (WpC.seq (WpC.regionL ?_))
         refine L.move hF rfl rfl rfl ?_
         refine L.move hF rfl rfl rfl ?_
         refine L.bin hF rfl rfl rfl rfl rfl rfl ?_
         refine L.move hF rfl rfl rfl ?_
         refine L.split (fun hc => ?_) (fun hc => ?_)
         ·replace H := condT hc H
          refine L.move hF rfl rfl rfl ?_
          refine L.bin hF rfl rfl rfl rfl rfl rfl ?_
          refine L.pick hF rfl rfl rfl rfl (L.nil ?_)
          refine WpC.cond rfl (fun hc => ?_) (fun hc => ?_)
          ·replace H := condT hc H
           refine WpC.skip (WpC.seq (WpC.block (WpC.regionL ?_)))
           refine L.move hF rfl rfl rfl ?_
           refine L.move hF rfl rfl rfl ?_
           refine L.move hF rfl rfl rfl ?_
           refine L.bin hF rfl rfl rfl rfl rfl rfl ?_
           obtain ⟨r102, hr102, H⟩ := bindS H
           refine L.call [false, false, false] [] [] 0 hF rfl rfl rfl ent193 rfl rfl rfl rfl rfl (ih  v96 v99 (IntKind.i64.wrap (v97 - (1 : Int))) r102 hr102) rfl ?_
           refine L.assign hF rfl rfl rfl (L.nil ?_)
           refine WpC.regionL ?_
           refine L.move hF rfl rfl rfl ?_
           refine L.bin hF rfl rfl rfl rfl rfl rfl ?_
           refine L.assign hF rfl rfl rfl (L.nil ?_)
           exact ⟨k4, _, by omega, ⟨v96, v97, v98, r102, (IntKind.i64.wrap (v100 + (1 : Int))), by omega, H, rfl⟩, Le.mk [] hm rfl (Sa4 (Sa1 trivial)) trivial trivial⟩
          ·replace H := condF hc H
           refine WpC.exit (WpC.seq (WpC.regionL ?_))
           refine L.move hF rfl rfl rfl ?_
           refine L.assign hF rfl rfl rfl (L.nil ?_)
           refine WpC.ret ?_
           cases H
           exact Leaves.ret rfl rfl rfl ⟨rfl, rfl⟩
         ·replace H := condF hc H
          refine L.off hF rfl rfl ?_
          refine L.off hF rfl rfl ?_
          refine L.pick hF rfl rfl rfl rfl (L.nil ?_)
          refine WpC.cond rfl (fun hc => by cases hc) (fun _ => ?_)
          refine WpC.exit (WpC.seq (WpC.regionL ?_))
          refine L.move hF rfl rfl rfl ?_
          refine L.assign hF rfl rfl rfl (L.nil ?_)
          refine WpC.ret ?_
          cases H
          exact Leaves.ret rfl rfl rfl ⟨rfl, rfl⟩
      ·replace H := condF hc H
       refine WpC.seq (WpC.regionL ?_)
       refine L.binB (a := b54) (b := (115 : UInt8)) hF rfl rfl rfl rfl rfl ?_
       refine L.assign hF rfl rfl rfl (L.nil ?_)
       refine WpC.cond rfl (fun hc => ?_) (fun hc => ?_)
       ·replace H := condT hc H
        refine WpC.seq (WpC.seq (WpC.regionL ?_))
        refine L.move hF rfl rfl rfl ?_
        obtain ⟨r104, hr104, H⟩ := bindS H
        refine L.call [false] [] [] 5 hF rfl rfl rfl ent189 rfl rfl rfl rfl rfl (Fimpl_isKey_gives k  r1.1 r104 hr104) rfl ?_
        refine L.not hF rfl rfl rfl (L.nil ?_)
        refine WpC.cond rfl (fun hc => ?_) (fun hc => ?_)
        ·replace H := condT hc H
         refine WpC.seq (WpC.regionL ?_)
         refine L.assign hF rfl rfl rfl (L.nil ?_)
         refine WpC.ret ?_
         cases H
         exact Leaves.ret rfl rfl rfl ⟨rfl, rfl⟩
        ·replace H := condF hc H
         refine WpC.skip (WpC.seq (WpC.regionL ?_))
         refine L.move hF rfl rfl rfl ?_
         refine L.move hF rfl rfl rfl ?_
         refine L.move hF rfl rfl rfl ?_
         refine L.bin hF rfl rfl rfl rfl rfl rfl ?_
         obtain ⟨r105, hr105, H⟩ := bindS H
         refine L.call [false, false, false] [] [] 6 hF rfl rfl rfl ent193 rfl rfl rfl rfl rfl (ih  a0 r1.2 (IntKind.i64.wrap (a2 - (1 : Int))) r105 hr105) rfl ?_
         refine L.assign hF rfl rfl rfl (L.nil ?_)
         refine WpC.ret ?_
         cases H
         exact Leaves.ret rfl rfl rfl ⟨rfl, rfl⟩
       ·replace H := condF hc H
        refine WpC.skip (WpC.seq (WpC.regionL ?_))
        refine L.assign hF rfl rfl rfl (L.nil ?_)
        refine WpC.ret ?_
        cases H
        exact Leaves.ret rfl rfl rfl ⟨rfl, rfl⟩
/-! ### Fimpl_TermOk -/
def Fimpl_TermOk (k : Nat) (a0 : List UInt8) : Option Bool := (Fimpl_within k (a0.length : Int) (1 : Int) (900 : Int)).bind fun r3 => cond r3 ((Fimpl_termAt k a0 (0 : Int) (8 : Int)).bind fun r4 => some (r4 == (a0.length : Int))) (some false)
theorem ent117 : MG.Enters Tryz.prog 117 := ⟨Tryz.f117, Tryz.func117, rfl, by decide⟩
set_option maxHeartbeats 8000000 in
set_option maxRecDepth 100000 in
theorem Fimpl_TermOk_gives (k : Nat) (a0 : List UInt8) (r : Bool) (H : Fimpl_TermOk k a0 = some r) : Gives Tryz.prog 117 [V.one (cS a0)] [] [V.one (cL r)] [] := by
 refine Gives.intro Tryz.func117 rfl rfl rfl rfl ?_
 intro F hF hm
 unfold Fimpl_TermOk at H
 obtain ⟨K, hK⟩ : ∃ K, k ≤ K := ⟨k, Nat.le_refl k⟩
 refine WpC.seq (WpC.regionL ?_)
 refine L.assign hF rfl rfl rfl (L.nil ?_)
 refine WpC.seq (WpC.regionL ?_)
 refine L.move hF rfl rfl rfl ?_
 refine L.lenS Tryz.underlying9 hF rfl rfl rfl ?_
 obtain ⟨r3, hr3, H⟩ := bindS H
 refine L.call [false, false, false] [] [] 1 hF rfl rfl rfl ent118 rfl rfl rfl rfl rfl (Fimpl_within_gives k  (a0.length : Int) (1 : Int) (900 : Int) r3 hr3) rfl ?_
 refine L.move hF rfl rfl rfl ?_
 refine L.split (fun hc => ?_) (fun hc => ?_)
 ·replace H := condT hc H
  refine L.move hF rfl rfl rfl ?_
  obtain ⟨r4, hr4, H⟩ := bindS H
  refine L.call [false, false, false] [] [] 2 hF rfl rfl rfl ent193 rfl rfl rfl rfl rfl (Fimpl_termAt_gives k  a0 (0 : Int) (8 : Int) r4 hr4) rfl ?_
  refine L.move hF rfl rfl rfl ?_
  refine L.lenS Tryz.underlying9 hF rfl rfl rfl ?_
  refine L.bin hF rfl rfl rfl rfl rfl rfl ?_
  refine L.pick hF rfl rfl rfl rfl ?_
  refine L.assign hF rfl rfl rfl (L.nil ?_)
  refine WpC.ret ?_
  cases H
  exact Leaves.ret rfl rfl rfl ⟨rfl, rfl⟩
 ·replace H := condF hc H
  refine L.off hF rfl rfl ?_
  refine L.off hF rfl rfl ?_
  refine L.off hF rfl rfl ?_
  refine L.off hF rfl rfl ?_
  refine L.off hF rfl rfl ?_
  refine L.pick hF rfl rfl rfl rfl ?_
  refine L.assign hF rfl rfl rfl (L.nil ?_)
  refine WpC.ret ?_
  cases H
  exact Leaves.ret rfl rfl rfl ⟨rfl, rfl⟩
/-! ### Fimpl_CredOk -/
def Fimpl_CredOk (k : Nat) (a0 : Timpl_Cred) : Option Bool := (Fimpl_isPrincipal k a0.Owner).bind fun r7 => cond r7 ((Fimpl_isPrincipal k a0.Client).bind fun r8 => cond r8 ((Fimpl_isFor k a0.Service).bind fun r9 => cond r9 ((Fimpl_isKey k a0.Key).bind fun r10 => cond r10 ((Fimpl_RestOk k (⟨a0.Rest.Servers, a0.Rest.Ops, a0.Rest.End⟩ : Timpl_Rest)).bind fun r11 => cond r11 ((Fimpl_TermOk k a0.Ticket).bind fun r12 => some r12) (some false)) (some false)) (some false)) (some false)) (some false)
theorem ent113 : MG.Enters Tryz.prog 113 := ⟨Tryz.f113, Tryz.func113, rfl, by decide⟩
set_option maxHeartbeats 8000000 in
set_option maxRecDepth 100000 in
theorem Fimpl_CredOk_gives (k : Nat) (a0 : Timpl_Cred) (r : Bool) (H : Fimpl_CredOk k a0 = some r) : Gives Tryz.prog 113 [V.agg [cI a0.Owner, cI a0.Client, cI a0.Service, cI a0.Key, cI a0.Rest.Servers, cI a0.Rest.Ops, cI a0.Rest.End, cS a0.Ticket]] [] [V.one (cL r)] [] := by
 refine Gives.intro Tryz.func113 rfl rfl rfl rfl ?_
 intro F hF hm
 unfold Fimpl_CredOk at H
 obtain ⟨K, hK⟩ : ∃ K, k ≤ K := ⟨k, Nat.le_refl k⟩
 refine WpC.seq (WpC.regionL ?_)
 refine L.box 8 hF rfl rfl rfl rfl ?_
 refine L.assign hF rfl rfl rfl (L.nil ?_)
 refine WpC.seq (WpC.regionL ?_)
 refine L.fieldAddr Tryz.underlying142 rfl info3 rfl hF rfl rfl rfl rfl rfl ?_
 refine L.loadPtr shape3 hF rfl rfl rfl rfl rfl rfl ?_
 obtain ⟨r7, hr7, H⟩ := bindS H
 refine L.call [false] [] [] 9 hF rfl rfl rfl ent190 rfl rfl rfl rfl rfl (Fimpl_isPrincipal_gives k  a0.Owner r7 hr7) rfl ?_
 refine L.move hF rfl rfl rfl ?_
 refine L.split (fun hc => ?_) (fun hc => ?_)
 ·replace H := condT hc H
  refine L.fieldAddr Tryz.underlying142 rfl info3 rfl hF rfl rfl rfl rfl rfl ?_
  refine L.loadPtr shape3 hF rfl rfl rfl rfl rfl rfl ?_
  obtain ⟨r8, hr8, H⟩ := bindS H
  refine L.call [false] [] [] 10 hF rfl rfl rfl ent190 rfl rfl rfl rfl rfl (Fimpl_isPrincipal_gives k  a0.Client r8 hr8) rfl ?_
  refine L.pick hF rfl rfl rfl rfl ?_
  refine L.move hF rfl rfl rfl ?_
  refine L.split (fun hc => ?_) (fun hc => ?_)
  ·replace H := condT hc H
   refine L.fieldAddr Tryz.underlying142 rfl info3 rfl hF rfl rfl rfl rfl rfl ?_
   refine L.loadPtr shape3 hF rfl rfl rfl rfl rfl rfl ?_
   obtain ⟨r9, hr9, H⟩ := bindS H
   refine L.call [false] [] [] 11 hF rfl rfl rfl ent191 rfl rfl rfl rfl rfl (Fimpl_isFor_gives k  a0.Service r9 hr9) rfl ?_
   refine L.pick hF rfl rfl rfl rfl ?_
   refine L.move hF rfl rfl rfl ?_
   refine L.split (fun hc => ?_) (fun hc => ?_)
   ·replace H := condT hc H
    refine L.fieldAddr Tryz.underlying142 rfl info3 rfl hF rfl rfl rfl rfl rfl ?_
    refine L.loadPtr shape3 hF rfl rfl rfl rfl rfl rfl ?_
    obtain ⟨r10, hr10, H⟩ := bindS H
    refine L.call [false] [] [] 12 hF rfl rfl rfl ent189 rfl rfl rfl rfl rfl (Fimpl_isKey_gives k  a0.Key r10 hr10) rfl ?_
    refine L.pick hF rfl rfl rfl rfl ?_
    refine L.move hF rfl rfl rfl ?_
    refine L.split (fun hc => ?_) (fun hc => ?_)
    ·replace H := condT hc H
     refine L.fieldAddr Tryz.underlying142 rfl info37 rfl hF rfl rfl rfl rfl rfl ?_
     refine L.loadPtr shape37 hF rfl rfl rfl rfl rfl rfl ?_
     obtain ⟨r11, hr11, H⟩ := bindS H
     refine L.call [false] [] [] 13 hF rfl rfl rfl ent163 rfl rfl rfl rfl rfl (Fimpl_RestOk_gives k  (⟨a0.Rest.Servers, a0.Rest.Ops, a0.Rest.End⟩ : Timpl_Rest) r11 hr11) rfl ?_
     refine L.pick hF rfl rfl rfl rfl ?_
     refine L.move hF rfl rfl rfl ?_
     refine L.split (fun hc => ?_) (fun hc => ?_)
     ·replace H := condT hc H
      refine L.fieldAddr Tryz.underlying142 rfl info9 rfl hF rfl rfl rfl rfl rfl ?_
      refine L.loadPtr shape9 hF rfl rfl rfl rfl rfl rfl ?_
      obtain ⟨r12, hr12, H⟩ := bindS H
      refine L.call [false] [] [] 14 hF rfl rfl rfl ent117 rfl rfl rfl rfl rfl (Fimpl_TermOk_gives k  a0.Ticket r12 hr12) rfl ?_
      refine L.pick hF rfl rfl rfl rfl ?_
      refine L.assign hF rfl rfl rfl (L.nil ?_)
      refine WpC.ret ?_
      cases H
      exact Leaves.ret rfl rfl rfl ⟨rfl, rfl⟩
     ·replace H := condF hc H
      refine L.off hF rfl rfl ?_
      refine L.off hF rfl rfl ?_
      refine L.off hF rfl rfl ?_
      refine L.pick hF rfl rfl rfl rfl ?_
      refine L.assign hF rfl rfl rfl (L.nil ?_)
      refine WpC.ret ?_
      cases H
      exact Leaves.ret rfl rfl rfl ⟨rfl, rfl⟩
    ·replace H := condF hc H
     refine L.off hF rfl rfl ?_
     refine L.off hF rfl rfl ?_
     refine L.off hF rfl rfl ?_
     refine L.pick hF rfl rfl rfl rfl ?_
     refine L.move hF rfl rfl rfl ?_
     refine L.off hF rfl rfl ?_
     refine L.off hF rfl rfl ?_
     refine L.off hF rfl rfl ?_
     refine L.pick hF rfl rfl rfl rfl ?_
     refine L.assign hF rfl rfl rfl (L.nil ?_)
     refine WpC.ret ?_
     cases H
     exact Leaves.ret rfl rfl rfl ⟨rfl, rfl⟩
   ·replace H := condF hc H
    refine L.off hF rfl rfl ?_
    refine L.off hF rfl rfl ?_
    refine L.off hF rfl rfl ?_
    refine L.pick hF rfl rfl rfl rfl ?_
    refine L.move hF rfl rfl rfl ?_
    refine L.off hF rfl rfl ?_
    refine L.off hF rfl rfl ?_
    refine L.off hF rfl rfl ?_
    refine L.pick hF rfl rfl rfl rfl ?_
    refine L.move hF rfl rfl rfl ?_
    refine L.off hF rfl rfl ?_
    refine L.off hF rfl rfl ?_
    refine L.off hF rfl rfl ?_
    refine L.pick hF rfl rfl rfl rfl ?_
    refine L.assign hF rfl rfl rfl (L.nil ?_)
    refine WpC.ret ?_
    cases H
    exact Leaves.ret rfl rfl rfl ⟨rfl, rfl⟩
  ·replace H := condF hc H
   refine L.off hF rfl rfl ?_
   refine L.off hF rfl rfl ?_
   refine L.off hF rfl rfl ?_
   refine L.pick hF rfl rfl rfl rfl ?_
   refine L.move hF rfl rfl rfl ?_
   refine L.off hF rfl rfl ?_
   refine L.off hF rfl rfl ?_
   refine L.off hF rfl rfl ?_
   refine L.pick hF rfl rfl rfl rfl ?_
   refine L.move hF rfl rfl rfl ?_
   refine L.off hF rfl rfl ?_
   refine L.off hF rfl rfl ?_
   refine L.off hF rfl rfl ?_
   refine L.pick hF rfl rfl rfl rfl ?_
   refine L.move hF rfl rfl rfl ?_
   refine L.off hF rfl rfl ?_
   refine L.off hF rfl rfl ?_
   refine L.off hF rfl rfl ?_
   refine L.pick hF rfl rfl rfl rfl ?_
   refine L.assign hF rfl rfl rfl (L.nil ?_)
   refine WpC.ret ?_
   cases H
   exact Leaves.ret rfl rfl rfl ⟨rfl, rfl⟩
 ·replace H := condF hc H
  refine L.off hF rfl rfl ?_
  refine L.off hF rfl rfl ?_
  refine L.off hF rfl rfl ?_
  refine L.pick hF rfl rfl rfl rfl ?_
  refine L.move hF rfl rfl rfl ?_
  refine L.off hF rfl rfl ?_
  refine L.off hF rfl rfl ?_
  refine L.off hF rfl rfl ?_
  refine L.pick hF rfl rfl rfl rfl ?_
  refine L.move hF rfl rfl rfl ?_
  refine L.off hF rfl rfl ?_
  refine L.off hF rfl rfl ?_
  refine L.off hF rfl rfl ?_
  refine L.pick hF rfl rfl rfl rfl ?_
  refine L.move hF rfl rfl rfl ?_
  refine L.off hF rfl rfl ?_
  refine L.off hF rfl rfl ?_
  refine L.off hF rfl rfl ?_
  refine L.pick hF rfl rfl rfl rfl ?_
  refine L.move hF rfl rfl rfl ?_
  refine L.off hF rfl rfl ?_
  refine L.off hF rfl rfl ?_
  refine L.off hF rfl rfl ?_
  refine L.pick hF rfl rfl rfl rfl ?_
  refine L.assign hF rfl rfl rfl (L.nil ?_)
  refine WpC.ret ?_
  cases H
  exact Leaves.ret rfl rfl rfl ⟨rfl, rfl⟩
/-! ### Fimpl_authOk -/
def Fimpl_authOk (k : Nat) (a0 : Timpl_Auth) : Option Bool := (Fimpl_isPrincipal k a0.Client).bind fun r4 => cond r4 ((Fimpl_isTime k a0.Time).bind fun r5 => cond r5 ((Fimpl_within k a0.Seq (0 : Int) (1000000 : Int)).bind fun r6 => some r6) (some false)) (some false)
theorem ent154 : MG.Enters Tryz.prog 154 := ⟨Tryz.f154, Tryz.func154, rfl, by decide⟩
set_option maxHeartbeats 8000000 in
set_option maxRecDepth 100000 in
theorem Fimpl_authOk_gives (k : Nat) (a0 : Timpl_Auth) (r : Bool) (H : Fimpl_authOk k a0 = some r) : Gives Tryz.prog 154 [V.agg [cI a0.Client, cI a0.Time, cI a0.Seq]] [] [V.one (cL r)] [] := by
 refine Gives.intro Tryz.func154 rfl rfl rfl rfl ?_
 intro F hF hm
 unfold Fimpl_authOk at H
 obtain ⟨K, hK⟩ : ∃ K, k ≤ K := ⟨k, Nat.le_refl k⟩
 refine WpC.seq (WpC.regionL ?_)
 refine L.box 3 hF rfl rfl rfl rfl ?_
 refine L.assign hF rfl rfl rfl (L.nil ?_)
 refine WpC.seq (WpC.regionL ?_)
 refine L.fieldAddr Tryz.underlying35 rfl info3 rfl hF rfl rfl rfl rfl rfl ?_
 refine L.loadPtr shape3 hF rfl rfl rfl rfl rfl rfl ?_
 obtain ⟨r4, hr4, H⟩ := bindS H
 refine L.call [false] [] [] 4 hF rfl rfl rfl ent190 rfl rfl rfl rfl rfl (Fimpl_isPrincipal_gives k  a0.Client r4 hr4) rfl ?_
 refine L.move hF rfl rfl rfl ?_
 refine L.split (fun hc => ?_) (fun hc => ?_)
 ·replace H := condT hc H
  refine L.fieldAddr Tryz.underlying35 rfl info3 rfl hF rfl rfl rfl rfl rfl ?_
  refine L.loadPtr shape3 hF rfl rfl rfl rfl rfl rfl ?_
  obtain ⟨r5, hr5, H⟩ := bindS H
  refine L.call [false] [] [] 5 hF rfl rfl rfl ent62 rfl rfl rfl rfl rfl (Fimpl_isTime_gives k  a0.Time r5 hr5) rfl ?_
  refine L.pick hF rfl rfl rfl rfl ?_
  refine L.move hF rfl rfl rfl ?_
  refine L.split (fun hc => ?_) (fun hc => ?_)
  ·replace H := condT hc H
   refine L.fieldAddr Tryz.underlying35 rfl info3 rfl hF rfl rfl rfl rfl rfl ?_
   refine L.loadPtr shape3 hF rfl rfl rfl rfl rfl rfl ?_
   obtain ⟨r6, hr6, H⟩ := bindS H
   refine L.call [false, false, false] [] [] 6 hF rfl rfl rfl ent118 rfl rfl rfl rfl rfl (Fimpl_within_gives k  a0.Seq (0 : Int) (1000000 : Int) r6 hr6) rfl ?_
   refine L.pick hF rfl rfl rfl rfl ?_
   refine L.assign hF rfl rfl rfl (L.nil ?_)
   refine WpC.ret ?_
   cases H
   exact Leaves.ret rfl rfl rfl ⟨rfl, rfl⟩
  ·replace H := condF hc H
   refine L.off hF rfl rfl ?_
   refine L.off hF rfl rfl ?_
   refine L.off hF rfl rfl ?_
   refine L.pick hF rfl rfl rfl rfl ?_
   refine L.assign hF rfl rfl rfl (L.nil ?_)
   refine WpC.ret ?_
   cases H
   exact Leaves.ret rfl rfl rfl ⟨rfl, rfl⟩
 ·replace H := condF hc H
  refine L.off hF rfl rfl ?_
  refine L.off hF rfl rfl ?_
  refine L.off hF rfl rfl ?_
  refine L.pick hF rfl rfl rfl rfl ?_
  refine L.move hF rfl rfl rfl ?_
  refine L.off hF rfl rfl ?_
  refine L.off hF rfl rfl ?_
  refine L.off hF rfl rfl ?_
  refine L.pick hF rfl rfl rfl rfl ?_
  refine L.assign hF rfl rfl rfl (L.nil ?_)
  refine WpC.ret ?_
  cases H
  exact Leaves.ret rfl rfl rfl ⟨rfl, rfl⟩
/-! ### Fslices_Index_Auth -/
def Fslices_Index_Auth.l2 : Nat → (List Timpl_Auth) → Int → Int → Timpl_Auth → Option Int
 | 0, _, _, _, _ => none
 | k2 + 1, v29, v30, v31, v32 => cond (decide (v31 < v30)) ((at? v29 v31).bind fun b34 => cond ((v32.Client == b34.Client) && ((v32.Time == b34.Time) && ((v32.Seq == b34.Seq) && true))) (some v31) ((Fslices_Index_Auth.l2 k2) v29 v30 (IntKind.i64.wrap (v31 + (1 : Int))) v32)) (some (-1 : Int))
def Fslices_Index_Auth (k : Nat) (a0 : List Timpl_Auth) (a1 : Timpl_Auth) : Option Int := Fslices_Index_Auth.l2 k a0 (a0.length : Int) (0 : Int) a1
theorem ent227 : MG.Enters Tryz.prog 227 := ⟨Tryz.f227, Tryz.func227, rfl, by decide⟩
set_option maxHeartbeats 8000000 in
set_option maxRecDepth 100000 in
theorem Fslices_Index_Auth_gives (k : Nat) (g0 : Bool) (a0 : List Timpl_Auth) (a1 : Timpl_Auth) (r : Int) (H : Fslices_Index_Auth k a0 a1 = some r) : Gives Tryz.prog 227 [V.one (Cell.sl g0 (List.map eTimpl_Auth a0)), V.agg [cI a1.Client, cI a1.Time, cI a1.Seq]] [] [V.one (cI r)] [] := by
 refine Gives.intro Tryz.func227 rfl rfl rfl rfl ?_
 intro F hF hm
 unfold Fslices_Index_Auth at H
 obtain ⟨K, hK⟩ : ∃ K, k ≤ K := ⟨k, Nat.le_refl k⟩
 refine WpC.seq (WpC.regionL ?_)
 refine L.box 4 hF rfl rfl rfl rfl ?_
 refine L.assign hF rfl rfl rfl (L.nil ?_)
 refine WpC.seq (WpC.seq (WpC.regionL ?_))
 refine L.move hF rfl rfl rfl ?_
 refine L.lenR (xs := a0) (e := eTimpl_Auth) Tryz.underlying31 hF rfl rfl rfl rfl ?_
 refine L.move hF rfl rfl rfl (L.nil ?_)
 refine WpC.block ?_
 refine WpC.loopL (P := Tryz.prog) (fun n σ => ∃ v29 : List Timpl_Auth, ∃ v30 : Int, ∃ v31 : Int, ∃ v32 : Timpl_Auth, n ≤ K ∧ Fslices_Index_Auth.l2 n v29 v30 v31 v32 = some r ∧ σ = mkSt [(0, one (Cell.sl g0 (List.map eTimpl_Auth v29))), (3, one (Cell.ptr 0 0)), (7, one (cI v30)), (8, one (cI v31))] [] [(0, (bTimpl_Auth v32))] 1) k ⟨_, ⟨a0, (a0.length : Int), (0 : Int), a1, by omega, H, rfl⟩, Le.mk [(0, 4)] hm rfl (Sa4 trivial) trivial (Ba1 trivial)⟩ ?_
 clear H
 rintro k2 _ ⟨v29, v30, v31, v32, hk2, H, rfl⟩
 cases k2 with
 | zero => cases H
 | succ k2 =>
  rw [Fslices_Index_Auth.l2] at H
  refine WpC.seq (WpC.regionL ?_)
  refine L.bin hF rfl rfl rfl rfl rfl rfl (L.nil ?_)
  refine WpC.seq ?_
  refine WpC.cond rfl (fun hc => ?_) (fun hc => ?_)
  ·replace H := condT hc H
   refine WpC.skip (WpC.seq (WpC.block (WpC.seq (WpC.regionL ?_))))
   refine L.move hF rfl rfl rfl ?_
   refine L.assign hF rfl rfl rfl (L.nil ?_)
   refine WpC.seq ?_
   refine S.begin mixed (by kernel_rfl) ?_
   refine S.st 0 rfl rfl (Qu.load) (fun Q0 k0 => L.loadPtr shape35 hF rfl rfl rfl rfl rfl rfl (L.nil k0)) ?_
   refine S.st 1 rfl rfl ((Ca.move).quiet) (fun Q0 k0 => L.move hF rfl rfl rfl (L.nil k0)) ?_
   refine S.st 2 rfl rfl ((Ca.move).quiet) (fun Q0 k0 => L.move hF rfl rfl rfl (L.nil k0)) ?_
   obtain ⟨b34, hb34, H⟩ := bindS H
   refine S.st 3 rfl rfl ((Ca.indexAddr).quiet) (fun Q0 k0 => L.idxR (xs := v29) (e := eTimpl_Auth) Tryz.underlying31 info35 hF rfl rfl rfl rfl rfl hb34 rfl rfl (L.nil k0)) ?_
   refine S.st 4 rfl rfl (Qu.load) (fun Q0 k0 => L.loadPe shape35 hF rfl rfl rfl rfl rfl (L.nil k0)) ?_
   refine S.st 5 rfl rfl ((Ca.eqA (r := ((v32.Client == b34.Client) && ((v32.Time == b34.Time) && ((v32.Seq == b34.Seq) && true)))) rfl rfl rfl rfl (by kernel_rfl) (by kernel_rfl)).quiet) (fun Q0 k0 => L.eqA (r := ((v32.Client == b34.Client) && ((v32.Time == b34.Time) && ((v32.Seq == b34.Seq) && true)))) hF rfl rfl rfl rfl rfl rfl (by kernel_rfl) (by kernel_rfl) (L.nil k0)) ?_
   refine S.nil ?_
   refine WpC.cond rfl (fun hc => ?_) (fun hc => ?_)
   ·replace H := condT hc H
    refine WpC.seq (WpC.regionL ?_)
    refine L.move hF rfl rfl rfl ?_
    refine L.assign hF rfl rfl rfl (L.nil ?_)
    refine WpC.ret ?_
    cases H
    exact Leaves.ret rfl rfl rfl ⟨rfl, rfl⟩
   ·replace H := condF hc H
    refine WpC.skip (WpC.regionL ?_)
    refine L.bin hF rfl rfl rfl rfl rfl rfl ?_
    refine L.move hF rfl rfl rfl (L.nil ?_)
    exact ⟨k2, _, by omega, ⟨v29, v30, (IntKind.i64.wrap (v31 + (1 : Int))), v32, by omega, H, rfl⟩, Le.mk [(0, 0)] hm rfl (Sa4 trivial) trivial (Ba1 trivial)⟩
  ·replace H := condF hc H
   refine WpC.exit (WpC.seq (WpC.regionL ?_))
   refine L.assign hF rfl rfl rfl (L.nil ?_)
   refine WpC.ret ?_
   cases H
   exact Leaves.ret rfl rfl rfl ⟨rfl, rfl⟩
/-! ### Fslices_Contains_Auth -/
def Fslices_Contains_Auth (k : Nat) (a0 : List Timpl_Auth) (a1 : Timpl_Auth) : Option Bool := (Fslices_Index_Auth k a0 a1).bind fun r1 => some (decide (r1 ≥ (0 : Int)))
theorem ent155 : MG.Enters Tryz.prog 155 := ⟨Tryz.f155, Tryz.func155, rfl, by decide⟩
set_option maxHeartbeats 8000000 in
set_option maxRecDepth 100000 in
theorem Fslices_Contains_Auth_gives (k : Nat) (g0 : Bool) (a0 : List Timpl_Auth) (a1 : Timpl_Auth) (r : Bool) (H : Fslices_Contains_Auth k a0 a1 = some r) : Gives Tryz.prog 155 [V.one (Cell.sl g0 (List.map eTimpl_Auth a0)), V.agg [cI a1.Client, cI a1.Time, cI a1.Seq]] [] [V.one (cL r)] [] := by
 refine Gives.intro Tryz.func155 rfl rfl rfl rfl ?_
 intro F hF hm
 unfold Fslices_Contains_Auth at H
 obtain ⟨K, hK⟩ : ∃ K, k ≤ K := ⟨k, Nat.le_refl k⟩
 refine WpC.seq (WpC.regionL ?_)
 refine L.box 4 hF rfl rfl rfl rfl ?_
 refine L.assign hF rfl rfl rfl (L.nil ?_)
 refine WpC.seq (WpC.regionL ?_)
 refine L.move hF rfl rfl rfl ?_
 refine L.loadPtr shape35 hF rfl rfl rfl rfl rfl rfl ?_
 obtain ⟨r1, hr1, H⟩ := bindS H
 refine L.call [false, false] [] [] 5 hF rfl rfl rfl ent227 rfl rfl rfl rfl rfl (Fslices_Index_Auth_gives k g0 a0 a1 r1 hr1) rfl ?_
 refine L.bin hF rfl rfl rfl rfl rfl rfl ?_
 refine L.assign hF rfl rfl rfl (L.nil ?_)
 refine WpC.ret ?_
 cases H
 exact Leaves.ret rfl rfl rfl ⟨rfl, rfl⟩
/-! ### Fimpl_CacheOk -/
def Fimpl_CacheOk.l2 : Nat → Timpl_Cache → Int → Int → Option Bool
 | 0, _, _, _ => none
 | k2 + 1, v84, v85, v86 => cond (decide (v86 < v85)) ((at? v84.Seen v86).bind fun b94 => (Fimpl_authOk k2 b94).bind fun r98 => cond (!r98) (some false) ((part? v84.Seen (0 : Int) v86).bind fun b100 => (Fslices_Contains_Auth k2 b100 b94).bind fun r101 => cond r101 (some false) ((Fimpl_CacheOk.l2 k2) v84 v85 (IntKind.i64.wrap (v86 + (1 : Int)))))) ((Fimpl_within k2 v84.Quiet (-1 : Int) (200000 : Int)).bind fun r103 => cond r103 (some (decide ((v84.Seen.length : Int) ≤ (6 : Int)))) (some false))
def Fimpl_CacheOk (k : Nat) (a0 : Timpl_Cache) : Option Bool := Fimpl_CacheOk.l2 k a0 (a0.Seen.length : Int) (0 : Int)
theorem ent59 : MG.Enters Tryz.prog 59 := ⟨Tryz.f59, Tryz.func59, rfl, by decide⟩
set_option maxHeartbeats 8000000 in
set_option maxRecDepth 100000 in
theorem Fimpl_CacheOk_gives (k : Nat) (g0 : Bool) (a0 : Timpl_Cache) (r : Bool) (H : Fimpl_CacheOk k a0 = some r) : Gives Tryz.prog 59 [V.agg [cI a0.Quiet, Cell.sl g0 (List.map eTimpl_Auth a0.Seen)]] [] [V.one (cL r)] [] := by
 refine Gives.intro Tryz.func59 rfl rfl rfl rfl ?_
 intro F hF hm
 unfold Fimpl_CacheOk at H
 obtain ⟨K, hK⟩ : ∃ K, k ≤ K := ⟨k, Nat.le_refl k⟩
 refine WpC.seq (WpC.regionL ?_)
 refine L.box 2 hF rfl rfl rfl rfl ?_
 refine L.assign hF rfl rfl rfl (L.nil ?_)
 refine WpC.seq (WpC.seq (WpC.regionL ?_))
 refine L.fieldAddr Tryz.underlying33 rfl info31 rfl hF rfl rfl rfl rfl rfl ?_
 refine L.loadPtr shape31 hF rfl rfl rfl rfl rfl rfl ?_
 refine L.lenR (xs := a0.Seen) (e := eTimpl_Auth) Tryz.underlying31 hF rfl rfl rfl rfl ?_
 refine L.move hF rfl rfl rfl (L.nil ?_)
 refine WpC.block ?_
 refine WpC.loopL (P := Tryz.prog) (fun n σ => ∃ v84 : Timpl_Cache, ∃ v85 : Int, ∃ v86 : Int, n ≤ K ∧ Fimpl_CacheOk.l2 n v84 v85 v86 = some r ∧ σ = mkSt [(1, one (Cell.ptr 0 0)), (6, one (Cell.sl g0 (List.map eTimpl_Auth v84.Seen))), (7, one (cI v85)), (8, one (cI v86))] [] [(0, [cI v84.Quiet, Cell.sl g0 (List.map eTimpl_Auth v84.Seen)])] 1) k ⟨_, ⟨a0, (a0.Seen.length : Int), (0 : Int), by omega, H, rfl⟩, Le.mk [(0, 2)] hm rfl (Sa4 trivial) trivial (Ba1 trivial)⟩ ?_
 clear H
 rintro k2 _ ⟨v84, v85, v86, hk2, H, rfl⟩
 cases k2 with
 | zero => cases H
 | succ k2 =>
  rw [Fimpl_CacheOk.l2] at H
  refine WpC.seq (WpC.regionL ?_)
  refine L.bin hF rfl rfl rfl rfl rfl rfl (L.nil ?_)
  refine WpC.seq ?_
  refine WpC.cond rfl (fun hc => ?_) (fun hc => ?_)
  ·replace H := condT hc H
   refine WpC.skip (WpC.seq (WpC.block (WpC.seq (WpC.regionL ?_))))
   refine L.move hF rfl rfl rfl ?_
   obtain ⟨b94, hb94, H⟩ := bindS H
   refine L.idxR (xs := v84.Seen) (e := eTimpl_Auth) Tryz.underlying31 info35 hF rfl rfl rfl rfl rfl hb94 rfl rfl ?_
   refine L.loadPe shape35 hF rfl rfl rfl rfl rfl ?_
   refine L.alloc 1 info35 rfl hF rfl rfl rfl rfl ?_
   refine L.assign hF rfl rfl rfl ?_
   refine L.storePtr shape35 hF rfl rfl rfl rfl rfl rfl rfl (L.nil ?_)
   refine WpC.seq ?_
   obtain ⟨r98, hr98, H⟩ := bindS H
   rcases Bool.eq_false_or_eq_true ((!r98)) with hc99 | hc99
   ·replace H := condT hc99 H
    refine A.begin mixed rfl rfl ?_
    intro W hI hO
    refine hI _ _ _ ?_
    refine A.all [0] (by kernel_rfl) rfl ⟨⟨_, rfl, ?_⟩, trivial⟩
    refine L.loadPtr shape35 hF rfl rfl rfl rfl rfl rfl (L.nil ?_)
    refine A.all [1] (by kernel_rfl) rfl ⟨⟨_, rfl, ?_⟩, trivial⟩
    refine L.call [false] [] [] 2 hF rfl rfl rfl ent154 rfl rfl rfl rfl rfl (Fimpl_authOk_gives k2  b94 r98 hr98) rfl (L.nil ?_)
    refine Atk 2 rfl (Ca.un rfl rfl) (fun Q0 k0 => L.not hF rfl rfl rfl (L.nil k0)) ?_
    refine Atk 3 rfl (Ca.move) (fun Q0 k0 => L.move hF rfl rfl rfl (L.nil k0)) ?_
    refine A.le (τ := mkSt [(1, one (Cell.ptr 0 0)), (3, one (cI v86)), (4, one (Cell.ptr 1 0)), (6, one (Cell.sl g0 (List.map eTimpl_Auth v84.Seen))), (7, one (cI v85)), (8, one (cI v86)), (16, one (cL true))] [] [(0, [cI v84.Quiet, Cell.sl g0 (List.map eTimpl_Auth v84.Seen)]), (1, (bTimpl_Auth b94))] 2) (Le.mk [(0, 0), (1, 1)] hm rfl (Sa4 (Sa2 (Sa1 trivial rfl (congrArg (fun b => some (one (cL b))) hc99)))) trivial (Ba2 trivial)) ?_
    refine Aof 4 rfl hF ?_
    refine Aof 5 rfl hF ?_
    refine Aof 6 rfl hF ?_
    refine Aof 7 rfl hF ?_
    refine Aof 8 rfl hF ?_
    refine A.all [9] (by kernel_rfl) rfl ⟨⟨_, rfl, ?_⟩, trivial⟩
    refine L.off hF rfl rfl (L.nil ?_)
    refine Atk 10 rfl (Ca.pick) (fun Q0 k0 => L.pick hF rfl rfl rfl rfl (L.nil k0)) ?_
    refine A.le (τ := mkSt [(1, one (Cell.ptr 0 0)), (6, one (Cell.sl g0 (List.map eTimpl_Auth v84.Seen))), (7, one (cI v85)), (8, one (cI v86)), (23, one (cL true))] [] [(0, [cI v84.Quiet, Cell.sl g0 (List.map eTimpl_Auth v84.Seen)])] 1) (Le.mk [(0, 0)] hm rfl (Sa4 (Sa1 trivial)) trivial (Ba1 trivial)) ?_
    refine A.done (by kernel_rfl) ?_
    refine WpC.cond rfl (fun _ => ?_) (fun hc => by cases hc)
    refine WpC.seq (WpC.regionL ?_)
    refine L.assign hF rfl rfl rfl (L.nil ?_)
    refine WpC.ret ?_
    cases H
    exact Leaves.ret rfl rfl rfl ⟨rfl, rfl⟩
   ·replace H := condF hc99 H
    obtain ⟨b100, hb100, H⟩ := bindS H
    obtain ⟨r101, hr101, H⟩ := bindS H
    refine A.begin mixed rfl rfl ?_
    intro W hI hO
    have n511 : W 2 #[true, true, true, true, true, true, true, true, true, false, false] (mkSt [(1, one (Cell.ptr 0 0)), (6, one (Cell.sl g0 (List.map eTimpl_Auth v84.Seen))), (7, one (cI v85)), (8, one (cI v86)), (16, one (cL false)), (20, one (Cell.sl g0 (List.map eTimpl_Auth b100))), (21, agg (bTimpl_Auth b94))] [] [(0, [cI v84.Quiet, Cell.sl g0 (List.map eTimpl_Auth v84.Seen)])] 1) := by
     refine hI _ _ _ ?_
     refine A.all [9] (by kernel_rfl) rfl ⟨⟨_, rfl, ?_⟩, trivial⟩
     refine L.call [false, false] [] [] 1 hF rfl rfl rfl ent155 rfl rfl rfl rfl rfl (Fslices_Contains_Auth_gives k2 g0 b100 b94 r101 hr101) rfl (L.nil ?_)
     refine Atk 10 rfl (Ca.pick) (fun Q0 k0 => L.pick hF rfl rfl rfl rfl (L.nil k0)) ?_
     refine A.le (τ := mkSt [(1, one (Cell.ptr 0 0)), (6, one (Cell.sl g0 (List.map eTimpl_Auth v84.Seen))), (7, one (cI v85)), (8, one (cI v86)), (23, one (cL r101))] [] [(0, [cI v84.Quiet, Cell.sl g0 (List.map eTimpl_Auth v84.Seen)])] 1) (Le.mk [(0, 0)] hm rfl (Sa4 (Sa1 trivial)) trivial (Ba1 trivial)) ?_
     refine A.done (by kernel_rfl) ?_
     refine WpC.cond rfl (fun hc => ?_) (fun hc => ?_)
     ·replace H := condT hc H
      refine WpC.seq (WpC.regionL ?_)
      refine L.assign hF rfl rfl rfl (L.nil ?_)
      refine WpC.ret ?_
      cases H
      exact Leaves.ret rfl rfl rfl ⟨rfl, rfl⟩
     ·replace H := condF hc H
      refine WpC.skip (WpC.regionL ?_)
      refine L.bin hF rfl rfl rfl rfl rfl rfl ?_
      refine L.move hF rfl rfl rfl (L.nil ?_)
      exact ⟨k2, _, by omega, ⟨v84, v85, (IntKind.i64.wrap (v86 + (1 : Int))), by omega, H, rfl⟩, Le.mk [(0, 0)] hm rfl (Sa4 trivial) trivial (Ba1 trivial)⟩
    refine hI _ _ _ ?_
    refine A.all [0] (by kernel_rfl) rfl ⟨⟨_, rfl, ?_⟩, trivial⟩
    refine L.loadPtr shape35 hF rfl rfl rfl rfl rfl rfl (L.nil ?_)
    refine A.all [1] (by kernel_rfl) rfl ⟨⟨_, rfl, ?_⟩, trivial⟩
    refine L.call [false] [] [] 2 hF rfl rfl rfl ent154 rfl rfl rfl rfl rfl (Fimpl_authOk_gives k2  b94 r98 hr98) rfl (L.nil ?_)
    refine Atk 2 rfl (Ca.un rfl rfl) (fun Q0 k0 => L.not hF rfl rfl rfl (L.nil k0)) ?_
    refine Atk 3 rfl (Ca.move) (fun Q0 k0 => L.move hF rfl rfl rfl (L.nil k0)) ?_
    refine A.le (τ := mkSt [(1, one (Cell.ptr 0 0)), (3, one (cI v86)), (4, one (Cell.ptr 1 0)), (6, one (Cell.sl g0 (List.map eTimpl_Auth v84.Seen))), (7, one (cI v85)), (8, one (cI v86)), (16, one (cL false))] [] [(0, [cI v84.Quiet, Cell.sl g0 (List.map eTimpl_Auth v84.Seen)]), (1, (bTimpl_Auth b94))] 2) (Le.mk [(0, 0), (1, 1)] hm rfl (Sa4 (Sa2 (Sa1 trivial rfl (congrArg (fun b => some (one (cL b))) hc99)))) trivial (Ba2 trivial)) ?_
    refine Atk 4 rfl (Ca.fieldAddr Tryz.underlying33 rfl info31 rfl) (fun Q0 k0 => L.fieldAddr Tryz.underlying33 rfl info31 rfl hF rfl rfl rfl rfl rfl (L.nil k0)) ?_
    refine Atk 6 rfl (Ca.move) (fun Q0 k0 => L.move hF rfl rfl rfl (L.nil k0)) ?_
    refine A.all [5, 8] (by kernel_rfl) rfl ⟨⟨_, rfl, ?_⟩, ⟨_, rfl, ?_⟩, trivial⟩
    ·refine L.loadPtr shape31 hF rfl rfl rfl rfl rfl rfl (L.nil ?_)
     refine Atk 7 rfl (Ca.slice) (fun Q0 k0 => L.cutR (xs := v84.Seen) (ys := b100) (e := eTimpl_Auth) Tryz.underlying31 info35 hF rfl rfl rfl rfl rfl hb100 (fun _ => rfl) (L.nil k0)) ?_
     refine A.all [8] (by kernel_rfl) rfl ⟨⟨_, rfl, ?_⟩, trivial⟩
     refine L.loadPtr shape35 hF rfl rfl rfl rfl rfl rfl (L.nil ?_)
     exact A.on (hO _ _ _ n511) (Le.mk [(0, 0)] hm rfl (Sa4 (Sa2 (Sa1 trivial))) trivial (Ba1 trivial))
    ·refine L.loadPtr shape35 hF rfl rfl rfl rfl rfl rfl (L.nil ?_)
     refine A.all [5] (by kernel_rfl) rfl ⟨⟨_, rfl, ?_⟩, trivial⟩
     refine L.loadPtr shape31 hF rfl rfl rfl rfl rfl rfl (L.nil ?_)
     refine Atk 7 rfl (Ca.slice) (fun Q0 k0 => L.cutR (xs := v84.Seen) (ys := b100) (e := eTimpl_Auth) Tryz.underlying31 info35 hF rfl rfl rfl rfl rfl hb100 (fun _ => rfl) (L.nil k0)) ?_
     exact A.on (hO _ _ _ n511) (Le.mk [(0, 0)] hm rfl (Sa4 (Sa2 (Sa1 trivial))) trivial (Ba1 trivial))
  ·replace H := condF hc H
   refine WpC.exit (WpC.seq (WpC.regionL ?_))
   refine L.fieldAddr Tryz.underlying33 rfl info3 rfl hF rfl rfl rfl rfl rfl ?_
   refine L.loadPtr shape3 hF rfl rfl rfl rfl rfl rfl ?_
   obtain ⟨r103, hr103, H⟩ := bindS H
   refine L.call [false, false, false] [] [] 1 hF rfl rfl rfl ent118 rfl rfl rfl rfl rfl (Fimpl_within_gives k2  v84.Quiet (-1 : Int) (200000 : Int) r103 hr103) rfl ?_
   refine L.move hF rfl rfl rfl ?_
   refine L.split (fun hc => ?_) (fun hc => ?_)
   ·replace H := condT hc H
    refine L.fieldAddr Tryz.underlying33 rfl info31 rfl hF rfl rfl rfl rfl rfl ?_
    refine L.loadPtr shape31 hF rfl rfl rfl rfl rfl rfl ?_
    refine L.lenR (xs := v84.Seen) (e := eTimpl_Auth) Tryz.underlying31 hF rfl rfl rfl rfl ?_
    refine L.bin hF rfl rfl rfl rfl rfl rfl ?_
    refine L.pick hF rfl rfl rfl rfl ?_
    refine L.assign hF rfl rfl rfl (L.nil ?_)
    refine WpC.ret ?_
    cases H
    exact Leaves.ret rfl rfl rfl ⟨rfl, rfl⟩
   ·replace H := condF hc H
    refine L.off hF rfl rfl ?_
    refine L.off hF rfl rfl ?_
    refine L.off hF rfl rfl ?_
    refine L.off hF rfl rfl ?_
    refine L.pick hF rfl rfl rfl rfl ?_
    refine L.assign hF rfl rfl rfl (L.nil ?_)
    refine WpC.ret ?_
    cases H
    exact Leaves.ret rfl rfl rfl ⟨rfl, rfl⟩
/-! ### Fimpl_areAll__impl_isRealm -/
def Fimpl_areAll__impl_isRealm.l2 : Nat → (List Int) → Int → Int → Int → Option Bool
 | 0, _, _, _, _ => none
 | k2 + 1, v39, v40, v41, v42 => cond (decide (v42 < v41)) ((at? v39 v42).bind fun b45 => (Fimpl_isRealm k2 b45).bind fun r46 => cond (!r46) (some false) ((Fimpl_areAll__impl_isRealm.l2 k2) v39 v40 v41 (IntKind.i64.wrap (v42 + (1 : Int))))) (some (decide ((v39.length : Int) ≤ v40)))
def Fimpl_areAll__impl_isRealm (k : Nat) (a0 : List Int) (a1 : Int) : Option Bool := Fimpl_areAll__impl_isRealm.l2 k a0 a1 (a0.length : Int) (0 : Int)
theorem ent159 : MG.Enters Tryz.prog 159 := ⟨Tryz.f159, Tryz.func159, rfl, by decide⟩
set_option maxHeartbeats 8000000 in
set_option maxRecDepth 100000 in
theorem Fimpl_areAll__impl_isRealm_gives (k : Nat) (g0 : Bool) (a0 : List Int) (a1 : Int) (r : Bool) (H : Fimpl_areAll__impl_isRealm k a0 a1 = some r) : Gives Tryz.prog 159 [V.one (Cell.sl g0 (List.map eI a0)), V.one (cI a1), V.one (Cell.clo 135 [])] [] [V.one (cL r)] [] := by
 refine Gives.intro Tryz.func159 rfl rfl rfl rfl ?_
 intro F hF hm
 unfold Fimpl_areAll__impl_isRealm at H
 obtain ⟨K, hK⟩ : ∃ K, k ≤ K := ⟨k, Nat.le_refl k⟩
 refine WpC.seq (WpC.regionL ?_)
 refine L.assign hF rfl rfl rfl (L.nil ?_)
 refine WpC.seq (WpC.seq (WpC.regionL ?_))
 refine L.move hF rfl rfl rfl ?_
 refine L.lenR (xs := a0) (e := eI) Tryz.underlying22 hF rfl rfl rfl rfl ?_
 refine L.move hF rfl rfl rfl (L.nil ?_)
 refine WpC.block ?_
 refine WpC.loopL (P := Tryz.prog) (fun n σ => ∃ v39 : List Int, ∃ v40 : Int, ∃ v41 : Int, ∃ v42 : Int, n ≤ K ∧ Fimpl_areAll__impl_isRealm.l2 n v39 v40 v41 v42 = some r ∧ σ = mkSt [(0, one (Cell.sl g0 (List.map eI v39))), (1, one (cI v40)), (2, one (Cell.clo 135 [])), (9, one (Cell.sl g0 (List.map eI v39))), (10, one (cI v41)), (11, one (cI v42))] [] [] 0) k ⟨_, ⟨a0, a1, (a0.length : Int), (0 : Int), by omega, H, rfl⟩, Le.mk [] hm rfl (Sa4 (Sa2 trivial)) trivial trivial⟩ ?_
 clear H
 rintro k2 _ ⟨v39, v40, v41, v42, hk2, H, rfl⟩
 cases k2 with
 | zero => cases H
 | succ k2 =>
  rw [Fimpl_areAll__impl_isRealm.l2] at H
  refine WpC.seq (WpC.regionL ?_)
  refine L.bin hF rfl rfl rfl rfl rfl rfl (L.nil ?_)
  refine WpC.seq ?_
  refine WpC.cond rfl (fun hc => ?_) (fun hc => ?_)
  ·replace H := condT hc H
   refine WpC.skip (WpC.seq (WpC.block (WpC.seq (WpC.regionL ?_))))
   obtain ⟨b45, hb45, H⟩ := bindS H
   refine L.idxR (xs := v39) (e := eI) Tryz.underlying22 info3 hF rfl rfl rfl rfl rfl hb45 rfl rfl ?_
   refine L.loadPe shape3 hF rfl rfl rfl rfl rfl ?_
   refine L.assign hF rfl rfl rfl (L.nil ?_)
   refine WpC.seq (WpC.regionL ?_)
   refine L.move hF rfl rfl rfl ?_
   refine L.move hF rfl rfl rfl ?_
   obtain ⟨r46, hr46, H⟩ := bindS H
   refine L.call [false] [] [] 0 hF rfl rfl rfl ent135 rfl rfl rfl rfl rfl (Fimpl_isRealm_gives k2  b45 r46 hr46) rfl ?_
   refine L.not hF rfl rfl rfl (L.nil ?_)
   refine WpC.cond rfl (fun hc => ?_) (fun hc => ?_)
   ·replace H := condT hc H
    refine WpC.seq (WpC.regionL ?_)
    refine L.assign hF rfl rfl rfl (L.nil ?_)
    refine WpC.ret ?_
    cases H
    exact Leaves.ret rfl rfl rfl ⟨rfl, rfl⟩
   ·replace H := condF hc H
    refine WpC.skip (WpC.regionL ?_)
    refine L.bin hF rfl rfl rfl rfl rfl rfl ?_
    refine L.move hF rfl rfl rfl (L.nil ?_)
    exact ⟨k2, _, by omega, ⟨v39, v40, v41, (IntKind.i64.wrap (v42 + (1 : Int))), by omega, H, rfl⟩, Le.mk [] hm rfl (Sa4 (Sa2 trivial)) trivial trivial⟩
  ·replace H := condF hc H
   refine WpC.exit (WpC.seq (WpC.regionL ?_))
   refine L.move hF rfl rfl rfl ?_
   refine L.lenR (xs := v39) (e := eI) Tryz.underlying22 hF rfl rfl rfl rfl ?_
   refine L.move hF rfl rfl rfl ?_
   refine L.bin hF rfl rfl rfl rfl rfl rfl ?_
   refine L.assign hF rfl rfl rfl (L.nil ?_)
   refine WpC.ret ?_
   cases H
   exact Leaves.ret rfl rfl rfl ⟨rfl, rfl⟩
/-! ### Fimpl_areAll__impl_isService -/
def Fimpl_areAll__impl_isService.l2 : Nat → (List Int) → Int → Int → Int → Option Bool
 | 0, _, _, _, _ => none
 | k2 + 1, v39, v40, v41, v42 => cond (decide (v42 < v41)) ((at? v39 v42).bind fun b45 => (Fimpl_isService k2 b45).bind fun r46 => cond (!r46) (some false) ((Fimpl_areAll__impl_isService.l2 k2) v39 v40 v41 (IntKind.i64.wrap (v42 + (1 : Int))))) (some (decide ((v39.length : Int) ≤ v40)))
def Fimpl_areAll__impl_isService (k : Nat) (a0 : List Int) (a1 : Int) : Option Bool := Fimpl_areAll__impl_isService.l2 k a0 a1 (a0.length : Int) (0 : Int)
set_option maxHeartbeats 8000000 in
set_option maxRecDepth 100000 in
theorem Fimpl_areAll__impl_isService_gives (k : Nat) (g0 : Bool) (a0 : List Int) (a1 : Int) (r : Bool) (H : Fimpl_areAll__impl_isService k a0 a1 = some r) : Gives Tryz.prog 159 [V.one (Cell.sl g0 (List.map eI a0)), V.one (cI a1), V.one (Cell.clo 61 [])] [] [V.one (cL r)] [] := by
 refine Gives.intro Tryz.func159 rfl rfl rfl rfl ?_
 intro F hF hm
 unfold Fimpl_areAll__impl_isService at H
 obtain ⟨K, hK⟩ : ∃ K, k ≤ K := ⟨k, Nat.le_refl k⟩
 refine WpC.seq (WpC.regionL ?_)
 refine L.assign hF rfl rfl rfl (L.nil ?_)
 refine WpC.seq (WpC.seq (WpC.regionL ?_))
 refine L.move hF rfl rfl rfl ?_
 refine L.lenR (xs := a0) (e := eI) Tryz.underlying22 hF rfl rfl rfl rfl ?_
 refine L.move hF rfl rfl rfl (L.nil ?_)
 refine WpC.block ?_
 refine WpC.loopL (P := Tryz.prog) (fun n σ => ∃ v39 : List Int, ∃ v40 : Int, ∃ v41 : Int, ∃ v42 : Int, n ≤ K ∧ Fimpl_areAll__impl_isService.l2 n v39 v40 v41 v42 = some r ∧ σ = mkSt [(0, one (Cell.sl g0 (List.map eI v39))), (1, one (cI v40)), (2, one (Cell.clo 61 [])), (9, one (Cell.sl g0 (List.map eI v39))), (10, one (cI v41)), (11, one (cI v42))] [] [] 0) k ⟨_, ⟨a0, a1, (a0.length : Int), (0 : Int), by omega, H, rfl⟩, Le.mk [] hm rfl (Sa4 (Sa2 trivial)) trivial trivial⟩ ?_
 clear H
 rintro k2 _ ⟨v39, v40, v41, v42, hk2, H, rfl⟩
 cases k2 with
 | zero => cases H
 | succ k2 =>
  rw [Fimpl_areAll__impl_isService.l2] at H
  refine WpC.seq (WpC.regionL ?_)
  refine L.bin hF rfl rfl rfl rfl rfl rfl (L.nil ?_)
  refine WpC.seq ?_
  refine WpC.cond rfl (fun hc => ?_) (fun hc => ?_)
  ·replace H := condT hc H
   refine WpC.skip (WpC.seq (WpC.block (WpC.seq (WpC.regionL ?_))))
   obtain ⟨b45, hb45, H⟩ := bindS H
   refine L.idxR (xs := v39) (e := eI) Tryz.underlying22 info3 hF rfl rfl rfl rfl rfl hb45 rfl rfl ?_
   refine L.loadPe shape3 hF rfl rfl rfl rfl rfl ?_
   refine L.assign hF rfl rfl rfl (L.nil ?_)
   refine WpC.seq (WpC.regionL ?_)
   refine L.move hF rfl rfl rfl ?_
   refine L.move hF rfl rfl rfl ?_
   obtain ⟨r46, hr46, H⟩ := bindS H
   refine L.call [false] [] [] 0 hF rfl rfl rfl ent61 rfl rfl rfl rfl rfl (Fimpl_isService_gives k2  b45 r46 hr46) rfl ?_
   refine L.not hF rfl rfl rfl (L.nil ?_)
   refine WpC.cond rfl (fun hc => ?_) (fun hc => ?_)
   ·replace H := condT hc H
    refine WpC.seq (WpC.regionL ?_)
    refine L.assign hF rfl rfl rfl (L.nil ?_)
    refine WpC.ret ?_
    cases H
    exact Leaves.ret rfl rfl rfl ⟨rfl, rfl⟩
   ·replace H := condF hc H
    refine WpC.skip (WpC.regionL ?_)
    refine L.bin hF rfl rfl rfl rfl rfl rfl ?_
    refine L.move hF rfl rfl rfl (L.nil ?_)
    exact ⟨k2, _, by omega, ⟨v39, v40, v41, (IntKind.i64.wrap (v42 + (1 : Int))), by omega, H, rfl⟩, Le.mk [] hm rfl (Sa4 (Sa2 trivial)) trivial trivial⟩
  ·replace H := condF hc H
   refine WpC.exit (WpC.seq (WpC.regionL ?_))
   refine L.move hF rfl rfl rfl ?_
   refine L.lenR (xs := v39) (e := eI) Tryz.underlying22 hF rfl rfl rfl rfl ?_
   refine L.move hF rfl rfl rfl ?_
   refine L.bin hF rfl rfl rfl rfl rfl rfl ?_
   refine L.assign hF rfl rfl rfl (L.nil ?_)
   refine WpC.ret ?_
   cases H
   exact Leaves.ret rfl rfl rfl ⟨rfl, rfl⟩
/-! ### Fimpl_acceptOk -/
def Fimpl_acceptOk (k : Nat) (a0 : Timpl_Accept) (a1 : Int) : Option Bool := (Fimpl_isService k a0.Server).bind fun r6 => cond r6 ((Fimpl_isPrincipal k a0.Client).bind fun r7 => cond r7 ((Fimpl_within k a0.Leaks (0 : Int) a1).bind fun r8 => cond r8 ((Fimpl_areAll__impl_isRealm k a0.Path (6 : Int)).bind fun r9 => cond r9 ((Fimpl_areAll__impl_isService k a0.Via (4 : Int)).bind fun r10 => some r10) (some false)) (some false)) (some false)) (some false)
theorem ent114 : MG.Enters Tryz.prog 114 := ⟨Tryz.f114, Tryz.func114, rfl, by decide⟩
set_option maxHeartbeats 8000000 in
set_option maxRecDepth 100000 in
theorem Fimpl_acceptOk_gives (k : Nat) (g0 : Bool) (g1 : Bool) (a0 : Timpl_Accept) (a1 : Int) (r : Bool) (H : Fimpl_acceptOk k a0 a1 = some r) : Gives Tryz.prog 114 [V.agg [cI a0.Server, cI a0.Client, cI a0.Key, cI a0.Op, cI a0.Now, cI a0.Auth.Client, cI a0.Auth.Time, cI a0.Auth.Seq, cI a0.Rest.Servers, cI a0.Rest.Ops, cI a0.Rest.End, Cell.sl g0 (List.map eI a0.Path), Cell.sl g1 (List.map eI a0.Via), cI a0.Leaks, cS a0.Ticket], V.one (cI a1)] [] [V.one (cL r)] [] := by
 refine Gives.intro Tryz.func114 rfl rfl rfl rfl ?_
 intro F hF hm
 unfold Fimpl_acceptOk at H
 obtain ⟨K, hK⟩ : ∃ K, k ≤ K := ⟨k, Nat.le_refl k⟩
 refine WpC.seq (WpC.regionL ?_)
 refine L.box 16 hF rfl rfl rfl rfl ?_
 refine L.assign hF rfl rfl rfl (L.nil ?_)
 refine WpC.seq (WpC.regionL ?_)
 refine L.fieldAddr Tryz.underlying39 rfl info3 rfl hF rfl rfl rfl rfl rfl ?_
 refine L.loadPtr shape3 hF rfl rfl rfl rfl rfl rfl ?_
 obtain ⟨r6, hr6, H⟩ := bindS H
 refine L.call [false] [] [] 17 hF rfl rfl rfl ent61 rfl rfl rfl rfl rfl (Fimpl_isService_gives k  a0.Server r6 hr6) rfl ?_
 refine L.move hF rfl rfl rfl ?_
 refine L.split (fun hc => ?_) (fun hc => ?_)
 ·replace H := condT hc H
  refine L.fieldAddr Tryz.underlying39 rfl info3 rfl hF rfl rfl rfl rfl rfl ?_
  refine L.loadPtr shape3 hF rfl rfl rfl rfl rfl rfl ?_
  obtain ⟨r7, hr7, H⟩ := bindS H
  refine L.call [false] [] [] 18 hF rfl rfl rfl ent190 rfl rfl rfl rfl rfl (Fimpl_isPrincipal_gives k  a0.Client r7 hr7) rfl ?_
  refine L.pick hF rfl rfl rfl rfl ?_
  refine L.move hF rfl rfl rfl ?_
  refine L.split (fun hc => ?_) (fun hc => ?_)
  ·replace H := condT hc H
   refine L.fieldAddr Tryz.underlying39 rfl info3 rfl hF rfl rfl rfl rfl rfl ?_
   refine L.loadPtr shape3 hF rfl rfl rfl rfl rfl rfl ?_
   refine L.move hF rfl rfl rfl ?_
   obtain ⟨r8, hr8, H⟩ := bindS H
   refine L.call [false, false, false] [] [] 19 hF rfl rfl rfl ent118 rfl rfl rfl rfl rfl (Fimpl_within_gives k  a0.Leaks (0 : Int) a1 r8 hr8) rfl ?_
   refine L.pick hF rfl rfl rfl rfl ?_
   refine L.move hF rfl rfl rfl ?_
   refine L.split (fun hc => ?_) (fun hc => ?_)
   ·replace H := condT hc H
    refine L.fieldAddr Tryz.underlying39 rfl info22 rfl hF rfl rfl rfl rfl rfl ?_
    refine L.loadPtr shape22 hF rfl rfl rfl rfl rfl rfl ?_
    obtain ⟨r9, hr9, H⟩ := bindS H
    refine L.call [false, false, false] [] [] 20 hF rfl rfl rfl ent159 rfl rfl rfl rfl rfl (Fimpl_areAll__impl_isRealm_gives k g0 a0.Path (6 : Int) r9 hr9) rfl ?_
    refine L.pick hF rfl rfl rfl rfl ?_
    refine L.move hF rfl rfl rfl ?_
    refine L.split (fun hc => ?_) (fun hc => ?_)
    ·replace H := condT hc H
     refine L.fieldAddr Tryz.underlying39 rfl info22 rfl hF rfl rfl rfl rfl rfl ?_
     refine L.loadPtr shape22 hF rfl rfl rfl rfl rfl rfl ?_
     obtain ⟨r10, hr10, H⟩ := bindS H
     refine L.call [false, false, false] [] [] 21 hF rfl rfl rfl ent159 rfl rfl rfl rfl rfl (Fimpl_areAll__impl_isService_gives k g1 a0.Via (4 : Int) r10 hr10) rfl ?_
     refine L.pick hF rfl rfl rfl rfl ?_
     refine L.assign hF rfl rfl rfl (L.nil ?_)
     refine WpC.ret ?_
     cases H
     exact Leaves.ret rfl rfl rfl ⟨rfl, rfl⟩
    ·replace H := condF hc H
     refine L.off hF rfl rfl ?_
     refine L.off hF rfl rfl ?_
     refine L.off hF rfl rfl ?_
     refine L.pick hF rfl rfl rfl rfl ?_
     refine L.assign hF rfl rfl rfl (L.nil ?_)
     refine WpC.ret ?_
     cases H
     exact Leaves.ret rfl rfl rfl ⟨rfl, rfl⟩
   ·replace H := condF hc H
    refine L.off hF rfl rfl ?_
    refine L.off hF rfl rfl ?_
    refine L.off hF rfl rfl ?_
    refine L.pick hF rfl rfl rfl rfl ?_
    refine L.move hF rfl rfl rfl ?_
    refine L.off hF rfl rfl ?_
    refine L.off hF rfl rfl ?_
    refine L.off hF rfl rfl ?_
    refine L.pick hF rfl rfl rfl rfl ?_
    refine L.assign hF rfl rfl rfl (L.nil ?_)
    refine WpC.ret ?_
    cases H
    exact Leaves.ret rfl rfl rfl ⟨rfl, rfl⟩
  ·replace H := condF hc H
   refine L.off hF rfl rfl ?_
   refine L.off hF rfl rfl ?_
   refine L.off hF rfl rfl ?_
   refine L.off hF rfl rfl ?_
   refine L.pick hF rfl rfl rfl rfl ?_
   refine L.move hF rfl rfl rfl ?_
   refine L.off hF rfl rfl ?_
   refine L.off hF rfl rfl ?_
   refine L.off hF rfl rfl ?_
   refine L.pick hF rfl rfl rfl rfl ?_
   refine L.move hF rfl rfl rfl ?_
   refine L.off hF rfl rfl ?_
   refine L.off hF rfl rfl ?_
   refine L.off hF rfl rfl ?_
   refine L.pick hF rfl rfl rfl rfl ?_
   refine L.assign hF rfl rfl rfl (L.nil ?_)
   refine WpC.ret ?_
   cases H
   exact Leaves.ret rfl rfl rfl ⟨rfl, rfl⟩
 ·replace H := condF hc H
  refine L.off hF rfl rfl ?_
  refine L.off hF rfl rfl ?_
  refine L.off hF rfl rfl ?_
  refine L.pick hF rfl rfl rfl rfl ?_
  refine L.move hF rfl rfl rfl ?_
  refine L.off hF rfl rfl ?_
  refine L.off hF rfl rfl ?_
  refine L.off hF rfl rfl ?_
  refine L.off hF rfl rfl ?_
  refine L.pick hF rfl rfl rfl rfl ?_
  refine L.move hF rfl rfl rfl ?_
  refine L.off hF rfl rfl ?_
  refine L.off hF rfl rfl ?_
  refine L.off hF rfl rfl ?_
  refine L.pick hF rfl rfl rfl rfl ?_
  refine L.move hF rfl rfl rfl ?_
  refine L.off hF rfl rfl ?_
  refine L.off hF rfl rfl ?_
  refine L.off hF rfl rfl ?_
  refine L.pick hF rfl rfl rfl rfl ?_
  refine L.assign hF rfl rfl rfl (L.nil ?_)
  refine WpC.ret ?_
  cases H
  exact Leaves.ret rfl rfl rfl ⟨rfl, rfl⟩
/-! ### Fimpl_WorldOk_1 -/
def Fimpl_WorldOk_1 (k : Nat) (a0 : List UInt8) : Option Bool := (Fimpl_TermOk k a0).bind fun r1 => some (!r1)
theorem ent116 : MG.Enters Tryz.prog 116 := ⟨Tryz.f116, Tryz.func116, rfl, by decide⟩
set_option maxHeartbeats 8000000 in
set_option maxRecDepth 100000 in
theorem Fimpl_WorldOk_1_gives (k : Nat) (a0 : List UInt8) (r : Bool) (H : Fimpl_WorldOk_1 k a0 = some r) : Gives Tryz.prog 116 [V.one (cS a0)] [] [V.one (cL r)] [] := by
 refine Gives.intro Tryz.func116 rfl rfl rfl rfl ?_
 intro F hF hm
 unfold Fimpl_WorldOk_1 at H
 obtain ⟨K, hK⟩ : ∃ K, k ≤ K := ⟨k, Nat.le_refl k⟩
 refine WpC.seq (WpC.regionL ?_)
 refine L.assign hF rfl rfl rfl (L.nil ?_)
 refine WpC.seq (WpC.regionL ?_)
 refine L.move hF rfl rfl rfl ?_
 obtain ⟨r1, hr1, H⟩ := bindS H
 refine L.call [false] [] [] 1 hF rfl rfl rfl ent117 rfl rfl rfl rfl rfl (Fimpl_TermOk_gives k  a0 r1 hr1) rfl ?_
 refine L.not hF rfl rfl rfl ?_
 refine L.assign hF rfl rfl rfl (L.nil ?_)
 refine WpC.ret ?_
 cases H
 exact Leaves.ret rfl rfl rfl ⟨rfl, rfl⟩
/-! ### Fslices_IndexFunc_string__impl_WorldOk_1 -/
def Fslices_IndexFunc_string__impl_WorldOk_1.l2 : Nat → (List (List UInt8)) → Int → Int → Option Int
 | 0, _, _, _ => none
 | k2 + 1, v34, v35, v36 => cond (decide (v36 < v35)) ((at? v34 v36).bind fun b39 => (Fimpl_WorldOk_1 k2 b39).bind fun r40 => cond r40 (some v36) ((Fslices_IndexFunc_string__impl_WorldOk_1.l2 k2) v34 v35 (IntKind.i64.wrap (v36 + (1 : Int))))) (some (-1 : Int))
def Fslices_IndexFunc_string__impl_WorldOk_1 (k : Nat) (a0 : List (List UInt8)) : Option Int := Fslices_IndexFunc_string__impl_WorldOk_1.l2 k a0 (a0.length : Int) (0 : Int)
theorem ent192 : MG.Enters Tryz.prog 192 := ⟨Tryz.f192, Tryz.func192, rfl, by decide⟩
set_option maxHeartbeats 8000000 in
set_option maxRecDepth 100000 in
theorem Fslices_IndexFunc_string__impl_WorldOk_1_gives (k : Nat) (g0 : Bool) (a0 : List (List UInt8)) (r : Int) (H : Fslices_IndexFunc_string__impl_WorldOk_1 k a0 = some r) : Gives Tryz.prog 192 [V.one (Cell.sl g0 (List.map eS a0)), V.one (Cell.clo 116 [])] [] [V.one (cI r)] [] := by
 refine Gives.intro Tryz.func192 rfl rfl rfl rfl ?_
 intro F hF hm
 unfold Fslices_IndexFunc_string__impl_WorldOk_1 at H
 obtain ⟨K, hK⟩ : ∃ K, k ≤ K := ⟨k, Nat.le_refl k⟩
 refine WpC.seq (WpC.regionL ?_)
 refine L.assign hF rfl rfl rfl (L.nil ?_)
 refine WpC.seq (WpC.seq (WpC.regionL ?_))
 refine L.move hF rfl rfl rfl ?_
 refine L.lenR (xs := a0) (e := eS) Tryz.underlying61 hF rfl rfl rfl rfl ?_
 refine L.move hF rfl rfl rfl (L.nil ?_)
 refine WpC.block ?_
 refine WpC.loopL (P := Tryz.prog) (fun n σ => ∃ v34 : List (List UInt8), ∃ v35 : Int, ∃ v36 : Int, n ≤ K ∧ Fslices_IndexFunc_string__impl_WorldOk_1.l2 n v34 v35 v36 = some r ∧ σ = mkSt [(0, one (Cell.sl g0 (List.map eS v34))), (1, one (Cell.clo 116 [])), (7, one (cI v35)), (8, one (cI v36))] [] [] 0) k ⟨_, ⟨a0, (a0.length : Int), (0 : Int), by omega, H, rfl⟩, Le.mk [] hm rfl (Sa4 trivial) trivial trivial⟩ ?_
 clear H
 rintro k2 _ ⟨v34, v35, v36, hk2, H, rfl⟩
 cases k2 with
 | zero => cases H
 | succ k2 =>
  rw [Fslices_IndexFunc_string__impl_WorldOk_1.l2] at H
  refine WpC.seq (WpC.regionL ?_)
  refine L.bin hF rfl rfl rfl rfl rfl rfl (L.nil ?_)
  refine WpC.seq ?_
  refine WpC.cond rfl (fun hc => ?_) (fun hc => ?_)
  ·replace H := condT hc H
   refine WpC.skip (WpC.seq (WpC.block (WpC.seq (WpC.regionL ?_))))
   refine L.move hF rfl rfl rfl ?_
   refine L.assign hF rfl rfl rfl (L.nil ?_)
   refine WpC.seq (WpC.regionL ?_)
   refine L.move hF rfl rfl rfl ?_
   refine L.move hF rfl rfl rfl ?_
   refine L.move hF rfl rfl rfl ?_
   obtain ⟨b39, hb39, H⟩ := bindS H
   refine L.idxR (xs := v34) (e := eS) Tryz.underlying61 info9 hF rfl rfl rfl rfl rfl hb39 rfl rfl ?_
   refine L.loadPe shape9 hF rfl rfl rfl rfl rfl ?_
   obtain ⟨r40, hr40, H⟩ := bindS H
   refine L.call [false] [] [] 0 hF rfl rfl rfl ent116 rfl rfl rfl rfl rfl (Fimpl_WorldOk_1_gives k2  b39 r40 hr40) rfl (L.nil ?_)
   refine WpC.cond rfl (fun hc => ?_) (fun hc => ?_)
   ·replace H := condT hc H
    refine WpC.seq (WpC.regionL ?_)
    refine L.move hF rfl rfl rfl ?_
    refine L.assign hF rfl rfl rfl (L.nil ?_)
    refine WpC.ret ?_
    cases H
    exact Leaves.ret rfl rfl rfl ⟨rfl, rfl⟩
   ·replace H := condF hc H
    refine WpC.skip (WpC.regionL ?_)
    refine L.bin hF rfl rfl rfl rfl rfl rfl ?_
    refine L.move hF rfl rfl rfl (L.nil ?_)
    exact ⟨k2, _, by omega, ⟨v34, v35, (IntKind.i64.wrap (v36 + (1 : Int))), by omega, H, rfl⟩, Le.mk [] hm rfl (Sa4 trivial) trivial trivial⟩
  ·replace H := condF hc H
   refine WpC.exit (WpC.seq (WpC.regionL ?_))
   refine L.assign hF rfl rfl rfl (L.nil ?_)
   refine WpC.ret ?_
   cases H
   exact Leaves.ret rfl rfl rfl ⟨rfl, rfl⟩
/-! ### Fslices_ContainsFunc_string__impl_WorldOk_1 -/
def Fslices_ContainsFunc_string__impl_WorldOk_1 (k : Nat) (a0 : List (List UInt8)) : Option Bool := (Fslices_IndexFunc_string__impl_WorldOk_1 k a0).bind fun r1 => some (decide (r1 ≥ (0 : Int)))
theorem ent115 : MG.Enters Tryz.prog 115 := ⟨Tryz.f115, Tryz.func115, rfl, by decide⟩
set_option maxHeartbeats 8000000 in
set_option maxRecDepth 100000 in
theorem Fslices_ContainsFunc_string__impl_WorldOk_1_gives (k : Nat) (g0 : Bool) (a0 : List (List UInt8)) (r : Bool) (H : Fslices_ContainsFunc_string__impl_WorldOk_1 k a0 = some r) : Gives Tryz.prog 115 [V.one (Cell.sl g0 (List.map eS a0)), V.one (Cell.clo 116 [])] [] [V.one (cL r)] [] := by
 refine Gives.intro Tryz.func115 rfl rfl rfl rfl ?_
 intro F hF hm
 unfold Fslices_ContainsFunc_string__impl_WorldOk_1 at H
 obtain ⟨K, hK⟩ : ∃ K, k ≤ K := ⟨k, Nat.le_refl k⟩
 refine WpC.seq (WpC.regionL ?_)
 refine L.assign hF rfl rfl rfl (L.nil ?_)
 refine WpC.seq (WpC.regionL ?_)
 refine L.move hF rfl rfl rfl ?_
 refine L.move hF rfl rfl rfl ?_
 obtain ⟨r1, hr1, H⟩ := bindS H
 refine L.call [false, false] [] [] 2 hF rfl rfl rfl ent192 rfl rfl rfl rfl rfl (Fslices_IndexFunc_string__impl_WorldOk_1_gives k g0 a0 r1 hr1) rfl ?_
 refine L.bin hF rfl rfl rfl rfl rfl rfl ?_
 refine L.assign hF rfl rfl rfl (L.nil ?_)
 refine WpC.ret ?_
 cases H
 exact Leaves.ret rfl rfl rfl ⟨rfl, rfl⟩
/-! ### Fimpl_ConfigOk_1 -/
def Fimpl_ConfigOk_1 (k : Nat) (a0 : Timpl_Pair) : Option Bool := (Fimpl_isRealm k a0.A).bind fun r3 => cond r3 ((Fimpl_isRealm k a0.B).bind fun r4 => cond r4 (some (a0.A != a0.B)) (some false)) (some false)
theorem ent157 : MG.Enters Tryz.prog 157 := ⟨Tryz.f157, Tryz.func157, rfl, by decide⟩
set_option maxHeartbeats 8000000 in
set_option maxRecDepth 100000 in
theorem Fimpl_ConfigOk_1_gives (k : Nat) (a0 : Timpl_Pair) (r : Bool) (H : Fimpl_ConfigOk_1 k a0 = some r) : Gives Tryz.prog 157 [V.agg [cI a0.A, cI a0.B]] [] [V.one (cL r)] [] := by
 refine Gives.intro Tryz.func157 rfl rfl rfl rfl ?_
 intro F hF hm
 unfold Fimpl_ConfigOk_1 at H
 obtain ⟨K, hK⟩ : ∃ K, k ≤ K := ⟨k, Nat.le_refl k⟩
 refine WpC.seq (WpC.regionL ?_)
 refine L.box 2 hF rfl rfl rfl rfl ?_
 refine L.assign hF rfl rfl rfl (L.nil ?_)
 refine WpC.seq (WpC.regionL ?_)
 refine L.fieldAddr Tryz.underlying199 rfl info3 rfl hF rfl rfl rfl rfl rfl ?_
 refine L.loadPtr shape3 hF rfl rfl rfl rfl rfl rfl ?_
 obtain ⟨r3, hr3, H⟩ := bindS H
 refine L.call [false] [] [] 3 hF rfl rfl rfl ent135 rfl rfl rfl rfl rfl (Fimpl_isRealm_gives k  a0.A r3 hr3) rfl ?_
 refine L.move hF rfl rfl rfl ?_
 refine L.split (fun hc => ?_) (fun hc => ?_)
 ·replace H := condT hc H
  refine L.fieldAddr Tryz.underlying199 rfl info3 rfl hF rfl rfl rfl rfl rfl ?_
  refine L.loadPtr shape3 hF rfl rfl rfl rfl rfl rfl ?_
  obtain ⟨r4, hr4, H⟩ := bindS H
  refine L.call [false] [] [] 4 hF rfl rfl rfl ent135 rfl rfl rfl rfl rfl (Fimpl_isRealm_gives k  a0.B r4 hr4) rfl ?_
  refine L.pick hF rfl rfl rfl rfl ?_
  refine L.move hF rfl rfl rfl ?_
  refine L.split (fun hc => ?_) (fun hc => ?_)
  ·replace H := condT hc H
   refine L.fieldAddr Tryz.underlying199 rfl info3 rfl hF rfl rfl rfl rfl rfl ?_
   refine L.loadPtr shape3 hF rfl rfl rfl rfl rfl rfl ?_
   refine L.fieldAddr Tryz.underlying199 rfl info3 rfl hF rfl rfl rfl rfl rfl ?_
   refine L.loadPtr shape3 hF rfl rfl rfl rfl rfl rfl ?_
   refine L.bin hF rfl rfl rfl rfl rfl rfl ?_
   refine L.pick hF rfl rfl rfl rfl ?_
   refine L.assign hF rfl rfl rfl (L.nil ?_)
   refine WpC.ret ?_
   cases H
   exact Leaves.ret rfl rfl rfl ⟨rfl, rfl⟩
  ·replace H := condF hc H
   refine L.off hF rfl rfl ?_
   refine L.off hF rfl rfl ?_
   refine L.off hF rfl rfl ?_
   refine L.off hF rfl rfl ?_
   refine L.off hF rfl rfl ?_
   refine L.pick hF rfl rfl rfl rfl ?_
   refine L.assign hF rfl rfl rfl (L.nil ?_)
   refine WpC.ret ?_
   cases H
   exact Leaves.ret rfl rfl rfl ⟨rfl, rfl⟩
 ·replace H := condF hc H
  refine L.off hF rfl rfl ?_
  refine L.off hF rfl rfl ?_
  refine L.off hF rfl rfl ?_
  refine L.pick hF rfl rfl rfl rfl ?_
  refine L.move hF rfl rfl rfl ?_
  refine L.off hF rfl rfl ?_
  refine L.off hF rfl rfl ?_
  refine L.off hF rfl rfl ?_
  refine L.off hF rfl rfl ?_
  refine L.off hF rfl rfl ?_
  refine L.pick hF rfl rfl rfl rfl ?_
  refine L.assign hF rfl rfl rfl (L.nil ?_)
  refine WpC.ret ?_
  cases H
  exact Leaves.ret rfl rfl rfl ⟨rfl, rfl⟩
/-! ### Fslices_Index_Pair -/
def Fslices_Index_Pair.l2 : Nat → (List Timpl_Pair) → Int → Int → Timpl_Pair → Option Int
 | 0, _, _, _, _ => none
 | k2 + 1, v29, v30, v31, v32 => cond (decide (v31 < v30)) ((at? v29 v31).bind fun b34 => cond ((v32.A == b34.A) && ((v32.B == b34.B) && true)) (some v31) ((Fslices_Index_Pair.l2 k2) v29 v30 (IntKind.i64.wrap (v31 + (1 : Int))) v32)) (some (-1 : Int))
def Fslices_Index_Pair (k : Nat) (a0 : List Timpl_Pair) (a1 : Timpl_Pair) : Option Int := Fslices_Index_Pair.l2 k a0 (a0.length : Int) (0 : Int) a1
theorem ent247 : MG.Enters Tryz.prog 247 := ⟨Tryz.f247, Tryz.func247, rfl, by decide⟩
set_option maxHeartbeats 8000000 in
set_option maxRecDepth 100000 in
theorem Fslices_Index_Pair_gives (k : Nat) (g0 : Bool) (a0 : List Timpl_Pair) (a1 : Timpl_Pair) (r : Int) (H : Fslices_Index_Pair k a0 a1 = some r) : Gives Tryz.prog 247 [V.one (Cell.sl g0 (List.map eTimpl_Pair a0)), V.agg [cI a1.A, cI a1.B]] [] [V.one (cI r)] [] := by
 refine Gives.intro Tryz.func247 rfl rfl rfl rfl ?_
 intro F hF hm
 unfold Fslices_Index_Pair at H
 obtain ⟨K, hK⟩ : ∃ K, k ≤ K := ⟨k, Nat.le_refl k⟩
 refine WpC.seq (WpC.regionL ?_)
 refine L.box 3 hF rfl rfl rfl rfl ?_
 refine L.assign hF rfl rfl rfl (L.nil ?_)
 refine WpC.seq (WpC.seq (WpC.regionL ?_))
 refine L.move hF rfl rfl rfl ?_
 refine L.lenR (xs := a0) (e := eTimpl_Pair) Tryz.underlying42 hF rfl rfl rfl rfl ?_
 refine L.move hF rfl rfl rfl (L.nil ?_)
 refine WpC.block ?_
 refine WpC.loopL (P := Tryz.prog) (fun n σ => ∃ v29 : List Timpl_Pair, ∃ v30 : Int, ∃ v31 : Int, ∃ v32 : Timpl_Pair, n ≤ K ∧ Fslices_Index_Pair.l2 n v29 v30 v31 v32 = some r ∧ σ = mkSt [(0, one (Cell.sl g0 (List.map eTimpl_Pair v29))), (3, one (Cell.ptr 0 0)), (7, one (cI v30)), (8, one (cI v31))] [] [(0, [cI v32.A, cI v32.B])] 1) k ⟨_, ⟨a0, (a0.length : Int), (0 : Int), a1, by omega, H, rfl⟩, Le.mk [(0, 3)] hm rfl (Sa4 trivial) trivial (Ba1 trivial)⟩ ?_
 clear H
 rintro k2 _ ⟨v29, v30, v31, v32, hk2, H, rfl⟩
 cases k2 with
 | zero => cases H
 | succ k2 =>
  rw [Fslices_Index_Pair.l2] at H
  refine WpC.seq (WpC.regionL ?_)
  refine L.bin hF rfl rfl rfl rfl rfl rfl (L.nil ?_)
  refine WpC.seq ?_
  refine WpC.cond rfl (fun hc => ?_) (fun hc => ?_)
  ·replace H := condT hc H
   refine WpC.skip (WpC.seq (WpC.block (WpC.seq (WpC.regionL ?_))))
   refine L.move hF rfl rfl rfl ?_
   refine L.assign hF rfl rfl rfl (L.nil ?_)
   refine WpC.seq ?_
   refine S.begin mixed (by kernel_rfl) ?_
   refine S.st 0 rfl rfl (Qu.load) (fun Q0 k0 => L.loadPtr shape199 hF rfl rfl rfl rfl rfl rfl (L.nil k0)) ?_
   refine S.st 1 rfl rfl ((Ca.move).quiet) (fun Q0 k0 => L.move hF rfl rfl rfl (L.nil k0)) ?_
   refine S.st 2 rfl rfl ((Ca.move).quiet) (fun Q0 k0 => L.move hF rfl rfl rfl (L.nil k0)) ?_
   obtain ⟨b34, hb34, H⟩ := bindS H
   refine S.st 3 rfl rfl ((Ca.indexAddr).quiet) (fun Q0 k0 => L.idxR (xs := v29) (e := eTimpl_Pair) Tryz.underlying42 info199 hF rfl rfl rfl rfl rfl hb34 rfl rfl (L.nil k0)) ?_
   refine S.st 4 rfl rfl (Qu.load) (fun Q0 k0 => L.loadPe shape199 hF rfl rfl rfl rfl rfl (L.nil k0)) ?_
   refine S.st 5 rfl rfl ((Ca.eqA (r := ((v32.A == b34.A) && ((v32.B == b34.B) && true))) rfl rfl rfl rfl (by kernel_rfl) (by kernel_rfl)).quiet) (fun Q0 k0 => L.eqA (r := ((v32.A == b34.A) && ((v32.B == b34.B) && true))) hF rfl rfl rfl rfl rfl rfl (by kernel_rfl) (by kernel_rfl) (L.nil k0)) ?_
   refine S.nil ?_
   refine WpC.cond rfl (fun hc => ?_) (fun hc => ?_)
   ·replace H := condT hc H
    refine WpC.seq (WpC.regionL ?_)
    refine L.move hF rfl rfl rfl ?_
    refine L.assign hF rfl rfl rfl (L.nil ?_)
    refine WpC.ret ?_
    cases H
    exact Leaves.ret rfl rfl rfl ⟨rfl, rfl⟩
   ·replace H := condF hc H
    refine WpC.skip (WpC.regionL ?_)
    refine L.bin hF rfl rfl rfl rfl rfl rfl ?_
    refine L.move hF rfl rfl rfl (L.nil ?_)
    exact ⟨k2, _, by omega, ⟨v29, v30, (IntKind.i64.wrap (v31 + (1 : Int))), v32, by omega, H, rfl⟩, Le.mk [(0, 0)] hm rfl (Sa4 trivial) trivial (Ba1 trivial)⟩
  ·replace H := condF hc H
   refine WpC.exit (WpC.seq (WpC.regionL ?_))
   refine L.assign hF rfl rfl rfl (L.nil ?_)
   refine WpC.ret ?_
   cases H
   exact Leaves.ret rfl rfl rfl ⟨rfl, rfl⟩
/-! ### Fslices_Contains_Pair -/
def Fslices_Contains_Pair (k : Nat) (a0 : List Timpl_Pair) (a1 : Timpl_Pair) : Option Bool := (Fslices_Index_Pair k a0 a1).bind fun r1 => some (decide (r1 ≥ (0 : Int)))
theorem ent228 : MG.Enters Tryz.prog 228 := ⟨Tryz.f228, Tryz.func228, rfl, by decide⟩
set_option maxHeartbeats 8000000 in
set_option maxRecDepth 100000 in
theorem Fslices_Contains_Pair_gives (k : Nat) (g0 : Bool) (a0 : List Timpl_Pair) (a1 : Timpl_Pair) (r : Bool) (H : Fslices_Contains_Pair k a0 a1 = some r) : Gives Tryz.prog 228 [V.one (Cell.sl g0 (List.map eTimpl_Pair a0)), V.agg [cI a1.A, cI a1.B]] [] [V.one (cL r)] [] := by
 refine Gives.intro Tryz.func228 rfl rfl rfl rfl ?_
 intro F hF hm
 unfold Fslices_Contains_Pair at H
 obtain ⟨K, hK⟩ : ∃ K, k ≤ K := ⟨k, Nat.le_refl k⟩
 refine WpC.seq (WpC.regionL ?_)
 refine L.box 3 hF rfl rfl rfl rfl ?_
 refine L.assign hF rfl rfl rfl (L.nil ?_)
 refine WpC.seq (WpC.regionL ?_)
 refine L.move hF rfl rfl rfl ?_
 refine L.loadPtr shape199 hF rfl rfl rfl rfl rfl rfl ?_
 obtain ⟨r1, hr1, H⟩ := bindS H
 refine L.call [false, false] [] [] 4 hF rfl rfl rfl ent247 rfl rfl rfl rfl rfl (Fslices_Index_Pair_gives k g0 a0 a1 r1 hr1) rfl ?_
 refine L.bin hF rfl rfl rfl rfl rfl rfl ?_
 refine L.assign hF rfl rfl rfl (L.nil ?_)
 refine WpC.ret ?_
 cases H
 exact Leaves.ret rfl rfl rfl ⟨rfl, rfl⟩
/-! ### Fimpl_arePairs__impl_ConfigOk_1 -/
def Fimpl_arePairs__impl_ConfigOk_1.l2 : Nat → (List Timpl_Pair) → Int → Int → Option Bool
 | 0, _, _, _ => none
 | k2 + 1, v84, v85, v86 => cond (decide (v86 < v85)) ((at? v84 v86).bind fun b94 => (Fimpl_ConfigOk_1 k2 b94).bind fun r98 => cond (!r98) (some false) ((part? v84 (0 : Int) v86).bind fun b100 => (Fslices_Contains_Pair k2 b100 b94).bind fun r101 => cond r101 (some false) ((Fimpl_arePairs__impl_ConfigOk_1.l2 k2) v84 v85 (IntKind.i64.wrap (v86 + (1 : Int)))))) (some (decide ((v84.length : Int) ≤ (6 : Int))))
def Fimpl_arePairs__impl_ConfigOk_1 (k : Nat) (a0 : List Timpl_Pair) : Option Bool := Fimpl_arePairs__impl_ConfigOk_1.l2 k a0 (a0.length : Int) (0 : Int)
theorem ent156 : MG.Enters Tryz.prog 156 := ⟨Tryz.f156, Tryz.func156, rfl, by decide⟩
set_option maxHeartbeats 8000000 in
set_option maxRecDepth 100000 in
theorem Fimpl_arePairs__impl_ConfigOk_1_gives (k : Nat) (g0 : Bool) (a0 : List Timpl_Pair) (r : Bool) (H : Fimpl_arePairs__impl_ConfigOk_1 k a0 = some r) : Gives Tryz.prog 156 [V.one (Cell.sl g0 (List.map eTimpl_Pair a0)), V.one (Cell.clo 157 [])] [] [V.one (cL r)] [] := by
 refine Gives.intro Tryz.func156 rfl rfl rfl rfl ?_
 intro F hF hm
 unfold Fimpl_arePairs__impl_ConfigOk_1 at H
 obtain ⟨K, hK⟩ : ∃ K, k ≤ K := ⟨k, Nat.le_refl k⟩
 refine WpC.seq (WpC.regionL ?_)
 refine L.assign hF rfl rfl rfl (L.nil ?_)
 refine WpC.seq (WpC.seq (WpC.regionL ?_))
 refine L.move hF rfl rfl rfl ?_
 refine L.lenR (xs := a0) (e := eTimpl_Pair) Tryz.underlying42 hF rfl rfl rfl rfl ?_
 refine L.move hF rfl rfl rfl (L.nil ?_)
 refine WpC.block ?_
 refine WpC.loopL (P := Tryz.prog) (fun n σ => ∃ v84 : List Timpl_Pair, ∃ v85 : Int, ∃ v86 : Int, n ≤ K ∧ Fimpl_arePairs__impl_ConfigOk_1.l2 n v84 v85 v86 = some r ∧ σ = mkSt [(0, one (Cell.sl g0 (List.map eTimpl_Pair v84))), (1, one (Cell.clo 157 [])), (7, one (Cell.sl g0 (List.map eTimpl_Pair v84))), (8, one (cI v85)), (9, one (cI v86))] [] [] 0) k ⟨_, ⟨a0, (a0.length : Int), (0 : Int), by omega, H, rfl⟩, Le.mk [] hm rfl (Sa4 (Sa1 trivial)) trivial trivial⟩ ?_
 clear H
 rintro k2 _ ⟨v84, v85, v86, hk2, H, rfl⟩
 cases k2 with
 | zero => cases H
 | succ k2 =>
  rw [Fimpl_arePairs__impl_ConfigOk_1.l2] at H
  refine WpC.seq (WpC.regionL ?_)
  refine L.bin hF rfl rfl rfl rfl rfl rfl (L.nil ?_)
  refine WpC.seq ?_
  refine WpC.cond rfl (fun hc => ?_) (fun hc => ?_)
  ·replace H := condT hc H
   refine WpC.skip (WpC.seq (WpC.block (WpC.seq (WpC.regionL ?_))))
   refine L.move hF rfl rfl rfl ?_
   obtain ⟨b94, hb94, H⟩ := bindS H
   refine L.idxR (xs := v84) (e := eTimpl_Pair) Tryz.underlying42 info199 hF rfl rfl rfl rfl rfl hb94 rfl rfl ?_
   refine L.loadPe shape199 hF rfl rfl rfl rfl rfl ?_
   refine L.alloc 0 info199 rfl hF rfl rfl rfl rfl ?_
   refine L.assign hF rfl rfl rfl ?_
   refine L.storePtr shape199 hF rfl rfl rfl rfl rfl rfl rfl (L.nil ?_)
   refine WpC.seq ?_
   obtain ⟨r98, hr98, H⟩ := bindS H
   rcases Bool.eq_false_or_eq_true ((!r98)) with hc99 | hc99
   ·replace H := condT hc99 H
    refine A.begin mixed rfl rfl ?_
    intro W hI hO
    refine hI _ _ _ ?_
    refine Atk 0 rfl (Ca.move) (fun Q0 k0 => L.move hF rfl rfl rfl (L.nil k0)) ?_
    refine A.all [1] (by kernel_rfl) rfl ⟨⟨_, rfl, ?_⟩, trivial⟩
    refine L.loadPtr shape199 hF rfl rfl rfl rfl rfl rfl (L.nil ?_)
    refine A.all [2] (by kernel_rfl) rfl ⟨⟨_, rfl, ?_⟩, trivial⟩
    refine L.call [false] [] [] 1 hF rfl rfl rfl ent157 rfl rfl rfl rfl rfl (Fimpl_ConfigOk_1_gives k2  b94 r98 hr98) rfl (L.nil ?_)
    refine Atk 3 rfl (Ca.un rfl rfl) (fun Q0 k0 => L.not hF rfl rfl rfl (L.nil k0)) ?_
    refine Atk 4 rfl (Ca.move) (fun Q0 k0 => L.move hF rfl rfl rfl (L.nil k0)) ?_
    refine A.le (τ := mkSt [(0, one (Cell.sl g0 (List.map eTimpl_Pair v84))), (1, one (Cell.clo 157 [])), (5, one (cI v86)), (6, one (Cell.ptr 0 0)), (7, one (Cell.sl g0 (List.map eTimpl_Pair v84))), (8, one (cI v85)), (9, one (cI v86)), (18, one (cL true))] [] [(0, [cI b94.A, cI b94.B])] 1) (Le.mk [(0, 0)] hm rfl (Sa4 (Sa2 (Sa1 (Sa1 trivial rfl (congrArg (fun b => some (one (cL b))) hc99))))) trivial (Ba1 trivial)) ?_
    refine Aof 5 rfl hF ?_
    refine Aof 6 rfl hF ?_
    refine Aof 7 rfl hF ?_
    refine Aof 8 rfl hF ?_
    refine A.all [9] (by kernel_rfl) rfl ⟨⟨_, rfl, ?_⟩, trivial⟩
    refine L.off hF rfl rfl (L.nil ?_)
    refine Atk 10 rfl (Ca.pick) (fun Q0 k0 => L.pick hF rfl rfl rfl rfl (L.nil k0)) ?_
    refine A.le (τ := mkSt [(0, one (Cell.sl g0 (List.map eTimpl_Pair v84))), (1, one (Cell.clo 157 [])), (7, one (Cell.sl g0 (List.map eTimpl_Pair v84))), (8, one (cI v85)), (9, one (cI v86)), (24, one (cL true))] [] [] 0) (Le.mk [] hm rfl (Sa4 (Sa2 trivial)) trivial trivial) ?_
    refine A.done (by kernel_rfl) ?_
    refine WpC.cond rfl (fun _ => ?_) (fun hc => by cases hc)
    refine WpC.seq (WpC.regionL ?_)
    refine L.assign hF rfl rfl rfl (L.nil ?_)
    refine WpC.ret ?_
    cases H
    exact Leaves.ret rfl rfl rfl ⟨rfl, rfl⟩
   ·replace H := condF hc99 H
    obtain ⟨b100, hb100, H⟩ := bindS H
    obtain ⟨r101, hr101, H⟩ := bindS H
    refine A.begin mixed rfl rfl ?_
    intro W hI hO
    refine hI _ _ _ ?_
    refine Atk 0 rfl (Ca.move) (fun Q0 k0 => L.move hF rfl rfl rfl (L.nil k0)) ?_
    refine A.all [1] (by kernel_rfl) rfl ⟨⟨_, rfl, ?_⟩, trivial⟩
    refine L.loadPtr shape199 hF rfl rfl rfl rfl rfl rfl (L.nil ?_)
    refine A.all [2] (by kernel_rfl) rfl ⟨⟨_, rfl, ?_⟩, trivial⟩
    refine L.call [false] [] [] 1 hF rfl rfl rfl ent157 rfl rfl rfl rfl rfl (Fimpl_ConfigOk_1_gives k2  b94 r98 hr98) rfl (L.nil ?_)
    refine Atk 3 rfl (Ca.un rfl rfl) (fun Q0 k0 => L.not hF rfl rfl rfl (L.nil k0)) ?_
    refine Atk 4 rfl (Ca.move) (fun Q0 k0 => L.move hF rfl rfl rfl (L.nil k0)) ?_
    refine A.le (τ := mkSt [(0, one (Cell.sl g0 (List.map eTimpl_Pair v84))), (1, one (Cell.clo 157 [])), (5, one (cI v86)), (6, one (Cell.ptr 0 0)), (7, one (Cell.sl g0 (List.map eTimpl_Pair v84))), (8, one (cI v85)), (9, one (cI v86)), (18, one (cL false))] [] [(0, [cI b94.A, cI b94.B])] 1) (Le.mk [(0, 0)] hm rfl (Sa4 (Sa2 (Sa1 (Sa1 trivial rfl (congrArg (fun b => some (one (cL b))) hc99))))) trivial (Ba1 trivial)) ?_
    refine Atk 5 rfl (Ca.move) (fun Q0 k0 => L.move hF rfl rfl rfl (L.nil k0)) ?_
    refine Atk 6 rfl (Ca.move) (fun Q0 k0 => L.move hF rfl rfl rfl (L.nil k0)) ?_
    refine Atk 7 rfl (Ca.slice) (fun Q0 k0 => L.cutR (xs := v84) (ys := b100) (e := eTimpl_Pair) Tryz.underlying42 info199 hF rfl rfl rfl rfl rfl hb100 (fun _ => rfl) (L.nil k0)) ?_
    refine A.all [8] (by kernel_rfl) rfl ⟨⟨_, rfl, ?_⟩, trivial⟩
    refine L.loadPtr shape199 hF rfl rfl rfl rfl rfl rfl (L.nil ?_)
    refine A.all [9] (by kernel_rfl) rfl ⟨⟨_, rfl, ?_⟩, trivial⟩
    refine L.call [false, false] [] [] 1 hF rfl rfl rfl ent228 rfl rfl rfl rfl rfl (Fslices_Contains_Pair_gives k2 g0 b100 b94 r101 hr101) rfl (L.nil ?_)
    refine Atk 10 rfl (Ca.pick) (fun Q0 k0 => L.pick hF rfl rfl rfl rfl (L.nil k0)) ?_
    refine A.le (τ := mkSt [(0, one (Cell.sl g0 (List.map eTimpl_Pair v84))), (1, one (Cell.clo 157 [])), (7, one (Cell.sl g0 (List.map eTimpl_Pair v84))), (8, one (cI v85)), (9, one (cI v86)), (24, one (cL r101))] [] [] 0) (Le.mk [] hm rfl (Sa4 (Sa2 trivial)) trivial trivial) ?_
    refine A.done (by kernel_rfl) ?_
    refine WpC.cond rfl (fun hc => ?_) (fun hc => ?_)
    ·replace H := condT hc H
     refine WpC.seq (WpC.regionL ?_)
     refine L.assign hF rfl rfl rfl (L.nil ?_)
     refine WpC.ret ?_
     cases H
     exact Leaves.ret rfl rfl rfl ⟨rfl, rfl⟩
    ·replace H := condF hc H
     refine WpC.skip (WpC.regionL ?_)
     refine L.bin hF rfl rfl rfl rfl rfl rfl ?_
     refine L.move hF rfl rfl rfl (L.nil ?_)
     exact ⟨k2, _, by omega, ⟨v84, v85, (IntKind.i64.wrap (v86 + (1 : Int))), by omega, H, rfl⟩, Le.mk [] hm rfl (Sa4 (Sa1 trivial)) trivial trivial⟩
  ·replace H := condF hc H
   refine WpC.exit (WpC.seq (WpC.regionL ?_))
   refine L.move hF rfl rfl rfl ?_
   refine L.lenR (xs := v84) (e := eTimpl_Pair) Tryz.underlying42 hF rfl rfl rfl rfl ?_
   refine L.bin hF rfl rfl rfl rfl rfl rfl ?_
   refine L.assign hF rfl rfl rfl (L.nil ?_)
   refine WpC.ret ?_
   cases H
   exact Leaves.ret rfl rfl rfl ⟨rfl, rfl⟩
/-! ### Fimpl_ConfigOk_2 -/
def Fimpl_ConfigOk_2 (k : Nat) (a0 : Timpl_Pair) : Option Bool := (Fimpl_isService k a0.A).bind fun r3 => cond r3 ((Fimpl_isService k a0.B).bind fun r4 => some r4) (some false)
theorem ent158 : MG.Enters Tryz.prog 158 := ⟨Tryz.f158, Tryz.func158, rfl, by decide⟩
set_option maxHeartbeats 8000000 in
set_option maxRecDepth 100000 in
theorem Fimpl_ConfigOk_2_gives (k : Nat) (a0 : Timpl_Pair) (r : Bool) (H : Fimpl_ConfigOk_2 k a0 = some r) : Gives Tryz.prog 158 [V.agg [cI a0.A, cI a0.B]] [] [V.one (cL r)] [] := by
 refine Gives.intro Tryz.func158 rfl rfl rfl rfl ?_
 intro F hF hm
 unfold Fimpl_ConfigOk_2 at H
 obtain ⟨K, hK⟩ : ∃ K, k ≤ K := ⟨k, Nat.le_refl k⟩
 refine WpC.seq (WpC.regionL ?_)
 refine L.box 2 hF rfl rfl rfl rfl ?_
 refine L.assign hF rfl rfl rfl (L.nil ?_)
 refine WpC.seq (WpC.regionL ?_)
 refine L.fieldAddr Tryz.underlying199 rfl info3 rfl hF rfl rfl rfl rfl rfl ?_
 refine L.loadPtr shape3 hF rfl rfl rfl rfl rfl rfl ?_
 obtain ⟨r3, hr3, H⟩ := bindS H
 refine L.call [false] [] [] 3 hF rfl rfl rfl ent61 rfl rfl rfl rfl rfl (Fimpl_isService_gives k  a0.A r3 hr3) rfl ?_
 refine L.move hF rfl rfl rfl ?_
 refine L.split (fun hc => ?_) (fun hc => ?_)
 ·replace H := condT hc H
  refine L.fieldAddr Tryz.underlying199 rfl info3 rfl hF rfl rfl rfl rfl rfl ?_
  refine L.loadPtr shape3 hF rfl rfl rfl rfl rfl rfl ?_
  obtain ⟨r4, hr4, H⟩ := bindS H
  refine L.call [false] [] [] 4 hF rfl rfl rfl ent61 rfl rfl rfl rfl rfl (Fimpl_isService_gives k  a0.B r4 hr4) rfl ?_
  refine L.pick hF rfl rfl rfl rfl ?_
  refine L.assign hF rfl rfl rfl (L.nil ?_)
  refine WpC.ret ?_
  cases H
  exact Leaves.ret rfl rfl rfl ⟨rfl, rfl⟩
 ·replace H := condF hc H
  refine L.off hF rfl rfl ?_
  refine L.off hF rfl rfl ?_
  refine L.off hF rfl rfl ?_
  refine L.pick hF rfl rfl rfl rfl ?_
  refine L.assign hF rfl rfl rfl (L.nil ?_)
  refine WpC.ret ?_
  cases H
  exact Leaves.ret rfl rfl rfl ⟨rfl, rfl⟩
/-! ### Fimpl_arePairs__impl_ConfigOk_2 -/
def Fimpl_arePairs__impl_ConfigOk_2.l2 : Nat → (List Timpl_Pair) → Int → Int → Option Bool
 | 0, _, _, _ => none
 | k2 + 1, v84, v85, v86 => cond (decide (v86 < v85)) ((at? v84 v86).bind fun b94 => (Fimpl_ConfigOk_2 k2 b94).bind fun r98 => cond (!r98) (some false) ((part? v84 (0 : Int) v86).bind fun b100 => (Fslices_Contains_Pair k2 b100 b94).bind fun r101 => cond r101 (some false) ((Fimpl_arePairs__impl_ConfigOk_2.l2 k2) v84 v85 (IntKind.i64.wrap (v86 + (1 : Int)))))) (some (decide ((v84.length : Int) ≤ (6 : Int))))
def Fimpl_arePairs__impl_ConfigOk_2 (k : Nat) (a0 : List Timpl_Pair) : Option Bool := Fimpl_arePairs__impl_ConfigOk_2.l2 k a0 (a0.length : Int) (0 : Int)
set_option maxHeartbeats 8000000 in
set_option maxRecDepth 100000 in
theorem Fimpl_arePairs__impl_ConfigOk_2_gives (k : Nat) (g0 : Bool) (a0 : List Timpl_Pair) (r : Bool) (H : Fimpl_arePairs__impl_ConfigOk_2 k a0 = some r) : Gives Tryz.prog 156 [V.one (Cell.sl g0 (List.map eTimpl_Pair a0)), V.one (Cell.clo 158 [])] [] [V.one (cL r)] [] := by
 refine Gives.intro Tryz.func156 rfl rfl rfl rfl ?_
 intro F hF hm
 unfold Fimpl_arePairs__impl_ConfigOk_2 at H
 obtain ⟨K, hK⟩ : ∃ K, k ≤ K := ⟨k, Nat.le_refl k⟩
 refine WpC.seq (WpC.regionL ?_)
 refine L.assign hF rfl rfl rfl (L.nil ?_)
 refine WpC.seq (WpC.seq (WpC.regionL ?_))
 refine L.move hF rfl rfl rfl ?_
 refine L.lenR (xs := a0) (e := eTimpl_Pair) Tryz.underlying42 hF rfl rfl rfl rfl ?_
 refine L.move hF rfl rfl rfl (L.nil ?_)
 refine WpC.block ?_
 refine WpC.loopL (P := Tryz.prog) (fun n σ => ∃ v84 : List Timpl_Pair, ∃ v85 : Int, ∃ v86 : Int, n ≤ K ∧ Fimpl_arePairs__impl_ConfigOk_2.l2 n v84 v85 v86 = some r ∧ σ = mkSt [(0, one (Cell.sl g0 (List.map eTimpl_Pair v84))), (1, one (Cell.clo 158 [])), (7, one (Cell.sl g0 (List.map eTimpl_Pair v84))), (8, one (cI v85)), (9, one (cI v86))] [] [] 0) k ⟨_, ⟨a0, (a0.length : Int), (0 : Int), by omega, H, rfl⟩, Le.mk [] hm rfl (Sa4 (Sa1 trivial)) trivial trivial⟩ ?_
 clear H
 rintro k2 _ ⟨v84, v85, v86, hk2, H, rfl⟩
 cases k2 with
 | zero => cases H
 | succ k2 =>
  rw [Fimpl_arePairs__impl_ConfigOk_2.l2] at H
  refine WpC.seq (WpC.regionL ?_)
  refine L.bin hF rfl rfl rfl rfl rfl rfl (L.nil ?_)
  refine WpC.seq ?_
  refine WpC.cond rfl (fun hc => ?_) (fun hc => ?_)
  ·replace H := condT hc H
   refine WpC.skip (WpC.seq (WpC.block (WpC.seq (WpC.regionL ?_))))
   refine L.move hF rfl rfl rfl ?_
   obtain ⟨b94, hb94, H⟩ := bindS H
   refine L.idxR (xs := v84) (e := eTimpl_Pair) Tryz.underlying42 info199 hF rfl rfl rfl rfl rfl hb94 rfl rfl ?_
   refine L.loadPe shape199 hF rfl rfl rfl rfl rfl ?_
   refine L.alloc 0 info199 rfl hF rfl rfl rfl rfl ?_
   refine L.assign hF rfl rfl rfl ?_
   refine L.storePtr shape199 hF rfl rfl rfl rfl rfl rfl rfl (L.nil ?_)
   refine WpC.seq ?_
   obtain ⟨r98, hr98, H⟩ := bindS H
   rcases Bool.eq_false_or_eq_true ((!r98)) with hc99 | hc99
   ·replace H := condT hc99 H
    refine A.begin mixed rfl rfl ?_
    intro W hI hO
    refine hI _ _ _ ?_
    refine Atk 0 rfl (Ca.move) (fun Q0 k0 => L.move hF rfl rfl rfl (L.nil k0)) ?_
    refine A.all [1] (by kernel_rfl) rfl ⟨⟨_, rfl, ?_⟩, trivial⟩
    refine L.loadPtr shape199 hF rfl rfl rfl rfl rfl rfl (L.nil ?_)
    refine A.all [2] (by kernel_rfl) rfl ⟨⟨_, rfl, ?_⟩, trivial⟩
    refine L.call [false] [] [] 1 hF rfl rfl rfl ent158 rfl rfl rfl rfl rfl (Fimpl_ConfigOk_2_gives k2  b94 r98 hr98) rfl (L.nil ?_)
    refine Atk 3 rfl (Ca.un rfl rfl) (fun Q0 k0 => L.not hF rfl rfl rfl (L.nil k0)) ?_
    refine Atk 4 rfl (Ca.move) (fun Q0 k0 => L.move hF rfl rfl rfl (L.nil k0)) ?_
    refine A.le (τ := mkSt [(0, one (Cell.sl g0 (List.map eTimpl_Pair v84))), (1, one (Cell.clo 158 [])), (5, one (cI v86)), (6, one (Cell.ptr 0 0)), (7, one (Cell.sl g0 (List.map eTimpl_Pair v84))), (8, one (cI v85)), (9, one (cI v86)), (18, one (cL true))] [] [(0, [cI b94.A, cI b94.B])] 1) (Le.mk [(0, 0)] hm rfl (Sa4 (Sa2 (Sa1 (Sa1 trivial rfl (congrArg (fun b => some (one (cL b))) hc99))))) trivial (Ba1 trivial)) ?_
    refine Aof 5 rfl hF ?_
    refine Aof 6 rfl hF ?_
    refine Aof 7 rfl hF ?_
    refine Aof 8 rfl hF ?_
    refine A.all [9] (by kernel_rfl) rfl ⟨⟨_, rfl, ?_⟩, trivial⟩
    refine L.off hF rfl rfl (L.nil ?_)
    refine Atk 10 rfl (Ca.pick) (fun Q0 k0 => L.pick hF rfl rfl rfl rfl (L.nil k0)) ?_
    refine A.le (τ := mkSt [(0, one (Cell.sl g0 (List.map eTimpl_Pair v84))), (1, one (Cell.clo 158 [])), (7, one (Cell.sl g0 (List.map eTimpl_Pair v84))), (8, one (cI v85)), (9, one (cI v86)), (24, one (cL true))] [] [] 0) (Le.mk [] hm rfl (Sa4 (Sa2 trivial)) trivial trivial) ?_
    refine A.done (by kernel_rfl) ?_
    refine WpC.cond rfl (fun _ => ?_) (fun hc => by cases hc)
    refine WpC.seq (WpC.regionL ?_)
    refine L.assign hF rfl rfl rfl (L.nil ?_)
    refine WpC.ret ?_
    cases H
    exact Leaves.ret rfl rfl rfl ⟨rfl, rfl⟩
   ·replace H := condF hc99 H
    obtain ⟨b100, hb100, H⟩ := bindS H
    obtain ⟨r101, hr101, H⟩ := bindS H
    refine A.begin mixed rfl rfl ?_
    intro W hI hO
    refine hI _ _ _ ?_
    refine Atk 0 rfl (Ca.move) (fun Q0 k0 => L.move hF rfl rfl rfl (L.nil k0)) ?_
    refine A.all [1] (by kernel_rfl) rfl ⟨⟨_, rfl, ?_⟩, trivial⟩
    refine L.loadPtr shape199 hF rfl rfl rfl rfl rfl rfl (L.nil ?_)
    refine A.all [2] (by kernel_rfl) rfl ⟨⟨_, rfl, ?_⟩, trivial⟩
    refine L.call [false] [] [] 1 hF rfl rfl rfl ent158 rfl rfl rfl rfl rfl (Fimpl_ConfigOk_2_gives k2  b94 r98 hr98) rfl (L.nil ?_)
    refine Atk 3 rfl (Ca.un rfl rfl) (fun Q0 k0 => L.not hF rfl rfl rfl (L.nil k0)) ?_
    refine Atk 4 rfl (Ca.move) (fun Q0 k0 => L.move hF rfl rfl rfl (L.nil k0)) ?_
    refine A.le (τ := mkSt [(0, one (Cell.sl g0 (List.map eTimpl_Pair v84))), (1, one (Cell.clo 158 [])), (5, one (cI v86)), (6, one (Cell.ptr 0 0)), (7, one (Cell.sl g0 (List.map eTimpl_Pair v84))), (8, one (cI v85)), (9, one (cI v86)), (18, one (cL false))] [] [(0, [cI b94.A, cI b94.B])] 1) (Le.mk [(0, 0)] hm rfl (Sa4 (Sa2 (Sa1 (Sa1 trivial rfl (congrArg (fun b => some (one (cL b))) hc99))))) trivial (Ba1 trivial)) ?_
    refine Atk 5 rfl (Ca.move) (fun Q0 k0 => L.move hF rfl rfl rfl (L.nil k0)) ?_
    refine Atk 6 rfl (Ca.move) (fun Q0 k0 => L.move hF rfl rfl rfl (L.nil k0)) ?_
    refine Atk 7 rfl (Ca.slice) (fun Q0 k0 => L.cutR (xs := v84) (ys := b100) (e := eTimpl_Pair) Tryz.underlying42 info199 hF rfl rfl rfl rfl rfl hb100 (fun _ => rfl) (L.nil k0)) ?_
    refine A.all [8] (by kernel_rfl) rfl ⟨⟨_, rfl, ?_⟩, trivial⟩
    refine L.loadPtr shape199 hF rfl rfl rfl rfl rfl rfl (L.nil ?_)
    refine A.all [9] (by kernel_rfl) rfl ⟨⟨_, rfl, ?_⟩, trivial⟩
    refine L.call [false, false] [] [] 1 hF rfl rfl rfl ent228 rfl rfl rfl rfl rfl (Fslices_Contains_Pair_gives k2 g0 b100 b94 r101 hr101) rfl (L.nil ?_)
    refine Atk 10 rfl (Ca.pick) (fun Q0 k0 => L.pick hF rfl rfl rfl rfl (L.nil k0)) ?_
    refine A.le (τ := mkSt [(0, one (Cell.sl g0 (List.map eTimpl_Pair v84))), (1, one (Cell.clo 158 [])), (7, one (Cell.sl g0 (List.map eTimpl_Pair v84))), (8, one (cI v85)), (9, one (cI v86)), (24, one (cL r101))] [] [] 0) (Le.mk [] hm rfl (Sa4 (Sa2 trivial)) trivial trivial) ?_
    refine A.done (by kernel_rfl) ?_
    refine WpC.cond rfl (fun hc => ?_) (fun hc => ?_)
    ·replace H := condT hc H
     refine WpC.seq (WpC.regionL ?_)
     refine L.assign hF rfl rfl rfl (L.nil ?_)
     refine WpC.ret ?_
     cases H
     exact Leaves.ret rfl rfl rfl ⟨rfl, rfl⟩
    ·replace H := condF hc H
     refine WpC.skip (WpC.regionL ?_)
     refine L.bin hF rfl rfl rfl rfl rfl rfl ?_
     refine L.move hF rfl rfl rfl (L.nil ?_)
     exact ⟨k2, _, by omega, ⟨v84, v85, (IntKind.i64.wrap (v86 + (1 : Int))), by omega, H, rfl⟩, Le.mk [] hm rfl (Sa4 (Sa1 trivial)) trivial trivial⟩
  ·replace H := condF hc H
   refine WpC.exit (WpC.seq (WpC.regionL ?_))
   refine L.move hF rfl rfl rfl ?_
   refine L.lenR (xs := v84) (e := eTimpl_Pair) Tryz.underlying42 hF rfl rfl rfl rfl ?_
   refine L.bin hF rfl rfl rfl rfl rfl rfl ?_
   refine L.assign hF rfl rfl rfl (L.nil ?_)
   refine WpC.ret ?_
   cases H
   exact Leaves.ret rfl rfl rfl ⟨rfl, rfl⟩
/-! ### Fimpl_ConfigOk -/
def Fimpl_ConfigOk (k : Nat) (a0 : Timpl_Config) : Option Bool := (Fimpl_arePairs__impl_ConfigOk_1 k a0.Links).bind fun r1 => (Fimpl_arePairs__impl_ConfigOk_2 k a0.Proxy).bind fun r2 => cond r1 (cond r2 (cond ((a0.UserRealm.length : Int) == (3 : Int)) ((Fimpl_areAll__impl_isRealm k a0.UserRealm (3 : Int)).bind fun r6 => cond r6 (cond ((a0.ServiceRealm.length : Int) == (3 : Int)) ((Fimpl_areAll__impl_isRealm k a0.ServiceRealm (3 : Int)).bind fun r7 => cond r7 ((Fimpl_within k a0.Skew (0 : Int) (20 : Int)).bind fun r8 => some r8) (some false)) (some false)) (some false)) (some false)) (some false)) (some false)
theorem ent60 : MG.Enters Tryz.prog 60 := ⟨Tryz.f60, Tryz.func60, rfl, by decide⟩
set_option maxHeartbeats 8000000 in
set_option maxRecDepth 100000 in
theorem Fimpl_ConfigOk_gives (k : Nat) (g0 : Bool) (g1 : Bool) (g2 : Bool) (g3 : Bool) (a0 : Timpl_Config) (r : Bool) (H : Fimpl_ConfigOk k a0 = some r) : Gives Tryz.prog 60 [V.agg [Cell.sl g0 (List.map eI a0.UserRealm), Cell.sl g1 (List.map eI a0.ServiceRealm), Cell.sl g2 (List.map eTimpl_Pair a0.Links), Cell.sl g3 (List.map eTimpl_Pair a0.Proxy), cI a0.Skew]] [] [V.one (cL r)] [] := by
 refine Gives.intro Tryz.func60 rfl rfl rfl rfl ?_
 intro F hF hm
 unfold Fimpl_ConfigOk at H
 obtain ⟨K, hK⟩ : ∃ K, k ≤ K := ⟨k, Nat.le_refl k⟩
 refine WpC.seq (WpC.regionL ?_)
 refine L.box 5 hF rfl rfl rfl rfl ?_
 refine L.assign hF rfl rfl rfl (L.nil ?_)
 refine WpC.seq (WpC.regionL ?_)
 refine L.fieldAddr Tryz.underlying44 rfl info42 rfl hF rfl rfl rfl rfl rfl ?_
 refine L.loadPtr shape42 hF rfl rfl rfl rfl rfl rfl ?_
 obtain ⟨r1, hr1, H⟩ := bindS H
 refine L.call [false, false] [] [] 6 hF rfl rfl rfl ent156 rfl rfl rfl rfl rfl (Fimpl_arePairs__impl_ConfigOk_1_gives k g2 a0.Links r1 hr1) rfl ?_
 refine L.assign hF rfl rfl rfl (L.nil ?_)
 refine WpC.seq (WpC.regionL ?_)
 refine L.fieldAddr Tryz.underlying44 rfl info42 rfl hF rfl rfl rfl rfl rfl ?_
 refine L.loadPtr shape42 hF rfl rfl rfl rfl rfl rfl ?_
 obtain ⟨r2, hr2, H⟩ := bindS H
 refine L.call [false, false] [] [] 7 hF rfl rfl rfl ent156 rfl rfl rfl rfl rfl (Fimpl_arePairs__impl_ConfigOk_2_gives k g3 a0.Proxy r2 hr2) rfl ?_
 refine L.assign hF rfl rfl rfl (L.nil ?_)
 refine WpC.seq (WpC.regionL ?_)
 refine L.move hF rfl rfl rfl ?_
 refine L.move hF rfl rfl rfl ?_
 refine L.split (fun hc => ?_) (fun hc => ?_)
 ·replace H := condT hc H
  refine L.move hF rfl rfl rfl ?_
  refine L.pick hF rfl rfl rfl rfl ?_
  refine L.move hF rfl rfl rfl ?_
  refine L.split (fun hc => ?_) (fun hc => ?_)
  ·replace H := condT hc H
   refine L.fieldAddr Tryz.underlying44 rfl info22 rfl hF rfl rfl rfl rfl rfl ?_
   refine L.loadPtr shape22 hF rfl rfl rfl rfl rfl rfl ?_
   refine L.lenR (xs := a0.UserRealm) (e := eI) Tryz.underlying22 hF rfl rfl rfl rfl ?_
   refine L.bin hF rfl rfl rfl rfl rfl rfl ?_
   refine L.pick hF rfl rfl rfl rfl ?_
   refine L.move hF rfl rfl rfl ?_
   refine L.split (fun hc => ?_) (fun hc => ?_)
   ·replace H := condT hc H
    refine L.fieldAddr Tryz.underlying44 rfl info22 rfl hF rfl rfl rfl rfl rfl ?_
    refine L.loadPtr shape22 hF rfl rfl rfl rfl rfl rfl ?_
    obtain ⟨r6, hr6, H⟩ := bindS H
    refine L.call [false, false, false] [] [] 8 hF rfl rfl rfl ent159 rfl rfl rfl rfl rfl (Fimpl_areAll__impl_isRealm_gives k g0 a0.UserRealm (3 : Int) r6 hr6) rfl ?_
    refine L.pick hF rfl rfl rfl rfl ?_
    refine L.move hF rfl rfl rfl ?_
    refine L.split (fun hc => ?_) (fun hc => ?_)
    ·replace H := condT hc H
     refine L.fieldAddr Tryz.underlying44 rfl info22 rfl hF rfl rfl rfl rfl rfl ?_
     refine L.loadPtr shape22 hF rfl rfl rfl rfl rfl rfl ?_
     refine L.lenR (xs := a0.ServiceRealm) (e := eI) Tryz.underlying22 hF rfl rfl rfl rfl ?_
     refine L.bin hF rfl rfl rfl rfl rfl rfl ?_
     refine L.pick hF rfl rfl rfl rfl ?_
     refine L.move hF rfl rfl rfl ?_
     refine L.split (fun hc => ?_) (fun hc => ?_)
     ·replace H := condT hc H
      refine L.fieldAddr Tryz.underlying44 rfl info22 rfl hF rfl rfl rfl rfl rfl ?_
      refine L.loadPtr shape22 hF rfl rfl rfl rfl rfl rfl ?_
      obtain ⟨r7, hr7, H⟩ := bindS H
      refine L.call [false, false, false] [] [] 9 hF rfl rfl rfl ent159 rfl rfl rfl rfl rfl (Fimpl_areAll__impl_isRealm_gives k g1 a0.ServiceRealm (3 : Int) r7 hr7) rfl ?_
      refine L.pick hF rfl rfl rfl rfl ?_
      refine L.move hF rfl rfl rfl ?_
      refine L.split (fun hc => ?_) (fun hc => ?_)
      ·replace H := condT hc H
       refine L.fieldAddr Tryz.underlying44 rfl info3 rfl hF rfl rfl rfl rfl rfl ?_
       refine L.loadPtr shape3 hF rfl rfl rfl rfl rfl rfl ?_
       obtain ⟨r8, hr8, H⟩ := bindS H
       refine L.call [false, false, false] [] [] 10 hF rfl rfl rfl ent118 rfl rfl rfl rfl rfl (Fimpl_within_gives k  a0.Skew (0 : Int) (20 : Int) r8 hr8) rfl ?_
       refine L.pick hF rfl rfl rfl rfl ?_
       refine L.assign hF rfl rfl rfl (L.nil ?_)
       refine WpC.ret ?_
       cases H
       exact Leaves.ret rfl rfl rfl ⟨rfl, rfl⟩
      ·replace H := condF hc H
       refine L.off hF rfl rfl ?_
       refine L.off hF rfl rfl ?_
       refine L.off hF rfl rfl ?_
       refine L.pick hF rfl rfl rfl rfl ?_
       refine L.assign hF rfl rfl rfl (L.nil ?_)
       refine WpC.ret ?_
       cases H
       exact Leaves.ret rfl rfl rfl ⟨rfl, rfl⟩
     ·replace H := condF hc H
      refine L.off hF rfl rfl ?_
      refine L.off hF rfl rfl ?_
      refine L.off hF rfl rfl ?_
      refine L.pick hF rfl rfl rfl rfl ?_
      refine L.move hF rfl rfl rfl ?_
      refine L.off hF rfl rfl ?_
      refine L.off hF rfl rfl ?_
      refine L.off hF rfl rfl ?_
      refine L.pick hF rfl rfl rfl rfl ?_
      refine L.assign hF rfl rfl rfl (L.nil ?_)
      refine WpC.ret ?_
      cases H
      exact Leaves.ret rfl rfl rfl ⟨rfl, rfl⟩
    ·replace H := condF hc H
     refine L.off hF rfl rfl ?_
     refine L.off hF rfl rfl ?_
     refine L.off hF rfl rfl ?_
     refine L.off hF rfl rfl ?_
     refine L.pick hF rfl rfl rfl rfl ?_
     refine L.move hF rfl rfl rfl ?_
     refine L.off hF rfl rfl ?_
     refine L.off hF rfl rfl ?_
     refine L.off hF rfl rfl ?_
     refine L.pick hF rfl rfl rfl rfl ?_
     refine L.move hF rfl rfl rfl ?_
     refine L.off hF rfl rfl ?_
     refine L.off hF rfl rfl ?_
     refine L.off hF rfl rfl ?_
     refine L.pick hF rfl rfl rfl rfl ?_
     refine L.assign hF rfl rfl rfl (L.nil ?_)
     refine WpC.ret ?_
     cases H
     exact Leaves.ret rfl rfl rfl ⟨rfl, rfl⟩
   ·replace H := condF hc H
    refine L.off hF rfl rfl ?_
    refine L.off hF rfl rfl ?_
    refine L.off hF rfl rfl ?_
    refine L.pick hF rfl rfl rfl rfl ?_
    refine L.move hF rfl rfl rfl ?_
    refine L.off hF rfl rfl ?_
    refine L.off hF rfl rfl ?_
    refine L.off hF rfl rfl ?_
    refine L.off hF rfl rfl ?_
    refine L.pick hF rfl rfl rfl rfl ?_
    refine L.move hF rfl rfl rfl ?_
    refine L.off hF rfl rfl ?_
    refine L.off hF rfl rfl ?_
    refine L.off hF rfl rfl ?_
    refine L.pick hF rfl rfl rfl rfl ?_
    refine L.move hF rfl rfl rfl ?_
    refine L.off hF rfl rfl ?_
    refine L.off hF rfl rfl ?_
    refine L.off hF rfl rfl ?_
    refine L.pick hF rfl rfl rfl rfl ?_
    refine L.assign hF rfl rfl rfl (L.nil ?_)
    refine WpC.ret ?_
    cases H
    exact Leaves.ret rfl rfl rfl ⟨rfl, rfl⟩
  ·replace H := condF hc H
   refine L.off hF rfl rfl ?_
   refine L.off hF rfl rfl ?_
   refine L.off hF rfl rfl ?_
   refine L.off hF rfl rfl ?_
   refine L.pick hF rfl rfl rfl rfl ?_
   refine L.move hF rfl rfl rfl ?_
   refine L.off hF rfl rfl ?_
   refine L.off hF rfl rfl ?_
   refine L.off hF rfl rfl ?_
   refine L.pick hF rfl rfl rfl rfl ?_
   refine L.move hF rfl rfl rfl ?_
   refine L.off hF rfl rfl ?_
   refine L.off hF rfl rfl ?_
   refine L.off hF rfl rfl ?_
   refine L.off hF rfl rfl ?_
   refine L.pick hF rfl rfl rfl rfl ?_
   refine L.move hF rfl rfl rfl ?_
   refine L.off hF rfl rfl ?_
   refine L.off hF rfl rfl ?_
   refine L.off hF rfl rfl ?_
   refine L.pick hF rfl rfl rfl rfl ?_
   refine L.move hF rfl rfl rfl ?_
   refine L.off hF rfl rfl ?_
   refine L.off hF rfl rfl ?_
   refine L.off hF rfl rfl ?_
   refine L.pick hF rfl rfl rfl rfl ?_
   refine L.assign hF rfl rfl rfl (L.nil ?_)
   refine WpC.ret ?_
   cases H
   exact Leaves.ret rfl rfl rfl ⟨rfl, rfl⟩
 ·replace H := condF hc H
  refine L.off hF rfl rfl ?_
  refine L.pick hF rfl rfl rfl rfl ?_
  refine L.move hF rfl rfl rfl ?_
  refine L.off hF rfl rfl ?_
  refine L.off hF rfl rfl ?_
  refine L.off hF rfl rfl ?_
  refine L.off hF rfl rfl ?_
  refine L.pick hF rfl rfl rfl rfl ?_
  refine L.move hF rfl rfl rfl ?_
  refine L.off hF rfl rfl ?_
  refine L.off hF rfl rfl ?_
  refine L.off hF rfl rfl ?_
  refine L.pick hF rfl rfl rfl rfl ?_
  refine L.move hF rfl rfl rfl ?_
  refine L.off hF rfl rfl ?_
  refine L.off hF rfl rfl ?_
  refine L.off hF rfl rfl ?_
  refine L.off hF rfl rfl ?_
  refine L.pick hF rfl rfl rfl rfl ?_
  refine L.move hF rfl rfl rfl ?_
  refine L.off hF rfl rfl ?_
  refine L.off hF rfl rfl ?_
  refine L.off hF rfl rfl ?_
  refine L.pick hF rfl rfl rfl rfl ?_
  refine L.move hF rfl rfl rfl ?_
  refine L.off hF rfl rfl ?_
  refine L.off hF rfl rfl ?_
  refine L.off hF rfl rfl ?_
  refine L.pick hF rfl rfl rfl rfl ?_
  refine L.assign hF rfl rfl rfl (L.nil ?_)
  refine WpC.ret ?_
  cases H
  exact Leaves.ret rfl rfl rfl ⟨rfl, rfl⟩
/-! ### Fslices_Index_string -/
def Fslices_Index_string.l2 : Nat → (List (List UInt8)) → (List UInt8) → Int → Int → Option Int
 | 0, _, _, _, _ => none
 | k2 + 1, v29, v30, v31, v32 => cond (decide (v32 < v31)) ((at? v29 v32).bind fun b34 => cond (v30 == b34) (some v32) ((Fslices_Index_string.l2 k2) v29 v30 v31 (IntKind.i64.wrap (v32 + (1 : Int))))) (some (-1 : Int))
def Fslices_Index_string (k : Nat) (a0 : List (List UInt8)) (a1 : List UInt8) : Option Int := Fslices_Index_string.l2 k a0 a1 (a0.length : Int) (0 : Int)
theorem ent236 : MG.Enters Tryz.prog 236 := ⟨Tryz.f236, Tryz.func236, rfl, by decide⟩
set_option maxHeartbeats 8000000 in
set_option maxRecDepth 100000 in
theorem Fslices_Index_string_gives (k : Nat) (g0 : Bool) (a0 : List (List UInt8)) (a1 : List UInt8) (r : Int) (H : Fslices_Index_string k a0 a1 = some r) : Gives Tryz.prog 236 [V.one (Cell.sl g0 (List.map eS a0)), V.one (cS a1)] [] [V.one (cI r)] [] := by
 refine Gives.intro Tryz.func236 rfl rfl rfl rfl ?_
 intro F hF hm
 unfold Fslices_Index_string at H
 obtain ⟨K, hK⟩ : ∃ K, k ≤ K := ⟨k, Nat.le_refl k⟩
 refine WpC.seq (WpC.regionL ?_)
 refine L.assign hF rfl rfl rfl (L.nil ?_)
 refine WpC.seq (WpC.seq (WpC.regionL ?_))
 refine L.move hF rfl rfl rfl ?_
 refine L.lenR (xs := a0) (e := eS) Tryz.underlying61 hF rfl rfl rfl rfl ?_
 refine L.move hF rfl rfl rfl (L.nil ?_)
 refine WpC.block ?_
 refine WpC.loopL (P := Tryz.prog) (fun n σ => ∃ v29 : List (List UInt8), ∃ v30 : List UInt8, ∃ v31 : Int, ∃ v32 : Int, n ≤ K ∧ Fslices_Index_string.l2 n v29 v30 v31 v32 = some r ∧ σ = mkSt [(0, one (Cell.sl g0 (List.map eS v29))), (1, one (cS v30)), (7, one (cI v31)), (8, one (cI v32))] [] [] 0) k ⟨_, ⟨a0, a1, (a0.length : Int), (0 : Int), by omega, H, rfl⟩, Le.mk [] hm rfl (Sa4 trivial) trivial trivial⟩ ?_
 clear H
 rintro k2 _ ⟨v29, v30, v31, v32, hk2, H, rfl⟩
 cases k2 with
 | zero => cases H
 | succ k2 =>
  rw [Fslices_Index_string.l2] at H
  refine WpC.seq (WpC.regionL ?_)
  refine L.bin hF rfl rfl rfl rfl rfl rfl (L.nil ?_)
  refine WpC.seq ?_
  refine WpC.cond rfl (fun hc => ?_) (fun hc => ?_)
  ·replace H := condT hc H
   refine WpC.skip (WpC.seq (WpC.block (WpC.seq (WpC.regionL ?_))))
   refine L.move hF rfl rfl rfl ?_
   refine L.assign hF rfl rfl rfl (L.nil ?_)
   refine WpC.seq (WpC.regionL ?_)
   refine L.move hF rfl rfl rfl ?_
   refine L.move hF rfl rfl rfl ?_
   refine L.move hF rfl rfl rfl ?_
   obtain ⟨b34, hb34, H⟩ := bindS H
   refine L.idxR (xs := v29) (e := eS) Tryz.underlying61 info9 hF rfl rfl rfl rfl rfl hb34 rfl rfl ?_
   refine L.loadPe shape9 hF rfl rfl rfl rfl rfl ?_
   refine L.binS hF rfl rfl rfl rfl rfl (L.nil ?_)
   refine WpC.cond rfl (fun hc => ?_) (fun hc => ?_)
   ·replace H := condT hc H
    refine WpC.seq (WpC.regionL ?_)
    refine L.move hF rfl rfl rfl ?_
    refine L.assign hF rfl rfl rfl (L.nil ?_)
    refine WpC.ret ?_
    cases H
    exact Leaves.ret rfl rfl rfl ⟨rfl, rfl⟩
   ·replace H := condF hc H
    refine WpC.skip (WpC.regionL ?_)
    refine L.bin hF rfl rfl rfl rfl rfl rfl ?_
    refine L.move hF rfl rfl rfl (L.nil ?_)
    exact ⟨k2, _, by omega, ⟨v29, v30, v31, (IntKind.i64.wrap (v32 + (1 : Int))), by omega, H, rfl⟩, Le.mk [] hm rfl (Sa4 trivial) trivial trivial⟩
  ·replace H := condF hc H
   refine WpC.exit (WpC.seq (WpC.regionL ?_))
   refine L.assign hF rfl rfl rfl (L.nil ?_)
   refine WpC.ret ?_
   cases H
   exact Leaves.ret rfl rfl rfl ⟨rfl, rfl⟩
/-! ### Fslices_Contains_string -/
def Fslices_Contains_string (k : Nat) (a0 : List (List UInt8)) (a1 : List UInt8) : Option Bool := (Fslices_Index_string k a0 a1).bind fun r1 => some (decide (r1 ≥ (0 : Int)))
theorem ent194 : MG.Enters Tryz.prog 194 := ⟨Tryz.f194, Tryz.func194, rfl, by decide⟩
set_option maxHeartbeats 8000000 in
set_option maxRecDepth 100000 in
theorem Fslices_Contains_string_gives (k : Nat) (g0 : Bool) (a0 : List (List UInt8)) (a1 : List UInt8) (r : Bool) (H : Fslices_Contains_string k a0 a1 = some r) : Gives Tryz.prog 194 [V.one (Cell.sl g0 (List.map eS a0)), V.one (cS a1)] [] [V.one (cL r)] [] := by
 refine Gives.intro Tryz.func194 rfl rfl rfl rfl ?_
 intro F hF hm
 unfold Fslices_Contains_string at H
 obtain ⟨K, hK⟩ : ∃ K, k ≤ K := ⟨k, Nat.le_refl k⟩
 refine WpC.seq (WpC.regionL ?_)
 refine L.assign hF rfl rfl rfl (L.nil ?_)
 refine WpC.seq (WpC.regionL ?_)
 refine L.move hF rfl rfl rfl ?_
 refine L.move hF rfl rfl rfl ?_
 obtain ⟨r1, hr1, H⟩ := bindS H
 refine L.call [false, false] [] [] 2 hF rfl rfl rfl ent236 rfl rfl rfl rfl rfl (Fslices_Index_string_gives k g0 a0 a1 r1 hr1) rfl ?_
 refine L.bin hF rfl rfl rfl rfl rfl rfl ?_
 refine L.assign hF rfl rfl rfl (L.nil ?_)
 refine WpC.ret ?_
 cases H
 exact Leaves.ret rfl rfl rfl ⟨rfl, rfl⟩
/-! ### Fimpl_rises -/
def Fimpl_rises.l2 : Nat → (List Int) → Int → Option Bool
 | 0, _, _ => none
 | k2 + 1, v29, v30 => cond (decide (v30 < (v29.length : Int))) ((at? v29 (IntKind.i64.wrap (v30 - (1 : Int)))).bind fun b33 => (at? v29 v30).bind fun b34 => cond (decide (b33 ≥ b34)) (some false) ((Fimpl_rises.l2 k2) v29 (IntKind.i64.wrap (v30 + (1 : Int))))) (some true)
def Fimpl_rises (k : Nat) (a0 : List Int) : Option Bool := Fimpl_rises.l2 k a0 (1 : Int)
theorem ent195 : MG.Enters Tryz.prog 195 := ⟨Tryz.f195, Tryz.func195, rfl, by decide⟩
set_option maxHeartbeats 8000000 in
set_option maxRecDepth 100000 in
theorem Fimpl_rises_gives (k : Nat) (g0 : Bool) (a0 : List Int) (r : Bool) (H : Fimpl_rises k a0 = some r) : Gives Tryz.prog 195 [V.one (Cell.sl g0 (List.map eI a0))] [] [V.one (cL r)] [] := by
 refine Gives.intro Tryz.func195 rfl rfl rfl rfl ?_
 intro F hF hm
 unfold Fimpl_rises at H
 obtain ⟨K, hK⟩ : ∃ K, k ≤ K := ⟨k, Nat.le_refl k⟩
 refine WpC.seq (WpC.regionL ?_)
 refine L.assign hF rfl rfl rfl (L.nil ?_)
 refine WpC.seq (WpC.seq (WpC.regionL ?_))
 refine L.assign hF rfl rfl rfl (L.nil ?_)
 refine WpC.block ?_
 refine WpC.loopL (P := Tryz.prog) (fun n σ => ∃ v29 : List Int, ∃ v30 : Int, n ≤ K ∧ Fimpl_rises.l2 n v29 v30 = some r ∧ σ = mkSt [(0, one (Cell.sl g0 (List.map eI v29))), (3, one (cI v30))] [] [] 0) k ⟨_, ⟨a0, (1 : Int), by omega, H, rfl⟩, Le.mk [] hm rfl (Sa2 trivial) trivial trivial⟩ ?_
 clear H
 rintro k2 _ ⟨v29, v30, hk2, H, rfl⟩
 cases k2 with
 | zero => cases H
 | succ k2 =>
  rw [Fimpl_rises.l2] at H
  refine WpC.seq (WpC.seq (WpC.regionL ?_))
  refine L.move hF rfl rfl rfl ?_
  refine L.move hF rfl rfl rfl ?_
  refine L.lenR (xs := v29) (e := eI) Tryz.underlying22 hF rfl rfl rfl rfl ?_
  refine L.bin hF rfl rfl rfl rfl rfl rfl (L.nil ?_)
  refine WpC.cond rfl (fun hc => ?_) (fun hc => ?_)
  ·replace H := condT hc H
   refine WpC.skip (WpC.seq (WpC.block (WpC.seq ?_)))
   refine S.begin mixed (by kernel_rfl) ?_
   refine S.st 0 rfl rfl ((Ca.move).quiet) (fun Q0 k0 => L.move hF rfl rfl rfl (L.nil k0)) ?_
   refine S.st 1 rfl rfl ((Ca.move).quiet) (fun Q0 k0 => L.move hF rfl rfl rfl (L.nil k0)) ?_
   refine S.st 2 rfl rfl ((Ca.bin rfl rfl (calm_int _ _ _ _ _ _ _ _)).quiet) (fun Q0 k0 => L.bin hF rfl rfl rfl rfl rfl rfl (L.nil k0)) ?_
   obtain ⟨b33, hb33, H⟩ := bindS H
   refine S.st 3 rfl rfl ((Ca.indexAddr).quiet) (fun Q0 k0 => L.idxR (xs := v29) (e := eI) Tryz.underlying22 info3 hF rfl rfl rfl rfl rfl hb33 rfl rfl (L.nil k0)) ?_
   refine S.st 4 rfl rfl (Qu.load) (fun Q0 k0 => L.loadPe shape3 hF rfl rfl rfl rfl rfl (L.nil k0)) ?_
   refine S.st 5 rfl rfl ((Ca.move).quiet) (fun Q0 k0 => L.move hF rfl rfl rfl (L.nil k0)) ?_
   refine S.st 6 rfl rfl ((Ca.move).quiet) (fun Q0 k0 => L.move hF rfl rfl rfl (L.nil k0)) ?_
   obtain ⟨b34, hb34, H⟩ := bindS H
   refine S.st 7 rfl rfl ((Ca.indexAddr).quiet) (fun Q0 k0 => L.idxR (xs := v29) (e := eI) Tryz.underlying22 info3 hF rfl rfl rfl rfl rfl hb34 rfl rfl (L.nil k0)) ?_
   refine S.st 8 rfl rfl (Qu.load) (fun Q0 k0 => L.loadPe shape3 hF rfl rfl rfl rfl rfl (L.nil k0)) ?_
   refine S.st 9 rfl rfl ((Ca.bin rfl rfl (calm_int _ _ _ _ _ _ _ _)).quiet) (fun Q0 k0 => L.bin hF rfl rfl rfl rfl rfl rfl (L.nil k0)) ?_
   refine S.nil ?_
   refine WpC.cond rfl (fun hc => ?_) (fun hc => ?_)
   ·replace H := condT hc H
    refine WpC.seq (WpC.regionL ?_)
    refine L.assign hF rfl rfl rfl (L.nil ?_)
    refine WpC.ret ?_
    cases H
    exact Leaves.ret rfl rfl rfl ⟨rfl, rfl⟩
   ·replace H := condF hc H
    refine WpC.skip (WpC.regionL ?_)
    refine L.move hF rfl rfl rfl ?_
    refine L.bin hF rfl rfl rfl rfl rfl rfl ?_
    refine L.assign hF rfl rfl rfl (L.nil ?_)
    exact ⟨k2, _, by omega, ⟨v29, (IntKind.i64.wrap (v30 + (1 : Int))), by omega, H, rfl⟩, Le.mk [] hm rfl (Sa2 trivial) trivial trivial⟩
  ·replace H := condF hc H
   refine WpC.exit (WpC.seq (WpC.regionL ?_))
   refine L.assign hF rfl rfl rfl (L.nil ?_)
   refine WpC.ret ?_
   cases H
   exact Leaves.ret rfl rfl rfl ⟨rfl, rfl⟩
/-! ### Fimpl_KnownOk -/
def Fimpl_KnownOk.l4 : Nat → Timpl_Known → Int → Int → Option Bool
 | 0, _, _, _ => none
 | k4 + 1, v134, v135, v136 => cond (decide (v136 < v135)) ((at? v134.Keys v136).bind fun b139 => (Fimpl_isKey k4 b139).bind fun r140 => cond (!r140) (some false) ((Fimpl_KnownOk.l4 k4) v134 v135 (IntKind.i64.wrap (v136 + (1 : Int))))) (cond (decide ((v134.Terms.length : Int) ≤ (60 : Int))) (cond (decide ((v134.Keys.length : Int) ≤ (40 : Int))) ((Fimpl_rises k4 v134.Keys).bind fun r142 => some r142) (some false)) (some false))
def Fimpl_KnownOk.l2 : Nat → Timpl_Known → Int → Int → Option Bool
 | 0, _, _, _ => none
 | k2 + 1, v84, v85, v86 => cond (decide (v86 < v85)) ((at? v84.Terms v86).bind fun b94 => (Fimpl_TermOk k2 b94).bind fun r98 => cond (!r98) (some false) ((part? v84.Terms (0 : Int) v86).bind fun b99 => (Fslices_Contains_string k2 b99 b94).bind fun r100 => cond r100 (some false) ((Fimpl_KnownOk.l2 k2) v84 v85 (IntKind.i64.wrap (v86 + (1 : Int)))))) (Fimpl_KnownOk.l4 k2 v84 (v84.Keys.length : Int) (0 : Int))
def Fimpl_KnownOk (k : Nat) (a0 : Timpl_Known) : Option Bool := Fimpl_KnownOk.l2 k a0 (a0.Terms.length : Int) (0 : Int)
theorem ent119 : MG.Enters Tryz.prog 119 := ⟨Tryz.f119, Tryz.func119, rfl, by decide⟩
set_option maxHeartbeats 8000000 in
set_option maxRecDepth 100000 in
theorem Fimpl_KnownOk_gives (k : Nat) (g0 : Bool) (g1 : Bool) (a0 : Timpl_Known) (r : Bool) (H : Fimpl_KnownOk k a0 = some r) : Gives Tryz.prog 119 [V.agg [Cell.sl g0 (List.map eS a0.Terms), Cell.sl g1 (List.map eI a0.Keys)]] [] [V.one (cL r)] [] := by
 refine Gives.intro Tryz.func119 rfl rfl rfl rfl ?_
 intro F hF hm
 unfold Fimpl_KnownOk at H
 obtain ⟨K, hK⟩ : ∃ K, k ≤ K := ⟨k, Nat.le_refl k⟩
 refine WpC.seq (WpC.regionL ?_)
 refine L.box 2 hF rfl rfl rfl rfl ?_
 refine L.assign hF rfl rfl rfl (L.nil ?_)
 refine WpC.seq (WpC.seq (WpC.regionL ?_))
 refine L.fieldAddr Tryz.underlying73 rfl info61 rfl hF rfl rfl rfl rfl rfl ?_
 refine L.loadPtr shape61 hF rfl rfl rfl rfl rfl rfl ?_
 refine L.lenR (xs := a0.Terms) (e := eS) Tryz.underlying61 hF rfl rfl rfl rfl ?_
 refine L.move hF rfl rfl rfl (L.nil ?_)
 refine WpC.block ?_
 refine WpC.loopL (P := Tryz.prog) (fun n σ => ∃ v84 : Timpl_Known, ∃ v85 : Int, ∃ v86 : Int, n ≤ K ∧ Fimpl_KnownOk.l2 n v84 v85 v86 = some r ∧ σ = mkSt [(1, one (Cell.ptr 0 0)), (8, one (Cell.sl g0 (List.map eS v84.Terms))), (9, one (cI v85)), (10, one (cI v86))] [] [(0, [Cell.sl g0 (List.map eS v84.Terms), Cell.sl g1 (List.map eI v84.Keys)])] 1) k ⟨_, ⟨a0, (a0.Terms.length : Int), (0 : Int), by omega, H, rfl⟩, Le.mk [(0, 2)] hm rfl (Sa4 trivial) trivial (Ba1 trivial)⟩ ?_
 clear H
 rintro k2 _ ⟨v84, v85, v86, hk2, H, rfl⟩
 cases k2 with
 | zero => cases H
 | succ k2 =>
  rw [Fimpl_KnownOk.l2] at H
  refine WpC.seq (WpC.regionL ?_)
  refine L.bin hF rfl rfl rfl rfl rfl rfl (L.nil ?_)
  refine WpC.seq ?_
  refine WpC.cond rfl (fun hc => ?_) (fun hc => ?_)
  ·replace H := condT hc H
   refine WpC.skip (WpC.seq (WpC.block (WpC.seq (WpC.regionL ?_))))
   refine L.move hF rfl rfl rfl ?_
   obtain ⟨b94, hb94, H⟩ := bindS H
   refine L.idxR (xs := v84.Terms) (e := eS) Tryz.underlying61 info9 hF rfl rfl rfl rfl rfl hb94 rfl rfl ?_
   refine L.loadPe shape9 hF rfl rfl rfl rfl rfl ?_
   refine L.assign hF rfl rfl rfl ?_
   refine L.assign hF rfl rfl rfl (L.nil ?_)
   refine WpC.seq (WpC.regionL ?_)
   refine L.move hF rfl rfl rfl ?_
   obtain ⟨r98, hr98, H⟩ := bindS H
   refine L.call [false] [] [] 1 hF rfl rfl rfl ent117 rfl rfl rfl rfl rfl (Fimpl_TermOk_gives k2  b94 r98 hr98) rfl ?_
   refine L.not hF rfl rfl rfl ?_
   refine L.move hF rfl rfl rfl ?_
   refine L.split (fun hc => ?_) (fun hc => ?_)
   ·replace H := condT hc H
    refine L.off hF rfl rfl ?_
    refine L.off hF rfl rfl ?_
    refine L.off hF rfl rfl ?_
    refine L.off hF rfl rfl ?_
    refine L.off hF rfl rfl ?_
    refine L.off hF rfl rfl ?_
    refine L.pick hF rfl rfl rfl rfl (L.nil ?_)
    refine WpC.cond rfl (fun _ => ?_) (fun hc => by cases hc)
    refine WpC.seq (WpC.regionL ?_)
    refine L.assign hF rfl rfl rfl (L.nil ?_)
    refine WpC.ret ?_
    cases H
    exact Leaves.ret rfl rfl rfl ⟨rfl, rfl⟩
   ·replace H := condF hc H
    refine L.fieldAddr Tryz.underlying73 rfl info61 rfl hF rfl rfl rfl rfl rfl ?_
    refine L.loadPtr shape61 hF rfl rfl rfl rfl rfl rfl ?_
    refine L.move hF rfl rfl rfl ?_
    obtain ⟨b99, hb99, H⟩ := bindS H
    refine L.cutR (xs := v84.Terms) (ys := b99) (e := eS) Tryz.underlying61 info9 hF rfl rfl rfl rfl rfl hb99 (fun _ => rfl) ?_
    refine L.move hF rfl rfl rfl ?_
    obtain ⟨r100, hr100, H⟩ := bindS H
    refine L.call [false, false] [] [] 2 hF rfl rfl rfl ent194 rfl rfl rfl rfl rfl (Fslices_Contains_string_gives k2 g0 b99 b94 r100 hr100) rfl ?_
    refine L.pick hF rfl rfl rfl rfl (L.nil ?_)
    refine WpC.cond rfl (fun hc => ?_) (fun hc => ?_)
    ·replace H := condT hc H
     refine WpC.seq (WpC.regionL ?_)
     refine L.assign hF rfl rfl rfl (L.nil ?_)
     refine WpC.ret ?_
     cases H
     exact Leaves.ret rfl rfl rfl ⟨rfl, rfl⟩
    ·replace H := condF hc H
     refine WpC.skip (WpC.regionL ?_)
     refine L.bin hF rfl rfl rfl rfl rfl rfl ?_
     refine L.move hF rfl rfl rfl (L.nil ?_)
     exact ⟨k2, _, by omega, ⟨v84, v85, (IntKind.i64.wrap (v86 + (1 : Int))), by omega, H, rfl⟩, Le.mk [(0, 0)] hm rfl (Sa4 trivial) trivial (Ba1 trivial)⟩
  ·replace H := condF hc H
   refine WpC.exit (WpC.seq (WpC.seq (WpC.regionL ?_)))
   refine L.fieldAddr Tryz.underlying73 rfl info22 rfl hF rfl rfl rfl rfl rfl ?_
   refine L.loadPtr shape22 hF rfl rfl rfl rfl rfl rfl ?_
   refine L.lenR (xs := v84.Keys) (e := eI) Tryz.underlying22 hF rfl rfl rfl rfl ?_
   refine L.move hF rfl rfl rfl (L.nil ?_)
   refine WpC.block ?_
   refine WpC.loopL (P := Tryz.prog) (fun n σ => ∃ v134 : Timpl_Known, ∃ v135 : Int, ∃ v136 : Int, n ≤ K ∧ Fimpl_KnownOk.l4 n v134 v135 v136 = some r ∧ σ = mkSt [(1, one (Cell.ptr 0 0)), (28, one (Cell.sl g1 (List.map eI v134.Keys))), (29, one (cI v135)), (30, one (cI v136))] [] [(0, [Cell.sl g0 (List.map eS v134.Terms), Cell.sl g1 (List.map eI v134.Keys)])] 1) k2 ⟨_, ⟨v84, (v84.Keys.length : Int), (0 : Int), by omega, H, rfl⟩, Le.mk [(0, 0)] hm rfl (Sa4 trivial) trivial (Ba1 trivial)⟩ ?_
   clear H
   rintro k4 _ ⟨v134, v135, v136, hk4, H, rfl⟩
   cases k4 with
   | zero => cases H
   | succ k4 =>
    rw [Fimpl_KnownOk.l4] at H
    refine WpC.seq (WpC.regionL ?_)
    refine L.bin hF rfl rfl rfl rfl rfl rfl (L.nil ?_)
    refine WpC.seq ?_
    refine WpC.cond rfl (fun hc => ?_) (fun hc => ?_)
    ·replace H := condT hc H
     refine WpC.skip (WpC.seq (WpC.block (WpC.seq (WpC.regionL ?_))))
     obtain ⟨b139, hb139, H⟩ := bindS H
     refine L.idxR (xs := v134.Keys) (e := eI) Tryz.underlying22 info3 hF rfl rfl rfl rfl rfl hb139 rfl rfl ?_
     refine L.loadPe shape3 hF rfl rfl rfl rfl rfl ?_
     refine L.assign hF rfl rfl rfl (L.nil ?_)
     refine WpC.seq (WpC.regionL ?_)
     refine L.move hF rfl rfl rfl ?_
     obtain ⟨r140, hr140, H⟩ := bindS H
     refine L.call [false] [] [] 1 hF rfl rfl rfl ent189 rfl rfl rfl rfl rfl (Fimpl_isKey_gives k4  b139 r140 hr140) rfl ?_
     refine L.not hF rfl rfl rfl (L.nil ?_)
     refine WpC.cond rfl (fun hc => ?_) (fun hc => ?_)
     ·replace H := condT hc H
      refine WpC.seq (WpC.regionL ?_)
      refine L.assign hF rfl rfl rfl (L.nil ?_)
      refine WpC.ret ?_
      cases H
      exact Leaves.ret rfl rfl rfl ⟨rfl, rfl⟩
     ·replace H := condF hc H
      refine WpC.skip (WpC.regionL ?_)
      refine L.bin hF rfl rfl rfl rfl rfl rfl ?_
      refine L.move hF rfl rfl rfl (L.nil ?_)
      exact ⟨k4, _, by omega, ⟨v134, v135, (IntKind.i64.wrap (v136 + (1 : Int))), by omega, H, rfl⟩, Le.mk [(0, 0)] hm rfl (Sa4 trivial) trivial (Ba1 trivial)⟩
    ·replace H := condF hc H
     refine WpC.exit (WpC.seq (WpC.regionL ?_))
     refine L.fieldAddr Tryz.underlying73 rfl info61 rfl hF rfl rfl rfl rfl rfl ?_
     refine L.loadPtr shape61 hF rfl rfl rfl rfl rfl rfl ?_
     refine L.lenR (xs := v134.Terms) (e := eS) Tryz.underlying61 hF rfl rfl rfl rfl ?_
     refine L.bin hF rfl rfl rfl rfl rfl rfl ?_
     refine L.move hF rfl rfl rfl ?_
     refine L.split (fun hc => ?_) (fun hc => ?_)
     ·replace H := condT hc H
      refine L.fieldAddr Tryz.underlying73 rfl info22 rfl hF rfl rfl rfl rfl rfl ?_
      refine L.loadPtr shape22 hF rfl rfl rfl rfl rfl rfl ?_
      refine L.lenR (xs := v134.Keys) (e := eI) Tryz.underlying22 hF rfl rfl rfl rfl ?_
      refine L.bin hF rfl rfl rfl rfl rfl rfl ?_
      refine L.pick hF rfl rfl rfl rfl ?_
      refine L.move hF rfl rfl rfl ?_
      refine L.split (fun hc => ?_) (fun hc => ?_)
      ·replace H := condT hc H
       refine L.fieldAddr Tryz.underlying73 rfl info22 rfl hF rfl rfl rfl rfl rfl ?_
       refine L.loadPtr shape22 hF rfl rfl rfl rfl rfl rfl ?_
       obtain ⟨r142, hr142, H⟩ := bindS H
       refine L.call [false] [] [] 1 hF rfl rfl rfl ent195 rfl rfl rfl rfl rfl (Fimpl_rises_gives k4 g1 v134.Keys r142 hr142) rfl ?_
       refine L.pick hF rfl rfl rfl rfl ?_
       refine L.assign hF rfl rfl rfl (L.nil ?_)
       refine WpC.ret ?_
       cases H
       exact Leaves.ret rfl rfl rfl ⟨rfl, rfl⟩
      ·replace H := condF hc H
       refine L.off hF rfl rfl ?_
       refine L.off hF rfl rfl ?_
       refine L.off hF rfl rfl ?_
       refine L.pick hF rfl rfl rfl rfl ?_
       refine L.assign hF rfl rfl rfl (L.nil ?_)
       refine WpC.ret ?_
       cases H
       exact Leaves.ret rfl rfl rfl ⟨rfl, rfl⟩
     ·replace H := condF hc H
      refine L.off hF rfl rfl ?_
      refine L.off hF rfl rfl ?_
      refine L.off hF rfl rfl ?_
      refine L.off hF rfl rfl ?_
      refine L.pick hF rfl rfl rfl rfl ?_
      refine L.move hF rfl rfl rfl ?_
      refine L.off hF rfl rfl ?_
      refine L.off hF rfl rfl ?_
      refine L.off hF rfl rfl ?_
      refine L.pick hF rfl rfl rfl rfl ?_
      refine L.assign hF rfl rfl rfl (L.nil ?_)
      refine WpC.ret ?_
      cases H
      exact Leaves.ret rfl rfl rfl ⟨rfl, rfl⟩
/-! ### Fimpl_WorldOk -/
def Fimpl_WorldOk.l8 : Nat → Timpl_World → Int → Int → Option Bool
 | 0, _, _, _ => none
 | k8 + 1, v154, v155, v156 => cond (decide (v156 < v155)) ((at? v154.Accepts v156).bind fun b159 => (Fimpl_acceptOk k8 b159 (v154.Leaked.length : Int)).bind fun r160 => cond (!r160) (some false) ((Fimpl_WorldOk.l8 k8) v154 v155 (IntKind.i64.wrap (v156 + (1 : Int))))) ((Fslices_ContainsFunc_string__impl_WorldOk_1 k8 v154.Net).bind fun r164 => cond r164 (some false) (cond (decide ((v154.Net.length : Int) > (50 : Int))) (some false) ((Fimpl_ConfigOk k8 (⟨v154.Config.UserRealm, v154.Config.ServiceRealm, v154.Config.Links, v154.Config.Proxy, v154.Config.Skew⟩ : Timpl_Config)).bind fun r169 => cond r169 ((Fimpl_isTime k8 v154.Now).bind fun r170 => cond r170 ((Fimpl_within k8 v154.Fresh (101 : Int) (1000000 : Int)).bind fun r171 => cond r171 ((Fimpl_KnownOk k8 (⟨v154.Known.Terms, v154.Known.Keys⟩ : Timpl_Known)).bind fun r172 => cond r172 (cond ((v154.Waits.length : Int) == (6 : Int)) (cond (decide ((v154.Creds.length : Int) ≤ (30 : Int))) (cond ((v154.Caches.length : Int) == (3 : Int)) (cond (decide ((v154.Log.length : Int) ≤ (40 : Int))) (cond (decide ((v154.Accepts.length : Int) ≤ (40 : Int))) (some (decide ((v154.Leaked.length : Int) ≤ (40 : Int)))) (some false)) (some false)) (some false)) (some false)) (some false)) (some false)) (some false)) (some false)) (some false))))
def Fimpl_WorldOk.l6 : Nat → Timpl_World → Int → Int → Option Bool
 | 0, _, _, _ => none
 | k6 + 1, v114, v115, v116 => cond (decide (v116 < v115)) ((at? v114.Caches v116).bind fun b119 => (Fimpl_CacheOk k6 b119).bind fun r120 => cond (!r120) (some false) ((Fimpl_WorldOk.l6 k6) v114 v115 (IntKind.i64.wrap (v116 + (1 : Int))))) (Fimpl_WorldOk.l8 k6 v114 (v114.Accepts.length : Int) (0 : Int))
def Fimpl_WorldOk.l4 : Nat → Timpl_World → Int → Int → Option Bool
 | 0, _, _, _ => none
 | k4 + 1, v74, v75, v76 => cond (decide (v76 < v75)) ((at? v74.Creds v76).bind fun b79 => (Fimpl_CredOk k4 b79).bind fun r80 => cond (!r80) (some false) ((Fimpl_WorldOk.l4 k4) v74 v75 (IntKind.i64.wrap (v76 + (1 : Int))))) (Fimpl_WorldOk.l6 k4 v74 (v74.Caches.length : Int) (0 : Int))
def Fimpl_WorldOk.l2 : Nat → Timpl_World → Int → Int → Option Bool
 | 0, _, _, _ => none
 | k2 + 1, v34, v35, v36 => cond (decide (v36 < v35)) ((at? v34.Waits v36).bind fun b39 => (Fimpl_waitOk k2 b39).bind fun r40 => cond (!r40) (some false) ((Fimpl_WorldOk.l2 k2) v34 v35 (IntKind.i64.wrap (v36 + (1 : Int))))) (Fimpl_WorldOk.l4 k2 v34 (v34.Creds.length : Int) (0 : Int))
def Fimpl_WorldOk (k : Nat) (a0 : Timpl_World) : Option Bool := Fimpl_WorldOk.l2 k a0 (a0.Waits.length : Int) (0 : Int)
theorem ent31 : MG.Enters Tryz.prog 31 := ⟨Tryz.f31, Tryz.func31, rfl, by decide⟩
set_option maxHeartbeats 8000000 in
set_option maxRecDepth 100000 in
theorem Fimpl_WorldOk_gives (k : Nat) (g0 : Bool) (g1 : Bool) (g2 : Bool) (g3 : Bool) (g4 : Bool) (g5 : Bool) (g6 : Bool) (g7 : Bool) (g8 : Bool) (g9 : Bool) (g10 : Bool) (g11 : Bool) (g12 : Bool) (a0 : Timpl_World) (r : Bool) (H : Fimpl_WorldOk k a0 = some r) : Gives Tryz.prog 31 [V.agg [Cell.sl g0 (List.map eI a0.Config.UserRealm), Cell.sl g1 (List.map eI a0.Config.ServiceRealm), Cell.sl g2 (List.map eTimpl_Pair a0.Config.Links), Cell.sl g3 (List.map eTimpl_Pair a0.Config.Proxy), cI a0.Config.Skew, cI a0.Now, cI a0.Fresh, Cell.sl g4 (List.map eS a0.Net), Cell.sl g5 (List.map eS a0.Known.Terms), Cell.sl g6 (List.map eI a0.Known.Keys), Cell.sl g7 (List.map eTimpl_Wait a0.Waits), Cell.sl g8 (List.map eTimpl_Cred a0.Creds), Cell.sl g9 (List.map eTimpl_Cache a0.Caches), Cell.sl g10 (List.map eTimpl_Event a0.Log), Cell.sl g11 (List.map eTimpl_Accept a0.Accepts), Cell.sl g12 (List.map eI a0.Leaked)]] [] [V.one (cL r)] [] := by
 refine Gives.intro Tryz.func31 rfl rfl rfl rfl ?_
 intro F hF hm
 unfold Fimpl_WorldOk at H
 obtain ⟨K, hK⟩ : ∃ K, k ≤ K := ⟨k, Nat.le_refl k⟩
 refine WpC.seq (WpC.regionL ?_)
 refine L.box 16 hF rfl rfl rfl rfl ?_
 refine L.assign hF rfl rfl rfl (L.nil ?_)
 refine WpC.seq (WpC.seq (WpC.regionL ?_))
 refine L.fieldAddr Tryz.underlying80 rfl info74 rfl hF rfl rfl rfl rfl rfl ?_
 refine L.loadPtr shape74 hF rfl rfl rfl rfl rfl rfl ?_
 refine L.lenR (xs := a0.Waits) (e := eTimpl_Wait) Tryz.underlying74 hF rfl rfl rfl rfl ?_
 refine L.move hF rfl rfl rfl (L.nil ?_)
 refine WpC.block ?_
 refine WpC.loopL (P := Tryz.prog) (fun n σ => ∃ v34 : Timpl_World, ∃ v35 : Int, ∃ v36 : Int, n ≤ K ∧ Fimpl_WorldOk.l2 n v34 v35 v36 = some r ∧ σ = mkSt [(1, one (Cell.ptr 0 0)), (12, one (Cell.sl g7 (List.map eTimpl_Wait v34.Waits))), (13, one (cI v35)), (14, one (cI v36))] [] [(0, (bTimpl_World g0 g1 g2 g3 g4 g5 g6 g7 g8 g9 g10 g11 g12 v34))] 1) k ⟨_, ⟨a0, (a0.Waits.length : Int), (0 : Int), by omega, H, rfl⟩, Le.mk [(0, 16)] hm rfl (Sa4 trivial) trivial (Ba1 trivial)⟩ ?_
 clear H
 rintro k2 _ ⟨v34, v35, v36, hk2, H, rfl⟩
 cases k2 with
 | zero => cases H
 | succ k2 =>
  rw [Fimpl_WorldOk.l2] at H
  refine WpC.seq (WpC.regionL ?_)
  refine L.bin hF rfl rfl rfl rfl rfl rfl (L.nil ?_)
  refine WpC.seq ?_
  refine WpC.cond rfl (fun hc => ?_) (fun hc => ?_)
  ·replace H := condT hc H
   refine WpC.skip (WpC.seq (WpC.block (WpC.seq (WpC.regionL ?_))))
   obtain ⟨b39, hb39, H⟩ := bindS H
   refine L.idxR (xs := v34.Waits) (e := eTimpl_Wait) Tryz.underlying74 info159 hF rfl rfl rfl rfl rfl hb39 rfl rfl ?_
   refine L.loadPe shape159 hF rfl rfl rfl rfl rfl ?_
   refine L.alloc 1 info159 rfl hF rfl rfl rfl rfl ?_
   refine L.storePtr shape159 hF rfl rfl rfl rfl rfl rfl rfl (L.nil ?_)
   refine WpC.seq (WpC.regionL ?_)
   refine L.loadPtr shape159 hF rfl rfl rfl rfl rfl rfl ?_
   obtain ⟨r40, hr40, H⟩ := bindS H
   refine L.call [false] [] [] 2 hF rfl rfl rfl ent112 rfl rfl rfl rfl rfl (Fimpl_waitOk_gives k2  b39 r40 hr40) rfl ?_
   refine L.not hF rfl rfl rfl (L.nil ?_)
   refine WpC.cond rfl (fun hc => ?_) (fun hc => ?_)
   ·replace H := condT hc H
    refine WpC.seq (WpC.regionL ?_)
    refine L.assign hF rfl rfl rfl (L.nil ?_)
    refine WpC.ret ?_
    cases H
    exact Leaves.ret rfl rfl rfl ⟨rfl, rfl⟩
   ·replace H := condF hc H
    refine WpC.skip (WpC.regionL ?_)
    refine L.bin hF rfl rfl rfl rfl rfl rfl ?_
    refine L.move hF rfl rfl rfl (L.nil ?_)
    exact ⟨k2, _, by omega, ⟨v34, v35, (IntKind.i64.wrap (v36 + (1 : Int))), by omega, H, rfl⟩, Le.mk [(0, 0)] hm rfl (Sa4 trivial) trivial (Ba1 trivial)⟩
  ·replace H := condF hc H
   refine WpC.exit (WpC.seq (WpC.seq (WpC.regionL ?_)))
   refine L.fieldAddr Tryz.underlying80 rfl info75 rfl hF rfl rfl rfl rfl rfl ?_
   refine L.loadPtr shape75 hF rfl rfl rfl rfl rfl rfl ?_
   refine L.lenR (xs := v34.Creds) (e := eTimpl_Cred) Tryz.underlying75 hF rfl rfl rfl rfl ?_
   refine L.move hF rfl rfl rfl (L.nil ?_)
   refine WpC.block ?_
   refine WpC.loopL (P := Tryz.prog) (fun n σ => ∃ v74 : Timpl_World, ∃ v75 : Int, ∃ v76 : Int, n ≤ K ∧ Fimpl_WorldOk.l4 n v74 v75 v76 = some r ∧ σ = mkSt [(1, one (Cell.ptr 0 0)), (23, one (Cell.sl g8 (List.map eTimpl_Cred v74.Creds))), (24, one (cI v75)), (25, one (cI v76))] [] [(0, (bTimpl_World g0 g1 g2 g3 g4 g5 g6 g7 g8 g9 g10 g11 g12 v74))] 1) k2 ⟨_, ⟨v34, (v34.Creds.length : Int), (0 : Int), by omega, H, rfl⟩, Le.mk [(0, 0)] hm rfl (Sa4 trivial) trivial (Ba1 trivial)⟩ ?_
   clear H
   rintro k4 _ ⟨v74, v75, v76, hk4, H, rfl⟩
   cases k4 with
   | zero => cases H
   | succ k4 =>
    rw [Fimpl_WorldOk.l4] at H
    refine WpC.seq (WpC.regionL ?_)
    refine L.bin hF rfl rfl rfl rfl rfl rfl (L.nil ?_)
    refine WpC.seq ?_
    refine WpC.cond rfl (fun hc => ?_) (fun hc => ?_)
    ·replace H := condT hc H
     refine WpC.skip (WpC.seq (WpC.block (WpC.seq (WpC.regionL ?_))))
     obtain ⟨b79, hb79, H⟩ := bindS H
     refine L.idxR (xs := v74.Creds) (e := eTimpl_Cred) Tryz.underlying75 info142 hF rfl rfl rfl rfl rfl hb79 rfl rfl ?_
     refine L.loadPe shape142 hF rfl rfl rfl rfl rfl ?_
     refine L.alloc 1 info142 rfl hF rfl rfl rfl rfl ?_
     refine L.storePtr shape142 hF rfl rfl rfl rfl rfl rfl rfl (L.nil ?_)
     refine WpC.seq (WpC.regionL ?_)
     refine L.loadPtr shape142 hF rfl rfl rfl rfl rfl rfl ?_
     obtain ⟨r80, hr80, H⟩ := bindS H
     refine L.call [false] [] [] 2 hF rfl rfl rfl ent113 rfl rfl rfl rfl rfl (Fimpl_CredOk_gives k4  b79 r80 hr80) rfl ?_
     refine L.not hF rfl rfl rfl (L.nil ?_)
     refine WpC.cond rfl (fun hc => ?_) (fun hc => ?_)
     ·replace H := condT hc H
      refine WpC.seq (WpC.regionL ?_)
      refine L.assign hF rfl rfl rfl (L.nil ?_)
      refine WpC.ret ?_
      cases H
      exact Leaves.ret rfl rfl rfl ⟨rfl, rfl⟩
     ·replace H := condF hc H
      refine WpC.skip (WpC.regionL ?_)
      refine L.bin hF rfl rfl rfl rfl rfl rfl ?_
      refine L.move hF rfl rfl rfl (L.nil ?_)
      exact ⟨k4, _, by omega, ⟨v74, v75, (IntKind.i64.wrap (v76 + (1 : Int))), by omega, H, rfl⟩, Le.mk [(0, 0)] hm rfl (Sa4 trivial) trivial (Ba1 trivial)⟩
    ·replace H := condF hc H
     refine WpC.exit (WpC.seq (WpC.seq (WpC.regionL ?_)))
     refine L.fieldAddr Tryz.underlying80 rfl info76 rfl hF rfl rfl rfl rfl rfl ?_
     refine L.loadPtr shape76 hF rfl rfl rfl rfl rfl rfl ?_
     refine L.lenR (xs := v74.Caches) (e := eTimpl_Cache) Tryz.underlying76 hF rfl rfl rfl rfl ?_
     refine L.move hF rfl rfl rfl (L.nil ?_)
     refine WpC.block ?_
     refine WpC.loopL (P := Tryz.prog) (fun n σ => ∃ v114 : Timpl_World, ∃ v115 : Int, ∃ v116 : Int, n ≤ K ∧ Fimpl_WorldOk.l6 n v114 v115 v116 = some r ∧ σ = mkSt [(1, one (Cell.ptr 0 0)), (34, one (Cell.sl g9 (List.map eTimpl_Cache v114.Caches))), (35, one (cI v115)), (36, one (cI v116))] [] [(0, (bTimpl_World g0 g1 g2 g3 g4 g5 g6 g7 g8 g9 g10 g11 g12 v114))] 1) k4 ⟨_, ⟨v74, (v74.Caches.length : Int), (0 : Int), by omega, H, rfl⟩, Le.mk [(0, 0)] hm rfl (Sa4 trivial) trivial (Ba1 trivial)⟩ ?_
     clear H
     rintro k6 _ ⟨v114, v115, v116, hk6, H, rfl⟩
     cases k6 with
     | zero => cases H
     | succ k6 =>
      rw [Fimpl_WorldOk.l6] at H
      refine WpC.seq (WpC.regionL ?_)
      refine L.bin hF rfl rfl rfl rfl rfl rfl (L.nil ?_)
      refine WpC.seq ?_
      refine WpC.cond rfl (fun hc => ?_) (fun hc => ?_)
      ·replace H := condT hc H
       refine WpC.skip (WpC.seq (WpC.block (WpC.seq (WpC.regionL ?_))))
       obtain ⟨b119, hb119, H⟩ := bindS H
       refine L.idxR (xs := v114.Caches) (e := eTimpl_Cache) Tryz.underlying76 info33 hF rfl rfl rfl rfl rfl hb119 rfl rfl ?_
       refine L.loadPe shape33 hF rfl rfl rfl rfl rfl ?_
       refine L.alloc 1 info33 rfl hF rfl rfl rfl rfl ?_
       refine L.storePtr shape33 hF rfl rfl rfl rfl rfl rfl rfl (L.nil ?_)
       refine WpC.seq (WpC.regionL ?_)
       refine L.loadPtr shape33 hF rfl rfl rfl rfl rfl rfl ?_
       obtain ⟨r120, hr120, H⟩ := bindS H
       refine L.call [false] [] [] 2 hF rfl rfl rfl ent59 rfl rfl rfl rfl rfl (Fimpl_CacheOk_gives k6 g9 b119 r120 hr120) rfl ?_
       refine L.not hF rfl rfl rfl (L.nil ?_)
       refine WpC.cond rfl (fun hc => ?_) (fun hc => ?_)
       ·replace H := condT hc H
        refine WpC.seq (WpC.regionL ?_)
        refine L.assign hF rfl rfl rfl (L.nil ?_)
        refine WpC.ret ?_
        cases H
        exact Leaves.ret rfl rfl rfl ⟨rfl, rfl⟩
       ·replace H := condF hc H
        refine WpC.skip (WpC.regionL ?_)
        refine L.bin hF rfl rfl rfl rfl rfl rfl ?_
        refine L.move hF rfl rfl rfl (L.nil ?_)
        exact ⟨k6, _, by omega, ⟨v114, v115, (IntKind.i64.wrap (v116 + (1 : Int))), by omega, H, rfl⟩, Le.mk [(0, 0)] hm rfl (Sa4 trivial) trivial (Ba1 trivial)⟩
      ·replace H := condF hc H
       refine WpC.exit (WpC.seq (WpC.seq (WpC.regionL ?_)))
       refine L.fieldAddr Tryz.underlying80 rfl info78 rfl hF rfl rfl rfl rfl rfl ?_
       refine L.loadPtr shape78 hF rfl rfl rfl rfl rfl rfl ?_
       refine L.lenR (xs := v114.Accepts) (e := eTimpl_Accept) Tryz.underlying78 hF rfl rfl rfl rfl ?_
       refine L.move hF rfl rfl rfl (L.nil ?_)
       refine WpC.block ?_
       refine WpC.loopL (P := Tryz.prog) (fun n σ => ∃ v154 : Timpl_World, ∃ v155 : Int, ∃ v156 : Int, n ≤ K ∧ Fimpl_WorldOk.l8 n v154 v155 v156 = some r ∧ σ = mkSt [(1, one (Cell.ptr 0 0)), (45, one (Cell.sl g11 (List.map eTimpl_Accept v154.Accepts))), (46, one (cI v155)), (47, one (cI v156))] [] [(0, (bTimpl_World g0 g1 g2 g3 g4 g5 g6 g7 g8 g9 g10 g11 g12 v154))] 1) k6 ⟨_, ⟨v114, (v114.Accepts.length : Int), (0 : Int), by omega, H, rfl⟩, Le.mk [(0, 0)] hm rfl (Sa4 trivial) trivial (Ba1 trivial)⟩ ?_
       clear H
       rintro k8 _ ⟨v154, v155, v156, hk8, H, rfl⟩
       cases k8 with
       | zero => cases H
       | succ k8 =>
        rw [Fimpl_WorldOk.l8] at H
        refine WpC.seq (WpC.regionL ?_)
        refine L.bin hF rfl rfl rfl rfl rfl rfl (L.nil ?_)
        refine WpC.seq ?_
        refine WpC.cond rfl (fun hc => ?_) (fun hc => ?_)
        ·replace H := condT hc H
         refine WpC.skip (WpC.seq (WpC.block (WpC.seq (WpC.regionL ?_))))
         obtain ⟨b159, hb159, H⟩ := bindS H
         refine L.idxR (xs := v154.Accepts) (e := eTimpl_Accept) Tryz.underlying78 info39 hF rfl rfl rfl rfl rfl hb159 rfl rfl ?_
         refine L.loadPe shape39 hF rfl rfl rfl rfl rfl ?_
         refine L.alloc 1 info39 rfl hF rfl rfl rfl rfl ?_
         refine L.storePtr shape39 hF rfl rfl rfl rfl rfl rfl rfl (L.nil ?_)
         refine WpC.seq (WpC.regionL ?_)
         refine L.loadPtr shape39 hF rfl rfl rfl rfl rfl rfl ?_
         refine L.fieldAddr Tryz.underlying80 rfl info22 rfl hF rfl rfl rfl rfl rfl ?_
         refine L.loadPtr shape22 hF rfl rfl rfl rfl rfl rfl ?_
         refine L.lenR (xs := v154.Leaked) (e := eI) Tryz.underlying22 hF rfl rfl rfl rfl ?_
         obtain ⟨r160, hr160, H⟩ := bindS H
         refine L.call [false, false] [] [] 2 hF rfl rfl rfl ent114 rfl rfl rfl rfl rfl (Fimpl_acceptOk_gives k8 g11 g11 b159 (v154.Leaked.length : Int) r160 hr160) rfl ?_
         refine L.not hF rfl rfl rfl (L.nil ?_)
         refine WpC.cond rfl (fun hc => ?_) (fun hc => ?_)
         ·replace H := condT hc H
          refine WpC.seq (WpC.regionL ?_)
          refine L.assign hF rfl rfl rfl (L.nil ?_)
          refine WpC.ret ?_
          cases H
          exact Leaves.ret rfl rfl rfl ⟨rfl, rfl⟩
         ·replace H := condF hc H
          refine WpC.skip (WpC.regionL ?_)
          refine L.bin hF rfl rfl rfl rfl rfl rfl ?_
          refine L.move hF rfl rfl rfl (L.nil ?_)
          exact ⟨k8, _, by omega, ⟨v154, v155, (IntKind.i64.wrap (v156 + (1 : Int))), by omega, H, rfl⟩, Le.mk [(0, 0)] hm rfl (Sa4 trivial) trivial (Ba1 trivial)⟩
        ·replace H := condF hc H
         refine WpC.exit (WpC.seq (WpC.seq (WpC.regionL ?_)))
         refine L.fieldAddr Tryz.underlying80 rfl info61 rfl hF rfl rfl rfl rfl rfl ?_
         refine L.loadPtr shape61 hF rfl rfl rfl rfl rfl rfl ?_
         obtain ⟨r164, hr164, H⟩ := bindS H
         refine L.call [false, false] [] [] 1 hF rfl rfl rfl ent115 rfl rfl rfl rfl rfl (Fslices_ContainsFunc_string__impl_WorldOk_1_gives k8 g4 v154.Net r164 hr164) rfl ?_
         refine L.move hF rfl rfl rfl ?_
         refine L.split (fun hc => ?_) (fun hc => ?_)
         ·replace H := condT hc H
          refine L.off hF rfl rfl ?_
          refine L.off hF rfl rfl ?_
          refine L.off hF rfl rfl ?_
          refine L.off hF rfl rfl ?_
          refine L.pick hF rfl rfl rfl rfl (L.nil ?_)
          refine WpC.cond rfl (fun _ => ?_) (fun hc => by cases hc)
          refine WpC.seq (WpC.regionL ?_)
          refine L.assign hF rfl rfl rfl (L.nil ?_)
          refine WpC.ret ?_
          cases H
          exact Leaves.ret rfl rfl rfl ⟨rfl, rfl⟩
         ·replace H := condF hc H
          refine L.fieldAddr Tryz.underlying80 rfl info61 rfl hF rfl rfl rfl rfl rfl ?_
          refine L.loadPtr shape61 hF rfl rfl rfl rfl rfl rfl ?_
          refine L.lenR (xs := v154.Net) (e := eS) Tryz.underlying61 hF rfl rfl rfl rfl ?_
          refine L.bin hF rfl rfl rfl rfl rfl rfl ?_
          refine L.pick hF rfl rfl rfl rfl (L.nil ?_)
          refine WpC.cond rfl (fun hc => ?_) (fun hc => ?_)
          ·replace H := condT hc H
           refine WpC.seq (WpC.regionL ?_)
           refine L.assign hF rfl rfl rfl (L.nil ?_)
           refine WpC.ret ?_
           cases H
           exact Leaves.ret rfl rfl rfl ⟨rfl, rfl⟩
          ·replace H := condF hc H
           refine WpC.skip (WpC.seq (WpC.regionL ?_))
           refine L.fieldAddr Tryz.underlying80 rfl info44 rfl hF rfl rfl rfl rfl rfl ?_
           refine L.loadPtr shape44 hF rfl rfl rfl rfl rfl rfl ?_
           obtain ⟨r169, hr169, H⟩ := bindS H
           refine L.call [false] [] [] 2 hF rfl rfl rfl ent60 rfl rfl rfl rfl rfl (Fimpl_ConfigOk_gives k8 g0 g1 g2 g3 (⟨v154.Config.UserRealm, v154.Config.ServiceRealm, v154.Config.Links, v154.Config.Proxy, v154.Config.Skew⟩ : Timpl_Config) r169 hr169) rfl ?_
           refine L.move hF rfl rfl rfl ?_
           refine L.split (fun hc => ?_) (fun hc => ?_)
           ·replace H := condT hc H
            refine L.fieldAddr Tryz.underlying80 rfl info3 rfl hF rfl rfl rfl rfl rfl ?_
            refine L.loadPtr shape3 hF rfl rfl rfl rfl rfl rfl ?_
            obtain ⟨r170, hr170, H⟩ := bindS H
            refine L.call [false] [] [] 3 hF rfl rfl rfl ent62 rfl rfl rfl rfl rfl (Fimpl_isTime_gives k8  v154.Now r170 hr170) rfl ?_
            refine L.pick hF rfl rfl rfl rfl ?_
            refine L.move hF rfl rfl rfl ?_
            refine L.split (fun hc => ?_) (fun hc => ?_)
            ·replace H := condT hc H
             refine L.fieldAddr Tryz.underlying80 rfl info3 rfl hF rfl rfl rfl rfl rfl ?_
             refine L.loadPtr shape3 hF rfl rfl rfl rfl rfl rfl ?_
             obtain ⟨r171, hr171, H⟩ := bindS H
             refine L.call [false, false, false] [] [] 4 hF rfl rfl rfl ent118 rfl rfl rfl rfl rfl (Fimpl_within_gives k8  v154.Fresh (101 : Int) (1000000 : Int) r171 hr171) rfl ?_
             refine L.pick hF rfl rfl rfl rfl ?_
             refine L.move hF rfl rfl rfl ?_
             refine L.split (fun hc => ?_) (fun hc => ?_)
             ·replace H := condT hc H
              refine L.fieldAddr Tryz.underlying80 rfl info73 rfl hF rfl rfl rfl rfl rfl ?_
              refine L.loadPtr shape73 hF rfl rfl rfl rfl rfl rfl ?_
              obtain ⟨r172, hr172, H⟩ := bindS H
              refine L.call [false] [] [] 5 hF rfl rfl rfl ent119 rfl rfl rfl rfl rfl (Fimpl_KnownOk_gives k8 g5 g6 (⟨v154.Known.Terms, v154.Known.Keys⟩ : Timpl_Known) r172 hr172) rfl ?_
              refine L.pick hF rfl rfl rfl rfl ?_
              refine L.move hF rfl rfl rfl ?_
              refine L.split (fun hc => ?_) (fun hc => ?_)
              ·replace H := condT hc H
               refine L.fieldAddr Tryz.underlying80 rfl info74 rfl hF rfl rfl rfl rfl rfl ?_
               refine L.loadPtr shape74 hF rfl rfl rfl rfl rfl rfl ?_
               refine L.lenR (xs := v154.Waits) (e := eTimpl_Wait) Tryz.underlying74 hF rfl rfl rfl rfl ?_
               refine L.bin hF rfl rfl rfl rfl rfl rfl ?_
               refine L.pick hF rfl rfl rfl rfl ?_
               refine L.move hF rfl rfl rfl ?_
               refine L.split (fun hc => ?_) (fun hc => ?_)
               ·replace H := condT hc H
                refine L.fieldAddr Tryz.underlying80 rfl info75 rfl hF rfl rfl rfl rfl rfl ?_
                refine L.loadPtr shape75 hF rfl rfl rfl rfl rfl rfl ?_
                refine L.lenR (xs := v154.Creds) (e := eTimpl_Cred) Tryz.underlying75 hF rfl rfl rfl rfl ?_
                refine L.bin hF rfl rfl rfl rfl rfl rfl ?_
                refine L.pick hF rfl rfl rfl rfl ?_
                refine L.move hF rfl rfl rfl ?_
                refine L.split (fun hc => ?_) (fun hc => ?_)
                ·replace H := condT hc H
                 refine L.fieldAddr Tryz.underlying80 rfl info76 rfl hF rfl rfl rfl rfl rfl ?_
                 refine L.loadPtr shape76 hF rfl rfl rfl rfl rfl rfl ?_
                 refine L.lenR (xs := v154.Caches) (e := eTimpl_Cache) Tryz.underlying76 hF rfl rfl rfl rfl ?_
                 refine L.bin hF rfl rfl rfl rfl rfl rfl ?_
                 refine L.pick hF rfl rfl rfl rfl ?_
                 refine L.move hF rfl rfl rfl ?_
                 refine L.split (fun hc => ?_) (fun hc => ?_)
                 ·replace H := condT hc H
                  refine L.fieldAddr Tryz.underlying80 rfl info77 rfl hF rfl rfl rfl rfl rfl ?_
                  refine L.loadPtr shape77 hF rfl rfl rfl rfl rfl rfl ?_
                  refine L.lenR (xs := v154.Log) (e := eTimpl_Event) Tryz.underlying77 hF rfl rfl rfl rfl ?_
                  refine L.bin hF rfl rfl rfl rfl rfl rfl ?_
                  refine L.pick hF rfl rfl rfl rfl ?_
                  refine L.move hF rfl rfl rfl ?_
                  refine L.split (fun hc => ?_) (fun hc => ?_)
                  ·replace H := condT hc H
                   refine L.fieldAddr Tryz.underlying80 rfl info78 rfl hF rfl rfl rfl rfl rfl ?_
                   refine L.loadPtr shape78 hF rfl rfl rfl rfl rfl rfl ?_
                   refine L.lenR (xs := v154.Accepts) (e := eTimpl_Accept) Tryz.underlying78 hF rfl rfl rfl rfl ?_
                   refine L.bin hF rfl rfl rfl rfl rfl rfl ?_
                   refine L.pick hF rfl rfl rfl rfl ?_
                   refine L.move hF rfl rfl rfl ?_
                   refine L.split (fun hc => ?_) (fun hc => ?_)
                   ·replace H := condT hc H
                    refine L.fieldAddr Tryz.underlying80 rfl info22 rfl hF rfl rfl rfl rfl rfl ?_
                    refine L.loadPtr shape22 hF rfl rfl rfl rfl rfl rfl ?_
                    refine L.lenR (xs := v154.Leaked) (e := eI) Tryz.underlying22 hF rfl rfl rfl rfl ?_
                    refine L.bin hF rfl rfl rfl rfl rfl rfl ?_
                    refine L.pick hF rfl rfl rfl rfl ?_
                    refine L.assign hF rfl rfl rfl (L.nil ?_)
                    refine WpC.ret ?_
                    cases H
                    exact Leaves.ret rfl rfl rfl ⟨rfl, rfl⟩
                   ·replace H := condF hc H
                    refine L.off hF rfl rfl ?_
                    refine L.off hF rfl rfl ?_
                    refine L.off hF rfl rfl ?_
                    refine L.off hF rfl rfl ?_
                    refine L.pick hF rfl rfl rfl rfl ?_
                    refine L.assign hF rfl rfl rfl (L.nil ?_)
                    refine WpC.ret ?_
                    cases H
                    exact Leaves.ret rfl rfl rfl ⟨rfl, rfl⟩
                  ·replace H := condF hc H
                   refine L.off hF rfl rfl ?_
                   refine L.off hF rfl rfl ?_
                   refine L.off hF rfl rfl ?_
                   refine L.off hF rfl rfl ?_
                   refine L.pick hF rfl rfl rfl rfl ?_
                   refine L.move hF rfl rfl rfl ?_
                   refine L.off hF rfl rfl ?_
                   refine L.off hF rfl rfl ?_
                   refine L.off hF rfl rfl ?_
                   refine L.off hF rfl rfl ?_
                   refine L.pick hF rfl rfl rfl rfl ?_
                   refine L.assign hF rfl rfl rfl (L.nil ?_)
                   refine WpC.ret ?_
                   cases H
                   exact Leaves.ret rfl rfl rfl ⟨rfl, rfl⟩
                 ·replace H := condF hc H
                  refine L.off hF rfl rfl ?_
                  refine L.off hF rfl rfl ?_
                  refine L.off hF rfl rfl ?_
                  refine L.off hF rfl rfl ?_
                  refine L.pick hF rfl rfl rfl rfl ?_
                  refine L.move hF rfl rfl rfl ?_
                  refine L.off hF rfl rfl ?_
                  refine L.off hF rfl rfl ?_
                  refine L.off hF rfl rfl ?_
                  refine L.off hF rfl rfl ?_
                  refine L.pick hF rfl rfl rfl rfl ?_
                  refine L.move hF rfl rfl rfl ?_
                  refine L.off hF rfl rfl ?_
                  refine L.off hF rfl rfl ?_
                  refine L.off hF rfl rfl ?_
                  refine L.off hF rfl rfl ?_
                  refine L.pick hF rfl rfl rfl rfl ?_
                  refine L.assign hF rfl rfl rfl (L.nil ?_)
                  refine WpC.ret ?_
                  cases H
                  exact Leaves.ret rfl rfl rfl ⟨rfl, rfl⟩
                ·replace H := condF hc H
                 refine L.off hF rfl rfl ?_
                 refine L.off hF rfl rfl ?_
                 refine L.off hF rfl rfl ?_
                 refine L.off hF rfl rfl ?_
                 refine L.pick hF rfl rfl rfl rfl ?_
                 refine L.move hF rfl rfl rfl ?_
                 refine L.off hF rfl rfl ?_
                 refine L.off hF rfl rfl ?_
                 refine L.off hF rfl rfl ?_
                 refine L.off hF rfl rfl ?_
                 refine L.pick hF rfl rfl rfl rfl ?_
                 refine L.move hF rfl rfl rfl ?_
                 refine L.off hF rfl rfl ?_
                 refine L.off hF rfl rfl ?_
                 refine L.off hF rfl rfl ?_
                 refine L.off hF rfl rfl ?_
                 refine L.pick hF rfl rfl rfl rfl ?_
                 refine L.move hF rfl rfl rfl ?_
                 refine L.off hF rfl rfl ?_
                 refine L.off hF rfl rfl ?_
                 refine L.off hF rfl rfl ?_
                 refine L.off hF rfl rfl ?_
                 refine L.pick hF rfl rfl rfl rfl ?_
                 refine L.assign hF rfl rfl rfl (L.nil ?_)
                 refine WpC.ret ?_
                 cases H
                 exact Leaves.ret rfl rfl rfl ⟨rfl, rfl⟩
               ·replace H := condF hc H
                refine L.off hF rfl rfl ?_
                refine L.off hF rfl rfl ?_
                refine L.off hF rfl rfl ?_
                refine L.off hF rfl rfl ?_
                refine L.pick hF rfl rfl rfl rfl ?_
                refine L.move hF rfl rfl rfl ?_
                refine L.off hF rfl rfl ?_
                refine L.off hF rfl rfl ?_
                refine L.off hF rfl rfl ?_
                refine L.off hF rfl rfl ?_
                refine L.pick hF rfl rfl rfl rfl ?_
                refine L.move hF rfl rfl rfl ?_
                refine L.off hF rfl rfl ?_
                refine L.off hF rfl rfl ?_
                refine L.off hF rfl rfl ?_
                refine L.off hF rfl rfl ?_
                refine L.pick hF rfl rfl rfl rfl ?_
                refine L.move hF rfl rfl rfl ?_
                refine L.off hF rfl rfl ?_
                refine L.off hF rfl rfl ?_
                refine L.off hF rfl rfl ?_
                refine L.off hF rfl rfl ?_
                refine L.pick hF rfl rfl rfl rfl ?_
                refine L.move hF rfl rfl rfl ?_
                refine L.off hF rfl rfl ?_
                refine L.off hF rfl rfl ?_
                refine L.off hF rfl rfl ?_
                refine L.off hF rfl rfl ?_
                refine L.pick hF rfl rfl rfl rfl ?_
                refine L.assign hF rfl rfl rfl (L.nil ?_)
                refine WpC.ret ?_
                cases H
                exact Leaves.ret rfl rfl rfl ⟨rfl, rfl⟩
              ·replace H := condF hc H
               refine L.off hF rfl rfl ?_
               refine L.off hF rfl rfl ?_
               refine L.off hF rfl rfl ?_
               refine L.off hF rfl rfl ?_
               refine L.pick hF rfl rfl rfl rfl ?_
               refine L.move hF rfl rfl rfl ?_
               refine L.off hF rfl rfl ?_
               refine L.off hF rfl rfl ?_
               refine L.off hF rfl rfl ?_
               refine L.off hF rfl rfl ?_
               refine L.pick hF rfl rfl rfl rfl ?_
               refine L.move hF rfl rfl rfl ?_
               refine L.off hF rfl rfl ?_
               refine L.off hF rfl rfl ?_
               refine L.off hF rfl rfl ?_
               refine L.off hF rfl rfl ?_
               refine L.pick hF rfl rfl rfl rfl ?_
               refine L.move hF rfl rfl rfl ?_
               refine L.off hF rfl rfl ?_
               refine L.off hF rfl rfl ?_
               refine L.off hF rfl rfl ?_
               refine L.off hF rfl rfl ?_
               refine L.pick hF rfl rfl rfl rfl ?_
               refine L.move hF rfl rfl rfl ?_
               refine L.off hF rfl rfl ?_
               refine L.off hF rfl rfl ?_
               refine L.off hF rfl rfl ?_
               refine L.off hF rfl rfl ?_
               refine L.pick hF rfl rfl rfl rfl ?_
               refine L.move hF rfl rfl rfl ?_
               refine L.off hF rfl rfl ?_
               refine L.off hF rfl rfl ?_
               refine L.off hF rfl rfl ?_
               refine L.off hF rfl rfl ?_
               refine L.pick hF rfl rfl rfl rfl ?_
               refine L.assign hF rfl rfl rfl (L.nil ?_)
               refine WpC.ret ?_
               cases H
               exact Leaves.ret rfl rfl rfl ⟨rfl, rfl⟩
             ·replace H := condF hc H
              refine L.off hF rfl rfl ?_
              refine L.off hF rfl rfl ?_
              refine L.off hF rfl rfl ?_
              refine L.pick hF rfl rfl rfl rfl ?_
              refine L.move hF rfl rfl rfl ?_
              refine L.off hF rfl rfl ?_
              refine L.off hF rfl rfl ?_
              refine L.off hF rfl rfl ?_
              refine L.off hF rfl rfl ?_
              refine L.pick hF rfl rfl rfl rfl ?_
              refine L.move hF rfl rfl rfl ?_
              refine L.off hF rfl rfl ?_
              refine L.off hF rfl rfl ?_
              refine L.off hF rfl rfl ?_
              refine L.off hF rfl rfl ?_
              refine L.pick hF rfl rfl rfl rfl ?_
              refine L.move hF rfl rfl rfl ?_
              refine L.off hF rfl rfl ?_
              refine L.off hF rfl rfl ?_
              refine L.off hF rfl rfl ?_
              refine L.off hF rfl rfl ?_
              refine L.pick hF rfl rfl rfl rfl ?_
              refine L.move hF rfl rfl rfl ?_
              refine L.off hF rfl rfl ?_
              refine L.off hF rfl rfl ?_
              refine L.off hF rfl rfl ?_
              refine L.off hF rfl rfl ?_
              refine L.pick hF rfl rfl rfl rfl ?_
              refine L.move hF rfl rfl rfl ?_
              refine L.off hF rfl rfl ?_
              refine L.off hF rfl rfl ?_
              refine L.off hF rfl rfl ?_
              refine L.off hF rfl rfl ?_
              refine L.pick hF rfl rfl rfl rfl ?_
              refine L.move hF rfl rfl rfl ?_
              refine L.off hF rfl rfl ?_
              refine L.off hF rfl rfl ?_
              refine L.off hF rfl rfl ?_
              refine L.off hF rfl rfl ?_
              refine L.pick hF rfl rfl rfl rfl ?_
              refine L.assign hF rfl rfl rfl (L.nil ?_)
              refine WpC.ret ?_
              cases H
              exact Leaves.ret rfl rfl rfl ⟨rfl, rfl⟩
            ·replace H := condF hc H
             refine L.off hF rfl rfl ?_
             refine L.off hF rfl rfl ?_
             refine L.off hF rfl rfl ?_
             refine L.pick hF rfl rfl rfl rfl ?_
             refine L.move hF rfl rfl rfl ?_
             refine L.off hF rfl rfl ?_
             refine L.off hF rfl rfl ?_
             refine L.off hF rfl rfl ?_
             refine L.pick hF rfl rfl rfl rfl ?_
             refine L.move hF rfl rfl rfl ?_
             refine L.off hF rfl rfl ?_
             refine L.off hF rfl rfl ?_
             refine L.off hF rfl rfl ?_
             refine L.off hF rfl rfl ?_
             refine L.pick hF rfl rfl rfl rfl ?_
             refine L.move hF rfl rfl rfl ?_
             refine L.off hF rfl rfl ?_
             refine L.off hF rfl rfl ?_
             refine L.off hF rfl rfl ?_
             refine L.off hF rfl rfl ?_
             refine L.pick hF rfl rfl rfl rfl ?_
             refine L.move hF rfl rfl rfl ?_
             refine L.off hF rfl rfl ?_
             refine L.off hF rfl rfl ?_
             refine L.off hF rfl rfl ?_
             refine L.off hF rfl rfl ?_
             refine L.pick hF rfl rfl rfl rfl ?_
             refine L.move hF rfl rfl rfl ?_
             refine L.off hF rfl rfl ?_
             refine L.off hF rfl rfl ?_
             refine L.off hF rfl rfl ?_
             refine L.off hF rfl rfl ?_
             refine L.pick hF rfl rfl rfl rfl ?_
             refine L.move hF rfl rfl rfl ?_
             refine L.off hF rfl rfl ?_
             refine L.off hF rfl rfl ?_
             refine L.off hF rfl rfl ?_
             refine L.off hF rfl rfl ?_
             refine L.pick hF rfl rfl rfl rfl ?_
             refine L.move hF rfl rfl rfl ?_
             refine L.off hF rfl rfl ?_
             refine L.off hF rfl rfl ?_
             refine L.off hF rfl rfl ?_
             refine L.off hF rfl rfl ?_
             refine L.pick hF rfl rfl rfl rfl ?_
             refine L.assign hF rfl rfl rfl (L.nil ?_)
             refine WpC.ret ?_
             cases H
             exact Leaves.ret rfl rfl rfl ⟨rfl, rfl⟩
           ·replace H := condF hc H
            refine L.off hF rfl rfl ?_
            refine L.off hF rfl rfl ?_
            refine L.off hF rfl rfl ?_
            refine L.pick hF rfl rfl rfl rfl ?_
            refine L.move hF rfl rfl rfl ?_
            refine L.off hF rfl rfl ?_
            refine L.off hF rfl rfl ?_
            refine L.off hF rfl rfl ?_
            refine L.pick hF rfl rfl rfl rfl ?_
            refine L.move hF rfl rfl rfl ?_
            refine L.off hF rfl rfl ?_
            refine L.off hF rfl rfl ?_
            refine L.off hF rfl rfl ?_
            refine L.pick hF rfl rfl rfl rfl ?_
            refine L.move hF rfl rfl rfl ?_
            refine L.off hF rfl rfl ?_
            refine L.off hF rfl rfl ?_
            refine L.off hF rfl rfl ?_
            refine L.off hF rfl rfl ?_
            refine L.pick hF rfl rfl rfl rfl ?_
            refine L.move hF rfl rfl rfl ?_
            refine L.off hF rfl rfl ?_
            refine L.off hF rfl rfl ?_
            refine L.off hF rfl rfl ?_
            refine L.off hF rfl rfl ?_
            refine L.pick hF rfl rfl rfl rfl ?_
            refine L.move hF rfl rfl rfl ?_
            refine L.off hF rfl rfl ?_
            refine L.off hF rfl rfl ?_
            refine L.off hF rfl rfl ?_
            refine L.off hF rfl rfl ?_
            refine L.pick hF rfl rfl rfl rfl ?_
            refine L.move hF rfl rfl rfl ?_
            refine L.off hF rfl rfl ?_
            refine L.off hF rfl rfl ?_
            refine L.off hF rfl rfl ?_
            refine L.off hF rfl rfl ?_
            refine L.pick hF rfl rfl rfl rfl ?_
            refine L.move hF rfl rfl rfl ?_
            refine L.off hF rfl rfl ?_
            refine L.off hF rfl rfl ?_
            refine L.off hF rfl rfl ?_
            refine L.off hF rfl rfl ?_
            refine L.pick hF rfl rfl rfl rfl ?_
            refine L.move hF rfl rfl rfl ?_
            refine L.off hF rfl rfl ?_
            refine L.off hF rfl rfl ?_
            refine L.off hF rfl rfl ?_
            refine L.off hF rfl rfl ?_
            refine L.pick hF rfl rfl rfl rfl ?_
            refine L.assign hF rfl rfl rfl (L.nil ?_)
            refine WpC.ret ?_
            cases H
            exact Leaves.ret rfl rfl rfl ⟨rfl, rfl⟩
/-! ### Fimpl_Once -/
def Fimpl_Once.l2 : Nat → Timpl_World → Int → Int → Option Bool
 | 0, _, _, _ => none
 | k2 + 1, v44, v45, v46 => cond (decide (v46 < v45)) ((at? v44.Accepts v46).bind fun b50 => (part? v44.Accepts (0 : Int) v46).bind fun b51 => (Fslices_ContainsFunc_Accept__impl_Once_1 k2 b51 b50).bind fun r52 => cond r52.1 (some false) ((Fimpl_Once.l2 k2) v44 v45 (IntKind.i64.wrap (v46 + (1 : Int))))) ((Fimpl_WorldOk k2 v44).bind fun r53 => some r53)
def Fimpl_Once (k : Nat) (a0 : Timpl_World) : Option Bool := Fimpl_Once.l2 k a0 (a0.Accepts.length : Int) (0 : Int)
theorem ent34 : MG.Enters Tryz.prog 34 := ⟨Tryz.f34, Tryz.func34, rfl, by decide⟩
set_option maxHeartbeats 8000000 in
set_option maxRecDepth 100000 in
theorem Fimpl_Once_gives (k : Nat) (g0 : Bool) (g1 : Bool) (g2 : Bool) (g3 : Bool) (g4 : Bool) (g5 : Bool) (g6 : Bool) (g7 : Bool) (g8 : Bool) (g9 : Bool) (g10 : Bool) (g11 : Bool) (a0 : Timpl_World) (r : Bool) (H : Fimpl_Once k a0 = some r) : Gives Tryz.prog 34 [V.agg [Cell.sl g0 (List.map eI a0.Config.UserRealm), Cell.sl g1 (List.map eI a0.Config.ServiceRealm), Cell.sl g2 (List.map eTimpl_Pair a0.Config.Links), Cell.sl g3 (List.map eTimpl_Pair a0.Config.Proxy), cI a0.Config.Skew, cI a0.Now, cI a0.Fresh, Cell.sl g4 (List.map eS a0.Net), Cell.sl g5 (List.map eS a0.Known.Terms), Cell.sl g6 (List.map eI a0.Known.Keys), Cell.sl g7 (List.map eTimpl_Wait a0.Waits), Cell.sl g8 (List.map eTimpl_Cred a0.Creds), Cell.sl g9 (List.map eTimpl_Cache a0.Caches), Cell.sl g10 (List.map eTimpl_Event a0.Log), Cell.sl true (List.map eTimpl_Accept a0.Accepts), Cell.sl g11 (List.map eI a0.Leaked)]] [] [V.one (cL r)] [] := by
 refine Gives.intro Tryz.func34 rfl rfl rfl rfl ?_
 intro F hF hm
 unfold Fimpl_Once at H
 obtain ⟨K, hK⟩ : ∃ K, k ≤ K := ⟨k, Nat.le_refl k⟩
 refine WpC.seq (WpC.regionL ?_)
 refine L.box 16 hF rfl rfl rfl rfl ?_
 refine L.assign hF rfl rfl rfl (L.nil ?_)
 refine WpC.seq (WpC.seq (WpC.regionL ?_))
 refine L.fieldAddr Tryz.underlying80 rfl info78 rfl hF rfl rfl rfl rfl rfl ?_
 refine L.loadPtr shape78 hF rfl rfl rfl rfl rfl rfl ?_
 refine L.lenR (xs := a0.Accepts) (e := eTimpl_Accept) Tryz.underlying78 hF rfl rfl rfl rfl ?_
 refine L.move hF rfl rfl rfl (L.nil ?_)
 refine WpC.block ?_
 refine WpC.loopL (P := Tryz.prog) (fun n σ => ∃ v44 : Timpl_World, ∃ v45 : Int, ∃ v46 : Int, n ≤ K ∧ Fimpl_Once.l2 n v44 v45 v46 = some r ∧ σ = mkSt [(1, one (Cell.ptr 0 0)), (6, one (Cell.sl true (List.map eTimpl_Accept v44.Accepts))), (7, one (cI v45)), (8, one (cI v46))] [] [(0, (bTimpl_World g0 g1 g2 g3 g4 g5 g6 g7 g8 g9 g10 true g11 v44))] 1) k ⟨_, ⟨a0, (a0.Accepts.length : Int), (0 : Int), by omega, H, rfl⟩, Le.mk [(0, 16)] hm rfl (Sa4 trivial) trivial (Ba1 trivial)⟩ ?_
 clear H
 rintro k2 _ ⟨v44, v45, v46, hk2, H, rfl⟩
 cases k2 with
 | zero => cases H
 | succ k2 =>
  rw [Fimpl_Once.l2] at H
  refine WpC.seq (WpC.regionL ?_)
  refine L.bin hF rfl rfl rfl rfl rfl rfl (L.nil ?_)
  refine WpC.seq ?_
  refine WpC.cond rfl (fun hc => ?_) (fun hc => ?_)
  ·replace H := condT hc H
   refine WpC.skip (WpC.seq (WpC.block (WpC.seq (WpC.regionL ?_))))
   refine L.move hF rfl rfl rfl ?_
   obtain ⟨b50, hb50, H⟩ := bindS H
   refine L.idxR (xs := v44.Accepts) (e := eTimpl_Accept) Tryz.underlying78 info39 hF rfl rfl rfl rfl rfl hb50 rfl rfl ?_
   refine L.loadPe shape39 hF rfl rfl rfl rfl rfl ?_
   refine L.alloc 1 info39 rfl hF rfl rfl rfl rfl ?_
   refine L.assign hF rfl rfl rfl ?_
   refine L.storePtr shape39 hF rfl rfl rfl rfl rfl rfl rfl (L.nil ?_)
   refine WpC.seq (WpC.regionL ?_)
   refine L.fieldAddr Tryz.underlying80 rfl info78 rfl hF rfl rfl rfl rfl rfl ?_
   refine L.loadPtr shape78 hF rfl rfl rfl rfl rfl rfl ?_
   refine L.move hF rfl rfl rfl ?_
   obtain ⟨b51, hb51, H⟩ := bindS H
   refine L.cutR (xs := v44.Accepts) (ys := b51) (e := eTimpl_Accept) Tryz.underlying78 info39 hF rfl rfl rfl rfl rfl hb51 (fun _ => rfl) ?_
   refine L.makeFunc hF rfl rfl rfl ?_
   obtain ⟨r52, hr52, H⟩ := bindS H
   refine L.call [false, false] [] [1] 2 hF rfl rfl rfl ent127 rfl rfl rfl rfl rfl (Fslices_ContainsFunc_Accept__impl_Once_1_gives k2 true b51 b50 r52 hr52) rfl (L.nil ?_)
   refine WpC.cond rfl (fun hc => ?_) (fun hc => ?_)
   ·replace H := condT hc H
    refine WpC.seq (WpC.regionL ?_)
    refine L.assign hF rfl rfl rfl (L.nil ?_)
    refine WpC.ret ?_
    cases H
    exact Leaves.ret rfl rfl rfl ⟨rfl, rfl⟩
   ·replace H := condF hc H
    refine WpC.skip (WpC.regionL ?_)
    refine L.bin hF rfl rfl rfl rfl rfl rfl ?_
    refine L.move hF rfl rfl rfl (L.nil ?_)
    exact ⟨k2, _, by omega, ⟨v44, v45, (IntKind.i64.wrap (v46 + (1 : Int))), by omega, H, rfl⟩, Le.mk [(0, 0)] hm rfl (Sa4 trivial) trivial (Ba1 trivial)⟩
  ·replace H := condF hc H
   refine WpC.exit (WpC.seq (WpC.regionL ?_))
   refine L.loadPtr shape80 hF rfl rfl rfl rfl rfl rfl ?_
   obtain ⟨r53, hr53, H⟩ := bindS H
   refine L.call [false] [] [] 1 hF rfl rfl rfl ent31 rfl rfl rfl rfl rfl (Fimpl_WorldOk_gives k2 g0 g1 g2 g3 g4 g5 g6 g7 g8 g9 g10 true g11 v44 r53 hr53) rfl ?_
   refine L.assign hF rfl rfl rfl (L.nil ?_)
   refine WpC.ret ?_
   cases H
   exact Leaves.ret rfl rfl rfl ⟨rfl, rfl⟩
/-! ### Flaws_eqIntS -/
def Flaws_eqIntS.l2 : Nat → (List Int) → (List Int) → Int → Option Bool
 | 0, _, _, _ => none
 | k2 + 1, v34, v35, v36 => cond (decide (v36 < (v34.length : Int))) ((at? v34 v36).bind fun b39 => (at? v35 v36).bind fun b40 => cond (b39 != b40) (some false) ((Flaws_eqIntS.l2 k2) v34 v35 (IntKind.i64.wrap (v36 + (1 : Int))))) (some true)
def Flaws_eqIntS (k : Nat) (a0 : List Int) (a1 : List Int) : Option Bool := cond ((a0.length : Int) != (a1.length : Int)) (some false) (Flaws_eqIntS.l2 k a0 a1 (0 : Int))
theorem ent71 : MG.Enters Tryz.prog 71 := ⟨Tryz.f71, Tryz.func71, rfl, by decide⟩
set_option maxHeartbeats 8000000 in
set_option maxRecDepth 100000 in
theorem Flaws_eqIntS_gives (k : Nat) (g0 : Bool) (g1 : Bool) (a0 : List Int) (a1 : List Int) (r : Bool) (H : Flaws_eqIntS k a0 a1 = some r) : Gives Tryz.prog 71 [V.one (Cell.sl g0 (List.map eI a0)), V.one (Cell.sl g1 (List.map eI a1))] [] [V.one (cL r)] [] := by
 refine Gives.intro Tryz.func71 rfl rfl rfl rfl ?_
 intro F hF hm
 unfold Flaws_eqIntS at H
 obtain ⟨K, hK⟩ : ∃ K, k ≤ K := ⟨k, Nat.le_refl k⟩
 refine WpC.seq (WpC.regionL ?_)
 refine L.assign hF rfl rfl rfl (L.nil ?_)
 refine WpC.seq (WpC.seq (WpC.regionL ?_))
 refine L.move hF rfl rfl rfl ?_
 refine L.lenR (xs := a0) (e := eI) Tryz.underlying22 hF rfl rfl rfl rfl ?_
 refine L.move hF rfl rfl rfl ?_
 refine L.lenR (xs := a1) (e := eI) Tryz.underlying22 hF rfl rfl rfl rfl ?_
 refine L.bin hF rfl rfl rfl rfl rfl rfl (L.nil ?_)
 refine WpC.cond rfl (fun hc => ?_) (fun hc => ?_)
 ·replace H := condT hc H
  refine WpC.seq (WpC.regionL ?_)
  refine L.assign hF rfl rfl rfl (L.nil ?_)
  refine WpC.ret ?_
  cases H
  exact Leaves.ret rfl rfl rfl ⟨rfl, rfl⟩
 ·replace H := condF hc H
  refine WpC.skip (WpC.seq (WpC.seq (WpC.regionL ?_)))
  refine L.assign hF rfl rfl rfl (L.nil ?_)
  refine WpC.block ?_
  refine WpC.loopL (P := Tryz.prog) (fun n σ => ∃ v34 : List Int, ∃ v35 : List Int, ∃ v36 : Int, n ≤ K ∧ Flaws_eqIntS.l2 n v34 v35 v36 = some r ∧ σ = mkSt [(0, one (Cell.sl g0 (List.map eI v34))), (1, one (Cell.sl g1 (List.map eI v35))), (5, one (cI v36))] [] [] 0) k ⟨_, ⟨a0, a1, (0 : Int), by omega, H, rfl⟩, Le.mk [] hm rfl (Sa2 (Sa1 trivial)) trivial trivial⟩ ?_
  clear H
  rintro k2 _ ⟨v34, v35, v36, hk2, H, rfl⟩
  cases k2 with
  | zero => cases H
  | succ k2 =>
   rw [Flaws_eqIntS.l2] at H
   refine WpC.seq (WpC.seq (WpC.regionL ?_))
   refine L.move hF rfl rfl rfl ?_
   refine L.move hF rfl rfl rfl ?_
   refine L.lenR (xs := v34) (e := eI) Tryz.underlying22 hF rfl rfl rfl rfl ?_
   refine L.bin hF rfl rfl rfl rfl rfl rfl (L.nil ?_)
   refine WpC.cond rfl (fun hc => ?_) (fun hc => ?_)
   ·replace H := condT hc H
    refine WpC.skip (WpC.seq (WpC.block (WpC.seq ?_)))
    refine S.begin mixed (by kernel_rfl) ?_
    refine S.st 0 rfl rfl ((Ca.move).quiet) (fun Q0 k0 => L.move hF rfl rfl rfl (L.nil k0)) ?_
    refine S.st 1 rfl rfl ((Ca.move).quiet) (fun Q0 k0 => L.move hF rfl rfl rfl (L.nil k0)) ?_
    obtain ⟨b39, hb39, H⟩ := bindS H
    refine S.st 2 rfl rfl ((Ca.indexAddr).quiet) (fun Q0 k0 => L.idxR (xs := v34) (e := eI) Tryz.underlying22 info3 hF rfl rfl rfl rfl rfl hb39 rfl rfl (L.nil k0)) ?_
    refine S.st 3 rfl rfl (Qu.load) (fun Q0 k0 => L.loadPe shape3 hF rfl rfl rfl rfl rfl (L.nil k0)) ?_
    refine S.st 4 rfl rfl ((Ca.move).quiet) (fun Q0 k0 => L.move hF rfl rfl rfl (L.nil k0)) ?_
    refine S.st 5 rfl rfl ((Ca.move).quiet) (fun Q0 k0 => L.move hF rfl rfl rfl (L.nil k0)) ?_
    obtain ⟨b40, hb40, H⟩ := bindS H
    refine S.st 6 rfl rfl ((Ca.indexAddr).quiet) (fun Q0 k0 => L.idxR (xs := v35) (e := eI) Tryz.underlying22 info3 hF rfl rfl rfl rfl rfl hb40 rfl rfl (L.nil k0)) ?_
    refine S.st 7 rfl rfl (Qu.load) (fun Q0 k0 => L.loadPe shape3 hF rfl rfl rfl rfl rfl (L.nil k0)) ?_
    refine S.st 8 rfl rfl ((Ca.bin rfl rfl (calm_int _ _ _ _ _ _ _ _)).quiet) (fun Q0 k0 => L.bin hF rfl rfl rfl rfl rfl rfl (L.nil k0)) ?_
    refine S.nil ?_
    refine WpC.cond rfl (fun hc => ?_) (fun hc => ?_)
    ·replace H := condT hc H
     refine WpC.seq (WpC.regionL ?_)
     refine L.assign hF rfl rfl rfl (L.nil ?_)
     refine WpC.ret ?_
     cases H
     exact Leaves.ret rfl rfl rfl ⟨rfl, rfl⟩
    ·replace H := condF hc H
     refine WpC.skip (WpC.regionL ?_)
     refine L.move hF rfl rfl rfl ?_
     refine L.bin hF rfl rfl rfl rfl rfl rfl ?_
     refine L.assign hF rfl rfl rfl (L.nil ?_)
     exact ⟨k2, _, by omega, ⟨v34, v35, (IntKind.i64.wrap (v36 + (1 : Int))), by omega, H, rfl⟩, Le.mk [] hm rfl (Sa2 (Sa1 trivial)) trivial trivial⟩
   ·replace H := condF hc H
    refine WpC.exit (WpC.seq (WpC.regionL ?_))
    refine L.assign hF rfl rfl rfl (L.nil ?_)
    refine WpC.ret ?_
    cases H
    exact Leaves.ret rfl rfl rfl ⟨rfl, rfl⟩
/-! ### Flaws_eqPair -/
def Flaws_eqPair (k : Nat) (a0 : Timpl_Pair) (a1 : Timpl_Pair) : Option Bool := cond (a0.A != a1.A) (some false) (cond (a0.B != a1.B) (some false) (some true))
theorem ent166 : MG.Enters Tryz.prog 166 := ⟨Tryz.f166, Tryz.func166, rfl, by decide⟩
set_option maxHeartbeats 8000000 in
set_option maxRecDepth 100000 in
theorem Flaws_eqPair_gives (k : Nat) (a0 : Timpl_Pair) (a1 : Timpl_Pair) (r : Bool) (H : Flaws_eqPair k a0 a1 = some r) : Gives Tryz.prog 166 [V.agg [cI a0.A, cI a0.B], V.agg [cI a1.A, cI a1.B]] [] [V.one (cL r)] [] := by
 refine Gives.intro Tryz.func166 rfl rfl rfl rfl ?_
 intro F hF hm
 unfold Flaws_eqPair at H
 obtain ⟨K, hK⟩ : ∃ K, k ≤ K := ⟨k, Nat.le_refl k⟩
 refine WpC.seq (WpC.regionL ?_)
 refine L.box 4 hF rfl rfl rfl rfl ?_
 refine L.box 5 hF rfl rfl rfl rfl ?_
 refine L.assign hF rfl rfl rfl (L.nil ?_)
 refine WpC.seq (WpC.seq (WpC.regionL ?_))
 refine L.fieldAddr Tryz.underlying199 rfl info3 rfl hF rfl rfl rfl rfl rfl ?_
 refine L.loadPtr shape3 hF rfl rfl rfl rfl rfl rfl ?_
 refine L.fieldAddr Tryz.underlying199 rfl info3 rfl hF rfl rfl rfl rfl rfl ?_
 refine L.loadPtr shape3 hF rfl rfl rfl rfl rfl rfl ?_
 refine L.bin hF rfl rfl rfl rfl rfl rfl (L.nil ?_)
 refine WpC.cond rfl (fun hc => ?_) (fun hc => ?_)
 ·replace H := condT hc H
  refine WpC.seq (WpC.regionL ?_)
  refine L.assign hF rfl rfl rfl (L.nil ?_)
  refine WpC.ret ?_
  cases H
  exact Leaves.ret rfl rfl rfl ⟨rfl, rfl⟩
 ·replace H := condF hc H
  refine WpC.skip (WpC.seq (WpC.seq (WpC.regionL ?_)))
  refine L.fieldAddr Tryz.underlying199 rfl info3 rfl hF rfl rfl rfl rfl rfl ?_
  refine L.loadPtr shape3 hF rfl rfl rfl rfl rfl rfl ?_
  refine L.fieldAddr Tryz.underlying199 rfl info3 rfl hF rfl rfl rfl rfl rfl ?_
  refine L.loadPtr shape3 hF rfl rfl rfl rfl rfl rfl ?_
  refine L.bin hF rfl rfl rfl rfl rfl rfl (L.nil ?_)
  refine WpC.cond rfl (fun hc => ?_) (fun hc => ?_)
  ·replace H := condT hc H
   refine WpC.seq (WpC.regionL ?_)
   refine L.assign hF rfl rfl rfl (L.nil ?_)
   refine WpC.ret ?_
   cases H
   exact Leaves.ret rfl rfl rfl ⟨rfl, rfl⟩
  ·replace H := condF hc H
   refine WpC.skip (WpC.seq (WpC.regionL ?_))
   refine L.assign hF rfl rfl rfl (L.nil ?_)
   refine WpC.ret ?_
   cases H
   exact Leaves.ret rfl rfl rfl ⟨rfl, rfl⟩
/-! ### Flaws_eqPairS -/
def Flaws_eqPairS.l2 : Nat → (List Timpl_Pair) → (List Timpl_Pair) → Int → Option Bool
 | 0, _, _, _ => none
 | k2 + 1, v44, v45, v46 => cond (decide (v46 < (v44.length : Int))) ((at? v44 v46).bind fun b50 => (at? v45 v46).bind fun b51 => (Flaws_eqPair k2 b50 b51).bind fun r52 => cond (!r52) (some false) ((Flaws_eqPairS.l2 k2) v44 v45 (IntKind.i64.wrap (v46 + (1 : Int))))) (some true)
def Flaws_eqPairS (k : Nat) (a0 : List Timpl_Pair) (a1 : List Timpl_Pair) : Option Bool := cond ((a0.length : Int) != (a1.length : Int)) (some false) (Flaws_eqPairS.l2 k a0 a1 (0 : Int))
theorem ent72 : MG.Enters Tryz.prog 72 := ⟨Tryz.f72, Tryz.func72, rfl, by decide⟩
set_option maxHeartbeats 8000000 in
set_option maxRecDepth 100000 in
theorem Flaws_eqPairS_gives (k : Nat) (g0 : Bool) (g1 : Bool) (a0 : List Timpl_Pair) (a1 : List Timpl_Pair) (r : Bool) (H : Flaws_eqPairS k a0 a1 = some r) : Gives Tryz.prog 72 [V.one (Cell.sl g0 (List.map eTimpl_Pair a0)), V.one (Cell.sl g1 (List.map eTimpl_Pair a1))] [] [V.one (cL r)] [] := by
 refine Gives.intro Tryz.func72 rfl rfl rfl rfl ?_
 intro F hF hm
 unfold Flaws_eqPairS at H
 obtain ⟨K, hK⟩ : ∃ K, k ≤ K := ⟨k, Nat.le_refl k⟩
 refine WpC.seq (WpC.regionL ?_)
 refine L.assign hF rfl rfl rfl (L.nil ?_)
 refine WpC.seq (WpC.seq (WpC.regionL ?_))
 refine L.move hF rfl rfl rfl ?_
 refine L.lenR (xs := a0) (e := eTimpl_Pair) Tryz.underlying42 hF rfl rfl rfl rfl ?_
 refine L.move hF rfl rfl rfl ?_
 refine L.lenR (xs := a1) (e := eTimpl_Pair) Tryz.underlying42 hF rfl rfl rfl rfl ?_
 refine L.bin hF rfl rfl rfl rfl rfl rfl (L.nil ?_)
 refine WpC.cond rfl (fun hc => ?_) (fun hc => ?_)
 ·replace H := condT hc H
  refine WpC.seq (WpC.regionL ?_)
  refine L.assign hF rfl rfl rfl (L.nil ?_)
  refine WpC.ret ?_
  cases H
  exact Leaves.ret rfl rfl rfl ⟨rfl, rfl⟩
 ·replace H := condF hc H
  refine WpC.skip (WpC.seq (WpC.seq (WpC.regionL ?_)))
  refine L.assign hF rfl rfl rfl (L.nil ?_)
  refine WpC.block ?_
  refine WpC.loopL (P := Tryz.prog) (fun n σ => ∃ v44 : List Timpl_Pair, ∃ v45 : List Timpl_Pair, ∃ v46 : Int, n ≤ K ∧ Flaws_eqPairS.l2 n v44 v45 v46 = some r ∧ σ = mkSt [(0, one (Cell.sl g0 (List.map eTimpl_Pair v44))), (1, one (Cell.sl g1 (List.map eTimpl_Pair v45))), (5, one (cI v46))] [] [] 0) k ⟨_, ⟨a0, a1, (0 : Int), by omega, H, rfl⟩, Le.mk [] hm rfl (Sa2 (Sa1 trivial)) trivial trivial⟩ ?_
  clear H
  rintro k2 _ ⟨v44, v45, v46, hk2, H, rfl⟩
  cases k2 with
  | zero => cases H
  | succ k2 =>
   rw [Flaws_eqPairS.l2] at H
   refine WpC.seq (WpC.seq (WpC.regionL ?_))
   refine L.move hF rfl rfl rfl ?_
   refine L.move hF rfl rfl rfl ?_
   refine L.lenR (xs := v44) (e := eTimpl_Pair) Tryz.underlying42 hF rfl rfl rfl rfl ?_
   refine L.bin hF rfl rfl rfl rfl rfl rfl (L.nil ?_)
   refine WpC.cond rfl (fun hc => ?_) (fun hc => ?_)
   ·replace H := condT hc H
    refine WpC.skip (WpC.seq (WpC.block (WpC.seq ?_)))
    obtain ⟨b50, hb50, H⟩ := bindS H
    obtain ⟨b51, hb51, H⟩ := bindS H
    obtain ⟨r52, hr52, H⟩ := bindS H
    refine A.begin mixed rfl rfl ?_
    intro W hI hO
    have n255 : W 2 #[true, true, true, true, true, true, true, true, false, false] (mkSt [(0, one (Cell.sl g0 (List.map eTimpl_Pair v44))), (1, one (Cell.sl g1 (List.map eTimpl_Pair v45))), (5, one (cI v46)), (20, agg [cI b50.A, cI b50.B]), (24, agg [cI b51.A, cI b51.B])] [] [] 0) := by
     refine hI _ _ _ ?_
     refine A.all [8] (by kernel_rfl) rfl ⟨⟨_, rfl, ?_⟩, trivial⟩
     refine L.call [false, false] [] [] 0 hF rfl rfl rfl ent166 rfl rfl rfl rfl rfl (Flaws_eqPair_gives k2  b50 b51 r52 hr52) rfl (L.nil ?_)
     refine Atk 9 rfl (Ca.un rfl rfl) (fun Q0 k0 => L.not hF rfl rfl rfl (L.nil k0)) ?_
     refine A.le (τ := mkSt [(0, one (Cell.sl g0 (List.map eTimpl_Pair v44))), (1, one (Cell.sl g1 (List.map eTimpl_Pair v45))), (5, one (cI v46)), (26, one (cL (!r52)))] [] [] 0) (Le.mk [] hm rfl (Sa4 trivial) trivial trivial) ?_
     refine A.done (by kernel_rfl) ?_
     refine WpC.cond rfl (fun hc => ?_) (fun hc => ?_)
     ·replace H := condT hc H
      refine WpC.seq (WpC.regionL ?_)
      refine L.assign hF rfl rfl rfl (L.nil ?_)
      refine WpC.ret ?_
      cases H
      exact Leaves.ret rfl rfl rfl ⟨rfl, rfl⟩
     ·replace H := condF hc H
      refine WpC.skip (WpC.regionL ?_)
      refine L.move hF rfl rfl rfl ?_
      refine L.bin hF rfl rfl rfl rfl rfl rfl ?_
      refine L.assign hF rfl rfl rfl (L.nil ?_)
      exact ⟨k2, _, by omega, ⟨v44, v45, (IntKind.i64.wrap (v46 + (1 : Int))), by omega, H, rfl⟩, Le.mk [] hm rfl (Sa2 (Sa1 trivial)) trivial trivial⟩
    refine hI _ _ _ ?_
    refine Atk 0 rfl (Ca.move) (fun Q0 k0 => L.move hF rfl rfl rfl (L.nil k0)) ?_
    refine Atk 1 rfl (Ca.move) (fun Q0 k0 => L.move hF rfl rfl rfl (L.nil k0)) ?_
    refine Atk 2 rfl (Ca.indexAddr) (fun Q0 k0 => L.idxR (xs := v44) (e := eTimpl_Pair) Tryz.underlying42 info199 hF rfl rfl rfl rfl rfl hb50 rfl rfl (L.nil k0)) ?_
    refine Atk 4 rfl (Ca.move) (fun Q0 k0 => L.move hF rfl rfl rfl (L.nil k0)) ?_
    refine Atk 5 rfl (Ca.move) (fun Q0 k0 => L.move hF rfl rfl rfl (L.nil k0)) ?_
    refine Atk 6 rfl (Ca.indexAddr) (fun Q0 k0 => L.idxR (xs := v45) (e := eTimpl_Pair) Tryz.underlying42 info199 hF rfl rfl rfl rfl rfl hb51 rfl rfl (L.nil k0)) ?_
    refine A.all [3, 7] (by kernel_rfl) rfl ⟨⟨_, rfl, ?_⟩, ⟨_, rfl, ?_⟩, trivial⟩
    ·refine L.loadPe shape199 hF rfl rfl rfl rfl rfl (L.nil ?_)
     refine A.all [7] (by kernel_rfl) rfl ⟨⟨_, rfl, ?_⟩, trivial⟩
     refine L.loadPe shape199 hF rfl rfl rfl rfl rfl (L.nil ?_)
     exact A.on (hO _ _ _ n255) (Le.mk [] hm rfl (Sa4 (Sa1 trivial)) trivial trivial)
    ·refine L.loadPe shape199 hF rfl rfl rfl rfl rfl (L.nil ?_)
     refine A.all [3] (by kernel_rfl) rfl ⟨⟨_, rfl, ?_⟩, trivial⟩
     refine L.loadPe shape199 hF rfl rfl rfl rfl rfl (L.nil ?_)
     exact A.on (hO _ _ _ n255) (Le.mk [] hm rfl (Sa4 (Sa1 trivial)) trivial trivial)
   ·replace H := condF hc H
    refine WpC.exit (WpC.seq (WpC.regionL ?_))
    refine L.assign hF rfl rfl rfl (L.nil ?_)
    refine WpC.ret ?_
    cases H
    exact Leaves.ret rfl rfl rfl ⟨rfl, rfl⟩
/-! ### Flaws_eqConfig -/
def Flaws_eqConfig (k : Nat) (a0 : Timpl_Config) (a1 : Timpl_Config) : Option Bool := (Flaws_eqIntS k a0.UserRealm a1.UserRealm).bind fun r2 => cond (!r2) (some false) ((Flaws_eqIntS k a0.ServiceRealm a1.ServiceRealm).bind fun r4 => cond (!r4) (some false) ((Flaws_eqPairS k a0.Links a1.Links).bind fun r6 => cond (!r6) (some false) ((Flaws_eqPairS k a0.Proxy a1.Proxy).bind fun r8 => cond (!r8) (some false) (cond (a0.Skew != a1.Skew) (some false) (some true)))))
theorem ent17 : MG.Enters Tryz.prog 17 := ⟨Tryz.f17, Tryz.func17, rfl, by decide⟩
set_option maxHeartbeats 8000000 in
set_option maxRecDepth 100000 in
theorem Flaws_eqConfig_gives (k : Nat) (g0 : Bool) (g1 : Bool) (g2 : Bool) (g3 : Bool) (g4 : Bool) (g5 : Bool) (g6 : Bool) (g7 : Bool) (a0 : Timpl_Config) (a1 : Timpl_Config) (r : Bool) (H : Flaws_eqConfig k a0 a1 = some r) : Gives Tryz.prog 17 [V.agg [Cell.sl g0 (List.map eI a0.UserRealm), Cell.sl g1 (List.map eI a0.ServiceRealm), Cell.sl g2 (List.map eTimpl_Pair a0.Links), Cell.sl g3 (List.map eTimpl_Pair a0.Proxy), cI a0.Skew], V.agg [Cell.sl g4 (List.map eI a1.UserRealm), Cell.sl g5 (List.map eI a1.ServiceRealm), Cell.sl g6 (List.map eTimpl_Pair a1.Links), Cell.sl g7 (List.map eTimpl_Pair a1.Proxy), cI a1.Skew]] [] [V.one (cL r)] [] := by
 refine Gives.intro Tryz.func17 rfl rfl rfl rfl ?_
 intro F hF hm
 unfold Flaws_eqConfig at H
 obtain ⟨K, hK⟩ : ∃ K, k ≤ K := ⟨k, Nat.le_refl k⟩
 refine WpC.seq (WpC.regionL ?_)
 refine L.box 10 hF rfl rfl rfl rfl ?_
 refine L.box 11 hF rfl rfl rfl rfl ?_
 refine L.assign hF rfl rfl rfl (L.nil ?_)
 refine WpC.seq (WpC.seq (WpC.regionL ?_))
 refine L.fieldAddr Tryz.underlying44 rfl info22 rfl hF rfl rfl rfl rfl rfl ?_
 refine L.loadPtr shape22 hF rfl rfl rfl rfl rfl rfl ?_
 refine L.fieldAddr Tryz.underlying44 rfl info22 rfl hF rfl rfl rfl rfl rfl ?_
 refine L.loadPtr shape22 hF rfl rfl rfl rfl rfl rfl ?_
 obtain ⟨r2, hr2, H⟩ := bindS H
 refine L.call [false, false] [] [] 12 hF rfl rfl rfl ent71 rfl rfl rfl rfl rfl (Flaws_eqIntS_gives k g0 g4 a0.UserRealm a1.UserRealm r2 hr2) rfl ?_
 refine L.not hF rfl rfl rfl (L.nil ?_)
 refine WpC.cond rfl (fun hc => ?_) (fun hc => ?_)
 ·replace H := condT hc H
  refine WpC.seq (WpC.regionL ?_)
  refine L.assign hF rfl rfl rfl (L.nil ?_)
  refine WpC.ret ?_
  cases H
  exact Leaves.ret rfl rfl rfl ⟨rfl, rfl⟩
 ·replace H := condF hc H
  refine WpC.skip (WpC.seq (WpC.seq (WpC.regionL ?_)))
  refine L.fieldAddr Tryz.underlying44 rfl info22 rfl hF rfl rfl rfl rfl rfl ?_
  refine L.loadPtr shape22 hF rfl rfl rfl rfl rfl rfl ?_
  refine L.fieldAddr Tryz.underlying44 rfl info22 rfl hF rfl rfl rfl rfl rfl ?_
  refine L.loadPtr shape22 hF rfl rfl rfl rfl rfl rfl ?_
  obtain ⟨r4, hr4, H⟩ := bindS H
  refine L.call [false, false] [] [] 13 hF rfl rfl rfl ent71 rfl rfl rfl rfl rfl (Flaws_eqIntS_gives k g1 g5 a0.ServiceRealm a1.ServiceRealm r4 hr4) rfl ?_
  refine L.not hF rfl rfl rfl (L.nil ?_)
  refine WpC.cond rfl (fun hc => ?_) (fun hc => ?_)
  ·replace H := condT hc H
   refine WpC.seq (WpC.regionL ?_)
   refine L.assign hF rfl rfl rfl (L.nil ?_)
   refine WpC.ret ?_
   cases H
   exact Leaves.ret rfl rfl rfl ⟨rfl, rfl⟩
  ·replace H := condF hc H
   refine WpC.skip (WpC.seq (WpC.seq (WpC.regionL ?_)))
   refine L.fieldAddr Tryz.underlying44 rfl info42 rfl hF rfl rfl rfl rfl rfl ?_
   refine L.loadPtr shape42 hF rfl rfl rfl rfl rfl rfl ?_
   refine L.fieldAddr Tryz.underlying44 rfl info42 rfl hF rfl rfl rfl rfl rfl ?_
   refine L.loadPtr shape42 hF rfl rfl rfl rfl rfl rfl ?_
   obtain ⟨r6, hr6, H⟩ := bindS H
   refine L.call [false, false] [] [] 14 hF rfl rfl rfl ent72 rfl rfl rfl rfl rfl (Flaws_eqPairS_gives k g2 g6 a0.Links a1.Links r6 hr6) rfl ?_
   refine L.not hF rfl rfl rfl (L.nil ?_)
   refine WpC.cond rfl (fun hc => ?_) (fun hc => ?_)
   ·replace H := condT hc H
    refine WpC.seq (WpC.regionL ?_)
    refine L.assign hF rfl rfl rfl (L.nil ?_)
    refine WpC.ret ?_
    cases H
    exact Leaves.ret rfl rfl rfl ⟨rfl, rfl⟩
   ·replace H := condF hc H
    refine WpC.skip (WpC.seq (WpC.seq (WpC.regionL ?_)))
    refine L.fieldAddr Tryz.underlying44 rfl info42 rfl hF rfl rfl rfl rfl rfl ?_
    refine L.loadPtr shape42 hF rfl rfl rfl rfl rfl rfl ?_
    refine L.fieldAddr Tryz.underlying44 rfl info42 rfl hF rfl rfl rfl rfl rfl ?_
    refine L.loadPtr shape42 hF rfl rfl rfl rfl rfl rfl ?_
    obtain ⟨r8, hr8, H⟩ := bindS H
    refine L.call [false, false] [] [] 15 hF rfl rfl rfl ent72 rfl rfl rfl rfl rfl (Flaws_eqPairS_gives k g3 g7 a0.Proxy a1.Proxy r8 hr8) rfl ?_
    refine L.not hF rfl rfl rfl (L.nil ?_)
    refine WpC.cond rfl (fun hc => ?_) (fun hc => ?_)
    ·replace H := condT hc H
     refine WpC.seq (WpC.regionL ?_)
     refine L.assign hF rfl rfl rfl (L.nil ?_)
     refine WpC.ret ?_
     cases H
     exact Leaves.ret rfl rfl rfl ⟨rfl, rfl⟩
    ·replace H := condF hc H
     refine WpC.skip (WpC.seq (WpC.seq (WpC.regionL ?_)))
     refine L.fieldAddr Tryz.underlying44 rfl info3 rfl hF rfl rfl rfl rfl rfl ?_
     refine L.loadPtr shape3 hF rfl rfl rfl rfl rfl rfl ?_
     refine L.fieldAddr Tryz.underlying44 rfl info3 rfl hF rfl rfl rfl rfl rfl ?_
     refine L.loadPtr shape3 hF rfl rfl rfl rfl rfl rfl ?_
     refine L.bin hF rfl rfl rfl rfl rfl rfl (L.nil ?_)
     refine WpC.cond rfl (fun hc => ?_) (fun hc => ?_)
     ·replace H := condT hc H
      refine WpC.seq (WpC.regionL ?_)
      refine L.assign hF rfl rfl rfl (L.nil ?_)
      refine WpC.ret ?_
      cases H
      exact Leaves.ret rfl rfl rfl ⟨rfl, rfl⟩
     ·replace H := condF hc H
      refine WpC.skip (WpC.seq (WpC.regionL ?_))
      refine L.assign hF rfl rfl rfl (L.nil ?_)
      refine WpC.ret ?_
      cases H
      exact Leaves.ret rfl rfl rfl ⟨rfl, rfl⟩
/-! ### Flaws_eqStringS -/
def Flaws_eqStringS.l2 : Nat → (List (List UInt8)) → (List (List UInt8)) → Int → Option Bool
 | 0, _, _, _ => none
 | k2 + 1, v34, v35, v36 => cond (decide (v36 < (v34.length : Int))) ((at? v34 v36).bind fun b39 => (at? v35 v36).bind fun b40 => cond (b39 != b40) (some false) ((Flaws_eqStringS.l2 k2) v34 v35 (IntKind.i64.wrap (v36 + (1 : Int))))) (some true)
def Flaws_eqStringS (k : Nat) (a0 : List (List UInt8)) (a1 : List (List UInt8)) : Option Bool := cond ((a0.length : Int) != (a1.length : Int)) (some false) (Flaws_eqStringS.l2 k a0 a1 (0 : Int))
theorem ent120 : MG.Enters Tryz.prog 120 := ⟨Tryz.f120, Tryz.func120, rfl, by decide⟩
set_option maxHeartbeats 8000000 in
set_option maxRecDepth 100000 in
theorem Flaws_eqStringS_gives (k : Nat) (g0 : Bool) (g1 : Bool) (a0 : List (List UInt8)) (a1 : List (List UInt8)) (r : Bool) (H : Flaws_eqStringS k a0 a1 = some r) : Gives Tryz.prog 120 [V.one (Cell.sl g0 (List.map eS a0)), V.one (Cell.sl g1 (List.map eS a1))] [] [V.one (cL r)] [] := by
 refine Gives.intro Tryz.func120 rfl rfl rfl rfl ?_
 intro F hF hm
 unfold Flaws_eqStringS at H
 obtain ⟨K, hK⟩ : ∃ K, k ≤ K := ⟨k, Nat.le_refl k⟩
 refine WpC.seq (WpC.regionL ?_)
 refine L.assign hF rfl rfl rfl (L.nil ?_)
 refine WpC.seq (WpC.seq (WpC.regionL ?_))
 refine L.move hF rfl rfl rfl ?_
 refine L.lenR (xs := a0) (e := eS) Tryz.underlying61 hF rfl rfl rfl rfl ?_
 refine L.move hF rfl rfl rfl ?_
 refine L.lenR (xs := a1) (e := eS) Tryz.underlying61 hF rfl rfl rfl rfl ?_
 refine L.bin hF rfl rfl rfl rfl rfl rfl (L.nil ?_)
 refine WpC.cond rfl (fun hc => ?_) (fun hc => ?_)
 ·replace H := condT hc H
  refine WpC.seq (WpC.regionL ?_)
  refine L.assign hF rfl rfl rfl (L.nil ?_)
  refine WpC.ret ?_
  cases H
  exact Leaves.ret rfl rfl rfl ⟨rfl, rfl⟩
 ·replace H := condF hc H
  refine WpC.skip (WpC.seq (WpC.seq (WpC.regionL ?_)))
  refine L.assign hF rfl rfl rfl (L.nil ?_)
  refine WpC.block ?_
  refine WpC.loopL (P := Tryz.prog) (fun n σ => ∃ v34 : List (List UInt8), ∃ v35 : List (List UInt8), ∃ v36 : Int, n ≤ K ∧ Flaws_eqStringS.l2 n v34 v35 v36 = some r ∧ σ = mkSt [(0, one (Cell.sl g0 (List.map eS v34))), (1, one (Cell.sl g1 (List.map eS v35))), (5, one (cI v36))] [] [] 0) k ⟨_, ⟨a0, a1, (0 : Int), by omega, H, rfl⟩, Le.mk [] hm rfl (Sa2 (Sa1 trivial)) trivial trivial⟩ ?_
  clear H
  rintro k2 _ ⟨v34, v35, v36, hk2, H, rfl⟩
  cases k2 with
  | zero => cases H
  | succ k2 =>
   rw [Flaws_eqStringS.l2] at H
   refine WpC.seq (WpC.seq (WpC.regionL ?_))
   refine L.move hF rfl rfl rfl ?_
   refine L.move hF rfl rfl rfl ?_
   refine L.lenR (xs := v34) (e := eS) Tryz.underlying61 hF rfl rfl rfl rfl ?_
   refine L.bin hF rfl rfl rfl rfl rfl rfl (L.nil ?_)
   refine WpC.cond rfl (fun hc => ?_) (fun hc => ?_)
   ·replace H := condT hc H
    refine WpC.skip (WpC.seq (WpC.block (WpC.seq ?_)))
    refine S.begin mixed (by kernel_rfl) ?_
    refine S.st 0 rfl rfl ((Ca.move).quiet) (fun Q0 k0 => L.move hF rfl rfl rfl (L.nil k0)) ?_
    refine S.st 1 rfl rfl ((Ca.move).quiet) (fun Q0 k0 => L.move hF rfl rfl rfl (L.nil k0)) ?_
    obtain ⟨b39, hb39, H⟩ := bindS H
    refine S.st 2 rfl rfl ((Ca.indexAddr).quiet) (fun Q0 k0 => L.idxR (xs := v34) (e := eS) Tryz.underlying61 info9 hF rfl rfl rfl rfl rfl hb39 rfl rfl (L.nil k0)) ?_
    refine S.st 3 rfl rfl (Qu.load) (fun Q0 k0 => L.loadPe shape9 hF rfl rfl rfl rfl rfl (L.nil k0)) ?_
    refine S.st 4 rfl rfl ((Ca.move).quiet) (fun Q0 k0 => L.move hF rfl rfl rfl (L.nil k0)) ?_
    refine S.st 5 rfl rfl ((Ca.move).quiet) (fun Q0 k0 => L.move hF rfl rfl rfl (L.nil k0)) ?_
    obtain ⟨b40, hb40, H⟩ := bindS H
    refine S.st 6 rfl rfl ((Ca.indexAddr).quiet) (fun Q0 k0 => L.idxR (xs := v35) (e := eS) Tryz.underlying61 info9 hF rfl rfl rfl rfl rfl hb40 rfl rfl (L.nil k0)) ?_
    refine S.st 7 rfl rfl (Qu.load) (fun Q0 k0 => L.loadPe shape9 hF rfl rfl rfl rfl rfl (L.nil k0)) ?_
    refine S.st 8 rfl rfl ((Ca.bin rfl rfl (calm_str _ _ _ _ _ _)).quiet) (fun Q0 k0 => L.binS hF rfl rfl rfl rfl rfl (L.nil k0)) ?_
    refine S.nil ?_
    refine WpC.cond rfl (fun hc => ?_) (fun hc => ?_)
    ·replace H := condT hc H
     refine WpC.seq (WpC.regionL ?_)
     refine L.assign hF rfl rfl rfl (L.nil ?_)
     refine WpC.ret ?_
     cases H
     exact Leaves.ret rfl rfl rfl ⟨rfl, rfl⟩
    ·replace H := condF hc H
     refine WpC.skip (WpC.regionL ?_)
     refine L.move hF rfl rfl rfl ?_
     refine L.bin hF rfl rfl rfl rfl rfl rfl ?_
     refine L.assign hF rfl rfl rfl (L.nil ?_)
     exact ⟨k2, _, by omega, ⟨v34, v35, (IntKind.i64.wrap (v36 + (1 : Int))), by omega, H, rfl⟩, Le.mk [] hm rfl (Sa2 (Sa1 trivial)) trivial trivial⟩
   ·replace H := condF hc H
    refine WpC.exit (WpC.seq (WpC.regionL ?_))
    refine L.assign hF rfl rfl rfl (L.nil ?_)
    refine WpC.ret ?_
    cases H
    exact Leaves.ret rfl rfl rfl ⟨rfl, rfl⟩
/-! ### Flaws_eqKnown -/
def Flaws_eqKnown (k : Nat) (a0 : Timpl_Known) (a1 : Timpl_Known) : Option Bool := (Flaws_eqStringS k a0.Terms a1.Terms).bind fun r2 => cond (!r2) (some false) ((Flaws_eqIntS k a0.Keys a1.Keys).bind fun r4 => cond (!r4) (some false) (some true))
theorem ent121 : MG.Enters Tryz.prog 121 := ⟨Tryz.f121, Tryz.func121, rfl, by decide⟩
set_option maxHeartbeats 8000000 in
set_option maxRecDepth 100000 in
theorem Flaws_eqKnown_gives (k : Nat) (g0 : Bool) (g1 : Bool) (g2 : Bool) (g3 : Bool) (a0 : Timpl_Known) (a1 : Timpl_Known) (r : Bool) (H : Flaws_eqKnown k a0 a1 = some r) : Gives Tryz.prog 121 [V.agg [Cell.sl g0 (List.map eS a0.Terms), Cell.sl g1 (List.map eI a0.Keys)], V.agg [Cell.sl g2 (List.map eS a1.Terms), Cell.sl g3 (List.map eI a1.Keys)]] [] [V.one (cL r)] [] := by
 refine Gives.intro Tryz.func121 rfl rfl rfl rfl ?_
 intro F hF hm
 unfold Flaws_eqKnown at H
 obtain ⟨K, hK⟩ : ∃ K, k ≤ K := ⟨k, Nat.le_refl k⟩
 refine WpC.seq (WpC.regionL ?_)
 refine L.box 4 hF rfl rfl rfl rfl ?_
 refine L.box 5 hF rfl rfl rfl rfl ?_
 refine L.assign hF rfl rfl rfl (L.nil ?_)
 refine WpC.seq (WpC.seq (WpC.regionL ?_))
 refine L.fieldAddr Tryz.underlying73 rfl info61 rfl hF rfl rfl rfl rfl rfl ?_
 refine L.loadPtr shape61 hF rfl rfl rfl rfl rfl rfl ?_
 refine L.fieldAddr Tryz.underlying73 rfl info61 rfl hF rfl rfl rfl rfl rfl ?_
 refine L.loadPtr shape61 hF rfl rfl rfl rfl rfl rfl ?_
 obtain ⟨r2, hr2, H⟩ := bindS H
 refine L.call [false, false] [] [] 6 hF rfl rfl rfl ent120 rfl rfl rfl rfl rfl (Flaws_eqStringS_gives k g0 g2 a0.Terms a1.Terms r2 hr2) rfl ?_
 refine L.not hF rfl rfl rfl (L.nil ?_)
 refine WpC.cond rfl (fun hc => ?_) (fun hc => ?_)
 ·replace H := condT hc H
  refine WpC.seq (WpC.regionL ?_)
  refine L.assign hF rfl rfl rfl (L.nil ?_)
  refine WpC.ret ?_
  cases H
  exact Leaves.ret rfl rfl rfl ⟨rfl, rfl⟩
 ·replace H := condF hc H
  refine WpC.skip (WpC.seq (WpC.seq (WpC.regionL ?_)))
  refine L.fieldAddr Tryz.underlying73 rfl info22 rfl hF rfl rfl rfl rfl rfl ?_
  refine L.loadPtr shape22 hF rfl rfl rfl rfl rfl rfl ?_
  refine L.fieldAddr Tryz.underlying73 rfl info22 rfl hF rfl rfl rfl rfl rfl ?_
  refine L.loadPtr shape22 hF rfl rfl rfl rfl rfl rfl ?_
  obtain ⟨r4, hr4, H⟩ := bindS H
  refine L.call [false, false] [] [] 7 hF rfl rfl rfl ent71 rfl rfl rfl rfl rfl (Flaws_eqIntS_gives k g1 g3 a0.Keys a1.Keys r4 hr4) rfl ?_
  refine L.not hF rfl rfl rfl (L.nil ?_)
  refine WpC.cond rfl (fun hc => ?_) (fun hc => ?_)
  ·replace H := condT hc H
   refine WpC.seq (WpC.regionL ?_)
   refine L.assign hF rfl rfl rfl (L.nil ?_)
   refine WpC.ret ?_
   cases H
   exact Leaves.ret rfl rfl rfl ⟨rfl, rfl⟩
  ·replace H := condF hc H
   refine WpC.skip (WpC.seq (WpC.regionL ?_))
   refine L.assign hF rfl rfl rfl (L.nil ?_)
   refine WpC.ret ?_
   cases H
   exact Leaves.ret rfl rfl rfl ⟨rfl, rfl⟩
/-! ### Flaws_eqWait -/
def Flaws_eqWait (k : Nat) (a0 : Timpl_Wait) (a1 : Timpl_Wait) : Option Bool := cond (a0.On != a1.On) (some false) (cond (a0.Nonce != a1.Nonce) (some false) (cond (a0.Key != a1.Key) (some false) (cond (a0.Client != a1.Client) (some false) (some true))))
theorem ent196 : MG.Enters Tryz.prog 196 := ⟨Tryz.f196, Tryz.func196, rfl, by decide⟩
set_option maxHeartbeats 8000000 in
set_option maxRecDepth 100000 in
theorem Flaws_eqWait_gives (k : Nat) (a0 : Timpl_Wait) (a1 : Timpl_Wait) (r : Bool) (H : Flaws_eqWait k a0 a1 = some r) : Gives Tryz.prog 196 [V.agg [cL a0.On, cI a0.Nonce, cI a0.Key, cI a0.Client], V.agg [cL a1.On, cI a1.Nonce, cI a1.Key, cI a1.Client]] [] [V.one (cL r)] [] := by
 refine Gives.intro Tryz.func196 rfl rfl rfl rfl ?_
 intro F hF hm
 unfold Flaws_eqWait at H
 obtain ⟨K, hK⟩ : ∃ K, k ≤ K := ⟨k, Nat.le_refl k⟩
 refine WpC.seq (WpC.regionL ?_)
 refine L.box 8 hF rfl rfl rfl rfl ?_
 refine L.box 9 hF rfl rfl rfl rfl ?_
 refine L.assign hF rfl rfl rfl (L.nil ?_)
 refine WpC.seq (WpC.seq (WpC.regionL ?_))
 refine L.fieldAddr Tryz.underlying159 rfl info4 rfl hF rfl rfl rfl rfl rfl ?_
 refine L.loadPtr shape4 hF rfl rfl rfl rfl rfl rfl ?_
 refine L.fieldAddr Tryz.underlying159 rfl info4 rfl hF rfl rfl rfl rfl rfl ?_
 refine L.loadPtr shape4 hF rfl rfl rfl rfl rfl rfl ?_
 refine L.neL Tryz.underlying4 hF rfl rfl rfl rfl (L.nil ?_)
 refine WpC.cond rfl (fun hc => ?_) (fun hc => ?_)
 ·replace H := condT hc H
  refine WpC.seq (WpC.regionL ?_)
  refine L.assign hF rfl rfl rfl (L.nil ?_)
  refine WpC.ret ?_
  cases H
  exact Leaves.ret rfl rfl rfl ⟨rfl, rfl⟩
 ·replace H := condF hc H
  refine WpC.skip (WpC.seq (WpC.seq (WpC.regionL ?_)))
  refine L.fieldAddr Tryz.underlying159 rfl info3 rfl hF rfl rfl rfl rfl rfl ?_
  refine L.loadPtr shape3 hF rfl rfl rfl rfl rfl rfl ?_
  refine L.fieldAddr Tryz.underlying159 rfl info3 rfl hF rfl rfl rfl rfl rfl ?_
  refine L.loadPtr shape3 hF rfl rfl rfl rfl rfl rfl ?_
  refine L.bin hF rfl rfl rfl rfl rfl rfl (L.nil ?_)
  refine WpC.cond rfl (fun hc => ?_) (fun hc => ?_)
  ·replace H := condT hc H
   refine WpC.seq (WpC.regionL ?_)
   refine L.assign hF rfl rfl rfl (L.nil ?_)
   refine WpC.ret ?_
   cases H
   exact Leaves.ret rfl rfl rfl ⟨rfl, rfl⟩
  ·replace H := condF hc H
   refine WpC.skip (WpC.seq (WpC.seq (WpC.regionL ?_)))
   refine L.fieldAddr Tryz.underlying159 rfl info3 rfl hF rfl rfl rfl rfl rfl ?_
   refine L.loadPtr shape3 hF rfl rfl rfl rfl rfl rfl ?_
   refine L.fieldAddr Tryz.underlying159 rfl info3 rfl hF rfl rfl rfl rfl rfl ?_
   refine L.loadPtr shape3 hF rfl rfl rfl rfl rfl rfl ?_
   refine L.bin hF rfl rfl rfl rfl rfl rfl (L.nil ?_)
   refine WpC.cond rfl (fun hc => ?_) (fun hc => ?_)
   ·replace H := condT hc H
    refine WpC.seq (WpC.regionL ?_)
    refine L.assign hF rfl rfl rfl (L.nil ?_)
    refine WpC.ret ?_
    cases H
    exact Leaves.ret rfl rfl rfl ⟨rfl, rfl⟩
   ·replace H := condF hc H
    refine WpC.skip (WpC.seq (WpC.seq (WpC.regionL ?_)))
    refine L.fieldAddr Tryz.underlying159 rfl info3 rfl hF rfl rfl rfl rfl rfl ?_
    refine L.loadPtr shape3 hF rfl rfl rfl rfl rfl rfl ?_
    refine L.fieldAddr Tryz.underlying159 rfl info3 rfl hF rfl rfl rfl rfl rfl ?_
    refine L.loadPtr shape3 hF rfl rfl rfl rfl rfl rfl ?_
    refine L.bin hF rfl rfl rfl rfl rfl rfl (L.nil ?_)
    refine WpC.cond rfl (fun hc => ?_) (fun hc => ?_)
    ·replace H := condT hc H
     refine WpC.seq (WpC.regionL ?_)
     refine L.assign hF rfl rfl rfl (L.nil ?_)
     refine WpC.ret ?_
     cases H
     exact Leaves.ret rfl rfl rfl ⟨rfl, rfl⟩
    ·replace H := condF hc H
     refine WpC.skip (WpC.seq (WpC.regionL ?_))
     refine L.assign hF rfl rfl rfl (L.nil ?_)
     refine WpC.ret ?_
     cases H
     exact Leaves.ret rfl rfl rfl ⟨rfl, rfl⟩
/-! ### Flaws_eqWaitS -/
def Flaws_eqWaitS.l2 : Nat → (List Timpl_Wait) → (List Timpl_Wait) → Int → Option Bool
 | 0, _, _, _ => none
 | k2 + 1, v44, v45, v46 => cond (decide (v46 < (v44.length : Int))) ((at? v44 v46).bind fun b50 => (at? v45 v46).bind fun b51 => (Flaws_eqWait k2 b50 b51).bind fun r52 => cond (!r52) (some false) ((Flaws_eqWaitS.l2 k2) v44 v45 (IntKind.i64.wrap (v46 + (1 : Int))))) (some true)
def Flaws_eqWaitS (k : Nat) (a0 : List Timpl_Wait) (a1 : List Timpl_Wait) : Option Bool := cond ((a0.length : Int) != (a1.length : Int)) (some false) (Flaws_eqWaitS.l2 k a0 a1 (0 : Int))
theorem ent122 : MG.Enters Tryz.prog 122 := ⟨Tryz.f122, Tryz.func122, rfl, by decide⟩
set_option maxHeartbeats 8000000 in
set_option maxRecDepth 100000 in
theorem Flaws_eqWaitS_gives (k : Nat) (g0 : Bool) (g1 : Bool) (a0 : List Timpl_Wait) (a1 : List Timpl_Wait) (r : Bool) (H : Flaws_eqWaitS k a0 a1 = some r) : Gives Tryz.prog 122 [V.one (Cell.sl g0 (List.map eTimpl_Wait a0)), V.one (Cell.sl g1 (List.map eTimpl_Wait a1))] [] [V.one (cL r)] [] := by
 refine Gives.intro Tryz.func122 rfl rfl rfl rfl ?_
 intro F hF hm
 unfold Flaws_eqWaitS at H
 obtain ⟨K, hK⟩ : ∃ K, k ≤ K := ⟨k, Nat.le_refl k⟩
 refine WpC.seq (WpC.regionL ?_)
 refine L.assign hF rfl rfl rfl (L.nil ?_)
 refine WpC.seq (WpC.seq (WpC.regionL ?_))
 refine L.move hF rfl rfl rfl ?_
 refine L.lenR (xs := a0) (e := eTimpl_Wait) Tryz.underlying74 hF rfl rfl rfl rfl ?_
 refine L.move hF rfl rfl rfl ?_
 refine L.lenR (xs := a1) (e := eTimpl_Wait) Tryz.underlying74 hF rfl rfl rfl rfl ?_
 refine L.bin hF rfl rfl rfl rfl rfl rfl (L.nil ?_)
 refine WpC.cond rfl (fun hc => ?_) (fun hc => ?_)
 ·replace H := condT hc H
  refine WpC.seq (WpC.regionL ?_)
  refine L.assign hF rfl rfl rfl (L.nil ?_)
  refine WpC.ret ?_
  cases H
  exact Leaves.ret rfl rfl rfl ⟨rfl, rfl⟩
 ·replace H := condF hc H
  refine WpC.skip (WpC.seq (WpC.seq (WpC.regionL ?_)))
  refine L.assign hF rfl rfl rfl (L.nil ?_)
  refine WpC.block ?_
  refine WpC.loopL (P := Tryz.prog) (fun n σ => ∃ v44 : List Timpl_Wait, ∃ v45 : List Timpl_Wait, ∃ v46 : Int, n ≤ K ∧ Flaws_eqWaitS.l2 n v44 v45 v46 = some r ∧ σ = mkSt [(0, one (Cell.sl g0 (List.map eTimpl_Wait v44))), (1, one (Cell.sl g1 (List.map eTimpl_Wait v45))), (5, one (cI v46))] [] [] 0) k ⟨_, ⟨a0, a1, (0 : Int), by omega, H, rfl⟩, Le.mk [] hm rfl (Sa2 (Sa1 trivial)) trivial trivial⟩ ?_
  clear H
  rintro k2 _ ⟨v44, v45, v46, hk2, H, rfl⟩
  cases k2 with
  | zero => cases H
  | succ k2 =>
   rw [Flaws_eqWaitS.l2] at H
   refine WpC.seq (WpC.seq (WpC.regionL ?_))
   refine L.move hF rfl rfl rfl ?_
   refine L.move hF rfl rfl rfl ?_
   refine L.lenR (xs := v44) (e := eTimpl_Wait) Tryz.underlying74 hF rfl rfl rfl rfl ?_
   refine L.bin hF rfl rfl rfl rfl rfl rfl (L.nil ?_)
   refine WpC.cond rfl (fun hc => ?_) (fun hc => ?_)
   ·replace H := condT hc H
    refine WpC.skip (WpC.seq (WpC.block (WpC.seq ?_)))
    obtain ⟨b50, hb50, H⟩ := bindS H
    obtain ⟨b51, hb51, H⟩ := bindS H
    obtain ⟨r52, hr52, H⟩ := bindS H
    refine A.begin mixed rfl rfl ?_
    intro W hI hO
    have n255 : W 2 #[true, true, true, true, true, true, true, true, false, false] (mkSt [(0, one (Cell.sl g0 (List.map eTimpl_Wait v44))), (1, one (Cell.sl g1 (List.map eTimpl_Wait v45))), (5, one (cI v46)), (20, agg (bTimpl_Wait b50)), (24, agg (bTimpl_Wait b51))] [] [] 0) := by
     refine hI _ _ _ ?_
     refine A.all [8] (by kernel_rfl) rfl ⟨⟨_, rfl, ?_⟩, trivial⟩
     refine L.call [false, false] [] [] 0 hF rfl rfl rfl ent196 rfl rfl rfl rfl rfl (Flaws_eqWait_gives k2  b50 b51 r52 hr52) rfl (L.nil ?_)
     refine Atk 9 rfl (Ca.un rfl rfl) (fun Q0 k0 => L.not hF rfl rfl rfl (L.nil k0)) ?_
     refine A.le (τ := mkSt [(0, one (Cell.sl g0 (List.map eTimpl_Wait v44))), (1, one (Cell.sl g1 (List.map eTimpl_Wait v45))), (5, one (cI v46)), (26, one (cL (!r52)))] [] [] 0) (Le.mk [] hm rfl (Sa4 trivial) trivial trivial) ?_
     refine A.done (by kernel_rfl) ?_
     refine WpC.cond rfl (fun hc => ?_) (fun hc => ?_)
     ·replace H := condT hc H
      refine WpC.seq (WpC.regionL ?_)
      refine L.assign hF rfl rfl rfl (L.nil ?_)
      refine WpC.ret ?_
      cases H
      exact Leaves.ret rfl rfl rfl ⟨rfl, rfl⟩
     ·replace H := condF hc H
      refine WpC.skip (WpC.regionL ?_)
      refine L.move hF rfl rfl rfl ?_
      refine L.bin hF rfl rfl rfl rfl rfl rfl ?_
      refine L.assign hF rfl rfl rfl (L.nil ?_)
      exact ⟨k2, _, by omega, ⟨v44, v45, (IntKind.i64.wrap (v46 + (1 : Int))), by omega, H, rfl⟩, Le.mk [] hm rfl (Sa2 (Sa1 trivial)) trivial trivial⟩
    refine hI _ _ _ ?_
    refine Atk 0 rfl (Ca.move) (fun Q0 k0 => L.move hF rfl rfl rfl (L.nil k0)) ?_
    refine Atk 1 rfl (Ca.move) (fun Q0 k0 => L.move hF rfl rfl rfl (L.nil k0)) ?_
    refine Atk 2 rfl (Ca.indexAddr) (fun Q0 k0 => L.idxR (xs := v44) (e := eTimpl_Wait) Tryz.underlying74 info159 hF rfl rfl rfl rfl rfl hb50 rfl rfl (L.nil k0)) ?_
    refine Atk 4 rfl (Ca.move) (fun Q0 k0 => L.move hF rfl rfl rfl (L.nil k0)) ?_
    refine Atk 5 rfl (Ca.move) (fun Q0 k0 => L.move hF rfl rfl rfl (L.nil k0)) ?_
    refine Atk 6 rfl (Ca.indexAddr) (fun Q0 k0 => L.idxR (xs := v45) (e := eTimpl_Wait) Tryz.underlying74 info159 hF rfl rfl rfl rfl rfl hb51 rfl rfl (L.nil k0)) ?_
    refine A.all [3, 7] (by kernel_rfl) rfl ⟨⟨_, rfl, ?_⟩, ⟨_, rfl, ?_⟩, trivial⟩
    ·refine L.loadPe shape159 hF rfl rfl rfl rfl rfl (L.nil ?_)
     refine A.all [7] (by kernel_rfl) rfl ⟨⟨_, rfl, ?_⟩, trivial⟩
     refine L.loadPe shape159 hF rfl rfl rfl rfl rfl (L.nil ?_)
     exact A.on (hO _ _ _ n255) (Le.mk [] hm rfl (Sa4 (Sa1 trivial)) trivial trivial)
    ·refine L.loadPe shape159 hF rfl rfl rfl rfl rfl (L.nil ?_)
     refine A.all [3] (by kernel_rfl) rfl ⟨⟨_, rfl, ?_⟩, trivial⟩
     refine L.loadPe shape159 hF rfl rfl rfl rfl rfl (L.nil ?_)
     exact A.on (hO _ _ _ n255) (Le.mk [] hm rfl (Sa4 (Sa1 trivial)) trivial trivial)
   ·replace H := condF hc H
    refine WpC.exit (WpC.seq (WpC.regionL ?_))
    refine L.assign hF rfl rfl rfl (L.nil ?_)
    refine WpC.ret ?_
    cases H
    exact Leaves.ret rfl rfl rfl ⟨rfl, rfl⟩
/-! ### Flaws_eqRest -/
def Flaws_eqRest (k : Nat) (a0 : Timpl_Rest) (a1 : Timpl_Rest) : Option Bool := cond (a0.Servers != a1.Servers) (some false) (cond (a0.Ops != a1.Ops) (some false) (cond (a0.End != a1.End) (some false) (some true)))
theorem ent70 : MG.Enters Tryz.prog 70 := ⟨Tryz.f70, Tryz.func70, rfl, by decide⟩
set_option maxHeartbeats 8000000 in
set_option maxRecDepth 100000 in
theorem Flaws_eqRest_gives (k : Nat) (a0 : Timpl_Rest) (a1 : Timpl_Rest) (r : Bool) (H : Flaws_eqRest k a0 a1 = some r) : Gives Tryz.prog 70 [V.agg [cI a0.Servers, cI a0.Ops, cI a0.End], V.agg [cI a1.Servers, cI a1.Ops, cI a1.End]] [] [V.one (cL r)] [] := by
 refine Gives.intro Tryz.func70 rfl rfl rfl rfl ?_
 intro F hF hm
 unfold Flaws_eqRest at H
 obtain ⟨K, hK⟩ : ∃ K, k ≤ K := ⟨k, Nat.le_refl k⟩
 refine WpC.seq (WpC.regionL ?_)
 refine L.box 6 hF rfl rfl rfl rfl ?_
 refine L.box 7 hF rfl rfl rfl rfl ?_
 refine L.assign hF rfl rfl rfl (L.nil ?_)
 refine WpC.seq (WpC.seq (WpC.regionL ?_))
 refine L.fieldAddr Tryz.underlying37 rfl info3 rfl hF rfl rfl rfl rfl rfl ?_
 refine L.loadPtr shape3 hF rfl rfl rfl rfl rfl rfl ?_
 refine L.fieldAddr Tryz.underlying37 rfl info3 rfl hF rfl rfl rfl rfl rfl ?_
 refine L.loadPtr shape3 hF rfl rfl rfl rfl rfl rfl ?_
 refine L.bin hF rfl rfl rfl rfl rfl rfl (L.nil ?_)
 refine WpC.cond rfl (fun hc => ?_) (fun hc => ?_)
 ·replace H := condT hc H
  refine WpC.seq (WpC.regionL ?_)
  refine L.assign hF rfl rfl rfl (L.nil ?_)
  refine WpC.ret ?_
  cases H
  exact Leaves.ret rfl rfl rfl ⟨rfl, rfl⟩
 ·replace H := condF hc H
  refine WpC.skip (WpC.seq (WpC.seq (WpC.regionL ?_)))
  refine L.fieldAddr Tryz.underlying37 rfl info3 rfl hF rfl rfl rfl rfl rfl ?_
  refine L.loadPtr shape3 hF rfl rfl rfl rfl rfl rfl ?_
  refine L.fieldAddr Tryz.underlying37 rfl info3 rfl hF rfl rfl rfl rfl rfl ?_
  refine L.loadPtr shape3 hF rfl rfl rfl rfl rfl rfl ?_
  refine L.bin hF rfl rfl rfl rfl rfl rfl (L.nil ?_)
  refine WpC.cond rfl (fun hc => ?_) (fun hc => ?_)
  ·replace H := condT hc H
   refine WpC.seq (WpC.regionL ?_)
   refine L.assign hF rfl rfl rfl (L.nil ?_)
   refine WpC.ret ?_
   cases H
   exact Leaves.ret rfl rfl rfl ⟨rfl, rfl⟩
  ·replace H := condF hc H
   refine WpC.skip (WpC.seq (WpC.seq (WpC.regionL ?_)))
   refine L.fieldAddr Tryz.underlying37 rfl info3 rfl hF rfl rfl rfl rfl rfl ?_
   refine L.loadPtr shape3 hF rfl rfl rfl rfl rfl rfl ?_
   refine L.fieldAddr Tryz.underlying37 rfl info3 rfl hF rfl rfl rfl rfl rfl ?_
   refine L.loadPtr shape3 hF rfl rfl rfl rfl rfl rfl ?_
   refine L.bin hF rfl rfl rfl rfl rfl rfl (L.nil ?_)
   refine WpC.cond rfl (fun hc => ?_) (fun hc => ?_)
   ·replace H := condT hc H
    refine WpC.seq (WpC.regionL ?_)
    refine L.assign hF rfl rfl rfl (L.nil ?_)
    refine WpC.ret ?_
    cases H
    exact Leaves.ret rfl rfl rfl ⟨rfl, rfl⟩
   ·replace H := condF hc H
    refine WpC.skip (WpC.seq (WpC.regionL ?_))
    refine L.assign hF rfl rfl rfl (L.nil ?_)
    refine WpC.ret ?_
    cases H
    exact Leaves.ret rfl rfl rfl ⟨rfl, rfl⟩
/-! ### Flaws_eqCred -/
def Flaws_eqCred (k : Nat) (a0 : Timpl_Cred) (a1 : Timpl_Cred) : Option Bool := cond (a0.Owner != a1.Owner) (some false) (cond (a0.Client != a1.Client) (some false) (cond (a0.Service != a1.Service) (some false) (cond (a0.Key != a1.Key) (some false) ((Flaws_eqRest k (⟨a0.Rest.Servers, a0.Rest.Ops, a0.Rest.End⟩ : Timpl_Rest) (⟨a1.Rest.Servers, a1.Rest.Ops, a1.Rest.End⟩ : Timpl_Rest)).bind fun r2 => cond (!r2) (some false) (cond (a0.Ticket != a1.Ticket) (some false) (some true))))))
theorem ent197 : MG.Enters Tryz.prog 197 := ⟨Tryz.f197, Tryz.func197, rfl, by decide⟩
set_option maxHeartbeats 8000000 in
set_option maxRecDepth 100000 in
theorem Flaws_eqCred_gives (k : Nat) (a0 : Timpl_Cred) (a1 : Timpl_Cred) (r : Bool) (H : Flaws_eqCred k a0 a1 = some r) : Gives Tryz.prog 197 [V.agg [cI a0.Owner, cI a0.Client, cI a0.Service, cI a0.Key, cI a0.Rest.Servers, cI a0.Rest.Ops, cI a0.Rest.End, cS a0.Ticket], V.agg [cI a1.Owner, cI a1.Client, cI a1.Service, cI a1.Key, cI a1.Rest.Servers, cI a1.Rest.Ops, cI a1.Rest.End, cS a1.Ticket]] [] [V.one (cL r)] [] := by
 refine Gives.intro Tryz.func197 rfl rfl rfl rfl ?_
 intro F hF hm
 unfold Flaws_eqCred at H
 obtain ⟨K, hK⟩ : ∃ K, k ≤ K := ⟨k, Nat.le_refl k⟩
 refine WpC.seq (WpC.regionL ?_)
 refine L.box 16 hF rfl rfl rfl rfl ?_
 refine L.box 17 hF rfl rfl rfl rfl ?_
 refine L.assign hF rfl rfl rfl (L.nil ?_)
 refine WpC.seq (WpC.seq (WpC.regionL ?_))
 refine L.fieldAddr Tryz.underlying142 rfl info3 rfl hF rfl rfl rfl rfl rfl ?_
 refine L.loadPtr shape3 hF rfl rfl rfl rfl rfl rfl ?_
 refine L.fieldAddr Tryz.underlying142 rfl info3 rfl hF rfl rfl rfl rfl rfl ?_
 refine L.loadPtr shape3 hF rfl rfl rfl rfl rfl rfl ?_
 refine L.bin hF rfl rfl rfl rfl rfl rfl (L.nil ?_)
 refine WpC.cond rfl (fun hc => ?_) (fun hc => ?_)
 ·replace H := condT hc H
  refine WpC.seq (WpC.regionL ?_)
  refine L.assign hF rfl rfl rfl (L.nil ?_)
  refine WpC.ret ?_
  cases H
  exact Leaves.ret rfl rfl rfl ⟨rfl, rfl⟩
 ·replace H := condF hc H
  refine WpC.skip (WpC.seq (WpC.seq (WpC.regionL ?_)))
  refine L.fieldAddr Tryz.underlying142 rfl info3 rfl hF rfl rfl rfl rfl rfl ?_
  refine L.loadPtr shape3 hF rfl rfl rfl rfl rfl rfl ?_
  refine L.fieldAddr Tryz.underlying142 rfl info3 rfl hF rfl rfl rfl rfl rfl ?_
  refine L.loadPtr shape3 hF rfl rfl rfl rfl rfl rfl ?_
  refine L.bin hF rfl rfl rfl rfl rfl rfl (L.nil ?_)
  refine WpC.cond rfl (fun hc => ?_) (fun hc => ?_)
  ·replace H := condT hc H
   refine WpC.seq (WpC.regionL ?_)
   refine L.assign hF rfl rfl rfl (L.nil ?_)
   refine WpC.ret ?_
   cases H
   exact Leaves.ret rfl rfl rfl ⟨rfl, rfl⟩
  ·replace H := condF hc H
   refine WpC.skip (WpC.seq (WpC.seq (WpC.regionL ?_)))
   refine L.fieldAddr Tryz.underlying142 rfl info3 rfl hF rfl rfl rfl rfl rfl ?_
   refine L.loadPtr shape3 hF rfl rfl rfl rfl rfl rfl ?_
   refine L.fieldAddr Tryz.underlying142 rfl info3 rfl hF rfl rfl rfl rfl rfl ?_
   refine L.loadPtr shape3 hF rfl rfl rfl rfl rfl rfl ?_
   refine L.bin hF rfl rfl rfl rfl rfl rfl (L.nil ?_)
   refine WpC.cond rfl (fun hc => ?_) (fun hc => ?_)
   ·replace H := condT hc H
    refine WpC.seq (WpC.regionL ?_)
    refine L.assign hF rfl rfl rfl (L.nil ?_)
    refine WpC.ret ?_
    cases H
    exact Leaves.ret rfl rfl rfl ⟨rfl, rfl⟩
   ·replace H := condF hc H
    refine WpC.skip (WpC.seq (WpC.seq (WpC.regionL ?_)))
    refine L.fieldAddr Tryz.underlying142 rfl info3 rfl hF rfl rfl rfl rfl rfl ?_
    refine L.loadPtr shape3 hF rfl rfl rfl rfl rfl rfl ?_
    refine L.fieldAddr Tryz.underlying142 rfl info3 rfl hF rfl rfl rfl rfl rfl ?_
    refine L.loadPtr shape3 hF rfl rfl rfl rfl rfl rfl ?_
    refine L.bin hF rfl rfl rfl rfl rfl rfl (L.nil ?_)
    refine WpC.cond rfl (fun hc => ?_) (fun hc => ?_)
    ·replace H := condT hc H
     refine WpC.seq (WpC.regionL ?_)
     refine L.assign hF rfl rfl rfl (L.nil ?_)
     refine WpC.ret ?_
     cases H
     exact Leaves.ret rfl rfl rfl ⟨rfl, rfl⟩
    ·replace H := condF hc H
     refine WpC.skip (WpC.seq (WpC.seq (WpC.regionL ?_)))
     refine L.fieldAddr Tryz.underlying142 rfl info37 rfl hF rfl rfl rfl rfl rfl ?_
     refine L.loadPtr shape37 hF rfl rfl rfl rfl rfl rfl ?_
     refine L.fieldAddr Tryz.underlying142 rfl info37 rfl hF rfl rfl rfl rfl rfl ?_
     refine L.loadPtr shape37 hF rfl rfl rfl rfl rfl rfl ?_
     obtain ⟨r2, hr2, H⟩ := bindS H
     refine L.call [false, false] [] [] 18 hF rfl rfl rfl ent70 rfl rfl rfl rfl rfl (Flaws_eqRest_gives k  (⟨a0.Rest.Servers, a0.Rest.Ops, a0.Rest.End⟩ : Timpl_Rest) (⟨a1.Rest.Servers, a1.Rest.Ops, a1.Rest.End⟩ : Timpl_Rest) r2 hr2) rfl ?_
     refine L.not hF rfl rfl rfl (L.nil ?_)
     refine WpC.cond rfl (fun hc => ?_) (fun hc => ?_)
     ·replace H := condT hc H
      refine WpC.seq (WpC.regionL ?_)
      refine L.assign hF rfl rfl rfl (L.nil ?_)
      refine WpC.ret ?_
      cases H
      exact Leaves.ret rfl rfl rfl ⟨rfl, rfl⟩
     ·replace H := condF hc H
      refine WpC.skip (WpC.seq (WpC.seq (WpC.regionL ?_)))
      refine L.fieldAddr Tryz.underlying142 rfl info9 rfl hF rfl rfl rfl rfl rfl ?_
      refine L.loadPtr shape9 hF rfl rfl rfl rfl rfl rfl ?_
      refine L.fieldAddr Tryz.underlying142 rfl info9 rfl hF rfl rfl rfl rfl rfl ?_
      refine L.loadPtr shape9 hF rfl rfl rfl rfl rfl rfl ?_
      refine L.binS hF rfl rfl rfl rfl rfl (L.nil ?_)
      refine WpC.cond rfl (fun hc => ?_) (fun hc => ?_)
      ·replace H := condT hc H
       refine WpC.seq (WpC.regionL ?_)
       refine L.assign hF rfl rfl rfl (L.nil ?_)
       refine WpC.ret ?_
       cases H
       exact Leaves.ret rfl rfl rfl ⟨rfl, rfl⟩
      ·replace H := condF hc H
       refine WpC.skip (WpC.seq (WpC.regionL ?_))
       refine L.assign hF rfl rfl rfl (L.nil ?_)
       refine WpC.ret ?_
       cases H
       exact Leaves.ret rfl rfl rfl ⟨rfl, rfl⟩
end Go.Proofs.YtgjbgakcfcomdaaGreat.M
