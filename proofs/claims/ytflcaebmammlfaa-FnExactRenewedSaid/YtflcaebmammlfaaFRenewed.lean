import Derived.Test.YtflcaebmammlfaaMgZc
import Derived.Test.YtflcaebmammlfaaProg
namespace Go.Proofs.Ytflcaebmammlfaa.M
open Go Go.MG
set_option linter.unusedVariables false
set_option linter.unusedSimpArgs false
structure Tlaws_Times where
  Auth : Int
  Start : Int
  End : Int
  Renew : Int
def eTlaws_Times (x : Tlaws_Times) : List Cell := [cI x.Auth, cI x.Start, cI x.End, cI x.Renew]
structure Timpl_Times where
  Auth : Int
  Start : Int
  End : Int
  Renew : Int
def eTimpl_Times (x : Timpl_Times) : List Cell := [cI x.Auth, cI x.Start, cI x.End, cI x.Renew]
theorem mixed : Try.prog.follows .mixedOrders = true := by kernel_rfl
theorem shape3 : MG.shape Try.prog 3 = some (false, 1) := by kernel_rfl
theorem shape23 : MG.shape Try.prog 23 = some (true, 4) := by kernel_rfl
theorem shape25 : MG.shape Try.prog 25 = some (true, 4) := by kernel_rfl
theorem info3 : Try.prog.info? 3 = some Try.t3 := by kernel_rfl
theorem info25 : Try.prog.info? 25 = some Try.t25 := by kernel_rfl
theorem built25 : builtA Try.prog 25 = fillA (fun x => ([(0, 1), (1, 1), (2, 1), (3, 1)] : List (Nat × Nat))[x]?) [cI (0 : Int), cI (0 : Int), cI (0 : Int), cI (0 : Int)] := by kernel_rfl
/-! ### Flaws_toTimes -/
def Flaws_toTimes (k : Nat) (a0 : Tlaws_Times) : Option Timpl_Times := some (⟨a0.Auth, a0.Start, a0.End, a0.Renew⟩ : Timpl_Times)
theorem ent23 : Enters Try.prog 23 := ⟨Try.f23, Try.func23, rfl, by decide⟩
set_option maxHeartbeats 8000000 in
set_option maxRecDepth 100000 in
theorem Flaws_toTimes_gives (k : Nat) (a0 : Tlaws_Times) (r : Timpl_Times) (H : Flaws_toTimes k a0 = some r) : Gives Try.prog 23 [V.agg [cI a0.Auth, cI a0.Start, cI a0.End, cI a0.Renew]] [] [V.agg [cI r.Auth, cI r.Start, cI r.End, cI r.Renew]] [] := by
  refine Gives.intro Try.func23 rfl rfl rfl rfl ?_
  intro F hF hm
  unfold Flaws_toTimes at H
  obtain ⟨K, hK⟩ : ∃ K, k ≤ K := ⟨k, Nat.le_refl k⟩
  refine WpC.seq ?_
  refine WpC.regionL ?_
  refine L.box 4 hF rfl rfl rfl rfl ?_
  refine L.alloc 5 info25 rfl hF rfl rfl rfl rfl ?_
  refine L.nil ?_
  refine WpC.seq ?_
  refine WpC.regionL ?_
  refine L.alloc 6 info25 rfl hF rfl rfl rfl rfl ?_
  refine L.nil ?_
  refine WpC.seq ?_
  refine WpC.regionL ?_
  refine L.fieldAddr Try.underlying23 rfl info3 rfl hF rfl rfl rfl rfl rfl ?_
  refine L.loadPtr shape3 hF rfl rfl rfl rfl rfl rfl ?_
  refine L.fieldAddr Try.underlying25 rfl info3 rfl hF rfl rfl rfl rfl rfl ?_
  refine L.storePtr shape3 hF rfl rfl rfl rfl rfl rfl rfl ?_
  refine L.nil ?_
  refine WpC.seq ?_
  refine WpC.regionL ?_
  refine L.fieldAddr Try.underlying23 rfl info3 rfl hF rfl rfl rfl rfl rfl ?_
  refine L.loadPtr shape3 hF rfl rfl rfl rfl rfl rfl ?_
  refine L.fieldAddr Try.underlying25 rfl info3 rfl hF rfl rfl rfl rfl rfl ?_
  refine L.storePtr shape3 hF rfl rfl rfl rfl rfl rfl rfl ?_
  refine L.nil ?_
  refine WpC.seq ?_
  refine WpC.regionL ?_
  refine L.fieldAddr Try.underlying23 rfl info3 rfl hF rfl rfl rfl rfl rfl ?_
  refine L.loadPtr shape3 hF rfl rfl rfl rfl rfl rfl ?_
  refine L.fieldAddr Try.underlying25 rfl info3 rfl hF rfl rfl rfl rfl rfl ?_
  refine L.storePtr shape3 hF rfl rfl rfl rfl rfl rfl rfl ?_
  refine L.nil ?_
  refine WpC.seq ?_
  refine WpC.regionL ?_
  refine L.fieldAddr Try.underlying23 rfl info3 rfl hF rfl rfl rfl rfl rfl ?_
  refine L.loadPtr shape3 hF rfl rfl rfl rfl rfl rfl ?_
  refine L.fieldAddr Try.underlying25 rfl info3 rfl hF rfl rfl rfl rfl rfl ?_
  refine L.storePtr shape3 hF rfl rfl rfl rfl rfl rfl rfl ?_
  refine L.nil ?_
  refine WpC.seq ?_
  refine WpC.regionL ?_
  refine L.loadPtr shape25 hF rfl rfl rfl rfl rfl rfl ?_
  refine L.storePtr shape25 hF rfl rfl rfl rfl rfl rfl rfl ?_
  refine L.nil ?_
  refine WpC.ret ?_
  cases H
  exact Leaves.ret rfl rfl rfl ⟨rfl, rfl⟩
/-! ### Fspec_TimesOk -/
def Fspec_TimesOk (k : Nat) (a0 : Timpl_Times) : Option Bool := cond (decide (a0.Auth ≥ (0 : Int))) (cond (decide (a0.Start ≥ a0.Auth)) (cond (decide (a0.End ≥ a0.Start)) (cond (decide (a0.Renew ≥ a0.End)) (some (decide (a0.Renew ≤ (100000 : Int)))) (some false)) (some false)) (some false)) (some false)
theorem ent22 : Enters Try.prog 22 := ⟨Try.f22, Try.func22, rfl, by decide⟩
set_option maxHeartbeats 8000000 in
set_option maxRecDepth 100000 in
theorem Fspec_TimesOk_gives (k : Nat) (a0 : Timpl_Times) (r : Bool) (H : Fspec_TimesOk k a0 = some r) : Gives Try.prog 22 [V.agg [cI a0.Auth, cI a0.Start, cI a0.End, cI a0.Renew]] [] [V.one (cL r)] [] := by
  refine Gives.intro Try.func22 rfl rfl rfl rfl ?_
  intro F hF hm
  unfold Fspec_TimesOk at H
  obtain ⟨K, hK⟩ : ∃ K, k ≤ K := ⟨k, Nat.le_refl k⟩
  refine WpC.seq ?_
  refine WpC.regionL ?_
  refine L.box 4 hF rfl rfl rfl rfl ?_
  refine L.assign hF rfl rfl rfl ?_
  refine L.nil ?_
  refine WpC.seq ?_
  refine WpC.regionL ?_
  refine L.fieldAddr Try.underlying25 rfl info3 rfl hF rfl rfl rfl rfl rfl ?_
  refine L.loadPtr shape3 hF rfl rfl rfl rfl rfl rfl ?_
  refine L.bin hF rfl rfl rfl rfl rfl rfl ?_
  refine L.move hF rfl rfl rfl ?_
  refine L.split (fun hc => ?_) (fun hc => ?_)
  · replace H := condT hc H
    refine L.fieldAddr Try.underlying25 rfl info3 rfl hF rfl rfl rfl rfl rfl ?_
    refine L.loadPtr shape3 hF rfl rfl rfl rfl rfl rfl ?_
    refine L.fieldAddr Try.underlying25 rfl info3 rfl hF rfl rfl rfl rfl rfl ?_
    refine L.loadPtr shape3 hF rfl rfl rfl rfl rfl rfl ?_
    refine L.bin hF rfl rfl rfl rfl rfl rfl ?_
    refine L.pick hF rfl rfl rfl rfl ?_
    refine L.move hF rfl rfl rfl ?_
    refine L.split (fun hc => ?_) (fun hc => ?_)
    · replace H := condT hc H
      refine L.fieldAddr Try.underlying25 rfl info3 rfl hF rfl rfl rfl rfl rfl ?_
      refine L.loadPtr shape3 hF rfl rfl rfl rfl rfl rfl ?_
      refine L.fieldAddr Try.underlying25 rfl info3 rfl hF rfl rfl rfl rfl rfl ?_
      refine L.loadPtr shape3 hF rfl rfl rfl rfl rfl rfl ?_
      refine L.bin hF rfl rfl rfl rfl rfl rfl ?_
      refine L.pick hF rfl rfl rfl rfl ?_
      refine L.move hF rfl rfl rfl ?_
      refine L.split (fun hc => ?_) (fun hc => ?_)
      · replace H := condT hc H
        refine L.fieldAddr Try.underlying25 rfl info3 rfl hF rfl rfl rfl rfl rfl ?_
        refine L.loadPtr shape3 hF rfl rfl rfl rfl rfl rfl ?_
        refine L.fieldAddr Try.underlying25 rfl info3 rfl hF rfl rfl rfl rfl rfl ?_
        refine L.loadPtr shape3 hF rfl rfl rfl rfl rfl rfl ?_
        refine L.bin hF rfl rfl rfl rfl rfl rfl ?_
        refine L.pick hF rfl rfl rfl rfl ?_
        refine L.move hF rfl rfl rfl ?_
        refine L.split (fun hc => ?_) (fun hc => ?_)
        · replace H := condT hc H
          refine L.fieldAddr Try.underlying25 rfl info3 rfl hF rfl rfl rfl rfl rfl ?_
          refine L.loadPtr shape3 hF rfl rfl rfl rfl rfl rfl ?_
          refine L.bin hF rfl rfl rfl rfl rfl rfl ?_
          refine L.pick hF rfl rfl rfl rfl ?_
          refine L.assign hF rfl rfl rfl ?_
          refine L.nil ?_
          refine WpC.ret ?_
          cases H
          exact Leaves.ret rfl rfl rfl ⟨rfl, rfl⟩
        · replace H := condF hc H
          refine L.off hF rfl rfl ?_
          refine L.off hF rfl rfl ?_
          refine L.off hF rfl rfl ?_
          refine L.pick hF rfl rfl rfl rfl ?_
          refine L.assign hF rfl rfl rfl ?_
          refine L.nil ?_
          refine WpC.ret ?_
          cases H
          exact Leaves.ret rfl rfl rfl ⟨rfl, rfl⟩
      · replace H := condF hc H
        refine L.off hF rfl rfl ?_
        refine L.off hF rfl rfl ?_
        refine L.off hF rfl rfl ?_
        refine L.off hF rfl rfl ?_
        refine L.off hF rfl rfl ?_
        refine L.pick hF rfl rfl rfl rfl ?_
        refine L.move hF rfl rfl rfl ?_
        refine L.off hF rfl rfl ?_
        refine L.off hF rfl rfl ?_
        refine L.off hF rfl rfl ?_
        refine L.pick hF rfl rfl rfl rfl ?_
        refine L.assign hF rfl rfl rfl ?_
        refine L.nil ?_
        refine WpC.ret ?_
        cases H
        exact Leaves.ret rfl rfl rfl ⟨rfl, rfl⟩
    · replace H := condF hc H
      refine L.off hF rfl rfl ?_
      refine L.off hF rfl rfl ?_
      refine L.off hF rfl rfl ?_
      refine L.off hF rfl rfl ?_
      refine L.off hF rfl rfl ?_
      refine L.pick hF rfl rfl rfl rfl ?_
      refine L.move hF rfl rfl rfl ?_
      refine L.off hF rfl rfl ?_
      refine L.off hF rfl rfl ?_
      refine L.off hF rfl rfl ?_
      refine L.off hF rfl rfl ?_
      refine L.off hF rfl rfl ?_
      refine L.pick hF rfl rfl rfl rfl ?_
      refine L.move hF rfl rfl rfl ?_
      refine L.off hF rfl rfl ?_
      refine L.off hF rfl rfl ?_
      refine L.off hF rfl rfl ?_
      refine L.pick hF rfl rfl rfl rfl ?_
      refine L.assign hF rfl rfl rfl ?_
      refine L.nil ?_
      refine WpC.ret ?_
      cases H
      exact Leaves.ret rfl rfl rfl ⟨rfl, rfl⟩
  · replace H := condF hc H
    refine L.off hF rfl rfl ?_
    refine L.off hF rfl rfl ?_
    refine L.off hF rfl rfl ?_
    refine L.off hF rfl rfl ?_
    refine L.off hF rfl rfl ?_
    refine L.pick hF rfl rfl rfl rfl ?_
    refine L.move hF rfl rfl rfl ?_
    refine L.off hF rfl rfl ?_
    refine L.off hF rfl rfl ?_
    refine L.off hF rfl rfl ?_
    refine L.off hF rfl rfl ?_
    refine L.off hF rfl rfl ?_
    refine L.pick hF rfl rfl rfl rfl ?_
    refine L.move hF rfl rfl rfl ?_
    refine L.off hF rfl rfl ?_
    refine L.off hF rfl rfl ?_
    refine L.off hF rfl rfl ?_
    refine L.off hF rfl rfl ?_
    refine L.off hF rfl rfl ?_
    refine L.pick hF rfl rfl rfl rfl ?_
    refine L.move hF rfl rfl rfl ?_
    refine L.off hF rfl rfl ?_
    refine L.off hF rfl rfl ?_
    refine L.off hF rfl rfl ?_
    refine L.pick hF rfl rfl rfl rfl ?_
    refine L.assign hF rfl rfl rfl ?_
    refine L.nil ?_
    refine WpC.ret ?_
    cases H
    exact Leaves.ret rfl rfl rfl ⟨rfl, rfl⟩
/-! ### Fspec_l1In -/
def Fspec_l1In (k : Nat) (a0 : Int) (a1 : Int) (a2 : Int) : Option Bool := cond (decide (a0 ≥ a1)) (some (decide (a0 ≤ a2))) (some false)
theorem ent92 : Enters Try.prog 92 := ⟨Try.f92, Try.func92, rfl, by decide⟩
set_option maxHeartbeats 8000000 in
set_option maxRecDepth 100000 in
theorem Fspec_l1In_gives (k : Nat) (a0 : Int) (a1 : Int) (a2 : Int) (r : Bool) (H : Fspec_l1In k a0 a1 a2 = some r) : Gives Try.prog 92 [V.one (cI a0), V.one (cI a1), V.one (cI a2)] [] [V.one (cL r)] [] := by
  refine Gives.intro Try.func92 rfl rfl rfl rfl ?_
  intro F hF hm
  unfold Fspec_l1In at H
  obtain ⟨K, hK⟩ : ∃ K, k ≤ K := ⟨k, Nat.le_refl k⟩
  refine WpC.seq ?_
  refine WpC.regionL ?_
  refine L.assign hF rfl rfl rfl ?_
  refine L.nil ?_
  refine WpC.seq ?_
  refine WpC.regionL ?_
  refine L.move hF rfl rfl rfl ?_
  refine L.move hF rfl rfl rfl ?_
  refine L.bin hF rfl rfl rfl rfl rfl rfl ?_
  refine L.move hF rfl rfl rfl ?_
  refine L.split (fun hc => ?_) (fun hc => ?_)
  · replace H := condT hc H
    refine L.move hF rfl rfl rfl ?_
    refine L.move hF rfl rfl rfl ?_
    refine L.bin hF rfl rfl rfl rfl rfl rfl ?_
    refine L.pick hF rfl rfl rfl rfl ?_
    refine L.assign hF rfl rfl rfl ?_
    refine L.nil ?_
    refine WpC.ret ?_
    cases H
    exact Leaves.ret rfl rfl rfl ⟨rfl, rfl⟩
  · replace H := condF hc H
    refine L.off hF rfl rfl ?_
    refine L.off hF rfl rfl ?_
    refine L.off hF rfl rfl ?_
    refine L.pick hF rfl rfl rfl rfl ?_
    refine L.assign hF rfl rfl rfl ?_
    refine L.nil ?_
    refine WpC.ret ?_
    cases H
    exact Leaves.ret rfl rfl rfl ⟨rfl, rfl⟩
/-! ### Fspec_Renewed -/
def Fspec_Renewed.j3 (k : Nat) (v21 : Int) (v22 : Int) (v23 : Int) (v24 : Int) (v25 : Int) (v26 : Int) : Option (Timpl_Times × Bool) := some ((⟨v23, v21, v22, v26⟩ : Timpl_Times), true)
def Fspec_Renewed.j2 (k : Nat) (v14 : Int) (v15 : Int) (v16 : Bool) (v17 : Int) (v18 : Int) (v19 : Int) (v20 : Int) : Option (Timpl_Times × Bool) := cond v16 (some ((⟨(0 : Int), (0 : Int), (0 : Int), (0 : Int)⟩ : Timpl_Times), false)) (cond (decide (v15 ≤ (IntKind.i64.wrap (v20 - v14)))) (Fspec_Renewed.j3 k v14 (IntKind.i64.wrap (v14 + v15)) v17 v18 v19 v20) (Fspec_Renewed.j3 k v14 v20 v17 v18 v19 v20))
def Fspec_Renewed (k : Nat) (a0 : Timpl_Times) (a1 : Int) (a2 : Int) : Option (Timpl_Times × Bool) := (Fspec_TimesOk k a0).bind fun r27 => cond (!r27) (Fspec_Renewed.j2 k a1 a2 true a0.Auth a0.Start a0.End a0.Renew) ((Fspec_l1In k a1 a0.Start a0.End).bind fun r28 => cond (!r28) (Fspec_Renewed.j2 k a1 a2 true a0.Auth a0.Start a0.End a0.Renew) (Fspec_Renewed.j2 k a1 a2 (decide (a2 < (1 : Int))) a0.Auth a0.Start a0.End a0.Renew))
theorem ent27 : Enters Try.prog 27 := ⟨Try.f27, Try.func27, rfl, by decide⟩
set_option maxHeartbeats 8000000 in
set_option maxRecDepth 100000 in
theorem Fspec_Renewed_gives (k : Nat) (a0 : Timpl_Times) (a1 : Int) (a2 : Int) (r : Timpl_Times × Bool) (H : Fspec_Renewed k a0 a1 a2 = some r) : Gives Try.prog 27 [V.agg [cI a0.Auth, cI a0.Start, cI a0.End, cI a0.Renew], V.one (cI a1), V.one (cI a2)] [] [V.agg [cI r.1.Auth, cI r.1.Start, cI r.1.End, cI r.1.Renew], V.one (cL r.2)] [] := by
  refine Gives.intro Try.func27 rfl rfl rfl rfl ?_
  intro F hF hm
  unfold Fspec_Renewed at H
  obtain ⟨K, hK⟩ : ∃ K, k ≤ K := ⟨k, Nat.le_refl k⟩
  refine WpC.seq ?_
  refine WpC.regionL ?_
  refine L.box 6 hF rfl rfl rfl rfl ?_
  refine L.alloc 7 info25 rfl hF rfl rfl rfl rfl ?_
  refine L.assign hF rfl rfl rfl ?_
  refine L.nil ?_
  refine WpC.seq ?_
  refine WpC.join (fun σ => ∃ kj2 : Nat, ∃ v14 : Int, ∃ v15 : Int, ∃ v16 : Bool, ∃ v17 : Int, ∃ v18 : Int, ∃ v19 : Int, ∃ v20 : Int, kj2 ≤ K ∧ Fspec_Renewed.j2 kj2 v14 v15 v16 v17 v18 v19 v20 = some r ∧ σ = mkSt [(1, one (cI v14)), (2, one (cI v15)), (3, one (Cell.ptr 0 0)), (6, one (Cell.ptr 1 0)), (24, one (cL v16))] [] [(0, [cI v17, cI v18, cI v19, cI v20]), (1, [cI (0 : Int), cI (0 : Int), cI (0 : Int), cI (0 : Int)])] 2) ?_ ?_
  · rintro _ ⟨kj2, v14, v15, v16, v17, v18, v19, v20, hkj2, H, rfl⟩
    unfold Fspec_Renewed.j2 at H
    refine WpC.cond rfl (fun hc => ?_) (fun hc => ?_)
    · replace H := condT hc H
      refine WpC.seq ?_
      refine WpC.regionL ?_
      refine L.buildF built25 hF rfl rfl rfl rfl ?_
      refine L.storePtr shape25 hF rfl rfl rfl rfl rfl rfl rfl ?_
      refine L.assign hF rfl rfl rfl ?_
      refine L.nil ?_
      refine WpC.ret ?_
      cases H
      exact Leaves.ret rfl rfl rfl ⟨rfl, rfl⟩
    · replace H := condF hc H
      refine WpC.skip ?_
      refine WpC.seq ?_
      refine WpC.regionL ?_
      refine L.fieldAddr Try.underlying25 rfl info3 rfl hF rfl rfl rfl rfl rfl ?_
      refine L.loadPtr shape3 hF rfl rfl rfl rfl rfl rfl ?_
      refine L.assign hF rfl rfl rfl ?_
      refine L.nil ?_
      refine WpC.join (fun σ => ∃ kj3 : Nat, ∃ v21 : Int, ∃ v22 : Int, ∃ v23 : Int, ∃ v24 : Int, ∃ v25 : Int, ∃ v26 : Int, kj3 ≤ K ∧ Fspec_Renewed.j3 kj3 v21 v22 v23 v24 v25 v26 = some r ∧ σ = mkSt [(1, one (cI v21)), (3, one (Cell.ptr 0 0)), (6, one (Cell.ptr 1 0)), (8, one (cI v22))] [] [(0, [cI v23, cI v24, cI v25, cI v26]), (1, [cI (0 : Int), cI (0 : Int), cI (0 : Int), cI (0 : Int)])] 2) ?_ ?_
      · rintro _ ⟨kj3, v21, v22, v23, v24, v25, v26, hkj3, H, rfl⟩
        unfold Fspec_Renewed.j3 at H
        refine WpC.seq ?_
        refine WpC.regionL ?_
        refine L.fieldAddr Try.underlying25 rfl info3 rfl hF rfl rfl rfl rfl rfl ?_
        refine L.loadPtr shape3 hF rfl rfl rfl rfl rfl rfl ?_
        refine L.move hF rfl rfl rfl ?_
        refine L.move hF rfl rfl rfl ?_
        refine L.fieldAddr Try.underlying25 rfl info3 rfl hF rfl rfl rfl rfl rfl ?_
        refine L.loadPtr shape3 hF rfl rfl rfl rfl rfl rfl ?_
        refine L.buildF built25 hF rfl rfl rfl rfl ?_
        refine L.storePtr shape25 hF rfl rfl rfl rfl rfl rfl rfl ?_
        refine L.assign hF rfl rfl rfl ?_
        refine L.nil ?_
        refine WpC.ret ?_
        cases H
        exact Leaves.ret rfl rfl rfl ⟨rfl, rfl⟩
      · refine WpC.seq ?_
        refine WpC.regionL ?_
        refine L.move hF rfl rfl rfl ?_
        refine L.fieldAddr Try.underlying25 rfl info3 rfl hF rfl rfl rfl rfl rfl ?_
        refine L.loadPtr shape3 hF rfl rfl rfl rfl rfl rfl ?_
        refine L.move hF rfl rfl rfl ?_
        refine L.bin hF rfl rfl rfl rfl rfl rfl ?_
        refine L.bin hF rfl rfl rfl rfl rfl rfl ?_
        refine L.nil ?_
        refine WpC.cond rfl (fun hc => ?_) (fun hc => ?_)
        · replace H := condT hc H
          refine WpC.regionL ?_
          refine L.move hF rfl rfl rfl ?_
          refine L.move hF rfl rfl rfl ?_
          refine L.bin hF rfl rfl rfl rfl rfl rfl ?_
          refine L.assign hF rfl rfl rfl ?_
          refine L.nil ?_
          exact ⟨_, ⟨kj2, v14, (IntKind.i64.wrap (v14 + v15)), v17, v18, v19, v20, by omega, H, rfl⟩, Le.mk [(0, 0), (1, 1)] hm rfl ⟨⟨_, rfl, rfl⟩, ⟨_, rfl, rfl⟩, ⟨_, rfl, rfl⟩, ⟨_, rfl, rfl⟩, trivial⟩ trivial ⟨⟨_, _, rfl, rfl, rfl⟩, ⟨_, _, rfl, rfl, rfl⟩, trivial⟩⟩
        · replace H := condF hc H
          refine WpC.skip ?_
          exact ⟨_, ⟨kj2, v14, v20, v17, v18, v19, v20, by omega, H, rfl⟩, Le.mk [(0, 0), (1, 1)] hm rfl ⟨⟨_, rfl, rfl⟩, ⟨_, rfl, rfl⟩, ⟨_, rfl, rfl⟩, ⟨_, rfl, rfl⟩, trivial⟩ trivial ⟨⟨_, _, rfl, rfl, rfl⟩, ⟨_, _, rfl, rfl, rfl⟩, trivial⟩⟩
  · refine WpC.regionL ?_
    refine L.loadPtr shape25 hF rfl rfl rfl rfl rfl rfl ?_
    obtain ⟨r27, hr27, H⟩ := bindS H
    refine L.call [false] [] [] 8 hF rfl rfl rfl ent22 rfl rfl rfl rfl rfl (Fspec_TimesOk_gives k  a0 r27 hr27) rfl ?_
    refine L.not hF rfl rfl rfl ?_
    refine L.move hF rfl rfl rfl ?_
    refine L.split (fun hc => ?_) (fun hc => ?_)
    · replace H := condT hc H
      refine L.off hF rfl rfl ?_
      refine L.off hF rfl rfl ?_
      refine L.off hF rfl rfl ?_
      refine L.off hF rfl rfl ?_
      refine L.off hF rfl rfl ?_
      refine L.off hF rfl rfl ?_
      refine L.off hF rfl rfl ?_
      refine L.pick hF rfl rfl rfl rfl ?_
      refine L.move hF rfl rfl rfl ?_
      refine L.off hF rfl rfl ?_
      refine L.off hF rfl rfl ?_
      refine L.pick hF rfl rfl rfl rfl ?_
      refine L.nil ?_
      exact ⟨_, ⟨k, a1, a2, true, a0.Auth, a0.Start, a0.End, a0.Renew, by omega, H, rfl⟩, Le.mk [(0, 6), (1, 7)] hm rfl ⟨⟨_, rfl, rfl⟩, ⟨_, rfl, rfl⟩, ⟨_, rfl, rfl⟩, ⟨_, rfl, rfl⟩, ⟨_, rfl, rfl⟩, trivial⟩ trivial ⟨⟨_, _, rfl, rfl, rfl⟩, ⟨_, _, rfl, rfl, rfl⟩, trivial⟩⟩
    · replace H := condF hc H
      refine L.move hF rfl rfl rfl ?_
      refine L.fieldAddr Try.underlying25 rfl info3 rfl hF rfl rfl rfl rfl rfl ?_
      refine L.loadPtr shape3 hF rfl rfl rfl rfl rfl rfl ?_
      refine L.fieldAddr Try.underlying25 rfl info3 rfl hF rfl rfl rfl rfl rfl ?_
      refine L.loadPtr shape3 hF rfl rfl rfl rfl rfl rfl ?_
      obtain ⟨r28, hr28, H⟩ := bindS H
      refine L.call [false, false, false] [] [] 9 hF rfl rfl rfl ent92 rfl rfl rfl rfl rfl (Fspec_l1In_gives k  a1 a0.Start a0.End r28 hr28) rfl ?_
      refine L.not hF rfl rfl rfl ?_
      refine L.pick hF rfl rfl rfl rfl ?_
      refine L.move hF rfl rfl rfl ?_
      refine L.split (fun hc => ?_) (fun hc => ?_)
      · replace H := condT hc H
        refine L.off hF rfl rfl ?_
        refine L.off hF rfl rfl ?_
        refine L.pick hF rfl rfl rfl rfl ?_
        refine L.nil ?_
        exact ⟨_, ⟨k, a1, a2, true, a0.Auth, a0.Start, a0.End, a0.Renew, by omega, H, rfl⟩, Le.mk [(0, 6), (1, 7)] hm rfl ⟨⟨_, rfl, rfl⟩, ⟨_, rfl, rfl⟩, ⟨_, rfl, rfl⟩, ⟨_, rfl, rfl⟩, ⟨_, rfl, rfl⟩, trivial⟩ trivial ⟨⟨_, _, rfl, rfl, rfl⟩, ⟨_, _, rfl, rfl, rfl⟩, trivial⟩⟩
      · replace H := condF hc H
        refine L.move hF rfl rfl rfl ?_
        refine L.bin hF rfl rfl rfl rfl rfl rfl ?_
        refine L.pick hF rfl rfl rfl rfl ?_
        refine L.nil ?_
        exact ⟨_, ⟨k, a1, a2, (decide (a2 < (1 : Int))), a0.Auth, a0.Start, a0.End, a0.Renew, by omega, H, rfl⟩, Le.mk [(0, 6), (1, 7)] hm rfl ⟨⟨_, rfl, rfl⟩, ⟨_, rfl, rfl⟩, ⟨_, rfl, rfl⟩, ⟨_, rfl, rfl⟩, ⟨_, rfl, rfl⟩, trivial⟩ trivial ⟨⟨_, _, rfl, rfl, rfl⟩, ⟨_, _, rfl, rfl, rfl⟩, trivial⟩⟩
/-! ### Fimpl_TimesOk -/
def Fimpl_TimesOk (k : Nat) (a0 : Timpl_Times) : Option Bool := cond (decide (a0.Auth ≥ (0 : Int))) (cond (decide (a0.Start ≥ a0.Auth)) (cond (decide (a0.End ≥ a0.Start)) (cond (decide (a0.Renew ≥ a0.End)) (some (decide (a0.Renew ≤ (100000 : Int)))) (some false)) (some false)) (some false)) (some false)
theorem ent24 : Enters Try.prog 24 := ⟨Try.f24, Try.func24, rfl, by decide⟩
set_option maxHeartbeats 8000000 in
set_option maxRecDepth 100000 in
theorem Fimpl_TimesOk_gives (k : Nat) (a0 : Timpl_Times) (r : Bool) (H : Fimpl_TimesOk k a0 = some r) : Gives Try.prog 24 [V.agg [cI a0.Auth, cI a0.Start, cI a0.End, cI a0.Renew]] [] [V.one (cL r)] [] := by
  refine Gives.intro Try.func24 rfl rfl rfl rfl ?_
  intro F hF hm
  unfold Fimpl_TimesOk at H
  obtain ⟨K, hK⟩ : ∃ K, k ≤ K := ⟨k, Nat.le_refl k⟩
  refine WpC.seq ?_
  refine WpC.regionL ?_
  refine L.box 4 hF rfl rfl rfl rfl ?_
  refine L.assign hF rfl rfl rfl ?_
  refine L.nil ?_
  refine WpC.seq ?_
  refine WpC.regionL ?_
  refine L.fieldAddr Try.underlying25 rfl info3 rfl hF rfl rfl rfl rfl rfl ?_
  refine L.loadPtr shape3 hF rfl rfl rfl rfl rfl rfl ?_
  refine L.bin hF rfl rfl rfl rfl rfl rfl ?_
  refine L.move hF rfl rfl rfl ?_
  refine L.split (fun hc => ?_) (fun hc => ?_)
  · replace H := condT hc H
    refine L.fieldAddr Try.underlying25 rfl info3 rfl hF rfl rfl rfl rfl rfl ?_
    refine L.loadPtr shape3 hF rfl rfl rfl rfl rfl rfl ?_
    refine L.fieldAddr Try.underlying25 rfl info3 rfl hF rfl rfl rfl rfl rfl ?_
    refine L.loadPtr shape3 hF rfl rfl rfl rfl rfl rfl ?_
    refine L.bin hF rfl rfl rfl rfl rfl rfl ?_
    refine L.pick hF rfl rfl rfl rfl ?_
    refine L.move hF rfl rfl rfl ?_
    refine L.split (fun hc => ?_) (fun hc => ?_)
    · replace H := condT hc H
      refine L.fieldAddr Try.underlying25 rfl info3 rfl hF rfl rfl rfl rfl rfl ?_
      refine L.loadPtr shape3 hF rfl rfl rfl rfl rfl rfl ?_
      refine L.fieldAddr Try.underlying25 rfl info3 rfl hF rfl rfl rfl rfl rfl ?_
      refine L.loadPtr shape3 hF rfl rfl rfl rfl rfl rfl ?_
      refine L.bin hF rfl rfl rfl rfl rfl rfl ?_
      refine L.pick hF rfl rfl rfl rfl ?_
      refine L.move hF rfl rfl rfl ?_
      refine L.split (fun hc => ?_) (fun hc => ?_)
      · replace H := condT hc H
        refine L.fieldAddr Try.underlying25 rfl info3 rfl hF rfl rfl rfl rfl rfl ?_
        refine L.loadPtr shape3 hF rfl rfl rfl rfl rfl rfl ?_
        refine L.fieldAddr Try.underlying25 rfl info3 rfl hF rfl rfl rfl rfl rfl ?_
        refine L.loadPtr shape3 hF rfl rfl rfl rfl rfl rfl ?_
        refine L.bin hF rfl rfl rfl rfl rfl rfl ?_
        refine L.pick hF rfl rfl rfl rfl ?_
        refine L.move hF rfl rfl rfl ?_
        refine L.split (fun hc => ?_) (fun hc => ?_)
        · replace H := condT hc H
          refine L.fieldAddr Try.underlying25 rfl info3 rfl hF rfl rfl rfl rfl rfl ?_
          refine L.loadPtr shape3 hF rfl rfl rfl rfl rfl rfl ?_
          refine L.bin hF rfl rfl rfl rfl rfl rfl ?_
          refine L.pick hF rfl rfl rfl rfl ?_
          refine L.assign hF rfl rfl rfl ?_
          refine L.nil ?_
          refine WpC.ret ?_
          cases H
          exact Leaves.ret rfl rfl rfl ⟨rfl, rfl⟩
        · replace H := condF hc H
          refine L.off hF rfl rfl ?_
          refine L.off hF rfl rfl ?_
          refine L.off hF rfl rfl ?_
          refine L.pick hF rfl rfl rfl rfl ?_
          refine L.assign hF rfl rfl rfl ?_
          refine L.nil ?_
          refine WpC.ret ?_
          cases H
          exact Leaves.ret rfl rfl rfl ⟨rfl, rfl⟩
      · replace H := condF hc H
        refine L.off hF rfl rfl ?_
        refine L.off hF rfl rfl ?_
        refine L.off hF rfl rfl ?_
        refine L.off hF rfl rfl ?_
        refine L.off hF rfl rfl ?_
        refine L.pick hF rfl rfl rfl rfl ?_
        refine L.move hF rfl rfl rfl ?_
        refine L.off hF rfl rfl ?_
        refine L.off hF rfl rfl ?_
        refine L.off hF rfl rfl ?_
        refine L.pick hF rfl rfl rfl rfl ?_
        refine L.assign hF rfl rfl rfl ?_
        refine L.nil ?_
        refine WpC.ret ?_
        cases H
        exact Leaves.ret rfl rfl rfl ⟨rfl, rfl⟩
    · replace H := condF hc H
      refine L.off hF rfl rfl ?_
      refine L.off hF rfl rfl ?_
      refine L.off hF rfl rfl ?_
      refine L.off hF rfl rfl ?_
      refine L.off hF rfl rfl ?_
      refine L.pick hF rfl rfl rfl rfl ?_
      refine L.move hF rfl rfl rfl ?_
      refine L.off hF rfl rfl ?_
      refine L.off hF rfl rfl ?_
      refine L.off hF rfl rfl ?_
      refine L.off hF rfl rfl ?_
      refine L.off hF rfl rfl ?_
      refine L.pick hF rfl rfl rfl rfl ?_
      refine L.move hF rfl rfl rfl ?_
      refine L.off hF rfl rfl ?_
      refine L.off hF rfl rfl ?_
      refine L.off hF rfl rfl ?_
      refine L.pick hF rfl rfl rfl rfl ?_
      refine L.assign hF rfl rfl rfl ?_
      refine L.nil ?_
      refine WpC.ret ?_
      cases H
      exact Leaves.ret rfl rfl rfl ⟨rfl, rfl⟩
  · replace H := condF hc H
    refine L.off hF rfl rfl ?_
    refine L.off hF rfl rfl ?_
    refine L.off hF rfl rfl ?_
    refine L.off hF rfl rfl ?_
    refine L.off hF rfl rfl ?_
    refine L.pick hF rfl rfl rfl rfl ?_
    refine L.move hF rfl rfl rfl ?_
    refine L.off hF rfl rfl ?_
    refine L.off hF rfl rfl ?_
    refine L.off hF rfl rfl ?_
    refine L.off hF rfl rfl ?_
    refine L.off hF rfl rfl ?_
    refine L.pick hF rfl rfl rfl rfl ?_
    refine L.move hF rfl rfl rfl ?_
    refine L.off hF rfl rfl ?_
    refine L.off hF rfl rfl ?_
    refine L.off hF rfl rfl ?_
    refine L.off hF rfl rfl ?_
    refine L.off hF rfl rfl ?_
    refine L.pick hF rfl rfl rfl rfl ?_
    refine L.move hF rfl rfl rfl ?_
    refine L.off hF rfl rfl ?_
    refine L.off hF rfl rfl ?_
    refine L.off hF rfl rfl ?_
    refine L.pick hF rfl rfl rfl rfl ?_
    refine L.assign hF rfl rfl rfl ?_
    refine L.nil ?_
    refine WpC.ret ?_
    cases H
    exact Leaves.ret rfl rfl rfl ⟨rfl, rfl⟩
/-! ### Fimpl_within -/
def Fimpl_within (k : Nat) (a0 : Int) (a1 : Int) (a2 : Int) : Option Bool := cond (decide (a0 ≥ a1)) (some (decide (a0 ≤ a2))) (some false)
theorem ent93 : Enters Try.prog 93 := ⟨Try.f93, Try.func93, rfl, by decide⟩
set_option maxHeartbeats 8000000 in
set_option maxRecDepth 100000 in
theorem Fimpl_within_gives (k : Nat) (a0 : Int) (a1 : Int) (a2 : Int) (r : Bool) (H : Fimpl_within k a0 a1 a2 = some r) : Gives Try.prog 93 [V.one (cI a0), V.one (cI a1), V.one (cI a2)] [] [V.one (cL r)] [] := by
  refine Gives.intro Try.func93 rfl rfl rfl rfl ?_
  intro F hF hm
  unfold Fimpl_within at H
  obtain ⟨K, hK⟩ : ∃ K, k ≤ K := ⟨k, Nat.le_refl k⟩
  refine WpC.seq ?_
  refine WpC.regionL ?_
  refine L.assign hF rfl rfl rfl ?_
  refine L.nil ?_
  refine WpC.seq ?_
  refine WpC.regionL ?_
  refine L.move hF rfl rfl rfl ?_
  refine L.move hF rfl rfl rfl ?_
  refine L.bin hF rfl rfl rfl rfl rfl rfl ?_
  refine L.move hF rfl rfl rfl ?_
  refine L.split (fun hc => ?_) (fun hc => ?_)
  · replace H := condT hc H
    refine L.move hF rfl rfl rfl ?_
    refine L.move hF rfl rfl rfl ?_
    refine L.bin hF rfl rfl rfl rfl rfl rfl ?_
    refine L.pick hF rfl rfl rfl rfl ?_
    refine L.assign hF rfl rfl rfl ?_
    refine L.nil ?_
    refine WpC.ret ?_
    cases H
    exact Leaves.ret rfl rfl rfl ⟨rfl, rfl⟩
  · replace H := condF hc H
    refine L.off hF rfl rfl ?_
    refine L.off hF rfl rfl ?_
    refine L.off hF rfl rfl ?_
    refine L.pick hF rfl rfl rfl rfl ?_
    refine L.assign hF rfl rfl rfl ?_
    refine L.nil ?_
    refine WpC.ret ?_
    cases H
    exact Leaves.ret rfl rfl rfl ⟨rfl, rfl⟩
/-! ### Fimpl_Renewed -/
def Fimpl_Renewed.j3 (k : Nat) (v21 : Int) (v22 : Int) (v23 : Int) (v24 : Int) : Option (Timpl_Times × Bool) := some ((⟨v21, v22, v23, v24⟩ : Timpl_Times), true)
def Fimpl_Renewed.j2 (k : Nat) (v14 : Int) (v15 : Int) (v16 : Bool) (v17 : Int) (v18 : Int) (v19 : Int) (v20 : Int) : Option (Timpl_Times × Bool) := cond v16 (some ((⟨(0 : Int), (0 : Int), (0 : Int), (0 : Int)⟩ : Timpl_Times), false)) (cond (decide (v15 < (IntKind.i64.wrap (v20 - v14)))) (Fimpl_Renewed.j3 k v17 v14 (IntKind.i64.wrap (v14 + v15)) v20) (Fimpl_Renewed.j3 k v17 v14 v20 v20))
def Fimpl_Renewed (k : Nat) (a0 : Timpl_Times) (a1 : Int) (a2 : Int) : Option (Timpl_Times × Bool) := (Fimpl_TimesOk k a0).bind fun r25 => cond (!r25) (Fimpl_Renewed.j2 k a1 a2 true a0.Auth a0.Start a0.End a0.Renew) ((Fimpl_within k a1 a0.Start a0.End).bind fun r26 => cond (!r26) (Fimpl_Renewed.j2 k a1 a2 true a0.Auth a0.Start a0.End a0.Renew) (Fimpl_Renewed.j2 k a1 a2 (decide (a2 < (1 : Int))) a0.Auth a0.Start a0.End a0.Renew))
theorem ent28 : Enters Try.prog 28 := ⟨Try.f28, Try.func28, rfl, by decide⟩
set_option maxHeartbeats 8000000 in
set_option maxRecDepth 100000 in
theorem Fimpl_Renewed_gives (k : Nat) (a0 : Timpl_Times) (a1 : Int) (a2 : Int) (r : Timpl_Times × Bool) (H : Fimpl_Renewed k a0 a1 a2 = some r) : Gives Try.prog 28 [V.agg [cI a0.Auth, cI a0.Start, cI a0.End, cI a0.Renew], V.one (cI a1), V.one (cI a2)] [] [V.agg [cI r.1.Auth, cI r.1.Start, cI r.1.End, cI r.1.Renew], V.one (cL r.2)] [] := by
  refine Gives.intro Try.func28 rfl rfl rfl rfl ?_
  intro F hF hm
  unfold Fimpl_Renewed at H
  obtain ⟨K, hK⟩ : ∃ K, k ≤ K := ⟨k, Nat.le_refl k⟩
  refine WpC.seq ?_
  refine WpC.regionL ?_
  refine L.box 6 hF rfl rfl rfl rfl ?_
  refine L.alloc 7 info25 rfl hF rfl rfl rfl rfl ?_
  refine L.assign hF rfl rfl rfl ?_
  refine L.nil ?_
  refine WpC.seq ?_
  refine WpC.join (fun σ => ∃ kj2 : Nat, ∃ v14 : Int, ∃ v15 : Int, ∃ v16 : Bool, ∃ v17 : Int, ∃ v18 : Int, ∃ v19 : Int, ∃ v20 : Int, kj2 ≤ K ∧ Fimpl_Renewed.j2 kj2 v14 v15 v16 v17 v18 v19 v20 = some r ∧ σ = mkSt [(1, one (cI v14)), (2, one (cI v15)), (3, one (Cell.ptr 0 0)), (6, one (Cell.ptr 1 0)), (23, one (cL v16))] [] [(0, [cI v17, cI v18, cI v19, cI v20]), (1, [cI (0 : Int), cI (0 : Int), cI (0 : Int), cI (0 : Int)])] 2) ?_ ?_
  · rintro _ ⟨kj2, v14, v15, v16, v17, v18, v19, v20, hkj2, H, rfl⟩
    unfold Fimpl_Renewed.j2 at H
    refine WpC.cond rfl (fun hc => ?_) (fun hc => ?_)
    · replace H := condT hc H
      refine WpC.seq ?_
      refine WpC.regionL ?_
      refine L.buildF built25 hF rfl rfl rfl rfl ?_
      refine L.storePtr shape25 hF rfl rfl rfl rfl rfl rfl rfl ?_
      refine L.assign hF rfl rfl rfl ?_
      refine L.nil ?_
      refine WpC.ret ?_
      cases H
      exact Leaves.ret rfl rfl rfl ⟨rfl, rfl⟩
    · replace H := condF hc H
      refine WpC.skip ?_
      refine WpC.seq ?_
      refine WpC.regionL ?_
      refine L.move hF rfl rfl rfl ?_
      refine L.fieldAddr Try.underlying25 rfl info3 rfl hF rfl rfl rfl rfl rfl ?_
      refine L.storePtr shape3 hF rfl rfl rfl rfl rfl rfl rfl ?_
      refine L.nil ?_
      refine WpC.seq ?_
      refine WpC.regionL ?_
      refine L.fieldAddr Try.underlying25 rfl info3 rfl hF rfl rfl rfl rfl rfl ?_
      refine L.loadPtr shape3 hF rfl rfl rfl rfl rfl rfl ?_
      refine L.fieldAddr Try.underlying25 rfl info3 rfl hF rfl rfl rfl rfl rfl ?_
      refine L.storePtr shape3 hF rfl rfl rfl rfl rfl rfl rfl ?_
      refine L.nil ?_
      refine WpC.join (fun σ => ∃ kj3 : Nat, ∃ v21 : Int, ∃ v22 : Int, ∃ v23 : Int, ∃ v24 : Int, kj3 ≤ K ∧ Fimpl_Renewed.j3 kj3 v21 v22 v23 v24 = some r ∧ σ = mkSt [(3, one (Cell.ptr 0 0)), (6, one (Cell.ptr 1 0))] [] [(0, [cI v21, cI v22, cI v23, cI v24]), (1, [cI (0 : Int), cI (0 : Int), cI (0 : Int), cI (0 : Int)])] 2) ?_ ?_
      · rintro _ ⟨kj3, v21, v22, v23, v24, hkj3, H, rfl⟩
        unfold Fimpl_Renewed.j3 at H
        refine WpC.seq ?_
        refine WpC.regionL ?_
        refine L.loadPtr shape25 hF rfl rfl rfl rfl rfl rfl ?_
        refine L.storePtr shape25 hF rfl rfl rfl rfl rfl rfl rfl ?_
        refine L.assign hF rfl rfl rfl ?_
        refine L.nil ?_
        refine WpC.ret ?_
        cases H
        exact Leaves.ret rfl rfl rfl ⟨rfl, rfl⟩
      · refine WpC.seq ?_
        refine WpC.regionL ?_
        refine L.move hF rfl rfl rfl ?_
        refine L.fieldAddr Try.underlying25 rfl info3 rfl hF rfl rfl rfl rfl rfl ?_
        refine L.loadPtr shape3 hF rfl rfl rfl rfl rfl rfl ?_
        refine L.move hF rfl rfl rfl ?_
        refine L.bin hF rfl rfl rfl rfl rfl rfl ?_
        refine L.bin hF rfl rfl rfl rfl rfl rfl ?_
        refine L.nil ?_
        refine WpC.cond rfl (fun hc => ?_) (fun hc => ?_)
        · replace H := condT hc H
          refine WpC.regionL ?_
          refine L.move hF rfl rfl rfl ?_
          refine L.move hF rfl rfl rfl ?_
          refine L.bin hF rfl rfl rfl rfl rfl rfl ?_
          refine L.fieldAddr Try.underlying25 rfl info3 rfl hF rfl rfl rfl rfl rfl ?_
          refine L.storePtr shape3 hF rfl rfl rfl rfl rfl rfl rfl ?_
          refine L.nil ?_
          exact ⟨_, ⟨kj2, v17, v14, (IntKind.i64.wrap (v14 + v15)), v20, by omega, H, rfl⟩, Le.mk [(0, 0), (1, 1)] hm rfl ⟨⟨_, rfl, rfl⟩, ⟨_, rfl, rfl⟩, trivial⟩ trivial ⟨⟨_, _, rfl, rfl, rfl⟩, ⟨_, _, rfl, rfl, rfl⟩, trivial⟩⟩
        · replace H := condF hc H
          refine WpC.skip ?_
          exact ⟨_, ⟨kj2, v17, v14, v20, v20, by omega, H, rfl⟩, Le.mk [(0, 0), (1, 1)] hm rfl ⟨⟨_, rfl, rfl⟩, ⟨_, rfl, rfl⟩, trivial⟩ trivial ⟨⟨_, _, rfl, rfl, rfl⟩, ⟨_, _, rfl, rfl, rfl⟩, trivial⟩⟩
  · refine WpC.regionL ?_
    refine L.loadPtr shape25 hF rfl rfl rfl rfl rfl rfl ?_
    obtain ⟨r25, hr25, H⟩ := bindS H
    refine L.call [false] [] [] 8 hF rfl rfl rfl ent24 rfl rfl rfl rfl rfl (Fimpl_TimesOk_gives k  a0 r25 hr25) rfl ?_
    refine L.not hF rfl rfl rfl ?_
    refine L.move hF rfl rfl rfl ?_
    refine L.split (fun hc => ?_) (fun hc => ?_)
    · replace H := condT hc H
      refine L.off hF rfl rfl ?_
      refine L.off hF rfl rfl ?_
      refine L.off hF rfl rfl ?_
      refine L.off hF rfl rfl ?_
      refine L.off hF rfl rfl ?_
      refine L.off hF rfl rfl ?_
      refine L.off hF rfl rfl ?_
      refine L.pick hF rfl rfl rfl rfl ?_
      refine L.move hF rfl rfl rfl ?_
      refine L.off hF rfl rfl ?_
      refine L.off hF rfl rfl ?_
      refine L.pick hF rfl rfl rfl rfl ?_
      refine L.nil ?_
      exact ⟨_, ⟨k, a1, a2, true, a0.Auth, a0.Start, a0.End, a0.Renew, by omega, H, rfl⟩, Le.mk [(0, 6), (1, 7)] hm rfl ⟨⟨_, rfl, rfl⟩, ⟨_, rfl, rfl⟩, ⟨_, rfl, rfl⟩, ⟨_, rfl, rfl⟩, ⟨_, rfl, rfl⟩, trivial⟩ trivial ⟨⟨_, _, rfl, rfl, rfl⟩, ⟨_, _, rfl, rfl, rfl⟩, trivial⟩⟩
    · replace H := condF hc H
      refine L.move hF rfl rfl rfl ?_
      refine L.fieldAddr Try.underlying25 rfl info3 rfl hF rfl rfl rfl rfl rfl ?_
      refine L.loadPtr shape3 hF rfl rfl rfl rfl rfl rfl ?_
      refine L.fieldAddr Try.underlying25 rfl info3 rfl hF rfl rfl rfl rfl rfl ?_
      refine L.loadPtr shape3 hF rfl rfl rfl rfl rfl rfl ?_
      obtain ⟨r26, hr26, H⟩ := bindS H
      refine L.call [false, false, false] [] [] 9 hF rfl rfl rfl ent93 rfl rfl rfl rfl rfl (Fimpl_within_gives k  a1 a0.Start a0.End r26 hr26) rfl ?_
      refine L.not hF rfl rfl rfl ?_
      refine L.pick hF rfl rfl rfl rfl ?_
      refine L.move hF rfl rfl rfl ?_
      refine L.split (fun hc => ?_) (fun hc => ?_)
      · replace H := condT hc H
        refine L.off hF rfl rfl ?_
        refine L.off hF rfl rfl ?_
        refine L.pick hF rfl rfl rfl rfl ?_
        refine L.nil ?_
        exact ⟨_, ⟨k, a1, a2, true, a0.Auth, a0.Start, a0.End, a0.Renew, by omega, H, rfl⟩, Le.mk [(0, 6), (1, 7)] hm rfl ⟨⟨_, rfl, rfl⟩, ⟨_, rfl, rfl⟩, ⟨_, rfl, rfl⟩, ⟨_, rfl, rfl⟩, ⟨_, rfl, rfl⟩, trivial⟩ trivial ⟨⟨_, _, rfl, rfl, rfl⟩, ⟨_, _, rfl, rfl, rfl⟩, trivial⟩⟩
      · replace H := condF hc H
        refine L.move hF rfl rfl rfl ?_
        refine L.bin hF rfl rfl rfl rfl rfl rfl ?_
        refine L.pick hF rfl rfl rfl rfl ?_
        refine L.nil ?_
        exact ⟨_, ⟨k, a1, a2, (decide (a2 < (1 : Int))), a0.Auth, a0.Start, a0.End, a0.Renew, by omega, H, rfl⟩, Le.mk [(0, 6), (1, 7)] hm rfl ⟨⟨_, rfl, rfl⟩, ⟨_, rfl, rfl⟩, ⟨_, rfl, rfl⟩, ⟨_, rfl, rfl⟩, ⟨_, rfl, rfl⟩, trivial⟩ trivial ⟨⟨_, _, rfl, rfl, rfl⟩, ⟨_, _, rfl, rfl, rfl⟩, trivial⟩⟩
/-! ### Flaws_eqTimes -/
def Flaws_eqTimes (k : Nat) (a0 : Timpl_Times) (a1 : Timpl_Times) : Option Bool := cond (a0.Auth != a1.Auth) (some false) (cond (a0.Start != a1.Start) (some false) (cond (a0.End != a1.End) (some false) (cond (a0.Renew != a1.Renew) (some false) (some true))))
theorem ent29 : Enters Try.prog 29 := ⟨Try.f29, Try.func29, rfl, by decide⟩
set_option maxHeartbeats 8000000 in
set_option maxRecDepth 100000 in
theorem Flaws_eqTimes_gives (k : Nat) (a0 : Timpl_Times) (a1 : Timpl_Times) (r : Bool) (H : Flaws_eqTimes k a0 a1 = some r) : Gives Try.prog 29 [V.agg [cI a0.Auth, cI a0.Start, cI a0.End, cI a0.Renew], V.agg [cI a1.Auth, cI a1.Start, cI a1.End, cI a1.Renew]] [] [V.one (cL r)] [] := by
  refine Gives.intro Try.func29 rfl rfl rfl rfl ?_
  intro F hF hm
  unfold Flaws_eqTimes at H
  obtain ⟨K, hK⟩ : ∃ K, k ≤ K := ⟨k, Nat.le_refl k⟩
  refine WpC.seq ?_
  refine WpC.regionL ?_
  refine L.box 8 hF rfl rfl rfl rfl ?_
  refine L.box 9 hF rfl rfl rfl rfl ?_
  refine L.assign hF rfl rfl rfl ?_
  refine L.nil ?_
  refine WpC.seq ?_
  refine WpC.seq ?_
  refine WpC.regionL ?_
  refine L.fieldAddr Try.underlying25 rfl info3 rfl hF rfl rfl rfl rfl rfl ?_
  refine L.loadPtr shape3 hF rfl rfl rfl rfl rfl rfl ?_
  refine L.fieldAddr Try.underlying25 rfl info3 rfl hF rfl rfl rfl rfl rfl ?_
  refine L.loadPtr shape3 hF rfl rfl rfl rfl rfl rfl ?_
  refine L.bin hF rfl rfl rfl rfl rfl rfl ?_
  refine L.nil ?_
  refine WpC.cond rfl (fun hc => ?_) (fun hc => ?_)
  · replace H := condT hc H
    refine WpC.seq ?_
    refine WpC.regionL ?_
    refine L.assign hF rfl rfl rfl ?_
    refine L.nil ?_
    refine WpC.ret ?_
    cases H
    exact Leaves.ret rfl rfl rfl ⟨rfl, rfl⟩
  · replace H := condF hc H
    refine WpC.skip ?_
    refine WpC.seq ?_
    refine WpC.seq ?_
    refine WpC.regionL ?_
    refine L.fieldAddr Try.underlying25 rfl info3 rfl hF rfl rfl rfl rfl rfl ?_
    refine L.loadPtr shape3 hF rfl rfl rfl rfl rfl rfl ?_
    refine L.fieldAddr Try.underlying25 rfl info3 rfl hF rfl rfl rfl rfl rfl ?_
    refine L.loadPtr shape3 hF rfl rfl rfl rfl rfl rfl ?_
    refine L.bin hF rfl rfl rfl rfl rfl rfl ?_
    refine L.nil ?_
    refine WpC.cond rfl (fun hc => ?_) (fun hc => ?_)
    · replace H := condT hc H
      refine WpC.seq ?_
      refine WpC.regionL ?_
      refine L.assign hF rfl rfl rfl ?_
      refine L.nil ?_
      refine WpC.ret ?_
      cases H
      exact Leaves.ret rfl rfl rfl ⟨rfl, rfl⟩
    · replace H := condF hc H
      refine WpC.skip ?_
      refine WpC.seq ?_
      refine WpC.seq ?_
      refine WpC.regionL ?_
      refine L.fieldAddr Try.underlying25 rfl info3 rfl hF rfl rfl rfl rfl rfl ?_
      refine L.loadPtr shape3 hF rfl rfl rfl rfl rfl rfl ?_
      refine L.fieldAddr Try.underlying25 rfl info3 rfl hF rfl rfl rfl rfl rfl ?_
      refine L.loadPtr shape3 hF rfl rfl rfl rfl rfl rfl ?_
      refine L.bin hF rfl rfl rfl rfl rfl rfl ?_
      refine L.nil ?_
      refine WpC.cond rfl (fun hc => ?_) (fun hc => ?_)
      · replace H := condT hc H
        refine WpC.seq ?_
        refine WpC.regionL ?_
        refine L.assign hF rfl rfl rfl ?_
        refine L.nil ?_
        refine WpC.ret ?_
        cases H
        exact Leaves.ret rfl rfl rfl ⟨rfl, rfl⟩
      · replace H := condF hc H
        refine WpC.skip ?_
        refine WpC.seq ?_
        refine WpC.seq ?_
        refine WpC.regionL ?_
        refine L.fieldAddr Try.underlying25 rfl info3 rfl hF rfl rfl rfl rfl rfl ?_
        refine L.loadPtr shape3 hF rfl rfl rfl rfl rfl rfl ?_
        refine L.fieldAddr Try.underlying25 rfl info3 rfl hF rfl rfl rfl rfl rfl ?_
        refine L.loadPtr shape3 hF rfl rfl rfl rfl rfl rfl ?_
        refine L.bin hF rfl rfl rfl rfl rfl rfl ?_
        refine L.nil ?_
        refine WpC.cond rfl (fun hc => ?_) (fun hc => ?_)
        · replace H := condT hc H
          refine WpC.seq ?_
          refine WpC.regionL ?_
          refine L.assign hF rfl rfl rfl ?_
          refine L.nil ?_
          refine WpC.ret ?_
          cases H
          exact Leaves.ret rfl rfl rfl ⟨rfl, rfl⟩
        · replace H := condF hc H
          refine WpC.skip ?_
          refine WpC.seq ?_
          refine WpC.regionL ?_
          refine L.assign hF rfl rfl rfl ?_
          refine L.nil ?_
          refine WpC.ret ?_
          cases H
          exact Leaves.ret rfl rfl rfl ⟨rfl, rfl⟩
/-! ### Flaws_FnExactRenewed -/
def Flaws_FnExactRenewed (k : Nat) (a0 : Tlaws_Times) (a1 : Int) (a2 : Int) : Option Bool := (Flaws_toTimes k a0).bind fun r1 => (Fspec_Renewed k r1 a1 a2).bind fun r2 => (Flaws_toTimes k a0).bind fun r3 => (Fimpl_Renewed k r3 a1 a2).bind fun r4 => (Flaws_eqTimes k r4.1 r2.1).bind fun r8 => cond (!r8) (some false) (cond (r4.2 != r2.2) (some false) (some true))
theorem ent5 : Enters Try.prog 5 := ⟨Try.f5, Try.func5, rfl, by decide⟩
set_option maxHeartbeats 8000000 in
set_option maxRecDepth 100000 in
theorem Flaws_FnExactRenewed_gives (k : Nat) (a0 : Tlaws_Times) (a1 : Int) (a2 : Int) (r : Bool) (H : Flaws_FnExactRenewed k a0 a1 a2 = some r) : Gives Try.prog 5 [V.agg [cI a0.Auth, cI a0.Start, cI a0.End, cI a0.Renew], V.one (cI a1), V.one (cI a2)] [] [V.one (cL r)] [] := by
  refine Gives.intro Try.func5 rfl rfl rfl rfl ?_
  intro F hF hm
  unfold Flaws_FnExactRenewed at H
  obtain ⟨K, hK⟩ : ∃ K, k ≤ K := ⟨k, Nat.le_refl k⟩
  refine WpC.seq ?_
  refine WpC.regionL ?_
  refine L.box 6 hF rfl rfl rfl rfl ?_
  refine L.assign hF rfl rfl rfl ?_
  refine L.nil ?_
  refine WpC.seq ?_
  refine WpC.regionL ?_
  refine L.loadPtr shape23 hF rfl rfl rfl rfl rfl rfl ?_
  obtain ⟨r1, hr1, H⟩ := bindS H
  refine L.call [false] [] [] 7 hF rfl rfl rfl ent23 rfl rfl rfl rfl rfl (Flaws_toTimes_gives k  a0 r1 hr1) rfl ?_
  refine L.move hF rfl rfl rfl ?_
  refine L.move hF rfl rfl rfl ?_
  obtain ⟨r2, hr2, H⟩ := bindS H
  refine L.call [false, false, false] [] [] 11 hF rfl rfl rfl ent27 rfl rfl rfl rfl rfl (Fspec_Renewed_gives k  r1 a1 a2 r2 hr2) rfl ?_
  refine L.move hF rfl rfl rfl ?_
  refine L.extract hF rfl rfl rfl rfl ?_
  refine L.extract hF rfl rfl rfl rfl ?_
  refine L.alloc 16 info25 rfl hF rfl rfl rfl rfl ?_
  refine L.storePtr shape25 hF rfl rfl rfl rfl rfl rfl rfl ?_
  refine L.assign hF rfl rfl rfl ?_
  refine L.nil ?_
  refine WpC.seq ?_
  refine WpC.regionL ?_
  refine L.loadPtr shape23 hF rfl rfl rfl rfl rfl rfl ?_
  obtain ⟨r3, hr3, H⟩ := bindS H
  refine L.call [false] [] [] 17 hF rfl rfl rfl ent23 rfl rfl rfl rfl rfl (Flaws_toTimes_gives k  a0 r3 hr3) rfl ?_
  refine L.move hF rfl rfl rfl ?_
  refine L.move hF rfl rfl rfl ?_
  obtain ⟨r4, hr4, H⟩ := bindS H
  refine L.call [false, false, false] [] [] 21 hF rfl rfl rfl ent28 rfl rfl rfl rfl rfl (Fimpl_Renewed_gives k  r3 a1 a2 r4 hr4) rfl ?_
  refine L.move hF rfl rfl rfl ?_
  refine L.extract hF rfl rfl rfl rfl ?_
  refine L.extract hF rfl rfl rfl rfl ?_
  refine L.alloc 26 info25 rfl hF rfl rfl rfl rfl ?_
  refine L.storePtr shape25 hF rfl rfl rfl rfl rfl rfl rfl ?_
  refine L.assign hF rfl rfl rfl ?_
  refine L.nil ?_
  refine WpC.seq ?_
  refine WpC.seq ?_
  refine WpC.regionL ?_
  refine L.loadPtr shape25 hF rfl rfl rfl rfl rfl rfl ?_
  refine L.loadPtr shape25 hF rfl rfl rfl rfl rfl rfl ?_
  obtain ⟨r8, hr8, H⟩ := bindS H
  refine L.call [false, false] [] [] 27 hF rfl rfl rfl ent29 rfl rfl rfl rfl rfl (Flaws_eqTimes_gives k  r4.1 r2.1 r8 hr8) rfl ?_
  refine L.not hF rfl rfl rfl ?_
  refine L.move hF rfl rfl rfl ?_
  refine L.split (fun hc => ?_) (fun hc => ?_)
  · replace H := condT hc H
    refine L.off hF rfl rfl ?_
    refine L.off hF rfl rfl ?_
    refine L.off hF rfl rfl ?_
    refine L.pick hF rfl rfl rfl rfl ?_
    refine L.nil ?_
    refine WpC.cond rfl (fun _ => ?_) (fun hc => by cases hc)
    refine WpC.seq ?_
    refine WpC.regionL ?_
    refine L.assign hF rfl rfl rfl ?_
    refine L.nil ?_
    refine WpC.ret ?_
    cases H
    exact Leaves.ret rfl rfl rfl ⟨rfl, rfl⟩
  · replace H := condF hc H
    refine L.move hF rfl rfl rfl ?_
    refine L.move hF rfl rfl rfl ?_
    refine L.neL Try.underlying4 hF rfl rfl rfl rfl ?_
    refine L.pick hF rfl rfl rfl rfl ?_
    refine L.nil ?_
    refine WpC.cond rfl (fun hc => ?_) (fun hc => ?_)
    · replace H := condT hc H
      refine WpC.seq ?_
      refine WpC.regionL ?_
      refine L.assign hF rfl rfl rfl ?_
      refine L.nil ?_
      refine WpC.ret ?_
      cases H
      exact Leaves.ret rfl rfl rfl ⟨rfl, rfl⟩
    · replace H := condF hc H
      refine WpC.skip ?_
      refine WpC.seq ?_
      refine WpC.regionL ?_
      refine L.assign hF rfl rfl rfl ?_
      refine L.nil ?_
      refine WpC.ret ?_
      cases H
      exact Leaves.ret rfl rfl rfl ⟨rfl, rfl⟩
def wfTlaws_Times (x : Tlaws_Times) : Prop := Go.MG.wfI x.Auth ∧ Go.MG.wfI x.Start ∧ Go.MG.wfI x.End ∧ Go.MG.wfI x.Renew
theorem open23 : Go.MG.Opens Try.prog 23 eTlaws_Times wfTlaws_Times := by
  intro H enc W fuel cs x h
  obtain ⟨n, hp⟩ := Go.MG.struct_parts Try.underlying23 (by kernel_rfl : Try.prog.cellsOf 23 = 4) (by kernel_rfl) h
  obtain ⟨c0, k0, y0, rfl, h0, hp⟩ := hp
  obtain ⟨c1, k1, y1, rfl, h1, hp⟩ := hp
  obtain ⟨c2, k2, y2, rfl, h2, hp⟩ := hp
  obtain ⟨c3, k3, y3, rfl, h3, hp⟩ := hp
  obtain rfl := hp
  obtain ⟨a0, r0, w0⟩ := (Go.MG.Opens.int Try.underlying3) _ _ _ _ _ _ h0
  obtain ⟨a1, r1, w1⟩ := (Go.MG.Opens.int Try.underlying3) _ _ _ _ _ _ h1
  obtain ⟨a2, r2, w2⟩ := (Go.MG.Opens.int Try.underlying3) _ _ _ _ _ _ h2
  obtain ⟨a3, r3, w3⟩ := (Go.MG.Opens.int Try.underlying3) _ _ _ _ _ _ h3
  exact ⟨⟨a0, a1, a2, a3⟩, (r0.append (r1.append (r2.append (r3.append (rfl : Go.MG.RCs _ [] []))))), w0, w1, w2, w3⟩
end Go.Proofs.Ytflcaebmammlfaa.M
