import Derived.Test.YtpboghglkihlmaaMgX
import Derived.Test.YtpboghglkihlmaaProg
namespace Go.Proofs.Ytpboghglkihlmaa.M
open Go Go.MG
set_option linter.unusedVariables false
set_option linter.unusedSimpArgs false
structure Tstruct___x_int64__y_int__signed_bool__code_abi_BoundsErrorCode__ where
  x : Int
  y : Int
  signed : Bool
  code : UInt8
def eTstruct___x_int64__y_int__signed_bool__code_abi_BoundsErrorCode__ (x : Tstruct___x_int64__y_int__signed_bool__code_abi_BoundsErrorCode__) : List Cell := [cI x.x, cI x.y, cL x.signed, cU x.code]
structure Truntime_boundsError where
  x : Int
  y : Int
  signed : Bool
  code : UInt8
def eTruntime_boundsError (x : Truntime_boundsError) : List Cell := [cI x.x, cI x.y, cL x.signed, cU x.code]
structure Tstruct___Auth_int__Start_int__End_int__Renew_int__ where
  Auth : Int
  Start : Int
  End : Int
  Renew : Int
def eTstruct___Auth_int__Start_int__End_int__Renew_int__ (x : Tstruct___Auth_int__Start_int__End_int__Renew_int__) : List Cell := [cI x.Auth, cI x.Start, cI x.End, cI x.Renew]
structure Tlaws_Times where
  Auth : Int
  Start : Int
  End : Int
  Renew : Int
def eTlaws_Times (x : Tlaws_Times) : List Cell := [cI x.Auth, cI x.Start, cI x.End, cI x.Renew]
structure Timpl_Times where
  Auth : Int
  Start : Int
  End : Int
  Renew : Int
def eTimpl_Times (x : Timpl_Times) : List Cell := [cI x.Auth, cI x.Start, cI x.End, cI x.Renew]
structure Tstruct___b___uint8__i_int__h_int__ where
  b : List UInt8
  i : Int
  h : Int
def eTstruct___b___uint8__i_int__h_int__ (x : Tstruct___b___uint8__i_int__h_int__) : List Cell := [Cell.sl true (List.map eB x.b), cI x.i, cI x.h]
structure Tspec_l1Cur where
  b : List UInt8
  i : Int
  h : Int
def eTspec_l1Cur (x : Tspec_l1Cur) : List Cell := [Cell.sl true (List.map eB x.b), cI x.i, cI x.h]
/-! ### loop.example/g00769/spec.l1In: function 42 -/
def Fspec_l1In (k : Nat) (a0 : Int) (a1 : Int) (a2 : Int) : Option Bool := cond (decide (a0 ≥ a1)) (some (decide (a0 ≤ a2))) (some false)
theorem ent42 : Enters Try.prog 42 := ⟨Try.f42, Try.func42, rfl, by decide⟩
set_option maxHeartbeats 8000000 in
theorem Fspec_l1In_gives (k : Nat) (a0 : Int) (a1 : Int) (a2 : Int) (r : Bool) (H : Fspec_l1In k a0 a1 a2 = some r) : Gives Try.prog 42 [V.one (cI a0), V.one (cI a1), V.one (cI a2)] [] [V.one (cL r)] [] := by
  refine Gives.intro Try.func42 rfl rfl rfl rfl ?_
  intro F hF hm
  unfold Fspec_l1In at H
  obtain ⟨K, hK⟩ : ∃ K, k ≤ K := ⟨k, Nat.le_refl k⟩
  refine WpC.seq ?_
  refine WpC.regionL ?_
  refine L.assign hF rfl rfl rfl ?_
  refine L.nil ?_
  refine WpC.seq ?_
  refine WpC.regionL ?_
  refine L.move hF rfl rfl rfl ?_
  refine L.move hF rfl rfl rfl ?_
  refine L.bin hF rfl rfl rfl rfl rfl rfl ?_
  refine L.move hF rfl rfl rfl ?_
  refine L.split (fun hc => ?_) (fun hc => ?_)
  · replace H := condT hc H
    refine L.move hF rfl rfl rfl ?_
    refine L.move hF rfl rfl rfl ?_
    refine L.bin hF rfl rfl rfl rfl rfl rfl ?_
    refine L.pick hF rfl rfl rfl rfl ?_
    refine L.assign hF rfl rfl rfl ?_
    refine L.nil ?_
    refine WpC.ret ?_
    cases H
    exact Leaves.ret rfl rfl rfl ⟨rfl, rfl⟩
  · replace H := condF hc H
    refine L.off hF rfl rfl ?_
    refine L.off hF rfl rfl ?_
    refine L.off hF rfl rfl ?_
    refine L.pick hF rfl rfl rfl rfl ?_
    refine L.assign hF rfl rfl rfl ?_
    refine L.nil ?_
    refine WpC.ret ?_
    cases H
    exact Leaves.ret rfl rfl rfl ⟨rfl, rfl⟩
/-! ### loop.example/g00769/spec.FlagsOk: function 15 -/
def Fspec_FlagsOk (k : Nat) (a0 : Int) : Option Bool := (Fspec_l1In k a0 (0 : Int) (255 : Int)).bind fun r1 => some r1
theorem ent15 : Enters Try.prog 15 := ⟨Try.f15, Try.func15, rfl, by decide⟩
set_option maxHeartbeats 8000000 in
theorem Fspec_FlagsOk_gives (k : Nat) (a0 : Int) (r : Bool) (H : Fspec_FlagsOk k a0 = some r) : Gives Try.prog 15 [V.one (cI a0)] [] [V.one (cL r)] [] := by
  refine Gives.intro Try.func15 rfl rfl rfl rfl ?_
  intro F hF hm
  unfold Fspec_FlagsOk at H
  obtain ⟨K, hK⟩ : ∃ K, k ≤ K := ⟨k, Nat.le_refl k⟩
  refine WpC.seq ?_
  refine WpC.regionL ?_
  refine L.assign hF rfl rfl rfl ?_
  refine L.nil ?_
  refine WpC.seq ?_
  refine WpC.regionL ?_
  refine L.move hF rfl rfl rfl ?_
  obtain ⟨r1, hr1, H⟩ := bindS H
  refine L.call [false, false, false] [] [] 0 hF rfl rfl rfl ent42 rfl rfl rfl rfl rfl (Fspec_l1In_gives k  a0 (0 : Int) (255 : Int) r1 hr1) rfl ?_
  refine L.assign hF rfl rfl rfl ?_
  refine L.nil ?_
  refine WpC.ret ?_
  cases H
  exact Leaves.ret rfl rfl rfl ⟨rfl, rfl⟩
/-! ### loop.example/g00769/spec.l15Has: function 44 -/
def Fspec_l15Has (k : Nat) (a0 : Int) (a1 : Int) : Option Bool := cond (!(a1 == 0)) (some ((Int.tmod (IntKind.i64.wrap (Int.tdiv a0 a1)) (2 : Int)) == (1 : Int))) none
theorem ent44 : Enters Try.prog 44 := ⟨Try.f44, Try.func44, rfl, by decide⟩
set_option maxHeartbeats 8000000 in
theorem Fspec_l15Has_gives (k : Nat) (a0 : Int) (a1 : Int) (r : Bool) (H : Fspec_l15Has k a0 a1 = some r) : Gives Try.prog 44 [V.one (cI a0), V.one (cI a1)] [] [V.one (cL r)] [] := by
  refine Gives.intro Try.func44 rfl rfl rfl rfl ?_
  intro F hF hm
  unfold Fspec_l15Has at H
  obtain ⟨K, hK⟩ : ∃ K, k ≤ K := ⟨k, Nat.le_refl k⟩
  refine WpC.seq ?_
  refine WpC.regionL ?_
  refine L.assign hF rfl rfl rfl ?_
  refine L.nil ?_
  refine WpC.seq ?_
  refine WpC.regionL ?_
  refine L.move hF rfl rfl rfl ?_
  refine L.move hF rfl rfl rfl ?_
  obtain ⟨h1, H⟩ := condG H
  refine L.quo hF rfl rfl rfl rfl (by simpa using h1) ?_
  refine L.rem hF rfl rfl rfl rfl (by decide) ?_
  refine L.bin hF rfl rfl rfl rfl rfl rfl ?_
  refine L.assign hF rfl rfl rfl ?_
  refine L.nil ?_
  refine WpC.ret ?_
  cases H
  exact Leaves.ret rfl rfl rfl ⟨rfl, rfl⟩
/-! ### loop.example/g00769/spec.ShowFlags: function 24 -/
def Fspec_ShowFlags.j14 (cl12 : Int → (List UInt8) → Int → Int → Option (List UInt8)) (k : Nat) (v126 : Int) (v127 : List UInt8) (v128 : Int) (v129 : Int) : Option (List UInt8) := cl12 v126 v127 (IntKind.i64.wrap (v128 * (2 : Int))) (IntKind.i64.wrap (v129 + (1 : Int)))
def Fspec_ShowFlags.l12 : Nat → Int → (List UInt8) → Int → Int → Option (List UInt8)
  | 0, _, _, _, _ => none
  | k12 + 1, v109, v110, v111, v112 => cond (decide (v112 < (([102, 112, 114, 100, 105, 73, 70, 80] : List UInt8).length : Int))) ((Fspec_l15Has k12 v109 v111).bind fun r130 => cond r130 ((cut? ([102, 112, 114, 100, 105, 73, 70, 80] : List UInt8) v112 (IntKind.i64.wrap (v112 + (1 : Int)))).bind fun b131 => cond (decide (v110.length + b131.length ≤ 9223372036854775807)) (Fspec_ShowFlags.j14 (Fspec_ShowFlags.l12 k12) k12 v109 (v110 ++ b131) v111 v112) none) (Fspec_ShowFlags.j14 (Fspec_ShowFlags.l12 k12) k12 v109 v110 v111 v112)) (cond (v110 == ([] : List UInt8)) (some ([45] : List UInt8)) (some v110))
def Fspec_ShowFlags (k : Nat) (a0 : Int) : Option (List UInt8) := (Fspec_FlagsOk k a0).bind fun r2 => cond (!r2) (some ([] : List UInt8)) (Fspec_ShowFlags.l12 k a0 ([] : List UInt8) (1 : Int) (0 : Int))
theorem ent24 : Enters Try.prog 24 := ⟨Try.f24, Try.func24, rfl, by decide⟩
set_option maxHeartbeats 8000000 in
theorem Fspec_ShowFlags_gives (k : Nat) (a0 : Int) (r : List UInt8) (H : Fspec_ShowFlags k a0 = some r) : Gives Try.prog 24 [V.one (cI a0)] [] [V.one (cS r)] [] := by
  refine Gives.intro Try.func24 rfl rfl rfl rfl ?_
  intro F hF hm
  unfold Fspec_ShowFlags at H
  obtain ⟨K, hK⟩ : ∃ K, k ≤ K := ⟨k, Nat.le_refl k⟩
  refine WpC.seq ?_
  refine WpC.regionL ?_
  refine L.assign hF rfl rfl rfl ?_
  refine L.nil ?_
  refine WpC.seq ?_
  refine WpC.seq ?_
  refine WpC.regionL ?_
  refine L.move hF rfl rfl rfl ?_
  obtain ⟨r2, hr2, H⟩ := bindS H
  refine L.call [false] [] [] 0 hF rfl rfl rfl ent15 rfl rfl rfl rfl rfl (Fspec_FlagsOk_gives k  a0 r2 hr2) rfl ?_
  refine L.not hF rfl rfl rfl ?_
  refine L.nil ?_
  refine WpC.cond rfl (fun hc => ?_) (fun hc => ?_)
  · replace H := condT hc H
    refine WpC.seq ?_
    refine WpC.regionL ?_
    refine L.assign hF rfl rfl rfl ?_
    refine L.nil ?_
    refine WpC.ret ?_
    cases H
    exact Leaves.ret rfl rfl rfl ⟨rfl, rfl⟩
  · replace H := condF hc H
    refine WpC.skip ?_
    refine WpC.seq ?_
    refine WpC.regionL ?_
    refine L.assign hF rfl rfl rfl ?_
    refine L.nil ?_
    refine WpC.seq ?_
    refine WpC.regionL ?_
    refine L.assign hF rfl rfl rfl ?_
    refine L.nil ?_
    refine WpC.seq ?_
    refine WpC.regionL ?_
    refine L.assign hF rfl rfl rfl ?_
    refine L.nil ?_
    refine WpC.seq ?_
    refine WpC.seq ?_
    refine WpC.regionL ?_
    refine L.assign hF rfl rfl rfl ?_
    refine L.nil ?_
    refine WpC.block ?_
    refine WpC.loopL (P := Try.prog) (fun n σ => ∃ v109 : Int, ∃ v110 : List UInt8, ∃ v111 : Int, ∃ v112 : Int, n ≤ K ∧ Fspec_ShowFlags.l12 n v109 v110 v111 v112 = some r ∧ σ = mkSt [(0, one (cI v109)), (3, one (cS ([102, 112, 114, 100, 105, 73, 70, 80] : List UInt8))), (4, one (cS v110)), (5, one (cI v111)), (6, one (cI v112))] [] [] 0) k ⟨_, ⟨a0, ([] : List UInt8), (1 : Int), (0 : Int), by omega, H, rfl⟩, Le.mk [] hm rfl ⟨⟨_, rfl, rfl⟩, ⟨_, rfl, rfl⟩, ⟨_, rfl, rfl⟩, ⟨_, rfl, rfl⟩, ⟨_, rfl, rfl⟩, trivial⟩ trivial trivial⟩ ?_
    clear H
    rintro k12 _ ⟨v109, v110, v111, v112, hk12, H, rfl⟩
    cases k12 with
    | zero => cases H
    | succ k12 =>
      rw [Fspec_ShowFlags.l12] at H
      refine WpC.seq ?_
      refine WpC.seq ?_
      refine WpC.regionL ?_
      refine L.move hF rfl rfl rfl ?_
      refine L.move hF rfl rfl rfl ?_
      refine L.lenS Try.underlying9 hF rfl rfl rfl ?_
      refine L.bin hF rfl rfl rfl rfl rfl rfl ?_
      refine L.nil ?_
      refine WpC.cond rfl (fun hc => ?_) (fun hc => ?_)
      · replace H := condT hc H
        refine WpC.skip ?_
        refine WpC.seq ?_
        refine WpC.block ?_
        refine WpC.join (fun σ => ∃ v126 : Int, ∃ v127 : List UInt8, ∃ v128 : Int, ∃ v129 : Int, Fspec_ShowFlags.j14 (Fspec_ShowFlags.l12 k12) k12 v126 v127 v128 v129 = some r ∧ σ = mkSt [(0, one (cI v126)), (3, one (cS ([102, 112, 114, 100, 105, 73, 70, 80] : List UInt8))), (4, one (cS v127)), (5, one (cI v128)), (6, one (cI v129))] [] [] 0) ?_ ?_
        · rintro _ ⟨v126, v127, v128, v129, H, rfl⟩
          unfold Fspec_ShowFlags.j14 at H
          refine WpC.regionL ?_
          refine L.move hF rfl rfl rfl ?_
          refine L.bin hF rfl rfl rfl rfl rfl rfl ?_
          refine L.assign hF rfl rfl rfl ?_
          refine L.nil ?_
          refine WpC.regionL ?_
          refine L.move hF rfl rfl rfl ?_
          refine L.bin hF rfl rfl rfl rfl rfl rfl ?_
          refine L.assign hF rfl rfl rfl ?_
          refine L.nil ?_
          exact ⟨k12, _, by omega, ⟨v126, v127, (IntKind.i64.wrap (v128 * (2 : Int))), (IntKind.i64.wrap (v129 + (1 : Int))), by omega, H, rfl⟩, Le.mk [] hm rfl ⟨⟨_, rfl, rfl⟩, ⟨_, rfl, rfl⟩, ⟨_, rfl, rfl⟩, ⟨_, rfl, rfl⟩, ⟨_, rfl, rfl⟩, trivial⟩ trivial trivial⟩
        · refine WpC.seq ?_
          refine WpC.regionL ?_
          refine L.move hF rfl rfl rfl ?_
          refine L.move hF rfl rfl rfl ?_
          obtain ⟨r130, hr130, H⟩ := bindS H
          refine L.call [false, false] [] [] 0 hF rfl rfl rfl ent44 rfl rfl rfl rfl rfl (Fspec_l15Has_gives k12  v109 v111 r130 hr130) rfl ?_
          refine L.nil ?_
          refine WpC.cond rfl (fun hc => ?_) (fun hc => ?_)
          · replace H := condT hc H
            refine WpC.regionL ?_
            refine L.move hF rfl rfl rfl ?_
            refine L.move hF rfl rfl rfl ?_
            refine L.move hF rfl rfl rfl ?_
            refine L.move hF rfl rfl rfl ?_
            refine L.bin hF rfl rfl rfl rfl rfl rfl ?_
            obtain ⟨b131, hb131, H⟩ := bindS H
            refine L.cutS Try.underlying9 hF rfl rfl rfl rfl rfl hb131 ?_
            obtain ⟨h132, H⟩ := condG H
            refine L.catS hF rfl rfl rfl rfl (of_decide_eq_true h132) ?_
            refine L.assign hF rfl rfl rfl ?_
            refine L.nil ?_
            exact ⟨_, ⟨v109, (v110 ++ b131), v111, v112, H, rfl⟩, Le.mk [] hm rfl ⟨⟨_, rfl, rfl⟩, ⟨_, rfl, rfl⟩, ⟨_, rfl, rfl⟩, ⟨_, rfl, rfl⟩, ⟨_, rfl, rfl⟩, trivial⟩ trivial trivial⟩
          · replace H := condF hc H
            refine WpC.skip ?_
            exact ⟨_, ⟨v109, v110, v111, v112, H, rfl⟩, Le.mk [] hm rfl ⟨⟨_, rfl, rfl⟩, ⟨_, rfl, rfl⟩, ⟨_, rfl, rfl⟩, ⟨_, rfl, rfl⟩, ⟨_, rfl, rfl⟩, trivial⟩ trivial trivial⟩
      · replace H := condF hc H
        refine WpC.exit ?_
        refine WpC.seq ?_
        refine WpC.seq ?_
        refine WpC.regionL ?_
        refine L.move hF rfl rfl rfl ?_
        refine L.binS hF rfl rfl rfl rfl rfl ?_
        refine L.nil ?_
        refine WpC.cond rfl (fun hc => ?_) (fun hc => ?_)
        · replace H := condT hc H
          refine WpC.seq ?_
          refine WpC.regionL ?_
          refine L.assign hF rfl rfl rfl ?_
          refine L.nil ?_
          refine WpC.ret ?_
          cases H
          exact Leaves.ret rfl rfl rfl ⟨rfl, rfl⟩
        · replace H := condF hc H
          refine WpC.skip ?_
          refine WpC.seq ?_
          refine WpC.regionL ?_
          refine L.move hF rfl rfl rfl ?_
          refine L.assign hF rfl rfl rfl ?_
          refine L.nil ?_
          refine WpC.ret ?_
          cases H
          exact Leaves.ret rfl rfl rfl ⟨rfl, rfl⟩
/-! ### loop.example/g00769/spec.ReadFlags: function 29 -/
def Fspec_ReadFlags.l2 : Nat → (List UInt8) → Int → Option (Int × Bool)
  | 0, _, _ => none
  | k2 + 1, v19, v20 => cond (decide (v20 ≤ (255 : Int))) ((Fspec_ShowFlags k2 v20).bind fun r22 => cond (r22 == v19) (some (v20, true)) ((Fspec_ReadFlags.l2 k2) v19 (IntKind.i64.wrap (v20 + (1 : Int))))) (some ((0 : Int), false))
def Fspec_ReadFlags (k : Nat) (a0 : List UInt8) : Option (Int × Bool) := Fspec_ReadFlags.l2 k a0 (0 : Int)
theorem ent29 : Enters Try.prog 29 := ⟨Try.f29, Try.func29, rfl, by decide⟩
set_option maxHeartbeats 8000000 in
theorem Fspec_ReadFlags_gives (k : Nat) (a0 : List UInt8) (r : Int × Bool) (H : Fspec_ReadFlags k a0 = some r) : Gives Try.prog 29 [V.one (cS a0)] [] [V.one (cI r.1), V.one (cL r.2)] [] := by
  refine Gives.intro Try.func29 rfl rfl rfl rfl ?_
  intro F hF hm
  unfold Fspec_ReadFlags at H
  obtain ⟨K, hK⟩ : ∃ K, k ≤ K := ⟨k, Nat.le_refl k⟩
  refine WpC.seq ?_
  refine WpC.regionL ?_
  refine L.assign hF rfl rfl rfl ?_
  refine L.assign hF rfl rfl rfl ?_
  refine L.nil ?_
  refine WpC.seq ?_
  refine WpC.seq ?_
  refine WpC.regionL ?_
  refine L.assign hF rfl rfl rfl ?_
  refine L.nil ?_
  refine WpC.block ?_
  refine WpC.loopL (P := Try.prog) (fun n σ => ∃ v19 : List UInt8, ∃ v20 : Int, n ≤ K ∧ Fspec_ReadFlags.l2 n v19 v20 = some r ∧ σ = mkSt [(0, one (cS v19)), (4, one (cI v20))] [] [] 0) k ⟨_, ⟨a0, (0 : Int), by omega, H, rfl⟩, Le.mk [] hm rfl ⟨⟨_, rfl, rfl⟩, ⟨_, rfl, rfl⟩, trivial⟩ trivial trivial⟩ ?_
  clear H
  rintro k2 _ ⟨v19, v20, hk2, H, rfl⟩
  cases k2 with
  | zero => cases H
  | succ k2 =>
    rw [Fspec_ReadFlags.l2] at H
    refine WpC.seq ?_
    refine WpC.seq ?_
    refine WpC.regionL ?_
    refine L.move hF rfl rfl rfl ?_
    refine L.bin hF rfl rfl rfl rfl rfl rfl ?_
    refine L.nil ?_
    refine WpC.cond rfl (fun hc => ?_) (fun hc => ?_)
    · replace H := condT hc H
      refine WpC.skip ?_
      refine WpC.seq ?_
      refine WpC.block ?_
      refine WpC.seq ?_
      refine WpC.regionL ?_
      refine L.move hF rfl rfl rfl ?_
      obtain ⟨r22, hr22, H⟩ := bindS H
      refine L.call [false] [] [] 0 hF rfl rfl rfl ent24 rfl rfl rfl rfl rfl (Fspec_ShowFlags_gives k2  v20 r22 hr22) rfl ?_
      refine L.move hF rfl rfl rfl ?_
      refine L.binS hF rfl rfl rfl rfl rfl ?_
      refine L.nil ?_
      refine WpC.cond rfl (fun hc => ?_) (fun hc => ?_)
      · replace H := condT hc H
        refine WpC.seq ?_
        refine WpC.regionL ?_
        refine L.move hF rfl rfl rfl ?_
        refine L.assign hF rfl rfl rfl ?_
        refine L.assign hF rfl rfl rfl ?_
        refine L.nil ?_
        refine WpC.ret ?_
        cases H
        exact Leaves.ret rfl rfl rfl ⟨rfl, rfl⟩
      · replace H := condF hc H
        refine WpC.skip ?_
        refine WpC.regionL ?_
        refine L.move hF rfl rfl rfl ?_
        refine L.bin hF rfl rfl rfl rfl rfl rfl ?_
        refine L.assign hF rfl rfl rfl ?_
        refine L.nil ?_
        exact ⟨k2, _, by omega, ⟨v19, (IntKind.i64.wrap (v20 + (1 : Int))), by omega, H, rfl⟩, Le.mk [] hm rfl ⟨⟨_, rfl, rfl⟩, ⟨_, rfl, rfl⟩, trivial⟩ trivial trivial⟩
    · replace H := condF hc H
      refine WpC.exit ?_
      refine WpC.seq ?_
      refine WpC.regionL ?_
      refine L.assign hF rfl rfl rfl ?_
      refine L.assign hF rfl rfl rfl ?_
      refine L.nil ?_
      refine WpC.ret ?_
      cases H
      exact Leaves.ret rfl rfl rfl ⟨rfl, rfl⟩
/-! ### loop.example/g00769/impl.within: function 43 -/
def Fimpl_within (k : Nat) (a0 : Int) (a1 : Int) (a2 : Int) : Option Bool := cond (decide (a0 ≥ a1)) (some (decide (a0 ≤ a2))) (some false)
theorem ent43 : Enters Try.prog 43 := ⟨Try.f43, Try.func43, rfl, by decide⟩
set_option maxHeartbeats 8000000 in
theorem Fimpl_within_gives (k : Nat) (a0 : Int) (a1 : Int) (a2 : Int) (r : Bool) (H : Fimpl_within k a0 a1 a2 = some r) : Gives Try.prog 43 [V.one (cI a0), V.one (cI a1), V.one (cI a2)] [] [V.one (cL r)] [] := by
  refine Gives.intro Try.func43 rfl rfl rfl rfl ?_
  intro F hF hm
  unfold Fimpl_within at H
  obtain ⟨K, hK⟩ : ∃ K, k ≤ K := ⟨k, Nat.le_refl k⟩
  refine WpC.seq ?_
  refine WpC.regionL ?_
  refine L.assign hF rfl rfl rfl ?_
  refine L.nil ?_
  refine WpC.seq ?_
  refine WpC.regionL ?_
  refine L.move hF rfl rfl rfl ?_
  refine L.move hF rfl rfl rfl ?_
  refine L.bin hF rfl rfl rfl rfl rfl rfl ?_
  refine L.move hF rfl rfl rfl ?_
  refine L.split (fun hc => ?_) (fun hc => ?_)
  · replace H := condT hc H
    refine L.move hF rfl rfl rfl ?_
    refine L.move hF rfl rfl rfl ?_
    refine L.bin hF rfl rfl rfl rfl rfl rfl ?_
    refine L.pick hF rfl rfl rfl rfl ?_
    refine L.assign hF rfl rfl rfl ?_
    refine L.nil ?_
    refine WpC.ret ?_
    cases H
    exact Leaves.ret rfl rfl rfl ⟨rfl, rfl⟩
  · replace H := condF hc H
    refine L.off hF rfl rfl ?_
    refine L.off hF rfl rfl ?_
    refine L.off hF rfl rfl ?_
    refine L.pick hF rfl rfl rfl rfl ?_
    refine L.assign hF rfl rfl rfl ?_
    refine L.nil ?_
    refine WpC.ret ?_
    cases H
    exact Leaves.ret rfl rfl rfl ⟨rfl, rfl⟩
/-! ### loop.example/g00769/impl.FlagsOk: function 16 -/
def Fimpl_FlagsOk (k : Nat) (a0 : Int) : Option Bool := (Fimpl_within k a0 (0 : Int) (255 : Int)).bind fun r1 => some r1
theorem ent16 : Enters Try.prog 16 := ⟨Try.f16, Try.func16, rfl, by decide⟩
set_option maxHeartbeats 8000000 in
theorem Fimpl_FlagsOk_gives (k : Nat) (a0 : Int) (r : Bool) (H : Fimpl_FlagsOk k a0 = some r) : Gives Try.prog 16 [V.one (cI a0)] [] [V.one (cL r)] [] := by
  refine Gives.intro Try.func16 rfl rfl rfl rfl ?_
  intro F hF hm
  unfold Fimpl_FlagsOk at H
  obtain ⟨K, hK⟩ : ∃ K, k ≤ K := ⟨k, Nat.le_refl k⟩
  refine WpC.seq ?_
  refine WpC.regionL ?_
  refine L.assign hF rfl rfl rfl ?_
  refine L.nil ?_
  refine WpC.seq ?_
  refine WpC.regionL ?_
  refine L.move hF rfl rfl rfl ?_
  obtain ⟨r1, hr1, H⟩ := bindS H
  refine L.call [false, false, false] [] [] 0 hF rfl rfl rfl ent43 rfl rfl rfl rfl rfl (Fimpl_within_gives k  a0 (0 : Int) (255 : Int) r1 hr1) rfl ?_
  refine L.assign hF rfl rfl rfl ?_
  refine L.nil ?_
  refine WpC.ret ?_
  cases H
  exact Leaves.ret rfl rfl rfl ⟨rfl, rfl⟩
/-! ### loop.example/g00769/impl.ShowFlags: function 25 -/
def Fimpl_ShowFlags.j8 (cl7 : Int → (List UInt8) → Int → Option (List UInt8)) (k : Nat) (v59 : Int) (v60 : List UInt8) (v61 : Int) : Option (List UInt8) := cl7 v59 v60 (IntKind.i64.wrap (v61 + (1 : Int)))
def Fimpl_ShowFlags.l7 : Nat → Int → (List UInt8) → Int → Option (List UInt8)
  | 0, _, _, _ => none
  | k7 + 1, v53, v54, v55 => cond (decide (v55 < (8 : Int))) (cond (!(decide (v55 < 0))) (cond ((Go.bits .and .i64 (shrI .i64 v53 v55) (1 : Int)) == (1 : Int)) ((cut? ([102, 112, 114, 100, 105, 73, 70, 80] : List UInt8) v55 (IntKind.i64.wrap (v55 + (1 : Int)))).bind fun b63 => cond (decide (v54.length + b63.length ≤ 9223372036854775807)) (Fimpl_ShowFlags.j8 (Fimpl_ShowFlags.l7 k7) k7 v53 (v54 ++ b63) v55) none) (Fimpl_ShowFlags.j8 (Fimpl_ShowFlags.l7 k7) k7 v53 v54 v55)) none) (some v54)
def Fimpl_ShowFlags (k : Nat) (a0 : Int) : Option (List UInt8) := (Fimpl_FlagsOk k a0).bind fun r2 => cond (!r2) (some ([] : List UInt8)) (cond (a0 == (0 : Int)) (some ([45] : List UInt8)) (Fimpl_ShowFlags.l7 k a0 ([] : List UInt8) (0 : Int)))
theorem ent25 : Enters Try.prog 25 := ⟨Try.f25, Try.func25, rfl, by decide⟩
set_option maxHeartbeats 8000000 in
theorem Fimpl_ShowFlags_gives (k : Nat) (a0 : Int) (r : List UInt8) (H : Fimpl_ShowFlags k a0 = some r) : Gives Try.prog 25 [V.one (cI a0)] [] [V.one (cS r)] [] := by
  refine Gives.intro Try.func25 rfl rfl rfl rfl ?_
  intro F hF hm
  unfold Fimpl_ShowFlags at H
  obtain ⟨K, hK⟩ : ∃ K, k ≤ K := ⟨k, Nat.le_refl k⟩
  refine WpC.seq ?_
  refine WpC.regionL ?_
  refine L.assign hF rfl rfl rfl ?_
  refine L.nil ?_
  refine WpC.seq ?_
  refine WpC.seq ?_
  refine WpC.regionL ?_
  refine L.move hF rfl rfl rfl ?_
  obtain ⟨r2, hr2, H⟩ := bindS H
  refine L.call [false] [] [] 0 hF rfl rfl rfl ent16 rfl rfl rfl rfl rfl (Fimpl_FlagsOk_gives k  a0 r2 hr2) rfl ?_
  refine L.not hF rfl rfl rfl ?_
  refine L.nil ?_
  refine WpC.cond rfl (fun hc => ?_) (fun hc => ?_)
  · replace H := condT hc H
    refine WpC.seq ?_
    refine WpC.regionL ?_
    refine L.assign hF rfl rfl rfl ?_
    refine L.nil ?_
    refine WpC.ret ?_
    cases H
    exact Leaves.ret rfl rfl rfl ⟨rfl, rfl⟩
  · replace H := condF hc H
    refine WpC.skip ?_
    refine WpC.seq ?_
    refine WpC.seq ?_
    refine WpC.regionL ?_
    refine L.move hF rfl rfl rfl ?_
    refine L.bin hF rfl rfl rfl rfl rfl rfl ?_
    refine L.nil ?_
    refine WpC.cond rfl (fun hc => ?_) (fun hc => ?_)
    · replace H := condT hc H
      refine WpC.seq ?_
      refine WpC.regionL ?_
      refine L.assign hF rfl rfl rfl ?_
      refine L.nil ?_
      refine WpC.ret ?_
      cases H
      exact Leaves.ret rfl rfl rfl ⟨rfl, rfl⟩
    · replace H := condF hc H
      refine WpC.skip ?_
      refine WpC.seq ?_
      refine WpC.regionL ?_
      refine L.assign hF rfl rfl rfl ?_
      refine L.nil ?_
      refine WpC.seq ?_
      refine WpC.seq ?_
      refine WpC.regionL ?_
      refine L.move hF rfl rfl rfl ?_
      refine L.nil ?_
      refine WpC.block ?_
      refine WpC.loopL (P := Try.prog) (fun n σ => ∃ v53 : Int, ∃ v54 : List UInt8, ∃ v55 : Int, n ≤ K ∧ Fimpl_ShowFlags.l7 n v53 v54 v55 = some r ∧ σ = mkSt [(0, one (cI v53)), (3, one (cS v54)), (10, one (cI v55))] [] [] 0) k ⟨_, ⟨a0, ([] : List UInt8), (0 : Int), by omega, H, rfl⟩, Le.mk [] hm rfl ⟨⟨_, rfl, rfl⟩, ⟨_, rfl, rfl⟩, ⟨_, rfl, rfl⟩, trivial⟩ trivial trivial⟩ ?_
      clear H
      rintro k7 _ ⟨v53, v54, v55, hk7, H, rfl⟩
      cases k7 with
      | zero => cases H
      | succ k7 =>
        rw [Fimpl_ShowFlags.l7] at H
        refine WpC.seq ?_
        refine WpC.regionL ?_
        refine L.bin hF rfl rfl rfl rfl rfl rfl ?_
        refine L.nil ?_
        refine WpC.seq ?_
        refine WpC.cond rfl (fun hc => ?_) (fun hc => ?_)
        · replace H := condT hc H
          refine WpC.skip ?_
          refine WpC.join (fun σ => ∃ v59 : Int, ∃ v60 : List UInt8, ∃ v61 : Int, Fimpl_ShowFlags.j8 (Fimpl_ShowFlags.l7 k7) k7 v59 v60 v61 = some r ∧ σ = mkSt [(0, one (cI v59)), (3, one (cS v60)), (10, one (cI v61))] [] [] 0) ?_ ?_
          · rintro _ ⟨v59, v60, v61, H, rfl⟩
            unfold Fimpl_ShowFlags.j8 at H
            refine WpC.regionL ?_
            refine L.bin hF rfl rfl rfl rfl rfl rfl ?_
            refine L.move hF rfl rfl rfl ?_
            refine L.nil ?_
            exact ⟨k7, _, by omega, ⟨v59, v60, (IntKind.i64.wrap (v61 + (1 : Int))), by omega, H, rfl⟩, Le.mk [] hm rfl ⟨⟨_, rfl, rfl⟩, ⟨_, rfl, rfl⟩, ⟨_, rfl, rfl⟩, trivial⟩ trivial trivial⟩
          · refine WpC.block ?_
            refine WpC.seq ?_
            refine WpC.regionL ?_
            refine L.move hF rfl rfl rfl ?_
            refine L.assign hF rfl rfl rfl ?_
            refine L.nil ?_
            refine WpC.seq ?_
            refine WpC.regionL ?_
            refine L.move hF rfl rfl rfl ?_
            refine L.move hF rfl rfl rfl ?_
            obtain ⟨h62, H⟩ := condG H
            refine L.shr hF rfl rfl rfl rfl (by simpa using h62) ?_
            refine L.bin hF rfl rfl rfl rfl rfl rfl ?_
            refine L.bin hF rfl rfl rfl rfl rfl rfl ?_
            refine L.nil ?_
            refine WpC.cond rfl (fun hc => ?_) (fun hc => ?_)
            · replace H := condT hc H
              refine WpC.regionL ?_
              refine L.move hF rfl rfl rfl ?_
              refine L.move hF rfl rfl rfl ?_
              refine L.move hF rfl rfl rfl ?_
              refine L.bin hF rfl rfl rfl rfl rfl rfl ?_
              obtain ⟨b63, hb63, H⟩ := bindS H
              refine L.cutS Try.underlying9 hF rfl rfl rfl rfl rfl hb63 ?_
              obtain ⟨h64, H⟩ := condG H
              refine L.catS hF rfl rfl rfl rfl (of_decide_eq_true h64) ?_
              refine L.assign hF rfl rfl rfl ?_
              refine L.nil ?_
              exact ⟨_, ⟨v53, (v54 ++ b63), v55, H, rfl⟩, Le.mk [] hm rfl ⟨⟨_, rfl, rfl⟩, ⟨_, rfl, rfl⟩, ⟨_, rfl, rfl⟩, trivial⟩ trivial trivial⟩
            · replace H := condF hc H
              refine WpC.skip ?_
              exact ⟨_, ⟨v53, v54, v55, H, rfl⟩, Le.mk [] hm rfl ⟨⟨_, rfl, rfl⟩, ⟨_, rfl, rfl⟩, ⟨_, rfl, rfl⟩, trivial⟩ trivial trivial⟩
        · replace H := condF hc H
          refine WpC.exit ?_
          refine WpC.seq ?_
          refine WpC.regionL ?_
          refine L.move hF rfl rfl rfl ?_
          refine L.assign hF rfl rfl rfl ?_
          refine L.nil ?_
          refine WpC.ret ?_
          cases H
          exact Leaves.ret rfl rfl rfl ⟨rfl, rfl⟩
/-! ### loop.example/g00769/impl.ReadFlags: function 30 -/
def Fimpl_ReadFlags.l2 : Nat → (List UInt8) → Int → Option (Int × Bool)
  | 0, _, _ => none
  | k2 + 1, v19, v20 => cond (decide (v20 < (256 : Int))) ((Fimpl_ShowFlags k2 v20).bind fun r22 => cond (r22 == v19) (some (v20, true)) ((Fimpl_ReadFlags.l2 k2) v19 (IntKind.i64.wrap (v20 + (1 : Int))))) (some ((0 : Int), false))
def Fimpl_ReadFlags (k : Nat) (a0 : List UInt8) : Option (Int × Bool) := Fimpl_ReadFlags.l2 k a0 (0 : Int)
theorem ent30 : Enters Try.prog 30 := ⟨Try.f30, Try.func30, rfl, by decide⟩
set_option maxHeartbeats 8000000 in
theorem Fimpl_ReadFlags_gives (k : Nat) (a0 : List UInt8) (r : Int × Bool) (H : Fimpl_ReadFlags k a0 = some r) : Gives Try.prog 30 [V.one (cS a0)] [] [V.one (cI r.1), V.one (cL r.2)] [] := by
  refine Gives.intro Try.func30 rfl rfl rfl rfl ?_
  intro F hF hm
  unfold Fimpl_ReadFlags at H
  obtain ⟨K, hK⟩ : ∃ K, k ≤ K := ⟨k, Nat.le_refl k⟩
  refine WpC.seq ?_
  refine WpC.regionL ?_
  refine L.assign hF rfl rfl rfl ?_
  refine L.assign hF rfl rfl rfl ?_
  refine L.nil ?_
  refine WpC.seq ?_
  refine WpC.seq ?_
  refine WpC.regionL ?_
  refine L.move hF rfl rfl rfl ?_
  refine L.nil ?_
  refine WpC.block ?_
  refine WpC.loopL (P := Try.prog) (fun n σ => ∃ v19 : List UInt8, ∃ v20 : Int, n ≤ K ∧ Fimpl_ReadFlags.l2 n v19 v20 = some r ∧ σ = mkSt [(0, one (cS v19)), (5, one (cI v20))] [] [] 0) k ⟨_, ⟨a0, (0 : Int), by omega, H, rfl⟩, Le.mk [] hm rfl ⟨⟨_, rfl, rfl⟩, ⟨_, rfl, rfl⟩, trivial⟩ trivial trivial⟩ ?_
  clear H
  rintro k2 _ ⟨v19, v20, hk2, H, rfl⟩
  cases k2 with
  | zero => cases H
  | succ k2 =>
    rw [Fimpl_ReadFlags.l2] at H
    refine WpC.seq ?_
    refine WpC.regionL ?_
    refine L.bin hF rfl rfl rfl rfl rfl rfl ?_
    refine L.nil ?_
    refine WpC.seq ?_
    refine WpC.cond rfl (fun hc => ?_) (fun hc => ?_)
    · replace H := condT hc H
      refine WpC.skip ?_
      refine WpC.seq ?_
      refine WpC.block ?_
      refine WpC.seq ?_
      refine WpC.regionL ?_
      refine L.move hF rfl rfl rfl ?_
      refine L.assign hF rfl rfl rfl ?_
      refine L.nil ?_
      refine WpC.seq ?_
      refine WpC.regionL ?_
      refine L.move hF rfl rfl rfl ?_
      obtain ⟨r22, hr22, H⟩ := bindS H
      refine L.call [false] [] [] 0 hF rfl rfl rfl ent25 rfl rfl rfl rfl rfl (Fimpl_ShowFlags_gives k2  v20 r22 hr22) rfl ?_
      refine L.move hF rfl rfl rfl ?_
      refine L.binS hF rfl rfl rfl rfl rfl ?_
      refine L.nil ?_
      refine WpC.cond rfl (fun hc => ?_) (fun hc => ?_)
      · replace H := condT hc H
        refine WpC.seq ?_
        refine WpC.regionL ?_
        refine L.move hF rfl rfl rfl ?_
        refine L.assign hF rfl rfl rfl ?_
        refine L.assign hF rfl rfl rfl ?_
        refine L.nil ?_
        refine WpC.ret ?_
        cases H
        exact Leaves.ret rfl rfl rfl ⟨rfl, rfl⟩
      · replace H := condF hc H
        refine WpC.skip ?_
        refine WpC.regionL ?_
        refine L.bin hF rfl rfl rfl rfl rfl rfl ?_
        refine L.move hF rfl rfl rfl ?_
        refine L.nil ?_
        exact ⟨k2, _, by omega, ⟨v19, (IntKind.i64.wrap (v20 + (1 : Int))), by omega, H, rfl⟩, Le.mk [] hm rfl ⟨⟨_, rfl, rfl⟩, ⟨_, rfl, rfl⟩, trivial⟩ trivial trivial⟩
    · replace H := condF hc H
      refine WpC.exit ?_
      refine WpC.seq ?_
      refine WpC.regionL ?_
      refine L.assign hF rfl rfl rfl ?_
      refine L.assign hF rfl rfl rfl ?_
      refine L.nil ?_
      refine WpC.ret ?_
      cases H
      exact Leaves.ret rfl rfl rfl ⟨rfl, rfl⟩
/-! ### loop.example/g00769/laws.FnExactReadFlags: function 9 -/
def Flaws_FnExactReadFlags (k : Nat) (a0 : List UInt8) : Option Bool := cond (decide ((a0.length : Int) > (1048576 : Int))) (some true) ((Fspec_ReadFlags k a0).bind fun r1 => (Fimpl_ReadFlags k a0).bind fun r2 => cond (r2.1 != r1.1) (some false) (cond (r2.2 != r1.2) (some false) (some true)))
theorem ent9 : Enters Try.prog 9 := ⟨Try.f9, Try.func9, rfl, by decide⟩
set_option maxHeartbeats 8000000 in
theorem Flaws_FnExactReadFlags_gives (k : Nat) (a0 : List UInt8) (r : Bool) (H : Flaws_FnExactReadFlags k a0 = some r) : Gives Try.prog 9 [V.one (cS a0)] [] [V.one (cL r)] [] := by
  refine Gives.intro Try.func9 rfl rfl rfl rfl ?_
  intro F hF hm
  unfold Flaws_FnExactReadFlags at H
  obtain ⟨K, hK⟩ : ∃ K, k ≤ K := ⟨k, Nat.le_refl k⟩
  refine WpC.seq ?_
  refine WpC.regionL ?_
  refine L.assign hF rfl rfl rfl ?_
  refine L.nil ?_
  refine WpC.seq ?_
  refine WpC.seq ?_
  refine WpC.regionL ?_
  refine L.move hF rfl rfl rfl ?_
  refine L.lenS Try.underlying9 hF rfl rfl rfl ?_
  refine L.bin hF rfl rfl rfl rfl rfl rfl ?_
  refine L.nil ?_
  refine WpC.cond rfl (fun hc => ?_) (fun hc => ?_)
  · replace H := condT hc H
    refine WpC.seq ?_
    refine WpC.regionL ?_
    refine L.assign hF rfl rfl rfl ?_
    refine L.nil ?_
    refine WpC.ret ?_
    cases H
    exact Leaves.ret rfl rfl rfl ⟨rfl, rfl⟩
  · replace H := condF hc H
    refine WpC.skip ?_
    refine WpC.seq ?_
    refine WpC.regionL ?_
    refine L.move hF rfl rfl rfl ?_
    obtain ⟨r1, hr1, H⟩ := bindS H
    refine L.call [false] [] [] 0 hF rfl rfl rfl ent29 rfl rfl rfl rfl rfl (Fspec_ReadFlags_gives k  a0 r1 hr1) rfl ?_
    refine L.move hF rfl rfl rfl ?_
    refine L.extract hF rfl rfl rfl rfl ?_
    refine L.extract hF rfl rfl rfl rfl ?_
    refine L.assign hF rfl rfl rfl ?_
    refine L.assign hF rfl rfl rfl ?_
    refine L.nil ?_
    refine WpC.seq ?_
    refine WpC.regionL ?_
    refine L.move hF rfl rfl rfl ?_
    obtain ⟨r2, hr2, H⟩ := bindS H
    refine L.call [false] [] [] 2 hF rfl rfl rfl ent30 rfl rfl rfl rfl rfl (Fimpl_ReadFlags_gives k  a0 r2 hr2) rfl ?_
    refine L.move hF rfl rfl rfl ?_
    refine L.extract hF rfl rfl rfl rfl ?_
    refine L.extract hF rfl rfl rfl rfl ?_
    refine L.assign hF rfl rfl rfl ?_
    refine L.assign hF rfl rfl rfl ?_
    refine L.nil ?_
    refine WpC.seq ?_
    refine WpC.seq ?_
    refine WpC.regionL ?_
    refine L.move hF rfl rfl rfl ?_
    refine L.move hF rfl rfl rfl ?_
    refine L.bin hF rfl rfl rfl rfl rfl rfl ?_
    refine L.move hF rfl rfl rfl ?_
    refine L.split (fun hc => ?_) (fun hc => ?_)
    · replace H := condT hc H
      refine L.off hF rfl rfl ?_
      refine L.off hF rfl rfl ?_
      refine L.off hF rfl rfl ?_
      refine L.pick hF rfl rfl rfl rfl ?_
      refine L.nil ?_
      refine WpC.cond rfl (fun _ => ?_) (fun hc => by cases hc)
      refine WpC.seq ?_
      refine WpC.regionL ?_
      refine L.assign hF rfl rfl rfl ?_
      refine L.nil ?_
      refine WpC.ret ?_
      cases H
      exact Leaves.ret rfl rfl rfl ⟨rfl, rfl⟩
    · replace H := condF hc H
      refine L.move hF rfl rfl rfl ?_
      refine L.move hF rfl rfl rfl ?_
      refine L.neL Try.underlying4 hF rfl rfl rfl rfl ?_
      refine L.pick hF rfl rfl rfl rfl ?_
      refine L.nil ?_
      refine WpC.cond rfl (fun hc => ?_) (fun hc => ?_)
      · replace H := condT hc H
        refine WpC.seq ?_
        refine WpC.regionL ?_
        refine L.assign hF rfl rfl rfl ?_
        refine L.nil ?_
        refine WpC.ret ?_
        cases H
        exact Leaves.ret rfl rfl rfl ⟨rfl, rfl⟩
      · replace H := condF hc H
        refine WpC.skip ?_
        refine WpC.seq ?_
        refine WpC.regionL ?_
        refine L.assign hF rfl rfl rfl ?_
        refine L.nil ?_
        refine WpC.ret ?_
        cases H
        exact Leaves.ret rfl rfl rfl ⟨rfl, rfl⟩
end Go.Proofs.Ytpboghglkihlmaa.M
