import Derived.Test.YtflcaebmammlfaaMgZc
import Derived.Test.YtflcaebmammlfaaProg
namespace Go.Proofs.Ytflcaebmammlfaa.M
open Go Go.MG
set_option linter.unusedVariables false
set_option linter.unusedSimpArgs false
structure Tspec_l1Cur where
  b : List UInt8
  i : Int
  h : Int
def eTspec_l1Cur (x : Tspec_l1Cur) : List Cell := [Cell.sl true (List.map eB x.b), cI x.i, cI x.h]
theorem mixed : Try.prog.follows .mixedOrders = true := by kernel_rfl
theorem shape3 : MG.shape Try.prog 3 = some (false, 1) := by kernel_rfl
theorem shape5 : MG.shape Try.prog 5 = some (false, 1) := by kernel_rfl
theorem shape35 : MG.shape Try.prog 35 = some (false, 1) := by kernel_rfl
theorem info3 : Try.prog.info? 3 = some Try.t3 := by kernel_rfl
theorem info5 : Try.prog.info? 5 = some Try.t5 := by kernel_rfl
theorem info35 : Try.prog.info? 35 = some Try.t35 := by kernel_rfl
theorem info162 : Try.prog.info? 162 = some Try.t162 := by kernel_rfl
theorem built162 : builtA Try.prog 162 = fillA (fun x => ([(0, 1), (1, 1), (2, 1)] : List (Nat × Nat))[x]?) [Cell.nil, cI (0 : Int), cI (0 : Int)] := by kernel_rfl
/-! ### Flaws_big -/
def Flaws_big (k : Nat) (a0 : List UInt8) : Option Bool := some (decide ((a0.length : Int) > (1048576 : Int)))
theorem ent32 : Enters Try.prog 32 := ⟨Try.f32, Try.func32, rfl, by decide⟩
set_option maxHeartbeats 8000000 in
set_option maxRecDepth 100000 in
theorem Flaws_big_gives (k : Nat) (g0 : Bool) (a0 : List UInt8) (r : Bool) (H : Flaws_big k a0 = some r) : Gives Try.prog 32 [V.one (Cell.sl g0 (List.map eB a0))] [] [V.one (cL r)] [] := by
  refine Gives.intro Try.func32 rfl rfl rfl rfl ?_
  intro F hF hm
  unfold Flaws_big at H
  obtain ⟨K, hK⟩ : ∃ K, k ≤ K := ⟨k, Nat.le_refl k⟩
  refine WpC.seq ?_
  refine WpC.regionL ?_
  refine L.assign hF rfl rfl rfl ?_
  refine L.nil ?_
  refine WpC.seq ?_
  refine WpC.regionL ?_
  refine L.move hF rfl rfl rfl ?_
  refine L.lenR (xs := a0) (e := eB) Try.underlying35 hF rfl rfl rfl rfl ?_
  refine L.bin hF rfl rfl rfl rfl rfl rfl ?_
  refine L.assign hF rfl rfl rfl ?_
  refine L.nil ?_
  refine WpC.ret ?_
  cases H
  exact Leaves.ret rfl rfl rfl ⟨rfl, rfl⟩
/-! ### Fspec_l1New -/
def Fspec_l1New.j2 (k : Nat) (v15 : List UInt8) (v16 : Int) : Option Tspec_l1Cur := some (⟨v15, (0 : Int), v16⟩ : Tspec_l1Cur)
def Fspec_l1New.l3 : Nat → (List UInt8) → Int → Int → Option Tspec_l1Cur
  | 0, _, _, _ => none
  | k3 + 1, v26, v27, v28 => cond (decide (v28 < (v26.length : Int))) (cond (decide (v28 < (4000 : Int))) ((at? v26 v28).bind fun b30 => (Fspec_l1New.l3 k3) v26 (Go.bits .and .i64 (IntKind.i64.wrap ((IntKind.i64.wrap ((IntKind.i64.wrap (v27 * (131 : Int))) + (b30.toNat : Int))) + (7 : Int))) (1073741823 : Int)) (IntKind.i64.wrap (v28 + (1 : Int)))) (Fspec_l1New.j2 k3 v26 v27)) (Fspec_l1New.j2 k3 v26 v27)
def Fspec_l1New (k : Nat) (a0 : List UInt8) : Option Tspec_l1Cur := Fspec_l1New.l3 k a0 (IntKind.i64.wrap ((10101 : Int) + (a0.length : Int))) (0 : Int)
theorem ent95 : Enters Try.prog 95 := ⟨Try.f95, Try.func95, rfl, by decide⟩
set_option maxHeartbeats 8000000 in
set_option maxRecDepth 100000 in
theorem Fspec_l1New_gives (k : Nat) (a0 : List UInt8) (r : Tspec_l1Cur) (H : Fspec_l1New k a0 = some r) : Gives Try.prog 95 [V.one (Cell.sl true (List.map eB a0))] [] [V.one (Cell.bx [Cell.sl true (List.map eB r.b), cI r.i, cI r.h])] [] := by
  refine Gives.intro Try.func95 rfl rfl rfl rfl ?_
  intro F hF hm
  unfold Fspec_l1New at H
  obtain ⟨K, hK⟩ : ∃ K, k ≤ K := ⟨k, Nat.le_refl k⟩
  refine WpC.seq ?_
  refine WpC.regionL ?_
  refine L.assign hF rfl rfl rfl ?_
  refine L.nil ?_
  refine WpC.seq ?_
  refine WpC.regionL ?_
  refine L.move hF rfl rfl rfl ?_
  refine L.lenR (xs := a0) (e := eB) Try.underlying35 hF rfl rfl rfl rfl ?_
  refine L.bin hF rfl rfl rfl rfl rfl rfl ?_
  refine L.assign hF rfl rfl rfl ?_
  refine L.nil ?_
  refine WpC.join (fun σ => ∃ kj2 : Nat, ∃ v15 : List UInt8, ∃ v16 : Int, kj2 ≤ K ∧ Fspec_l1New.j2 kj2 v15 v16 = some r ∧ σ = mkSt [(0, one (Cell.sl true (List.map eB v15))), (3, one (cI v16))] [] [] 0) ?_ ?_
  · rintro _ ⟨kj2, v15, v16, hkj2, H, rfl⟩
    unfold Fspec_l1New.j2 at H
    refine WpC.seq ?_
    refine WpC.regionL ?_
    refine L.move hF rfl rfl rfl ?_
    refine L.move hF rfl rfl rfl ?_
    refine L.buildF built162 hF rfl rfl rfl rfl ?_
    refine L.box 0 hF rfl rfl rfl rfl ?_
    refine L.assign hF rfl rfl rfl ?_
    refine L.nil ?_
    refine WpC.ret ?_
    cases H
    exact Leaves.ret rfl rfl rfl ⟨rfl, rfl⟩
  · refine WpC.seq ?_
    refine WpC.regionL ?_
    refine L.assign hF rfl rfl rfl ?_
    refine L.nil ?_
    refine WpC.block ?_
    refine WpC.loopL (P := Try.prog) (fun n σ => ∃ v26 : List UInt8, ∃ v27 : Int, ∃ v28 : Int, n ≤ K ∧ Fspec_l1New.l3 n v26 v27 v28 = some r ∧ σ = mkSt [(0, one (Cell.sl true (List.map eB v26))), (3, one (cI v27)), (4, one (cI v28))] [] [] 0) k ⟨_, ⟨a0, (IntKind.i64.wrap ((10101 : Int) + (a0.length : Int))), (0 : Int), by omega, H, rfl⟩, Le.mk [] hm rfl ⟨⟨_, rfl, rfl⟩, ⟨_, rfl, rfl⟩, ⟨_, rfl, rfl⟩, trivial⟩ trivial trivial⟩ ?_
    clear H
    rintro k3 _ ⟨v26, v27, v28, hk3, H, rfl⟩
    cases k3 with
    | zero => cases H
    | succ k3 =>
      rw [Fspec_l1New.l3] at H
      refine WpC.seq ?_
      refine WpC.seq ?_
      refine WpC.regionL ?_
      refine L.move hF rfl rfl rfl ?_
      refine L.move hF rfl rfl rfl ?_
      refine L.lenR (xs := v26) (e := eB) Try.underlying35 hF rfl rfl rfl rfl ?_
      refine L.bin hF rfl rfl rfl rfl rfl rfl ?_
      refine L.move hF rfl rfl rfl ?_
      refine L.split (fun hc => ?_) (fun hc => ?_)
      · replace H := condT hc H
        refine L.move hF rfl rfl rfl ?_
        refine L.bin hF rfl rfl rfl rfl rfl rfl ?_
        refine L.pick hF rfl rfl rfl rfl ?_
        refine L.nil ?_
        refine WpC.cond rfl (fun hc => ?_) (fun hc => ?_)
        · replace H := condT hc H
          refine WpC.skip ?_
          refine WpC.seq ?_
          refine WpC.block ?_
          refine WpC.regionL ?_
          refine L.move hF rfl rfl rfl ?_
          refine L.bin hF rfl rfl rfl rfl rfl rfl ?_
          refine L.move hF rfl rfl rfl ?_
          refine L.move hF rfl rfl rfl ?_
          obtain ⟨b30, hb30, H⟩ := bindS H
          refine L.idxR (xs := v26) (e := eB) Try.underlying35 info5 hF rfl rfl rfl rfl rfl hb30 rfl rfl ?_
          refine L.loadPe shape5 hF rfl rfl rfl rfl rfl ?_
          refine L.ofB Try.underlying5 Try.underlying3 hF rfl rfl rfl ?_
          refine L.bin hF rfl rfl rfl rfl rfl rfl ?_
          refine L.bin hF rfl rfl rfl rfl rfl rfl ?_
          refine L.bin hF rfl rfl rfl rfl rfl rfl ?_
          refine L.assign hF rfl rfl rfl ?_
          refine L.nil ?_
          refine WpC.regionL ?_
          refine L.move hF rfl rfl rfl ?_
          refine L.bin hF rfl rfl rfl rfl rfl rfl ?_
          refine L.assign hF rfl rfl rfl ?_
          refine L.nil ?_
          exact ⟨k3, _, by omega, ⟨v26, (Go.bits .and .i64 (IntKind.i64.wrap ((IntKind.i64.wrap ((IntKind.i64.wrap (v27 * (131 : Int))) + (b30.toNat : Int))) + (7 : Int))) (1073741823 : Int)), (IntKind.i64.wrap (v28 + (1 : Int))), by omega, H, rfl⟩, Le.mk [] hm rfl ⟨⟨_, rfl, rfl⟩, ⟨_, rfl, rfl⟩, ⟨_, rfl, rfl⟩, trivial⟩ trivial trivial⟩
        · replace H := condF hc H
          refine WpC.exit ?_
          exact ⟨_, ⟨k3, v26, v27, by omega, H, rfl⟩, Le.mk [] hm rfl ⟨⟨_, rfl, rfl⟩, ⟨_, rfl, rfl⟩, trivial⟩ trivial trivial⟩
      · replace H := condF hc H
        refine L.off hF rfl rfl ?_
        refine L.off hF rfl rfl ?_
        refine L.pick hF rfl rfl rfl rfl ?_
        refine L.nil ?_
        refine WpC.cond rfl (fun hc => by cases hc) (fun _ => ?_)
        refine WpC.exit ?_
        exact ⟨_, ⟨k3, v26, v27, by omega, H, rfl⟩, Le.mk [] hm rfl ⟨⟨_, rfl, rfl⟩, ⟨_, rfl, rfl⟩, trivial⟩ trivial trivial⟩
/-! ### Fspec_l1Byte -/
def Fspec_l1Byte (k : Nat) (o0 : Tspec_l1Cur) : Option (Int × Tspec_l1Cur) := cond (decide (o0.i < (o0.b.length : Int))) ((at? o0.b o0.i).bind fun b2 => some ((Go.bits .and .i64 (IntKind.i64.wrap ((Go.bits .and .i64 (Go.bits .xor .i64 (shrI .i64 (IntKind.i64.wrap ((IntKind.i64.wrap (o0.h * (6364136223846793005 : Int))) + (1442695040888963407 : Int))) (33 : Int)) (shrI .i64 (IntKind.i64.wrap ((IntKind.i64.wrap (o0.h * (6364136223846793005 : Int))) + (1442695040888963407 : Int))) (45 : Int))) (255 : Int)) + (b2.toNat : Int))) (255 : Int)), (⟨o0.b, (IntKind.i64.wrap (o0.i + (1 : Int))), (IntKind.i64.wrap ((IntKind.i64.wrap (o0.h * (6364136223846793005 : Int))) + (1442695040888963407 : Int)))⟩ : Tspec_l1Cur))) (some ((Go.bits .and .i64 (Go.bits .xor .i64 (shrI .i64 (IntKind.i64.wrap ((IntKind.i64.wrap (o0.h * (6364136223846793005 : Int))) + (1442695040888963407 : Int))) (33 : Int)) (shrI .i64 (IntKind.i64.wrap ((IntKind.i64.wrap (o0.h * (6364136223846793005 : Int))) + (1442695040888963407 : Int))) (45 : Int))) (255 : Int)), (⟨o0.b, o0.i, (IntKind.i64.wrap ((IntKind.i64.wrap (o0.h * (6364136223846793005 : Int))) + (1442695040888963407 : Int)))⟩ : Tspec_l1Cur)))
theorem ent148 : Enters Try.prog 148 := ⟨Try.f148, Try.func148, rfl, by decide⟩
set_option maxHeartbeats 8000000 in
set_option maxRecDepth 100000 in
theorem Fspec_l1Byte_gives (k : Nat) (o0 : Tspec_l1Cur) (r : Int × Tspec_l1Cur) (H : Fspec_l1Byte k o0 = some r) : Gives Try.prog 148 [V.one (Cell.ptr 0 0)] [[Cell.sl true (List.map eB o0.b), cI o0.i, cI o0.h]] [V.one (cI r.1)] [[Cell.sl true (List.map eB r.2.b), cI r.2.i, cI r.2.h]] := by
  refine Gives.intro Try.func148 rfl rfl rfl rfl ?_
  intro F hF hm
  unfold Fspec_l1Byte at H
  obtain ⟨K, hK⟩ : ∃ K, k ≤ K := ⟨k, Nat.le_refl k⟩
  refine WpC.seq ?_
  refine WpC.regionL ?_
  refine L.assign hF rfl rfl rfl ?_
  refine L.nil ?_
  refine WpC.seq ?_
  refine WpC.regionL ?_
  refine L.move hF rfl rfl rfl ?_
  refine L.move hF rfl rfl rfl ?_
  refine L.nilCheck hF rfl rfl rfl rfl ?_
  refine L.fieldAddr Try.underlying162 rfl info3 rfl hF rfl rfl rfl rfl rfl ?_
  refine L.loadPtr shape3 hF rfl rfl rfl rfl rfl rfl ?_
  refine L.bin hF rfl rfl rfl rfl rfl rfl ?_
  refine L.bin hF rfl rfl rfl rfl rfl rfl ?_
  refine L.nilCheck hF rfl rfl rfl rfl ?_
  refine L.fieldAddr Try.underlying162 rfl info3 rfl hF rfl rfl rfl rfl rfl ?_
  refine L.storePtr shape3 hF rfl rfl rfl rfl rfl rfl rfl ?_
  refine L.nil ?_
  refine WpC.seq ?_
  refine S.begin mixed (by kernel_rfl) ?_
  refine S.st 0 rfl rfl ((Ca.move).quiet) (fun Q0 k0 => L.move hF rfl rfl rfl (L.nil k0)) ?_
  refine S.st 1 rfl rfl ((Ca.nilCheck rfl rfl).quiet) (fun Q0 k0 => L.nilCheck hF rfl rfl rfl rfl (L.nil k0)) ?_
  refine S.st 2 rfl rfl ((Ca.fieldAddr Try.underlying162 rfl info3 rfl).quiet) (fun Q0 k0 => L.fieldAddr Try.underlying162 rfl info3 rfl hF rfl rfl rfl rfl rfl (L.nil k0)) ?_
  refine S.st 3 rfl rfl (Qu.load) (fun Q0 k0 => L.loadPtr shape3 hF rfl rfl rfl rfl rfl rfl (L.nil k0)) ?_
  refine S.st 4 rfl rfl ((Ca.bin rfl rfl (calm_int _ _ _ _ _ _ _ _)).quiet) (fun Q0 k0 => L.shr hF rfl rfl rfl rfl (by decide) (L.nil k0)) ?_
  refine S.st 5 rfl rfl ((Ca.move).quiet) (fun Q0 k0 => L.move hF rfl rfl rfl (L.nil k0)) ?_
  refine S.st 6 rfl rfl ((Ca.nilCheck rfl rfl).quiet) (fun Q0 k0 => L.nilCheck hF rfl rfl rfl rfl (L.nil k0)) ?_
  refine S.st 7 rfl rfl ((Ca.fieldAddr Try.underlying162 rfl info3 rfl).quiet) (fun Q0 k0 => L.fieldAddr Try.underlying162 rfl info3 rfl hF rfl rfl rfl rfl rfl (L.nil k0)) ?_
  refine S.st 8 rfl rfl (Qu.load) (fun Q0 k0 => L.loadPtr shape3 hF rfl rfl rfl rfl rfl rfl (L.nil k0)) ?_
  refine S.st 9 rfl rfl ((Ca.bin rfl rfl (calm_int _ _ _ _ _ _ _ _)).quiet) (fun Q0 k0 => L.shr hF rfl rfl rfl rfl (by decide) (L.nil k0)) ?_
  refine S.st 10 rfl rfl ((Ca.bin rfl rfl (calm_int _ _ _ _ _ _ _ _)).quiet) (fun Q0 k0 => L.bin hF rfl rfl rfl rfl rfl rfl (L.nil k0)) ?_
  refine S.st 11 rfl rfl ((Ca.bin rfl rfl (calm_int _ _ _ _ _ _ _ _)).quiet) (fun Q0 k0 => L.bin hF rfl rfl rfl rfl rfl rfl (L.nil k0)) ?_
  refine S.st 12 rfl rfl ((Ca.assign).quiet) (fun Q0 k0 => L.assign hF rfl rfl rfl (L.nil k0)) ?_
  refine S.nil ?_
  refine WpC.seq ?_
  refine WpC.seq ?_
  refine S.begin mixed (by kernel_rfl) ?_
  refine S.st 0 rfl rfl ((Ca.move).quiet) (fun Q0 k0 => L.move hF rfl rfl rfl (L.nil k0)) ?_
  refine S.st 1 rfl rfl ((Ca.nilCheck rfl rfl).quiet) (fun Q0 k0 => L.nilCheck hF rfl rfl rfl rfl (L.nil k0)) ?_
  refine S.st 2 rfl rfl ((Ca.fieldAddr Try.underlying162 rfl info3 rfl).quiet) (fun Q0 k0 => L.fieldAddr Try.underlying162 rfl info3 rfl hF rfl rfl rfl rfl rfl (L.nil k0)) ?_
  refine S.st 3 rfl rfl (Qu.load) (fun Q0 k0 => L.loadPtr shape3 hF rfl rfl rfl rfl rfl rfl (L.nil k0)) ?_
  refine S.st 4 rfl rfl ((Ca.move).quiet) (fun Q0 k0 => L.move hF rfl rfl rfl (L.nil k0)) ?_
  refine S.st 5 rfl rfl ((Ca.nilCheck rfl rfl).quiet) (fun Q0 k0 => L.nilCheck hF rfl rfl rfl rfl (L.nil k0)) ?_
  refine S.st 6 rfl rfl ((Ca.fieldAddr Try.underlying162 rfl info35 rfl).quiet) (fun Q0 k0 => L.fieldAddr Try.underlying162 rfl info35 rfl hF rfl rfl rfl rfl rfl (L.nil k0)) ?_
  refine S.st 7 rfl rfl (Qu.load) (fun Q0 k0 => L.loadPtr shape35 hF rfl rfl rfl rfl rfl rfl (L.nil k0)) ?_
  refine S.st 8 rfl rfl ((Ca.lenR (xs := o0.b) (e := eB) Try.underlying35 rfl rfl).quiet) (fun Q0 k0 => L.lenR (xs := o0.b) (e := eB) Try.underlying35 hF rfl rfl rfl rfl (L.nil k0)) ?_
  refine S.st 9 rfl rfl ((Ca.bin rfl rfl (calm_int _ _ _ _ _ _ _ _)).quiet) (fun Q0 k0 => L.bin hF rfl rfl rfl rfl rfl rfl (L.nil k0)) ?_
  refine S.nil ?_
  refine WpC.cond rfl (fun hc => ?_) (fun hc => ?_)
  · replace H := condT hc H
    refine WpC.seq ?_
    refine S.begin mixed (by kernel_rfl) ?_
    refine S.st 0 rfl rfl ((Ca.move).quiet) (fun Q0 k0 => L.move hF rfl rfl rfl (L.nil k0)) ?_
    refine S.st 1 rfl rfl ((Ca.move).quiet) (fun Q0 k0 => L.move hF rfl rfl rfl (L.nil k0)) ?_
    refine S.st 2 rfl rfl ((Ca.nilCheck rfl rfl).quiet) (fun Q0 k0 => L.nilCheck hF rfl rfl rfl rfl (L.nil k0)) ?_
    refine S.st 3 rfl rfl ((Ca.fieldAddr Try.underlying162 rfl info35 rfl).quiet) (fun Q0 k0 => L.fieldAddr Try.underlying162 rfl info35 rfl hF rfl rfl rfl rfl rfl (L.nil k0)) ?_
    refine S.st 4 rfl rfl (Qu.load) (fun Q0 k0 => L.loadPtr shape35 hF rfl rfl rfl rfl rfl rfl (L.nil k0)) ?_
    refine S.st 5 rfl rfl ((Ca.move).quiet) (fun Q0 k0 => L.move hF rfl rfl rfl (L.nil k0)) ?_
    refine S.st 6 rfl rfl ((Ca.nilCheck rfl rfl).quiet) (fun Q0 k0 => L.nilCheck hF rfl rfl rfl rfl (L.nil k0)) ?_
    refine S.st 7 rfl rfl ((Ca.fieldAddr Try.underlying162 rfl info3 rfl).quiet) (fun Q0 k0 => L.fieldAddr Try.underlying162 rfl info3 rfl hF rfl rfl rfl rfl rfl (L.nil k0)) ?_
    refine S.st 8 rfl rfl (Qu.load) (fun Q0 k0 => L.loadPtr shape3 hF rfl rfl rfl rfl rfl rfl (L.nil k0)) ?_
    obtain ⟨b2, hb2, H⟩ := bindS H
    refine S.st 9 rfl rfl ((Ca.indexAddr).quiet) (fun Q0 k0 => L.idxR (xs := o0.b) (e := eB) Try.underlying35 info5 hF rfl rfl rfl rfl rfl hb2 rfl rfl (L.nil k0)) ?_
    refine S.st 10 rfl rfl (Qu.load) (fun Q0 k0 => L.loadPe shape5 hF rfl rfl rfl rfl rfl (L.nil k0)) ?_
    refine S.st 11 rfl rfl ((Ca.conv Try.underlying5 Try.underlying3 rfl).quiet) (fun Q0 k0 => L.ofB Try.underlying5 Try.underlying3 hF rfl rfl rfl (L.nil k0)) ?_
    refine S.st 12 rfl rfl ((Ca.bin rfl rfl (calm_int _ _ _ _ _ _ _ _)).quiet) (fun Q0 k0 => L.bin hF rfl rfl rfl rfl rfl rfl (L.nil k0)) ?_
    refine S.st 13 rfl rfl ((Ca.bin rfl rfl (calm_int _ _ _ _ _ _ _ _)).quiet) (fun Q0 k0 => L.bin hF rfl rfl rfl rfl rfl rfl (L.nil k0)) ?_
    refine S.st 14 rfl rfl ((Ca.assign).quiet) (fun Q0 k0 => L.assign hF rfl rfl rfl (L.nil k0)) ?_
    refine S.nil ?_
    refine WpC.regionL ?_
    refine L.move hF rfl rfl rfl ?_
    refine L.move hF rfl rfl rfl ?_
    refine L.nilCheck hF rfl rfl rfl rfl ?_
    refine L.fieldAddr Try.underlying162 rfl info3 rfl hF rfl rfl rfl rfl rfl ?_
    refine L.loadPtr shape3 hF rfl rfl rfl rfl rfl rfl ?_
    refine L.bin hF rfl rfl rfl rfl rfl rfl ?_
    refine L.nilCheck hF rfl rfl rfl rfl ?_
    refine L.fieldAddr Try.underlying162 rfl info3 rfl hF rfl rfl rfl rfl rfl ?_
    refine L.storePtr shape3 hF rfl rfl rfl rfl rfl rfl rfl ?_
    refine L.nil ?_
    refine WpC.seq ?_
    refine WpC.regionL ?_
    refine L.move hF rfl rfl rfl ?_
    refine L.assign hF rfl rfl rfl ?_
    refine L.nil ?_
    refine WpC.ret ?_
    cases H
    exact Leaves.ret rfl rfl rfl ⟨rfl, rfl⟩
  · replace H := condF hc H
    refine WpC.skip ?_
    refine WpC.seq ?_
    refine WpC.regionL ?_
    refine L.move hF rfl rfl rfl ?_
    refine L.assign hF rfl rfl rfl ?_
    refine L.nil ?_
    refine WpC.ret ?_
    cases H
    exact Leaves.ret rfl rfl rfl ⟨rfl, rfl⟩
/-! ### Fspec_l1Below -/
def Fspec_l1Below (k : Nat) (a1 : Int) (o0 : Tspec_l1Cur) : Option (Int × Tspec_l1Cur) := cond (decide (a1 ≤ (0 : Int))) (some ((0 : Int), o0)) (cond (decide (a1 ≤ (256 : Int))) ((Fspec_l1Byte k o0).bind fun r3 => cond (!(a1 == 0)) (some ((Int.tmod r3.1 a1), r3.2)) none) ((Fspec_l1Byte k o0).bind fun r5 => (Fspec_l1Byte k r5.2).bind fun r6 => (Fspec_l1Byte k r6.2).bind fun r7 => (Fspec_l1Byte k r7.2).bind fun r8 => cond (!(a1 == 0)) (some ((Int.tmod (IntKind.i64.wrap ((IntKind.i64.wrap ((IntKind.i64.wrap ((IntKind.i64.wrap (r5.1 * (16777216 : Int))) + (IntKind.i64.wrap (r6.1 * (65536 : Int))))) + (IntKind.i64.wrap (r7.1 * (256 : Int))))) + r8.1)) a1), r8.2)) none))
theorem ent97 : Enters Try.prog 97 := ⟨Try.f97, Try.func97, rfl, by decide⟩
set_option maxHeartbeats 8000000 in
set_option maxRecDepth 100000 in
theorem Fspec_l1Below_gives (k : Nat) (a1 : Int) (o0 : Tspec_l1Cur) (r : Int × Tspec_l1Cur) (H : Fspec_l1Below k a1 o0 = some r) : Gives Try.prog 97 [V.one (Cell.ptr 0 0), V.one (cI a1)] [[Cell.sl true (List.map eB o0.b), cI o0.i, cI o0.h]] [V.one (cI r.1)] [[Cell.sl true (List.map eB r.2.b), cI r.2.i, cI r.2.h]] := by
  refine Gives.intro Try.func97 rfl rfl rfl rfl ?_
  intro F hF hm
  unfold Fspec_l1Below at H
  obtain ⟨K, hK⟩ : ∃ K, k ≤ K := ⟨k, Nat.le_refl k⟩
  refine WpC.seq ?_
  refine WpC.regionL ?_
  refine L.assign hF rfl rfl rfl ?_
  refine L.nil ?_
  refine WpC.seq ?_
  refine WpC.seq ?_
  refine WpC.regionL ?_
  refine L.move hF rfl rfl rfl ?_
  refine L.bin hF rfl rfl rfl rfl rfl rfl ?_
  refine L.nil ?_
  refine WpC.cond rfl (fun hc => ?_) (fun hc => ?_)
  · replace H := condT hc H
    refine WpC.seq ?_
    refine WpC.regionL ?_
    refine L.assign hF rfl rfl rfl ?_
    refine L.nil ?_
    refine WpC.ret ?_
    cases H
    exact Leaves.ret rfl rfl rfl ⟨rfl, rfl⟩
  · replace H := condF hc H
    refine WpC.skip ?_
    refine WpC.seq ?_
    refine WpC.seq ?_
    refine WpC.regionL ?_
    refine L.move hF rfl rfl rfl ?_
    refine L.bin hF rfl rfl rfl rfl rfl rfl ?_
    refine L.nil ?_
    refine WpC.cond rfl (fun hc => ?_) (fun hc => ?_)
    · replace H := condT hc H
      refine WpC.seq ?_
      refine WpC.regionL ?_
      refine L.move hF rfl rfl rfl ?_
      obtain ⟨r3, hr3, H⟩ := bindS H
      refine L.call [false] [] [0] 6 hF rfl rfl rfl ent148 rfl rfl rfl rfl rfl (Fspec_l1Byte_gives k  o0 r3 hr3) rfl ?_
      refine L.move hF rfl rfl rfl ?_
      obtain ⟨h4, H⟩ := condG H
      refine L.rem hF rfl rfl rfl rfl (by simpa using h4) ?_
      refine L.assign hF rfl rfl rfl ?_
      refine L.nil ?_
      refine WpC.ret ?_
      cases H
      exact Leaves.ret rfl rfl rfl ⟨rfl, rfl⟩
    · replace H := condF hc H
      refine WpC.skip ?_
      refine WpC.seq ?_
      refine WpC.regionL ?_
      refine L.move hF rfl rfl rfl ?_
      obtain ⟨r5, hr5, H⟩ := bindS H
      refine L.call [false] [] [0] 6 hF rfl rfl rfl ent148 rfl rfl rfl rfl rfl (Fspec_l1Byte_gives k  o0 r5 hr5) rfl ?_
      refine L.assign hF rfl rfl rfl ?_
      refine L.nil ?_
      refine WpC.seq ?_
      refine WpC.regionL ?_
      refine L.move hF rfl rfl rfl ?_
      obtain ⟨r6, hr6, H⟩ := bindS H
      refine L.call [false] [] [0] 10 hF rfl rfl rfl ent148 rfl rfl rfl rfl rfl (Fspec_l1Byte_gives k  r5.2 r6 hr6) rfl ?_
      refine L.assign hF rfl rfl rfl ?_
      refine L.nil ?_
      refine WpC.seq ?_
      refine WpC.regionL ?_
      refine L.move hF rfl rfl rfl ?_
      obtain ⟨r7, hr7, H⟩ := bindS H
      refine L.call [false] [] [0] 14 hF rfl rfl rfl ent148 rfl rfl rfl rfl rfl (Fspec_l1Byte_gives k  r6.2 r7 hr7) rfl ?_
      refine L.assign hF rfl rfl rfl ?_
      refine L.nil ?_
      refine WpC.seq ?_
      refine WpC.regionL ?_
      refine L.move hF rfl rfl rfl ?_
      obtain ⟨r8, hr8, H⟩ := bindS H
      refine L.call [false] [] [0] 18 hF rfl rfl rfl ent148 rfl rfl rfl rfl rfl (Fspec_l1Byte_gives k  r7.2 r8 hr8) rfl ?_
      refine L.assign hF rfl rfl rfl ?_
      refine L.nil ?_
      refine WpC.seq ?_
      refine WpC.regionL ?_
      refine L.move hF rfl rfl rfl ?_
      refine L.bin hF rfl rfl rfl rfl rfl rfl ?_
      refine L.move hF rfl rfl rfl ?_
      refine L.bin hF rfl rfl rfl rfl rfl rfl ?_
      refine L.bin hF rfl rfl rfl rfl rfl rfl ?_
      refine L.move hF rfl rfl rfl ?_
      refine L.bin hF rfl rfl rfl rfl rfl rfl ?_
      refine L.bin hF rfl rfl rfl rfl rfl rfl ?_
      refine L.move hF rfl rfl rfl ?_
      refine L.bin hF rfl rfl rfl rfl rfl rfl ?_
      refine L.move hF rfl rfl rfl ?_
      obtain ⟨h9, H⟩ := condG H
      refine L.rem hF rfl rfl rfl rfl (by simpa using h9) ?_
      refine L.assign hF rfl rfl rfl ?_
      refine L.nil ?_
      refine WpC.ret ?_
      cases H
      exact Leaves.ret rfl rfl rfl ⟨rfl, rfl⟩
/-! ### Fspec_l1Once -/
def Fspec_l1Once (k : Nat) (a1 : Int) (o0 : Tspec_l1Cur) : Option (Bool × Tspec_l1Cur) := (Fspec_l1Below k a1 o0).bind fun r1 => some ((r1.1 == (0 : Int)), r1.2)
theorem ent98 : Enters Try.prog 98 := ⟨Try.f98, Try.func98, rfl, by decide⟩
set_option maxHeartbeats 8000000 in
set_option maxRecDepth 100000 in
theorem Fspec_l1Once_gives (k : Nat) (a1 : Int) (o0 : Tspec_l1Cur) (r : Bool × Tspec_l1Cur) (H : Fspec_l1Once k a1 o0 = some r) : Gives Try.prog 98 [V.one (Cell.ptr 0 0), V.one (cI a1)] [[Cell.sl true (List.map eB o0.b), cI o0.i, cI o0.h]] [V.one (cL r.1)] [[Cell.sl true (List.map eB r.2.b), cI r.2.i, cI r.2.h]] := by
  refine Gives.intro Try.func98 rfl rfl rfl rfl ?_
  intro F hF hm
  unfold Fspec_l1Once at H
  obtain ⟨K, hK⟩ : ∃ K, k ≤ K := ⟨k, Nat.le_refl k⟩
  refine WpC.seq ?_
  refine WpC.regionL ?_
  refine L.assign hF rfl rfl rfl ?_
  refine L.nil ?_
  refine WpC.seq ?_
  refine WpC.regionL ?_
  refine L.move hF rfl rfl rfl ?_
  refine L.move hF rfl rfl rfl ?_
  obtain ⟨r1, hr1, H⟩ := bindS H
  refine L.call [false, false] [] [0] 6 hF rfl rfl rfl ent97 rfl rfl rfl rfl rfl (Fspec_l1Below_gives k  a1 o0 r1 hr1) rfl ?_
  refine L.bin hF rfl rfl rfl rfl rfl rfl ?_
  refine L.assign hF rfl rfl rfl ?_
  refine L.nil ?_
  refine WpC.ret ?_
  cases H
  exact Leaves.ret rfl rfl rfl ⟨rfl, rfl⟩
/-! ### Fspec_l1PickInt -/
def Fspec_l1PickInt (k : Nat) (a1 : List Int) (o0 : Tspec_l1Cur) : Option (Int × Tspec_l1Cur) := (Fspec_l1Below k (a1.length : Int) o0).bind fun r1 => (at? a1 r1.1).bind fun b2 => some (b2, r1.2)
theorem ent105 : Enters Try.prog 105 := ⟨Try.f105, Try.func105, rfl, by decide⟩
set_option maxHeartbeats 8000000 in
set_option maxRecDepth 100000 in
theorem Fspec_l1PickInt_gives (k : Nat) (g0 : Bool) (a1 : List Int) (o0 : Tspec_l1Cur) (r : Int × Tspec_l1Cur) (H : Fspec_l1PickInt k a1 o0 = some r) : Gives Try.prog 105 [V.one (Cell.ptr 0 0), V.one (Cell.sl g0 (List.map eI a1))] [[Cell.sl true (List.map eB o0.b), cI o0.i, cI o0.h]] [V.one (cI r.1)] [[Cell.sl true (List.map eB r.2.b), cI r.2.i, cI r.2.h]] := by
  refine Gives.intro Try.func105 rfl rfl rfl rfl ?_
  intro F hF hm
  unfold Fspec_l1PickInt at H
  obtain ⟨K, hK⟩ : ∃ K, k ≤ K := ⟨k, Nat.le_refl k⟩
  refine WpC.seq ?_
  refine WpC.regionL ?_
  refine L.assign hF rfl rfl rfl ?_
  refine L.nil ?_
  refine WpC.seq ?_
  refine WpC.regionL ?_
  refine L.move hF rfl rfl rfl ?_
  refine L.move hF rfl rfl rfl ?_
  refine L.move hF rfl rfl rfl ?_
  refine L.lenR (xs := a1) (e := eI) Try.underlying77 hF rfl rfl rfl rfl ?_
  obtain ⟨r1, hr1, H⟩ := bindS H
  refine L.call [false, false] [] [0] 6 hF rfl rfl rfl ent97 rfl rfl rfl rfl rfl (Fspec_l1Below_gives k  (a1.length : Int) o0 r1 hr1) rfl ?_
  obtain ⟨b2, hb2, H⟩ := bindS H
  refine L.idxR (xs := a1) (e := eI) Try.underlying77 info3 hF rfl rfl rfl rfl rfl hb2 rfl rfl ?_
  refine L.loadPe shape3 hF rfl rfl rfl rfl rfl ?_
  refine L.assign hF rfl rfl rfl ?_
  refine L.nil ?_
  refine WpC.ret ?_
  cases H
  exact Leaves.ret rfl rfl rfl ⟨rfl, rfl⟩
/-! ### Fspec_l15Flags -/
def Fspec_l15Flags (k : Nat) (o0 : Tspec_l1Cur) : Option (Int × Tspec_l1Cur) := (Fspec_l1Once k (15 : Int) o0).bind fun r3 => cond r3.1 ((Fspec_l1PickInt k ([(-1 : Int), (256 : Int), (1000 : Int)] : List Int) r3.2).bind fun r4 => some (r4.1, r4.2)) ((Fspec_l1Below k (256 : Int) r3.2).bind fun r5 => some (r5.1, r5.2))
theorem ent96 : Enters Try.prog 96 := ⟨Try.f96, Try.func96, rfl, by decide⟩
set_option maxHeartbeats 8000000 in
set_option maxRecDepth 100000 in
theorem Fspec_l15Flags_gives (k : Nat) (o0 : Tspec_l1Cur) (r : Int × Tspec_l1Cur) (H : Fspec_l15Flags k o0 = some r) : Gives Try.prog 96 [V.one (Cell.ptr 0 0)] [[Cell.sl true (List.map eB o0.b), cI o0.i, cI o0.h]] [V.one (cI r.1)] [[Cell.sl true (List.map eB r.2.b), cI r.2.i, cI r.2.h]] := by
  refine Gives.intro Try.func96 rfl rfl rfl rfl ?_
  intro F hF hm
  unfold Fspec_l15Flags at H
  obtain ⟨K, hK⟩ : ∃ K, k ≤ K := ⟨k, Nat.le_refl k⟩
  refine WpC.seq ?_
  refine WpC.regionL ?_
  refine L.assign hF rfl rfl rfl ?_
  refine L.nil ?_
  refine WpC.seq ?_
  refine WpC.seq ?_
  refine WpC.regionL ?_
  refine L.move hF rfl rfl rfl ?_
  obtain ⟨r3, hr3, H⟩ := bindS H
  refine L.call [false, false] [] [0] 5 hF rfl rfl rfl ent98 rfl rfl rfl rfl rfl (Fspec_l1Once_gives k  (15 : Int) o0 r3 hr3) rfl ?_
  refine L.nil ?_
  refine WpC.cond rfl (fun hc => ?_) (fun hc => ?_)
  · replace H := condT hc H
    refine WpC.seq ?_
    refine WpC.regionL ?_
    refine L.move hF rfl rfl rfl ?_
    refine L.buildSlice (e := eI) 9 ([(-1 : Int), (256 : Int), (1000 : Int)] : List Int) Try.underlying77 info3 rfl rfl rfl hF rfl rfl rfl rfl rfl rfl rfl rfl ?_
    obtain ⟨r4, hr4, H⟩ := bindS H
    refine L.call [false, false] [9] [0] 10 hF rfl rfl rfl ent105 rfl rfl rfl rfl rfl (Fspec_l1PickInt_gives k false ([(-1 : Int), (256 : Int), (1000 : Int)] : List Int) r3.2 r4 hr4) rfl ?_
    refine L.assign hF rfl rfl rfl ?_
    refine L.nil ?_
    refine WpC.ret ?_
    cases H
    exact Leaves.ret rfl rfl rfl ⟨rfl, rfl⟩
  · replace H := condF hc H
    refine WpC.skip ?_
    refine WpC.seq ?_
    refine WpC.regionL ?_
    refine L.move hF rfl rfl rfl ?_
    obtain ⟨r5, hr5, H⟩ := bindS H
    refine L.call [false, false] [] [0] 9 hF rfl rfl rfl ent97 rfl rfl rfl rfl rfl (Fspec_l1Below_gives k  (256 : Int) r3.2 r5 hr5) rfl ?_
    refine L.assign hF rfl rfl rfl ?_
    refine L.nil ?_
    refine WpC.ret ?_
    cases H
    exact Leaves.ret rfl rfl rfl ⟨rfl, rfl⟩
/-! ### Fspec_DrawDerive -/
def Fspec_DrawDerive.j2 (k : Nat) (v12 : Int) (v13 : Int) (v14 : List UInt8) (v15 : Int) (v16 : Int) : Option (Int × Int × Int) := (Fspec_l1Once k (8 : Int) (⟨v14, v15, v16⟩ : Tspec_l1Cur)).bind fun r19 => cond r19.1 ((Fspec_l15Flags k r19.2).bind fun r20 => some (v12, v13, r20.1)) ((Fspec_l1Below k (16 : Int) r19.2).bind fun r21 => some (v12, v13, r21.1))
def Fspec_DrawDerive.j3 (k : Nat) (v23 : Int) (v24 : Int) (v25 : Bool) (v26 : List UInt8) (v27 : Int) (v28 : Int) : Option (Int × Int × Int) := cond v25 (Fspec_DrawDerive.j2 k (Int.tmod v23 (16 : Int)) v24 v26 v27 v28) (Fspec_DrawDerive.j2 k v23 v24 v26 v27 v28)
def Fspec_DrawDerive (k : Nat) (a0 : List UInt8) : Option (Int × Int × Int) := (Fspec_l1New k a0).bind fun r1 => (Fspec_l15Flags k r1).bind fun r2 => (Fspec_l1Below k (8 : Int) r2.2).bind fun r3 => (Fspec_l1Once k (2 : Int) r3.2).bind fun r29 => cond r29.1 (Fspec_DrawDerive.j3 k r2.1 r3.1 (decide (r2.1 ≥ (0 : Int))) r29.2.b r29.2.i r29.2.h) (Fspec_DrawDerive.j3 k r2.1 r3.1 false r29.2.b r29.2.i r29.2.h)
theorem ent33 : Enters Try.prog 33 := ⟨Try.f33, Try.func33, rfl, by decide⟩
set_option maxHeartbeats 8000000 in
set_option maxRecDepth 100000 in
theorem Fspec_DrawDerive_gives (k : Nat) (a0 : List UInt8) (r : Int × Int × Int) (H : Fspec_DrawDerive k a0 = some r) : Gives Try.prog 33 [V.one (Cell.sl true (List.map eB a0))] [] [V.one (cI r.1), V.one (cI r.2.1), V.one (cI r.2.2)] [] := by
  refine Gives.intro Try.func33 rfl rfl rfl rfl ?_
  intro F hF hm
  unfold Fspec_DrawDerive at H
  obtain ⟨K, hK⟩ : ∃ K, k ≤ K := ⟨k, Nat.le_refl k⟩
  refine WpC.seq ?_
  refine WpC.regionL ?_
  refine L.assign hF rfl rfl rfl ?_
  refine L.assign hF rfl rfl rfl ?_
  refine L.assign hF rfl rfl rfl ?_
  refine L.nil ?_
  refine WpC.seq ?_
  refine WpC.regionL ?_
  refine L.move hF rfl rfl rfl ?_
  obtain ⟨r1, hr1, H⟩ := bindS H
  refine L.call [false] [] [] 1 hF rfl rfl rfl ent95 rfl rfl rfl rfl rfl (Fspec_l1New_gives k  a0 r1 hr1) rfl ?_
  refine L.assign hF rfl rfl rfl ?_
  refine L.nil ?_
  refine WpC.seq ?_
  refine WpC.regionL ?_
  refine L.move hF rfl rfl rfl ?_
  obtain ⟨r2, hr2, H⟩ := bindS H
  refine L.call [false] [] [1] 2 hF rfl rfl rfl ent96 rfl rfl rfl rfl rfl (Fspec_l15Flags_gives k  r1 r2 hr2) rfl ?_
  refine L.assign hF rfl rfl rfl ?_
  refine L.nil ?_
  refine WpC.seq ?_
  refine WpC.regionL ?_
  refine L.move hF rfl rfl rfl ?_
  obtain ⟨r3, hr3, H⟩ := bindS H
  refine L.call [false, false] [] [1] 6 hF rfl rfl rfl ent97 rfl rfl rfl rfl rfl (Fspec_l1Below_gives k  (8 : Int) r2.2 r3 hr3) rfl ?_
  refine L.assign hF rfl rfl rfl ?_
  refine L.nil ?_
  refine WpC.join (fun σ => ∃ kj2 : Nat, ∃ v12 : Int, ∃ v13 : Int, ∃ v14 : List UInt8, ∃ v15 : Int, ∃ v16 : Int, kj2 ≤ K ∧ Fspec_DrawDerive.j2 kj2 v12 v13 v14 v15 v16 = some r ∧ σ = mkSt [(5, one (Cell.ptr 0 0)), (6, one (cI v12)), (7, one (cI v13))] [] [(0, [Cell.sl true (List.map eB v14), cI v15, cI v16])] 1) ?_ ?_
  · rintro _ ⟨kj2, v12, v13, v14, v15, v16, hkj2, H, rfl⟩
    unfold Fspec_DrawDerive.j2 at H
    refine WpC.seq ?_
    refine WpC.seq ?_
    refine WpC.regionL ?_
    refine L.move hF rfl rfl rfl ?_
    obtain ⟨r19, hr19, H⟩ := bindS H
    refine L.call [false, false] [] [0] 1 hF rfl rfl rfl ent98 rfl rfl rfl rfl rfl (Fspec_l1Once_gives kj2  (8 : Int) (⟨v14, v15, v16⟩ : Tspec_l1Cur) r19 hr19) rfl ?_
    refine L.nil ?_
    refine WpC.cond rfl (fun hc => ?_) (fun hc => ?_)
    · replace H := condT hc H
      refine WpC.seq ?_
      refine WpC.regionL ?_
      refine L.move hF rfl rfl rfl ?_
      refine L.move hF rfl rfl rfl ?_
      refine L.move hF rfl rfl rfl ?_
      obtain ⟨r20, hr20, H⟩ := bindS H
      refine L.call [false] [] [0] 5 hF rfl rfl rfl ent96 rfl rfl rfl rfl rfl (Fspec_l15Flags_gives kj2  r19.2 r20 hr20) rfl ?_
      refine L.assign hF rfl rfl rfl ?_
      refine L.assign hF rfl rfl rfl ?_
      refine L.assign hF rfl rfl rfl ?_
      refine L.nil ?_
      refine WpC.ret ?_
      cases H
      exact Leaves.ret rfl rfl rfl ⟨rfl, rfl⟩
    · replace H := condF hc H
      refine WpC.skip ?_
      refine WpC.seq ?_
      refine WpC.regionL ?_
      refine L.move hF rfl rfl rfl ?_
      refine L.move hF rfl rfl rfl ?_
      refine L.move hF rfl rfl rfl ?_
      obtain ⟨r21, hr21, H⟩ := bindS H
      refine L.call [false, false] [] [0] 5 hF rfl rfl rfl ent97 rfl rfl rfl rfl rfl (Fspec_l1Below_gives kj2  (16 : Int) r19.2 r21 hr21) rfl ?_
      refine L.assign hF rfl rfl rfl ?_
      refine L.assign hF rfl rfl rfl ?_
      refine L.assign hF rfl rfl rfl ?_
      refine L.nil ?_
      refine WpC.ret ?_
      cases H
      exact Leaves.ret rfl rfl rfl ⟨rfl, rfl⟩
  · refine WpC.join (fun σ => ∃ kj3 : Nat, ∃ v23 : Int, ∃ v24 : Int, ∃ v25 : Bool, ∃ v26 : List UInt8, ∃ v27 : Int, ∃ v28 : Int, kj3 ≤ K ∧ Fspec_DrawDerive.j3 kj3 v23 v24 v25 v26 v27 v28 = some r ∧ σ = mkSt [(5, one (Cell.ptr 0 0)), (6, one (cI v23)), (7, one (cI v24)), (19, one (cL v25))] [] [(0, [Cell.sl true (List.map eB v26), cI v27, cI v28])] 1) ?_ ?_
    · rintro _ ⟨kj3, v23, v24, v25, v26, v27, v28, hkj3, H, rfl⟩
      unfold Fspec_DrawDerive.j3 at H
      refine WpC.cond rfl (fun hc => ?_) (fun hc => ?_)
      · replace H := condT hc H
        refine WpC.regionL ?_
        refine L.move hF rfl rfl rfl ?_
        refine L.rem hF rfl rfl rfl rfl (by decide) ?_
        refine L.assign hF rfl rfl rfl ?_
        refine L.nil ?_
        exact ⟨_, ⟨kj3, (Int.tmod v23 (16 : Int)), v24, v26, v27, v28, by omega, H, rfl⟩, Le.mk [(0, 0)] hm rfl ⟨⟨_, rfl, rfl⟩, ⟨_, rfl, rfl⟩, ⟨_, rfl, rfl⟩, trivial⟩ trivial ⟨⟨_, _, rfl, rfl, rfl⟩, trivial⟩⟩
      · replace H := condF hc H
        refine WpC.skip ?_
        exact ⟨_, ⟨kj3, v23, v24, v26, v27, v28, by omega, H, rfl⟩, Le.mk [(0, 0)] hm rfl ⟨⟨_, rfl, rfl⟩, ⟨_, rfl, rfl⟩, ⟨_, rfl, rfl⟩, trivial⟩ trivial ⟨⟨_, _, rfl, rfl, rfl⟩, trivial⟩⟩
    · refine WpC.regionL ?_
      refine L.move hF rfl rfl rfl ?_
      obtain ⟨r29, hr29, H⟩ := bindS H
      refine L.call [false, false] [] [1] 10 hF rfl rfl rfl ent98 rfl rfl rfl rfl rfl (Fspec_l1Once_gives k  (2 : Int) r3.2 r29 hr29) rfl ?_
      refine L.move hF rfl rfl rfl ?_
      refine L.split (fun hc => ?_) (fun hc => ?_)
      · replace H := condT hc H
        refine L.move hF rfl rfl rfl ?_
        refine L.bin hF rfl rfl rfl rfl rfl rfl ?_
        refine L.pick hF rfl rfl rfl rfl ?_
        refine L.nil ?_
        exact ⟨_, ⟨k, r2.1, r3.1, (decide (r2.1 ≥ (0 : Int))), r29.2.b, r29.2.i, r29.2.h, by omega, H, rfl⟩, Le.mk [(0, 1)] hm rfl ⟨⟨_, rfl, rfl⟩, ⟨_, rfl, rfl⟩, ⟨_, rfl, rfl⟩, ⟨_, rfl, rfl⟩, trivial⟩ trivial ⟨⟨_, _, rfl, rfl, rfl⟩, trivial⟩⟩
      · replace H := condF hc H
        refine L.off hF rfl rfl ?_
        refine L.off hF rfl rfl ?_
        refine L.pick hF rfl rfl rfl rfl ?_
        refine L.nil ?_
        exact ⟨_, ⟨k, r2.1, r3.1, false, r29.2.b, r29.2.i, r29.2.h, by omega, H, rfl⟩, Le.mk [(0, 1)] hm rfl ⟨⟨_, rfl, rfl⟩, ⟨_, rfl, rfl⟩, ⟨_, rfl, rfl⟩, ⟨_, rfl, rfl⟩, trivial⟩ trivial ⟨⟨_, _, rfl, rfl, rfl⟩, trivial⟩⟩
/-! ### Fimpl_within -/
def Fimpl_within (k : Nat) (a0 : Int) (a1 : Int) (a2 : Int) : Option Bool := cond (decide (a0 ≥ a1)) (some (decide (a0 ≤ a2))) (some false)
theorem ent93 : Enters Try.prog 93 := ⟨Try.f93, Try.func93, rfl, by decide⟩
set_option maxHeartbeats 8000000 in
set_option maxRecDepth 100000 in
theorem Fimpl_within_gives (k : Nat) (a0 : Int) (a1 : Int) (a2 : Int) (r : Bool) (H : Fimpl_within k a0 a1 a2 = some r) : Gives Try.prog 93 [V.one (cI a0), V.one (cI a1), V.one (cI a2)] [] [V.one (cL r)] [] := by
  refine Gives.intro Try.func93 rfl rfl rfl rfl ?_
  intro F hF hm
  unfold Fimpl_within at H
  obtain ⟨K, hK⟩ : ∃ K, k ≤ K := ⟨k, Nat.le_refl k⟩
  refine WpC.seq ?_
  refine WpC.regionL ?_
  refine L.assign hF rfl rfl rfl ?_
  refine L.nil ?_
  refine WpC.seq ?_
  refine WpC.regionL ?_
  refine L.move hF rfl rfl rfl ?_
  refine L.move hF rfl rfl rfl ?_
  refine L.bin hF rfl rfl rfl rfl rfl rfl ?_
  refine L.move hF rfl rfl rfl ?_
  refine L.split (fun hc => ?_) (fun hc => ?_)
  · replace H := condT hc H
    refine L.move hF rfl rfl rfl ?_
    refine L.move hF rfl rfl rfl ?_
    refine L.bin hF rfl rfl rfl rfl rfl rfl ?_
    refine L.pick hF rfl rfl rfl rfl ?_
    refine L.assign hF rfl rfl rfl ?_
    refine L.nil ?_
    refine WpC.ret ?_
    cases H
    exact Leaves.ret rfl rfl rfl ⟨rfl, rfl⟩
  · replace H := condF hc H
    refine L.off hF rfl rfl ?_
    refine L.off hF rfl rfl ?_
    refine L.off hF rfl rfl ?_
    refine L.pick hF rfl rfl rfl rfl ?_
    refine L.assign hF rfl rfl rfl ?_
    refine L.nil ?_
    refine WpC.ret ?_
    cases H
    exact Leaves.ret rfl rfl rfl ⟨rfl, rfl⟩
/-! ### Fimpl_FlagsOk -/
def Fimpl_FlagsOk (k : Nat) (a0 : Int) : Option Bool := (Fimpl_within k a0 (0 : Int) (255 : Int)).bind fun r1 => some r1
theorem ent43 : Enters Try.prog 43 := ⟨Try.f43, Try.func43, rfl, by decide⟩
set_option maxHeartbeats 8000000 in
set_option maxRecDepth 100000 in
theorem Fimpl_FlagsOk_gives (k : Nat) (a0 : Int) (r : Bool) (H : Fimpl_FlagsOk k a0 = some r) : Gives Try.prog 43 [V.one (cI a0)] [] [V.one (cL r)] [] := by
  refine Gives.intro Try.func43 rfl rfl rfl rfl ?_
  intro F hF hm
  unfold Fimpl_FlagsOk at H
  obtain ⟨K, hK⟩ : ∃ K, k ≤ K := ⟨k, Nat.le_refl k⟩
  refine WpC.seq ?_
  refine WpC.regionL ?_
  refine L.assign hF rfl rfl rfl ?_
  refine L.nil ?_
  refine WpC.seq ?_
  refine WpC.regionL ?_
  refine L.move hF rfl rfl rfl ?_
  obtain ⟨r1, hr1, H⟩ := bindS H
  refine L.call [false, false, false] [] [] 1 hF rfl rfl rfl ent93 rfl rfl rfl rfl rfl (Fimpl_within_gives k  a0 (0 : Int) (255 : Int) r1 hr1) rfl ?_
  refine L.assign hF rfl rfl rfl ?_
  refine L.nil ?_
  refine WpC.ret ?_
  cases H
  exact Leaves.ret rfl rfl rfl ⟨rfl, rfl⟩
/-! ### Fimpl_needed -/
def Fimpl_needed (k : Nat) (a0 : Int) : Option Int := cond (a0 == (2 : Int)) (some (1 : Int)) (cond (a0 == (3 : Int)) (some (2 : Int)) (cond (a0 == (4 : Int)) (some (4 : Int)) (cond (a0 == (5 : Int)) (some (8 : Int)) (cond (a0 == (6 : Int)) (some (16 : Int)) (some (0 : Int))))))
theorem ent99 : Enters Try.prog 99 := ⟨Try.f99, Try.func99, rfl, by decide⟩
set_option maxHeartbeats 8000000 in
set_option maxRecDepth 100000 in
theorem Fimpl_needed_gives (k : Nat) (a0 : Int) (r : Int) (H : Fimpl_needed k a0 = some r) : Gives Try.prog 99 [V.one (cI a0)] [] [V.one (cI r)] [] := by
  refine Gives.intro Try.func99 rfl rfl rfl rfl ?_
  intro F hF hm
  unfold Fimpl_needed at H
  obtain ⟨K, hK⟩ : ∃ K, k ≤ K := ⟨k, Nat.le_refl k⟩
  refine WpC.seq ?_
  refine WpC.regionL ?_
  refine L.assign hF rfl rfl rfl ?_
  refine L.nil ?_
  refine WpC.seq ?_
  refine WpC.seq ?_
  refine WpC.regionL ?_
  refine L.move hF rfl rfl rfl ?_
  refine L.nil ?_
  refine WpC.block ?_
  refine WpC.seq ?_
  refine WpC.regionL ?_
  refine L.bin hF rfl rfl rfl rfl rfl rfl ?_
  refine L.assign hF rfl rfl rfl ?_
  refine L.nil ?_
  refine WpC.cond rfl (fun hc => ?_) (fun hc => ?_)
  · replace H := condT hc H
    refine WpC.seq ?_
    refine WpC.regionL ?_
    refine L.assign hF rfl rfl rfl ?_
    refine L.nil ?_
    refine WpC.ret ?_
    cases H
    exact Leaves.ret rfl rfl rfl ⟨rfl, rfl⟩
  · replace H := condF hc H
    refine WpC.seq ?_
    refine WpC.regionL ?_
    refine L.bin hF rfl rfl rfl rfl rfl rfl ?_
    refine L.assign hF rfl rfl rfl ?_
    refine L.nil ?_
    refine WpC.cond rfl (fun hc => ?_) (fun hc => ?_)
    · replace H := condT hc H
      refine WpC.seq ?_
      refine WpC.regionL ?_
      refine L.assign hF rfl rfl rfl ?_
      refine L.nil ?_
      refine WpC.ret ?_
      cases H
      exact Leaves.ret rfl rfl rfl ⟨rfl, rfl⟩
    · replace H := condF hc H
      refine WpC.seq ?_
      refine WpC.regionL ?_
      refine L.bin hF rfl rfl rfl rfl rfl rfl ?_
      refine L.assign hF rfl rfl rfl ?_
      refine L.nil ?_
      refine WpC.cond rfl (fun hc => ?_) (fun hc => ?_)
      · replace H := condT hc H
        refine WpC.seq ?_
        refine WpC.regionL ?_
        refine L.assign hF rfl rfl rfl ?_
        refine L.nil ?_
        refine WpC.ret ?_
        cases H
        exact Leaves.ret rfl rfl rfl ⟨rfl, rfl⟩
      · replace H := condF hc H
        refine WpC.seq ?_
        refine WpC.regionL ?_
        refine L.bin hF rfl rfl rfl rfl rfl rfl ?_
        refine L.assign hF rfl rfl rfl ?_
        refine L.nil ?_
        refine WpC.cond rfl (fun hc => ?_) (fun hc => ?_)
        · replace H := condT hc H
          refine WpC.seq ?_
          refine WpC.regionL ?_
          refine L.assign hF rfl rfl rfl ?_
          refine L.nil ?_
          refine WpC.ret ?_
          cases H
          exact Leaves.ret rfl rfl rfl ⟨rfl, rfl⟩
        · replace H := condF hc H
          refine WpC.seq ?_
          refine WpC.regionL ?_
          refine L.bin hF rfl rfl rfl rfl rfl rfl ?_
          refine L.assign hF rfl rfl rfl ?_
          refine L.nil ?_
          refine WpC.cond rfl (fun hc => ?_) (fun hc => ?_)
          · replace H := condT hc H
            refine WpC.seq ?_
            refine WpC.regionL ?_
            refine L.assign hF rfl rfl rfl ?_
            refine L.nil ?_
            refine WpC.ret ?_
            cases H
            exact Leaves.ret rfl rfl rfl ⟨rfl, rfl⟩
          · replace H := condF hc H
            refine WpC.skip ?_
            refine WpC.seq ?_
            refine WpC.regionL ?_
            refine L.assign hF rfl rfl rfl ?_
            refine L.nil ?_
            refine WpC.ret ?_
            cases H
            exact Leaves.ret rfl rfl rfl ⟨rfl, rfl⟩
/-! ### Fimpl_Derive -/
def Fimpl_Derive.j3 (k : Nat) (v25 : Int) (v26 : Int) (v27 : Int) : Option (Int × Bool) := some ((Go.bits .or .i64 v27 (Go.bits .and .i64 (Go.bits .and .i64 v26 v25) (15 : Int))), true)
def Fimpl_Derive.j4 (k : Nat) (v28 : Int) (v29 : Int) (v30 : Int) (v31 : Int) (v32 : Bool) : Option (Int × Bool) := cond v32 (some ((Go.bits .or .i64 v30 (Go.bits .and .i64 v28 (15 : Int))), true)) (cond (v31 == (2 : Int)) (Fimpl_Derive.j3 k v28 v29 (Go.bits .or .i64 v30 (64 : Int))) (cond (v31 == (3 : Int)) (Fimpl_Derive.j3 k v28 v29 (Go.bits .or .i64 v30 (128 : Int))) (cond (v31 == (5 : Int)) (Fimpl_Derive.j3 k v28 v29 (Go.bits .or .i64 v30 (16 : Int))) (Fimpl_Derive.j3 k v28 v29 v30))))
def Fimpl_Derive.j1 (k : Nat) (v17 : Int) (v18 : Int) (v19 : Int) : Option (Int × Bool) := cond (v18 == (4 : Int)) (Fimpl_Derive.j4 k v17 v19 (Go.bits .and .i64 v17 (192 : Int)) v18 (v18 == (4 : Int))) (Fimpl_Derive.j4 k v17 v19 (Go.bits .and .i64 v17 (192 : Int)) v18 (v18 == (6 : Int)))
def Fimpl_Derive (k : Nat) (a0 : Int) (a1 : Int) (a2 : Int) : Option (Int × Bool) := (Fimpl_FlagsOk k a0).bind fun r10 => cond (!r10) (some ((0 : Int), false)) ((Fimpl_within k a1 (1 : Int) (6 : Int)).bind fun r11 => cond (!r11) (some ((0 : Int), false)) ((Fimpl_FlagsOk k a2).bind fun r12 => cond (!r12) (some ((0 : Int), false)) (cond ((Go.bits .andNot .i64 a2 (15 : Int)) != (0 : Int)) (some ((0 : Int), false)) ((Fimpl_needed k a1).bind fun r35 => (Fimpl_needed k a1).bind fun r36 => cond ((Go.bits .and .i64 a0 r35) != r36) (some ((0 : Int), false)) (cond (a1 != (6 : Int)) (cond ((Go.bits .and .i64 a0 (16 : Int)) != (0 : Int)) (some ((0 : Int), false)) (Fimpl_Derive.j1 k a0 a1 a2)) (Fimpl_Derive.j1 k a0 a1 a2))))))
theorem ent34 : Enters Try.prog 34 := ⟨Try.f34, Try.func34, rfl, by decide⟩
set_option maxHeartbeats 8000000 in
set_option maxRecDepth 100000 in
theorem Fimpl_Derive_gives (k : Nat) (a0 : Int) (a1 : Int) (a2 : Int) (r : Int × Bool) (H : Fimpl_Derive k a0 a1 a2 = some r) : Gives Try.prog 34 [V.one (cI a0), V.one (cI a1), V.one (cI a2)] [] [V.one (cI r.1), V.one (cL r.2)] [] := by
  refine Gives.intro Try.func34 rfl rfl rfl rfl ?_
  intro F hF hm
  unfold Fimpl_Derive at H
  obtain ⟨K, hK⟩ : ∃ K, k ≤ K := ⟨k, Nat.le_refl k⟩
  refine WpC.seq ?_
  refine WpC.regionL ?_
  refine L.assign hF rfl rfl rfl ?_
  refine L.assign hF rfl rfl rfl ?_
  refine L.nil ?_
  refine WpC.seq ?_
  refine WpC.seq ?_
  refine WpC.regionL ?_
  refine L.move hF rfl rfl rfl ?_
  obtain ⟨r10, hr10, H⟩ := bindS H
  refine L.call [false] [] [] 3 hF rfl rfl rfl ent43 rfl rfl rfl rfl rfl (Fimpl_FlagsOk_gives k  a0 r10 hr10) rfl ?_
  refine L.not hF rfl rfl rfl ?_
  refine L.move hF rfl rfl rfl ?_
  refine L.split (fun hc => ?_) (fun hc => ?_)
  · replace H := condT hc H
    refine L.off hF rfl rfl ?_
    refine L.off hF rfl rfl ?_
    refine L.off hF rfl rfl ?_
    refine L.pick hF rfl rfl rfl rfl ?_
    refine L.move hF rfl rfl rfl ?_
    refine L.off hF rfl rfl ?_
    refine L.off hF rfl rfl ?_
    refine L.off hF rfl rfl ?_
    refine L.pick hF rfl rfl rfl rfl ?_
    refine L.move hF rfl rfl rfl ?_
    refine L.off hF rfl rfl ?_
    refine L.off hF rfl rfl ?_
    refine L.off hF rfl rfl ?_
    refine L.pick hF rfl rfl rfl rfl ?_
    refine L.nil ?_
    refine WpC.cond rfl (fun _ => ?_) (fun hc => by cases hc)
    refine WpC.seq ?_
    refine WpC.regionL ?_
    refine L.assign hF rfl rfl rfl ?_
    refine L.assign hF rfl rfl rfl ?_
    refine L.nil ?_
    refine WpC.ret ?_
    cases H
    exact Leaves.ret rfl rfl rfl ⟨rfl, rfl⟩
  · replace H := condF hc H
    refine L.move hF rfl rfl rfl ?_
    obtain ⟨r11, hr11, H⟩ := bindS H
    refine L.call [false, false, false] [] [] 4 hF rfl rfl rfl ent93 rfl rfl rfl rfl rfl (Fimpl_within_gives k  a1 (1 : Int) (6 : Int) r11 hr11) rfl ?_
    refine L.not hF rfl rfl rfl ?_
    refine L.pick hF rfl rfl rfl rfl ?_
    refine L.move hF rfl rfl rfl ?_
    refine L.split (fun hc => ?_) (fun hc => ?_)
    · replace H := condT hc H
      refine L.off hF rfl rfl ?_
      refine L.off hF rfl rfl ?_
      refine L.off hF rfl rfl ?_
      refine L.pick hF rfl rfl rfl rfl ?_
      refine L.move hF rfl rfl rfl ?_
      refine L.off hF rfl rfl ?_
      refine L.off hF rfl rfl ?_
      refine L.off hF rfl rfl ?_
      refine L.pick hF rfl rfl rfl rfl ?_
      refine L.nil ?_
      refine WpC.cond rfl (fun _ => ?_) (fun hc => by cases hc)
      refine WpC.seq ?_
      refine WpC.regionL ?_
      refine L.assign hF rfl rfl rfl ?_
      refine L.assign hF rfl rfl rfl ?_
      refine L.nil ?_
      refine WpC.ret ?_
      cases H
      exact Leaves.ret rfl rfl rfl ⟨rfl, rfl⟩
    · replace H := condF hc H
      refine L.move hF rfl rfl rfl ?_
      obtain ⟨r12, hr12, H⟩ := bindS H
      refine L.call [false] [] [] 5 hF rfl rfl rfl ent43 rfl rfl rfl rfl rfl (Fimpl_FlagsOk_gives k  a2 r12 hr12) rfl ?_
      refine L.not hF rfl rfl rfl ?_
      refine L.pick hF rfl rfl rfl rfl ?_
      refine L.move hF rfl rfl rfl ?_
      refine L.split (fun hc => ?_) (fun hc => ?_)
      · replace H := condT hc H
        refine L.off hF rfl rfl ?_
        refine L.off hF rfl rfl ?_
        refine L.off hF rfl rfl ?_
        refine L.pick hF rfl rfl rfl rfl ?_
        refine L.nil ?_
        refine WpC.cond rfl (fun _ => ?_) (fun hc => by cases hc)
        refine WpC.seq ?_
        refine WpC.regionL ?_
        refine L.assign hF rfl rfl rfl ?_
        refine L.assign hF rfl rfl rfl ?_
        refine L.nil ?_
        refine WpC.ret ?_
        cases H
        exact Leaves.ret rfl rfl rfl ⟨rfl, rfl⟩
      · replace H := condF hc H
        refine L.move hF rfl rfl rfl ?_
        refine L.bin hF rfl rfl rfl rfl rfl rfl ?_
        refine L.bin hF rfl rfl rfl rfl rfl rfl ?_
        refine L.pick hF rfl rfl rfl rfl ?_
        refine L.nil ?_
        refine WpC.cond rfl (fun hc => ?_) (fun hc => ?_)
        · replace H := condT hc H
          refine WpC.seq ?_
          refine WpC.regionL ?_
          refine L.assign hF rfl rfl rfl ?_
          refine L.assign hF rfl rfl rfl ?_
          refine L.nil ?_
          refine WpC.ret ?_
          cases H
          exact Leaves.ret rfl rfl rfl ⟨rfl, rfl⟩
        · replace H := condF hc H
          refine WpC.skip ?_
          refine WpC.join (fun σ => ∃ kj1 : Nat, ∃ v17 : Int, ∃ v18 : Int, ∃ v19 : Int, kj1 ≤ K ∧ Fimpl_Derive.j1 kj1 v17 v18 v19 = some r ∧ σ = mkSt [(0, one (cI v17)), (1, one (cI v18)), (2, one (cI v19))] [] [] 0) ?_ ?_
          · rintro _ ⟨kj1, v17, v18, v19, hkj1, H, rfl⟩
            unfold Fimpl_Derive.j1 at H
            refine WpC.seq ?_
            refine WpC.regionL ?_
            refine L.move hF rfl rfl rfl ?_
            refine L.bin hF rfl rfl rfl rfl rfl rfl ?_
            refine L.assign hF rfl rfl rfl ?_
            refine L.nil ?_
            refine WpC.join (fun σ => ∃ kj3 : Nat, ∃ v25 : Int, ∃ v26 : Int, ∃ v27 : Int, kj3 ≤ K ∧ Fimpl_Derive.j3 kj3 v25 v26 v27 = some r ∧ σ = mkSt [(0, one (cI v25)), (2, one (cI v26)), (8, one (cI v27))] [] [] 0) ?_ ?_
            · rintro _ ⟨kj3, v25, v26, v27, hkj3, H, rfl⟩
              unfold Fimpl_Derive.j3 at H
              refine WpC.seq ?_
              refine WpC.regionL ?_
              refine L.move hF rfl rfl rfl ?_
              refine L.move hF rfl rfl rfl ?_
              refine L.move hF rfl rfl rfl ?_
              refine L.bin hF rfl rfl rfl rfl rfl rfl ?_
              refine L.bin hF rfl rfl rfl rfl rfl rfl ?_
              refine L.bin hF rfl rfl rfl rfl rfl rfl ?_
              refine L.assign hF rfl rfl rfl ?_
              refine L.assign hF rfl rfl rfl ?_
              refine L.nil ?_
              refine WpC.ret ?_
              cases H
              exact Leaves.ret rfl rfl rfl ⟨rfl, rfl⟩
            · refine WpC.seq ?_
              refine WpC.regionL ?_
              refine L.move hF rfl rfl rfl ?_
              refine L.nil ?_
              refine WpC.block ?_
              refine WpC.join (fun σ => ∃ kj4 : Nat, ∃ v28 : Int, ∃ v29 : Int, ∃ v30 : Int, ∃ v31 : Int, ∃ v32 : Bool, kj4 ≤ K ∧ Fimpl_Derive.j4 kj4 v28 v29 v30 v31 v32 = some r ∧ σ = mkSt [(0, one (cI v28)), (2, one (cI v29)), (8, one (cI v30)), (45, one (cI v31)), (46, one (cL v32))] [] [] 0) ?_ ?_
              · rintro _ ⟨kj4, v28, v29, v30, v31, v32, hkj4, H, rfl⟩
                unfold Fimpl_Derive.j4 at H
                refine WpC.cond rfl (fun hc => ?_) (fun hc => ?_)
                · replace H := condT hc H
                  refine WpC.seq ?_
                  refine WpC.regionL ?_
                  refine L.move hF rfl rfl rfl ?_
                  refine L.move hF rfl rfl rfl ?_
                  refine L.bin hF rfl rfl rfl rfl rfl rfl ?_
                  refine L.bin hF rfl rfl rfl rfl rfl rfl ?_
                  refine L.assign hF rfl rfl rfl ?_
                  refine L.assign hF rfl rfl rfl ?_
                  refine L.nil ?_
                  refine WpC.ret ?_
                  cases H
                  exact Leaves.ret rfl rfl rfl ⟨rfl, rfl⟩
                · replace H := condF hc H
                  refine WpC.seq ?_
                  refine WpC.regionL ?_
                  refine L.bin hF rfl rfl rfl rfl rfl rfl ?_
                  refine L.assign hF rfl rfl rfl ?_
                  refine L.nil ?_
                  refine WpC.cond rfl (fun hc => ?_) (fun hc => ?_)
                  · replace H := condT hc H
                    refine WpC.regionL ?_
                    refine L.move hF rfl rfl rfl ?_
                    refine L.bin hF rfl rfl rfl rfl rfl rfl ?_
                    refine L.assign hF rfl rfl rfl ?_
                    refine L.nil ?_
                    exact ⟨_, ⟨kj4, v28, v29, (Go.bits .or .i64 v30 (64 : Int)), by omega, H, rfl⟩, Le.mk [] hm rfl ⟨⟨_, rfl, rfl⟩, ⟨_, rfl, rfl⟩, ⟨_, rfl, rfl⟩, trivial⟩ trivial trivial⟩
                  · replace H := condF hc H
                    refine WpC.seq ?_
                    refine WpC.regionL ?_
                    refine L.bin hF rfl rfl rfl rfl rfl rfl ?_
                    refine L.assign hF rfl rfl rfl ?_
                    refine L.nil ?_
                    refine WpC.cond rfl (fun hc => ?_) (fun hc => ?_)
                    · replace H := condT hc H
                      refine WpC.regionL ?_
                      refine L.move hF rfl rfl rfl ?_
                      refine L.bin hF rfl rfl rfl rfl rfl rfl ?_
                      refine L.assign hF rfl rfl rfl ?_
                      refine L.nil ?_
                      exact ⟨_, ⟨kj4, v28, v29, (Go.bits .or .i64 v30 (128 : Int)), by omega, H, rfl⟩, Le.mk [] hm rfl ⟨⟨_, rfl, rfl⟩, ⟨_, rfl, rfl⟩, ⟨_, rfl, rfl⟩, trivial⟩ trivial trivial⟩
                    · replace H := condF hc H
                      refine WpC.seq ?_
                      refine WpC.regionL ?_
                      refine L.bin hF rfl rfl rfl rfl rfl rfl ?_
                      refine L.assign hF rfl rfl rfl ?_
                      refine L.nil ?_
                      refine WpC.cond rfl (fun hc => ?_) (fun hc => ?_)
                      · replace H := condT hc H
                        refine WpC.regionL ?_
                        refine L.move hF rfl rfl rfl ?_
                        refine L.bin hF rfl rfl rfl rfl rfl rfl ?_
                        refine L.assign hF rfl rfl rfl ?_
                        refine L.nil ?_
                        exact ⟨_, ⟨kj4, v28, v29, (Go.bits .or .i64 v30 (16 : Int)), by omega, H, rfl⟩, Le.mk [] hm rfl ⟨⟨_, rfl, rfl⟩, ⟨_, rfl, rfl⟩, ⟨_, rfl, rfl⟩, trivial⟩ trivial trivial⟩
                      · replace H := condF hc H
                        refine WpC.skip ?_
                        exact ⟨_, ⟨kj4, v28, v29, v30, by omega, H, rfl⟩, Le.mk [] hm rfl ⟨⟨_, rfl, rfl⟩, ⟨_, rfl, rfl⟩, ⟨_, rfl, rfl⟩, trivial⟩ trivial trivial⟩
              · refine WpC.seq ?_
                refine WpC.regionL ?_
                refine L.bin hF rfl rfl rfl rfl rfl rfl ?_
                refine L.assign hF rfl rfl rfl ?_
                refine L.nil ?_
                refine WpC.cond rfl (fun hc => ?_) (fun hc => ?_)
                · replace H := condT hc H
                  refine WpC.skip ?_
                  exact ⟨_, ⟨kj1, v17, v19, (Go.bits .and .i64 v17 (192 : Int)), v18, (v18 == (4 : Int)), by omega, H, rfl⟩, Le.mk [] hm rfl ⟨⟨_, rfl, rfl⟩, ⟨_, rfl, rfl⟩, ⟨_, rfl, rfl⟩, ⟨_, rfl, rfl⟩, ⟨_, rfl, rfl⟩, trivial⟩ trivial trivial⟩
                · replace H := condF hc H
                  refine WpC.regionL ?_
                  refine L.bin hF rfl rfl rfl rfl rfl rfl ?_
                  refine L.assign hF rfl rfl rfl ?_
                  refine L.nil ?_
                  exact ⟨_, ⟨kj1, v17, v19, (Go.bits .and .i64 v17 (192 : Int)), v18, (v18 == (6 : Int)), by omega, H, rfl⟩, Le.mk [] hm rfl ⟨⟨_, rfl, rfl⟩, ⟨_, rfl, rfl⟩, ⟨_, rfl, rfl⟩, ⟨_, rfl, rfl⟩, ⟨_, rfl, rfl⟩, trivial⟩ trivial trivial⟩
          · refine WpC.seq ?_
            refine WpC.regionL ?_
            refine L.move hF rfl rfl rfl ?_
            refine L.move hF rfl rfl rfl ?_
            obtain ⟨r35, hr35, H⟩ := bindS H
            refine L.call [false] [] [] 6 hF rfl rfl rfl ent99 rfl rfl rfl rfl rfl (Fimpl_needed_gives k  a1 r35 hr35) rfl ?_
            refine L.bin hF rfl rfl rfl rfl rfl rfl ?_
            refine L.move hF rfl rfl rfl ?_
            obtain ⟨r36, hr36, H⟩ := bindS H
            refine L.call [false] [] [] 7 hF rfl rfl rfl ent99 rfl rfl rfl rfl rfl (Fimpl_needed_gives k  a1 r36 hr36) rfl ?_
            refine L.bin hF rfl rfl rfl rfl rfl rfl ?_
            refine L.move hF rfl rfl rfl ?_
            refine L.split (fun hc => ?_) (fun hc => ?_)
            · replace H := condT hc H
              refine L.off hF rfl rfl ?_
              refine L.off hF rfl rfl ?_
              refine L.off hF rfl rfl ?_
              refine L.off hF rfl rfl ?_
              refine L.off hF rfl rfl ?_
              refine L.off hF rfl rfl ?_
              refine L.off hF rfl rfl ?_
              refine L.pick hF rfl rfl rfl rfl ?_
              refine L.nil ?_
              refine WpC.cond rfl (fun _ => ?_) (fun hc => by cases hc)
              refine WpC.seq ?_
              refine WpC.regionL ?_
              refine L.assign hF rfl rfl rfl ?_
              refine L.assign hF rfl rfl rfl ?_
              refine L.nil ?_
              refine WpC.ret ?_
              cases H
              exact Leaves.ret rfl rfl rfl ⟨rfl, rfl⟩
            · replace H := condF hc H
              refine L.move hF rfl rfl rfl ?_
              refine L.bin hF rfl rfl rfl rfl rfl rfl ?_
              refine L.move hF rfl rfl rfl ?_
              refine L.split (fun hc => ?_) (fun hc => ?_)
              · replace H := condT hc H
                refine L.move hF rfl rfl rfl ?_
                refine L.bin hF rfl rfl rfl rfl rfl rfl ?_
                refine L.bin hF rfl rfl rfl rfl rfl rfl ?_
                refine L.pick hF rfl rfl rfl rfl ?_
                refine L.pick hF rfl rfl rfl rfl ?_
                refine L.nil ?_
                refine WpC.cond rfl (fun hc => ?_) (fun hc => ?_)
                · replace H := condT hc H
                  refine WpC.seq ?_
                  refine WpC.regionL ?_
                  refine L.assign hF rfl rfl rfl ?_
                  refine L.assign hF rfl rfl rfl ?_
                  refine L.nil ?_
                  refine WpC.ret ?_
                  cases H
                  exact Leaves.ret rfl rfl rfl ⟨rfl, rfl⟩
                · replace H := condF hc H
                  refine WpC.skip ?_
                  exact ⟨_, ⟨k, a0, a1, a2, by omega, H, rfl⟩, Le.mk [] hm rfl ⟨⟨_, rfl, rfl⟩, ⟨_, rfl, rfl⟩, ⟨_, rfl, rfl⟩, trivial⟩ trivial trivial⟩
              · replace H := condF hc H
                refine L.off hF rfl rfl ?_
                refine L.off hF rfl rfl ?_
                refine L.off hF rfl rfl ?_
                refine L.pick hF rfl rfl rfl rfl ?_
                refine L.pick hF rfl rfl rfl rfl ?_
                refine L.nil ?_
                refine WpC.cond rfl (fun hc => by cases hc) (fun _ => ?_)
                refine WpC.skip ?_
                exact ⟨_, ⟨k, a0, a1, a2, by omega, H, rfl⟩, Le.mk [] hm rfl ⟨⟨_, rfl, rfl⟩, ⟨_, rfl, rfl⟩, ⟨_, rfl, rfl⟩, trivial⟩ trivial trivial⟩
/-! ### Fspec_l1In -/
def Fspec_l1In (k : Nat) (a0 : Int) (a1 : Int) (a2 : Int) : Option Bool := cond (decide (a0 ≥ a1)) (some (decide (a0 ≤ a2))) (some false)
theorem ent92 : Enters Try.prog 92 := ⟨Try.f92, Try.func92, rfl, by decide⟩
set_option maxHeartbeats 8000000 in
set_option maxRecDepth 100000 in
theorem Fspec_l1In_gives (k : Nat) (a0 : Int) (a1 : Int) (a2 : Int) (r : Bool) (H : Fspec_l1In k a0 a1 a2 = some r) : Gives Try.prog 92 [V.one (cI a0), V.one (cI a1), V.one (cI a2)] [] [V.one (cL r)] [] := by
  refine Gives.intro Try.func92 rfl rfl rfl rfl ?_
  intro F hF hm
  unfold Fspec_l1In at H
  obtain ⟨K, hK⟩ : ∃ K, k ≤ K := ⟨k, Nat.le_refl k⟩
  refine WpC.seq ?_
  refine WpC.regionL ?_
  refine L.assign hF rfl rfl rfl ?_
  refine L.nil ?_
  refine WpC.seq ?_
  refine WpC.regionL ?_
  refine L.move hF rfl rfl rfl ?_
  refine L.move hF rfl rfl rfl ?_
  refine L.bin hF rfl rfl rfl rfl rfl rfl ?_
  refine L.move hF rfl rfl rfl ?_
  refine L.split (fun hc => ?_) (fun hc => ?_)
  · replace H := condT hc H
    refine L.move hF rfl rfl rfl ?_
    refine L.move hF rfl rfl rfl ?_
    refine L.bin hF rfl rfl rfl rfl rfl rfl ?_
    refine L.pick hF rfl rfl rfl rfl ?_
    refine L.assign hF rfl rfl rfl ?_
    refine L.nil ?_
    refine WpC.ret ?_
    cases H
    exact Leaves.ret rfl rfl rfl ⟨rfl, rfl⟩
  · replace H := condF hc H
    refine L.off hF rfl rfl ?_
    refine L.off hF rfl rfl ?_
    refine L.off hF rfl rfl ?_
    refine L.pick hF rfl rfl rfl rfl ?_
    refine L.assign hF rfl rfl rfl ?_
    refine L.nil ?_
    refine WpC.ret ?_
    cases H
    exact Leaves.ret rfl rfl rfl ⟨rfl, rfl⟩
/-! ### Fspec_FlagsOk -/
def Fspec_FlagsOk (k : Nat) (a0 : Int) : Option Bool := (Fspec_l1In k a0 (0 : Int) (255 : Int)).bind fun r1 => some r1
theorem ent100 : Enters Try.prog 100 := ⟨Try.f100, Try.func100, rfl, by decide⟩
set_option maxHeartbeats 8000000 in
set_option maxRecDepth 100000 in
theorem Fspec_FlagsOk_gives (k : Nat) (a0 : Int) (r : Bool) (H : Fspec_FlagsOk k a0 = some r) : Gives Try.prog 100 [V.one (cI a0)] [] [V.one (cL r)] [] := by
  refine Gives.intro Try.func100 rfl rfl rfl rfl ?_
  intro F hF hm
  unfold Fspec_FlagsOk at H
  obtain ⟨K, hK⟩ : ∃ K, k ≤ K := ⟨k, Nat.le_refl k⟩
  refine WpC.seq ?_
  refine WpC.regionL ?_
  refine L.assign hF rfl rfl rfl ?_
  refine L.nil ?_
  refine WpC.seq ?_
  refine WpC.regionL ?_
  refine L.move hF rfl rfl rfl ?_
  obtain ⟨r1, hr1, H⟩ := bindS H
  refine L.call [false, false, false] [] [] 1 hF rfl rfl rfl ent92 rfl rfl rfl rfl rfl (Fspec_l1In_gives k  a0 (0 : Int) (255 : Int) r1 hr1) rfl ?_
  refine L.assign hF rfl rfl rfl ?_
  refine L.nil ?_
  refine WpC.ret ?_
  cases H
  exact Leaves.ret rfl rfl rfl ⟨rfl, rfl⟩
/-! ### Fspec_l15Has -/
def Fspec_l15Has (k : Nat) (a0 : Int) (a1 : Int) : Option Bool := cond (!(a1 == 0)) (some ((Int.tmod (IntKind.i64.wrap (Int.tdiv a0 a1)) (2 : Int)) == (1 : Int))) none
theorem ent101 : Enters Try.prog 101 := ⟨Try.f101, Try.func101, rfl, by decide⟩
set_option maxHeartbeats 8000000 in
set_option maxRecDepth 100000 in
theorem Fspec_l15Has_gives (k : Nat) (a0 : Int) (a1 : Int) (r : Bool) (H : Fspec_l15Has k a0 a1 = some r) : Gives Try.prog 101 [V.one (cI a0), V.one (cI a1)] [] [V.one (cL r)] [] := by
  refine Gives.intro Try.func101 rfl rfl rfl rfl ?_
  intro F hF hm
  unfold Fspec_l15Has at H
  obtain ⟨K, hK⟩ : ∃ K, k ≤ K := ⟨k, Nat.le_refl k⟩
  refine WpC.seq ?_
  refine WpC.regionL ?_
  refine L.assign hF rfl rfl rfl ?_
  refine L.nil ?_
  refine WpC.seq ?_
  refine WpC.regionL ?_
  refine L.move hF rfl rfl rfl ?_
  refine L.move hF rfl rfl rfl ?_
  obtain ⟨h1, H⟩ := condG H
  refine L.quo hF rfl rfl rfl rfl (by simpa using h1) ?_
  refine L.rem hF rfl rfl rfl rfl (by decide) ?_
  refine L.bin hF rfl rfl rfl rfl rfl rfl ?_
  refine L.assign hF rfl rfl rfl ?_
  refine L.nil ?_
  refine WpC.ret ?_
  cases H
  exact Leaves.ret rfl rfl rfl ⟨rfl, rfl⟩
/-! ### Fspec_Derive -/
def Fspec_Derive.j20 (cl18 : Int → Int → Int → Int → Int → Option (Int × Bool)) (k : Nat) (v175 : Int) (v176 : Int) (v177 : Int) (v178 : Int) (v179 : Int) : Option (Int × Bool) := cl18 v175 v176 v177 v178 (IntKind.i64.wrap (v179 * (2 : Int)))
def Fspec_Derive.j21 (cl18 : Int → Int → Int → Int → Int → Option (Int × Bool)) (k : Nat) (v182 : Int) (v183 : Int) (v184 : Int) (v185 : Int) (v186 : Int) (v187 : Bool) : Option (Int × Bool) := cond v187 (Fspec_Derive.j20 cl18 k v182 v183 v184 (IntKind.i64.wrap (v185 + v186)) v186) (Fspec_Derive.j20 cl18 k v182 v183 v184 v185 v186)
def Fspec_Derive.j26 (k : Nat) (v206 : Int) : Option (Int × Bool) := some (v206, true)
def Fspec_Derive.j25 (k : Nat) (v204 : Int) (v205 : Int) : Option (Int × Bool) := cond (v204 == (5 : Int)) (Fspec_Derive.j26 k (IntKind.i64.wrap (v205 + (16 : Int)))) (Fspec_Derive.j26 k v205)
def Fspec_Derive.j27 (k : Nat) (v208 : Int) (v209 : Int) (v210 : Bool) : Option (Int × Bool) := cond v210 (Fspec_Derive.j25 k v208 (IntKind.i64.wrap (v209 + (128 : Int)))) (Fspec_Derive.j25 k v208 v209)
def Fspec_Derive.j23 (k : Nat) (v196 : Int) (v197 : Int) (v198 : Int) : Option (Int × Bool) := (Fspec_l15Has k v196 (128 : Int)).bind fun r211 => cond r211 (Fspec_Derive.j27 k v197 v198 true) (Fspec_Derive.j27 k v197 v198 (v197 == (3 : Int)))
def Fspec_Derive.j28 (k : Nat) (v213 : Int) (v214 : Int) (v215 : Int) (v216 : Bool) : Option (Int × Bool) := cond v216 (Fspec_Derive.j23 k v213 v214 (IntKind.i64.wrap (v215 + (64 : Int)))) (Fspec_Derive.j23 k v213 v214 v215)
def Fspec_Derive.l18 : Nat → Int → Int → Int → Int → Int → Option (Int × Bool)
  | 0, _, _, _, _, _ => none
  | k18 + 1, v160, v161, v162, v163, v164 => cond (decide (v164 ≤ (8 : Int))) ((Fspec_l15Has k18 v160 v164).bind fun r188 => cond r188 ((Fspec_l15Has k18 v162 v164).bind fun r189 => cond r189 (Fspec_Derive.j21 (Fspec_Derive.l18 k18) k18 v160 v161 v162 v163 v164 true) (cond (v161 == (4 : Int)) (Fspec_Derive.j21 (Fspec_Derive.l18 k18) k18 v160 v161 v162 v163 v164 true) (Fspec_Derive.j21 (Fspec_Derive.l18 k18) k18 v160 v161 v162 v163 v164 (v161 == (6 : Int))))) (Fspec_Derive.j21 (Fspec_Derive.l18 k18) k18 v160 v161 v162 v163 v164 false)) ((Fspec_l15Has k18 v160 (64 : Int)).bind fun r217 => cond r217 (Fspec_Derive.j28 k18 v160 v161 v163 true) (Fspec_Derive.j28 k18 v160 v161 v163 (v161 == (2 : Int))))
def Fspec_Derive.j1 (k : Nat) (v21 : Int) (v22 : Int) (v23 : Int) : Option (Int × Bool) := Fspec_Derive.l18 k v21 v22 v23 (0 : Int) (1 : Int)
def Fspec_Derive (k : Nat) (a0 : Int) (a1 : Int) (a2 : Int) : Option (Int × Bool) := (Fspec_FlagsOk k a0).bind fun r10 => cond (!r10) (some ((0 : Int), false)) ((Fspec_FlagsOk k a2).bind fun r11 => cond (!r11) (some ((0 : Int), false)) ((Fspec_l1In k a1 (1 : Int) (6 : Int)).bind fun r12 => cond (!r12) (some ((0 : Int), false)) (cond (decide (a2 ≥ (16 : Int))) (some ((0 : Int), false)) ((Fspec_l15Has k a0 (16 : Int)).bind fun r14 => cond (r14 != (a1 == (6 : Int))) (some ((0 : Int), false)) ((at? ([(0 : Int), (0 : Int), (1 : Int), (2 : Int), (4 : Int), (8 : Int), (0 : Int)] : List Int) a1).bind fun b221 => cond (decide (b221 > (0 : Int))) ((at? ([(0 : Int), (0 : Int), (1 : Int), (2 : Int), (4 : Int), (8 : Int), (0 : Int)] : List Int) a1).bind fun b222 => (Fspec_l15Has k a0 b222).bind fun r223 => cond (!r223) (some ((0 : Int), false)) (Fspec_Derive.j1 k a0 a1 a2)) (Fspec_Derive.j1 k a0 a1 a2))))))
theorem ent35 : Enters Try.prog 35 := ⟨Try.f35, Try.func35, rfl, by decide⟩
set_option maxHeartbeats 8000000 in
set_option maxRecDepth 100000 in
theorem Fspec_Derive_gives (k : Nat) (a0 : Int) (a1 : Int) (a2 : Int) (r : Int × Bool) (H : Fspec_Derive k a0 a1 a2 = some r) : Gives Try.prog 35 [V.one (cI a0), V.one (cI a1), V.one (cI a2)] [] [V.one (cI r.1), V.one (cL r.2)] [] := by
  refine Gives.intro Try.func35 rfl rfl rfl rfl ?_
  intro F hF hm
  unfold Fspec_Derive at H
  obtain ⟨K, hK⟩ : ∃ K, k ≤ K := ⟨k, Nat.le_refl k⟩
  refine WpC.seq ?_
  refine WpC.regionL ?_
  refine L.assign hF rfl rfl rfl ?_
  refine L.assign hF rfl rfl rfl ?_
  refine L.nil ?_
  refine WpC.seq ?_
  refine WpC.seq ?_
  refine WpC.regionL ?_
  refine L.move hF rfl rfl rfl ?_
  obtain ⟨r10, hr10, H⟩ := bindS H
  refine L.call [false] [] [] 3 hF rfl rfl rfl ent100 rfl rfl rfl rfl rfl (Fspec_FlagsOk_gives k  a0 r10 hr10) rfl ?_
  refine L.not hF rfl rfl rfl ?_
  refine L.move hF rfl rfl rfl ?_
  refine L.split (fun hc => ?_) (fun hc => ?_)
  · replace H := condT hc H
    refine L.off hF rfl rfl ?_
    refine L.off hF rfl rfl ?_
    refine L.off hF rfl rfl ?_
    refine L.pick hF rfl rfl rfl rfl ?_
    refine L.move hF rfl rfl rfl ?_
    refine L.off hF rfl rfl ?_
    refine L.off hF rfl rfl ?_
    refine L.off hF rfl rfl ?_
    refine L.pick hF rfl rfl rfl rfl ?_
    refine L.move hF rfl rfl rfl ?_
    refine L.off hF rfl rfl ?_
    refine L.off hF rfl rfl ?_
    refine L.pick hF rfl rfl rfl rfl ?_
    refine L.nil ?_
    refine WpC.cond rfl (fun _ => ?_) (fun hc => by cases hc)
    refine WpC.seq ?_
    refine WpC.regionL ?_
    refine L.assign hF rfl rfl rfl ?_
    refine L.assign hF rfl rfl rfl ?_
    refine L.nil ?_
    refine WpC.ret ?_
    cases H
    exact Leaves.ret rfl rfl rfl ⟨rfl, rfl⟩
  · replace H := condF hc H
    refine L.move hF rfl rfl rfl ?_
    obtain ⟨r11, hr11, H⟩ := bindS H
    refine L.call [false] [] [] 4 hF rfl rfl rfl ent100 rfl rfl rfl rfl rfl (Fspec_FlagsOk_gives k  a2 r11 hr11) rfl ?_
    refine L.not hF rfl rfl rfl ?_
    refine L.pick hF rfl rfl rfl rfl ?_
    refine L.move hF rfl rfl rfl ?_
    refine L.split (fun hc => ?_) (fun hc => ?_)
    · replace H := condT hc H
      refine L.off hF rfl rfl ?_
      refine L.off hF rfl rfl ?_
      refine L.off hF rfl rfl ?_
      refine L.pick hF rfl rfl rfl rfl ?_
      refine L.move hF rfl rfl rfl ?_
      refine L.off hF rfl rfl ?_
      refine L.off hF rfl rfl ?_
      refine L.pick hF rfl rfl rfl rfl ?_
      refine L.nil ?_
      refine WpC.cond rfl (fun _ => ?_) (fun hc => by cases hc)
      refine WpC.seq ?_
      refine WpC.regionL ?_
      refine L.assign hF rfl rfl rfl ?_
      refine L.assign hF rfl rfl rfl ?_
      refine L.nil ?_
      refine WpC.ret ?_
      cases H
      exact Leaves.ret rfl rfl rfl ⟨rfl, rfl⟩
    · replace H := condF hc H
      refine L.move hF rfl rfl rfl ?_
      obtain ⟨r12, hr12, H⟩ := bindS H
      refine L.call [false, false, false] [] [] 5 hF rfl rfl rfl ent92 rfl rfl rfl rfl rfl (Fspec_l1In_gives k  a1 (1 : Int) (6 : Int) r12 hr12) rfl ?_
      refine L.not hF rfl rfl rfl ?_
      refine L.pick hF rfl rfl rfl rfl ?_
      refine L.move hF rfl rfl rfl ?_
      refine L.split (fun hc => ?_) (fun hc => ?_)
      · replace H := condT hc H
        refine L.off hF rfl rfl ?_
        refine L.off hF rfl rfl ?_
        refine L.pick hF rfl rfl rfl rfl ?_
        refine L.nil ?_
        refine WpC.cond rfl (fun _ => ?_) (fun hc => by cases hc)
        refine WpC.seq ?_
        refine WpC.regionL ?_
        refine L.assign hF rfl rfl rfl ?_
        refine L.assign hF rfl rfl rfl ?_
        refine L.nil ?_
        refine WpC.ret ?_
        cases H
        exact Leaves.ret rfl rfl rfl ⟨rfl, rfl⟩
      · replace H := condF hc H
        refine L.move hF rfl rfl rfl ?_
        refine L.bin hF rfl rfl rfl rfl rfl rfl ?_
        refine L.pick hF rfl rfl rfl rfl ?_
        refine L.nil ?_
        refine WpC.cond rfl (fun hc => ?_) (fun hc => ?_)
        · replace H := condT hc H
          refine WpC.seq ?_
          refine WpC.regionL ?_
          refine L.assign hF rfl rfl rfl ?_
          refine L.assign hF rfl rfl rfl ?_
          refine L.nil ?_
          refine WpC.ret ?_
          cases H
          exact Leaves.ret rfl rfl rfl ⟨rfl, rfl⟩
        · replace H := condF hc H
          refine WpC.skip ?_
          refine WpC.seq ?_
          refine WpC.seq ?_
          refine WpC.regionL ?_
          refine L.move hF rfl rfl rfl ?_
          obtain ⟨r14, hr14, H⟩ := bindS H
          refine L.call [false, false] [] [] 6 hF rfl rfl rfl ent101 rfl rfl rfl rfl rfl (Fspec_l15Has_gives k  a0 (16 : Int) r14 hr14) rfl ?_
          refine L.move hF rfl rfl rfl ?_
          refine L.bin hF rfl rfl rfl rfl rfl rfl ?_
          refine L.neL Try.underlying4 hF rfl rfl rfl rfl ?_
          refine L.nil ?_
          refine WpC.cond rfl (fun hc => ?_) (fun hc => ?_)
          · replace H := condT hc H
            refine WpC.seq ?_
            refine WpC.regionL ?_
            refine L.assign hF rfl rfl rfl ?_
            refine L.assign hF rfl rfl rfl ?_
            refine L.nil ?_
            refine WpC.ret ?_
            cases H
            exact Leaves.ret rfl rfl rfl ⟨rfl, rfl⟩
          · replace H := condF hc H
            refine WpC.skip ?_
            refine WpC.seq ?_
            refine WpC.regionL ?_
            refine L.buildSlice (e := eI) 7 ([(0 : Int), (0 : Int), (1 : Int), (2 : Int), (4 : Int), (8 : Int), (0 : Int)] : List Int) Try.underlying77 info3 rfl rfl rfl hF rfl rfl rfl rfl rfl rfl rfl rfl ?_
            refine L.assign hF rfl rfl rfl ?_
            refine L.nil ?_
            refine WpC.join (fun σ => ∃ kj1 : Nat, ∃ v21 : Int, ∃ v22 : Int, ∃ v23 : Int, kj1 ≤ K ∧ Fspec_Derive.j1 kj1 v21 v22 v23 = some r ∧ σ = mkSt [(0, one (cI v21)), (1, one (cI v22)), (2, one (cI v23))] [] [] 0) ?_ ?_
            · rintro _ ⟨kj1, v21, v22, v23, hkj1, H, rfl⟩
              unfold Fspec_Derive.j1 at H
              refine WpC.seq ?_
              refine WpC.regionL ?_
              refine L.assign hF rfl rfl rfl ?_
              refine L.nil ?_
              refine WpC.seq ?_
              refine WpC.seq ?_
              refine WpC.regionL ?_
              refine L.assign hF rfl rfl rfl ?_
              refine L.nil ?_
              refine WpC.block ?_
              refine WpC.loopL (P := Try.prog) (fun n σ => ∃ v160 : Int, ∃ v161 : Int, ∃ v162 : Int, ∃ v163 : Int, ∃ v164 : Int, n ≤ K ∧ Fspec_Derive.l18 n v160 v161 v162 v163 v164 = some r ∧ σ = mkSt [(0, one (cI v160)), (1, one (cI v161)), (2, one (cI v162)), (9, one (cI v163)), (10, one (cI v164))] [] [] 0) kj1 ⟨_, ⟨v21, v22, v23, (0 : Int), (1 : Int), by omega, H, rfl⟩, Le.mk [] hm rfl ⟨⟨_, rfl, rfl⟩, ⟨_, rfl, rfl⟩, ⟨_, rfl, rfl⟩, ⟨_, rfl, rfl⟩, ⟨_, rfl, rfl⟩, trivial⟩ trivial trivial⟩ ?_
              clear H
              rintro k18 _ ⟨v160, v161, v162, v163, v164, hk18, H, rfl⟩
              cases k18 with
              | zero => cases H
              | succ k18 =>
                rw [Fspec_Derive.l18] at H
                refine WpC.seq ?_
                refine WpC.seq ?_
                refine WpC.regionL ?_
                refine L.move hF rfl rfl rfl ?_
                refine L.bin hF rfl rfl rfl rfl rfl rfl ?_
                refine L.nil ?_
                refine WpC.cond rfl (fun hc => ?_) (fun hc => ?_)
                · replace H := condT hc H
                  refine WpC.skip ?_
                  refine WpC.join (fun σ => ∃ kj20 : Nat, ∃ v175 : Int, ∃ v176 : Int, ∃ v177 : Int, ∃ v178 : Int, ∃ v179 : Int, kj20 ≤ K ∧ Fspec_Derive.j20 (Fspec_Derive.l18 k18) kj20 v175 v176 v177 v178 v179 = some r ∧ σ = mkSt [(0, one (cI v175)), (1, one (cI v176)), (2, one (cI v177)), (9, one (cI v178)), (10, one (cI v179))] [] [] 0) ?_ ?_
                  · rintro _ ⟨kj20, v175, v176, v177, v178, v179, hkj20, H, rfl⟩
                    unfold Fspec_Derive.j20 at H
                    refine WpC.regionL ?_
                    refine L.move hF rfl rfl rfl ?_
                    refine L.bin hF rfl rfl rfl rfl rfl rfl ?_
                    refine L.assign hF rfl rfl rfl ?_
                    refine L.nil ?_
                    exact ⟨k18, _, by omega, ⟨v175, v176, v177, v178, (IntKind.i64.wrap (v179 * (2 : Int))), by omega, H, rfl⟩, Le.mk [] hm rfl ⟨⟨_, rfl, rfl⟩, ⟨_, rfl, rfl⟩, ⟨_, rfl, rfl⟩, ⟨_, rfl, rfl⟩, ⟨_, rfl, rfl⟩, trivial⟩ trivial trivial⟩
                  · refine WpC.block ?_
                    refine WpC.join (fun σ => ∃ kj21 : Nat, ∃ v182 : Int, ∃ v183 : Int, ∃ v184 : Int, ∃ v185 : Int, ∃ v186 : Int, ∃ v187 : Bool, kj21 ≤ K ∧ Fspec_Derive.j21 (Fspec_Derive.l18 k18) kj21 v182 v183 v184 v185 v186 v187 = some r ∧ σ = mkSt [(0, one (cI v182)), (1, one (cI v183)), (2, one (cI v184)), (9, one (cI v185)), (10, one (cI v186)), (67, one (cL v187))] [] [] 0) ?_ ?_
                    · rintro _ ⟨kj21, v182, v183, v184, v185, v186, v187, hkj21, H, rfl⟩
                      unfold Fspec_Derive.j21 at H
                      refine WpC.cond rfl (fun hc => ?_) (fun hc => ?_)
                      · replace H := condT hc H
                        refine WpC.regionL ?_
                        refine L.move hF rfl rfl rfl ?_
                        refine L.move hF rfl rfl rfl ?_
                        refine L.bin hF rfl rfl rfl rfl rfl rfl ?_
                        refine L.assign hF rfl rfl rfl ?_
                        refine L.nil ?_
                        exact ⟨_, ⟨kj21, v182, v183, v184, (IntKind.i64.wrap (v185 + v186)), v186, by omega, H, rfl⟩, Le.mk [] hm rfl ⟨⟨_, rfl, rfl⟩, ⟨_, rfl, rfl⟩, ⟨_, rfl, rfl⟩, ⟨_, rfl, rfl⟩, ⟨_, rfl, rfl⟩, trivial⟩ trivial trivial⟩
                      · replace H := condF hc H
                        refine WpC.skip ?_
                        exact ⟨_, ⟨kj21, v182, v183, v184, v185, v186, by omega, H, rfl⟩, Le.mk [] hm rfl ⟨⟨_, rfl, rfl⟩, ⟨_, rfl, rfl⟩, ⟨_, rfl, rfl⟩, ⟨_, rfl, rfl⟩, ⟨_, rfl, rfl⟩, trivial⟩ trivial trivial⟩
                    · refine WpC.regionL ?_
                      refine L.move hF rfl rfl rfl ?_
                      refine L.move hF rfl rfl rfl ?_
                      obtain ⟨r188, hr188, H⟩ := bindS H
                      refine L.call [false, false] [] [] 0 hF rfl rfl rfl ent101 rfl rfl rfl rfl rfl (Fspec_l15Has_gives k18  v160 v164 r188 hr188) rfl ?_
                      refine L.move hF rfl rfl rfl ?_
                      refine L.split (fun hc => ?_) (fun hc => ?_)
                      · replace H := condT hc H
                        refine L.move hF rfl rfl rfl ?_
                        refine L.move hF rfl rfl rfl ?_
                        obtain ⟨r189, hr189, H⟩ := bindS H
                        refine L.call [false, false] [] [] 1 hF rfl rfl rfl ent101 rfl rfl rfl rfl rfl (Fspec_l15Has_gives k18  v162 v164 r189 hr189) rfl ?_
                        refine L.move hF rfl rfl rfl ?_
                        refine L.split (fun hc => ?_) (fun hc => ?_)
                        · replace H := condT hc H
                          refine L.off hF rfl rfl ?_
                          refine L.off hF rfl rfl ?_
                          refine L.pick hF rfl rfl rfl rfl ?_
                          refine L.move hF rfl rfl rfl ?_
                          refine L.off hF rfl rfl ?_
                          refine L.off hF rfl rfl ?_
                          refine L.pick hF rfl rfl rfl rfl ?_
                          refine L.pick hF rfl rfl rfl rfl ?_
                          refine L.nil ?_
                          exact ⟨_, ⟨k18, v160, v161, v162, v163, v164, true, by omega, H, rfl⟩, Le.mk [] hm rfl ⟨⟨_, rfl, rfl⟩, ⟨_, rfl, rfl⟩, ⟨_, rfl, rfl⟩, ⟨_, rfl, rfl⟩, ⟨_, rfl, rfl⟩, ⟨_, rfl, rfl⟩, trivial⟩ trivial trivial⟩
                        · replace H := condF hc H
                          refine L.move hF rfl rfl rfl ?_
                          refine L.bin hF rfl rfl rfl rfl rfl rfl ?_
                          refine L.pick hF rfl rfl rfl rfl ?_
                          refine L.move hF rfl rfl rfl ?_
                          refine L.split (fun hc => ?_) (fun hc => ?_)
                          · replace H := condT hc H
                            refine L.off hF rfl rfl ?_
                            refine L.off hF rfl rfl ?_
                            refine L.pick hF rfl rfl rfl rfl ?_
                            refine L.pick hF rfl rfl rfl rfl ?_
                            refine L.nil ?_
                            exact ⟨_, ⟨k18, v160, v161, v162, v163, v164, true, by omega, H, rfl⟩, Le.mk [] hm rfl ⟨⟨_, rfl, rfl⟩, ⟨_, rfl, rfl⟩, ⟨_, rfl, rfl⟩, ⟨_, rfl, rfl⟩, ⟨_, rfl, rfl⟩, ⟨_, rfl, rfl⟩, trivial⟩ trivial trivial⟩
                          · replace H := condF hc H
                            refine L.move hF rfl rfl rfl ?_
                            refine L.bin hF rfl rfl rfl rfl rfl rfl ?_
                            refine L.pick hF rfl rfl rfl rfl ?_
                            refine L.pick hF rfl rfl rfl rfl ?_
                            refine L.nil ?_
                            exact ⟨_, ⟨k18, v160, v161, v162, v163, v164, (v161 == (6 : Int)), by omega, H, rfl⟩, Le.mk [] hm rfl ⟨⟨_, rfl, rfl⟩, ⟨_, rfl, rfl⟩, ⟨_, rfl, rfl⟩, ⟨_, rfl, rfl⟩, ⟨_, rfl, rfl⟩, ⟨_, rfl, rfl⟩, trivial⟩ trivial trivial⟩
                      · replace H := condF hc H
                        refine L.off hF rfl rfl ?_
                        refine L.off hF rfl rfl ?_
                        refine L.off hF rfl rfl ?_
                        refine L.off hF rfl rfl ?_
                        refine L.off hF rfl rfl ?_
                        refine L.off hF rfl rfl ?_
                        refine L.off hF rfl rfl ?_
                        refine L.off hF rfl rfl ?_
                        refine L.off hF rfl rfl ?_
                        refine L.off hF rfl rfl ?_
                        refine L.off hF rfl rfl ?_
                        refine L.pick hF rfl rfl rfl rfl ?_
                        refine L.nil ?_
                        exact ⟨_, ⟨k18, v160, v161, v162, v163, v164, false, by omega, H, rfl⟩, Le.mk [] hm rfl ⟨⟨_, rfl, rfl⟩, ⟨_, rfl, rfl⟩, ⟨_, rfl, rfl⟩, ⟨_, rfl, rfl⟩, ⟨_, rfl, rfl⟩, ⟨_, rfl, rfl⟩, trivial⟩ trivial trivial⟩
                · replace H := condF hc H
                  refine WpC.exit ?_
                  refine WpC.join (fun σ => ∃ kj23 : Nat, ∃ v196 : Int, ∃ v197 : Int, ∃ v198 : Int, kj23 ≤ K ∧ Fspec_Derive.j23 kj23 v196 v197 v198 = some r ∧ σ = mkSt [(0, one (cI v196)), (1, one (cI v197)), (9, one (cI v198))] [] [] 0) ?_ ?_
                  · rintro _ ⟨kj23, v196, v197, v198, hkj23, H, rfl⟩
                    unfold Fspec_Derive.j23 at H
                    refine WpC.join (fun σ => ∃ kj25 : Nat, ∃ v204 : Int, ∃ v205 : Int, kj25 ≤ K ∧ Fspec_Derive.j25 kj25 v204 v205 = some r ∧ σ = mkSt [(1, one (cI v204)), (9, one (cI v205))] [] [] 0) ?_ ?_
                    · rintro _ ⟨kj25, v204, v205, hkj25, H, rfl⟩
                      unfold Fspec_Derive.j25 at H
                      refine WpC.join (fun σ => ∃ kj26 : Nat, ∃ v206 : Int, kj26 ≤ K ∧ Fspec_Derive.j26 kj26 v206 = some r ∧ σ = mkSt [(9, one (cI v206))] [] [] 0) ?_ ?_
                      · rintro _ ⟨kj26, v206, hkj26, H, rfl⟩
                        unfold Fspec_Derive.j26 at H
                        refine WpC.seq ?_
                        refine WpC.regionL ?_
                        refine L.move hF rfl rfl rfl ?_
                        refine L.assign hF rfl rfl rfl ?_
                        refine L.assign hF rfl rfl rfl ?_
                        refine L.nil ?_
                        refine WpC.ret ?_
                        cases H
                        exact Leaves.ret rfl rfl rfl ⟨rfl, rfl⟩
                      · refine WpC.seq ?_
                        refine WpC.regionL ?_
                        refine L.move hF rfl rfl rfl ?_
                        refine L.bin hF rfl rfl rfl rfl rfl rfl ?_
                        refine L.nil ?_
                        refine WpC.cond rfl (fun hc => ?_) (fun hc => ?_)
                        · replace H := condT hc H
                          refine WpC.regionL ?_
                          refine L.move hF rfl rfl rfl ?_
                          refine L.bin hF rfl rfl rfl rfl rfl rfl ?_
                          refine L.assign hF rfl rfl rfl ?_
                          refine L.nil ?_
                          exact ⟨_, ⟨kj25, (IntKind.i64.wrap (v205 + (16 : Int))), by omega, H, rfl⟩, Le.mk [] hm rfl ⟨⟨_, rfl, rfl⟩, trivial⟩ trivial trivial⟩
                        · replace H := condF hc H
                          refine WpC.skip ?_
                          exact ⟨_, ⟨kj25, v205, by omega, H, rfl⟩, Le.mk [] hm rfl ⟨⟨_, rfl, rfl⟩, trivial⟩ trivial trivial⟩
                    · refine WpC.join (fun σ => ∃ kj27 : Nat, ∃ v208 : Int, ∃ v209 : Int, ∃ v210 : Bool, kj27 ≤ K ∧ Fspec_Derive.j27 kj27 v208 v209 v210 = some r ∧ σ = mkSt [(1, one (cI v208)), (9, one (cI v209)), (84, one (cL v210))] [] [] 0) ?_ ?_
                      · rintro _ ⟨kj27, v208, v209, v210, hkj27, H, rfl⟩
                        unfold Fspec_Derive.j27 at H
                        refine WpC.cond rfl (fun hc => ?_) (fun hc => ?_)
                        · replace H := condT hc H
                          refine WpC.regionL ?_
                          refine L.move hF rfl rfl rfl ?_
                          refine L.bin hF rfl rfl rfl rfl rfl rfl ?_
                          refine L.assign hF rfl rfl rfl ?_
                          refine L.nil ?_
                          exact ⟨_, ⟨kj27, v208, (IntKind.i64.wrap (v209 + (128 : Int))), by omega, H, rfl⟩, Le.mk [] hm rfl ⟨⟨_, rfl, rfl⟩, ⟨_, rfl, rfl⟩, trivial⟩ trivial trivial⟩
                        · replace H := condF hc H
                          refine WpC.skip ?_
                          exact ⟨_, ⟨kj27, v208, v209, by omega, H, rfl⟩, Le.mk [] hm rfl ⟨⟨_, rfl, rfl⟩, ⟨_, rfl, rfl⟩, trivial⟩ trivial trivial⟩
                      · refine WpC.regionL ?_
                        refine L.move hF rfl rfl rfl ?_
                        obtain ⟨r211, hr211, H⟩ := bindS H
                        refine L.call [false, false] [] [] 0 hF rfl rfl rfl ent101 rfl rfl rfl rfl rfl (Fspec_l15Has_gives kj23  v196 (128 : Int) r211 hr211) rfl ?_
                        refine L.move hF rfl rfl rfl ?_
                        refine L.split (fun hc => ?_) (fun hc => ?_)
                        · replace H := condT hc H
                          refine L.off hF rfl rfl ?_
                          refine L.off hF rfl rfl ?_
                          refine L.pick hF rfl rfl rfl rfl ?_
                          refine L.nil ?_
                          exact ⟨_, ⟨kj23, v197, v198, true, by omega, H, rfl⟩, Le.mk [] hm rfl ⟨⟨_, rfl, rfl⟩, ⟨_, rfl, rfl⟩, ⟨_, rfl, rfl⟩, trivial⟩ trivial trivial⟩
                        · replace H := condF hc H
                          refine L.move hF rfl rfl rfl ?_
                          refine L.bin hF rfl rfl rfl rfl rfl rfl ?_
                          refine L.pick hF rfl rfl rfl rfl ?_
                          refine L.nil ?_
                          exact ⟨_, ⟨kj23, v197, v198, (v197 == (3 : Int)), by omega, H, rfl⟩, Le.mk [] hm rfl ⟨⟨_, rfl, rfl⟩, ⟨_, rfl, rfl⟩, ⟨_, rfl, rfl⟩, trivial⟩ trivial trivial⟩
                  · refine WpC.join (fun σ => ∃ kj28 : Nat, ∃ v213 : Int, ∃ v214 : Int, ∃ v215 : Int, ∃ v216 : Bool, kj28 ≤ K ∧ Fspec_Derive.j28 kj28 v213 v214 v215 v216 = some r ∧ σ = mkSt [(0, one (cI v213)), (1, one (cI v214)), (9, one (cI v215)), (76, one (cL v216))] [] [] 0) ?_ ?_
                    · rintro _ ⟨kj28, v213, v214, v215, v216, hkj28, H, rfl⟩
                      unfold Fspec_Derive.j28 at H
                      refine WpC.cond rfl (fun hc => ?_) (fun hc => ?_)
                      · replace H := condT hc H
                        refine WpC.regionL ?_
                        refine L.move hF rfl rfl rfl ?_
                        refine L.bin hF rfl rfl rfl rfl rfl rfl ?_
                        refine L.assign hF rfl rfl rfl ?_
                        refine L.nil ?_
                        exact ⟨_, ⟨kj28, v213, v214, (IntKind.i64.wrap (v215 + (64 : Int))), by omega, H, rfl⟩, Le.mk [] hm rfl ⟨⟨_, rfl, rfl⟩, ⟨_, rfl, rfl⟩, ⟨_, rfl, rfl⟩, trivial⟩ trivial trivial⟩
                      · replace H := condF hc H
                        refine WpC.skip ?_
                        exact ⟨_, ⟨kj28, v213, v214, v215, by omega, H, rfl⟩, Le.mk [] hm rfl ⟨⟨_, rfl, rfl⟩, ⟨_, rfl, rfl⟩, ⟨_, rfl, rfl⟩, trivial⟩ trivial trivial⟩
                    · refine WpC.regionL ?_
                      refine L.move hF rfl rfl rfl ?_
                      obtain ⟨r217, hr217, H⟩ := bindS H
                      refine L.call [false, false] [] [] 0 hF rfl rfl rfl ent101 rfl rfl rfl rfl rfl (Fspec_l15Has_gives k18  v160 (64 : Int) r217 hr217) rfl ?_
                      refine L.move hF rfl rfl rfl ?_
                      refine L.split (fun hc => ?_) (fun hc => ?_)
                      · replace H := condT hc H
                        refine L.off hF rfl rfl ?_
                        refine L.off hF rfl rfl ?_
                        refine L.pick hF rfl rfl rfl rfl ?_
                        refine L.nil ?_
                        exact ⟨_, ⟨k18, v160, v161, v163, true, by omega, H, rfl⟩, Le.mk [] hm rfl ⟨⟨_, rfl, rfl⟩, ⟨_, rfl, rfl⟩, ⟨_, rfl, rfl⟩, ⟨_, rfl, rfl⟩, trivial⟩ trivial trivial⟩
                      · replace H := condF hc H
                        refine L.move hF rfl rfl rfl ?_
                        refine L.bin hF rfl rfl rfl rfl rfl rfl ?_
                        refine L.pick hF rfl rfl rfl rfl ?_
                        refine L.nil ?_
                        exact ⟨_, ⟨k18, v160, v161, v163, (v161 == (2 : Int)), by omega, H, rfl⟩, Le.mk [] hm rfl ⟨⟨_, rfl, rfl⟩, ⟨_, rfl, rfl⟩, ⟨_, rfl, rfl⟩, ⟨_, rfl, rfl⟩, trivial⟩ trivial trivial⟩
            · refine WpC.seq ?_
              refine WpC.regionL ?_
              refine L.move hF rfl rfl rfl ?_
              refine L.move hF rfl rfl rfl ?_
              obtain ⟨b221, hb221, H⟩ := bindS H
              refine L.idxR (xs := ([(0 : Int), (0 : Int), (1 : Int), (2 : Int), (4 : Int), (8 : Int), (0 : Int)] : List Int)) (e := eI) Try.underlying77 info3 hF rfl rfl rfl rfl rfl hb221 rfl rfl ?_
              refine L.loadEp (xs := ([(0 : Int), (0 : Int), (1 : Int), (2 : Int), (4 : Int), (8 : Int), (0 : Int)] : List Int)) (e := eI) shape3 hF rfl rfl rfl rfl (at?_get hb221).2 rfl rfl ?_
              refine L.bin hF rfl rfl rfl rfl rfl rfl ?_
              refine L.move hF rfl rfl rfl ?_
              refine L.split (fun hc => ?_) (fun hc => ?_)
              · replace H := condT hc H
                refine L.move hF rfl rfl rfl ?_
                refine L.move hF rfl rfl rfl ?_
                refine L.move hF rfl rfl rfl ?_
                obtain ⟨b222, hb222, H⟩ := bindS H
                refine L.idxR (xs := ([(0 : Int), (0 : Int), (1 : Int), (2 : Int), (4 : Int), (8 : Int), (0 : Int)] : List Int)) (e := eI) Try.underlying77 info3 hF rfl rfl rfl rfl rfl hb222 rfl rfl ?_
                refine L.loadEp (xs := ([(0 : Int), (0 : Int), (1 : Int), (2 : Int), (4 : Int), (8 : Int), (0 : Int)] : List Int)) (e := eI) shape3 hF rfl rfl rfl rfl (at?_get hb222).2 rfl rfl ?_
                obtain ⟨r223, hr223, H⟩ := bindS H
                refine L.call [false, false] [] [] 8 hF rfl rfl rfl ent101 rfl rfl rfl rfl rfl (Fspec_l15Has_gives k  a0 b222 r223 hr223) rfl ?_
                refine L.not hF rfl rfl rfl ?_
                refine L.pick hF rfl rfl rfl rfl ?_
                refine L.nil ?_
                refine WpC.cond rfl (fun hc => ?_) (fun hc => ?_)
                · replace H := condT hc H
                  refine WpC.seq ?_
                  refine WpC.regionL ?_
                  refine L.assign hF rfl rfl rfl ?_
                  refine L.assign hF rfl rfl rfl ?_
                  refine L.nil ?_
                  refine WpC.ret ?_
                  cases H
                  exact Leaves.ret rfl rfl rfl ⟨rfl, rfl⟩
                · replace H := condF hc H
                  refine WpC.skip ?_
                  exact ⟨_, ⟨k, a0, a1, a2, by omega, H, rfl⟩, Le.mk [] hm rfl ⟨⟨_, rfl, rfl⟩, ⟨_, rfl, rfl⟩, ⟨_, rfl, rfl⟩, trivial⟩ trivial trivial⟩
              · replace H := condF hc H
                refine L.off hF rfl rfl ?_
                refine L.off hF rfl rfl ?_
                refine L.off hF rfl rfl ?_
                refine L.off hF rfl rfl ?_
                refine L.off hF rfl rfl ?_
                refine L.off hF rfl rfl ?_
                refine L.off hF rfl rfl ?_
                refine L.pick hF rfl rfl rfl rfl ?_
                refine L.nil ?_
                refine WpC.cond rfl (fun hc => by cases hc) (fun _ => ?_)
                refine WpC.skip ?_
                exact ⟨_, ⟨k, a0, a1, a2, by omega, H, rfl⟩, Le.mk [] hm rfl ⟨⟨_, rfl, rfl⟩, ⟨_, rfl, rfl⟩, ⟨_, rfl, rfl⟩, trivial⟩ trivial trivial⟩
/-! ### Fimpl_Below -/
def Fimpl_Below (k : Nat) (a0 : Int) (a1 : Int) : Option Bool := (Fimpl_FlagsOk k a0).bind fun r3 => cond r3 ((Fimpl_FlagsOk k a1).bind fun r4 => cond r4 (some ((Go.bits .andNot .i64 (Go.bits .and .i64 a0 (15 : Int)) a1) == (0 : Int))) (some false)) (some false)
theorem ent36 : Enters Try.prog 36 := ⟨Try.f36, Try.func36, rfl, by decide⟩
set_option maxHeartbeats 8000000 in
set_option maxRecDepth 100000 in
theorem Fimpl_Below_gives (k : Nat) (a0 : Int) (a1 : Int) (r : Bool) (H : Fimpl_Below k a0 a1 = some r) : Gives Try.prog 36 [V.one (cI a0), V.one (cI a1)] [] [V.one (cL r)] [] := by
  refine Gives.intro Try.func36 rfl rfl rfl rfl ?_
  intro F hF hm
  unfold Fimpl_Below at H
  obtain ⟨K, hK⟩ : ∃ K, k ≤ K := ⟨k, Nat.le_refl k⟩
  refine WpC.seq ?_
  refine WpC.regionL ?_
  refine L.assign hF rfl rfl rfl ?_
  refine L.nil ?_
  refine WpC.seq ?_
  refine WpC.regionL ?_
  refine L.move hF rfl rfl rfl ?_
  obtain ⟨r3, hr3, H⟩ := bindS H
  refine L.call [false] [] [] 2 hF rfl rfl rfl ent43 rfl rfl rfl rfl rfl (Fimpl_FlagsOk_gives k  a0 r3 hr3) rfl ?_
  refine L.move hF rfl rfl rfl ?_
  refine L.split (fun hc => ?_) (fun hc => ?_)
  · replace H := condT hc H
    refine L.move hF rfl rfl rfl ?_
    obtain ⟨r4, hr4, H⟩ := bindS H
    refine L.call [false] [] [] 3 hF rfl rfl rfl ent43 rfl rfl rfl rfl rfl (Fimpl_FlagsOk_gives k  a1 r4 hr4) rfl ?_
    refine L.pick hF rfl rfl rfl rfl ?_
    refine L.move hF rfl rfl rfl ?_
    refine L.split (fun hc => ?_) (fun hc => ?_)
    · replace H := condT hc H
      refine L.move hF rfl rfl rfl ?_
      refine L.bin hF rfl rfl rfl rfl rfl rfl ?_
      refine L.move hF rfl rfl rfl ?_
      refine L.bin hF rfl rfl rfl rfl rfl rfl ?_
      refine L.bin hF rfl rfl rfl rfl rfl rfl ?_
      refine L.pick hF rfl rfl rfl rfl ?_
      refine L.assign hF rfl rfl rfl ?_
      refine L.nil ?_
      refine WpC.ret ?_
      cases H
      exact Leaves.ret rfl rfl rfl ⟨rfl, rfl⟩
    · replace H := condF hc H
      refine L.off hF rfl rfl ?_
      refine L.off hF rfl rfl ?_
      refine L.off hF rfl rfl ?_
      refine L.off hF rfl rfl ?_
      refine L.off hF rfl rfl ?_
      refine L.pick hF rfl rfl rfl rfl ?_
      refine L.assign hF rfl rfl rfl ?_
      refine L.nil ?_
      refine WpC.ret ?_
      cases H
      exact Leaves.ret rfl rfl rfl ⟨rfl, rfl⟩
  · replace H := condF hc H
    refine L.off hF rfl rfl ?_
    refine L.off hF rfl rfl ?_
    refine L.pick hF rfl rfl rfl rfl ?_
    refine L.move hF rfl rfl rfl ?_
    refine L.off hF rfl rfl ?_
    refine L.off hF rfl rfl ?_
    refine L.off hF rfl rfl ?_
    refine L.off hF rfl rfl ?_
    refine L.off hF rfl rfl ?_
    refine L.pick hF rfl rfl rfl rfl ?_
    refine L.assign hF rfl rfl rfl ?_
    refine L.nil ?_
    refine WpC.ret ?_
    cases H
    exact Leaves.ret rfl rfl rfl ⟨rfl, rfl⟩
/-! ### Fspec_Below -/
def Fspec_Below.j8 (cl7 : Int → Int → Int → Option Bool) (k : Nat) (v82 : Int) (v83 : Int) (v84 : Int) : Option Bool := cl7 v82 v83 (IntKind.i64.wrap (v84 * (2 : Int)))
def Fspec_Below.l7 : Nat → Int → Int → Int → Option Bool
  | 0, _, _, _ => none
  | k7 + 1, v75, v76, v77 => cond (decide (v77 ≤ (8 : Int))) ((Fspec_l15Has k7 v75 v77).bind fun r87 => cond r87 ((Fspec_l15Has k7 v76 v77).bind fun r88 => cond (!r88) (some false) (Fspec_Below.j8 (Fspec_Below.l7 k7) k7 v75 v76 v77)) (Fspec_Below.j8 (Fspec_Below.l7 k7) k7 v75 v76 v77)) (some true)
def Fspec_Below (k : Nat) (a0 : Int) (a1 : Int) : Option Bool := (Fspec_FlagsOk k a0).bind fun r7 => cond (!r7) (some false) ((Fspec_FlagsOk k a1).bind fun r8 => cond (!r8) (some false) (Fspec_Below.l7 k a0 a1 (1 : Int)))
theorem ent37 : Enters Try.prog 37 := ⟨Try.f37, Try.func37, rfl, by decide⟩
set_option maxHeartbeats 8000000 in
set_option maxRecDepth 100000 in
theorem Fspec_Below_gives (k : Nat) (a0 : Int) (a1 : Int) (r : Bool) (H : Fspec_Below k a0 a1 = some r) : Gives Try.prog 37 [V.one (cI a0), V.one (cI a1)] [] [V.one (cL r)] [] := by
  refine Gives.intro Try.func37 rfl rfl rfl rfl ?_
  intro F hF hm
  unfold Fspec_Below at H
  obtain ⟨K, hK⟩ : ∃ K, k ≤ K := ⟨k, Nat.le_refl k⟩
  refine WpC.seq ?_
  refine WpC.regionL ?_
  refine L.assign hF rfl rfl rfl ?_
  refine L.nil ?_
  refine WpC.seq ?_
  refine WpC.seq ?_
  refine WpC.regionL ?_
  refine L.move hF rfl rfl rfl ?_
  obtain ⟨r7, hr7, H⟩ := bindS H
  refine L.call [false] [] [] 2 hF rfl rfl rfl ent100 rfl rfl rfl rfl rfl (Fspec_FlagsOk_gives k  a0 r7 hr7) rfl ?_
  refine L.not hF rfl rfl rfl ?_
  refine L.move hF rfl rfl rfl ?_
  refine L.split (fun hc => ?_) (fun hc => ?_)
  · replace H := condT hc H
    refine L.off hF rfl rfl ?_
    refine L.off hF rfl rfl ?_
    refine L.off hF rfl rfl ?_
    refine L.pick hF rfl rfl rfl rfl ?_
    refine L.nil ?_
    refine WpC.cond rfl (fun _ => ?_) (fun hc => by cases hc)
    refine WpC.seq ?_
    refine WpC.regionL ?_
    refine L.assign hF rfl rfl rfl ?_
    refine L.nil ?_
    refine WpC.ret ?_
    cases H
    exact Leaves.ret rfl rfl rfl ⟨rfl, rfl⟩
  · replace H := condF hc H
    refine L.move hF rfl rfl rfl ?_
    obtain ⟨r8, hr8, H⟩ := bindS H
    refine L.call [false] [] [] 3 hF rfl rfl rfl ent100 rfl rfl rfl rfl rfl (Fspec_FlagsOk_gives k  a1 r8 hr8) rfl ?_
    refine L.not hF rfl rfl rfl ?_
    refine L.pick hF rfl rfl rfl rfl ?_
    refine L.nil ?_
    refine WpC.cond rfl (fun hc => ?_) (fun hc => ?_)
    · replace H := condT hc H
      refine WpC.seq ?_
      refine WpC.regionL ?_
      refine L.assign hF rfl rfl rfl ?_
      refine L.nil ?_
      refine WpC.ret ?_
      cases H
      exact Leaves.ret rfl rfl rfl ⟨rfl, rfl⟩
    · replace H := condF hc H
      refine WpC.skip ?_
      refine WpC.seq ?_
      refine WpC.seq ?_
      refine WpC.regionL ?_
      refine L.assign hF rfl rfl rfl ?_
      refine L.nil ?_
      refine WpC.block ?_
      refine WpC.loopL (P := Try.prog) (fun n σ => ∃ v75 : Int, ∃ v76 : Int, ∃ v77 : Int, n ≤ K ∧ Fspec_Below.l7 n v75 v76 v77 = some r ∧ σ = mkSt [(0, one (cI v75)), (1, one (cI v76)), (5, one (cI v77))] [] [] 0) k ⟨_, ⟨a0, a1, (1 : Int), by omega, H, rfl⟩, Le.mk [] hm rfl ⟨⟨_, rfl, rfl⟩, ⟨_, rfl, rfl⟩, ⟨_, rfl, rfl⟩, trivial⟩ trivial trivial⟩ ?_
      clear H
      rintro k7 _ ⟨v75, v76, v77, hk7, H, rfl⟩
      cases k7 with
      | zero => cases H
      | succ k7 =>
        rw [Fspec_Below.l7] at H
        refine WpC.seq ?_
        refine WpC.seq ?_
        refine WpC.regionL ?_
        refine L.move hF rfl rfl rfl ?_
        refine L.bin hF rfl rfl rfl rfl rfl rfl ?_
        refine L.nil ?_
        refine WpC.cond rfl (fun hc => ?_) (fun hc => ?_)
        · replace H := condT hc H
          refine WpC.skip ?_
          refine WpC.join (fun σ => ∃ kj8 : Nat, ∃ v82 : Int, ∃ v83 : Int, ∃ v84 : Int, kj8 ≤ K ∧ Fspec_Below.j8 (Fspec_Below.l7 k7) kj8 v82 v83 v84 = some r ∧ σ = mkSt [(0, one (cI v82)), (1, one (cI v83)), (5, one (cI v84))] [] [] 0) ?_ ?_
          · rintro _ ⟨kj8, v82, v83, v84, hkj8, H, rfl⟩
            unfold Fspec_Below.j8 at H
            refine WpC.regionL ?_
            refine L.move hF rfl rfl rfl ?_
            refine L.bin hF rfl rfl rfl rfl rfl rfl ?_
            refine L.assign hF rfl rfl rfl ?_
            refine L.nil ?_
            exact ⟨k7, _, by omega, ⟨v82, v83, (IntKind.i64.wrap (v84 * (2 : Int))), by omega, H, rfl⟩, Le.mk [] hm rfl ⟨⟨_, rfl, rfl⟩, ⟨_, rfl, rfl⟩, ⟨_, rfl, rfl⟩, trivial⟩ trivial trivial⟩
          · refine WpC.block ?_
            refine WpC.seq ?_
            refine WpC.regionL ?_
            refine L.move hF rfl rfl rfl ?_
            refine L.move hF rfl rfl rfl ?_
            obtain ⟨r87, hr87, H⟩ := bindS H
            refine L.call [false, false] [] [] 0 hF rfl rfl rfl ent101 rfl rfl rfl rfl rfl (Fspec_l15Has_gives k7  v75 v77 r87 hr87) rfl ?_
            refine L.move hF rfl rfl rfl ?_
            refine L.split (fun hc => ?_) (fun hc => ?_)
            · replace H := condT hc H
              refine L.move hF rfl rfl rfl ?_
              refine L.move hF rfl rfl rfl ?_
              obtain ⟨r88, hr88, H⟩ := bindS H
              refine L.call [false, false] [] [] 1 hF rfl rfl rfl ent101 rfl rfl rfl rfl rfl (Fspec_l15Has_gives k7  v76 v77 r88 hr88) rfl ?_
              refine L.not hF rfl rfl rfl ?_
              refine L.pick hF rfl rfl rfl rfl ?_
              refine L.nil ?_
              refine WpC.cond rfl (fun hc => ?_) (fun hc => ?_)
              · replace H := condT hc H
                refine WpC.seq ?_
                refine WpC.regionL ?_
                refine L.assign hF rfl rfl rfl ?_
                refine L.nil ?_
                refine WpC.ret ?_
                cases H
                exact Leaves.ret rfl rfl rfl ⟨rfl, rfl⟩
              · replace H := condF hc H
                refine WpC.skip ?_
                exact ⟨_, ⟨k7, v75, v76, v77, by omega, H, rfl⟩, Le.mk [] hm rfl ⟨⟨_, rfl, rfl⟩, ⟨_, rfl, rfl⟩, ⟨_, rfl, rfl⟩, trivial⟩ trivial trivial⟩
            · replace H := condF hc H
              refine L.off hF rfl rfl ?_
              refine L.off hF rfl rfl ?_
              refine L.off hF rfl rfl ?_
              refine L.off hF rfl rfl ?_
              refine L.pick hF rfl rfl rfl rfl ?_
              refine L.nil ?_
              refine WpC.cond rfl (fun hc => by cases hc) (fun _ => ?_)
              refine WpC.skip ?_
              exact ⟨_, ⟨k7, v75, v76, v77, by omega, H, rfl⟩, Le.mk [] hm rfl ⟨⟨_, rfl, rfl⟩, ⟨_, rfl, rfl⟩, ⟨_, rfl, rfl⟩, trivial⟩ trivial trivial⟩
        · replace H := condF hc H
          refine WpC.exit ?_
          refine WpC.seq ?_
          refine WpC.regionL ?_
          refine L.assign hF rfl rfl rfl ?_
          refine L.nil ?_
          refine WpC.ret ?_
          cases H
          exact Leaves.ret rfl rfl rfl ⟨rfl, rfl⟩
/-! ### Flaws_FnFlags -/
def Flaws_FnFlags.j1 (k : Nat) (v9 : Int) (v10 : Int) : Option Bool := (Fimpl_Below k v10 v9).bind fun r13 => cond r13 ((Fspec_Below k v10 v9).bind fun r14 => cond r14 (cond ((Int.tmod (IntKind.i64.wrap (Int.tdiv v10 (32 : Int))) (2 : Int)) == (0 : Int)) (cond ((Int.tmod (IntKind.i64.wrap (Int.tdiv v9 (64 : Int))) (2 : Int)) == (0 : Int)) (cond ((Int.tmod (IntKind.i64.wrap (Int.tdiv v9 (128 : Int))) (2 : Int)) == (0 : Int)) (some true) (some ((Int.tmod (IntKind.i64.wrap (Int.tdiv v10 (128 : Int))) (2 : Int)) == (1 : Int)))) (cond ((Int.tmod (IntKind.i64.wrap (Int.tdiv v10 (64 : Int))) (2 : Int)) == (1 : Int)) (cond ((Int.tmod (IntKind.i64.wrap (Int.tdiv v9 (128 : Int))) (2 : Int)) == (0 : Int)) (some true) (some ((Int.tmod (IntKind.i64.wrap (Int.tdiv v10 (128 : Int))) (2 : Int)) == (1 : Int)))) (some false))) (some false)) (some false)) (some false)
def Flaws_FnFlags (k : Nat) (a0 : List UInt8) : Option Bool := (Flaws_big k a0).bind fun r2 => cond r2 (some true) ((Fspec_DrawDerive k a0).bind fun r3 => (Fimpl_Derive k r3.1 r3.2.1 r3.2.2).bind fun r4 => (Fspec_Derive k r3.1 r3.2.1 r3.2.2).bind fun r5 => cond (r4.2 != r5.2) (some false) (cond (r4.1 != r5.1) (some false) (cond (!r4.2) (some (r4.1 == (0 : Int))) ((Fimpl_Derive k r4.1 (2 : Int) (15 : Int)).bind fun r6 => cond r6.2 ((Fimpl_Below k r6.1 r3.1).bind fun r16 => cond (!r16) (some false) (cond ((Int.tmod (IntKind.i64.wrap (Int.tdiv r6.1 (64 : Int))) (2 : Int)) != (1 : Int)) (some false) (Flaws_FnFlags.j1 k r3.1 r4.1))) (Flaws_FnFlags.j1 k r3.1 r4.1)))))
theorem ent7 : Enters Try.prog 7 := ⟨Try.f7, Try.func7, rfl, by decide⟩
set_option maxHeartbeats 8000000 in
set_option maxRecDepth 100000 in
theorem Flaws_FnFlags_gives (k : Nat) (a0 : List UInt8) (r : Bool) (H : Flaws_FnFlags k a0 = some r) : Gives Try.prog 7 [V.one (Cell.sl true (List.map eB a0))] [] [V.one (cL r)] [] := by
  refine Gives.intro Try.func7 rfl rfl rfl rfl ?_
  intro F hF hm
  unfold Flaws_FnFlags at H
  obtain ⟨K, hK⟩ : ∃ K, k ≤ K := ⟨k, Nat.le_refl k⟩
  refine WpC.seq ?_
  refine WpC.regionL ?_
  refine L.assign hF rfl rfl rfl ?_
  refine L.nil ?_
  refine WpC.seq ?_
  refine WpC.seq ?_
  refine WpC.regionL ?_
  refine L.move hF rfl rfl rfl ?_
  obtain ⟨r2, hr2, H⟩ := bindS H
  refine L.call [false] [] [] 1 hF rfl rfl rfl ent32 rfl rfl rfl rfl rfl (Flaws_big_gives k true a0 r2 hr2) rfl ?_
  refine L.nil ?_
  refine WpC.cond rfl (fun hc => ?_) (fun hc => ?_)
  · replace H := condT hc H
    refine WpC.seq ?_
    refine WpC.regionL ?_
    refine L.assign hF rfl rfl rfl ?_
    refine L.nil ?_
    refine WpC.ret ?_
    cases H
    exact Leaves.ret rfl rfl rfl ⟨rfl, rfl⟩
  · replace H := condF hc H
    refine WpC.skip ?_
    refine WpC.seq ?_
    refine WpC.regionL ?_
    refine L.move hF rfl rfl rfl ?_
    obtain ⟨r3, hr3, H⟩ := bindS H
    refine L.call [false] [] [] 2 hF rfl rfl rfl ent33 rfl rfl rfl rfl rfl (Fspec_DrawDerive_gives k  a0 r3 hr3) rfl ?_
    refine L.move hF rfl rfl rfl ?_
    refine L.extract hF rfl rfl rfl rfl ?_
    refine L.extract hF rfl rfl rfl rfl ?_
    refine L.extract hF rfl rfl rfl rfl ?_
    refine L.assign hF rfl rfl rfl ?_
    refine L.assign hF rfl rfl rfl ?_
    refine L.assign hF rfl rfl rfl ?_
    refine L.nil ?_
    refine WpC.seq ?_
    refine WpC.regionL ?_
    refine L.move hF rfl rfl rfl ?_
    refine L.move hF rfl rfl rfl ?_
    refine L.move hF rfl rfl rfl ?_
    obtain ⟨r4, hr4, H⟩ := bindS H
    refine L.call [false, false, false] [] [] 5 hF rfl rfl rfl ent34 rfl rfl rfl rfl rfl (Fimpl_Derive_gives k  r3.1 r3.2.1 r3.2.2 r4 hr4) rfl ?_
    refine L.move hF rfl rfl rfl ?_
    refine L.extract hF rfl rfl rfl rfl ?_
    refine L.extract hF rfl rfl rfl rfl ?_
    refine L.assign hF rfl rfl rfl ?_
    refine L.assign hF rfl rfl rfl ?_
    refine L.nil ?_
    refine WpC.seq ?_
    refine WpC.regionL ?_
    refine L.move hF rfl rfl rfl ?_
    refine L.move hF rfl rfl rfl ?_
    refine L.move hF rfl rfl rfl ?_
    obtain ⟨r5, hr5, H⟩ := bindS H
    refine L.call [false, false, false] [] [] 7 hF rfl rfl rfl ent35 rfl rfl rfl rfl rfl (Fspec_Derive_gives k  r3.1 r3.2.1 r3.2.2 r5 hr5) rfl ?_
    refine L.move hF rfl rfl rfl ?_
    refine L.extract hF rfl rfl rfl rfl ?_
    refine L.extract hF rfl rfl rfl rfl ?_
    refine L.assign hF rfl rfl rfl ?_
    refine L.assign hF rfl rfl rfl ?_
    refine L.nil ?_
    refine WpC.seq ?_
    refine WpC.seq ?_
    refine WpC.regionL ?_
    refine L.move hF rfl rfl rfl ?_
    refine L.move hF rfl rfl rfl ?_
    refine L.neL Try.underlying4 hF rfl rfl rfl rfl ?_
    refine L.move hF rfl rfl rfl ?_
    refine L.split (fun hc => ?_) (fun hc => ?_)
    · replace H := condT hc H
      refine L.off hF rfl rfl ?_
      refine L.off hF rfl rfl ?_
      refine L.off hF rfl rfl ?_
      refine L.pick hF rfl rfl rfl rfl ?_
      refine L.nil ?_
      refine WpC.cond rfl (fun _ => ?_) (fun hc => by cases hc)
      refine WpC.seq ?_
      refine WpC.regionL ?_
      refine L.assign hF rfl rfl rfl ?_
      refine L.nil ?_
      refine WpC.ret ?_
      cases H
      exact Leaves.ret rfl rfl rfl ⟨rfl, rfl⟩
    · replace H := condF hc H
      refine L.move hF rfl rfl rfl ?_
      refine L.move hF rfl rfl rfl ?_
      refine L.bin hF rfl rfl rfl rfl rfl rfl ?_
      refine L.pick hF rfl rfl rfl rfl ?_
      refine L.nil ?_
      refine WpC.cond rfl (fun hc => ?_) (fun hc => ?_)
      · replace H := condT hc H
        refine WpC.seq ?_
        refine WpC.regionL ?_
        refine L.assign hF rfl rfl rfl ?_
        refine L.nil ?_
        refine WpC.ret ?_
        cases H
        exact Leaves.ret rfl rfl rfl ⟨rfl, rfl⟩
      · replace H := condF hc H
        refine WpC.skip ?_
        refine WpC.seq ?_
        refine WpC.seq ?_
        refine WpC.regionL ?_
        refine L.move hF rfl rfl rfl ?_
        refine L.not hF rfl rfl rfl ?_
        refine L.nil ?_
        refine WpC.cond rfl (fun hc => ?_) (fun hc => ?_)
        · replace H := condT hc H
          refine WpC.seq ?_
          refine WpC.regionL ?_
          refine L.move hF rfl rfl rfl ?_
          refine L.bin hF rfl rfl rfl rfl rfl rfl ?_
          refine L.assign hF rfl rfl rfl ?_
          refine L.nil ?_
          refine WpC.ret ?_
          cases H
          exact Leaves.ret rfl rfl rfl ⟨rfl, rfl⟩
        · replace H := condF hc H
          refine WpC.skip ?_
          refine WpC.seq ?_
          refine WpC.regionL ?_
          refine L.move hF rfl rfl rfl ?_
          obtain ⟨r6, hr6, H⟩ := bindS H
          refine L.call [false, false, false] [] [] 9 hF rfl rfl rfl ent34 rfl rfl rfl rfl rfl (Fimpl_Derive_gives k  r4.1 (2 : Int) (15 : Int) r6 hr6) rfl ?_
          refine L.move hF rfl rfl rfl ?_
          refine L.extract hF rfl rfl rfl rfl ?_
          refine L.extract hF rfl rfl rfl rfl ?_
          refine L.assign hF rfl rfl rfl ?_
          refine L.assign hF rfl rfl rfl ?_
          refine L.nil ?_
          refine WpC.join (fun σ => ∃ kj1 : Nat, ∃ v9 : Int, ∃ v10 : Int, kj1 ≤ K ∧ Flaws_FnFlags.j1 kj1 v9 v10 = some r ∧ σ = mkSt [(3, one (cI v9)), (6, one (cI v10))] [] [] 0) ?_ ?_
          · rintro _ ⟨kj1, v9, v10, hkj1, H, rfl⟩
            unfold Flaws_FnFlags.j1 at H
            refine WpC.seq ?_
            refine WpC.regionL ?_
            refine L.move hF rfl rfl rfl ?_
            refine L.move hF rfl rfl rfl ?_
            obtain ⟨r13, hr13, H⟩ := bindS H
            refine L.call [false, false] [] [] 0 hF rfl rfl rfl ent36 rfl rfl rfl rfl rfl (Fimpl_Below_gives kj1  v10 v9 r13 hr13) rfl ?_
            refine L.move hF rfl rfl rfl ?_
            refine L.split (fun hc => ?_) (fun hc => ?_)
            · replace H := condT hc H
              refine L.move hF rfl rfl rfl ?_
              refine L.move hF rfl rfl rfl ?_
              obtain ⟨r14, hr14, H⟩ := bindS H
              refine L.call [false, false] [] [] 1 hF rfl rfl rfl ent37 rfl rfl rfl rfl rfl (Fspec_Below_gives kj1  v10 v9 r14 hr14) rfl ?_
              refine L.pick hF rfl rfl rfl rfl ?_
              refine L.move hF rfl rfl rfl ?_
              refine L.split (fun hc => ?_) (fun hc => ?_)
              · replace H := condT hc H
                refine L.move hF rfl rfl rfl ?_
                refine L.quo hF rfl rfl rfl rfl (by decide) ?_
                refine L.rem hF rfl rfl rfl rfl (by decide) ?_
                refine L.bin hF rfl rfl rfl rfl rfl rfl ?_
                refine L.pick hF rfl rfl rfl rfl ?_
                refine L.move hF rfl rfl rfl ?_
                refine L.split (fun hc => ?_) (fun hc => ?_)
                · replace H := condT hc H
                  refine L.move hF rfl rfl rfl ?_
                  refine L.quo hF rfl rfl rfl rfl (by decide) ?_
                  refine L.rem hF rfl rfl rfl rfl (by decide) ?_
                  refine L.bin hF rfl rfl rfl rfl rfl rfl ?_
                  refine L.move hF rfl rfl rfl ?_
                  refine L.split (fun hc => ?_) (fun hc => ?_)
                  · replace H := condT hc H
                    refine L.off hF rfl rfl ?_
                    refine L.off hF rfl rfl ?_
                    refine L.off hF rfl rfl ?_
                    refine L.off hF rfl rfl ?_
                    refine L.pick hF rfl rfl rfl rfl ?_
                    refine L.pick hF rfl rfl rfl rfl ?_
                    refine L.move hF rfl rfl rfl ?_
                    refine L.move hF rfl rfl rfl ?_
                    refine L.quo hF rfl rfl rfl rfl (by decide) ?_
                    refine L.rem hF rfl rfl rfl rfl (by decide) ?_
                    refine L.bin hF rfl rfl rfl rfl rfl rfl ?_
                    refine L.move hF rfl rfl rfl ?_
                    refine L.split (fun hc => ?_) (fun hc => ?_)
                    · replace H := condT hc H
                      refine L.off hF rfl rfl ?_
                      refine L.off hF rfl rfl ?_
                      refine L.off hF rfl rfl ?_
                      refine L.off hF rfl rfl ?_
                      refine L.pick hF rfl rfl rfl rfl ?_
                      refine L.pick hF rfl rfl rfl rfl ?_
                      refine L.assign hF rfl rfl rfl ?_
                      refine L.nil ?_
                      refine WpC.ret ?_
                      cases H
                      exact Leaves.ret rfl rfl rfl ⟨rfl, rfl⟩
                    · replace H := condF hc H
                      refine L.move hF rfl rfl rfl ?_
                      refine L.quo hF rfl rfl rfl rfl (by decide) ?_
                      refine L.rem hF rfl rfl rfl rfl (by decide) ?_
                      refine L.bin hF rfl rfl rfl rfl rfl rfl ?_
                      refine L.pick hF rfl rfl rfl rfl ?_
                      refine L.pick hF rfl rfl rfl rfl ?_
                      refine L.assign hF rfl rfl rfl ?_
                      refine L.nil ?_
                      refine WpC.ret ?_
                      cases H
                      exact Leaves.ret rfl rfl rfl ⟨rfl, rfl⟩
                  · replace H := condF hc H
                    refine L.move hF rfl rfl rfl ?_
                    refine L.quo hF rfl rfl rfl rfl (by decide) ?_
                    refine L.rem hF rfl rfl rfl rfl (by decide) ?_
                    refine L.bin hF rfl rfl rfl rfl rfl rfl ?_
                    refine L.pick hF rfl rfl rfl rfl ?_
                    refine L.pick hF rfl rfl rfl rfl ?_
                    refine L.move hF rfl rfl rfl ?_
                    refine L.split (fun hc => ?_) (fun hc => ?_)
                    · replace H := condT hc H
                      refine L.move hF rfl rfl rfl ?_
                      refine L.quo hF rfl rfl rfl rfl (by decide) ?_
                      refine L.rem hF rfl rfl rfl rfl (by decide) ?_
                      refine L.bin hF rfl rfl rfl rfl rfl rfl ?_
                      refine L.move hF rfl rfl rfl ?_
                      refine L.split (fun hc => ?_) (fun hc => ?_)
                      · replace H := condT hc H
                        refine L.off hF rfl rfl ?_
                        refine L.off hF rfl rfl ?_
                        refine L.off hF rfl rfl ?_
                        refine L.off hF rfl rfl ?_
                        refine L.pick hF rfl rfl rfl rfl ?_
                        refine L.pick hF rfl rfl rfl rfl ?_
                        refine L.assign hF rfl rfl rfl ?_
                        refine L.nil ?_
                        refine WpC.ret ?_
                        cases H
                        exact Leaves.ret rfl rfl rfl ⟨rfl, rfl⟩
                      · replace H := condF hc H
                        refine L.move hF rfl rfl rfl ?_
                        refine L.quo hF rfl rfl rfl rfl (by decide) ?_
                        refine L.rem hF rfl rfl rfl rfl (by decide) ?_
                        refine L.bin hF rfl rfl rfl rfl rfl rfl ?_
                        refine L.pick hF rfl rfl rfl rfl ?_
                        refine L.pick hF rfl rfl rfl rfl ?_
                        refine L.assign hF rfl rfl rfl ?_
                        refine L.nil ?_
                        refine WpC.ret ?_
                        cases H
                        exact Leaves.ret rfl rfl rfl ⟨rfl, rfl⟩
                    · replace H := condF hc H
                      refine L.off hF rfl rfl ?_
                      refine L.off hF rfl rfl ?_
                      refine L.off hF rfl rfl ?_
                      refine L.off hF rfl rfl ?_
                      refine L.off hF rfl rfl ?_
                      refine L.off hF rfl rfl ?_
                      refine L.off hF rfl rfl ?_
                      refine L.off hF rfl rfl ?_
                      refine L.off hF rfl rfl ?_
                      refine L.off hF rfl rfl ?_
                      refine L.pick hF rfl rfl rfl rfl ?_
                      refine L.assign hF rfl rfl rfl ?_
                      refine L.nil ?_
                      refine WpC.ret ?_
                      cases H
                      exact Leaves.ret rfl rfl rfl ⟨rfl, rfl⟩
                · replace H := condF hc H
                  refine L.off hF rfl rfl ?_
                  refine L.off hF rfl rfl ?_
                  refine L.off hF rfl rfl ?_
                  refine L.off hF rfl rfl ?_
                  refine L.off hF rfl rfl ?_
                  refine L.off hF rfl rfl ?_
                  refine L.off hF rfl rfl ?_
                  refine L.off hF rfl rfl ?_
                  refine L.off hF rfl rfl ?_
                  refine L.off hF rfl rfl ?_
                  refine L.pick hF rfl rfl rfl rfl ?_
                  refine L.move hF rfl rfl rfl ?_
                  refine L.off hF rfl rfl ?_
                  refine L.off hF rfl rfl ?_
                  refine L.off hF rfl rfl ?_
                  refine L.off hF rfl rfl ?_
                  refine L.off hF rfl rfl ?_
                  refine L.off hF rfl rfl ?_
                  refine L.off hF rfl rfl ?_
                  refine L.off hF rfl rfl ?_
                  refine L.off hF rfl rfl ?_
                  refine L.off hF rfl rfl ?_
                  refine L.pick hF rfl rfl rfl rfl ?_
                  refine L.assign hF rfl rfl rfl ?_
                  refine L.nil ?_
                  refine WpC.ret ?_
                  cases H
                  exact Leaves.ret rfl rfl rfl ⟨rfl, rfl⟩
              · replace H := condF hc H
                refine L.off hF rfl rfl ?_
                refine L.off hF rfl rfl ?_
                refine L.off hF rfl rfl ?_
                refine L.off hF rfl rfl ?_
                refine L.pick hF rfl rfl rfl rfl ?_
                refine L.move hF rfl rfl rfl ?_
                refine L.off hF rfl rfl ?_
                refine L.off hF rfl rfl ?_
                refine L.off hF rfl rfl ?_
                refine L.off hF rfl rfl ?_
                refine L.off hF rfl rfl ?_
                refine L.off hF rfl rfl ?_
                refine L.off hF rfl rfl ?_
                refine L.off hF rfl rfl ?_
                refine L.off hF rfl rfl ?_
                refine L.off hF rfl rfl ?_
                refine L.pick hF rfl rfl rfl rfl ?_
                refine L.move hF rfl rfl rfl ?_
                refine L.off hF rfl rfl ?_
                refine L.off hF rfl rfl ?_
                refine L.off hF rfl rfl ?_
                refine L.off hF rfl rfl ?_
                refine L.off hF rfl rfl ?_
                refine L.off hF rfl rfl ?_
                refine L.off hF rfl rfl ?_
                refine L.off hF rfl rfl ?_
                refine L.off hF rfl rfl ?_
                refine L.off hF rfl rfl ?_
                refine L.pick hF rfl rfl rfl rfl ?_
                refine L.assign hF rfl rfl rfl ?_
                refine L.nil ?_
                refine WpC.ret ?_
                cases H
                exact Leaves.ret rfl rfl rfl ⟨rfl, rfl⟩
            · replace H := condF hc H
              refine L.off hF rfl rfl ?_
              refine L.off hF rfl rfl ?_
              refine L.off hF rfl rfl ?_
              refine L.pick hF rfl rfl rfl rfl ?_
              refine L.move hF rfl rfl rfl ?_
              refine L.off hF rfl rfl ?_
              refine L.off hF rfl rfl ?_
              refine L.off hF rfl rfl ?_
              refine L.off hF rfl rfl ?_
              refine L.pick hF rfl rfl rfl rfl ?_
              refine L.move hF rfl rfl rfl ?_
              refine L.off hF rfl rfl ?_
              refine L.off hF rfl rfl ?_
              refine L.off hF rfl rfl ?_
              refine L.off hF rfl rfl ?_
              refine L.off hF rfl rfl ?_
              refine L.off hF rfl rfl ?_
              refine L.off hF rfl rfl ?_
              refine L.off hF rfl rfl ?_
              refine L.off hF rfl rfl ?_
              refine L.off hF rfl rfl ?_
              refine L.pick hF rfl rfl rfl rfl ?_
              refine L.move hF rfl rfl rfl ?_
              refine L.off hF rfl rfl ?_
              refine L.off hF rfl rfl ?_
              refine L.off hF rfl rfl ?_
              refine L.off hF rfl rfl ?_
              refine L.off hF rfl rfl ?_
              refine L.off hF rfl rfl ?_
              refine L.off hF rfl rfl ?_
              refine L.off hF rfl rfl ?_
              refine L.off hF rfl rfl ?_
              refine L.off hF rfl rfl ?_
              refine L.pick hF rfl rfl rfl rfl ?_
              refine L.assign hF rfl rfl rfl ?_
              refine L.nil ?_
              refine WpC.ret ?_
              cases H
              exact Leaves.ret rfl rfl rfl ⟨rfl, rfl⟩
          · refine WpC.seq ?_
            refine WpC.regionL ?_
            refine L.move hF rfl rfl rfl ?_
            refine L.move hF rfl rfl rfl ?_
            refine L.split (fun hc => ?_) (fun hc => ?_)
            · replace H := condT hc H
              refine L.move hF rfl rfl rfl ?_
              refine L.move hF rfl rfl rfl ?_
              obtain ⟨r16, hr16, H⟩ := bindS H
              refine L.call [false, false] [] [] 11 hF rfl rfl rfl ent36 rfl rfl rfl rfl rfl (Fimpl_Below_gives k  r6.1 r3.1 r16 hr16) rfl ?_
              refine L.not hF rfl rfl rfl ?_
              refine L.move hF rfl rfl rfl ?_
              refine L.split (fun hc => ?_) (fun hc => ?_)
              · replace H := condT hc H
                refine L.off hF rfl rfl ?_
                refine L.off hF rfl rfl ?_
                refine L.off hF rfl rfl ?_
                refine L.off hF rfl rfl ?_
                refine L.pick hF rfl rfl rfl rfl ?_
                refine L.pick hF rfl rfl rfl rfl ?_
                refine L.nil ?_
                refine WpC.cond rfl (fun _ => ?_) (fun hc => by cases hc)
                refine WpC.seq ?_
                refine WpC.regionL ?_
                refine L.assign hF rfl rfl rfl ?_
                refine L.nil ?_
                refine WpC.ret ?_
                cases H
                exact Leaves.ret rfl rfl rfl ⟨rfl, rfl⟩
              · replace H := condF hc H
                refine L.move hF rfl rfl rfl ?_
                refine L.quo hF rfl rfl rfl rfl (by decide) ?_
                refine L.rem hF rfl rfl rfl rfl (by decide) ?_
                refine L.bin hF rfl rfl rfl rfl rfl rfl ?_
                refine L.pick hF rfl rfl rfl rfl ?_
                refine L.pick hF rfl rfl rfl rfl ?_
                refine L.nil ?_
                refine WpC.cond rfl (fun hc => ?_) (fun hc => ?_)
                · replace H := condT hc H
                  refine WpC.seq ?_
                  refine WpC.regionL ?_
                  refine L.assign hF rfl rfl rfl ?_
                  refine L.nil ?_
                  refine WpC.ret ?_
                  cases H
                  exact Leaves.ret rfl rfl rfl ⟨rfl, rfl⟩
                · replace H := condF hc H
                  refine WpC.skip ?_
                  exact ⟨_, ⟨k, r3.1, r4.1, by omega, H, rfl⟩, Le.mk [] hm rfl ⟨⟨_, rfl, rfl⟩, ⟨_, rfl, rfl⟩, trivial⟩ trivial trivial⟩
            · replace H := condF hc H
              refine L.off hF rfl rfl ?_
              refine L.off hF rfl rfl ?_
              refine L.off hF rfl rfl ?_
              refine L.off hF rfl rfl ?_
              refine L.off hF rfl rfl ?_
              refine L.off hF rfl rfl ?_
              refine L.off hF rfl rfl ?_
              refine L.off hF rfl rfl ?_
              refine L.off hF rfl rfl ?_
              refine L.off hF rfl rfl ?_
              refine L.pick hF rfl rfl rfl rfl ?_
              refine L.nil ?_
              refine WpC.cond rfl (fun hc => by cases hc) (fun _ => ?_)
              refine WpC.skip ?_
              exact ⟨_, ⟨k, r3.1, r4.1, by omega, H, rfl⟩, Le.mk [] hm rfl ⟨⟨_, rfl, rfl⟩, ⟨_, rfl, rfl⟩, trivial⟩ trivial trivial⟩
theorem open35 : Go.MG.Opens Try.prog 35 (Go.MG.eR Go.MG.eB) (Go.MG.wfR (fun _ => True)) := Go.MG.Opens.slice Try.underlying35 (Go.MG.Opens.u8 Try.underlying5) (fun _ => (by kernel_rfl : Try.prog.cellsOf 5 = 1).symm) (fun _ => rfl) (fun _ => rfl) (by kernel_rfl)
end Go.Proofs.Ytflcaebmammlfaa.M
