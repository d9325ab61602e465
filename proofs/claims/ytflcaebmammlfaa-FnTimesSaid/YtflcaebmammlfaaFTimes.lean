import Derived.Test.YtflcaebmammlfaaFTimesx1
import Derived.Test.YtflcaebmammlfaaProg
namespace Go.Proofs.Ytflcaebmammlfaa.M
open Go Go.MG
set_option linter.unusedVariables false
set_option linter.unusedSimpArgs false
/-! ### Flaws_at -/
def Flaws_at (k : Nat) (a0 : List UInt8) (a1 : Int) : Option Int := cond (decide (a1 < (a0.length : Int))) ((at? a0 a1).bind fun b2 => some (b2.toNat : Int)) (some (Int.tmod (IntKind.i64.wrap ((IntKind.i64.wrap (a1 * (37 : Int))) + (IntKind.i64.wrap ((a0.length : Int) * (11 : Int))))) (256 : Int)))
theorem ent38 : Enters Try.prog 38 := ⟨Try.f38, Try.func38, rfl, by decide⟩
set_option maxHeartbeats 8000000 in
set_option maxRecDepth 100000 in
theorem Flaws_at_gives (k : Nat) (g0 : Bool) (a0 : List UInt8) (a1 : Int) (r : Int) (H : Flaws_at k a0 a1 = some r) : Gives Try.prog 38 [V.one (Cell.sl g0 (List.map eB a0)), V.one (cI a1)] [] [V.one (cI r)] [] := by
  refine Gives.intro Try.func38 rfl rfl rfl rfl ?_
  intro F hF hm
  unfold Flaws_at at H
  obtain ⟨K, hK⟩ : ∃ K, k ≤ K := ⟨k, Nat.le_refl k⟩
  refine WpC.seq ?_
  refine WpC.regionL ?_
  refine L.assign hF rfl rfl rfl ?_
  refine L.nil ?_
  refine WpC.seq ?_
  refine WpC.seq ?_
  refine WpC.regionL ?_
  refine L.move hF rfl rfl rfl ?_
  refine L.move hF rfl rfl rfl ?_
  refine L.lenR (xs := a0) (e := eB) Try.underlying35 hF rfl rfl rfl rfl ?_
  refine L.bin hF rfl rfl rfl rfl rfl rfl ?_
  refine L.nil ?_
  refine WpC.cond rfl (fun hc => ?_) (fun hc => ?_)
  · replace H := condT hc H
    refine WpC.seq ?_
    refine WpC.regionL ?_
    refine L.move hF rfl rfl rfl ?_
    refine L.move hF rfl rfl rfl ?_
    obtain ⟨b2, hb2, H⟩ := bindS H
    refine L.idxR (xs := a0) (e := eB) Try.underlying35 info5 hF rfl rfl rfl rfl rfl hb2 rfl rfl ?_
    refine L.loadPe shape5 hF rfl rfl rfl rfl rfl ?_
    refine L.ofB Try.underlying5 Try.underlying3 hF rfl rfl rfl ?_
    refine L.assign hF rfl rfl rfl ?_
    refine L.nil ?_
    refine WpC.ret ?_
    cases H
    exact Leaves.ret rfl rfl rfl ⟨rfl, rfl⟩
  · replace H := condF hc H
    refine WpC.skip ?_
    refine WpC.seq ?_
    refine WpC.regionL ?_
    refine L.move hF rfl rfl rfl ?_
    refine L.bin hF rfl rfl rfl rfl rfl rfl ?_
    refine L.move hF rfl rfl rfl ?_
    refine L.lenR (xs := a0) (e := eB) Try.underlying35 hF rfl rfl rfl rfl ?_
    refine L.bin hF rfl rfl rfl rfl rfl rfl ?_
    refine L.bin hF rfl rfl rfl rfl rfl rfl ?_
    refine L.rem hF rfl rfl rfl rfl (by decide) ?_
    refine L.assign hF rfl rfl rfl ?_
    refine L.nil ?_
    refine WpC.ret ?_
    cases H
    exact Leaves.ret rfl rfl rfl ⟨rfl, rfl⟩
/-! ### Fspec_DrawLives -/
def Fspec_DrawLives (k : Nat) (a0 : List UInt8) : Option (Timpl_Times × Int × Int) := (Fspec_l1New k a0).bind fun r1 => (Fspec_l16Times k r1).bind fun r2 => (Fspec_l1Below k (90 : Int) r2.2).bind fun r3 => (Fspec_l1PickInt k ([(0 : Int), (1 : Int), (5 : Int), (100 : Int), (101 : Int), (-1 : Int)] : List Int) r3.2).bind fun r4 => some (r2.1, (IntKind.i64.wrap (r3.1 - (5 : Int))), r4.1)
theorem ent46 : Enters Try.prog 46 := ⟨Try.f46, Try.func46, rfl, by decide⟩
set_option maxHeartbeats 8000000 in
set_option maxRecDepth 100000 in
theorem Fspec_DrawLives_gives (k : Nat) (a0 : List UInt8) (r : Timpl_Times × Int × Int) (H : Fspec_DrawLives k a0 = some r) : Gives Try.prog 46 [V.one (Cell.sl true (List.map eB a0))] [] [V.agg [cI r.1.Auth, cI r.1.Start, cI r.1.End, cI r.1.Renew], V.one (cI r.2.1), V.one (cI r.2.2)] [] := by
  refine Gives.intro Try.func46 rfl rfl rfl rfl ?_
  intro F hF hm
  unfold Fspec_DrawLives at H
  obtain ⟨K, hK⟩ : ∃ K, k ≤ K := ⟨k, Nat.le_refl k⟩
  refine WpC.seq ?_
  refine WpC.regionL ?_
  refine L.alloc 1 info25 rfl hF rfl rfl rfl rfl ?_
  refine L.assign hF rfl rfl rfl ?_
  refine L.assign hF rfl rfl rfl ?_
  refine L.nil ?_
  refine WpC.seq ?_
  refine WpC.regionL ?_
  refine L.move hF rfl rfl rfl ?_
  obtain ⟨r1, hr1, H⟩ := bindS H
  refine L.call [false] [] [] 2 hF rfl rfl rfl ent95 rfl rfl rfl rfl rfl (Fspec_l1New_gives k  a0 r1 hr1) rfl ?_
  refine L.assign hF rfl rfl rfl ?_
  refine L.nil ?_
  refine WpC.seq ?_
  refine WpC.regionL ?_
  refine L.move hF rfl rfl rfl ?_
  obtain ⟨r2, hr2, H⟩ := bindS H
  refine L.call [false] [] [2] 3 hF rfl rfl rfl ent104 rfl rfl rfl rfl rfl (Fspec_l16Times_gives k  r1 r2 hr2) rfl ?_
  refine L.alloc 10 info25 rfl hF rfl rfl rfl rfl ?_
  refine L.storePtr shape25 hF rfl rfl rfl rfl rfl rfl rfl ?_
  refine L.nil ?_
  refine WpC.seq ?_
  obtain ⟨r3, hr3, H⟩ := bindS H
  obtain ⟨r4, hr4, H⟩ := bindS H
  refine A.begin mixed rfl rfl ?_
  intro W hI hO
  have n1023 : W 0 #[true, true, true, true, true, true, true, true, true, true] (mkSt [(2, one (Cell.ptr 0 0)), (3, one (cI (IntKind.i64.wrap (r3.1 - (5 : Int))))), (4, one (cI r4.1))] [] [(0, [cI r2.1.Auth, cI r2.1.Start, cI r2.1.End, cI r2.1.Renew])] 1) := by
    refine hI _ _ _ (A.done (by kernel_rfl) ?_)
    refine WpC.ret ?_
    cases H
    exact Leaves.ret rfl rfl rfl ⟨rfl, rfl⟩
  have n511 : W 1 #[true, true, true, true, true, true, true, true, true, false] (mkSt [(2, one (Cell.ptr 0 0)), (3, one (cI (IntKind.i64.wrap (r3.1 - (5 : Int))))), (4, one (cI (0 : Int))), (17, one (cI r4.1))] [] [(0, [cI r2.1.Auth, cI r2.1.Start, cI r2.1.End, cI r2.1.Renew])] 1) := by
    refine hI _ _ _ ?_
    refine A.take 9 rfl (by kernel_rfl) (by kernel_rfl) (by kernel_rfl) rfl (Ca.assign) (fun Q0 k0 => L.assign hF rfl rfl rfl (L.nil k0)) ?_
    exact A.on (hO _ _ _ n1023) (Le.mk [(0, 0)] hm rfl ⟨⟨_, rfl, rfl⟩, ⟨_, rfl, rfl⟩, ⟨_, rfl, rfl⟩, trivial⟩ trivial ⟨⟨_, _, rfl, rfl, rfl⟩, trivial⟩)
  have n255 : W 2 #[true, true, true, true, true, true, true, true, false, false] (mkSt [(2, one (Cell.ptr 0 0)), (3, one (cI (0 : Int))), (4, one (cI (0 : Int))), (14, one (cI (IntKind.i64.wrap (r3.1 - (5 : Int))))), (17, one (cI r4.1))] [] [(0, [cI r2.1.Auth, cI r2.1.Start, cI r2.1.End, cI r2.1.Renew])] 1) := by
    refine hI _ _ _ ?_
    refine A.take 8 rfl (by kernel_rfl) (by kernel_rfl) (by kernel_rfl) rfl (Ca.assign) (fun Q0 k0 => L.assign hF rfl rfl rfl (L.nil k0)) ?_
    exact A.on (hO _ _ _ n511) (Le.mk [(0, 0)] hm rfl ⟨⟨_, rfl, rfl⟩, ⟨_, rfl, rfl⟩, ⟨_, rfl, rfl⟩, ⟨_, rfl, rfl⟩, trivial⟩ trivial ⟨⟨_, _, rfl, rfl, rfl⟩, trivial⟩)
  have n127 : W 3 #[true, true, true, true, true, true, true, false, false, false] (mkSt [(2, one (Cell.ptr 0 0)), (3, one (cI (0 : Int))), (4, one (cI (0 : Int))), (11, agg [cI r2.1.Auth, cI r2.1.Start, cI r2.1.End, cI r2.1.Renew]), (14, one (cI (IntKind.i64.wrap (r3.1 - (5 : Int))))), (17, one (cI r4.1))] [] [(0, [cI (0 : Int), cI (0 : Int), cI (0 : Int), cI (0 : Int)])] 1) := by
    refine hI _ _ _ ?_
    refine A.all [7] (by kernel_rfl) rfl ⟨⟨_, rfl, ?_⟩, trivial⟩
    · refine L.storePtr shape25 hF rfl rfl rfl rfl rfl rfl rfl ?_
      refine L.nil ?_
      exact A.on (hO _ _ _ n255) (Le.mk [(0, 0)] hm rfl ⟨⟨_, rfl, rfl⟩, ⟨_, rfl, rfl⟩, ⟨_, rfl, rfl⟩, ⟨_, rfl, rfl⟩, ⟨_, rfl, rfl⟩, trivial⟩ trivial ⟨⟨_, _, rfl, rfl, rfl⟩, trivial⟩)
  have n126 : W 4 #[false, true, true, true, true, true, true, false, false, false] (mkSt [(2, one (Cell.ptr 0 0)), (3, one (cI (0 : Int))), (4, one (cI (0 : Int))), (6, one (Cell.ptr 1 0)), (14, one (cI (IntKind.i64.wrap (r3.1 - (5 : Int))))), (17, one (cI r4.1))] [] [(0, [cI (0 : Int), cI (0 : Int), cI (0 : Int), cI (0 : Int)]), (1, [cI r2.1.Auth, cI r2.1.Start, cI r2.1.End, cI r2.1.Renew])] 2) := by
    refine hI _ _ _ ?_
    refine A.all [0] (by kernel_rfl) rfl ⟨⟨_, rfl, ?_⟩, trivial⟩
    · refine L.loadPtr shape25 hF rfl rfl rfl rfl rfl rfl ?_
      refine L.nil ?_
      exact A.on (hO _ _ _ n127) (Le.mk [(0, 0)] hm rfl ⟨⟨_, rfl, rfl⟩, ⟨_, rfl, rfl⟩, ⟨_, rfl, rfl⟩, ⟨_, rfl, rfl⟩, ⟨_, rfl, rfl⟩, ⟨_, rfl, rfl⟩, trivial⟩ trivial ⟨⟨_, _, rfl, rfl, rfl⟩, trivial⟩)
  have n63 : W 4 #[true, true, true, true, true, true, false, false, false, false] (mkSt [(2, one (Cell.ptr 0 0)), (3, one (cI (0 : Int))), (4, one (cI (0 : Int))), (11, agg [cI r2.1.Auth, cI r2.1.Start, cI r2.1.End, cI r2.1.Renew]), (14, one (cI (IntKind.i64.wrap (r3.1 - (5 : Int))))), (15, one (Cell.ptr 1 0)), (16, one (Cell.own 2))] [(2, ⟨1, List.map eI ([(0 : Int), (1 : Int), (5 : Int), (100 : Int), (101 : Int), (-1 : Int)] : List Int)⟩)] [(0, [cI (0 : Int), cI (0 : Int), cI (0 : Int), cI (0 : Int)]), (1, [Cell.sl true (List.map eB r3.2.b), cI r3.2.i, cI r3.2.h])] 3) := by
    refine hI _ _ _ ?_
    refine A.all [6] (by kernel_rfl) rfl ⟨⟨_, rfl, ?_⟩, trivial⟩
    · refine L.call [false, false] [2] [1] 3 hF rfl rfl rfl ent105 rfl rfl rfl rfl rfl (Fspec_l1PickInt_gives k false ([(0 : Int), (1 : Int), (5 : Int), (100 : Int), (101 : Int), (-1 : Int)] : List Int) r3.2 r4 hr4) rfl ?_
      refine L.nil ?_
      exact A.on (hO _ _ _ n127) (Le.mk [(0, 0)] hm rfl ⟨⟨_, rfl, rfl⟩, ⟨_, rfl, rfl⟩, ⟨_, rfl, rfl⟩, ⟨_, rfl, rfl⟩, ⟨_, rfl, rfl⟩, ⟨_, rfl, rfl⟩, trivial⟩ trivial ⟨⟨_, _, rfl, rfl, rfl⟩, trivial⟩)
  have n31 : W 5 #[true, true, true, true, true, false, false, false, false, false] (mkSt [(2, one (Cell.ptr 0 0)), (3, one (cI (0 : Int))), (4, one (cI (0 : Int))), (11, agg [cI r2.1.Auth, cI r2.1.Start, cI r2.1.End, cI r2.1.Renew]), (14, one (cI (IntKind.i64.wrap (r3.1 - (5 : Int))))), (15, one (Cell.ptr 1 0))] [] [(0, [cI (0 : Int), cI (0 : Int), cI (0 : Int), cI (0 : Int)]), (1, [Cell.sl true (List.map eB r3.2.b), cI r3.2.i, cI r3.2.h])] 2) := by
    refine hI _ _ _ ?_
    refine A.all [5] (by kernel_rfl) rfl ⟨⟨_, rfl, ?_⟩, trivial⟩
    · refine L.buildSlice (e := eI) 2 ([(0 : Int), (1 : Int), (5 : Int), (100 : Int), (101 : Int), (-1 : Int)] : List Int) Try.underlying77 info3 rfl rfl rfl hF rfl rfl rfl rfl rfl rfl rfl rfl ?_
      refine L.nil ?_
      exact A.on (hO _ _ _ n63) (Le.mk [(0, 0), (1, 1), (2, 2)] hm rfl ⟨⟨_, rfl, rfl⟩, ⟨_, rfl, rfl⟩, ⟨_, rfl, rfl⟩, ⟨_, rfl, rfl⟩, ⟨_, rfl, rfl⟩, ⟨_, rfl, rfl⟩, ⟨_, rfl, rfl⟩, trivial⟩ ⟨⟨_, rfl, rfl⟩, trivial⟩ ⟨⟨_, _, rfl, rfl, rfl⟩, ⟨_, _, rfl, rfl, rfl⟩, trivial⟩)
  have n55 : W 5 #[true, true, true, false, true, true, false, false, false, false] (mkSt [(2, one (Cell.ptr 0 0)), (3, one (cI (0 : Int))), (4, one (cI (0 : Int))), (11, agg [cI r2.1.Auth, cI r2.1.Start, cI r2.1.End, cI r2.1.Renew]), (13, one (cI r3.1)), (15, one (Cell.ptr 1 0)), (16, one (Cell.own 2))] [(2, ⟨1, List.map eI ([(0 : Int), (1 : Int), (5 : Int), (100 : Int), (101 : Int), (-1 : Int)] : List Int)⟩)] [(0, [cI (0 : Int), cI (0 : Int), cI (0 : Int), cI (0 : Int)]), (1, [Cell.sl true (List.map eB r3.2.b), cI r3.2.i, cI r3.2.h])] 3) := by
    refine hI _ _ _ ?_
    refine A.take 3 rfl (by kernel_rfl) (by kernel_rfl) (by kernel_rfl) rfl (Ca.bin rfl rfl (calm_int _ _ _ _ _ _ _ _)) (fun Q0 k0 => L.bin hF rfl rfl rfl rfl rfl rfl (L.nil k0)) ?_
    exact A.on (hO _ _ _ n63) (Le.mk [(0, 0), (1, 1), (2, 2)] hm rfl ⟨⟨_, rfl, rfl⟩, ⟨_, rfl, rfl⟩, ⟨_, rfl, rfl⟩, ⟨_, rfl, rfl⟩, ⟨_, rfl, rfl⟩, ⟨_, rfl, rfl⟩, ⟨_, rfl, rfl⟩, trivial⟩ ⟨⟨_, rfl, rfl⟩, trivial⟩ ⟨⟨_, _, rfl, rfl, rfl⟩, ⟨_, _, rfl, rfl, rfl⟩, trivial⟩)
  have n62 : W 5 #[false, true, true, true, true, true, false, false, false, false] (mkSt [(2, one (Cell.ptr 0 0)), (3, one (cI (0 : Int))), (4, one (cI (0 : Int))), (6, one (Cell.ptr 1 0)), (14, one (cI (IntKind.i64.wrap (r3.1 - (5 : Int))))), (15, one (Cell.ptr 2 0)), (16, one (Cell.own 3))] [(3, ⟨1, List.map eI ([(0 : Int), (1 : Int), (5 : Int), (100 : Int), (101 : Int), (-1 : Int)] : List Int)⟩)] [(0, [cI (0 : Int), cI (0 : Int), cI (0 : Int), cI (0 : Int)]), (1, [cI r2.1.Auth, cI r2.1.Start, cI r2.1.End, cI r2.1.Renew]), (2, [Cell.sl true (List.map eB r3.2.b), cI r3.2.i, cI r3.2.h])] 4) := by
    refine hI _ _ _ ?_
    refine A.all [0, 6] (by kernel_rfl) rfl ⟨⟨_, rfl, ?_⟩, ⟨_, rfl, ?_⟩, trivial⟩
    · refine L.loadPtr shape25 hF rfl rfl rfl rfl rfl rfl ?_
      refine L.nil ?_
      exact A.on (hO _ _ _ n63) (Le.mk [(0, 0), (1, 2), (2, 3)] hm rfl ⟨⟨_, rfl, rfl⟩, ⟨_, rfl, rfl⟩, ⟨_, rfl, rfl⟩, ⟨_, rfl, rfl⟩, ⟨_, rfl, rfl⟩, ⟨_, rfl, rfl⟩, ⟨_, rfl, rfl⟩, trivial⟩ ⟨⟨_, rfl, rfl⟩, trivial⟩ ⟨⟨_, _, rfl, rfl, rfl⟩, ⟨_, _, rfl, rfl, rfl⟩, trivial⟩)
    · refine L.call [false, false] [3] [2] 4 hF rfl rfl rfl ent105 rfl rfl rfl rfl rfl (Fspec_l1PickInt_gives k false ([(0 : Int), (1 : Int), (5 : Int), (100 : Int), (101 : Int), (-1 : Int)] : List Int) r3.2 r4 hr4) rfl ?_
      refine L.nil ?_
      exact A.on (hO _ _ _ n126) (Le.mk [(0, 0), (1, 1)] hm rfl ⟨⟨_, rfl, rfl⟩, ⟨_, rfl, rfl⟩, ⟨_, rfl, rfl⟩, ⟨_, rfl, rfl⟩, ⟨_, rfl, rfl⟩, ⟨_, rfl, rfl⟩, trivial⟩ trivial ⟨⟨_, _, rfl, rfl, rfl⟩, ⟨_, _, rfl, rfl, rfl⟩, trivial⟩)
  have n23 : W 6 #[true, true, true, false, true, false, false, false, false, false] (mkSt [(2, one (Cell.ptr 0 0)), (3, one (cI (0 : Int))), (4, one (cI (0 : Int))), (11, agg [cI r2.1.Auth, cI r2.1.Start, cI r2.1.End, cI r2.1.Renew]), (13, one (cI r3.1)), (15, one (Cell.ptr 1 0))] [] [(0, [cI (0 : Int), cI (0 : Int), cI (0 : Int), cI (0 : Int)]), (1, [Cell.sl true (List.map eB r3.2.b), cI r3.2.i, cI r3.2.h])] 2) := by
    refine hI _ _ _ ?_
    refine A.take 3 rfl (by kernel_rfl) (by kernel_rfl) (by kernel_rfl) rfl (Ca.bin rfl rfl (calm_int _ _ _ _ _ _ _ _)) (fun Q0 k0 => L.bin hF rfl rfl rfl rfl rfl rfl (L.nil k0)) ?_
    exact A.on (hO _ _ _ n31) (Le.mk [(0, 0), (1, 1)] hm rfl ⟨⟨_, rfl, rfl⟩, ⟨_, rfl, rfl⟩, ⟨_, rfl, rfl⟩, ⟨_, rfl, rfl⟩, ⟨_, rfl, rfl⟩, ⟨_, rfl, rfl⟩, trivial⟩ trivial ⟨⟨_, _, rfl, rfl, rfl⟩, ⟨_, _, rfl, rfl, rfl⟩, trivial⟩)
  have n30 : W 6 #[false, true, true, true, true, false, false, false, false, false] (mkSt [(2, one (Cell.ptr 0 0)), (3, one (cI (0 : Int))), (4, one (cI (0 : Int))), (6, one (Cell.ptr 1 0)), (14, one (cI (IntKind.i64.wrap (r3.1 - (5 : Int))))), (15, one (Cell.ptr 2 0))] [] [(0, [cI (0 : Int), cI (0 : Int), cI (0 : Int), cI (0 : Int)]), (1, [cI r2.1.Auth, cI r2.1.Start, cI r2.1.End, cI r2.1.Renew]), (2, [Cell.sl true (List.map eB r3.2.b), cI r3.2.i, cI r3.2.h])] 3) := by
    refine hI _ _ _ ?_
    refine A.all [0, 5] (by kernel_rfl) rfl ⟨⟨_, rfl, ?_⟩, ⟨_, rfl, ?_⟩, trivial⟩
    · refine L.loadPtr shape25 hF rfl rfl rfl rfl rfl rfl ?_
      refine L.nil ?_
      exact A.on (hO _ _ _ n31) (Le.mk [(0, 0), (1, 2)] hm rfl ⟨⟨_, rfl, rfl⟩, ⟨_, rfl, rfl⟩, ⟨_, rfl, rfl⟩, ⟨_, rfl, rfl⟩, ⟨_, rfl, rfl⟩, ⟨_, rfl, rfl⟩, trivial⟩ trivial ⟨⟨_, _, rfl, rfl, rfl⟩, ⟨_, _, rfl, rfl, rfl⟩, trivial⟩)
    · refine L.buildSlice (e := eI) 3 ([(0 : Int), (1 : Int), (5 : Int), (100 : Int), (101 : Int), (-1 : Int)] : List Int) Try.underlying77 info3 rfl rfl rfl hF rfl rfl rfl rfl rfl rfl rfl rfl ?_
      refine L.nil ?_
      exact A.on (hO _ _ _ n62) (Le.mk [(0, 0), (1, 1), (2, 2), (3, 3)] hm rfl ⟨⟨_, rfl, rfl⟩, ⟨_, rfl, rfl⟩, ⟨_, rfl, rfl⟩, ⟨_, rfl, rfl⟩, ⟨_, rfl, rfl⟩, ⟨_, rfl, rfl⟩, ⟨_, rfl, rfl⟩, trivial⟩ ⟨⟨_, rfl, rfl⟩, trivial⟩ ⟨⟨_, _, rfl, rfl, rfl⟩, ⟨_, _, rfl, rfl, rfl⟩, ⟨_, _, rfl, rfl, rfl⟩, trivial⟩)
  have n51 : W 6 #[true, true, false, false, true, true, false, false, false, false] (mkSt [(2, one (Cell.ptr 0 0)), (3, one (cI (0 : Int))), (4, one (cI (0 : Int))), (11, agg [cI r2.1.Auth, cI r2.1.Start, cI r2.1.End, cI r2.1.Renew]), (12, one (Cell.ptr 1 0)), (15, one (Cell.ptr 1 0)), (16, one (Cell.own 2))] [(2, ⟨1, List.map eI ([(0 : Int), (1 : Int), (5 : Int), (100 : Int), (101 : Int), (-1 : Int)] : List Int)⟩)] [(0, [cI (0 : Int), cI (0 : Int), cI (0 : Int), cI (0 : Int)]), (1, [Cell.sl true (List.map eB r2.2.b), cI r2.2.i, cI r2.2.h])] 3) := by
    refine hI _ _ _ ?_
    refine A.all [2] (by kernel_rfl) rfl ⟨⟨_, rfl, ?_⟩, trivial⟩
    · refine L.call [false, false] [] [1] 3 hF rfl rfl rfl ent97 rfl rfl rfl rfl rfl (Fspec_l1Below_gives k  (90 : Int) r2.2 r3 hr3) rfl ?_
      refine L.nil ?_
      exact A.on (hO _ _ _ n55) (Le.mk [(0, 0), (1, 1), (2, 2)] hm rfl ⟨⟨_, rfl, rfl⟩, ⟨_, rfl, rfl⟩, ⟨_, rfl, rfl⟩, ⟨_, rfl, rfl⟩, ⟨_, rfl, rfl⟩, ⟨_, rfl, rfl⟩, ⟨_, rfl, rfl⟩, trivial⟩ ⟨⟨_, rfl, rfl⟩, trivial⟩ ⟨⟨_, _, rfl, rfl, rfl⟩, ⟨_, _, rfl, rfl, rfl⟩, trivial⟩)
  have n54 : W 6 #[false, true, true, false, true, true, false, false, false, false] (mkSt [(2, one (Cell.ptr 0 0)), (3, one (cI (0 : Int))), (4, one (cI (0 : Int))), (6, one (Cell.ptr 1 0)), (13, one (cI r3.1)), (15, one (Cell.ptr 2 0)), (16, one (Cell.own 3))] [(3, ⟨1, List.map eI ([(0 : Int), (1 : Int), (5 : Int), (100 : Int), (101 : Int), (-1 : Int)] : List Int)⟩)] [(0, [cI (0 : Int), cI (0 : Int), cI (0 : Int), cI (0 : Int)]), (1, [cI r2.1.Auth, cI r2.1.Start, cI r2.1.End, cI r2.1.Renew]), (2, [Cell.sl true (List.map eB r3.2.b), cI r3.2.i, cI r3.2.h])] 4) := by
    refine hI _ _ _ ?_
    refine A.take 3 rfl (by kernel_rfl) (by kernel_rfl) (by kernel_rfl) rfl (Ca.bin rfl rfl (calm_int _ _ _ _ _ _ _ _)) (fun Q0 k0 => L.bin hF rfl rfl rfl rfl rfl rfl (L.nil k0)) ?_
    exact A.on (hO _ _ _ n62) (Le.mk [(0, 0), (1, 1), (2, 2), (3, 3)] hm rfl ⟨⟨_, rfl, rfl⟩, ⟨_, rfl, rfl⟩, ⟨_, rfl, rfl⟩, ⟨_, rfl, rfl⟩, ⟨_, rfl, rfl⟩, ⟨_, rfl, rfl⟩, ⟨_, rfl, rfl⟩, trivial⟩ ⟨⟨_, rfl, rfl⟩, trivial⟩ ⟨⟨_, _, rfl, rfl, rfl⟩, ⟨_, _, rfl, rfl, rfl⟩, ⟨_, _, rfl, rfl, rfl⟩, trivial⟩)
  have n19 : W 7 #[true, true, false, false, true, false, false, false, false, false] (mkSt [(2, one (Cell.ptr 0 0)), (3, one (cI (0 : Int))), (4, one (cI (0 : Int))), (11, agg [cI r2.1.Auth, cI r2.1.Start, cI r2.1.End, cI r2.1.Renew]), (12, one (Cell.ptr 1 0)), (15, one (Cell.ptr 1 0))] [] [(0, [cI (0 : Int), cI (0 : Int), cI (0 : Int), cI (0 : Int)]), (1, [Cell.sl true (List.map eB r2.2.b), cI r2.2.i, cI r2.2.h])] 2) := by
    refine hI _ _ _ ?_
    refine A.all [2, 5] (by kernel_rfl) rfl ⟨⟨_, rfl, ?_⟩, ⟨_, rfl, ?_⟩, trivial⟩
    · refine L.call [false, false] [] [1] 2 hF rfl rfl rfl ent97 rfl rfl rfl rfl rfl (Fspec_l1Below_gives k  (90 : Int) r2.2 r3 hr3) rfl ?_
      refine L.nil ?_
      exact A.on (hO _ _ _ n23) (Le.mk [(0, 0), (1, 1)] hm rfl ⟨⟨_, rfl, rfl⟩, ⟨_, rfl, rfl⟩, ⟨_, rfl, rfl⟩, ⟨_, rfl, rfl⟩, ⟨_, rfl, rfl⟩, ⟨_, rfl, rfl⟩, trivial⟩ trivial ⟨⟨_, _, rfl, rfl, rfl⟩, ⟨_, _, rfl, rfl, rfl⟩, trivial⟩)
    · refine L.buildSlice (e := eI) 2 ([(0 : Int), (1 : Int), (5 : Int), (100 : Int), (101 : Int), (-1 : Int)] : List Int) Try.underlying77 info3 rfl rfl rfl hF rfl rfl rfl rfl rfl rfl rfl rfl ?_
      refine L.nil ?_
      exact A.on (hO _ _ _ n51) (Le.mk [(0, 0), (1, 1), (2, 2)] hm rfl ⟨⟨_, rfl, rfl⟩, ⟨_, rfl, rfl⟩, ⟨_, rfl, rfl⟩, ⟨_, rfl, rfl⟩, ⟨_, rfl, rfl⟩, ⟨_, rfl, rfl⟩, ⟨_, rfl, rfl⟩, trivial⟩ ⟨⟨_, rfl, rfl⟩, trivial⟩ ⟨⟨_, _, rfl, rfl, rfl⟩, ⟨_, _, rfl, rfl, rfl⟩, trivial⟩)
  have n22 : W 7 #[false, true, true, false, true, false, false, false, false, false] (mkSt [(2, one (Cell.ptr 0 0)), (3, one (cI (0 : Int))), (4, one (cI (0 : Int))), (6, one (Cell.ptr 1 0)), (13, one (cI r3.1)), (15, one (Cell.ptr 2 0))] [] [(0, [cI (0 : Int), cI (0 : Int), cI (0 : Int), cI (0 : Int)]), (1, [cI r2.1.Auth, cI r2.1.Start, cI r2.1.End, cI r2.1.Renew]), (2, [Cell.sl true (List.map eB r3.2.b), cI r3.2.i, cI r3.2.h])] 3) := by
    refine hI _ _ _ ?_
    refine A.take 3 rfl (by kernel_rfl) (by kernel_rfl) (by kernel_rfl) rfl (Ca.bin rfl rfl (calm_int _ _ _ _ _ _ _ _)) (fun Q0 k0 => L.bin hF rfl rfl rfl rfl rfl rfl (L.nil k0)) ?_
    exact A.on (hO _ _ _ n30) (Le.mk [(0, 0), (1, 1), (2, 2)] hm rfl ⟨⟨_, rfl, rfl⟩, ⟨_, rfl, rfl⟩, ⟨_, rfl, rfl⟩, ⟨_, rfl, rfl⟩, ⟨_, rfl, rfl⟩, ⟨_, rfl, rfl⟩, trivial⟩ trivial ⟨⟨_, _, rfl, rfl, rfl⟩, ⟨_, _, rfl, rfl, rfl⟩, ⟨_, _, rfl, rfl, rfl⟩, trivial⟩)
  have n50 : W 7 #[false, true, false, false, true, true, false, false, false, false] (mkSt [(2, one (Cell.ptr 0 0)), (3, one (cI (0 : Int))), (4, one (cI (0 : Int))), (6, one (Cell.ptr 1 0)), (12, one (Cell.ptr 2 0)), (15, one (Cell.ptr 2 0)), (16, one (Cell.own 3))] [(3, ⟨1, List.map eI ([(0 : Int), (1 : Int), (5 : Int), (100 : Int), (101 : Int), (-1 : Int)] : List Int)⟩)] [(0, [cI (0 : Int), cI (0 : Int), cI (0 : Int), cI (0 : Int)]), (1, [cI r2.1.Auth, cI r2.1.Start, cI r2.1.End, cI r2.1.Renew]), (2, [Cell.sl true (List.map eB r2.2.b), cI r2.2.i, cI r2.2.h])] 4) := by
    refine hI _ _ _ ?_
    refine A.all [0, 2] (by kernel_rfl) rfl ⟨⟨_, rfl, ?_⟩, ⟨_, rfl, ?_⟩, trivial⟩
    · refine L.loadPtr shape25 hF rfl rfl rfl rfl rfl rfl ?_
      refine L.nil ?_
      exact A.on (hO _ _ _ n51) (Le.mk [(0, 0), (1, 2), (2, 3)] hm rfl ⟨⟨_, rfl, rfl⟩, ⟨_, rfl, rfl⟩, ⟨_, rfl, rfl⟩, ⟨_, rfl, rfl⟩, ⟨_, rfl, rfl⟩, ⟨_, rfl, rfl⟩, ⟨_, rfl, rfl⟩, trivial⟩ ⟨⟨_, rfl, rfl⟩, trivial⟩ ⟨⟨_, _, rfl, rfl, rfl⟩, ⟨_, _, rfl, rfl, rfl⟩, trivial⟩)
    · refine L.call [false, false] [] [2] 4 hF rfl rfl rfl ent97 rfl rfl rfl rfl rfl (Fspec_l1Below_gives k  (90 : Int) r2.2 r3 hr3) rfl ?_
      refine L.nil ?_
      exact A.on (hO _ _ _ n54) (Le.mk [(0, 0), (1, 1), (2, 2), (3, 3)] hm rfl ⟨⟨_, rfl, rfl⟩, ⟨_, rfl, rfl⟩, ⟨_, rfl, rfl⟩, ⟨_, rfl, rfl⟩, ⟨_, rfl, rfl⟩, ⟨_, rfl, rfl⟩, ⟨_, rfl, rfl⟩, trivial⟩ ⟨⟨_, rfl, rfl⟩, trivial⟩ ⟨⟨_, _, rfl, rfl, rfl⟩, ⟨_, _, rfl, rfl, rfl⟩, ⟨_, _, rfl, rfl, rfl⟩, trivial⟩)
  have n18 : W 8 #[false, true, false, false, true, false, false, false, false, false] (mkSt [(2, one (Cell.ptr 0 0)), (3, one (cI (0 : Int))), (4, one (cI (0 : Int))), (6, one (Cell.ptr 1 0)), (12, one (Cell.ptr 2 0)), (15, one (Cell.ptr 2 0))] [] [(0, [cI (0 : Int), cI (0 : Int), cI (0 : Int), cI (0 : Int)]), (1, [cI r2.1.Auth, cI r2.1.Start, cI r2.1.End, cI r2.1.Renew]), (2, [Cell.sl true (List.map eB r2.2.b), cI r2.2.i, cI r2.2.h])] 3) := by
    refine hI _ _ _ ?_
    refine A.all [0, 2, 5] (by kernel_rfl) rfl ⟨⟨_, rfl, ?_⟩, ⟨_, rfl, ?_⟩, ⟨_, rfl, ?_⟩, trivial⟩
    · refine L.loadPtr shape25 hF rfl rfl rfl rfl rfl rfl ?_
      refine L.nil ?_
      exact A.on (hO _ _ _ n19) (Le.mk [(0, 0), (1, 2)] hm rfl ⟨⟨_, rfl, rfl⟩, ⟨_, rfl, rfl⟩, ⟨_, rfl, rfl⟩, ⟨_, rfl, rfl⟩, ⟨_, rfl, rfl⟩, ⟨_, rfl, rfl⟩, trivial⟩ trivial ⟨⟨_, _, rfl, rfl, rfl⟩, ⟨_, _, rfl, rfl, rfl⟩, trivial⟩)
    · refine L.call [false, false] [] [2] 3 hF rfl rfl rfl ent97 rfl rfl rfl rfl rfl (Fspec_l1Below_gives k  (90 : Int) r2.2 r3 hr3) rfl ?_
      refine L.nil ?_
      exact A.on (hO _ _ _ n22) (Le.mk [(0, 0), (1, 1), (2, 2)] hm rfl ⟨⟨_, rfl, rfl⟩, ⟨_, rfl, rfl⟩, ⟨_, rfl, rfl⟩, ⟨_, rfl, rfl⟩, ⟨_, rfl, rfl⟩, ⟨_, rfl, rfl⟩, trivial⟩ trivial ⟨⟨_, _, rfl, rfl, rfl⟩, ⟨_, _, rfl, rfl, rfl⟩, ⟨_, _, rfl, rfl, rfl⟩, trivial⟩)
    · refine L.buildSlice (e := eI) 3 ([(0 : Int), (1 : Int), (5 : Int), (100 : Int), (101 : Int), (-1 : Int)] : List Int) Try.underlying77 info3 rfl rfl rfl hF rfl rfl rfl rfl rfl rfl rfl rfl ?_
      refine L.nil ?_
      exact A.on (hO _ _ _ n50) (Le.mk [(0, 0), (1, 1), (2, 2), (3, 3)] hm rfl ⟨⟨_, rfl, rfl⟩, ⟨_, rfl, rfl⟩, ⟨_, rfl, rfl⟩, ⟨_, rfl, rfl⟩, ⟨_, rfl, rfl⟩, ⟨_, rfl, rfl⟩, ⟨_, rfl, rfl⟩, trivial⟩ ⟨⟨_, rfl, rfl⟩, trivial⟩ ⟨⟨_, _, rfl, rfl, rfl⟩, ⟨_, _, rfl, rfl, rfl⟩, ⟨_, _, rfl, rfl, rfl⟩, trivial⟩)
  have n2 : W 9 #[false, true, false, false, false, false, false, false, false, false] (mkSt [(2, one (Cell.ptr 0 0)), (3, one (cI (0 : Int))), (4, one (cI (0 : Int))), (5, one (Cell.ptr 1 0)), (6, one (Cell.ptr 2 0)), (12, one (Cell.ptr 1 0))] [] [(0, [cI (0 : Int), cI (0 : Int), cI (0 : Int), cI (0 : Int)]), (1, [Cell.sl true (List.map eB r2.2.b), cI r2.2.i, cI r2.2.h]), (2, [cI r2.1.Auth, cI r2.1.Start, cI r2.1.End, cI r2.1.Renew])] 3) := by
    refine hI _ _ _ ?_
    refine A.take 4 rfl (by kernel_rfl) (by kernel_rfl) (by kernel_rfl) rfl (Ca.move) (fun Q0 k0 => L.move hF rfl rfl rfl (L.nil k0)) ?_
    exact A.on (hO _ _ _ n18) (Le.mk [(0, 0), (1, 2), (2, 1)] hm rfl ⟨⟨_, rfl, rfl⟩, ⟨_, rfl, rfl⟩, ⟨_, rfl, rfl⟩, ⟨_, rfl, rfl⟩, ⟨_, rfl, rfl⟩, ⟨_, rfl, rfl⟩, trivial⟩ trivial ⟨⟨_, _, rfl, rfl, rfl⟩, ⟨_, _, rfl, rfl, rfl⟩, ⟨_, _, rfl, rfl, rfl⟩, trivial⟩)
  have n0 : W 10 #[false, false, false, false, false, false, false, false, false, false] (mkSt [(2, one (Cell.ptr 0 0)), (3, one (cI (0 : Int))), (4, one (cI (0 : Int))), (5, one (Cell.ptr 1 0)), (6, one (Cell.ptr 2 0))] [] [(0, [cI (0 : Int), cI (0 : Int), cI (0 : Int), cI (0 : Int)]), (1, [Cell.sl true (List.map eB r2.2.b), cI r2.2.i, cI r2.2.h]), (2, [cI r2.1.Auth, cI r2.1.Start, cI r2.1.End, cI r2.1.Renew])] 3) := by
    refine hI _ _ _ ?_
    refine A.take 1 rfl (by kernel_rfl) (by kernel_rfl) (by kernel_rfl) rfl (Ca.move) (fun Q0 k0 => L.move hF rfl rfl rfl (L.nil k0)) ?_
    exact A.on (hO _ _ _ n2) (Le.mk [(0, 0), (1, 1), (2, 2)] hm rfl ⟨⟨_, rfl, rfl⟩, ⟨_, rfl, rfl⟩, ⟨_, rfl, rfl⟩, ⟨_, rfl, rfl⟩, ⟨_, rfl, rfl⟩, ⟨_, rfl, rfl⟩, trivial⟩ trivial ⟨⟨_, _, rfl, rfl, rfl⟩, ⟨_, _, rfl, rfl, rfl⟩, ⟨_, _, rfl, rfl, rfl⟩, trivial⟩)
  exact hI _ _ _ (A.on (hO _ _ _ n0) (Le.mk [(0, 1), (1, 2), (2, 10)] hm rfl ⟨⟨_, rfl, rfl⟩, ⟨_, rfl, rfl⟩, ⟨_, rfl, rfl⟩, ⟨_, rfl, rfl⟩, ⟨_, rfl, rfl⟩, trivial⟩ trivial ⟨⟨_, _, rfl, rfl, rfl⟩, ⟨_, _, rfl, rfl, rfl⟩, ⟨_, _, rfl, rfl, rfl⟩, trivial⟩))
/-! ### Fimpl_Lives -/
def Fimpl_Lives (k : Nat) (a0 : Timpl_Times) (a1 : Int) (a2 : Int) : Option Bool := (Fimpl_TimesOk k a0).bind fun r4 => cond r4 ((Fimpl_within k a2 (0 : Int) (100 : Int)).bind fun r5 => cond r5 ((Fimpl_within k a1 (IntKind.i64.wrap (a0.Start - a2)) (IntKind.i64.wrap (a0.End + a2))).bind fun r6 => some r6) (some false)) (some false)
theorem ent26 : Enters Try.prog 26 := ⟨Try.f26, Try.func26, rfl, by decide⟩
set_option maxHeartbeats 8000000 in
set_option maxRecDepth 100000 in
theorem Fimpl_Lives_gives (k : Nat) (a0 : Timpl_Times) (a1 : Int) (a2 : Int) (r : Bool) (H : Fimpl_Lives k a0 a1 a2 = some r) : Gives Try.prog 26 [V.agg [cI a0.Auth, cI a0.Start, cI a0.End, cI a0.Renew], V.one (cI a1), V.one (cI a2)] [] [V.one (cL r)] [] := by
  refine Gives.intro Try.func26 rfl rfl rfl rfl ?_
  intro F hF hm
  unfold Fimpl_Lives at H
  obtain ⟨K, hK⟩ : ∃ K, k ≤ K := ⟨k, Nat.le_refl k⟩
  refine WpC.seq ?_
  refine WpC.regionL ?_
  refine L.box 6 hF rfl rfl rfl rfl ?_
  refine L.assign hF rfl rfl rfl ?_
  refine L.nil ?_
  refine WpC.seq ?_
  refine WpC.regionL ?_
  refine L.loadPtr shape25 hF rfl rfl rfl rfl rfl rfl ?_
  obtain ⟨r4, hr4, H⟩ := bindS H
  refine L.call [false] [] [] 7 hF rfl rfl rfl ent24 rfl rfl rfl rfl rfl (Fimpl_TimesOk_gives k  a0 r4 hr4) rfl ?_
  refine L.move hF rfl rfl rfl ?_
  refine L.split (fun hc => ?_) (fun hc => ?_)
  · replace H := condT hc H
    refine L.move hF rfl rfl rfl ?_
    obtain ⟨r5, hr5, H⟩ := bindS H
    refine L.call [false, false, false] [] [] 8 hF rfl rfl rfl ent93 rfl rfl rfl rfl rfl (Fimpl_within_gives k  a2 (0 : Int) (100 : Int) r5 hr5) rfl ?_
    refine L.pick hF rfl rfl rfl rfl ?_
    refine L.move hF rfl rfl rfl ?_
    refine L.split (fun hc => ?_) (fun hc => ?_)
    · replace H := condT hc H
      refine L.move hF rfl rfl rfl ?_
      refine L.fieldAddr Try.underlying25 rfl info3 rfl hF rfl rfl rfl rfl rfl ?_
      refine L.loadPtr shape3 hF rfl rfl rfl rfl rfl rfl ?_
      refine L.move hF rfl rfl rfl ?_
      refine L.bin hF rfl rfl rfl rfl rfl rfl ?_
      refine L.fieldAddr Try.underlying25 rfl info3 rfl hF rfl rfl rfl rfl rfl ?_
      refine L.loadPtr shape3 hF rfl rfl rfl rfl rfl rfl ?_
      refine L.move hF rfl rfl rfl ?_
      refine L.bin hF rfl rfl rfl rfl rfl rfl ?_
      obtain ⟨r6, hr6, H⟩ := bindS H
      refine L.call [false, false, false] [] [] 9 hF rfl rfl rfl ent93 rfl rfl rfl rfl rfl (Fimpl_within_gives k  a1 (IntKind.i64.wrap (a0.Start - a2)) (IntKind.i64.wrap (a0.End + a2)) r6 hr6) rfl ?_
      refine L.pick hF rfl rfl rfl rfl ?_
      refine L.assign hF rfl rfl rfl ?_
      refine L.nil ?_
      refine WpC.ret ?_
      cases H
      exact Leaves.ret rfl rfl rfl ⟨rfl, rfl⟩
    · replace H := condF hc H
      refine L.off hF rfl rfl ?_
      refine L.off hF rfl rfl ?_
      refine L.off hF rfl rfl ?_
      refine L.off hF rfl rfl ?_
      refine L.off hF rfl rfl ?_
      refine L.off hF rfl rfl ?_
      refine L.off hF rfl rfl ?_
      refine L.off hF rfl rfl ?_
      refine L.off hF rfl rfl ?_
      refine L.off hF rfl rfl ?_
      refine L.pick hF rfl rfl rfl rfl ?_
      refine L.assign hF rfl rfl rfl ?_
      refine L.nil ?_
      refine WpC.ret ?_
      cases H
      exact Leaves.ret rfl rfl rfl ⟨rfl, rfl⟩
  · replace H := condF hc H
    refine L.off hF rfl rfl ?_
    refine L.off hF rfl rfl ?_
    refine L.pick hF rfl rfl rfl rfl ?_
    refine L.move hF rfl rfl rfl ?_
    refine L.off hF rfl rfl ?_
    refine L.off hF rfl rfl ?_
    refine L.off hF rfl rfl ?_
    refine L.off hF rfl rfl ?_
    refine L.off hF rfl rfl ?_
    refine L.off hF rfl rfl ?_
    refine L.off hF rfl rfl ?_
    refine L.off hF rfl rfl ?_
    refine L.off hF rfl rfl ?_
    refine L.off hF rfl rfl ?_
    refine L.pick hF rfl rfl rfl rfl ?_
    refine L.assign hF rfl rfl rfl ?_
    refine L.nil ?_
    refine WpC.ret ?_
    cases H
    exact Leaves.ret rfl rfl rfl ⟨rfl, rfl⟩
/-! ### Fspec_Lives -/
def Fspec_Lives (k : Nat) (a0 : Timpl_Times) (a1 : Int) (a2 : Int) : Option Bool := (Fspec_TimesOk k a0).bind fun r3 => cond r3 ((Fspec_l1In k a2 (0 : Int) (100 : Int)).bind fun r4 => cond r4 (cond (decide (a1 ≥ (IntKind.i64.wrap (a0.Start - a2)))) (some (decide (a1 ≤ (IntKind.i64.wrap (a0.End + a2))))) (some false)) (some false)) (some false)
theorem ent25 : Enters Try.prog 25 := ⟨Try.f25, Try.func25, rfl, by decide⟩
set_option maxHeartbeats 8000000 in
set_option maxRecDepth 100000 in
theorem Fspec_Lives_gives (k : Nat) (a0 : Timpl_Times) (a1 : Int) (a2 : Int) (r : Bool) (H : Fspec_Lives k a0 a1 a2 = some r) : Gives Try.prog 25 [V.agg [cI a0.Auth, cI a0.Start, cI a0.End, cI a0.Renew], V.one (cI a1), V.one (cI a2)] [] [V.one (cL r)] [] := by
  refine Gives.intro Try.func25 rfl rfl rfl rfl ?_
  intro F hF hm
  unfold Fspec_Lives at H
  obtain ⟨K, hK⟩ : ∃ K, k ≤ K := ⟨k, Nat.le_refl k⟩
  refine WpC.seq ?_
  refine WpC.regionL ?_
  refine L.box 6 hF rfl rfl rfl rfl ?_
  refine L.assign hF rfl rfl rfl ?_
  refine L.nil ?_
  refine WpC.seq ?_
  refine WpC.regionL ?_
  refine L.loadPtr shape25 hF rfl rfl rfl rfl rfl rfl ?_
  obtain ⟨r3, hr3, H⟩ := bindS H
  refine L.call [false] [] [] 7 hF rfl rfl rfl ent22 rfl rfl rfl rfl rfl (Fspec_TimesOk_gives k  a0 r3 hr3) rfl ?_
  refine L.move hF rfl rfl rfl ?_
  refine L.split (fun hc => ?_) (fun hc => ?_)
  · replace H := condT hc H
    refine L.move hF rfl rfl rfl ?_
    obtain ⟨r4, hr4, H⟩ := bindS H
    refine L.call [false, false, false] [] [] 8 hF rfl rfl rfl ent92 rfl rfl rfl rfl rfl (Fspec_l1In_gives k  a2 (0 : Int) (100 : Int) r4 hr4) rfl ?_
    refine L.pick hF rfl rfl rfl rfl ?_
    refine L.move hF rfl rfl rfl ?_
    refine L.split (fun hc => ?_) (fun hc => ?_)
    · replace H := condT hc H
      refine L.move hF rfl rfl rfl ?_
      refine L.fieldAddr Try.underlying25 rfl info3 rfl hF rfl rfl rfl rfl rfl ?_
      refine L.loadPtr shape3 hF rfl rfl rfl rfl rfl rfl ?_
      refine L.move hF rfl rfl rfl ?_
      refine L.bin hF rfl rfl rfl rfl rfl rfl ?_
      refine L.bin hF rfl rfl rfl rfl rfl rfl ?_
      refine L.pick hF rfl rfl rfl rfl ?_
      refine L.move hF rfl rfl rfl ?_
      refine L.split (fun hc => ?_) (fun hc => ?_)
      · replace H := condT hc H
        refine L.move hF rfl rfl rfl ?_
        refine L.fieldAddr Try.underlying25 rfl info3 rfl hF rfl rfl rfl rfl rfl ?_
        refine L.loadPtr shape3 hF rfl rfl rfl rfl rfl rfl ?_
        refine L.move hF rfl rfl rfl ?_
        refine L.bin hF rfl rfl rfl rfl rfl rfl ?_
        refine L.bin hF rfl rfl rfl rfl rfl rfl ?_
        refine L.pick hF rfl rfl rfl rfl ?_
        refine L.assign hF rfl rfl rfl ?_
        refine L.nil ?_
        refine WpC.ret ?_
        cases H
        exact Leaves.ret rfl rfl rfl ⟨rfl, rfl⟩
      · replace H := condF hc H
        refine L.off hF rfl rfl ?_
        refine L.off hF rfl rfl ?_
        refine L.off hF rfl rfl ?_
        refine L.off hF rfl rfl ?_
        refine L.off hF rfl rfl ?_
        refine L.off hF rfl rfl ?_
        refine L.pick hF rfl rfl rfl rfl ?_
        refine L.assign hF rfl rfl rfl ?_
        refine L.nil ?_
        refine WpC.ret ?_
        cases H
        exact Leaves.ret rfl rfl rfl ⟨rfl, rfl⟩
    · replace H := condF hc H
      refine L.off hF rfl rfl ?_
      refine L.off hF rfl rfl ?_
      refine L.off hF rfl rfl ?_
      refine L.off hF rfl rfl ?_
      refine L.off hF rfl rfl ?_
      refine L.off hF rfl rfl ?_
      refine L.pick hF rfl rfl rfl rfl ?_
      refine L.move hF rfl rfl rfl ?_
      refine L.off hF rfl rfl ?_
      refine L.off hF rfl rfl ?_
      refine L.off hF rfl rfl ?_
      refine L.off hF rfl rfl ?_
      refine L.off hF rfl rfl ?_
      refine L.off hF rfl rfl ?_
      refine L.pick hF rfl rfl rfl rfl ?_
      refine L.assign hF rfl rfl rfl ?_
      refine L.nil ?_
      refine WpC.ret ?_
      cases H
      exact Leaves.ret rfl rfl rfl ⟨rfl, rfl⟩
  · replace H := condF hc H
    refine L.off hF rfl rfl ?_
    refine L.off hF rfl rfl ?_
    refine L.pick hF rfl rfl rfl rfl ?_
    refine L.move hF rfl rfl rfl ?_
    refine L.off hF rfl rfl ?_
    refine L.off hF rfl rfl ?_
    refine L.off hF rfl rfl ?_
    refine L.off hF rfl rfl ?_
    refine L.off hF rfl rfl ?_
    refine L.off hF rfl rfl ?_
    refine L.pick hF rfl rfl rfl rfl ?_
    refine L.move hF rfl rfl rfl ?_
    refine L.off hF rfl rfl ?_
    refine L.off hF rfl rfl ?_
    refine L.off hF rfl rfl ?_
    refine L.off hF rfl rfl ?_
    refine L.off hF rfl rfl ?_
    refine L.off hF rfl rfl ?_
    refine L.pick hF rfl rfl rfl rfl ?_
    refine L.assign hF rfl rfl rfl ?_
    refine L.nil ?_
    refine WpC.ret ?_
    cases H
    exact Leaves.ret rfl rfl rfl ⟨rfl, rfl⟩
/-! ### Flaws_FnTimes -/
def Flaws_FnTimes.j4 (k : Nat) (v64 : List UInt8) : Option Bool := (Fspec_DrawLives k v64).bind fun r65 => (Fimpl_Lives k r65.1 r65.2.1 r65.2.2).bind fun r70 => (Fspec_Lives k r65.1 r65.2.1 r65.2.2).bind fun r71 => cond (r70 == r71) ((Fimpl_Lives k r65.1 r65.2.1 (0 : Int)).bind fun r73 => cond (!r73) (some true) ((Fimpl_Lives k r65.1 r65.2.1 (7 : Int)).bind fun r75 => some r75)) (some false)
def Flaws_FnTimes.l5 : Nat → (List UInt8) → Int → Int → Int → Int → Int → Option Bool
  | 0, _, _, _, _, _, _ => none
  | k5 + 1, v103, v104, v105, v106, v107, v108 => cond (decide (v104 < (30 : Int))) ((Fspec_TimesOk k5 (⟨v105, v106, v107, v108⟩ : Timpl_Times)).bind fun r112 => cond r112 ((Flaws_at k5 v103 v104).bind fun r115 => (Fimpl_Renewed k5 (⟨v105, v106, v107, v108⟩ : Timpl_Times) v107 (IntKind.i64.wrap ((1 : Int) + (Int.tmod r115 (9 : Int))))).bind fun r116 => cond (!r116.2) (some false) (cond (decide (r116.1.End > v108)) (some false) (cond (decide (r116.1.End < v107)) (some false) ((Flaws_FnTimes.l5 k5) v103 (IntKind.i64.wrap (v104 + (1 : Int))) r116.1.Auth r116.1.Start r116.1.End r116.1.Renew)))) (Flaws_FnTimes.j4 k5 v103)) (Flaws_FnTimes.j4 k5 v103)
def Flaws_FnTimes.j2 (k : Nat) (v18 : List UInt8) (v19 : Int) (v20 : Int) (v21 : Int) (v22 : Int) : Option Bool := Flaws_FnTimes.l5 k v18 (0 : Int) v19 v20 v21 v22
def Flaws_FnTimes.j1 (k : Nat) (v8 : List UInt8) (v9 : Int) (v10 : Int) (v11 : Int) (v12 : Int) : Option Bool := (Fspec_DrawInside k v8).bind fun r13 => (Fimpl_Inside k r13.1 r13.2).bind fun r14 => (Fspec_Inside k r13.1 r13.2).bind fun r15 => cond (r14.2 != r15.2) (some false) (cond (!((r14.1.Auth == r15.1.Auth) && ((r14.1.Start == r15.1.Start) && ((r14.1.End == r15.1.End) && ((r14.1.Renew == r15.1.Renew) && true))))) (some false) (cond r14.2 (cond (decide (r14.1.End > r13.1.End)) (some false) (cond (decide (r14.1.End > r13.2.End)) (some false) (cond (decide (r14.1.Renew > r13.1.Renew)) (some false) (cond (decide (r14.1.Start < r13.1.Start)) (some false) ((Fspec_TimesOk k r14.1).bind fun r118 => cond (!r118) (some false) (Flaws_FnTimes.j2 k v8 v9 v10 v11 v12)))))) (Flaws_FnTimes.j2 k v8 v9 v10 v11 v12)))
def Flaws_FnTimes (k : Nat) (a0 : List UInt8) : Option Bool := (Flaws_big k a0).bind fun r2 => cond r2 (some true) ((Fspec_DrawRenewed k a0).bind fun r3 => (Fimpl_Renewed k r3.1 r3.2.1 r3.2.2).bind fun r4 => (Fspec_Renewed k r3.1 r3.2.1 r3.2.2).bind fun r5 => cond (r4.2 != r5.2) (some false) (cond (!((r4.1.Auth == r5.1.Auth) && ((r4.1.Start == r5.1.Start) && ((r4.1.End == r5.1.End) && ((r4.1.Renew == r5.1.Renew) && true))))) (some false) (cond r4.2 ((Fspec_TimesOk k r4.1).bind fun r120 => cond (!r120) (some false) (cond (decide (r4.1.End > r3.1.Renew)) (some false) (cond (r4.1.Renew != r3.1.Renew) (some false) (cond (r4.1.Auth != r3.1.Auth) (some false) (Flaws_FnTimes.j1 k a0 r3.1.Auth r3.1.Start r3.1.End r3.1.Renew))))) (Flaws_FnTimes.j1 k a0 r3.1.Auth r3.1.Start r3.1.End r3.1.Renew))))
theorem ent9 : Enters Try.prog 9 := ⟨Try.f9, Try.func9, rfl, by decide⟩
set_option maxHeartbeats 8000000 in
set_option maxRecDepth 100000 in
theorem Flaws_FnTimes_gives (k : Nat) (a0 : List UInt8) (r : Bool) (H : Flaws_FnTimes k a0 = some r) : Gives Try.prog 9 [V.one (Cell.sl true (List.map eB a0))] [] [V.one (cL r)] [] := by
  refine Gives.intro Try.func9 rfl rfl rfl rfl ?_
  intro F hF hm
  unfold Flaws_FnTimes at H
  obtain ⟨K, hK⟩ : ∃ K, k ≤ K := ⟨k, Nat.le_refl k⟩
  refine WpC.seq ?_
  refine WpC.regionL ?_
  refine L.assign hF rfl rfl rfl ?_
  refine L.nil ?_
  refine WpC.seq ?_
  refine WpC.seq ?_
  refine WpC.regionL ?_
  refine L.move hF rfl rfl rfl ?_
  obtain ⟨r2, hr2, H⟩ := bindS H
  refine L.call [false] [] [] 1 hF rfl rfl rfl ent32 rfl rfl rfl rfl rfl (Flaws_big_gives k true a0 r2 hr2) rfl ?_
  refine L.nil ?_
  refine WpC.cond rfl (fun hc => ?_) (fun hc => ?_)
  · replace H := condT hc H
    refine WpC.seq ?_
    refine WpC.regionL ?_
    refine L.assign hF rfl rfl rfl ?_
    refine L.nil ?_
    refine WpC.ret ?_
    cases H
    exact Leaves.ret rfl rfl rfl ⟨rfl, rfl⟩
  · replace H := condF hc H
    refine WpC.skip ?_
    refine WpC.seq ?_
    refine WpC.regionL ?_
    refine L.move hF rfl rfl rfl ?_
    obtain ⟨r3, hr3, H⟩ := bindS H
    refine L.call [false] [] [] 2 hF rfl rfl rfl ent44 rfl rfl rfl rfl rfl (Fspec_DrawRenewed_gives k  a0 r3 hr3) rfl ?_
    refine L.move hF rfl rfl rfl ?_
    refine L.extract hF rfl rfl rfl rfl ?_
    refine L.extract hF rfl rfl rfl rfl ?_
    refine L.extract hF rfl rfl rfl rfl ?_
    refine L.alloc 8 info25 rfl hF rfl rfl rfl rfl ?_
    refine L.storePtr shape25 hF rfl rfl rfl rfl rfl rfl rfl ?_
    refine L.assign hF rfl rfl rfl ?_
    refine L.assign hF rfl rfl rfl ?_
    refine L.nil ?_
    refine WpC.seq ?_
    refine WpC.regionL ?_
    refine L.loadPtr shape25 hF rfl rfl rfl rfl rfl rfl ?_
    refine L.move hF rfl rfl rfl ?_
    refine L.move hF rfl rfl rfl ?_
    obtain ⟨r4, hr4, H⟩ := bindS H
    refine L.call [false, false, false] [] [] 9 hF rfl rfl rfl ent28 rfl rfl rfl rfl rfl (Fimpl_Renewed_gives k  r3.1 r3.2.1 r3.2.2 r4 hr4) rfl ?_
    refine L.move hF rfl rfl rfl ?_
    refine L.extract hF rfl rfl rfl rfl ?_
    refine L.extract hF rfl rfl rfl rfl ?_
    refine L.alloc 14 info25 rfl hF rfl rfl rfl rfl ?_
    refine L.storePtr shape25 hF rfl rfl rfl rfl rfl rfl rfl ?_
    refine L.assign hF rfl rfl rfl ?_
    refine L.nil ?_
    refine WpC.seq ?_
    refine WpC.regionL ?_
    refine L.loadPtr shape25 hF rfl rfl rfl rfl rfl rfl ?_
    refine L.move hF rfl rfl rfl ?_
    refine L.move hF rfl rfl rfl ?_
    obtain ⟨r5, hr5, H⟩ := bindS H
    refine L.call [false, false, false] [] [] 15 hF rfl rfl rfl ent27 rfl rfl rfl rfl rfl (Fspec_Renewed_gives k  r3.1 r3.2.1 r3.2.2 r5 hr5) rfl ?_
    refine L.move hF rfl rfl rfl ?_
    refine L.extract hF rfl rfl rfl rfl ?_
    refine L.extract hF rfl rfl rfl rfl ?_
    refine L.alloc 20 info25 rfl hF rfl rfl rfl rfl ?_
    refine L.storePtr shape25 hF rfl rfl rfl rfl rfl rfl rfl ?_
    refine L.assign hF rfl rfl rfl ?_
    refine L.nil ?_
    refine WpC.seq ?_
    refine WpC.seq ?_
    refine WpC.regionL ?_
    refine L.move hF rfl rfl rfl ?_
    refine L.move hF rfl rfl rfl ?_
    refine L.neL Try.underlying4 hF rfl rfl rfl rfl ?_
    refine L.move hF rfl rfl rfl ?_
    refine L.split (fun hc => ?_) (fun hc => ?_)
    · replace H := condT hc H
      refine L.off hF rfl rfl ?_
      refine L.off hF rfl rfl ?_
      refine L.off hF rfl rfl ?_
      refine L.pick hF rfl rfl rfl rfl ?_
      refine L.nil ?_
      refine WpC.cond rfl (fun _ => ?_) (fun hc => by cases hc)
      refine WpC.seq ?_
      refine WpC.regionL ?_
      refine L.assign hF rfl rfl rfl ?_
      refine L.nil ?_
      refine WpC.ret ?_
      cases H
      exact Leaves.ret rfl rfl rfl ⟨rfl, rfl⟩
    · replace H := condF hc H
      refine L.loadPtr shape25 hF rfl rfl rfl rfl rfl rfl ?_
      refine L.loadPtr shape25 hF rfl rfl rfl rfl rfl rfl ?_
      refine L.neA (r := ((r4.1.Auth == r5.1.Auth) && ((r4.1.Start == r5.1.Start) && ((r4.1.End == r5.1.End) && ((r4.1.Renew == r5.1.Renew) && true))))) hF rfl rfl rfl rfl rfl rfl (by kernel_rfl) (by kernel_rfl) ?_
      refine L.pick hF rfl rfl rfl rfl ?_
      refine L.nil ?_
      refine WpC.cond rfl (fun hc => ?_) (fun hc => ?_)
      · replace H := condT hc H
        refine WpC.seq ?_
        refine WpC.regionL ?_
        refine L.assign hF rfl rfl rfl ?_
        refine L.nil ?_
        refine WpC.ret ?_
        cases H
        exact Leaves.ret rfl rfl rfl ⟨rfl, rfl⟩
      · replace H := condF hc H
        refine WpC.skip ?_
        refine WpC.join (fun σ => ∃ kj1 : Nat, ∃ v8 : List UInt8, ∃ v9 : Int, ∃ v10 : Int, ∃ v11 : Int, ∃ v12 : Int, kj1 ≤ K ∧ Flaws_FnTimes.j1 kj1 v8 v9 v10 v11 v12 = some r ∧ σ = mkSt [(0, one (Cell.sl true (List.map eB v8))), (3, one (Cell.ptr 0 0))] [] [(0, [cI v9, cI v10, cI v11, cI v12])] 1) ?_ ?_
        · rintro _ ⟨kj1, v8, v9, v10, v11, v12, hkj1, H, rfl⟩
          unfold Flaws_FnTimes.j1 at H
          refine WpC.seq ?_
          refine WpC.regionL ?_
          refine L.move hF rfl rfl rfl ?_
          obtain ⟨r13, hr13, H⟩ := bindS H
          refine L.call [false] [] [] 1 hF rfl rfl rfl ent45 rfl rfl rfl rfl rfl (Fspec_DrawInside_gives kj1  v8 r13 hr13) rfl ?_
          refine L.move hF rfl rfl rfl ?_
          refine L.extract hF rfl rfl rfl rfl ?_
          refine L.extract hF rfl rfl rfl rfl ?_
          refine L.alloc 9 info25 rfl hF rfl rfl rfl rfl ?_
          refine L.alloc 10 info25 rfl hF rfl rfl rfl rfl ?_
          refine L.storePtr shape25 hF rfl rfl rfl rfl rfl rfl rfl ?_
          refine L.storePtr shape25 hF rfl rfl rfl rfl rfl rfl rfl ?_
          refine L.nil ?_
          refine WpC.seq ?_
          refine WpC.regionL ?_
          refine L.loadPtr shape25 hF rfl rfl rfl rfl rfl rfl ?_
          refine L.loadPtr shape25 hF rfl rfl rfl rfl rfl rfl ?_
          obtain ⟨r14, hr14, H⟩ := bindS H
          refine L.call [false, false] [] [] 11 hF rfl rfl rfl ent31 rfl rfl rfl rfl rfl (Fimpl_Inside_gives kj1  r13.1 r13.2 r14 hr14) rfl ?_
          refine L.move hF rfl rfl rfl ?_
          refine L.extract hF rfl rfl rfl rfl ?_
          refine L.extract hF rfl rfl rfl rfl ?_
          refine L.alloc 16 info25 rfl hF rfl rfl rfl rfl ?_
          refine L.storePtr shape25 hF rfl rfl rfl rfl rfl rfl rfl ?_
          refine L.assign hF rfl rfl rfl ?_
          refine L.nil ?_
          refine WpC.seq ?_
          refine WpC.regionL ?_
          refine L.loadPtr shape25 hF rfl rfl rfl rfl rfl rfl ?_
          refine L.loadPtr shape25 hF rfl rfl rfl rfl rfl rfl ?_
          obtain ⟨r15, hr15, H⟩ := bindS H
          refine L.call [false, false] [] [] 17 hF rfl rfl rfl ent30 rfl rfl rfl rfl rfl (Fspec_Inside_gives kj1  r13.1 r13.2 r15 hr15) rfl ?_
          refine L.move hF rfl rfl rfl ?_
          refine L.extract hF rfl rfl rfl rfl ?_
          refine L.extract hF rfl rfl rfl rfl ?_
          refine L.alloc 22 info25 rfl hF rfl rfl rfl rfl ?_
          refine L.storePtr shape25 hF rfl rfl rfl rfl rfl rfl rfl ?_
          refine L.assign hF rfl rfl rfl ?_
          refine L.nil ?_
          refine WpC.seq ?_
          refine WpC.seq ?_
          refine WpC.regionL ?_
          refine L.move hF rfl rfl rfl ?_
          refine L.move hF rfl rfl rfl ?_
          refine L.neL Try.underlying4 hF rfl rfl rfl rfl ?_
          refine L.move hF rfl rfl rfl ?_
          refine L.split (fun hc => ?_) (fun hc => ?_)
          · replace H := condT hc H
            refine L.off hF rfl rfl ?_
            refine L.off hF rfl rfl ?_
            refine L.off hF rfl rfl ?_
            refine L.pick hF rfl rfl rfl rfl ?_
            refine L.nil ?_
            refine WpC.cond rfl (fun _ => ?_) (fun hc => by cases hc)
            refine WpC.seq ?_
            refine WpC.regionL ?_
            refine L.assign hF rfl rfl rfl ?_
            refine L.nil ?_
            refine WpC.ret ?_
            cases H
            exact Leaves.ret rfl rfl rfl ⟨rfl, rfl⟩
          · replace H := condF hc H
            refine L.loadPtr shape25 hF rfl rfl rfl rfl rfl rfl ?_
            refine L.loadPtr shape25 hF rfl rfl rfl rfl rfl rfl ?_
            refine L.neA (r := ((r14.1.Auth == r15.1.Auth) && ((r14.1.Start == r15.1.Start) && ((r14.1.End == r15.1.End) && ((r14.1.Renew == r15.1.Renew) && true))))) hF rfl rfl rfl rfl rfl rfl (by kernel_rfl) (by kernel_rfl) ?_
            refine L.pick hF rfl rfl rfl rfl ?_
            refine L.nil ?_
            refine WpC.cond rfl (fun hc => ?_) (fun hc => ?_)
            · replace H := condT hc H
              refine WpC.seq ?_
              refine WpC.regionL ?_
              refine L.assign hF rfl rfl rfl ?_
              refine L.nil ?_
              refine WpC.ret ?_
              cases H
              exact Leaves.ret rfl rfl rfl ⟨rfl, rfl⟩
            · replace H := condF hc H
              refine WpC.skip ?_
              refine WpC.join (fun σ => ∃ kj2 : Nat, ∃ v18 : List UInt8, ∃ v19 : Int, ∃ v20 : Int, ∃ v21 : Int, ∃ v22 : Int, kj2 ≤ K ∧ Flaws_FnTimes.j2 kj2 v18 v19 v20 v21 v22 = some r ∧ σ = mkSt [(0, one (Cell.sl true (List.map eB v18))), (3, one (Cell.ptr 0 0))] [] [(0, [cI v19, cI v20, cI v21, cI v22])] 1) ?_ ?_
              · rintro _ ⟨kj2, v18, v19, v20, v21, v22, hkj2, H, rfl⟩
                unfold Flaws_FnTimes.j2 at H
                refine WpC.seq ?_
                refine WpC.regionL ?_
                refine L.assign hF rfl rfl rfl ?_
                refine L.nil ?_
                refine WpC.join (fun σ => ∃ kj4 : Nat, ∃ v64 : List UInt8, kj4 ≤ K ∧ Flaws_FnTimes.j4 kj4 v64 = some r ∧ σ = mkSt [(0, one (Cell.sl true (List.map eB v64)))] [] [] 0) ?_ ?_
                · rintro _ ⟨kj4, v64, hkj4, H, rfl⟩
                  unfold Flaws_FnTimes.j4 at H
                  refine WpC.seq ?_
                  refine WpC.regionL ?_
                  refine L.move hF rfl rfl rfl ?_
                  obtain ⟨r65, hr65, H⟩ := bindS H
                  refine L.call [false] [] [] 0 hF rfl rfl rfl ent46 rfl rfl rfl rfl rfl (Fspec_DrawLives_gives kj4  v64 r65 hr65) rfl ?_
                  refine L.move hF rfl rfl rfl ?_
                  refine L.extract hF rfl rfl rfl rfl ?_
                  refine L.extract hF rfl rfl rfl rfl ?_
                  refine L.extract hF rfl rfl rfl rfl ?_
                  refine L.alloc 6 info25 rfl hF rfl rfl rfl rfl ?_
                  refine L.storePtr shape25 hF rfl rfl rfl rfl rfl rfl rfl ?_
                  refine L.assign hF rfl rfl rfl ?_
                  refine L.assign hF rfl rfl rfl ?_
                  refine L.nil ?_
                  refine WpC.seq ?_
                  obtain ⟨r70, hr70, H⟩ := bindS H
                  obtain ⟨r71, hr71, H⟩ := bindS H
                  rcases Bool.eq_false_or_eq_true ((r70 == r71)) with hc72 | hc72
                  · replace H := condT hc72 H
                    obtain ⟨r73, hr73, H⟩ := bindS H
                    rcases Bool.eq_false_or_eq_true ((!r73)) with hc74 | hc74
                    · replace H := condT hc74 H
                      refine A.begin mixed rfl rfl ?_
                      intro W hI hO
                      have n2097151 : W 0 #[true, true, true, true, true, true, true, true, true, true, true, true, true, true, true, true, true, true, true, true, true] (mkSt [(2, one (cL true))] [] [] 0) := by
                        refine hI _ _ _ (A.done (by kernel_rfl) ?_)
                        refine WpC.ret ?_
                        cases H
                        exact Leaves.ret rfl rfl rfl ⟨rfl, rfl⟩
                      have n1048575 : W 1 #[true, true, true, true, true, true, true, true, true, true, true, true, true, true, true, true, true, true, true, true, false] (mkSt [(203, one (cL true))] [] [] 0) := by
                        refine hI _ _ _ ?_
                        refine A.take 20 rfl (by kernel_rfl) (by kernel_rfl) (by kernel_rfl) rfl (Ca.assign) (fun Q0 k0 => L.assign hF rfl rfl rfl (L.nil k0)) ?_
                        exact A.on (hO _ _ _ n2097151) (Le.mk [] hm rfl ⟨⟨_, rfl, rfl⟩, trivial⟩ trivial trivial)
                      have n524287 : W 2 #[true, true, true, true, true, true, true, true, true, true, true, true, true, true, true, true, true, true, true, false, false] (mkSt [(193, one (cL true)), (202, one (cL true))] [] [] 0) := by
                        refine hI _ _ _ ?_
                        refine A.take 19 rfl (by kernel_rfl) (by kernel_rfl) (by kernel_rfl) rfl (Ca.pick) (fun Q0 k0 => L.pick hF rfl rfl rfl rfl (L.nil k0)) ?_
                        exact A.on (hO _ _ _ n1048575) (Le.mk [] hm rfl ⟨⟨_, rfl, rfl⟩, trivial⟩ trivial trivial)
                      have n262143 : W 3 #[true, true, true, true, true, true, true, true, true, true, true, true, true, true, true, true, true, true, false, false, false] (mkSt [(193, one (cL true)), (198, one (cL true)), (201, Slot.tup [])] [] [] 0) := by
                        refine hI _ _ _ ?_
                        refine A.take 18 rfl (by kernel_rfl) (by kernel_rfl) (by kernel_rfl) rfl (Ca.pick) (fun Q0 k0 => L.pick hF rfl rfl rfl rfl (L.nil k0)) ?_
                        exact A.on (hO _ _ _ n524287) (Le.mk [] hm rfl ⟨⟨_, rfl, rfl⟩, ⟨_, rfl, rfl⟩, trivial⟩ trivial trivial)
                      have n131071 : W 4 #[true, true, true, true, true, true, true, true, true, true, true, true, true, true, true, true, true, false, false, false, false] (mkSt [(193, one (cL true)), (198, one (cL true)), (199, Slot.tup []), (200, Slot.tup [])] [] [] 0) := by
                        refine hI _ _ _ ?_
                        refine A.all [17] (by kernel_rfl) rfl ⟨⟨_, rfl, ?_⟩, trivial⟩
                        · refine L.off hF rfl rfl ?_
                          refine L.nil ?_
                          exact A.on (hO _ _ _ n262143) (Le.mk [] hm rfl ⟨⟨_, rfl, rfl⟩, ⟨_, rfl, rfl⟩, ⟨_, rfl, rfl⟩, trivial⟩ trivial trivial)
                      have n65535 : W 5 #[true, true, true, true, true, true, true, true, true, true, true, true, true, true, true, true, false, false, false, false, false] (mkSt [(21, one (cI r65.2.1)), (193, one (cL true)), (198, one (cL true)), (199, Slot.tup [])] [] [] 0) := by
                        refine hI _ _ _ ?_
                        refine A.off 16 rfl (by kernel_rfl) (by kernel_rfl) (by kernel_rfl) rfl hF rfl rfl ?_
                        exact A.on (hO _ _ _ n131071) (Le.mk [] hm rfl ⟨⟨_, rfl, rfl⟩, ⟨_, rfl, rfl⟩, ⟨_, rfl, rfl⟩, ⟨_, rfl, rfl⟩, trivial⟩ trivial trivial)
                      have n32767 : W 6 #[true, true, true, true, true, true, true, true, true, true, true, true, true, true, true, false, false, false, false, false, false] (mkSt [(20, one (Cell.ptr 0 0)), (21, one (cI r65.2.1)), (193, one (cL true)), (198, one (cL true))] [] [(0, [cI r65.1.Auth, cI r65.1.Start, cI r65.1.End, cI r65.1.Renew])] 1) := by
                        refine hI _ _ _ ?_
                        refine A.off 15 rfl (by kernel_rfl) (by kernel_rfl) (by kernel_rfl) rfl hF rfl rfl ?_
                        exact A.on (hO _ _ _ n65535) (Le.mk [] hm rfl ⟨⟨_, rfl, rfl⟩, ⟨_, rfl, rfl⟩, ⟨_, rfl, rfl⟩, ⟨_, rfl, rfl⟩, trivial⟩ trivial trivial)
                      have n16383 : W 7 #[true, true, true, true, true, true, true, true, true, true, true, true, true, true, false, false, false, false, false, false, false] (mkSt [(20, one (Cell.ptr 0 0)), (21, one (cI r65.2.1)), (193, one (cL true)), (197, one (cL (!r73)))] [] [(0, [cI r65.1.Auth, cI r65.1.Start, cI r65.1.End, cI r65.1.Renew])] 1) := by
                        refine hI _ _ _ ?_
                        refine A.take 14 rfl (by kernel_rfl) (by kernel_rfl) (by kernel_rfl) rfl (Ca.move) (fun Q0 k0 => L.move hF rfl rfl rfl (L.nil k0)) ?_
                        exact A.on (hO _ _ _ n32767) (Le.mk [(0, 0)] hm rfl ⟨⟨_, rfl, rfl⟩, ⟨_, rfl, rfl⟩, ⟨_, rfl, rfl⟩, ⟨_, rfl, congrArg (fun b => some (one (cL b))) hc74⟩, trivial⟩ trivial ⟨⟨_, _, rfl, rfl, rfl⟩, trivial⟩)
                      have n8191 : W 8 #[true, true, true, true, true, true, true, true, true, true, true, true, true, false, false, false, false, false, false, false, false] (mkSt [(20, one (Cell.ptr 0 0)), (21, one (cI r65.2.1)), (193, one (cL true)), (196, one (cL r73))] [] [(0, [cI r65.1.Auth, cI r65.1.Start, cI r65.1.End, cI r65.1.Renew])] 1) := by
                        refine hI _ _ _ ?_
                        refine A.take 13 rfl (by kernel_rfl) (by kernel_rfl) (by kernel_rfl) rfl (Ca.un rfl rfl) (fun Q0 k0 => L.not hF rfl rfl rfl (L.nil k0)) ?_
                        exact A.on (hO _ _ _ n16383) (Le.mk [(0, 0)] hm rfl ⟨⟨_, rfl, rfl⟩, ⟨_, rfl, rfl⟩, ⟨_, rfl, rfl⟩, ⟨_, rfl, rfl⟩, trivial⟩ trivial ⟨⟨_, _, rfl, rfl, rfl⟩, trivial⟩)
                      have n4095 : W 9 #[true, true, true, true, true, true, true, true, true, true, true, true, false, false, false, false, false, false, false, false, false] (mkSt [(20, one (Cell.ptr 0 0)), (21, one (cI r65.2.1)), (193, one (cL true)), (194, agg [cI r65.1.Auth, cI r65.1.Start, cI r65.1.End, cI r65.1.Renew]), (195, one (cI r65.2.1))] [] [(0, [cI r65.1.Auth, cI r65.1.Start, cI r65.1.End, cI r65.1.Renew])] 1) := by
                        refine hI _ _ _ ?_
                        refine A.all [12] (by kernel_rfl) rfl ⟨⟨_, rfl, ?_⟩, trivial⟩
                        · refine L.call [false, false, false] [] [] 1 hF rfl rfl rfl ent26 rfl rfl rfl rfl rfl (Fimpl_Lives_gives kj4  r65.1 r65.2.1 (0 : Int) r73 hr73) rfl ?_
                          refine L.nil ?_
                          exact A.on (hO _ _ _ n8191) (Le.mk [(0, 0)] hm rfl ⟨⟨_, rfl, rfl⟩, ⟨_, rfl, rfl⟩, ⟨_, rfl, rfl⟩, ⟨_, rfl, rfl⟩, trivial⟩ trivial ⟨⟨_, _, rfl, rfl, rfl⟩, trivial⟩)
                      have n3071 : W 10 #[true, true, true, true, true, true, true, true, true, true, false, true, false, false, false, false, false, false, false, false, false] (mkSt [(20, one (Cell.ptr 0 0)), (21, one (cI r65.2.1)), (193, one (cL true)), (195, one (cI r65.2.1))] [] [(0, [cI r65.1.Auth, cI r65.1.Start, cI r65.1.End, cI r65.1.Renew])] 1) := by
                        refine hI _ _ _ ?_
                        refine A.all [10] (by kernel_rfl) rfl ⟨⟨_, rfl, ?_⟩, trivial⟩
                        · refine L.loadPtr shape25 hF rfl rfl rfl rfl rfl rfl ?_
                          refine L.nil ?_
                          exact A.on (hO _ _ _ n4095) (Le.mk [(0, 0)] hm rfl ⟨⟨_, rfl, rfl⟩, ⟨_, rfl, rfl⟩, ⟨_, rfl, rfl⟩, ⟨_, rfl, rfl⟩, ⟨_, rfl, rfl⟩, trivial⟩ trivial ⟨⟨_, _, rfl, rfl, rfl⟩, trivial⟩)
                      have n1023 : W 11 #[true, true, true, true, true, true, true, true, true, true, false, false, false, false, false, false, false, false, false, false, false] (mkSt [(20, one (Cell.ptr 0 0)), (21, one (cI r65.2.1)), (193, one (cL true))] [] [(0, [cI r65.1.Auth, cI r65.1.Start, cI r65.1.End, cI r65.1.Renew])] 1) := by
                        refine hI _ _ _ ?_
                        refine A.take 11 rfl (by kernel_rfl) (by kernel_rfl) (by kernel_rfl) rfl (Ca.move) (fun Q0 k0 => L.move hF rfl rfl rfl (L.nil k0)) ?_
                        exact A.on (hO _ _ _ n3071) (Le.mk [(0, 0)] hm rfl ⟨⟨_, rfl, rfl⟩, ⟨_, rfl, rfl⟩, ⟨_, rfl, rfl⟩, ⟨_, rfl, rfl⟩, trivial⟩ trivial ⟨⟨_, _, rfl, rfl, rfl⟩, trivial⟩)
                      have n511 : W 12 #[true, true, true, true, true, true, true, true, true, false, false, false, false, false, false, false, false, false, false, false, false] (mkSt [(20, one (Cell.ptr 0 0)), (21, one (cI r65.2.1)), (192, one (cL (r70 == r71)))] [] [(0, [cI r65.1.Auth, cI r65.1.Start, cI r65.1.End, cI r65.1.Renew])] 1) := by
                        refine hI _ _ _ ?_
                        refine A.take 9 rfl (by kernel_rfl) (by kernel_rfl) (by kernel_rfl) rfl (Ca.move) (fun Q0 k0 => L.move hF rfl rfl rfl (L.nil k0)) ?_
                        exact A.on (hO _ _ _ n1023) (Le.mk [(0, 0)] hm rfl ⟨⟨_, rfl, rfl⟩, ⟨_, rfl, rfl⟩, ⟨_, rfl, congrArg (fun b => some (one (cL b))) hc72⟩, trivial⟩ trivial ⟨⟨_, _, rfl, rfl, rfl⟩, trivial⟩)
                      have n255 : W 13 #[true, true, true, true, true, true, true, true, false, false, false, false, false, false, false, false, false, false, false, false, false] (mkSt [(20, one (Cell.ptr 0 0)), (21, one (cI r65.2.1)), (187, one (cL r70)), (191, one (cL r71))] [] [(0, [cI r65.1.Auth, cI r65.1.Start, cI r65.1.End, cI r65.1.Renew])] 1) := by
                        refine hI _ _ _ ?_
                        refine A.take 8 rfl (by kernel_rfl) (by kernel_rfl) (by kernel_rfl) rfl (Ca.bin rfl rfl (calm_bool _ _ _ _ _ _ Try.underlying4 (by simp))) (fun Q0 k0 => L.eqL Try.underlying4 hF rfl rfl rfl rfl (L.nil k0)) ?_
                        exact A.on (hO _ _ _ n511) (Le.mk [(0, 0)] hm rfl ⟨⟨_, rfl, rfl⟩, ⟨_, rfl, rfl⟩, ⟨_, rfl, rfl⟩, trivial⟩ trivial ⟨⟨_, _, rfl, rfl, rfl⟩, trivial⟩)
                      have n127 : W 14 #[true, true, true, true, true, true, true, false, false, false, false, false, false, false, false, false, false, false, false, false, false] (mkSt [(20, one (Cell.ptr 0 0)), (21, one (cI r65.2.1)), (187, one (cL r70)), (188, agg [cI r65.1.Auth, cI r65.1.Start, cI r65.1.End, cI r65.1.Renew]), (189, one (cI r65.2.1)), (190, one (cI r65.2.2))] [] [(0, [cI r65.1.Auth, cI r65.1.Start, cI r65.1.End, cI r65.1.Renew])] 1) := by
                        refine hI _ _ _ ?_
                        refine A.all [7] (by kernel_rfl) rfl ⟨⟨_, rfl, ?_⟩, trivial⟩
                        · refine L.call [false, false, false] [] [] 1 hF rfl rfl rfl ent25 rfl rfl rfl rfl rfl (Fspec_Lives_gives kj4  r65.1 r65.2.1 r65.2.2 r71 hr71) rfl ?_
                          refine L.nil ?_
                          exact A.on (hO _ _ _ n255) (Le.mk [(0, 0)] hm rfl ⟨⟨_, rfl, rfl⟩, ⟨_, rfl, rfl⟩, ⟨_, rfl, rfl⟩, ⟨_, rfl, rfl⟩, trivial⟩ trivial ⟨⟨_, _, rfl, rfl, rfl⟩, trivial⟩)
                      have n111 : W 15 #[true, true, true, true, false, true, true, false, false, false, false, false, false, false, false, false, false, false, false, false, false] (mkSt [(20, one (Cell.ptr 0 0)), (21, one (cI r65.2.1)), (187, one (cL r70)), (189, one (cI r65.2.1)), (190, one (cI r65.2.2))] [] [(0, [cI r65.1.Auth, cI r65.1.Start, cI r65.1.End, cI r65.1.Renew])] 1) := by
                        refine hI _ _ _ ?_
                        refine A.all [4] (by kernel_rfl) rfl ⟨⟨_, rfl, ?_⟩, trivial⟩
                        · refine L.loadPtr shape25 hF rfl rfl rfl rfl rfl rfl ?_
                          refine L.nil ?_
                          exact A.on (hO _ _ _ n127) (Le.mk [(0, 0)] hm rfl ⟨⟨_, rfl, rfl⟩, ⟨_, rfl, rfl⟩, ⟨_, rfl, rfl⟩, ⟨_, rfl, rfl⟩, ⟨_, rfl, rfl⟩, ⟨_, rfl, rfl⟩, trivial⟩ trivial ⟨⟨_, _, rfl, rfl, rfl⟩, trivial⟩)
                      have n119 : W 15 #[true, true, true, false, true, true, true, false, false, false, false, false, false, false, false, false, false, false, false, false, false] (mkSt [(20, one (Cell.ptr 0 0)), (21, one (cI r65.2.1)), (184, agg [cI r65.1.Auth, cI r65.1.Start, cI r65.1.End, cI r65.1.Renew]), (185, one (cI r65.2.1)), (186, one (cI r65.2.2)), (188, agg [cI r65.1.Auth, cI r65.1.Start, cI r65.1.End, cI r65.1.Renew]), (189, one (cI r65.2.1)), (190, one (cI r65.2.2))] [] [(0, [cI r65.1.Auth, cI r65.1.Start, cI r65.1.End, cI r65.1.Renew])] 1) := by
                        refine hI _ _ _ ?_
                        refine A.all [3] (by kernel_rfl) rfl ⟨⟨_, rfl, ?_⟩, trivial⟩
                        · refine L.call [false, false, false] [] [] 1 hF rfl rfl rfl ent26 rfl rfl rfl rfl rfl (Fimpl_Lives_gives kj4  r65.1 r65.2.1 r65.2.2 r70 hr70) rfl ?_
                          refine L.nil ?_
                          exact A.on (hO _ _ _ n127) (Le.mk [(0, 0)] hm rfl ⟨⟨_, rfl, rfl⟩, ⟨_, rfl, rfl⟩, ⟨_, rfl, rfl⟩, ⟨_, rfl, rfl⟩, ⟨_, rfl, rfl⟩, ⟨_, rfl, rfl⟩, trivial⟩ trivial ⟨⟨_, _, rfl, rfl, rfl⟩, trivial⟩)
                      have n103 : W 16 #[true, true, true, false, false, true, true, false, false, false, false, false, false, false, false, false, false, false, false, false, false] (mkSt [(20, one (Cell.ptr 0 0)), (21, one (cI r65.2.1)), (184, agg [cI r65.1.Auth, cI r65.1.Start, cI r65.1.End, cI r65.1.Renew]), (185, one (cI r65.2.1)), (186, one (cI r65.2.2)), (189, one (cI r65.2.1)), (190, one (cI r65.2.2))] [] [(0, [cI r65.1.Auth, cI r65.1.Start, cI r65.1.End, cI r65.1.Renew])] 1) := by
                        refine hI _ _ _ ?_
                        refine A.all [3, 4] (by kernel_rfl) rfl ⟨⟨_, rfl, ?_⟩, ⟨_, rfl, ?_⟩, trivial⟩
                        · refine L.call [false, false, false] [] [] 1 hF rfl rfl rfl ent26 rfl rfl rfl rfl rfl (Fimpl_Lives_gives kj4  r65.1 r65.2.1 r65.2.2 r70 hr70) rfl ?_
                          refine L.nil ?_
                          exact A.on (hO _ _ _ n111) (Le.mk [(0, 0)] hm rfl ⟨⟨_, rfl, rfl⟩, ⟨_, rfl, rfl⟩, ⟨_, rfl, rfl⟩, ⟨_, rfl, rfl⟩, ⟨_, rfl, rfl⟩, trivial⟩ trivial ⟨⟨_, _, rfl, rfl, rfl⟩, trivial⟩)
                        · refine L.loadPtr shape25 hF rfl rfl rfl rfl rfl rfl ?_
                          refine L.nil ?_
                          exact A.on (hO _ _ _ n119) (Le.mk [(0, 0)] hm rfl ⟨⟨_, rfl, rfl⟩, ⟨_, rfl, rfl⟩, ⟨_, rfl, rfl⟩, ⟨_, rfl, rfl⟩, ⟨_, rfl, rfl⟩, ⟨_, rfl, rfl⟩, ⟨_, rfl, rfl⟩, ⟨_, rfl, rfl⟩, trivial⟩ trivial ⟨⟨_, _, rfl, rfl, rfl⟩, trivial⟩)
                      have n118 : W 16 #[false, true, true, false, true, true, true, false, false, false, false, false, false, false, false, false, false, false, false, false, false] (mkSt [(20, one (Cell.ptr 0 0)), (21, one (cI r65.2.1)), (185, one (cI r65.2.1)), (186, one (cI r65.2.2)), (188, agg [cI r65.1.Auth, cI r65.1.Start, cI r65.1.End, cI r65.1.Renew]), (189, one (cI r65.2.1)), (190, one (cI r65.2.2))] [] [(0, [cI r65.1.Auth, cI r65.1.Start, cI r65.1.End, cI r65.1.Renew])] 1) := by
                        refine hI _ _ _ ?_
                        refine A.all [0] (by kernel_rfl) rfl ⟨⟨_, rfl, ?_⟩, trivial⟩
                        · refine L.loadPtr shape25 hF rfl rfl rfl rfl rfl rfl ?_
                          refine L.nil ?_
                          exact A.on (hO _ _ _ n119) (Le.mk [(0, 0)] hm rfl ⟨⟨_, rfl, rfl⟩, ⟨_, rfl, rfl⟩, ⟨_, rfl, rfl⟩, ⟨_, rfl, rfl⟩, ⟨_, rfl, rfl⟩, ⟨_, rfl, rfl⟩, ⟨_, rfl, rfl⟩, ⟨_, rfl, rfl⟩, trivial⟩ trivial ⟨⟨_, _, rfl, rfl, rfl⟩, trivial⟩)
                      have n102 : W 17 #[false, true, true, false, false, true, true, false, false, false, false, false, false, false, false, false, false, false, false, false, false] (mkSt [(20, one (Cell.ptr 0 0)), (21, one (cI r65.2.1)), (185, one (cI r65.2.1)), (186, one (cI r65.2.2)), (189, one (cI r65.2.1)), (190, one (cI r65.2.2))] [] [(0, [cI r65.1.Auth, cI r65.1.Start, cI r65.1.End, cI r65.1.Renew])] 1) := by
                        refine hI _ _ _ ?_
                        refine A.all [0, 4] (by kernel_rfl) rfl ⟨⟨_, rfl, ?_⟩, ⟨_, rfl, ?_⟩, trivial⟩
                        · refine L.loadPtr shape25 hF rfl rfl rfl rfl rfl rfl ?_
                          refine L.nil ?_
                          exact A.on (hO _ _ _ n103) (Le.mk [(0, 0)] hm rfl ⟨⟨_, rfl, rfl⟩, ⟨_, rfl, rfl⟩, ⟨_, rfl, rfl⟩, ⟨_, rfl, rfl⟩, ⟨_, rfl, rfl⟩, ⟨_, rfl, rfl⟩, ⟨_, rfl, rfl⟩, trivial⟩ trivial ⟨⟨_, _, rfl, rfl, rfl⟩, trivial⟩)
                        · refine L.loadPtr shape25 hF rfl rfl rfl rfl rfl rfl ?_
                          refine L.nil ?_
                          exact A.on (hO _ _ _ n118) (Le.mk [(0, 0)] hm rfl ⟨⟨_, rfl, rfl⟩, ⟨_, rfl, rfl⟩, ⟨_, rfl, rfl⟩, ⟨_, rfl, rfl⟩, ⟨_, rfl, rfl⟩, ⟨_, rfl, rfl⟩, ⟨_, rfl, rfl⟩, trivial⟩ trivial ⟨⟨_, _, rfl, rfl, rfl⟩, trivial⟩)
                      have n38 : W 18 #[false, true, true, false, false, true, false, false, false, false, false, false, false, false, false, false, false, false, false, false, false] (mkSt [(20, one (Cell.ptr 0 0)), (21, one (cI r65.2.1)), (22, one (cI r65.2.2)), (185, one (cI r65.2.1)), (186, one (cI r65.2.2)), (189, one (cI r65.2.1))] [] [(0, [cI r65.1.Auth, cI r65.1.Start, cI r65.1.End, cI r65.1.Renew])] 1) := by
                        refine hI _ _ _ ?_
                        refine A.take 6 rfl (by kernel_rfl) (by kernel_rfl) (by kernel_rfl) rfl (Ca.move) (fun Q0 k0 => L.move hF rfl rfl rfl (L.nil k0)) ?_
                        exact A.on (hO _ _ _ n102) (Le.mk [(0, 0)] hm rfl ⟨⟨_, rfl, rfl⟩, ⟨_, rfl, rfl⟩, ⟨_, rfl, rfl⟩, ⟨_, rfl, rfl⟩, ⟨_, rfl, rfl⟩, ⟨_, rfl, rfl⟩, trivial⟩ trivial ⟨⟨_, _, rfl, rfl, rfl⟩, trivial⟩)
                      have n6 : W 19 #[false, true, true, false, false, false, false, false, false, false, false, false, false, false, false, false, false, false, false, false, false] (mkSt [(20, one (Cell.ptr 0 0)), (21, one (cI r65.2.1)), (22, one (cI r65.2.2)), (185, one (cI r65.2.1)), (186, one (cI r65.2.2))] [] [(0, [cI r65.1.Auth, cI r65.1.Start, cI r65.1.End, cI r65.1.Renew])] 1) := by
                        refine hI _ _ _ ?_
                        refine A.take 5 rfl (by kernel_rfl) (by kernel_rfl) (by kernel_rfl) rfl (Ca.move) (fun Q0 k0 => L.move hF rfl rfl rfl (L.nil k0)) ?_
                        exact A.on (hO _ _ _ n38) (Le.mk [(0, 0)] hm rfl ⟨⟨_, rfl, rfl⟩, ⟨_, rfl, rfl⟩, ⟨_, rfl, rfl⟩, ⟨_, rfl, rfl⟩, ⟨_, rfl, rfl⟩, ⟨_, rfl, rfl⟩, trivial⟩ trivial ⟨⟨_, _, rfl, rfl, rfl⟩, trivial⟩)
                      have n2 : W 20 #[false, true, false, false, false, false, false, false, false, false, false, false, false, false, false, false, false, false, false, false, false] (mkSt [(20, one (Cell.ptr 0 0)), (21, one (cI r65.2.1)), (22, one (cI r65.2.2)), (185, one (cI r65.2.1))] [] [(0, [cI r65.1.Auth, cI r65.1.Start, cI r65.1.End, cI r65.1.Renew])] 1) := by
                        refine hI _ _ _ ?_
                        refine A.take 2 rfl (by kernel_rfl) (by kernel_rfl) (by kernel_rfl) rfl (Ca.move) (fun Q0 k0 => L.move hF rfl rfl rfl (L.nil k0)) ?_
                        exact A.on (hO _ _ _ n6) (Le.mk [(0, 0)] hm rfl ⟨⟨_, rfl, rfl⟩, ⟨_, rfl, rfl⟩, ⟨_, rfl, rfl⟩, ⟨_, rfl, rfl⟩, ⟨_, rfl, rfl⟩, trivial⟩ trivial ⟨⟨_, _, rfl, rfl, rfl⟩, trivial⟩)
                      have n0 : W 21 #[false, false, false, false, false, false, false, false, false, false, false, false, false, false, false, false, false, false, false, false, false] (mkSt [(20, one (Cell.ptr 0 0)), (21, one (cI r65.2.1)), (22, one (cI r65.2.2))] [] [(0, [cI r65.1.Auth, cI r65.1.Start, cI r65.1.End, cI r65.1.Renew])] 1) := by
                        refine hI _ _ _ ?_
                        refine A.take 1 rfl (by kernel_rfl) (by kernel_rfl) (by kernel_rfl) rfl (Ca.move) (fun Q0 k0 => L.move hF rfl rfl rfl (L.nil k0)) ?_
                        exact A.on (hO _ _ _ n2) (Le.mk [(0, 0)] hm rfl ⟨⟨_, rfl, rfl⟩, ⟨_, rfl, rfl⟩, ⟨_, rfl, rfl⟩, ⟨_, rfl, rfl⟩, trivial⟩ trivial ⟨⟨_, _, rfl, rfl, rfl⟩, trivial⟩)
                      exact hI _ _ _ (A.on (hO _ _ _ n0) (Le.mk [(0, 6)] hm rfl ⟨⟨_, rfl, rfl⟩, ⟨_, rfl, rfl⟩, ⟨_, rfl, rfl⟩, trivial⟩ trivial ⟨⟨_, _, rfl, rfl, rfl⟩, trivial⟩))
                    · replace H := condF hc74 H
                      obtain ⟨r75, hr75, H⟩ := bindS H
                      refine A.begin mixed rfl rfl ?_
                      intro W hI hO
                      have n2097151 : W 0 #[true, true, true, true, true, true, true, true, true, true, true, true, true, true, true, true, true, true, true, true, true] (mkSt [(2, one (cL r75))] [] [] 0) := by
                        refine hI _ _ _ (A.done (by kernel_rfl) ?_)
                        refine WpC.ret ?_
                        cases H
                        exact Leaves.ret rfl rfl rfl ⟨rfl, rfl⟩
                      have n1048575 : W 1 #[true, true, true, true, true, true, true, true, true, true, true, true, true, true, true, true, true, true, true, true, false] (mkSt [(203, one (cL r75))] [] [] 0) := by
                        refine hI _ _ _ ?_
                        refine A.take 20 rfl (by kernel_rfl) (by kernel_rfl) (by kernel_rfl) rfl (Ca.assign) (fun Q0 k0 => L.assign hF rfl rfl rfl (L.nil k0)) ?_
                        exact A.on (hO _ _ _ n2097151) (Le.mk [] hm rfl ⟨⟨_, rfl, rfl⟩, trivial⟩ trivial trivial)
                      have n524287 : W 2 #[true, true, true, true, true, true, true, true, true, true, true, true, true, true, true, true, true, true, true, false, false] (mkSt [(193, one (cL true)), (202, one (cL r75))] [] [] 0) := by
                        refine hI _ _ _ ?_
                        refine A.take 19 rfl (by kernel_rfl) (by kernel_rfl) (by kernel_rfl) rfl (Ca.pick) (fun Q0 k0 => L.pick hF rfl rfl rfl rfl (L.nil k0)) ?_
                        exact A.on (hO _ _ _ n1048575) (Le.mk [] hm rfl ⟨⟨_, rfl, rfl⟩, trivial⟩ trivial trivial)
                      have n262143 : W 3 #[true, true, true, true, true, true, true, true, true, true, true, true, true, true, true, true, true, true, false, false, false] (mkSt [(193, one (cL true)), (198, one (cL false)), (201, one (cL r75))] [] [] 0) := by
                        refine hI _ _ _ ?_
                        refine A.take 18 rfl (by kernel_rfl) (by kernel_rfl) (by kernel_rfl) rfl (Ca.pick) (fun Q0 k0 => L.pick hF rfl rfl rfl rfl (L.nil k0)) ?_
                        exact A.on (hO _ _ _ n524287) (Le.mk [] hm rfl ⟨⟨_, rfl, rfl⟩, ⟨_, rfl, rfl⟩, trivial⟩ trivial trivial)
                      have n131071 : W 4 #[true, true, true, true, true, true, true, true, true, true, true, true, true, true, true, true, true, false, false, false, false] (mkSt [(193, one (cL true)), (198, one (cL false)), (199, agg [cI r65.1.Auth, cI r65.1.Start, cI r65.1.End, cI r65.1.Renew]), (200, one (cI r65.2.1))] [] [] 0) := by
                        refine hI _ _ _ ?_
                        refine A.all [17] (by kernel_rfl) rfl ⟨⟨_, rfl, ?_⟩, trivial⟩
                        · refine L.call [false, false, false] [] [] 0 hF rfl rfl rfl ent26 rfl rfl rfl rfl rfl (Fimpl_Lives_gives kj4  r65.1 r65.2.1 (7 : Int) r75 hr75) rfl ?_
                          refine L.nil ?_
                          exact A.on (hO _ _ _ n262143) (Le.mk [] hm rfl ⟨⟨_, rfl, rfl⟩, ⟨_, rfl, rfl⟩, ⟨_, rfl, rfl⟩, trivial⟩ trivial trivial)
                      have n98303 : W 5 #[true, true, true, true, true, true, true, true, true, true, true, true, true, true, true, false, true, false, false, false, false] (mkSt [(20, one (Cell.ptr 0 0)), (193, one (cL true)), (198, one (cL false)), (200, one (cI r65.2.1))] [] [(0, [cI r65.1.Auth, cI r65.1.Start, cI r65.1.End, cI r65.1.Renew])] 1) := by
                        refine hI _ _ _ ?_
                        refine A.all [15] (by kernel_rfl) rfl ⟨⟨_, rfl, ?_⟩, trivial⟩
                        · refine L.loadPtr shape25 hF rfl rfl rfl rfl rfl rfl ?_
                          refine L.nil ?_
                          exact A.on (hO _ _ _ n131071) (Le.mk [] hm rfl ⟨⟨_, rfl, rfl⟩, ⟨_, rfl, rfl⟩, ⟨_, rfl, rfl⟩, ⟨_, rfl, rfl⟩, trivial⟩ trivial trivial)
                      have n32767 : W 6 #[true, true, true, true, true, true, true, true, true, true, true, true, true, true, true, false, false, false, false, false, false] (mkSt [(20, one (Cell.ptr 0 0)), (21, one (cI r65.2.1)), (193, one (cL true)), (198, one (cL false))] [] [(0, [cI r65.1.Auth, cI r65.1.Start, cI r65.1.End, cI r65.1.Renew])] 1) := by
                        refine hI _ _ _ ?_
                        refine A.take 16 rfl (by kernel_rfl) (by kernel_rfl) (by kernel_rfl) rfl (Ca.move) (fun Q0 k0 => L.move hF rfl rfl rfl (L.nil k0)) ?_
                        exact A.on (hO _ _ _ n98303) (Le.mk [(0, 0)] hm rfl ⟨⟨_, rfl, rfl⟩, ⟨_, rfl, rfl⟩, ⟨_, rfl, rfl⟩, ⟨_, rfl, rfl⟩, trivial⟩ trivial ⟨⟨_, _, rfl, rfl, rfl⟩, trivial⟩)
                      have n16383 : W 7 #[true, true, true, true, true, true, true, true, true, true, true, true, true, true, false, false, false, false, false, false, false] (mkSt [(20, one (Cell.ptr 0 0)), (21, one (cI r65.2.1)), (193, one (cL true)), (197, one (cL (!r73)))] [] [(0, [cI r65.1.Auth, cI r65.1.Start, cI r65.1.End, cI r65.1.Renew])] 1) := by
                        refine hI _ _ _ ?_
                        refine A.take 14 rfl (by kernel_rfl) (by kernel_rfl) (by kernel_rfl) rfl (Ca.move) (fun Q0 k0 => L.move hF rfl rfl rfl (L.nil k0)) ?_
                        exact A.on (hO _ _ _ n32767) (Le.mk [(0, 0)] hm rfl ⟨⟨_, rfl, rfl⟩, ⟨_, rfl, rfl⟩, ⟨_, rfl, rfl⟩, ⟨_, rfl, congrArg (fun b => some (one (cL b))) hc74⟩, trivial⟩ trivial ⟨⟨_, _, rfl, rfl, rfl⟩, trivial⟩)
                      have n8191 : W 8 #[true, true, true, true, true, true, true, true, true, true, true, true, true, false, false, false, false, false, false, false, false] (mkSt [(20, one (Cell.ptr 0 0)), (21, one (cI r65.2.1)), (193, one (cL true)), (196, one (cL r73))] [] [(0, [cI r65.1.Auth, cI r65.1.Start, cI r65.1.End, cI r65.1.Renew])] 1) := by
                        refine hI _ _ _ ?_
                        refine A.take 13 rfl (by kernel_rfl) (by kernel_rfl) (by kernel_rfl) rfl (Ca.un rfl rfl) (fun Q0 k0 => L.not hF rfl rfl rfl (L.nil k0)) ?_
                        exact A.on (hO _ _ _ n16383) (Le.mk [(0, 0)] hm rfl ⟨⟨_, rfl, rfl⟩, ⟨_, rfl, rfl⟩, ⟨_, rfl, rfl⟩, ⟨_, rfl, rfl⟩, trivial⟩ trivial ⟨⟨_, _, rfl, rfl, rfl⟩, trivial⟩)
                      have n4095 : W 9 #[true, true, true, true, true, true, true, true, true, true, true, true, false, false, false, false, false, false, false, false, false] (mkSt [(20, one (Cell.ptr 0 0)), (21, one (cI r65.2.1)), (193, one (cL true)), (194, agg [cI r65.1.Auth, cI r65.1.Start, cI r65.1.End, cI r65.1.Renew]), (195, one (cI r65.2.1))] [] [(0, [cI r65.1.Auth, cI r65.1.Start, cI r65.1.End, cI r65.1.Renew])] 1) := by
                        refine hI _ _ _ ?_
                        refine A.all [12] (by kernel_rfl) rfl ⟨⟨_, rfl, ?_⟩, trivial⟩
                        · refine L.call [false, false, false] [] [] 1 hF rfl rfl rfl ent26 rfl rfl rfl rfl rfl (Fimpl_Lives_gives kj4  r65.1 r65.2.1 (0 : Int) r73 hr73) rfl ?_
                          refine L.nil ?_
                          exact A.on (hO _ _ _ n8191) (Le.mk [(0, 0)] hm rfl ⟨⟨_, rfl, rfl⟩, ⟨_, rfl, rfl⟩, ⟨_, rfl, rfl⟩, ⟨_, rfl, rfl⟩, trivial⟩ trivial ⟨⟨_, _, rfl, rfl, rfl⟩, trivial⟩)
                      have n3071 : W 10 #[true, true, true, true, true, true, true, true, true, true, false, true, false, false, false, false, false, false, false, false, false] (mkSt [(20, one (Cell.ptr 0 0)), (21, one (cI r65.2.1)), (193, one (cL true)), (195, one (cI r65.2.1))] [] [(0, [cI r65.1.Auth, cI r65.1.Start, cI r65.1.End, cI r65.1.Renew])] 1) := by
                        refine hI _ _ _ ?_
                        refine A.all [10] (by kernel_rfl) rfl ⟨⟨_, rfl, ?_⟩, trivial⟩
                        · refine L.loadPtr shape25 hF rfl rfl rfl rfl rfl rfl ?_
                          refine L.nil ?_
                          exact A.on (hO _ _ _ n4095) (Le.mk [(0, 0)] hm rfl ⟨⟨_, rfl, rfl⟩, ⟨_, rfl, rfl⟩, ⟨_, rfl, rfl⟩, ⟨_, rfl, rfl⟩, ⟨_, rfl, rfl⟩, trivial⟩ trivial ⟨⟨_, _, rfl, rfl, rfl⟩, trivial⟩)
                      have n1023 : W 11 #[true, true, true, true, true, true, true, true, true, true, false, false, false, false, false, false, false, false, false, false, false] (mkSt [(20, one (Cell.ptr 0 0)), (21, one (cI r65.2.1)), (193, one (cL true))] [] [(0, [cI r65.1.Auth, cI r65.1.Start, cI r65.1.End, cI r65.1.Renew])] 1) := by
                        refine hI _ _ _ ?_
                        refine A.take 11 rfl (by kernel_rfl) (by kernel_rfl) (by kernel_rfl) rfl (Ca.move) (fun Q0 k0 => L.move hF rfl rfl rfl (L.nil k0)) ?_
                        exact A.on (hO _ _ _ n3071) (Le.mk [(0, 0)] hm rfl ⟨⟨_, rfl, rfl⟩, ⟨_, rfl, rfl⟩, ⟨_, rfl, rfl⟩, ⟨_, rfl, rfl⟩, trivial⟩ trivial ⟨⟨_, _, rfl, rfl, rfl⟩, trivial⟩)
                      have n511 : W 12 #[true, true, true, true, true, true, true, true, true, false, false, false, false, false, false, false, false, false, false, false, false] (mkSt [(20, one (Cell.ptr 0 0)), (21, one (cI r65.2.1)), (192, one (cL (r70 == r71)))] [] [(0, [cI r65.1.Auth, cI r65.1.Start, cI r65.1.End, cI r65.1.Renew])] 1) := by
                        refine hI _ _ _ ?_
                        refine A.take 9 rfl (by kernel_rfl) (by kernel_rfl) (by kernel_rfl) rfl (Ca.move) (fun Q0 k0 => L.move hF rfl rfl rfl (L.nil k0)) ?_
                        exact A.on (hO _ _ _ n1023) (Le.mk [(0, 0)] hm rfl ⟨⟨_, rfl, rfl⟩, ⟨_, rfl, rfl⟩, ⟨_, rfl, congrArg (fun b => some (one (cL b))) hc72⟩, trivial⟩ trivial ⟨⟨_, _, rfl, rfl, rfl⟩, trivial⟩)
                      have n255 : W 13 #[true, true, true, true, true, true, true, true, false, false, false, false, false, false, false, false, false, false, false, false, false] (mkSt [(20, one (Cell.ptr 0 0)), (21, one (cI r65.2.1)), (187, one (cL r70)), (191, one (cL r71))] [] [(0, [cI r65.1.Auth, cI r65.1.Start, cI r65.1.End, cI r65.1.Renew])] 1) := by
                        refine hI _ _ _ ?_
                        refine A.take 8 rfl (by kernel_rfl) (by kernel_rfl) (by kernel_rfl) rfl (Ca.bin rfl rfl (calm_bool _ _ _ _ _ _ Try.underlying4 (by simp))) (fun Q0 k0 => L.eqL Try.underlying4 hF rfl rfl rfl rfl (L.nil k0)) ?_
                        exact A.on (hO _ _ _ n511) (Le.mk [(0, 0)] hm rfl ⟨⟨_, rfl, rfl⟩, ⟨_, rfl, rfl⟩, ⟨_, rfl, rfl⟩, trivial⟩ trivial ⟨⟨_, _, rfl, rfl, rfl⟩, trivial⟩)
                      have n127 : W 14 #[true, true, true, true, true, true, true, false, false, false, false, false, false, false, false, false, false, false, false, false, false] (mkSt [(20, one (Cell.ptr 0 0)), (21, one (cI r65.2.1)), (187, one (cL r70)), (188, agg [cI r65.1.Auth, cI r65.1.Start, cI r65.1.End, cI r65.1.Renew]), (189, one (cI r65.2.1)), (190, one (cI r65.2.2))] [] [(0, [cI r65.1.Auth, cI r65.1.Start, cI r65.1.End, cI r65.1.Renew])] 1) := by
                        refine hI _ _ _ ?_
                        refine A.all [7] (by kernel_rfl) rfl ⟨⟨_, rfl, ?_⟩, trivial⟩
                        · refine L.call [false, false, false] [] [] 1 hF rfl rfl rfl ent25 rfl rfl rfl rfl rfl (Fspec_Lives_gives kj4  r65.1 r65.2.1 r65.2.2 r71 hr71) rfl ?_
                          refine L.nil ?_
                          exact A.on (hO _ _ _ n255) (Le.mk [(0, 0)] hm rfl ⟨⟨_, rfl, rfl⟩, ⟨_, rfl, rfl⟩, ⟨_, rfl, rfl⟩, ⟨_, rfl, rfl⟩, trivial⟩ trivial ⟨⟨_, _, rfl, rfl, rfl⟩, trivial⟩)
                      have n111 : W 15 #[true, true, true, true, false, true, true, false, false, false, false, false, false, false, false, false, false, false, false, false, false] (mkSt [(20, one (Cell.ptr 0 0)), (21, one (cI r65.2.1)), (187, one (cL r70)), (189, one (cI r65.2.1)), (190, one (cI r65.2.2))] [] [(0, [cI r65.1.Auth, cI r65.1.Start, cI r65.1.End, cI r65.1.Renew])] 1) := by
                        refine hI _ _ _ ?_
                        refine A.all [4] (by kernel_rfl) rfl ⟨⟨_, rfl, ?_⟩, trivial⟩
                        · refine L.loadPtr shape25 hF rfl rfl rfl rfl rfl rfl ?_
                          refine L.nil ?_
                          exact A.on (hO _ _ _ n127) (Le.mk [(0, 0)] hm rfl ⟨⟨_, rfl, rfl⟩, ⟨_, rfl, rfl⟩, ⟨_, rfl, rfl⟩, ⟨_, rfl, rfl⟩, ⟨_, rfl, rfl⟩, ⟨_, rfl, rfl⟩, trivial⟩ trivial ⟨⟨_, _, rfl, rfl, rfl⟩, trivial⟩)
                      have n119 : W 15 #[true, true, true, false, true, true, true, false, false, false, false, false, false, false, false, false, false, false, false, false, false] (mkSt [(20, one (Cell.ptr 0 0)), (21, one (cI r65.2.1)), (184, agg [cI r65.1.Auth, cI r65.1.Start, cI r65.1.End, cI r65.1.Renew]), (185, one (cI r65.2.1)), (186, one (cI r65.2.2)), (188, agg [cI r65.1.Auth, cI r65.1.Start, cI r65.1.End, cI r65.1.Renew]), (189, one (cI r65.2.1)), (190, one (cI r65.2.2))] [] [(0, [cI r65.1.Auth, cI r65.1.Start, cI r65.1.End, cI r65.1.Renew])] 1) := by
                        refine hI _ _ _ ?_
                        refine A.all [3] (by kernel_rfl) rfl ⟨⟨_, rfl, ?_⟩, trivial⟩
                        · refine L.call [false, false, false] [] [] 1 hF rfl rfl rfl ent26 rfl rfl rfl rfl rfl (Fimpl_Lives_gives kj4  r65.1 r65.2.1 r65.2.2 r70 hr70) rfl ?_
                          refine L.nil ?_
                          exact A.on (hO _ _ _ n127) (Le.mk [(0, 0)] hm rfl ⟨⟨_, rfl, rfl⟩, ⟨_, rfl, rfl⟩, ⟨_, rfl, rfl⟩, ⟨_, rfl, rfl⟩, ⟨_, rfl, rfl⟩, ⟨_, rfl, rfl⟩, trivial⟩ trivial ⟨⟨_, _, rfl, rfl, rfl⟩, trivial⟩)
                      have n103 : W 16 #[true, true, true, false, false, true, true, false, false, false, false, false, false, false, false, false, false, false, false, false, false] (mkSt [(20, one (Cell.ptr 0 0)), (21, one (cI r65.2.1)), (184, agg [cI r65.1.Auth, cI r65.1.Start, cI r65.1.End, cI r65.1.Renew]), (185, one (cI r65.2.1)), (186, one (cI r65.2.2)), (189, one (cI r65.2.1)), (190, one (cI r65.2.2))] [] [(0, [cI r65.1.Auth, cI r65.1.Start, cI r65.1.End, cI r65.1.Renew])] 1) := by
                        refine hI _ _ _ ?_
                        refine A.all [3, 4] (by kernel_rfl) rfl ⟨⟨_, rfl, ?_⟩, ⟨_, rfl, ?_⟩, trivial⟩
                        · refine L.call [false, false, false] [] [] 1 hF rfl rfl rfl ent26 rfl rfl rfl rfl rfl (Fimpl_Lives_gives kj4  r65.1 r65.2.1 r65.2.2 r70 hr70) rfl ?_
                          refine L.nil ?_
                          exact A.on (hO _ _ _ n111) (Le.mk [(0, 0)] hm rfl ⟨⟨_, rfl, rfl⟩, ⟨_, rfl, rfl⟩, ⟨_, rfl, rfl⟩, ⟨_, rfl, rfl⟩, ⟨_, rfl, rfl⟩, trivial⟩ trivial ⟨⟨_, _, rfl, rfl, rfl⟩, trivial⟩)
                        · refine L.loadPtr shape25 hF rfl rfl rfl rfl rfl rfl ?_
                          refine L.nil ?_
                          exact A.on (hO _ _ _ n119) (Le.mk [(0, 0)] hm rfl ⟨⟨_, rfl, rfl⟩, ⟨_, rfl, rfl⟩, ⟨_, rfl, rfl⟩, ⟨_, rfl, rfl⟩, ⟨_, rfl, rfl⟩, ⟨_, rfl, rfl⟩, ⟨_, rfl, rfl⟩, ⟨_, rfl, rfl⟩, trivial⟩ trivial ⟨⟨_, _, rfl, rfl, rfl⟩, trivial⟩)
                      have n118 : W 16 #[false, true, true, false, true, true, true, false, false, false, false, false, false, false, false, false, false, false, false, false, false] (mkSt [(20, one (Cell.ptr 0 0)), (21, one (cI r65.2.1)), (185, one (cI r65.2.1)), (186, one (cI r65.2.2)), (188, agg [cI r65.1.Auth, cI r65.1.Start, cI r65.1.End, cI r65.1.Renew]), (189, one (cI r65.2.1)), (190, one (cI r65.2.2))] [] [(0, [cI r65.1.Auth, cI r65.1.Start, cI r65.1.End, cI r65.1.Renew])] 1) := by
                        refine hI _ _ _ ?_
                        refine A.all [0] (by kernel_rfl) rfl ⟨⟨_, rfl, ?_⟩, trivial⟩
                        · refine L.loadPtr shape25 hF rfl rfl rfl rfl rfl rfl ?_
                          refine L.nil ?_
                          exact A.on (hO _ _ _ n119) (Le.mk [(0, 0)] hm rfl ⟨⟨_, rfl, rfl⟩, ⟨_, rfl, rfl⟩, ⟨_, rfl, rfl⟩, ⟨_, rfl, rfl⟩, ⟨_, rfl, rfl⟩, ⟨_, rfl, rfl⟩, ⟨_, rfl, rfl⟩, ⟨_, rfl, rfl⟩, trivial⟩ trivial ⟨⟨_, _, rfl, rfl, rfl⟩, trivial⟩)
                      have n102 : W 17 #[false, true, true, false, false, true, true, false, false, false, false, false, false, false, false, false, false, false, false, false, false] (mkSt [(20, one (Cell.ptr 0 0)), (21, one (cI r65.2.1)), (185, one (cI r65.2.1)), (186, one (cI r65.2.2)), (189, one (cI r65.2.1)), (190, one (cI r65.2.2))] [] [(0, [cI r65.1.Auth, cI r65.1.Start, cI r65.1.End, cI r65.1.Renew])] 1) := by
                        refine hI _ _ _ ?_
                        refine A.all [0, 4] (by kernel_rfl) rfl ⟨⟨_, rfl, ?_⟩, ⟨_, rfl, ?_⟩, trivial⟩
                        · refine L.loadPtr shape25 hF rfl rfl rfl rfl rfl rfl ?_
                          refine L.nil ?_
                          exact A.on (hO _ _ _ n103) (Le.mk [(0, 0)] hm rfl ⟨⟨_, rfl, rfl⟩, ⟨_, rfl, rfl⟩, ⟨_, rfl, rfl⟩, ⟨_, rfl, rfl⟩, ⟨_, rfl, rfl⟩, ⟨_, rfl, rfl⟩, ⟨_, rfl, rfl⟩, trivial⟩ trivial ⟨⟨_, _, rfl, rfl, rfl⟩, trivial⟩)
                        · refine L.loadPtr shape25 hF rfl rfl rfl rfl rfl rfl ?_
                          refine L.nil ?_
                          exact A.on (hO _ _ _ n118) (Le.mk [(0, 0)] hm rfl ⟨⟨_, rfl, rfl⟩, ⟨_, rfl, rfl⟩, ⟨_, rfl, rfl⟩, ⟨_, rfl, rfl⟩, ⟨_, rfl, rfl⟩, ⟨_, rfl, rfl⟩, ⟨_, rfl, rfl⟩, trivial⟩ trivial ⟨⟨_, _, rfl, rfl, rfl⟩, trivial⟩)
                      have n38 : W 18 #[false, true, true, false, false, true, false, false, false, false, false, false, false, false, false, false, false, false, false, false, false] (mkSt [(20, one (Cell.ptr 0 0)), (21, one (cI r65.2.1)), (22, one (cI r65.2.2)), (185, one (cI r65.2.1)), (186, one (cI r65.2.2)), (189, one (cI r65.2.1))] [] [(0, [cI r65.1.Auth, cI r65.1.Start, cI r65.1.End, cI r65.1.Renew])] 1) := by
                        refine hI _ _ _ ?_
                        refine A.take 6 rfl (by kernel_rfl) (by kernel_rfl) (by kernel_rfl) rfl (Ca.move) (fun Q0 k0 => L.move hF rfl rfl rfl (L.nil k0)) ?_
                        exact A.on (hO _ _ _ n102) (Le.mk [(0, 0)] hm rfl ⟨⟨_, rfl, rfl⟩, ⟨_, rfl, rfl⟩, ⟨_, rfl, rfl⟩, ⟨_, rfl, rfl⟩, ⟨_, rfl, rfl⟩, ⟨_, rfl, rfl⟩, trivial⟩ trivial ⟨⟨_, _, rfl, rfl, rfl⟩, trivial⟩)
                      have n6 : W 19 #[false, true, true, false, false, false, false, false, false, false, false, false, false, false, false, false, false, false, false, false, false] (mkSt [(20, one (Cell.ptr 0 0)), (21, one (cI r65.2.1)), (22, one (cI r65.2.2)), (185, one (cI r65.2.1)), (186, one (cI r65.2.2))] [] [(0, [cI r65.1.Auth, cI r65.1.Start, cI r65.1.End, cI r65.1.Renew])] 1) := by
                        refine hI _ _ _ ?_
                        refine A.take 5 rfl (by kernel_rfl) (by kernel_rfl) (by kernel_rfl) rfl (Ca.move) (fun Q0 k0 => L.move hF rfl rfl rfl (L.nil k0)) ?_
                        exact A.on (hO _ _ _ n38) (Le.mk [(0, 0)] hm rfl ⟨⟨_, rfl, rfl⟩, ⟨_, rfl, rfl⟩, ⟨_, rfl, rfl⟩, ⟨_, rfl, rfl⟩, ⟨_, rfl, rfl⟩, ⟨_, rfl, rfl⟩, trivial⟩ trivial ⟨⟨_, _, rfl, rfl, rfl⟩, trivial⟩)
                      have n2 : W 20 #[false, true, false, false, false, false, false, false, false, false, false, false, false, false, false, false, false, false, false, false, false] (mkSt [(20, one (Cell.ptr 0 0)), (21, one (cI r65.2.1)), (22, one (cI r65.2.2)), (185, one (cI r65.2.1))] [] [(0, [cI r65.1.Auth, cI r65.1.Start, cI r65.1.End, cI r65.1.Renew])] 1) := by
                        refine hI _ _ _ ?_
                        refine A.take 2 rfl (by kernel_rfl) (by kernel_rfl) (by kernel_rfl) rfl (Ca.move) (fun Q0 k0 => L.move hF rfl rfl rfl (L.nil k0)) ?_
                        exact A.on (hO _ _ _ n6) (Le.mk [(0, 0)] hm rfl ⟨⟨_, rfl, rfl⟩, ⟨_, rfl, rfl⟩, ⟨_, rfl, rfl⟩, ⟨_, rfl, rfl⟩, ⟨_, rfl, rfl⟩, trivial⟩ trivial ⟨⟨_, _, rfl, rfl, rfl⟩, trivial⟩)
                      have n0 : W 21 #[false, false, false, false, false, false, false, false, false, false, false, false, false, false, false, false, false, false, false, false, false] (mkSt [(20, one (Cell.ptr 0 0)), (21, one (cI r65.2.1)), (22, one (cI r65.2.2))] [] [(0, [cI r65.1.Auth, cI r65.1.Start, cI r65.1.End, cI r65.1.Renew])] 1) := by
                        refine hI _ _ _ ?_
                        refine A.take 1 rfl (by kernel_rfl) (by kernel_rfl) (by kernel_rfl) rfl (Ca.move) (fun Q0 k0 => L.move hF rfl rfl rfl (L.nil k0)) ?_
                        exact A.on (hO _ _ _ n2) (Le.mk [(0, 0)] hm rfl ⟨⟨_, rfl, rfl⟩, ⟨_, rfl, rfl⟩, ⟨_, rfl, rfl⟩, ⟨_, rfl, rfl⟩, trivial⟩ trivial ⟨⟨_, _, rfl, rfl, rfl⟩, trivial⟩)
                      exact hI _ _ _ (A.on (hO _ _ _ n0) (Le.mk [(0, 6)] hm rfl ⟨⟨_, rfl, rfl⟩, ⟨_, rfl, rfl⟩, ⟨_, rfl, rfl⟩, trivial⟩ trivial ⟨⟨_, _, rfl, rfl, rfl⟩, trivial⟩))
                  · replace H := condF hc72 H
                    refine A.begin mixed rfl rfl ?_
                    intro W hI hO
                    have n2097151 : W 0 #[true, true, true, true, true, true, true, true, true, true, true, true, true, true, true, true, true, true, true, true, true] (mkSt [(2, one (cL false))] [] [] 0) := by
                      refine hI _ _ _ (A.done (by kernel_rfl) ?_)
                      refine WpC.ret ?_
                      cases H
                      exact Leaves.ret rfl rfl rfl ⟨rfl, rfl⟩
                    have n1048575 : W 1 #[true, true, true, true, true, true, true, true, true, true, true, true, true, true, true, true, true, true, true, true, false] (mkSt [(203, one (cL false))] [] [] 0) := by
                      refine hI _ _ _ ?_
                      refine A.take 20 rfl (by kernel_rfl) (by kernel_rfl) (by kernel_rfl) rfl (Ca.assign) (fun Q0 k0 => L.assign hF rfl rfl rfl (L.nil k0)) ?_
                      exact A.on (hO _ _ _ n2097151) (Le.mk [] hm rfl ⟨⟨_, rfl, rfl⟩, trivial⟩ trivial trivial)
                    have n524287 : W 2 #[true, true, true, true, true, true, true, true, true, true, true, true, true, true, true, true, true, true, true, false, false] (mkSt [(193, one (cL false)), (202, Slot.tup [])] [] [] 0) := by
                      refine hI _ _ _ ?_
                      refine A.take 19 rfl (by kernel_rfl) (by kernel_rfl) (by kernel_rfl) rfl (Ca.pick) (fun Q0 k0 => L.pick hF rfl rfl rfl rfl (L.nil k0)) ?_
                      exact A.on (hO _ _ _ n1048575) (Le.mk [] hm rfl ⟨⟨_, rfl, rfl⟩, trivial⟩ trivial trivial)
                    have n262143 : W 3 #[true, true, true, true, true, true, true, true, true, true, true, true, true, true, true, true, true, true, false, false, false] (mkSt [(193, one (cL false)), (198, Slot.tup []), (201, Slot.tup [])] [] [] 0) := by
                      refine hI _ _ _ ?_
                      refine A.off 18 rfl (by kernel_rfl) (by kernel_rfl) (by kernel_rfl) rfl hF rfl rfl ?_
                      exact A.on (hO _ _ _ n524287) (Le.mk [] hm rfl ⟨⟨_, rfl, rfl⟩, ⟨_, rfl, rfl⟩, trivial⟩ trivial trivial)
                    have n131071 : W 4 #[true, true, true, true, true, true, true, true, true, true, true, true, true, true, true, true, true, false, false, false, false] (mkSt [(193, one (cL false)), (198, Slot.tup []), (199, Slot.tup []), (200, Slot.tup [])] [] [] 0) := by
                      refine hI _ _ _ ?_
                      refine A.all [17] (by kernel_rfl) rfl ⟨⟨_, rfl, ?_⟩, trivial⟩
                      · refine L.off hF rfl rfl ?_
                        refine L.nil ?_
                        exact A.on (hO _ _ _ n262143) (Le.mk [] hm rfl ⟨⟨_, rfl, rfl⟩, ⟨_, rfl, rfl⟩, ⟨_, rfl, rfl⟩, trivial⟩ trivial trivial)
                    have n65535 : W 5 #[true, true, true, true, true, true, true, true, true, true, true, true, true, true, true, true, false, false, false, false, false] (mkSt [(21, one (cI r65.2.1)), (193, one (cL false)), (198, Slot.tup []), (199, Slot.tup [])] [] [] 0) := by
                      refine hI _ _ _ ?_
                      refine A.off 16 rfl (by kernel_rfl) (by kernel_rfl) (by kernel_rfl) rfl hF rfl rfl ?_
                      exact A.on (hO _ _ _ n131071) (Le.mk [] hm rfl ⟨⟨_, rfl, rfl⟩, ⟨_, rfl, rfl⟩, ⟨_, rfl, rfl⟩, ⟨_, rfl, rfl⟩, trivial⟩ trivial trivial)
                    have n32767 : W 6 #[true, true, true, true, true, true, true, true, true, true, true, true, true, true, true, false, false, false, false, false, false] (mkSt [(20, one (Cell.ptr 0 0)), (21, one (cI r65.2.1)), (193, one (cL false)), (198, Slot.tup [])] [] [(0, [cI r65.1.Auth, cI r65.1.Start, cI r65.1.End, cI r65.1.Renew])] 1) := by
                      refine hI _ _ _ ?_
                      refine A.off 15 rfl (by kernel_rfl) (by kernel_rfl) (by kernel_rfl) rfl hF rfl rfl ?_
                      exact A.on (hO _ _ _ n65535) (Le.mk [] hm rfl ⟨⟨_, rfl, rfl⟩, ⟨_, rfl, rfl⟩, ⟨_, rfl, rfl⟩, ⟨_, rfl, rfl⟩, trivial⟩ trivial trivial)
                    have n16383 : W 7 #[true, true, true, true, true, true, true, true, true, true, true, true, true, true, false, false, false, false, false, false, false] (mkSt [(20, one (Cell.ptr 0 0)), (21, one (cI r65.2.1)), (193, one (cL false)), (197, Slot.tup [])] [] [(0, [cI r65.1.Auth, cI r65.1.Start, cI r65.1.End, cI r65.1.Renew])] 1) := by
                      refine hI _ _ _ ?_
                      refine A.off 14 rfl (by kernel_rfl) (by kernel_rfl) (by kernel_rfl) rfl hF rfl rfl ?_
                      exact A.on (hO _ _ _ n32767) (Le.mk [(0, 0)] hm rfl ⟨⟨_, rfl, rfl⟩, ⟨_, rfl, rfl⟩, ⟨_, rfl, rfl⟩, ⟨_, rfl, rfl⟩, trivial⟩ trivial ⟨⟨_, _, rfl, rfl, rfl⟩, trivial⟩)
                    have n8191 : W 8 #[true, true, true, true, true, true, true, true, true, true, true, true, true, false, false, false, false, false, false, false, false] (mkSt [(20, one (Cell.ptr 0 0)), (21, one (cI r65.2.1)), (193, one (cL false)), (196, Slot.tup [])] [] [(0, [cI r65.1.Auth, cI r65.1.Start, cI r65.1.End, cI r65.1.Renew])] 1) := by
                      refine hI _ _ _ ?_
                      refine A.off 13 rfl (by kernel_rfl) (by kernel_rfl) (by kernel_rfl) rfl hF rfl rfl ?_
                      exact A.on (hO _ _ _ n16383) (Le.mk [(0, 0)] hm rfl ⟨⟨_, rfl, rfl⟩, ⟨_, rfl, rfl⟩, ⟨_, rfl, rfl⟩, ⟨_, rfl, rfl⟩, trivial⟩ trivial ⟨⟨_, _, rfl, rfl, rfl⟩, trivial⟩)
                    have n4095 : W 9 #[true, true, true, true, true, true, true, true, true, true, true, true, false, false, false, false, false, false, false, false, false] (mkSt [(20, one (Cell.ptr 0 0)), (21, one (cI r65.2.1)), (193, one (cL false)), (194, Slot.tup []), (195, Slot.tup [])] [] [(0, [cI r65.1.Auth, cI r65.1.Start, cI r65.1.End, cI r65.1.Renew])] 1) := by
                      refine hI _ _ _ ?_
                      refine A.all [12] (by kernel_rfl) rfl ⟨⟨_, rfl, ?_⟩, trivial⟩
                      · refine L.off hF rfl rfl ?_
                        refine L.nil ?_
                        exact A.on (hO _ _ _ n8191) (Le.mk [(0, 0)] hm rfl ⟨⟨_, rfl, rfl⟩, ⟨_, rfl, rfl⟩, ⟨_, rfl, rfl⟩, ⟨_, rfl, rfl⟩, trivial⟩ trivial ⟨⟨_, _, rfl, rfl, rfl⟩, trivial⟩)
                    have n2047 : W 10 #[true, true, true, true, true, true, true, true, true, true, true, false, false, false, false, false, false, false, false, false, false] (mkSt [(20, one (Cell.ptr 0 0)), (21, one (cI r65.2.1)), (193, one (cL false)), (194, Slot.tup [])] [] [(0, [cI r65.1.Auth, cI r65.1.Start, cI r65.1.End, cI r65.1.Renew])] 1) := by
                      refine hI _ _ _ ?_
                      refine A.off 11 rfl (by kernel_rfl) (by kernel_rfl) (by kernel_rfl) rfl hF rfl rfl ?_
                      exact A.on (hO _ _ _ n4095) (Le.mk [(0, 0)] hm rfl ⟨⟨_, rfl, rfl⟩, ⟨_, rfl, rfl⟩, ⟨_, rfl, rfl⟩, ⟨_, rfl, rfl⟩, ⟨_, rfl, rfl⟩, trivial⟩ trivial ⟨⟨_, _, rfl, rfl, rfl⟩, trivial⟩)
                    have n1023 : W 11 #[true, true, true, true, true, true, true, true, true, true, false, false, false, false, false, false, false, false, false, false, false] (mkSt [(20, one (Cell.ptr 0 0)), (21, one (cI r65.2.1)), (193, one (cL false))] [] [(0, [cI r65.1.Auth, cI r65.1.Start, cI r65.1.End, cI r65.1.Renew])] 1) := by
                      refine hI _ _ _ ?_
                      refine A.off 10 rfl (by kernel_rfl) (by kernel_rfl) (by kernel_rfl) rfl hF rfl rfl ?_
                      exact A.on (hO _ _ _ n2047) (Le.mk [(0, 0)] hm rfl ⟨⟨_, rfl, rfl⟩, ⟨_, rfl, rfl⟩, ⟨_, rfl, rfl⟩, ⟨_, rfl, rfl⟩, trivial⟩ trivial ⟨⟨_, _, rfl, rfl, rfl⟩, trivial⟩)
                    have n511 : W 12 #[true, true, true, true, true, true, true, true, true, false, false, false, false, false, false, false, false, false, false, false, false] (mkSt [(20, one (Cell.ptr 0 0)), (21, one (cI r65.2.1)), (192, one (cL (r70 == r71)))] [] [(0, [cI r65.1.Auth, cI r65.1.Start, cI r65.1.End, cI r65.1.Renew])] 1) := by
                      refine hI _ _ _ ?_
                      refine A.take 9 rfl (by kernel_rfl) (by kernel_rfl) (by kernel_rfl) rfl (Ca.move) (fun Q0 k0 => L.move hF rfl rfl rfl (L.nil k0)) ?_
                      exact A.on (hO _ _ _ n1023) (Le.mk [(0, 0)] hm rfl ⟨⟨_, rfl, rfl⟩, ⟨_, rfl, rfl⟩, ⟨_, rfl, congrArg (fun b => some (one (cL b))) hc72⟩, trivial⟩ trivial ⟨⟨_, _, rfl, rfl, rfl⟩, trivial⟩)
                    have n255 : W 13 #[true, true, true, true, true, true, true, true, false, false, false, false, false, false, false, false, false, false, false, false, false] (mkSt [(20, one (Cell.ptr 0 0)), (21, one (cI r65.2.1)), (187, one (cL r70)), (191, one (cL r71))] [] [(0, [cI r65.1.Auth, cI r65.1.Start, cI r65.1.End, cI r65.1.Renew])] 1) := by
                      refine hI _ _ _ ?_
                      refine A.take 8 rfl (by kernel_rfl) (by kernel_rfl) (by kernel_rfl) rfl (Ca.bin rfl rfl (calm_bool _ _ _ _ _ _ Try.underlying4 (by simp))) (fun Q0 k0 => L.eqL Try.underlying4 hF rfl rfl rfl rfl (L.nil k0)) ?_
                      exact A.on (hO _ _ _ n511) (Le.mk [(0, 0)] hm rfl ⟨⟨_, rfl, rfl⟩, ⟨_, rfl, rfl⟩, ⟨_, rfl, rfl⟩, trivial⟩ trivial ⟨⟨_, _, rfl, rfl, rfl⟩, trivial⟩)
                    have n127 : W 14 #[true, true, true, true, true, true, true, false, false, false, false, false, false, false, false, false, false, false, false, false, false] (mkSt [(20, one (Cell.ptr 0 0)), (21, one (cI r65.2.1)), (187, one (cL r70)), (188, agg [cI r65.1.Auth, cI r65.1.Start, cI r65.1.End, cI r65.1.Renew]), (189, one (cI r65.2.1)), (190, one (cI r65.2.2))] [] [(0, [cI r65.1.Auth, cI r65.1.Start, cI r65.1.End, cI r65.1.Renew])] 1) := by
                      refine hI _ _ _ ?_
                      refine A.all [7] (by kernel_rfl) rfl ⟨⟨_, rfl, ?_⟩, trivial⟩
                      · refine L.call [false, false, false] [] [] 1 hF rfl rfl rfl ent25 rfl rfl rfl rfl rfl (Fspec_Lives_gives kj4  r65.1 r65.2.1 r65.2.2 r71 hr71) rfl ?_
                        refine L.nil ?_
                        exact A.on (hO _ _ _ n255) (Le.mk [(0, 0)] hm rfl ⟨⟨_, rfl, rfl⟩, ⟨_, rfl, rfl⟩, ⟨_, rfl, rfl⟩, ⟨_, rfl, rfl⟩, trivial⟩ trivial ⟨⟨_, _, rfl, rfl, rfl⟩, trivial⟩)
                    have n111 : W 15 #[true, true, true, true, false, true, true, false, false, false, false, false, false, false, false, false, false, false, false, false, false] (mkSt [(20, one (Cell.ptr 0 0)), (21, one (cI r65.2.1)), (187, one (cL r70)), (189, one (cI r65.2.1)), (190, one (cI r65.2.2))] [] [(0, [cI r65.1.Auth, cI r65.1.Start, cI r65.1.End, cI r65.1.Renew])] 1) := by
                      refine hI _ _ _ ?_
                      refine A.all [4] (by kernel_rfl) rfl ⟨⟨_, rfl, ?_⟩, trivial⟩
                      · refine L.loadPtr shape25 hF rfl rfl rfl rfl rfl rfl ?_
                        refine L.nil ?_
                        exact A.on (hO _ _ _ n127) (Le.mk [(0, 0)] hm rfl ⟨⟨_, rfl, rfl⟩, ⟨_, rfl, rfl⟩, ⟨_, rfl, rfl⟩, ⟨_, rfl, rfl⟩, ⟨_, rfl, rfl⟩, ⟨_, rfl, rfl⟩, trivial⟩ trivial ⟨⟨_, _, rfl, rfl, rfl⟩, trivial⟩)
                    have n119 : W 15 #[true, true, true, false, true, true, true, false, false, false, false, false, false, false, false, false, false, false, false, false, false] (mkSt [(20, one (Cell.ptr 0 0)), (21, one (cI r65.2.1)), (184, agg [cI r65.1.Auth, cI r65.1.Start, cI r65.1.End, cI r65.1.Renew]), (185, one (cI r65.2.1)), (186, one (cI r65.2.2)), (188, agg [cI r65.1.Auth, cI r65.1.Start, cI r65.1.End, cI r65.1.Renew]), (189, one (cI r65.2.1)), (190, one (cI r65.2.2))] [] [(0, [cI r65.1.Auth, cI r65.1.Start, cI r65.1.End, cI r65.1.Renew])] 1) := by
                      refine hI _ _ _ ?_
                      refine A.all [3] (by kernel_rfl) rfl ⟨⟨_, rfl, ?_⟩, trivial⟩
                      · refine L.call [false, false, false] [] [] 1 hF rfl rfl rfl ent26 rfl rfl rfl rfl rfl (Fimpl_Lives_gives kj4  r65.1 r65.2.1 r65.2.2 r70 hr70) rfl ?_
                        refine L.nil ?_
                        exact A.on (hO _ _ _ n127) (Le.mk [(0, 0)] hm rfl ⟨⟨_, rfl, rfl⟩, ⟨_, rfl, rfl⟩, ⟨_, rfl, rfl⟩, ⟨_, rfl, rfl⟩, ⟨_, rfl, rfl⟩, ⟨_, rfl, rfl⟩, trivial⟩ trivial ⟨⟨_, _, rfl, rfl, rfl⟩, trivial⟩)
                    have n103 : W 16 #[true, true, true, false, false, true, true, false, false, false, false, false, false, false, false, false, false, false, false, false, false] (mkSt [(20, one (Cell.ptr 0 0)), (21, one (cI r65.2.1)), (184, agg [cI r65.1.Auth, cI r65.1.Start, cI r65.1.End, cI r65.1.Renew]), (185, one (cI r65.2.1)), (186, one (cI r65.2.2)), (189, one (cI r65.2.1)), (190, one (cI r65.2.2))] [] [(0, [cI r65.1.Auth, cI r65.1.Start, cI r65.1.End, cI r65.1.Renew])] 1) := by
                      refine hI _ _ _ ?_
                      refine A.all [3, 4] (by kernel_rfl) rfl ⟨⟨_, rfl, ?_⟩, ⟨_, rfl, ?_⟩, trivial⟩
                      · refine L.call [false, false, false] [] [] 1 hF rfl rfl rfl ent26 rfl rfl rfl rfl rfl (Fimpl_Lives_gives kj4  r65.1 r65.2.1 r65.2.2 r70 hr70) rfl ?_
                        refine L.nil ?_
                        exact A.on (hO _ _ _ n111) (Le.mk [(0, 0)] hm rfl ⟨⟨_, rfl, rfl⟩, ⟨_, rfl, rfl⟩, ⟨_, rfl, rfl⟩, ⟨_, rfl, rfl⟩, ⟨_, rfl, rfl⟩, trivial⟩ trivial ⟨⟨_, _, rfl, rfl, rfl⟩, trivial⟩)
                      · refine L.loadPtr shape25 hF rfl rfl rfl rfl rfl rfl ?_
                        refine L.nil ?_
                        exact A.on (hO _ _ _ n119) (Le.mk [(0, 0)] hm rfl ⟨⟨_, rfl, rfl⟩, ⟨_, rfl, rfl⟩, ⟨_, rfl, rfl⟩, ⟨_, rfl, rfl⟩, ⟨_, rfl, rfl⟩, ⟨_, rfl, rfl⟩, ⟨_, rfl, rfl⟩, ⟨_, rfl, rfl⟩, trivial⟩ trivial ⟨⟨_, _, rfl, rfl, rfl⟩, trivial⟩)
                    have n118 : W 16 #[false, true, true, false, true, true, true, false, false, false, false, false, false, false, false, false, false, false, false, false, false] (mkSt [(20, one (Cell.ptr 0 0)), (21, one (cI r65.2.1)), (185, one (cI r65.2.1)), (186, one (cI r65.2.2)), (188, agg [cI r65.1.Auth, cI r65.1.Start, cI r65.1.End, cI r65.1.Renew]), (189, one (cI r65.2.1)), (190, one (cI r65.2.2))] [] [(0, [cI r65.1.Auth, cI r65.1.Start, cI r65.1.End, cI r65.1.Renew])] 1) := by
                      refine hI _ _ _ ?_
                      refine A.all [0] (by kernel_rfl) rfl ⟨⟨_, rfl, ?_⟩, trivial⟩
                      · refine L.loadPtr shape25 hF rfl rfl rfl rfl rfl rfl ?_
                        refine L.nil ?_
                        exact A.on (hO _ _ _ n119) (Le.mk [(0, 0)] hm rfl ⟨⟨_, rfl, rfl⟩, ⟨_, rfl, rfl⟩, ⟨_, rfl, rfl⟩, ⟨_, rfl, rfl⟩, ⟨_, rfl, rfl⟩, ⟨_, rfl, rfl⟩, ⟨_, rfl, rfl⟩, ⟨_, rfl, rfl⟩, trivial⟩ trivial ⟨⟨_, _, rfl, rfl, rfl⟩, trivial⟩)
                    have n102 : W 17 #[false, true, true, false, false, true, true, false, false, false, false, false, false, false, false, false, false, false, false, false, false] (mkSt [(20, one (Cell.ptr 0 0)), (21, one (cI r65.2.1)), (185, one (cI r65.2.1)), (186, one (cI r65.2.2)), (189, one (cI r65.2.1)), (190, one (cI r65.2.2))] [] [(0, [cI r65.1.Auth, cI r65.1.Start, cI r65.1.End, cI r65.1.Renew])] 1) := by
                      refine hI _ _ _ ?_
                      refine A.all [0, 4] (by kernel_rfl) rfl ⟨⟨_, rfl, ?_⟩, ⟨_, rfl, ?_⟩, trivial⟩
                      · refine L.loadPtr shape25 hF rfl rfl rfl rfl rfl rfl ?_
                        refine L.nil ?_
                        exact A.on (hO _ _ _ n103) (Le.mk [(0, 0)] hm rfl ⟨⟨_, rfl, rfl⟩, ⟨_, rfl, rfl⟩, ⟨_, rfl, rfl⟩, ⟨_, rfl, rfl⟩, ⟨_, rfl, rfl⟩, ⟨_, rfl, rfl⟩, ⟨_, rfl, rfl⟩, trivial⟩ trivial ⟨⟨_, _, rfl, rfl, rfl⟩, trivial⟩)
                      · refine L.loadPtr shape25 hF rfl rfl rfl rfl rfl rfl ?_
                        refine L.nil ?_
                        exact A.on (hO _ _ _ n118) (Le.mk [(0, 0)] hm rfl ⟨⟨_, rfl, rfl⟩, ⟨_, rfl, rfl⟩, ⟨_, rfl, rfl⟩, ⟨_, rfl, rfl⟩, ⟨_, rfl, rfl⟩, ⟨_, rfl, rfl⟩, ⟨_, rfl, rfl⟩, trivial⟩ trivial ⟨⟨_, _, rfl, rfl, rfl⟩, trivial⟩)
                    have n38 : W 18 #[false, true, true, false, false, true, false, false, false, false, false, false, false, false, false, false, false, false, false, false, false] (mkSt [(20, one (Cell.ptr 0 0)), (21, one (cI r65.2.1)), (22, one (cI r65.2.2)), (185, one (cI r65.2.1)), (186, one (cI r65.2.2)), (189, one (cI r65.2.1))] [] [(0, [cI r65.1.Auth, cI r65.1.Start, cI r65.1.End, cI r65.1.Renew])] 1) := by
                      refine hI _ _ _ ?_
                      refine A.take 6 rfl (by kernel_rfl) (by kernel_rfl) (by kernel_rfl) rfl (Ca.move) (fun Q0 k0 => L.move hF rfl rfl rfl (L.nil k0)) ?_
                      exact A.on (hO _ _ _ n102) (Le.mk [(0, 0)] hm rfl ⟨⟨_, rfl, rfl⟩, ⟨_, rfl, rfl⟩, ⟨_, rfl, rfl⟩, ⟨_, rfl, rfl⟩, ⟨_, rfl, rfl⟩, ⟨_, rfl, rfl⟩, trivial⟩ trivial ⟨⟨_, _, rfl, rfl, rfl⟩, trivial⟩)
                    have n6 : W 19 #[false, true, true, false, false, false, false, false, false, false, false, false, false, false, false, false, false, false, false, false, false] (mkSt [(20, one (Cell.ptr 0 0)), (21, one (cI r65.2.1)), (22, one (cI r65.2.2)), (185, one (cI r65.2.1)), (186, one (cI r65.2.2))] [] [(0, [cI r65.1.Auth, cI r65.1.Start, cI r65.1.End, cI r65.1.Renew])] 1) := by
                      refine hI _ _ _ ?_
                      refine A.take 5 rfl (by kernel_rfl) (by kernel_rfl) (by kernel_rfl) rfl (Ca.move) (fun Q0 k0 => L.move hF rfl rfl rfl (L.nil k0)) ?_
                      exact A.on (hO _ _ _ n38) (Le.mk [(0, 0)] hm rfl ⟨⟨_, rfl, rfl⟩, ⟨_, rfl, rfl⟩, ⟨_, rfl, rfl⟩, ⟨_, rfl, rfl⟩, ⟨_, rfl, rfl⟩, ⟨_, rfl, rfl⟩, trivial⟩ trivial ⟨⟨_, _, rfl, rfl, rfl⟩, trivial⟩)
                    have n2 : W 20 #[false, true, false, false, false, false, false, false, false, false, false, false, false, false, false, false, false, false, false, false, false] (mkSt [(20, one (Cell.ptr 0 0)), (21, one (cI r65.2.1)), (22, one (cI r65.2.2)), (185, one (cI r65.2.1))] [] [(0, [cI r65.1.Auth, cI r65.1.Start, cI r65.1.End, cI r65.1.Renew])] 1) := by
                      refine hI _ _ _ ?_
                      refine A.take 2 rfl (by kernel_rfl) (by kernel_rfl) (by kernel_rfl) rfl (Ca.move) (fun Q0 k0 => L.move hF rfl rfl rfl (L.nil k0)) ?_
                      exact A.on (hO _ _ _ n6) (Le.mk [(0, 0)] hm rfl ⟨⟨_, rfl, rfl⟩, ⟨_, rfl, rfl⟩, ⟨_, rfl, rfl⟩, ⟨_, rfl, rfl⟩, ⟨_, rfl, rfl⟩, trivial⟩ trivial ⟨⟨_, _, rfl, rfl, rfl⟩, trivial⟩)
                    have n0 : W 21 #[false, false, false, false, false, false, false, false, false, false, false, false, false, false, false, false, false, false, false, false, false] (mkSt [(20, one (Cell.ptr 0 0)), (21, one (cI r65.2.1)), (22, one (cI r65.2.2))] [] [(0, [cI r65.1.Auth, cI r65.1.Start, cI r65.1.End, cI r65.1.Renew])] 1) := by
                      refine hI _ _ _ ?_
                      refine A.take 1 rfl (by kernel_rfl) (by kernel_rfl) (by kernel_rfl) rfl (Ca.move) (fun Q0 k0 => L.move hF rfl rfl rfl (L.nil k0)) ?_
                      exact A.on (hO _ _ _ n2) (Le.mk [(0, 0)] hm rfl ⟨⟨_, rfl, rfl⟩, ⟨_, rfl, rfl⟩, ⟨_, rfl, rfl⟩, ⟨_, rfl, rfl⟩, trivial⟩ trivial ⟨⟨_, _, rfl, rfl, rfl⟩, trivial⟩)
                    exact hI _ _ _ (A.on (hO _ _ _ n0) (Le.mk [(0, 6)] hm rfl ⟨⟨_, rfl, rfl⟩, ⟨_, rfl, rfl⟩, ⟨_, rfl, rfl⟩, trivial⟩ trivial ⟨⟨_, _, rfl, rfl, rfl⟩, trivial⟩))
                · refine WpC.seq ?_
                  refine WpC.regionL ?_
                  refine L.assign hF rfl rfl rfl ?_
                  refine L.nil ?_
                  refine WpC.block ?_
                  refine WpC.loopL (P := Try.prog) (fun n σ => ∃ v103 : List UInt8, ∃ v104 : Int, ∃ v105 : Int, ∃ v106 : Int, ∃ v107 : Int, ∃ v108 : Int, n ≤ K ∧ Flaws_FnTimes.l5 n v103 v104 v105 v106 v107 v108 = some r ∧ σ = mkSt [(0, one (Cell.sl true (List.map eB v103))), (3, one (Cell.ptr 0 0)), (16, one (cI v104)), (17, one (cI v104))] [] [(0, [cI v105, cI v106, cI v107, cI v108])] 1) kj2 ⟨_, ⟨v18, (0 : Int), v19, v20, v21, v22, by omega, H, rfl⟩, Le.mk [(0, 0)] hm rfl ⟨⟨_, rfl, rfl⟩, ⟨_, rfl, rfl⟩, ⟨_, rfl, rfl⟩, ⟨_, rfl, rfl⟩, trivial⟩ trivial ⟨⟨_, _, rfl, rfl, rfl⟩, trivial⟩⟩ ?_
                  clear H
                  rintro k5 _ ⟨v103, v104, v105, v106, v107, v108, hk5, H, rfl⟩
                  cases k5 with
                  | zero => cases H
                  | succ k5 =>
                    rw [Flaws_FnTimes.l5] at H
                    refine WpC.seq ?_
                    refine WpC.seq ?_
                    refine WpC.regionL ?_
                    refine L.move hF rfl rfl rfl ?_
                    refine L.bin hF rfl rfl rfl rfl rfl rfl ?_
                    refine L.move hF rfl rfl rfl ?_
                    refine L.split (fun hc => ?_) (fun hc => ?_)
                    · replace H := condT hc H
                      refine L.loadPtr shape25 hF rfl rfl rfl rfl rfl rfl ?_
                      obtain ⟨r112, hr112, H⟩ := bindS H
                      refine L.call [false] [] [] 1 hF rfl rfl rfl ent22 rfl rfl rfl rfl rfl (Fspec_TimesOk_gives k5  (⟨v105, v106, v107, v108⟩ : Timpl_Times) r112 hr112) rfl ?_
                      refine L.pick hF rfl rfl rfl rfl ?_
                      refine L.nil ?_
                      refine WpC.cond rfl (fun hc => ?_) (fun hc => ?_)
                      · replace H := condT hc H
                        refine WpC.skip ?_
                        refine WpC.seq ?_
                        refine WpC.block ?_
                        refine WpC.seq ?_
                        obtain ⟨r115, hr115, H⟩ := bindS H
                        obtain ⟨r116, hr116, H⟩ := bindS H
                        refine A.begin mixed rfl rfl ?_
                        intro W hI hO
                        have n32767 : W 0 #[true, true, true, true, true, true, true, true, true, true, true, true, true, true, true] (mkSt [(0, one (Cell.sl true (List.map eB v103))), (3, one (Cell.ptr 0 0)), (16, one (cI v104)), (17, one (cI v104)), (18, one (Cell.ptr 1 0)), (19, one (cL r116.2)), (142, agg [cI v105, cI v106, cI v107, cI v108]), (143, one (cL r112))] [] [(0, [cI v105, cI v106, cI v107, cI v108]), (1, [cI r116.1.Auth, cI r116.1.Start, cI r116.1.End, cI r116.1.Renew])] 2) := by
                          refine hI _ _ _ (A.done (by kernel_rfl) ?_)
                          refine WpC.seq ?_
                          refine WpC.seq ?_
                          refine WpC.regionL ?_
                          refine L.move hF rfl rfl rfl ?_
                          refine L.not hF rfl rfl rfl ?_
                          refine L.move hF rfl rfl rfl ?_
                          refine L.split (fun hc => ?_) (fun hc => ?_)
                          · replace H := condT hc H
                            refine L.off hF rfl rfl ?_
                            refine L.off hF rfl rfl ?_
                            refine L.off hF rfl rfl ?_
                            refine L.off hF rfl rfl ?_
                            refine L.off hF rfl rfl ?_
                            refine L.pick hF rfl rfl rfl rfl ?_
                            refine L.move hF rfl rfl rfl ?_
                            refine L.off hF rfl rfl ?_
                            refine L.off hF rfl rfl ?_
                            refine L.off hF rfl rfl ?_
                            refine L.off hF rfl rfl ?_
                            refine L.off hF rfl rfl ?_
                            refine L.pick hF rfl rfl rfl rfl ?_
                            refine L.nil ?_
                            refine WpC.cond rfl (fun _ => ?_) (fun hc => by cases hc)
                            refine WpC.seq ?_
                            refine WpC.regionL ?_
                            refine L.assign hF rfl rfl rfl ?_
                            refine L.nil ?_
                            refine WpC.ret ?_
                            cases H
                            exact Leaves.ret rfl rfl rfl ⟨rfl, rfl⟩
                          · replace H := condF hc H
                            refine L.fieldAddr Try.underlying25 rfl info3 rfl hF rfl rfl rfl rfl rfl ?_
                            refine L.loadPtr shape3 hF rfl rfl rfl rfl rfl rfl ?_
                            refine L.fieldAddr Try.underlying25 rfl info3 rfl hF rfl rfl rfl rfl rfl ?_
                            refine L.loadPtr shape3 hF rfl rfl rfl rfl rfl rfl ?_
                            refine L.bin hF rfl rfl rfl rfl rfl rfl ?_
                            refine L.pick hF rfl rfl rfl rfl ?_
                            refine L.move hF rfl rfl rfl ?_
                            refine L.split (fun hc => ?_) (fun hc => ?_)
                            · replace H := condT hc H
                              refine L.off hF rfl rfl ?_
                              refine L.off hF rfl rfl ?_
                              refine L.off hF rfl rfl ?_
                              refine L.off hF rfl rfl ?_
                              refine L.off hF rfl rfl ?_
                              refine L.pick hF rfl rfl rfl rfl ?_
                              refine L.nil ?_
                              refine WpC.cond rfl (fun _ => ?_) (fun hc => by cases hc)
                              refine WpC.seq ?_
                              refine WpC.regionL ?_
                              refine L.assign hF rfl rfl rfl ?_
                              refine L.nil ?_
                              refine WpC.ret ?_
                              cases H
                              exact Leaves.ret rfl rfl rfl ⟨rfl, rfl⟩
                            · replace H := condF hc H
                              refine L.fieldAddr Try.underlying25 rfl info3 rfl hF rfl rfl rfl rfl rfl ?_
                              refine L.loadPtr shape3 hF rfl rfl rfl rfl rfl rfl ?_
                              refine L.fieldAddr Try.underlying25 rfl info3 rfl hF rfl rfl rfl rfl rfl ?_
                              refine L.loadPtr shape3 hF rfl rfl rfl rfl rfl rfl ?_
                              refine L.bin hF rfl rfl rfl rfl rfl rfl ?_
                              refine L.pick hF rfl rfl rfl rfl ?_
                              refine L.nil ?_
                              refine WpC.cond rfl (fun hc => ?_) (fun hc => ?_)
                              · replace H := condT hc H
                                refine WpC.seq ?_
                                refine WpC.regionL ?_
                                refine L.assign hF rfl rfl rfl ?_
                                refine L.nil ?_
                                refine WpC.ret ?_
                                cases H
                                exact Leaves.ret rfl rfl rfl ⟨rfl, rfl⟩
                              · replace H := condF hc H
                                refine WpC.skip ?_
                                refine WpC.seq ?_
                                refine WpC.regionL ?_
                                refine L.loadPtr shape25 hF rfl rfl rfl rfl rfl rfl ?_
                                refine L.storePtr shape25 hF rfl rfl rfl rfl rfl rfl rfl ?_
                                refine L.nil ?_
                                refine WpC.regionL ?_
                                refine L.move hF rfl rfl rfl ?_
                                refine L.bin hF rfl rfl rfl rfl rfl rfl ?_
                                refine L.assign hF rfl rfl rfl ?_
                                refine L.nil ?_
                                refine WpC.regionL ?_
                                refine L.move hF rfl rfl rfl ?_
                                refine L.bin hF rfl rfl rfl rfl rfl rfl ?_
                                refine L.assign hF rfl rfl rfl ?_
                                refine L.nil ?_
                                exact ⟨k5, _, by omega, ⟨v103, (IntKind.i64.wrap (v104 + (1 : Int))), r116.1.Auth, r116.1.Start, r116.1.End, r116.1.Renew, by omega, H, rfl⟩, Le.mk [(0, 0)] hm rfl ⟨⟨_, rfl, rfl⟩, ⟨_, rfl, rfl⟩, ⟨_, rfl, rfl⟩, ⟨_, rfl, rfl⟩, trivial⟩ trivial ⟨⟨_, _, rfl, rfl, rfl⟩, trivial⟩⟩
                        have n16383 : W 1 #[true, true, true, true, true, true, true, true, true, true, true, true, true, true, false] (mkSt [(0, one (Cell.sl true (List.map eB v103))), (3, one (Cell.ptr 0 0)), (16, one (cI v104)), (17, one (cI v104)), (18, one (Cell.ptr 1 0)), (142, agg [cI v105, cI v106, cI v107, cI v108]), (143, one (cL r112)), (158, one (cL r116.2))] [] [(0, [cI v105, cI v106, cI v107, cI v108]), (1, [cI r116.1.Auth, cI r116.1.Start, cI r116.1.End, cI r116.1.Renew])] 2) := by
                          refine hI _ _ _ ?_
                          refine A.take 14 rfl (by kernel_rfl) (by kernel_rfl) (by kernel_rfl) rfl (Ca.assign) (fun Q0 k0 => L.assign hF rfl rfl rfl (L.nil k0)) ?_
                          exact A.on (hO _ _ _ n32767) (Le.mk [(0, 0), (1, 1)] hm rfl ⟨⟨_, rfl, rfl⟩, ⟨_, rfl, rfl⟩, ⟨_, rfl, rfl⟩, ⟨_, rfl, rfl⟩, ⟨_, rfl, rfl⟩, ⟨_, rfl, rfl⟩, ⟨_, rfl, rfl⟩, ⟨_, rfl, rfl⟩, trivial⟩ trivial ⟨⟨_, _, rfl, rfl, rfl⟩, ⟨_, _, rfl, rfl, rfl⟩, trivial⟩)
                        have n8191 : W 2 #[true, true, true, true, true, true, true, true, true, true, true, true, true, false, false] (mkSt [(0, one (Cell.sl true (List.map eB v103))), (3, one (Cell.ptr 0 0)), (16, one (cI v104)), (17, one (cI v104)), (18, one (Cell.ptr 1 0)), (142, agg [cI v105, cI v106, cI v107, cI v108]), (143, one (cL r112)), (157, agg [cI r116.1.Auth, cI r116.1.Start, cI r116.1.End, cI r116.1.Renew]), (158, one (cL r116.2))] [] [(0, [cI v105, cI v106, cI v107, cI v108]), (1, [cI (0 : Int), cI (0 : Int), cI (0 : Int), cI (0 : Int)])] 2) := by
                          refine hI _ _ _ ?_
                          refine A.all [13] (by kernel_rfl) rfl ⟨⟨_, rfl, ?_⟩, trivial⟩
                          · refine L.storePtr shape25 hF rfl rfl rfl rfl rfl rfl rfl ?_
                            refine L.nil ?_
                            exact A.on (hO _ _ _ n16383) (Le.mk [(0, 0), (1, 1)] hm rfl ⟨⟨_, rfl, rfl⟩, ⟨_, rfl, rfl⟩, ⟨_, rfl, rfl⟩, ⟨_, rfl, rfl⟩, ⟨_, rfl, rfl⟩, ⟨_, rfl, rfl⟩, ⟨_, rfl, rfl⟩, ⟨_, rfl, rfl⟩, trivial⟩ trivial ⟨⟨_, _, rfl, rfl, rfl⟩, ⟨_, _, rfl, rfl, rfl⟩, trivial⟩)
                        have n6143 : W 3 #[true, true, true, true, true, true, true, true, true, true, true, false, true, false, false] (mkSt [(0, one (Cell.sl true (List.map eB v103))), (3, one (Cell.ptr 0 0)), (16, one (cI v104)), (17, one (cI v104)), (18, one (Cell.ptr 1 0)), (142, agg [cI v105, cI v106, cI v107, cI v108]), (143, one (cL r112)), (147, Slot.tup [V.agg [cI r116.1.Auth, cI r116.1.Start, cI r116.1.End, cI r116.1.Renew], V.one (cL r116.2)]), (157, agg [cI r116.1.Auth, cI r116.1.Start, cI r116.1.End, cI r116.1.Renew])] [] [(0, [cI v105, cI v106, cI v107, cI v108]), (1, [cI (0 : Int), cI (0 : Int), cI (0 : Int), cI (0 : Int)])] 2) := by
                          refine hI _ _ _ ?_
                          refine A.take 11 rfl (by kernel_rfl) (by kernel_rfl) (by kernel_rfl) rfl (Ca.extract) (fun Q0 k0 => L.extract hF rfl rfl rfl rfl (L.nil k0)) ?_
                          exact A.on (hO _ _ _ n8191) (Le.mk [(0, 0), (1, 1)] hm rfl ⟨⟨_, rfl, rfl⟩, ⟨_, rfl, rfl⟩, ⟨_, rfl, rfl⟩, ⟨_, rfl, rfl⟩, ⟨_, rfl, rfl⟩, ⟨_, rfl, rfl⟩, ⟨_, rfl, rfl⟩, ⟨_, rfl, rfl⟩, ⟨_, rfl, rfl⟩, trivial⟩ trivial ⟨⟨_, _, rfl, rfl, rfl⟩, ⟨_, _, rfl, rfl, rfl⟩, trivial⟩)
                        have n4095 : W 3 #[true, true, true, true, true, true, true, true, true, true, true, true, false, false, false] (mkSt [(0, one (Cell.sl true (List.map eB v103))), (3, one (Cell.ptr 0 0)), (16, one (cI v104)), (17, one (cI v104)), (142, agg [cI v105, cI v106, cI v107, cI v108]), (143, one (cL r112)), (157, agg [cI r116.1.Auth, cI r116.1.Start, cI r116.1.End, cI r116.1.Renew]), (158, one (cL r116.2))] [] [(0, [cI v105, cI v106, cI v107, cI v108])] 1) := by
                          refine hI _ _ _ ?_
                          refine A.all [12] (by kernel_rfl) rfl ⟨⟨_, rfl, ?_⟩, trivial⟩
                          · refine L.alloc 1 info25 rfl hF rfl rfl rfl rfl ?_
                            refine L.nil ?_
                            exact A.on (hO _ _ _ n8191) (Le.mk [(0, 0), (1, 1)] hm rfl ⟨⟨_, rfl, rfl⟩, ⟨_, rfl, rfl⟩, ⟨_, rfl, rfl⟩, ⟨_, rfl, rfl⟩, ⟨_, rfl, rfl⟩, ⟨_, rfl, rfl⟩, ⟨_, rfl, rfl⟩, ⟨_, rfl, rfl⟩, ⟨_, rfl, rfl⟩, trivial⟩ trivial ⟨⟨_, _, rfl, rfl, rfl⟩, ⟨_, _, rfl, rfl, rfl⟩, trivial⟩)
                        have n5119 : W 4 #[true, true, true, true, true, true, true, true, true, true, false, false, true, false, false] (mkSt [(0, one (Cell.sl true (List.map eB v103))), (3, one (Cell.ptr 0 0)), (16, one (cI v104)), (17, one (cI v104)), (18, one (Cell.ptr 1 0)), (142, agg [cI v105, cI v106, cI v107, cI v108]), (143, one (cL r112)), (147, Slot.tup [V.agg [cI r116.1.Auth, cI r116.1.Start, cI r116.1.End, cI r116.1.Renew], V.one (cL r116.2)])] [] [(0, [cI v105, cI v106, cI v107, cI v108]), (1, [cI (0 : Int), cI (0 : Int), cI (0 : Int), cI (0 : Int)])] 2) := by
                          refine hI _ _ _ ?_
                          refine A.take 10 rfl (by kernel_rfl) (by kernel_rfl) (by kernel_rfl) rfl (Ca.extract) (fun Q0 k0 => L.extract hF rfl rfl rfl rfl (L.nil k0)) ?_
                          exact A.on (hO _ _ _ n6143) (Le.mk [(0, 0), (1, 1)] hm rfl ⟨⟨_, rfl, rfl⟩, ⟨_, rfl, rfl⟩, ⟨_, rfl, rfl⟩, ⟨_, rfl, rfl⟩, ⟨_, rfl, rfl⟩, ⟨_, rfl, rfl⟩, ⟨_, rfl, rfl⟩, ⟨_, rfl, rfl⟩, ⟨_, rfl, rfl⟩, trivial⟩ trivial ⟨⟨_, _, rfl, rfl, rfl⟩, ⟨_, _, rfl, rfl, rfl⟩, trivial⟩)
                        have n2047 : W 4 #[true, true, true, true, true, true, true, true, true, true, true, false, false, false, false] (mkSt [(0, one (Cell.sl true (List.map eB v103))), (3, one (Cell.ptr 0 0)), (16, one (cI v104)), (17, one (cI v104)), (142, agg [cI v105, cI v106, cI v107, cI v108]), (143, one (cL r112)), (147, Slot.tup [V.agg [cI r116.1.Auth, cI r116.1.Start, cI r116.1.End, cI r116.1.Renew], V.one (cL r116.2)]), (157, agg [cI r116.1.Auth, cI r116.1.Start, cI r116.1.End, cI r116.1.Renew])] [] [(0, [cI v105, cI v106, cI v107, cI v108])] 1) := by
                          refine hI _ _ _ ?_
                          refine A.take 11 rfl (by kernel_rfl) (by kernel_rfl) (by kernel_rfl) rfl (Ca.extract) (fun Q0 k0 => L.extract hF rfl rfl rfl rfl (L.nil k0)) ?_
                          exact A.on (hO _ _ _ n4095) (Le.mk [(0, 0)] hm rfl ⟨⟨_, rfl, rfl⟩, ⟨_, rfl, rfl⟩, ⟨_, rfl, rfl⟩, ⟨_, rfl, rfl⟩, ⟨_, rfl, rfl⟩, ⟨_, rfl, rfl⟩, ⟨_, rfl, rfl⟩, ⟨_, rfl, rfl⟩, trivial⟩ trivial ⟨⟨_, _, rfl, rfl, rfl⟩, trivial⟩)
                        have n1023 : W 5 #[true, true, true, true, true, true, true, true, true, true, false, false, false, false, false] (mkSt [(0, one (Cell.sl true (List.map eB v103))), (3, one (Cell.ptr 0 0)), (16, one (cI v104)), (17, one (cI v104)), (142, agg [cI v105, cI v106, cI v107, cI v108]), (143, one (cL r112)), (147, Slot.tup [V.agg [cI r116.1.Auth, cI r116.1.Start, cI r116.1.End, cI r116.1.Renew], V.one (cL r116.2)])] [] [(0, [cI v105, cI v106, cI v107, cI v108])] 1) := by
                          refine hI _ _ _ ?_
                          refine A.take 10 rfl (by kernel_rfl) (by kernel_rfl) (by kernel_rfl) rfl (Ca.extract) (fun Q0 k0 => L.extract hF rfl rfl rfl rfl (L.nil k0)) ?_
                          exact A.on (hO _ _ _ n2047) (Le.mk [(0, 0)] hm rfl ⟨⟨_, rfl, rfl⟩, ⟨_, rfl, rfl⟩, ⟨_, rfl, rfl⟩, ⟨_, rfl, rfl⟩, ⟨_, rfl, rfl⟩, ⟨_, rfl, rfl⟩, ⟨_, rfl, rfl⟩, ⟨_, rfl, rfl⟩, trivial⟩ trivial ⟨⟨_, _, rfl, rfl, rfl⟩, trivial⟩)
                        have n4607 : W 5 #[true, true, true, true, true, true, true, true, true, false, false, false, true, false, false] (mkSt [(0, one (Cell.sl true (List.map eB v103))), (3, one (Cell.ptr 0 0)), (16, one (cI v104)), (17, one (cI v104)), (18, one (Cell.ptr 1 0)), (142, agg [cI v105, cI v106, cI v107, cI v108]), (143, one (cL r112)), (156, Slot.tup [V.agg [cI r116.1.Auth, cI r116.1.Start, cI r116.1.End, cI r116.1.Renew], V.one (cL r116.2)])] [] [(0, [cI v105, cI v106, cI v107, cI v108]), (1, [cI (0 : Int), cI (0 : Int), cI (0 : Int), cI (0 : Int)])] 2) := by
                          refine hI _ _ _ ?_
                          refine A.take 9 rfl (by kernel_rfl) (by kernel_rfl) (by kernel_rfl) rfl (Ca.move) (fun Q0 k0 => L.move hF rfl rfl rfl (L.nil k0)) ?_
                          exact A.on (hO _ _ _ n5119) (Le.mk [(0, 0), (1, 1)] hm rfl ⟨⟨_, rfl, rfl⟩, ⟨_, rfl, rfl⟩, ⟨_, rfl, rfl⟩, ⟨_, rfl, rfl⟩, ⟨_, rfl, rfl⟩, ⟨_, rfl, rfl⟩, ⟨_, rfl, rfl⟩, ⟨_, rfl, rfl⟩, trivial⟩ trivial ⟨⟨_, _, rfl, rfl, rfl⟩, ⟨_, _, rfl, rfl, rfl⟩, trivial⟩)
                        have n4351 : W 6 #[true, true, true, true, true, true, true, true, false, false, false, false, true, false, false] (mkSt [(0, one (Cell.sl true (List.map eB v103))), (3, one (Cell.ptr 0 0)), (16, one (cI v104)), (17, one (cI v104)), (18, one (Cell.ptr 1 0)), (142, agg [cI v105, cI v106, cI v107, cI v108]), (143, one (cL r112)), (148, agg [cI v105, cI v106, cI v107, cI v108]), (150, one (cI v107)), (155, one (cI (IntKind.i64.wrap ((1 : Int) + (Int.tmod r115 (9 : Int))))))] [] [(0, [cI v105, cI v106, cI v107, cI v108]), (1, [cI (0 : Int), cI (0 : Int), cI (0 : Int), cI (0 : Int)])] 2) := by
                          refine hI _ _ _ ?_
                          refine A.all [8] (by kernel_rfl) rfl ⟨⟨_, rfl, ?_⟩, trivial⟩
                          · refine L.call [false, false, false] [] [] 2 hF rfl rfl rfl ent28 rfl rfl rfl rfl rfl (Fimpl_Renewed_gives k5  (⟨v105, v106, v107, v108⟩ : Timpl_Times) v107 (IntKind.i64.wrap ((1 : Int) + (Int.tmod r115 (9 : Int)))) r116 hr116) rfl ?_
                            refine L.nil ?_
                            exact A.on (hO _ _ _ n4607) (Le.mk [(0, 0), (1, 1)] hm rfl ⟨⟨_, rfl, rfl⟩, ⟨_, rfl, rfl⟩, ⟨_, rfl, rfl⟩, ⟨_, rfl, rfl⟩, ⟨_, rfl, rfl⟩, ⟨_, rfl, rfl⟩, ⟨_, rfl, rfl⟩, ⟨_, rfl, rfl⟩, trivial⟩ trivial ⟨⟨_, _, rfl, rfl, rfl⟩, ⟨_, _, rfl, rfl, rfl⟩, trivial⟩)
                        have n511 : W 6 #[true, true, true, true, true, true, true, true, true, false, false, false, false, false, false] (mkSt [(0, one (Cell.sl true (List.map eB v103))), (3, one (Cell.ptr 0 0)), (16, one (cI v104)), (17, one (cI v104)), (142, agg [cI v105, cI v106, cI v107, cI v108]), (143, one (cL r112)), (156, Slot.tup [V.agg [cI r116.1.Auth, cI r116.1.Start, cI r116.1.End, cI r116.1.Renew], V.one (cL r116.2)])] [] [(0, [cI v105, cI v106, cI v107, cI v108])] 1) := by
                          refine hI _ _ _ ?_
                          refine A.take 9 rfl (by kernel_rfl) (by kernel_rfl) (by kernel_rfl) rfl (Ca.move) (fun Q0 k0 => L.move hF rfl rfl rfl (L.nil k0)) ?_
                          exact A.on (hO _ _ _ n1023) (Le.mk [(0, 0)] hm rfl ⟨⟨_, rfl, rfl⟩, ⟨_, rfl, rfl⟩, ⟨_, rfl, rfl⟩, ⟨_, rfl, rfl⟩, ⟨_, rfl, rfl⟩, ⟨_, rfl, rfl⟩, ⟨_, rfl, rfl⟩, trivial⟩ trivial ⟨⟨_, _, rfl, rfl, rfl⟩, trivial⟩)
                        have n4223 : W 7 #[true, true, true, true, true, true, true, false, false, false, false, false, true, false, false] (mkSt [(0, one (Cell.sl true (List.map eB v103))), (3, one (Cell.ptr 0 0)), (16, one (cI v104)), (17, one (cI v104)), (18, one (Cell.ptr 1 0)), (142, agg [cI v105, cI v106, cI v107, cI v108]), (143, one (cL r112)), (148, agg [cI v105, cI v106, cI v107, cI v108]), (150, one (cI v107)), (154, one (cI (Int.tmod r115 (9 : Int))))] [] [(0, [cI v105, cI v106, cI v107, cI v108]), (1, [cI (0 : Int), cI (0 : Int), cI (0 : Int), cI (0 : Int)])] 2) := by
                          refine hI _ _ _ ?_
                          refine A.take 7 rfl (by kernel_rfl) (by kernel_rfl) (by kernel_rfl) rfl (Ca.bin rfl rfl (calm_int _ _ _ _ _ _ _ _)) (fun Q0 k0 => L.bin hF rfl rfl rfl rfl rfl rfl (L.nil k0)) ?_
                          exact A.on (hO _ _ _ n4351) (Le.mk [(0, 0), (1, 1)] hm rfl ⟨⟨_, rfl, rfl⟩, ⟨_, rfl, rfl⟩, ⟨_, rfl, rfl⟩, ⟨_, rfl, rfl⟩, ⟨_, rfl, rfl⟩, ⟨_, rfl, rfl⟩, ⟨_, rfl, rfl⟩, ⟨_, rfl, rfl⟩, ⟨_, rfl, rfl⟩, ⟨_, rfl, rfl⟩, trivial⟩ trivial ⟨⟨_, _, rfl, rfl, rfl⟩, ⟨_, _, rfl, rfl, rfl⟩, trivial⟩)
                        have n255 : W 7 #[true, true, true, true, true, true, true, true, false, false, false, false, false, false, false] (mkSt [(0, one (Cell.sl true (List.map eB v103))), (3, one (Cell.ptr 0 0)), (16, one (cI v104)), (17, one (cI v104)), (142, agg [cI v105, cI v106, cI v107, cI v108]), (143, one (cL r112)), (148, agg [cI v105, cI v106, cI v107, cI v108]), (150, one (cI v107)), (155, one (cI (IntKind.i64.wrap ((1 : Int) + (Int.tmod r115 (9 : Int))))))] [] [(0, [cI v105, cI v106, cI v107, cI v108])] 1) := by
                          refine hI _ _ _ ?_
                          refine A.all [8, 12] (by kernel_rfl) rfl ⟨⟨_, rfl, ?_⟩, ⟨_, rfl, ?_⟩, trivial⟩
                          · refine L.call [false, false, false] [] [] 1 hF rfl rfl rfl ent28 rfl rfl rfl rfl rfl (Fimpl_Renewed_gives k5  (⟨v105, v106, v107, v108⟩ : Timpl_Times) v107 (IntKind.i64.wrap ((1 : Int) + (Int.tmod r115 (9 : Int)))) r116 hr116) rfl ?_
                            refine L.nil ?_
                            exact A.on (hO _ _ _ n511) (Le.mk [(0, 0)] hm rfl ⟨⟨_, rfl, rfl⟩, ⟨_, rfl, rfl⟩, ⟨_, rfl, rfl⟩, ⟨_, rfl, rfl⟩, ⟨_, rfl, rfl⟩, ⟨_, rfl, rfl⟩, ⟨_, rfl, rfl⟩, trivial⟩ trivial ⟨⟨_, _, rfl, rfl, rfl⟩, trivial⟩)
                          · refine L.alloc 1 info25 rfl hF rfl rfl rfl rfl ?_
                            refine L.nil ?_
                            exact A.on (hO _ _ _ n4351) (Le.mk [(0, 0), (1, 1)] hm rfl ⟨⟨_, rfl, rfl⟩, ⟨_, rfl, rfl⟩, ⟨_, rfl, rfl⟩, ⟨_, rfl, rfl⟩, ⟨_, rfl, rfl⟩, ⟨_, rfl, rfl⟩, ⟨_, rfl, rfl⟩, ⟨_, rfl, rfl⟩, ⟨_, rfl, rfl⟩, ⟨_, rfl, rfl⟩, trivial⟩ trivial ⟨⟨_, _, rfl, rfl, rfl⟩, ⟨_, _, rfl, rfl, rfl⟩, trivial⟩)
                        have n4347 : W 7 #[true, true, false, true, true, true, true, true, false, false, false, false, true, false, false] (mkSt [(0, one (Cell.sl true (List.map eB v103))), (3, one (Cell.ptr 0 0)), (16, one (cI v104)), (17, one (cI v104)), (18, one (Cell.ptr 1 0)), (142, agg [cI v105, cI v106, cI v107, cI v108]), (143, one (cL r112)), (148, agg [cI v105, cI v106, cI v107, cI v108]), (149, one (Cell.ptr 0 2)), (155, one (cI (IntKind.i64.wrap ((1 : Int) + (Int.tmod r115 (9 : Int))))))] [] [(0, [cI v105, cI v106, cI v107, cI v108]), (1, [cI (0 : Int), cI (0 : Int), cI (0 : Int), cI (0 : Int)])] 2) := by
                          refine hI _ _ _ ?_
                          refine A.all [2] (by kernel_rfl) rfl ⟨⟨_, rfl, ?_⟩, trivial⟩
                          · refine L.loadPtr shape3 hF rfl rfl rfl rfl rfl rfl ?_
                            refine L.nil ?_
                            exact A.on (hO _ _ _ n4351) (Le.mk [(0, 0), (1, 1)] hm rfl ⟨⟨_, rfl, rfl⟩, ⟨_, rfl, rfl⟩, ⟨_, rfl, rfl⟩, ⟨_, rfl, rfl⟩, ⟨_, rfl, rfl⟩, ⟨_, rfl, rfl⟩, ⟨_, rfl, rfl⟩, ⟨_, rfl, rfl⟩, ⟨_, rfl, rfl⟩, ⟨_, rfl, rfl⟩, trivial⟩ trivial ⟨⟨_, _, rfl, rfl, rfl⟩, ⟨_, _, rfl, rfl, rfl⟩, trivial⟩)
                        have n4350 : W 7 #[false, true, true, true, true, true, true, true, false, false, false, false, true, false, false] (mkSt [(0, one (Cell.sl true (List.map eB v103))), (3, one (Cell.ptr 0 0)), (16, one (cI v104)), (17, one (cI v104)), (18, one (Cell.ptr 1 0)), (142, agg [cI v105, cI v106, cI v107, cI v108]), (143, one (cL r112)), (150, one (cI v107)), (155, one (cI (IntKind.i64.wrap ((1 : Int) + (Int.tmod r115 (9 : Int))))))] [] [(0, [cI v105, cI v106, cI v107, cI v108]), (1, [cI (0 : Int), cI (0 : Int), cI (0 : Int), cI (0 : Int)])] 2) := by
                          refine hI _ _ _ ?_
                          refine A.all [0] (by kernel_rfl) rfl ⟨⟨_, rfl, ?_⟩, trivial⟩
                          · refine L.loadPtr shape25 hF rfl rfl rfl rfl rfl rfl ?_
                            refine L.nil ?_
                            exact A.on (hO _ _ _ n4351) (Le.mk [(0, 0), (1, 1)] hm rfl ⟨⟨_, rfl, rfl⟩, ⟨_, rfl, rfl⟩, ⟨_, rfl, rfl⟩, ⟨_, rfl, rfl⟩, ⟨_, rfl, rfl⟩, ⟨_, rfl, rfl⟩, ⟨_, rfl, rfl⟩, ⟨_, rfl, rfl⟩, ⟨_, rfl, rfl⟩, ⟨_, rfl, rfl⟩, trivial⟩ trivial ⟨⟨_, _, rfl, rfl, rfl⟩, ⟨_, _, rfl, rfl, rfl⟩, trivial⟩)
                        have n4159 : W 8 #[true, true, true, true, true, true, false, false, false, false, false, false, true, false, false] (mkSt [(0, one (Cell.sl true (List.map eB v103))), (3, one (Cell.ptr 0 0)), (16, one (cI v104)), (17, one (cI v104)), (18, one (Cell.ptr 1 0)), (142, agg [cI v105, cI v106, cI v107, cI v108]), (143, one (cL r112)), (148, agg [cI v105, cI v106, cI v107, cI v108]), (150, one (cI v107)), (153, one (cI r115))] [] [(0, [cI v105, cI v106, cI v107, cI v108]), (1, [cI (0 : Int), cI (0 : Int), cI (0 : Int), cI (0 : Int)])] 2) := by
                          refine hI _ _ _ ?_
                          refine A.take 6 rfl (by kernel_rfl) (by kernel_rfl) (by kernel_rfl) rfl (Ca.bin rfl rfl (calm_int _ _ _ _ _ _ _ _)) (fun Q0 k0 => L.rem hF rfl rfl rfl rfl (by decide) (L.nil k0)) ?_
                          exact A.on (hO _ _ _ n4223) (Le.mk [(0, 0), (1, 1)] hm rfl ⟨⟨_, rfl, rfl⟩, ⟨_, rfl, rfl⟩, ⟨_, rfl, rfl⟩, ⟨_, rfl, rfl⟩, ⟨_, rfl, rfl⟩, ⟨_, rfl, rfl⟩, ⟨_, rfl, rfl⟩, ⟨_, rfl, rfl⟩, ⟨_, rfl, rfl⟩, ⟨_, rfl, rfl⟩, trivial⟩ trivial ⟨⟨_, _, rfl, rfl, rfl⟩, ⟨_, _, rfl, rfl, rfl⟩, trivial⟩)
                        have n254 : W 8 #[false, true, true, true, true, true, true, true, false, false, false, false, false, false, false] (mkSt [(0, one (Cell.sl true (List.map eB v103))), (3, one (Cell.ptr 0 0)), (16, one (cI v104)), (17, one (cI v104)), (142, agg [cI v105, cI v106, cI v107, cI v108]), (143, one (cL r112)), (150, one (cI v107)), (155, one (cI (IntKind.i64.wrap ((1 : Int) + (Int.tmod r115 (9 : Int))))))] [] [(0, [cI v105, cI v106, cI v107, cI v108])] 1) := by
                          refine hI _ _ _ ?_
                          refine A.all [0, 12] (by kernel_rfl) rfl ⟨⟨_, rfl, ?_⟩, ⟨_, rfl, ?_⟩, trivial⟩
                          · refine L.loadPtr shape25 hF rfl rfl rfl rfl rfl rfl ?_
                            refine L.nil ?_
                            exact A.on (hO _ _ _ n255) (Le.mk [(0, 0)] hm rfl ⟨⟨_, rfl, rfl⟩, ⟨_, rfl, rfl⟩, ⟨_, rfl, rfl⟩, ⟨_, rfl, rfl⟩, ⟨_, rfl, rfl⟩, ⟨_, rfl, rfl⟩, ⟨_, rfl, rfl⟩, ⟨_, rfl, rfl⟩, ⟨_, rfl, rfl⟩, trivial⟩ trivial ⟨⟨_, _, rfl, rfl, rfl⟩, trivial⟩)
                          · refine L.alloc 1 info25 rfl hF rfl rfl rfl rfl ?_
                            refine L.nil ?_
                            exact A.on (hO _ _ _ n4350) (Le.mk [(0, 0), (1, 1)] hm rfl ⟨⟨_, rfl, rfl⟩, ⟨_, rfl, rfl⟩, ⟨_, rfl, rfl⟩, ⟨_, rfl, rfl⟩, ⟨_, rfl, rfl⟩, ⟨_, rfl, rfl⟩, ⟨_, rfl, rfl⟩, ⟨_, rfl, rfl⟩, ⟨_, rfl, rfl⟩, trivial⟩ trivial ⟨⟨_, _, rfl, rfl, rfl⟩, ⟨_, _, rfl, rfl, rfl⟩, trivial⟩)
                        have n4222 : W 8 #[false, true, true, true, true, true, true, false, false, false, false, false, true, false, false] (mkSt [(0, one (Cell.sl true (List.map eB v103))), (3, one (Cell.ptr 0 0)), (16, one (cI v104)), (17, one (cI v104)), (18, one (Cell.ptr 1 0)), (142, agg [cI v105, cI v106, cI v107, cI v108]), (143, one (cL r112)), (150, one (cI v107)), (154, one (cI (Int.tmod r115 (9 : Int))))] [] [(0, [cI v105, cI v106, cI v107, cI v108]), (1, [cI (0 : Int), cI (0 : Int), cI (0 : Int), cI (0 : Int)])] 2) := by
                          refine hI _ _ _ ?_
                          refine A.take 7 rfl (by kernel_rfl) (by kernel_rfl) (by kernel_rfl) rfl (Ca.bin rfl rfl (calm_int _ _ _ _ _ _ _ _)) (fun Q0 k0 => L.bin hF rfl rfl rfl rfl rfl rfl (L.nil k0)) ?_
                          exact A.on (hO _ _ _ n4350) (Le.mk [(0, 0), (1, 1)] hm rfl ⟨⟨_, rfl, rfl⟩, ⟨_, rfl, rfl⟩, ⟨_, rfl, rfl⟩, ⟨_, rfl, rfl⟩, ⟨_, rfl, rfl⟩, ⟨_, rfl, rfl⟩, ⟨_, rfl, rfl⟩, ⟨_, rfl, rfl⟩, ⟨_, rfl, rfl⟩, trivial⟩ trivial ⟨⟨_, _, rfl, rfl, rfl⟩, ⟨_, _, rfl, rfl, rfl⟩, trivial⟩)
                        have n4346 : W 8 #[false, true, false, true, true, true, true, true, false, false, false, false, true, false, false] (mkSt [(0, one (Cell.sl true (List.map eB v103))), (3, one (Cell.ptr 0 0)), (16, one (cI v104)), (17, one (cI v104)), (18, one (Cell.ptr 1 0)), (142, agg [cI v105, cI v106, cI v107, cI v108]), (143, one (cL r112)), (149, one (Cell.ptr 0 2)), (155, one (cI (IntKind.i64.wrap ((1 : Int) + (Int.tmod r115 (9 : Int))))))] [] [(0, [cI v105, cI v106, cI v107, cI v108]), (1, [cI (0 : Int), cI (0 : Int), cI (0 : Int), cI (0 : Int)])] 2) := by
                          refine hI _ _ _ ?_
                          refine A.all [0, 2] (by kernel_rfl) rfl ⟨⟨_, rfl, ?_⟩, ⟨_, rfl, ?_⟩, trivial⟩
                          · refine L.loadPtr shape25 hF rfl rfl rfl rfl rfl rfl ?_
                            refine L.nil ?_
                            exact A.on (hO _ _ _ n4347) (Le.mk [(0, 0), (1, 1)] hm rfl ⟨⟨_, rfl, rfl⟩, ⟨_, rfl, rfl⟩, ⟨_, rfl, rfl⟩, ⟨_, rfl, rfl⟩, ⟨_, rfl, rfl⟩, ⟨_, rfl, rfl⟩, ⟨_, rfl, rfl⟩, ⟨_, rfl, rfl⟩, ⟨_, rfl, rfl⟩, ⟨_, rfl, rfl⟩, trivial⟩ trivial ⟨⟨_, _, rfl, rfl, rfl⟩, ⟨_, _, rfl, rfl, rfl⟩, trivial⟩)
                          · refine L.loadPtr shape3 hF rfl rfl rfl rfl rfl rfl ?_
                            refine L.nil ?_
                            exact A.on (hO _ _ _ n4350) (Le.mk [(0, 0), (1, 1)] hm rfl ⟨⟨_, rfl, rfl⟩, ⟨_, rfl, rfl⟩, ⟨_, rfl, rfl⟩, ⟨_, rfl, rfl⟩, ⟨_, rfl, rfl⟩, ⟨_, rfl, rfl⟩, ⟨_, rfl, rfl⟩, ⟨_, rfl, rfl⟩, ⟨_, rfl, rfl⟩, trivial⟩ trivial ⟨⟨_, _, rfl, rfl, rfl⟩, ⟨_, _, rfl, rfl, rfl⟩, trivial⟩)
                        have n4219 : W 8 #[true, true, false, true, true, true, true, false, false, false, false, false, true, false, false] (mkSt [(0, one (Cell.sl true (List.map eB v103))), (3, one (Cell.ptr 0 0)), (16, one (cI v104)), (17, one (cI v104)), (18, one (Cell.ptr 1 0)), (142, agg [cI v105, cI v106, cI v107, cI v108]), (143, one (cL r112)), (148, agg [cI v105, cI v106, cI v107, cI v108]), (149, one (Cell.ptr 0 2)), (154, one (cI (Int.tmod r115 (9 : Int))))] [] [(0, [cI v105, cI v106, cI v107, cI v108]), (1, [cI (0 : Int), cI (0 : Int), cI (0 : Int), cI (0 : Int)])] 2) := by
                          refine hI _ _ _ ?_
                          refine A.take 7 rfl (by kernel_rfl) (by kernel_rfl) (by kernel_rfl) rfl (Ca.bin rfl rfl (calm_int _ _ _ _ _ _ _ _)) (fun Q0 k0 => L.bin hF rfl rfl rfl rfl rfl rfl (L.nil k0)) ?_
                          exact A.on (hO _ _ _ n4347) (Le.mk [(0, 0), (1, 1)] hm rfl ⟨⟨_, rfl, rfl⟩, ⟨_, rfl, rfl⟩, ⟨_, rfl, rfl⟩, ⟨_, rfl, rfl⟩, ⟨_, rfl, rfl⟩, ⟨_, rfl, rfl⟩, ⟨_, rfl, rfl⟩, ⟨_, rfl, rfl⟩, ⟨_, rfl, rfl⟩, ⟨_, rfl, rfl⟩, trivial⟩ trivial ⟨⟨_, _, rfl, rfl, rfl⟩, ⟨_, _, rfl, rfl, rfl⟩, trivial⟩)
                        have n251 : W 8 #[true, true, false, true, true, true, true, true, false, false, false, false, false, false, false] (mkSt [(0, one (Cell.sl true (List.map eB v103))), (3, one (Cell.ptr 0 0)), (16, one (cI v104)), (17, one (cI v104)), (142, agg [cI v105, cI v106, cI v107, cI v108]), (143, one (cL r112)), (148, agg [cI v105, cI v106, cI v107, cI v108]), (149, one (Cell.ptr 0 2)), (155, one (cI (IntKind.i64.wrap ((1 : Int) + (Int.tmod r115 (9 : Int))))))] [] [(0, [cI v105, cI v106, cI v107, cI v108])] 1) := by
                          refine hI _ _ _ ?_
                          refine A.all [2, 12] (by kernel_rfl) rfl ⟨⟨_, rfl, ?_⟩, ⟨_, rfl, ?_⟩, trivial⟩
                          · refine L.loadPtr shape3 hF rfl rfl rfl rfl rfl rfl ?_
                            refine L.nil ?_
                            exact A.on (hO _ _ _ n255) (Le.mk [(0, 0)] hm rfl ⟨⟨_, rfl, rfl⟩, ⟨_, rfl, rfl⟩, ⟨_, rfl, rfl⟩, ⟨_, rfl, rfl⟩, ⟨_, rfl, rfl⟩, ⟨_, rfl, rfl⟩, ⟨_, rfl, rfl⟩, ⟨_, rfl, rfl⟩, ⟨_, rfl, rfl⟩, trivial⟩ trivial ⟨⟨_, _, rfl, rfl, rfl⟩, trivial⟩)
                          · refine L.alloc 1 info25 rfl hF rfl rfl rfl rfl ?_
                            refine L.nil ?_
                            exact A.on (hO _ _ _ n4347) (Le.mk [(0, 0), (1, 1)] hm rfl ⟨⟨_, rfl, rfl⟩, ⟨_, rfl, rfl⟩, ⟨_, rfl, rfl⟩, ⟨_, rfl, rfl⟩, ⟨_, rfl, rfl⟩, ⟨_, rfl, rfl⟩, ⟨_, rfl, rfl⟩, ⟨_, rfl, rfl⟩, ⟨_, rfl, rfl⟩, ⟨_, rfl, rfl⟩, trivial⟩ trivial ⟨⟨_, _, rfl, rfl, rfl⟩, ⟨_, _, rfl, rfl, rfl⟩, trivial⟩)
                        have n127 : W 8 #[true, true, true, true, true, true, true, false, false, false, false, false, false, false, false] (mkSt [(0, one (Cell.sl true (List.map eB v103))), (3, one (Cell.ptr 0 0)), (16, one (cI v104)), (17, one (cI v104)), (142, agg [cI v105, cI v106, cI v107, cI v108]), (143, one (cL r112)), (148, agg [cI v105, cI v106, cI v107, cI v108]), (150, one (cI v107)), (154, one (cI (Int.tmod r115 (9 : Int))))] [] [(0, [cI v105, cI v106, cI v107, cI v108])] 1) := by
                          refine hI _ _ _ ?_
                          refine A.take 7 rfl (by kernel_rfl) (by kernel_rfl) (by kernel_rfl) rfl (Ca.bin rfl rfl (calm_int _ _ _ _ _ _ _ _)) (fun Q0 k0 => L.bin hF rfl rfl rfl rfl rfl rfl (L.nil k0)) ?_
                          exact A.on (hO _ _ _ n255) (Le.mk [(0, 0)] hm rfl ⟨⟨_, rfl, rfl⟩, ⟨_, rfl, rfl⟩, ⟨_, rfl, rfl⟩, ⟨_, rfl, rfl⟩, ⟨_, rfl, rfl⟩, ⟨_, rfl, rfl⟩, ⟨_, rfl, rfl⟩, ⟨_, rfl, rfl⟩, ⟨_, rfl, rfl⟩, trivial⟩ trivial ⟨⟨_, _, rfl, rfl, rfl⟩, trivial⟩)
                        have n4127 : W 9 #[true, true, true, true, true, false, false, false, false, false, false, false, true, false, false] (mkSt [(0, one (Cell.sl true (List.map eB v103))), (3, one (Cell.ptr 0 0)), (16, one (cI v104)), (17, one (cI v104)), (18, one (Cell.ptr 1 0)), (142, agg [cI v105, cI v106, cI v107, cI v108]), (143, one (cL r112)), (148, agg [cI v105, cI v106, cI v107, cI v108]), (150, one (cI v107)), (151, one (Cell.sl true (List.map eB v103))), (152, one (cI v104))] [] [(0, [cI v105, cI v106, cI v107, cI v108]), (1, [cI (0 : Int), cI (0 : Int), cI (0 : Int), cI (0 : Int)])] 2) := by
                          refine hI _ _ _ ?_
                          refine A.all [5] (by kernel_rfl) rfl ⟨⟨_, rfl, ?_⟩, trivial⟩
                          · refine L.call [false, false] [] [] 2 hF rfl rfl rfl ent38 rfl rfl rfl rfl rfl (Flaws_at_gives k5 true v103 v104 r115 hr115) rfl ?_
                            refine L.nil ?_
                            exact A.on (hO _ _ _ n4159) (Le.mk [(0, 0), (1, 1)] hm rfl ⟨⟨_, rfl, rfl⟩, ⟨_, rfl, rfl⟩, ⟨_, rfl, rfl⟩, ⟨_, rfl, rfl⟩, ⟨_, rfl, rfl⟩, ⟨_, rfl, rfl⟩, ⟨_, rfl, rfl⟩, ⟨_, rfl, rfl⟩, ⟨_, rfl, rfl⟩, ⟨_, rfl, rfl⟩, trivial⟩ trivial ⟨⟨_, _, rfl, rfl, rfl⟩, ⟨_, _, rfl, rfl, rfl⟩, trivial⟩)
                        have n4155 : W 9 #[true, true, false, true, true, true, false, false, false, false, false, false, true, false, false] (mkSt [(0, one (Cell.sl true (List.map eB v103))), (3, one (Cell.ptr 0 0)), (16, one (cI v104)), (17, one (cI v104)), (18, one (Cell.ptr 1 0)), (142, agg [cI v105, cI v106, cI v107, cI v108]), (143, one (cL r112)), (148, agg [cI v105, cI v106, cI v107, cI v108]), (149, one (Cell.ptr 0 2)), (153, one (cI r115))] [] [(0, [cI v105, cI v106, cI v107, cI v108]), (1, [cI (0 : Int), cI (0 : Int), cI (0 : Int), cI (0 : Int)])] 2) := by
                          refine hI _ _ _ ?_
                          refine A.take 6 rfl (by kernel_rfl) (by kernel_rfl) (by kernel_rfl) rfl (Ca.bin rfl rfl (calm_int _ _ _ _ _ _ _ _)) (fun Q0 k0 => L.rem hF rfl rfl rfl rfl (by decide) (L.nil k0)) ?_
                          exact A.on (hO _ _ _ n4219) (Le.mk [(0, 0), (1, 1)] hm rfl ⟨⟨_, rfl, rfl⟩, ⟨_, rfl, rfl⟩, ⟨_, rfl, rfl⟩, ⟨_, rfl, rfl⟩, ⟨_, rfl, rfl⟩, ⟨_, rfl, rfl⟩, ⟨_, rfl, rfl⟩, ⟨_, rfl, rfl⟩, ⟨_, rfl, rfl⟩, ⟨_, rfl, rfl⟩, trivial⟩ trivial ⟨⟨_, _, rfl, rfl, rfl⟩, ⟨_, _, rfl, rfl, rfl⟩, trivial⟩)
                        have n4158 : W 9 #[false, true, true, true, true, true, false, false, false, false, false, false, true, false, false] (mkSt [(0, one (Cell.sl true (List.map eB v103))), (3, one (Cell.ptr 0 0)), (16, one (cI v104)), (17, one (cI v104)), (18, one (Cell.ptr 1 0)), (142, agg [cI v105, cI v106, cI v107, cI v108]), (143, one (cL r112)), (150, one (cI v107)), (153, one (cI r115))] [] [(0, [cI v105, cI v106, cI v107, cI v108]), (1, [cI (0 : Int), cI (0 : Int), cI (0 : Int), cI (0 : Int)])] 2) := by
                          refine hI _ _ _ ?_
                          refine A.take 6 rfl (by kernel_rfl) (by kernel_rfl) (by kernel_rfl) rfl (Ca.bin rfl rfl (calm_int _ _ _ _ _ _ _ _)) (fun Q0 k0 => L.rem hF rfl rfl rfl rfl (by decide) (L.nil k0)) ?_
                          exact A.on (hO _ _ _ n4222) (Le.mk [(0, 0), (1, 1)] hm rfl ⟨⟨_, rfl, rfl⟩, ⟨_, rfl, rfl⟩, ⟨_, rfl, rfl⟩, ⟨_, rfl, rfl⟩, ⟨_, rfl, rfl⟩, ⟨_, rfl, rfl⟩, ⟨_, rfl, rfl⟩, ⟨_, rfl, rfl⟩, ⟨_, rfl, rfl⟩, trivial⟩ trivial ⟨⟨_, _, rfl, rfl, rfl⟩, ⟨_, _, rfl, rfl, rfl⟩, trivial⟩)
                        have n63 : W 9 #[true, true, true, true, true, true, false, false, false, false, false, false, false, false, false] (mkSt [(0, one (Cell.sl true (List.map eB v103))), (3, one (Cell.ptr 0 0)), (16, one (cI v104)), (17, one (cI v104)), (142, agg [cI v105, cI v106, cI v107, cI v108]), (143, one (cL r112)), (148, agg [cI v105, cI v106, cI v107, cI v108]), (150, one (cI v107)), (153, one (cI r115))] [] [(0, [cI v105, cI v106, cI v107, cI v108])] 1) := by
                          refine hI _ _ _ ?_
                          refine A.take 6 rfl (by kernel_rfl) (by kernel_rfl) (by kernel_rfl) rfl (Ca.bin rfl rfl (calm_int _ _ _ _ _ _ _ _)) (fun Q0 k0 => L.rem hF rfl rfl rfl rfl (by decide) (L.nil k0)) ?_
                          exact A.on (hO _ _ _ n127) (Le.mk [(0, 0)] hm rfl ⟨⟨_, rfl, rfl⟩, ⟨_, rfl, rfl⟩, ⟨_, rfl, rfl⟩, ⟨_, rfl, rfl⟩, ⟨_, rfl, rfl⟩, ⟨_, rfl, rfl⟩, ⟨_, rfl, rfl⟩, ⟨_, rfl, rfl⟩, ⟨_, rfl, rfl⟩, trivial⟩ trivial ⟨⟨_, _, rfl, rfl, rfl⟩, trivial⟩)
                        have n126 : W 9 #[false, true, true, true, true, true, true, false, false, false, false, false, false, false, false] (mkSt [(0, one (Cell.sl true (List.map eB v103))), (3, one (Cell.ptr 0 0)), (16, one (cI v104)), (17, one (cI v104)), (142, agg [cI v105, cI v106, cI v107, cI v108]), (143, one (cL r112)), (150, one (cI v107)), (154, one (cI (Int.tmod r115 (9 : Int))))] [] [(0, [cI v105, cI v106, cI v107, cI v108])] 1) := by
                          refine hI _ _ _ ?_
                          refine A.take 7 rfl (by kernel_rfl) (by kernel_rfl) (by kernel_rfl) rfl (Ca.bin rfl rfl (calm_int _ _ _ _ _ _ _ _)) (fun Q0 k0 => L.bin hF rfl rfl rfl rfl rfl rfl (L.nil k0)) ?_
                          exact A.on (hO _ _ _ n254) (Le.mk [(0, 0)] hm rfl ⟨⟨_, rfl, rfl⟩, ⟨_, rfl, rfl⟩, ⟨_, rfl, rfl⟩, ⟨_, rfl, rfl⟩, ⟨_, rfl, rfl⟩, ⟨_, rfl, rfl⟩, ⟨_, rfl, rfl⟩, ⟨_, rfl, rfl⟩, trivial⟩ trivial ⟨⟨_, _, rfl, rfl, rfl⟩, trivial⟩)
                        have n250 : W 9 #[false, true, false, true, true, true, true, true, false, false, false, false, false, false, false] (mkSt [(0, one (Cell.sl true (List.map eB v103))), (3, one (Cell.ptr 0 0)), (16, one (cI v104)), (17, one (cI v104)), (142, agg [cI v105, cI v106, cI v107, cI v108]), (143, one (cL r112)), (149, one (Cell.ptr 0 2)), (155, one (cI (IntKind.i64.wrap ((1 : Int) + (Int.tmod r115 (9 : Int))))))] [] [(0, [cI v105, cI v106, cI v107, cI v108])] 1) := by
                          refine hI _ _ _ ?_
                          refine A.all [0, 2, 12] (by kernel_rfl) rfl ⟨⟨_, rfl, ?_⟩, ⟨_, rfl, ?_⟩, ⟨_, rfl, ?_⟩, trivial⟩
                          · refine L.loadPtr shape25 hF rfl rfl rfl rfl rfl rfl ?_
                            refine L.nil ?_
                            exact A.on (hO _ _ _ n251) (Le.mk [(0, 0)] hm rfl ⟨⟨_, rfl, rfl⟩, ⟨_, rfl, rfl⟩, ⟨_, rfl, rfl⟩, ⟨_, rfl, rfl⟩, ⟨_, rfl, rfl⟩, ⟨_, rfl, rfl⟩, ⟨_, rfl, rfl⟩, ⟨_, rfl, rfl⟩, ⟨_, rfl, rfl⟩, trivial⟩ trivial ⟨⟨_, _, rfl, rfl, rfl⟩, trivial⟩)
                          · refine L.loadPtr shape3 hF rfl rfl rfl rfl rfl rfl ?_
                            refine L.nil ?_
                            exact A.on (hO _ _ _ n254) (Le.mk [(0, 0)] hm rfl ⟨⟨_, rfl, rfl⟩, ⟨_, rfl, rfl⟩, ⟨_, rfl, rfl⟩, ⟨_, rfl, rfl⟩, ⟨_, rfl, rfl⟩, ⟨_, rfl, rfl⟩, ⟨_, rfl, rfl⟩, ⟨_, rfl, rfl⟩, trivial⟩ trivial ⟨⟨_, _, rfl, rfl, rfl⟩, trivial⟩)
                          · refine L.alloc 1 info25 rfl hF rfl rfl rfl rfl ?_
                            refine L.nil ?_
                            exact A.on (hO _ _ _ n4346) (Le.mk [(0, 0), (1, 1)] hm rfl ⟨⟨_, rfl, rfl⟩, ⟨_, rfl, rfl⟩, ⟨_, rfl, rfl⟩, ⟨_, rfl, rfl⟩, ⟨_, rfl, rfl⟩, ⟨_, rfl, rfl⟩, ⟨_, rfl, rfl⟩, ⟨_, rfl, rfl⟩, ⟨_, rfl, rfl⟩, trivial⟩ trivial ⟨⟨_, _, rfl, rfl, rfl⟩, ⟨_, _, rfl, rfl, rfl⟩, trivial⟩)
                        have n123 : W 9 #[true, true, false, true, true, true, true, false, false, false, false, false, false, false, false] (mkSt [(0, one (Cell.sl true (List.map eB v103))), (3, one (Cell.ptr 0 0)), (16, one (cI v104)), (17, one (cI v104)), (142, agg [cI v105, cI v106, cI v107, cI v108]), (143, one (cL r112)), (148, agg [cI v105, cI v106, cI v107, cI v108]), (149, one (Cell.ptr 0 2)), (154, one (cI (Int.tmod r115 (9 : Int))))] [] [(0, [cI v105, cI v106, cI v107, cI v108])] 1) := by
                          refine hI _ _ _ ?_
                          refine A.take 7 rfl (by kernel_rfl) (by kernel_rfl) (by kernel_rfl) rfl (Ca.bin rfl rfl (calm_int _ _ _ _ _ _ _ _)) (fun Q0 k0 => L.bin hF rfl rfl rfl rfl rfl rfl (L.nil k0)) ?_
                          exact A.on (hO _ _ _ n251) (Le.mk [(0, 0)] hm rfl ⟨⟨_, rfl, rfl⟩, ⟨_, rfl, rfl⟩, ⟨_, rfl, rfl⟩, ⟨_, rfl, rfl⟩, ⟨_, rfl, rfl⟩, ⟨_, rfl, rfl⟩, ⟨_, rfl, rfl⟩, ⟨_, rfl, rfl⟩, ⟨_, rfl, rfl⟩, trivial⟩ trivial ⟨⟨_, _, rfl, rfl, rfl⟩, trivial⟩)
                        have n4218 : W 9 #[false, true, false, true, true, true, true, false, false, false, false, false, true, false, false] (mkSt [(0, one (Cell.sl true (List.map eB v103))), (3, one (Cell.ptr 0 0)), (16, one (cI v104)), (17, one (cI v104)), (18, one (Cell.ptr 1 0)), (142, agg [cI v105, cI v106, cI v107, cI v108]), (143, one (cL r112)), (149, one (Cell.ptr 0 2)), (154, one (cI (Int.tmod r115 (9 : Int))))] [] [(0, [cI v105, cI v106, cI v107, cI v108]), (1, [cI (0 : Int), cI (0 : Int), cI (0 : Int), cI (0 : Int)])] 2) := by
                          refine hI _ _ _ ?_
                          refine A.take 7 rfl (by kernel_rfl) (by kernel_rfl) (by kernel_rfl) rfl (Ca.bin rfl rfl (calm_int _ _ _ _ _ _ _ _)) (fun Q0 k0 => L.bin hF rfl rfl rfl rfl rfl rfl (L.nil k0)) ?_
                          exact A.on (hO _ _ _ n4346) (Le.mk [(0, 0), (1, 1)] hm rfl ⟨⟨_, rfl, rfl⟩, ⟨_, rfl, rfl⟩, ⟨_, rfl, rfl⟩, ⟨_, rfl, rfl⟩, ⟨_, rfl, rfl⟩, ⟨_, rfl, rfl⟩, ⟨_, rfl, rfl⟩, ⟨_, rfl, rfl⟩, ⟨_, rfl, rfl⟩, trivial⟩ trivial ⟨⟨_, _, rfl, rfl, rfl⟩, ⟨_, _, rfl, rfl, rfl⟩, trivial⟩)
                        have n4123 : W 10 #[true, true, false, true, true, false, false, false, false, false, false, false, true, false, false] (mkSt [(0, one (Cell.sl true (List.map eB v103))), (3, one (Cell.ptr 0 0)), (16, one (cI v104)), (17, one (cI v104)), (18, one (Cell.ptr 1 0)), (142, agg [cI v105, cI v106, cI v107, cI v108]), (143, one (cL r112)), (148, agg [cI v105, cI v106, cI v107, cI v108]), (149, one (Cell.ptr 0 2)), (151, one (Cell.sl true (List.map eB v103))), (152, one (cI v104))] [] [(0, [cI v105, cI v106, cI v107, cI v108]), (1, [cI (0 : Int), cI (0 : Int), cI (0 : Int), cI (0 : Int)])] 2) := by
                          refine hI _ _ _ ?_
                          refine A.all [2, 5] (by kernel_rfl) rfl ⟨⟨_, rfl, ?_⟩, ⟨_, rfl, ?_⟩, trivial⟩
                          · refine L.loadPtr shape3 hF rfl rfl rfl rfl rfl rfl ?_
                            refine L.nil ?_
                            exact A.on (hO _ _ _ n4127) (Le.mk [(0, 0), (1, 1)] hm rfl ⟨⟨_, rfl, rfl⟩, ⟨_, rfl, rfl⟩, ⟨_, rfl, rfl⟩, ⟨_, rfl, rfl⟩, ⟨_, rfl, rfl⟩, ⟨_, rfl, rfl⟩, ⟨_, rfl, rfl⟩, ⟨_, rfl, rfl⟩, ⟨_, rfl, rfl⟩, ⟨_, rfl, rfl⟩, ⟨_, rfl, rfl⟩, trivial⟩ trivial ⟨⟨_, _, rfl, rfl, rfl⟩, ⟨_, _, rfl, rfl, rfl⟩, trivial⟩)
                          · refine L.call [false, false] [] [] 2 hF rfl rfl rfl ent38 rfl rfl rfl rfl rfl (Flaws_at_gives k5 true v103 v104 r115 hr115) rfl ?_
                            refine L.nil ?_
                            exact A.on (hO _ _ _ n4155) (Le.mk [(0, 0), (1, 1)] hm rfl ⟨⟨_, rfl, rfl⟩, ⟨_, rfl, rfl⟩, ⟨_, rfl, rfl⟩, ⟨_, rfl, rfl⟩, ⟨_, rfl, rfl⟩, ⟨_, rfl, rfl⟩, ⟨_, rfl, rfl⟩, ⟨_, rfl, rfl⟩, ⟨_, rfl, rfl⟩, ⟨_, rfl, rfl⟩, trivial⟩ trivial ⟨⟨_, _, rfl, rfl, rfl⟩, ⟨_, _, rfl, rfl, rfl⟩, trivial⟩)
                        have n4126 : W 10 #[false, true, true, true, true, false, false, false, false, false, false, false, true, false, false] (mkSt [(0, one (Cell.sl true (List.map eB v103))), (3, one (Cell.ptr 0 0)), (16, one (cI v104)), (17, one (cI v104)), (18, one (Cell.ptr 1 0)), (142, agg [cI v105, cI v106, cI v107, cI v108]), (143, one (cL r112)), (150, one (cI v107)), (151, one (Cell.sl true (List.map eB v103))), (152, one (cI v104))] [] [(0, [cI v105, cI v106, cI v107, cI v108]), (1, [cI (0 : Int), cI (0 : Int), cI (0 : Int), cI (0 : Int)])] 2) := by
                          refine hI _ _ _ ?_
                          refine A.all [0, 5] (by kernel_rfl) rfl ⟨⟨_, rfl, ?_⟩, ⟨_, rfl, ?_⟩, trivial⟩
                          · refine L.loadPtr shape25 hF rfl rfl rfl rfl rfl rfl ?_
                            refine L.nil ?_
                            exact A.on (hO _ _ _ n4127) (Le.mk [(0, 0), (1, 1)] hm rfl ⟨⟨_, rfl, rfl⟩, ⟨_, rfl, rfl⟩, ⟨_, rfl, rfl⟩, ⟨_, rfl, rfl⟩, ⟨_, rfl, rfl⟩, ⟨_, rfl, rfl⟩, ⟨_, rfl, rfl⟩, ⟨_, rfl, rfl⟩, ⟨_, rfl, rfl⟩, ⟨_, rfl, rfl⟩, ⟨_, rfl, rfl⟩, trivial⟩ trivial ⟨⟨_, _, rfl, rfl, rfl⟩, ⟨_, _, rfl, rfl, rfl⟩, trivial⟩)
                          · refine L.call [false, false] [] [] 2 hF rfl rfl rfl ent38 rfl rfl rfl rfl rfl (Flaws_at_gives k5 true v103 v104 r115 hr115) rfl ?_
                            refine L.nil ?_
                            exact A.on (hO _ _ _ n4158) (Le.mk [(0, 0), (1, 1)] hm rfl ⟨⟨_, rfl, rfl⟩, ⟨_, rfl, rfl⟩, ⟨_, rfl, rfl⟩, ⟨_, rfl, rfl⟩, ⟨_, rfl, rfl⟩, ⟨_, rfl, rfl⟩, ⟨_, rfl, rfl⟩, ⟨_, rfl, rfl⟩, ⟨_, rfl, rfl⟩, trivial⟩ trivial ⟨⟨_, _, rfl, rfl, rfl⟩, ⟨_, _, rfl, rfl, rfl⟩, trivial⟩)
                        have n31 : W 10 #[true, true, true, true, true, false, false, false, false, false, false, false, false, false, false] (mkSt [(0, one (Cell.sl true (List.map eB v103))), (3, one (Cell.ptr 0 0)), (16, one (cI v104)), (17, one (cI v104)), (142, agg [cI v105, cI v106, cI v107, cI v108]), (143, one (cL r112)), (148, agg [cI v105, cI v106, cI v107, cI v108]), (150, one (cI v107)), (151, one (Cell.sl true (List.map eB v103))), (152, one (cI v104))] [] [(0, [cI v105, cI v106, cI v107, cI v108])] 1) := by
                          refine hI _ _ _ ?_
                          refine A.all [5, 12] (by kernel_rfl) rfl ⟨⟨_, rfl, ?_⟩, ⟨_, rfl, ?_⟩, trivial⟩
                          · refine L.call [false, false] [] [] 1 hF rfl rfl rfl ent38 rfl rfl rfl rfl rfl (Flaws_at_gives k5 true v103 v104 r115 hr115) rfl ?_
                            refine L.nil ?_
                            exact A.on (hO _ _ _ n63) (Le.mk [(0, 0)] hm rfl ⟨⟨_, rfl, rfl⟩, ⟨_, rfl, rfl⟩, ⟨_, rfl, rfl⟩, ⟨_, rfl, rfl⟩, ⟨_, rfl, rfl⟩, ⟨_, rfl, rfl⟩, ⟨_, rfl, rfl⟩, ⟨_, rfl, rfl⟩, ⟨_, rfl, rfl⟩, trivial⟩ trivial ⟨⟨_, _, rfl, rfl, rfl⟩, trivial⟩)
                          · refine L.alloc 1 info25 rfl hF rfl rfl rfl rfl ?_
                            refine L.nil ?_
                            exact A.on (hO _ _ _ n4127) (Le.mk [(0, 0), (1, 1)] hm rfl ⟨⟨_, rfl, rfl⟩, ⟨_, rfl, rfl⟩, ⟨_, rfl, rfl⟩, ⟨_, rfl, rfl⟩, ⟨_, rfl, rfl⟩, ⟨_, rfl, rfl⟩, ⟨_, rfl, rfl⟩, ⟨_, rfl, rfl⟩, ⟨_, rfl, rfl⟩, ⟨_, rfl, rfl⟩, ⟨_, rfl, rfl⟩, trivial⟩ trivial ⟨⟨_, _, rfl, rfl, rfl⟩, ⟨_, _, rfl, rfl, rfl⟩, trivial⟩)
                        have n4154 : W 10 #[false, true, false, true, true, true, false, false, false, false, false, false, true, false, false] (mkSt [(0, one (Cell.sl true (List.map eB v103))), (3, one (Cell.ptr 0 0)), (16, one (cI v104)), (17, one (cI v104)), (18, one (Cell.ptr 1 0)), (142, agg [cI v105, cI v106, cI v107, cI v108]), (143, one (cL r112)), (149, one (Cell.ptr 0 2)), (153, one (cI r115))] [] [(0, [cI v105, cI v106, cI v107, cI v108]), (1, [cI (0 : Int), cI (0 : Int), cI (0 : Int), cI (0 : Int)])] 2) := by
                          refine hI _ _ _ ?_
                          refine A.take 6 rfl (by kernel_rfl) (by kernel_rfl) (by kernel_rfl) rfl (Ca.bin rfl rfl (calm_int _ _ _ _ _ _ _ _)) (fun Q0 k0 => L.rem hF rfl rfl rfl rfl (by decide) (L.nil k0)) ?_
                          exact A.on (hO _ _ _ n4218) (Le.mk [(0, 0), (1, 1)] hm rfl ⟨⟨_, rfl, rfl⟩, ⟨_, rfl, rfl⟩, ⟨_, rfl, rfl⟩, ⟨_, rfl, rfl⟩, ⟨_, rfl, rfl⟩, ⟨_, rfl, rfl⟩, ⟨_, rfl, rfl⟩, ⟨_, rfl, rfl⟩, ⟨_, rfl, rfl⟩, trivial⟩ trivial ⟨⟨_, _, rfl, rfl, rfl⟩, ⟨_, _, rfl, rfl, rfl⟩, trivial⟩)
                        have n62 : W 10 #[false, true, true, true, true, true, false, false, false, false, false, false, false, false, false] (mkSt [(0, one (Cell.sl true (List.map eB v103))), (3, one (Cell.ptr 0 0)), (16, one (cI v104)), (17, one (cI v104)), (142, agg [cI v105, cI v106, cI v107, cI v108]), (143, one (cL r112)), (150, one (cI v107)), (153, one (cI r115))] [] [(0, [cI v105, cI v106, cI v107, cI v108])] 1) := by
                          refine hI _ _ _ ?_
                          refine A.take 6 rfl (by kernel_rfl) (by kernel_rfl) (by kernel_rfl) rfl (Ca.bin rfl rfl (calm_int _ _ _ _ _ _ _ _)) (fun Q0 k0 => L.rem hF rfl rfl rfl rfl (by decide) (L.nil k0)) ?_
                          exact A.on (hO _ _ _ n126) (Le.mk [(0, 0)] hm rfl ⟨⟨_, rfl, rfl⟩, ⟨_, rfl, rfl⟩, ⟨_, rfl, rfl⟩, ⟨_, rfl, rfl⟩, ⟨_, rfl, rfl⟩, ⟨_, rfl, rfl⟩, ⟨_, rfl, rfl⟩, ⟨_, rfl, rfl⟩, trivial⟩ trivial ⟨⟨_, _, rfl, rfl, rfl⟩, trivial⟩)
                        have n59 : W 10 #[true, true, false, true, true, true, false, false, false, false, false, false, false, false, false] (mkSt [(0, one (Cell.sl true (List.map eB v103))), (3, one (Cell.ptr 0 0)), (16, one (cI v104)), (17, one (cI v104)), (142, agg [cI v105, cI v106, cI v107, cI v108]), (143, one (cL r112)), (148, agg [cI v105, cI v106, cI v107, cI v108]), (149, one (Cell.ptr 0 2)), (153, one (cI r115))] [] [(0, [cI v105, cI v106, cI v107, cI v108])] 1) := by
                          refine hI _ _ _ ?_
                          refine A.take 6 rfl (by kernel_rfl) (by kernel_rfl) (by kernel_rfl) rfl (Ca.bin rfl rfl (calm_int _ _ _ _ _ _ _ _)) (fun Q0 k0 => L.rem hF rfl rfl rfl rfl (by decide) (L.nil k0)) ?_
                          exact A.on (hO _ _ _ n123) (Le.mk [(0, 0)] hm rfl ⟨⟨_, rfl, rfl⟩, ⟨_, rfl, rfl⟩, ⟨_, rfl, rfl⟩, ⟨_, rfl, rfl⟩, ⟨_, rfl, rfl⟩, ⟨_, rfl, rfl⟩, ⟨_, rfl, rfl⟩, ⟨_, rfl, rfl⟩, ⟨_, rfl, rfl⟩, trivial⟩ trivial ⟨⟨_, _, rfl, rfl, rfl⟩, trivial⟩)
                        have n122 : W 10 #[false, true, false, true, true, true, true, false, false, false, false, false, false, false, false] (mkSt [(0, one (Cell.sl true (List.map eB v103))), (3, one (Cell.ptr 0 0)), (16, one (cI v104)), (17, one (cI v104)), (142, agg [cI v105, cI v106, cI v107, cI v108]), (143, one (cL r112)), (149, one (Cell.ptr 0 2)), (154, one (cI (Int.tmod r115 (9 : Int))))] [] [(0, [cI v105, cI v106, cI v107, cI v108])] 1) := by
                          refine hI _ _ _ ?_
                          refine A.take 7 rfl (by kernel_rfl) (by kernel_rfl) (by kernel_rfl) rfl (Ca.bin rfl rfl (calm_int _ _ _ _ _ _ _ _)) (fun Q0 k0 => L.bin hF rfl rfl rfl rfl rfl rfl (L.nil k0)) ?_
                          exact A.on (hO _ _ _ n250) (Le.mk [(0, 0)] hm rfl ⟨⟨_, rfl, rfl⟩, ⟨_, rfl, rfl⟩, ⟨_, rfl, rfl⟩, ⟨_, rfl, rfl⟩, ⟨_, rfl, rfl⟩, ⟨_, rfl, rfl⟩, ⟨_, rfl, rfl⟩, ⟨_, rfl, rfl⟩, trivial⟩ trivial ⟨⟨_, _, rfl, rfl, rfl⟩, trivial⟩)
                        have n4122 : W 11 #[false, true, false, true, true, false, false, false, false, false, false, false, true, false, false] (mkSt [(0, one (Cell.sl true (List.map eB v103))), (3, one (Cell.ptr 0 0)), (16, one (cI v104)), (17, one (cI v104)), (18, one (Cell.ptr 1 0)), (142, agg [cI v105, cI v106, cI v107, cI v108]), (143, one (cL r112)), (149, one (Cell.ptr 0 2)), (151, one (Cell.sl true (List.map eB v103))), (152, one (cI v104))] [] [(0, [cI v105, cI v106, cI v107, cI v108]), (1, [cI (0 : Int), cI (0 : Int), cI (0 : Int), cI (0 : Int)])] 2) := by
                          refine hI _ _ _ ?_
                          refine A.all [0, 2, 5] (by kernel_rfl) rfl ⟨⟨_, rfl, ?_⟩, ⟨_, rfl, ?_⟩, ⟨_, rfl, ?_⟩, trivial⟩
                          · refine L.loadPtr shape25 hF rfl rfl rfl rfl rfl rfl ?_
                            refine L.nil ?_
                            exact A.on (hO _ _ _ n4123) (Le.mk [(0, 0), (1, 1)] hm rfl ⟨⟨_, rfl, rfl⟩, ⟨_, rfl, rfl⟩, ⟨_, rfl, rfl⟩, ⟨_, rfl, rfl⟩, ⟨_, rfl, rfl⟩, ⟨_, rfl, rfl⟩, ⟨_, rfl, rfl⟩, ⟨_, rfl, rfl⟩, ⟨_, rfl, rfl⟩, ⟨_, rfl, rfl⟩, ⟨_, rfl, rfl⟩, trivial⟩ trivial ⟨⟨_, _, rfl, rfl, rfl⟩, ⟨_, _, rfl, rfl, rfl⟩, trivial⟩)
                          · refine L.loadPtr shape3 hF rfl rfl rfl rfl rfl rfl ?_
                            refine L.nil ?_
                            exact A.on (hO _ _ _ n4126) (Le.mk [(0, 0), (1, 1)] hm rfl ⟨⟨_, rfl, rfl⟩, ⟨_, rfl, rfl⟩, ⟨_, rfl, rfl⟩, ⟨_, rfl, rfl⟩, ⟨_, rfl, rfl⟩, ⟨_, rfl, rfl⟩, ⟨_, rfl, rfl⟩, ⟨_, rfl, rfl⟩, ⟨_, rfl, rfl⟩, ⟨_, rfl, rfl⟩, trivial⟩ trivial ⟨⟨_, _, rfl, rfl, rfl⟩, ⟨_, _, rfl, rfl, rfl⟩, trivial⟩)
                          · refine L.call [false, false] [] [] 2 hF rfl rfl rfl ent38 rfl rfl rfl rfl rfl (Flaws_at_gives k5 true v103 v104 r115 hr115) rfl ?_
                            refine L.nil ?_
                            exact A.on (hO _ _ _ n4154) (Le.mk [(0, 0), (1, 1)] hm rfl ⟨⟨_, rfl, rfl⟩, ⟨_, rfl, rfl⟩, ⟨_, rfl, rfl⟩, ⟨_, rfl, rfl⟩, ⟨_, rfl, rfl⟩, ⟨_, rfl, rfl⟩, ⟨_, rfl, rfl⟩, ⟨_, rfl, rfl⟩, ⟨_, rfl, rfl⟩, trivial⟩ trivial ⟨⟨_, _, rfl, rfl, rfl⟩, ⟨_, _, rfl, rfl, rfl⟩, trivial⟩)
                        have n27 : W 11 #[true, true, false, true, true, false, false, false, false, false, false, false, false, false, false] (mkSt [(0, one (Cell.sl true (List.map eB v103))), (3, one (Cell.ptr 0 0)), (16, one (cI v104)), (17, one (cI v104)), (142, agg [cI v105, cI v106, cI v107, cI v108]), (143, one (cL r112)), (148, agg [cI v105, cI v106, cI v107, cI v108]), (149, one (Cell.ptr 0 2)), (151, one (Cell.sl true (List.map eB v103))), (152, one (cI v104))] [] [(0, [cI v105, cI v106, cI v107, cI v108])] 1) := by
                          refine hI _ _ _ ?_
                          refine A.all [2, 5, 12] (by kernel_rfl) rfl ⟨⟨_, rfl, ?_⟩, ⟨_, rfl, ?_⟩, ⟨_, rfl, ?_⟩, trivial⟩
                          · refine L.loadPtr shape3 hF rfl rfl rfl rfl rfl rfl ?_
                            refine L.nil ?_
                            exact A.on (hO _ _ _ n31) (Le.mk [(0, 0)] hm rfl ⟨⟨_, rfl, rfl⟩, ⟨_, rfl, rfl⟩, ⟨_, rfl, rfl⟩, ⟨_, rfl, rfl⟩, ⟨_, rfl, rfl⟩, ⟨_, rfl, rfl⟩, ⟨_, rfl, rfl⟩, ⟨_, rfl, rfl⟩, ⟨_, rfl, rfl⟩, ⟨_, rfl, rfl⟩, trivial⟩ trivial ⟨⟨_, _, rfl, rfl, rfl⟩, trivial⟩)
                          · refine L.call [false, false] [] [] 1 hF rfl rfl rfl ent38 rfl rfl rfl rfl rfl (Flaws_at_gives k5 true v103 v104 r115 hr115) rfl ?_
                            refine L.nil ?_
                            exact A.on (hO _ _ _ n59) (Le.mk [(0, 0)] hm rfl ⟨⟨_, rfl, rfl⟩, ⟨_, rfl, rfl⟩, ⟨_, rfl, rfl⟩, ⟨_, rfl, rfl⟩, ⟨_, rfl, rfl⟩, ⟨_, rfl, rfl⟩, ⟨_, rfl, rfl⟩, ⟨_, rfl, rfl⟩, ⟨_, rfl, rfl⟩, trivial⟩ trivial ⟨⟨_, _, rfl, rfl, rfl⟩, trivial⟩)
                          · refine L.alloc 1 info25 rfl hF rfl rfl rfl rfl ?_
                            refine L.nil ?_
                            exact A.on (hO _ _ _ n4123) (Le.mk [(0, 0), (1, 1)] hm rfl ⟨⟨_, rfl, rfl⟩, ⟨_, rfl, rfl⟩, ⟨_, rfl, rfl⟩, ⟨_, rfl, rfl⟩, ⟨_, rfl, rfl⟩, ⟨_, rfl, rfl⟩, ⟨_, rfl, rfl⟩, ⟨_, rfl, rfl⟩, ⟨_, rfl, rfl⟩, ⟨_, rfl, rfl⟩, ⟨_, rfl, rfl⟩, trivial⟩ trivial ⟨⟨_, _, rfl, rfl, rfl⟩, ⟨_, _, rfl, rfl, rfl⟩, trivial⟩)
                        have n30 : W 11 #[false, true, true, true, true, false, false, false, false, false, false, false, false, false, false] (mkSt [(0, one (Cell.sl true (List.map eB v103))), (3, one (Cell.ptr 0 0)), (16, one (cI v104)), (17, one (cI v104)), (142, agg [cI v105, cI v106, cI v107, cI v108]), (143, one (cL r112)), (150, one (cI v107)), (151, one (Cell.sl true (List.map eB v103))), (152, one (cI v104))] [] [(0, [cI v105, cI v106, cI v107, cI v108])] 1) := by
                          refine hI _ _ _ ?_
                          refine A.all [0, 5, 12] (by kernel_rfl) rfl ⟨⟨_, rfl, ?_⟩, ⟨_, rfl, ?_⟩, ⟨_, rfl, ?_⟩, trivial⟩
                          · refine L.loadPtr shape25 hF rfl rfl rfl rfl rfl rfl ?_
                            refine L.nil ?_
                            exact A.on (hO _ _ _ n31) (Le.mk [(0, 0)] hm rfl ⟨⟨_, rfl, rfl⟩, ⟨_, rfl, rfl⟩, ⟨_, rfl, rfl⟩, ⟨_, rfl, rfl⟩, ⟨_, rfl, rfl⟩, ⟨_, rfl, rfl⟩, ⟨_, rfl, rfl⟩, ⟨_, rfl, rfl⟩, ⟨_, rfl, rfl⟩, ⟨_, rfl, rfl⟩, trivial⟩ trivial ⟨⟨_, _, rfl, rfl, rfl⟩, trivial⟩)
                          · refine L.call [false, false] [] [] 1 hF rfl rfl rfl ent38 rfl rfl rfl rfl rfl (Flaws_at_gives k5 true v103 v104 r115 hr115) rfl ?_
                            refine L.nil ?_
                            exact A.on (hO _ _ _ n62) (Le.mk [(0, 0)] hm rfl ⟨⟨_, rfl, rfl⟩, ⟨_, rfl, rfl⟩, ⟨_, rfl, rfl⟩, ⟨_, rfl, rfl⟩, ⟨_, rfl, rfl⟩, ⟨_, rfl, rfl⟩, ⟨_, rfl, rfl⟩, ⟨_, rfl, rfl⟩, trivial⟩ trivial ⟨⟨_, _, rfl, rfl, rfl⟩, trivial⟩)
                          · refine L.alloc 1 info25 rfl hF rfl rfl rfl rfl ?_
                            refine L.nil ?_
                            exact A.on (hO _ _ _ n4126) (Le.mk [(0, 0), (1, 1)] hm rfl ⟨⟨_, rfl, rfl⟩, ⟨_, rfl, rfl⟩, ⟨_, rfl, rfl⟩, ⟨_, rfl, rfl⟩, ⟨_, rfl, rfl⟩, ⟨_, rfl, rfl⟩, ⟨_, rfl, rfl⟩, ⟨_, rfl, rfl⟩, ⟨_, rfl, rfl⟩, ⟨_, rfl, rfl⟩, trivial⟩ trivial ⟨⟨_, _, rfl, rfl, rfl⟩, ⟨_, _, rfl, rfl, rfl⟩, trivial⟩)
                        have n58 : W 11 #[false, true, false, true, true, true, false, false, false, false, false, false, false, false, false] (mkSt [(0, one (Cell.sl true (List.map eB v103))), (3, one (Cell.ptr 0 0)), (16, one (cI v104)), (17, one (cI v104)), (142, agg [cI v105, cI v106, cI v107, cI v108]), (143, one (cL r112)), (149, one (Cell.ptr 0 2)), (153, one (cI r115))] [] [(0, [cI v105, cI v106, cI v107, cI v108])] 1) := by
                          refine hI _ _ _ ?_
                          refine A.take 6 rfl (by kernel_rfl) (by kernel_rfl) (by kernel_rfl) rfl (Ca.bin rfl rfl (calm_int _ _ _ _ _ _ _ _)) (fun Q0 k0 => L.rem hF rfl rfl rfl rfl (by decide) (L.nil k0)) ?_
                          exact A.on (hO _ _ _ n122) (Le.mk [(0, 0)] hm rfl ⟨⟨_, rfl, rfl⟩, ⟨_, rfl, rfl⟩, ⟨_, rfl, rfl⟩, ⟨_, rfl, rfl⟩, ⟨_, rfl, rfl⟩, ⟨_, rfl, rfl⟩, ⟨_, rfl, rfl⟩, ⟨_, rfl, rfl⟩, trivial⟩ trivial ⟨⟨_, _, rfl, rfl, rfl⟩, trivial⟩)
                        have n26 : W 12 #[false, true, false, true, true, false, false, false, false, false, false, false, false, false, false] (mkSt [(0, one (Cell.sl true (List.map eB v103))), (3, one (Cell.ptr 0 0)), (16, one (cI v104)), (17, one (cI v104)), (142, agg [cI v105, cI v106, cI v107, cI v108]), (143, one (cL r112)), (149, one (Cell.ptr 0 2)), (151, one (Cell.sl true (List.map eB v103))), (152, one (cI v104))] [] [(0, [cI v105, cI v106, cI v107, cI v108])] 1) := by
                          refine hI _ _ _ ?_
                          refine A.all [0, 2, 5, 12] (by kernel_rfl) rfl ⟨⟨_, rfl, ?_⟩, ⟨_, rfl, ?_⟩, ⟨_, rfl, ?_⟩, ⟨_, rfl, ?_⟩, trivial⟩
                          · refine L.loadPtr shape25 hF rfl rfl rfl rfl rfl rfl ?_
                            refine L.nil ?_
                            exact A.on (hO _ _ _ n27) (Le.mk [(0, 0)] hm rfl ⟨⟨_, rfl, rfl⟩, ⟨_, rfl, rfl⟩, ⟨_, rfl, rfl⟩, ⟨_, rfl, rfl⟩, ⟨_, rfl, rfl⟩, ⟨_, rfl, rfl⟩, ⟨_, rfl, rfl⟩, ⟨_, rfl, rfl⟩, ⟨_, rfl, rfl⟩, ⟨_, rfl, rfl⟩, trivial⟩ trivial ⟨⟨_, _, rfl, rfl, rfl⟩, trivial⟩)
                          · refine L.loadPtr shape3 hF rfl rfl rfl rfl rfl rfl ?_
                            refine L.nil ?_
                            exact A.on (hO _ _ _ n30) (Le.mk [(0, 0)] hm rfl ⟨⟨_, rfl, rfl⟩, ⟨_, rfl, rfl⟩, ⟨_, rfl, rfl⟩, ⟨_, rfl, rfl⟩, ⟨_, rfl, rfl⟩, ⟨_, rfl, rfl⟩, ⟨_, rfl, rfl⟩, ⟨_, rfl, rfl⟩, ⟨_, rfl, rfl⟩, trivial⟩ trivial ⟨⟨_, _, rfl, rfl, rfl⟩, trivial⟩)
                          · refine L.call [false, false] [] [] 1 hF rfl rfl rfl ent38 rfl rfl rfl rfl rfl (Flaws_at_gives k5 true v103 v104 r115 hr115) rfl ?_
                            refine L.nil ?_
                            exact A.on (hO _ _ _ n58) (Le.mk [(0, 0)] hm rfl ⟨⟨_, rfl, rfl⟩, ⟨_, rfl, rfl⟩, ⟨_, rfl, rfl⟩, ⟨_, rfl, rfl⟩, ⟨_, rfl, rfl⟩, ⟨_, rfl, rfl⟩, ⟨_, rfl, rfl⟩, ⟨_, rfl, rfl⟩, trivial⟩ trivial ⟨⟨_, _, rfl, rfl, rfl⟩, trivial⟩)
                          · refine L.alloc 1 info25 rfl hF rfl rfl rfl rfl ?_
                            refine L.nil ?_
                            exact A.on (hO _ _ _ n4122) (Le.mk [(0, 0), (1, 1)] hm rfl ⟨⟨_, rfl, rfl⟩, ⟨_, rfl, rfl⟩, ⟨_, rfl, rfl⟩, ⟨_, rfl, rfl⟩, ⟨_, rfl, rfl⟩, ⟨_, rfl, rfl⟩, ⟨_, rfl, rfl⟩, ⟨_, rfl, rfl⟩, ⟨_, rfl, rfl⟩, ⟨_, rfl, rfl⟩, trivial⟩ trivial ⟨⟨_, _, rfl, rfl, rfl⟩, ⟨_, _, rfl, rfl, rfl⟩, trivial⟩)
                        have n10 : W 13 #[false, true, false, true, false, false, false, false, false, false, false, false, false, false, false] (mkSt [(0, one (Cell.sl true (List.map eB v103))), (3, one (Cell.ptr 0 0)), (16, one (cI v104)), (17, one (cI v104)), (142, agg [cI v105, cI v106, cI v107, cI v108]), (143, one (cL r112)), (149, one (Cell.ptr 0 2)), (151, one (Cell.sl true (List.map eB v103)))] [] [(0, [cI v105, cI v106, cI v107, cI v108])] 1) := by
                          refine hI _ _ _ ?_
                          refine A.take 4 rfl (by kernel_rfl) (by kernel_rfl) (by kernel_rfl) rfl (Ca.move) (fun Q0 k0 => L.move hF rfl rfl rfl (L.nil k0)) ?_
                          exact A.on (hO _ _ _ n26) (Le.mk [(0, 0)] hm rfl ⟨⟨_, rfl, rfl⟩, ⟨_, rfl, rfl⟩, ⟨_, rfl, rfl⟩, ⟨_, rfl, rfl⟩, ⟨_, rfl, rfl⟩, ⟨_, rfl, rfl⟩, ⟨_, rfl, rfl⟩, ⟨_, rfl, rfl⟩, ⟨_, rfl, rfl⟩, trivial⟩ trivial ⟨⟨_, _, rfl, rfl, rfl⟩, trivial⟩)
                        have n2 : W 14 #[false, true, false, false, false, false, false, false, false, false, false, false, false, false, false] (mkSt [(0, one (Cell.sl true (List.map eB v103))), (3, one (Cell.ptr 0 0)), (16, one (cI v104)), (17, one (cI v104)), (142, agg [cI v105, cI v106, cI v107, cI v108]), (143, one (cL r112)), (149, one (Cell.ptr 0 2))] [] [(0, [cI v105, cI v106, cI v107, cI v108])] 1) := by
                          refine hI _ _ _ ?_
                          refine A.take 3 rfl (by kernel_rfl) (by kernel_rfl) (by kernel_rfl) rfl (Ca.move) (fun Q0 k0 => L.move hF rfl rfl rfl (L.nil k0)) ?_
                          exact A.on (hO _ _ _ n10) (Le.mk [(0, 0)] hm rfl ⟨⟨_, rfl, rfl⟩, ⟨_, rfl, rfl⟩, ⟨_, rfl, rfl⟩, ⟨_, rfl, rfl⟩, ⟨_, rfl, rfl⟩, ⟨_, rfl, rfl⟩, ⟨_, rfl, rfl⟩, ⟨_, rfl, rfl⟩, trivial⟩ trivial ⟨⟨_, _, rfl, rfl, rfl⟩, trivial⟩)
                        have n0 : W 15 #[false, false, false, false, false, false, false, false, false, false, false, false, false, false, false] (mkSt [(0, one (Cell.sl true (List.map eB v103))), (3, one (Cell.ptr 0 0)), (16, one (cI v104)), (17, one (cI v104)), (142, agg [cI v105, cI v106, cI v107, cI v108]), (143, one (cL r112))] [] [(0, [cI v105, cI v106, cI v107, cI v108])] 1) := by
                          refine hI _ _ _ ?_
                          refine A.take 1 rfl (by kernel_rfl) (by kernel_rfl) (by kernel_rfl) rfl (Ca.fieldAddr Try.underlying25 rfl info3 rfl) (fun Q0 k0 => L.fieldAddr Try.underlying25 rfl info3 rfl hF rfl rfl rfl rfl rfl (L.nil k0)) ?_
                          exact A.on (hO _ _ _ n2) (Le.mk [(0, 0)] hm rfl ⟨⟨_, rfl, rfl⟩, ⟨_, rfl, rfl⟩, ⟨_, rfl, rfl⟩, ⟨_, rfl, rfl⟩, ⟨_, rfl, rfl⟩, ⟨_, rfl, rfl⟩, ⟨_, rfl, rfl⟩, trivial⟩ trivial ⟨⟨_, _, rfl, rfl, rfl⟩, trivial⟩)
                        exact hI _ _ _ (A.on (hO _ _ _ n0) (Le.mk [(0, 0)] hm rfl ⟨⟨_, rfl, rfl⟩, ⟨_, rfl, rfl⟩, ⟨_, rfl, rfl⟩, ⟨_, rfl, rfl⟩, ⟨_, rfl, rfl⟩, ⟨_, rfl, rfl⟩, trivial⟩ trivial ⟨⟨_, _, rfl, rfl, rfl⟩, trivial⟩))
                      · replace H := condF hc H
                        refine WpC.exit ?_
                        exact ⟨_, ⟨k5, v103, by omega, H, rfl⟩, Le.mk [] hm rfl ⟨⟨_, rfl, rfl⟩, trivial⟩ trivial trivial⟩
                    · replace H := condF hc H
                      refine L.off hF rfl rfl ?_
                      refine L.off hF rfl rfl ?_
                      refine L.pick hF rfl rfl rfl rfl ?_
                      refine L.nil ?_
                      refine WpC.cond rfl (fun hc => by cases hc) (fun _ => ?_)
                      refine WpC.exit ?_
                      exact ⟨_, ⟨k5, v103, by omega, H, rfl⟩, Le.mk [] hm rfl ⟨⟨_, rfl, rfl⟩, trivial⟩ trivial trivial⟩
              · refine WpC.seq ?_
                refine WpC.regionL ?_
                refine L.move hF rfl rfl rfl ?_
                refine L.move hF rfl rfl rfl ?_
                refine L.split (fun hc => ?_) (fun hc => ?_)
                · replace H := condT hc H
                  refine L.fieldAddr Try.underlying25 rfl info3 rfl hF rfl rfl rfl rfl rfl ?_
                  refine L.loadPtr shape3 hF rfl rfl rfl rfl rfl rfl ?_
                  refine L.fieldAddr Try.underlying25 rfl info3 rfl hF rfl rfl rfl rfl rfl ?_
                  refine L.loadPtr shape3 hF rfl rfl rfl rfl rfl rfl ?_
                  refine L.bin hF rfl rfl rfl rfl rfl rfl ?_
                  refine L.move hF rfl rfl rfl ?_
                  refine L.split (fun hc => ?_) (fun hc => ?_)
                  · replace H := condT hc H
                    refine L.off hF rfl rfl ?_
                    refine L.off hF rfl rfl ?_
                    refine L.off hF rfl rfl ?_
                    refine L.off hF rfl rfl ?_
                    refine L.off hF rfl rfl ?_
                    refine L.pick hF rfl rfl rfl rfl ?_
                    refine L.move hF rfl rfl rfl ?_
                    refine L.off hF rfl rfl ?_
                    refine L.off hF rfl rfl ?_
                    refine L.off hF rfl rfl ?_
                    refine L.off hF rfl rfl ?_
                    refine L.off hF rfl rfl ?_
                    refine L.pick hF rfl rfl rfl rfl ?_
                    refine L.move hF rfl rfl rfl ?_
                    refine L.off hF rfl rfl ?_
                    refine L.off hF rfl rfl ?_
                    refine L.off hF rfl rfl ?_
                    refine L.off hF rfl rfl ?_
                    refine L.off hF rfl rfl ?_
                    refine L.pick hF rfl rfl rfl rfl ?_
                    refine L.move hF rfl rfl rfl ?_
                    refine L.off hF rfl rfl ?_
                    refine L.off hF rfl rfl ?_
                    refine L.off hF rfl rfl ?_
                    refine L.pick hF rfl rfl rfl rfl ?_
                    refine L.pick hF rfl rfl rfl rfl ?_
                    refine L.nil ?_
                    refine WpC.cond rfl (fun _ => ?_) (fun hc => by cases hc)
                    refine WpC.seq ?_
                    refine WpC.regionL ?_
                    refine L.assign hF rfl rfl rfl ?_
                    refine L.nil ?_
                    refine WpC.ret ?_
                    cases H
                    exact Leaves.ret rfl rfl rfl ⟨rfl, rfl⟩
                  · replace H := condF hc H
                    refine L.fieldAddr Try.underlying25 rfl info3 rfl hF rfl rfl rfl rfl rfl ?_
                    refine L.loadPtr shape3 hF rfl rfl rfl rfl rfl rfl ?_
                    refine L.fieldAddr Try.underlying25 rfl info3 rfl hF rfl rfl rfl rfl rfl ?_
                    refine L.loadPtr shape3 hF rfl rfl rfl rfl rfl rfl ?_
                    refine L.bin hF rfl rfl rfl rfl rfl rfl ?_
                    refine L.pick hF rfl rfl rfl rfl ?_
                    refine L.move hF rfl rfl rfl ?_
                    refine L.split (fun hc => ?_) (fun hc => ?_)
                    · replace H := condT hc H
                      refine L.off hF rfl rfl ?_
                      refine L.off hF rfl rfl ?_
                      refine L.off hF rfl rfl ?_
                      refine L.off hF rfl rfl ?_
                      refine L.off hF rfl rfl ?_
                      refine L.pick hF rfl rfl rfl rfl ?_
                      refine L.move hF rfl rfl rfl ?_
                      refine L.off hF rfl rfl ?_
                      refine L.off hF rfl rfl ?_
                      refine L.off hF rfl rfl ?_
                      refine L.off hF rfl rfl ?_
                      refine L.off hF rfl rfl ?_
                      refine L.pick hF rfl rfl rfl rfl ?_
                      refine L.move hF rfl rfl rfl ?_
                      refine L.off hF rfl rfl ?_
                      refine L.off hF rfl rfl ?_
                      refine L.off hF rfl rfl ?_
                      refine L.pick hF rfl rfl rfl rfl ?_
                      refine L.pick hF rfl rfl rfl rfl ?_
                      refine L.nil ?_
                      refine WpC.cond rfl (fun _ => ?_) (fun hc => by cases hc)
                      refine WpC.seq ?_
                      refine WpC.regionL ?_
                      refine L.assign hF rfl rfl rfl ?_
                      refine L.nil ?_
                      refine WpC.ret ?_
                      cases H
                      exact Leaves.ret rfl rfl rfl ⟨rfl, rfl⟩
                    · replace H := condF hc H
                      refine L.fieldAddr Try.underlying25 rfl info3 rfl hF rfl rfl rfl rfl rfl ?_
                      refine L.loadPtr shape3 hF rfl rfl rfl rfl rfl rfl ?_
                      refine L.fieldAddr Try.underlying25 rfl info3 rfl hF rfl rfl rfl rfl rfl ?_
                      refine L.loadPtr shape3 hF rfl rfl rfl rfl rfl rfl ?_
                      refine L.bin hF rfl rfl rfl rfl rfl rfl ?_
                      refine L.pick hF rfl rfl rfl rfl ?_
                      refine L.move hF rfl rfl rfl ?_
                      refine L.split (fun hc => ?_) (fun hc => ?_)
                      · replace H := condT hc H
                        refine L.off hF rfl rfl ?_
                        refine L.off hF rfl rfl ?_
                        refine L.off hF rfl rfl ?_
                        refine L.off hF rfl rfl ?_
                        refine L.off hF rfl rfl ?_
                        refine L.pick hF rfl rfl rfl rfl ?_
                        refine L.move hF rfl rfl rfl ?_
                        refine L.off hF rfl rfl ?_
                        refine L.off hF rfl rfl ?_
                        refine L.off hF rfl rfl ?_
                        refine L.pick hF rfl rfl rfl rfl ?_
                        refine L.pick hF rfl rfl rfl rfl ?_
                        refine L.nil ?_
                        refine WpC.cond rfl (fun _ => ?_) (fun hc => by cases hc)
                        refine WpC.seq ?_
                        refine WpC.regionL ?_
                        refine L.assign hF rfl rfl rfl ?_
                        refine L.nil ?_
                        refine WpC.ret ?_
                        cases H
                        exact Leaves.ret rfl rfl rfl ⟨rfl, rfl⟩
                      · replace H := condF hc H
                        refine L.fieldAddr Try.underlying25 rfl info3 rfl hF rfl rfl rfl rfl rfl ?_
                        refine L.loadPtr shape3 hF rfl rfl rfl rfl rfl rfl ?_
                        refine L.fieldAddr Try.underlying25 rfl info3 rfl hF rfl rfl rfl rfl rfl ?_
                        refine L.loadPtr shape3 hF rfl rfl rfl rfl rfl rfl ?_
                        refine L.bin hF rfl rfl rfl rfl rfl rfl ?_
                        refine L.pick hF rfl rfl rfl rfl ?_
                        refine L.move hF rfl rfl rfl ?_
                        refine L.split (fun hc => ?_) (fun hc => ?_)
                        · replace H := condT hc H
                          refine L.off hF rfl rfl ?_
                          refine L.off hF rfl rfl ?_
                          refine L.off hF rfl rfl ?_
                          refine L.pick hF rfl rfl rfl rfl ?_
                          refine L.pick hF rfl rfl rfl rfl ?_
                          refine L.nil ?_
                          refine WpC.cond rfl (fun _ => ?_) (fun hc => by cases hc)
                          refine WpC.seq ?_
                          refine WpC.regionL ?_
                          refine L.assign hF rfl rfl rfl ?_
                          refine L.nil ?_
                          refine WpC.ret ?_
                          cases H
                          exact Leaves.ret rfl rfl rfl ⟨rfl, rfl⟩
                        · replace H := condF hc H
                          refine L.loadPtr shape25 hF rfl rfl rfl rfl rfl rfl ?_
                          obtain ⟨r118, hr118, H⟩ := bindS H
                          refine L.call [false] [] [] 23 hF rfl rfl rfl ent22 rfl rfl rfl rfl rfl (Fspec_TimesOk_gives kj1  r14.1 r118 hr118) rfl ?_
                          refine L.not hF rfl rfl rfl ?_
                          refine L.pick hF rfl rfl rfl rfl ?_
                          refine L.pick hF rfl rfl rfl rfl ?_
                          refine L.nil ?_
                          refine WpC.cond rfl (fun hc => ?_) (fun hc => ?_)
                          · replace H := condT hc H
                            refine WpC.seq ?_
                            refine WpC.regionL ?_
                            refine L.assign hF rfl rfl rfl ?_
                            refine L.nil ?_
                            refine WpC.ret ?_
                            cases H
                            exact Leaves.ret rfl rfl rfl ⟨rfl, rfl⟩
                          · replace H := condF hc H
                            refine WpC.skip ?_
                            exact ⟨_, ⟨kj1, v8, v9, v10, v11, v12, by omega, H, rfl⟩, Le.mk [(0, 0)] hm rfl ⟨⟨_, rfl, rfl⟩, ⟨_, rfl, rfl⟩, trivial⟩ trivial ⟨⟨_, _, rfl, rfl, rfl⟩, trivial⟩⟩
                · replace H := condF hc H
                  refine L.off hF rfl rfl ?_
                  refine L.off hF rfl rfl ?_
                  refine L.off hF rfl rfl ?_
                  refine L.off hF rfl rfl ?_
                  refine L.off hF rfl rfl ?_
                  refine L.off hF rfl rfl ?_
                  refine L.off hF rfl rfl ?_
                  refine L.off hF rfl rfl ?_
                  refine L.off hF rfl rfl ?_
                  refine L.off hF rfl rfl ?_
                  refine L.off hF rfl rfl ?_
                  refine L.off hF rfl rfl ?_
                  refine L.off hF rfl rfl ?_
                  refine L.off hF rfl rfl ?_
                  refine L.off hF rfl rfl ?_
                  refine L.off hF rfl rfl ?_
                  refine L.off hF rfl rfl ?_
                  refine L.off hF rfl rfl ?_
                  refine L.off hF rfl rfl ?_
                  refine L.off hF rfl rfl ?_
                  refine L.off hF rfl rfl ?_
                  refine L.off hF rfl rfl ?_
                  refine L.off hF rfl rfl ?_
                  refine L.off hF rfl rfl ?_
                  refine L.off hF rfl rfl ?_
                  refine L.off hF rfl rfl ?_
                  refine L.off hF rfl rfl ?_
                  refine L.off hF rfl rfl ?_
                  refine L.off hF rfl rfl ?_
                  refine L.off hF rfl rfl ?_
                  refine L.off hF rfl rfl ?_
                  refine L.pick hF rfl rfl rfl rfl ?_
                  refine L.nil ?_
                  refine WpC.cond rfl (fun hc => by cases hc) (fun _ => ?_)
                  refine WpC.skip ?_
                  exact ⟨_, ⟨kj1, v8, v9, v10, v11, v12, by omega, H, rfl⟩, Le.mk [(0, 0)] hm rfl ⟨⟨_, rfl, rfl⟩, ⟨_, rfl, rfl⟩, trivial⟩ trivial ⟨⟨_, _, rfl, rfl, rfl⟩, trivial⟩⟩
        · refine WpC.seq ?_
          refine WpC.regionL ?_
          refine L.move hF rfl rfl rfl ?_
          refine L.move hF rfl rfl rfl ?_
          refine L.split (fun hc => ?_) (fun hc => ?_)
          · replace H := condT hc H
            refine L.loadPtr shape25 hF rfl rfl rfl rfl rfl rfl ?_
            obtain ⟨r120, hr120, H⟩ := bindS H
            refine L.call [false] [] [] 21 hF rfl rfl rfl ent22 rfl rfl rfl rfl rfl (Fspec_TimesOk_gives k  r4.1 r120 hr120) rfl ?_
            refine L.not hF rfl rfl rfl ?_
            refine L.move hF rfl rfl rfl ?_
            refine L.split (fun hc => ?_) (fun hc => ?_)
            · replace H := condT hc H
              refine L.off hF rfl rfl ?_
              refine L.off hF rfl rfl ?_
              refine L.off hF rfl rfl ?_
              refine L.off hF rfl rfl ?_
              refine L.off hF rfl rfl ?_
              refine L.pick hF rfl rfl rfl rfl ?_
              refine L.move hF rfl rfl rfl ?_
              refine L.off hF rfl rfl ?_
              refine L.off hF rfl rfl ?_
              refine L.off hF rfl rfl ?_
              refine L.off hF rfl rfl ?_
              refine L.off hF rfl rfl ?_
              refine L.pick hF rfl rfl rfl rfl ?_
              refine L.move hF rfl rfl rfl ?_
              refine L.off hF rfl rfl ?_
              refine L.off hF rfl rfl ?_
              refine L.off hF rfl rfl ?_
              refine L.off hF rfl rfl ?_
              refine L.off hF rfl rfl ?_
              refine L.pick hF rfl rfl rfl rfl ?_
              refine L.pick hF rfl rfl rfl rfl ?_
              refine L.nil ?_
              refine WpC.cond rfl (fun _ => ?_) (fun hc => by cases hc)
              refine WpC.seq ?_
              refine WpC.regionL ?_
              refine L.assign hF rfl rfl rfl ?_
              refine L.nil ?_
              refine WpC.ret ?_
              cases H
              exact Leaves.ret rfl rfl rfl ⟨rfl, rfl⟩
            · replace H := condF hc H
              refine L.fieldAddr Try.underlying25 rfl info3 rfl hF rfl rfl rfl rfl rfl ?_
              refine L.loadPtr shape3 hF rfl rfl rfl rfl rfl rfl ?_
              refine L.fieldAddr Try.underlying25 rfl info3 rfl hF rfl rfl rfl rfl rfl ?_
              refine L.loadPtr shape3 hF rfl rfl rfl rfl rfl rfl ?_
              refine L.bin hF rfl rfl rfl rfl rfl rfl ?_
              refine L.pick hF rfl rfl rfl rfl ?_
              refine L.move hF rfl rfl rfl ?_
              refine L.split (fun hc => ?_) (fun hc => ?_)
              · replace H := condT hc H
                refine L.off hF rfl rfl ?_
                refine L.off hF rfl rfl ?_
                refine L.off hF rfl rfl ?_
                refine L.off hF rfl rfl ?_
                refine L.off hF rfl rfl ?_
                refine L.pick hF rfl rfl rfl rfl ?_
                refine L.move hF rfl rfl rfl ?_
                refine L.off hF rfl rfl ?_
                refine L.off hF rfl rfl ?_
                refine L.off hF rfl rfl ?_
                refine L.off hF rfl rfl ?_
                refine L.off hF rfl rfl ?_
                refine L.pick hF rfl rfl rfl rfl ?_
                refine L.pick hF rfl rfl rfl rfl ?_
                refine L.nil ?_
                refine WpC.cond rfl (fun _ => ?_) (fun hc => by cases hc)
                refine WpC.seq ?_
                refine WpC.regionL ?_
                refine L.assign hF rfl rfl rfl ?_
                refine L.nil ?_
                refine WpC.ret ?_
                cases H
                exact Leaves.ret rfl rfl rfl ⟨rfl, rfl⟩
              · replace H := condF hc H
                refine L.fieldAddr Try.underlying25 rfl info3 rfl hF rfl rfl rfl rfl rfl ?_
                refine L.loadPtr shape3 hF rfl rfl rfl rfl rfl rfl ?_
                refine L.fieldAddr Try.underlying25 rfl info3 rfl hF rfl rfl rfl rfl rfl ?_
                refine L.loadPtr shape3 hF rfl rfl rfl rfl rfl rfl ?_
                refine L.bin hF rfl rfl rfl rfl rfl rfl ?_
                refine L.pick hF rfl rfl rfl rfl ?_
                refine L.move hF rfl rfl rfl ?_
                refine L.split (fun hc => ?_) (fun hc => ?_)
                · replace H := condT hc H
                  refine L.off hF rfl rfl ?_
                  refine L.off hF rfl rfl ?_
                  refine L.off hF rfl rfl ?_
                  refine L.off hF rfl rfl ?_
                  refine L.off hF rfl rfl ?_
                  refine L.pick hF rfl rfl rfl rfl ?_
                  refine L.pick hF rfl rfl rfl rfl ?_
                  refine L.nil ?_
                  refine WpC.cond rfl (fun _ => ?_) (fun hc => by cases hc)
                  refine WpC.seq ?_
                  refine WpC.regionL ?_
                  refine L.assign hF rfl rfl rfl ?_
                  refine L.nil ?_
                  refine WpC.ret ?_
                  cases H
                  exact Leaves.ret rfl rfl rfl ⟨rfl, rfl⟩
                · replace H := condF hc H
                  refine L.fieldAddr Try.underlying25 rfl info3 rfl hF rfl rfl rfl rfl rfl ?_
                  refine L.loadPtr shape3 hF rfl rfl rfl rfl rfl rfl ?_
                  refine L.fieldAddr Try.underlying25 rfl info3 rfl hF rfl rfl rfl rfl rfl ?_
                  refine L.loadPtr shape3 hF rfl rfl rfl rfl rfl rfl ?_
                  refine L.bin hF rfl rfl rfl rfl rfl rfl ?_
                  refine L.pick hF rfl rfl rfl rfl ?_
                  refine L.pick hF rfl rfl rfl rfl ?_
                  refine L.nil ?_
                  refine WpC.cond rfl (fun hc => ?_) (fun hc => ?_)
                  · replace H := condT hc H
                    refine WpC.seq ?_
                    refine WpC.regionL ?_
                    refine L.assign hF rfl rfl rfl ?_
                    refine L.nil ?_
                    refine WpC.ret ?_
                    cases H
                    exact Leaves.ret rfl rfl rfl ⟨rfl, rfl⟩
                  · replace H := condF hc H
                    refine WpC.skip ?_
                    exact ⟨_, ⟨k, a0, r3.1.Auth, r3.1.Start, r3.1.End, r3.1.Renew, by omega, H, rfl⟩, Le.mk [(0, 8)] hm rfl ⟨⟨_, rfl, rfl⟩, ⟨_, rfl, rfl⟩, trivial⟩ trivial ⟨⟨_, _, rfl, rfl, rfl⟩, trivial⟩⟩
          · replace H := condF hc H
            refine L.off hF rfl rfl ?_
            refine L.off hF rfl rfl ?_
            refine L.off hF rfl rfl ?_
            refine L.off hF rfl rfl ?_
            refine L.off hF rfl rfl ?_
            refine L.off hF rfl rfl ?_
            refine L.off hF rfl rfl ?_
            refine L.off hF rfl rfl ?_
            refine L.off hF rfl rfl ?_
            refine L.off hF rfl rfl ?_
            refine L.off hF rfl rfl ?_
            refine L.off hF rfl rfl ?_
            refine L.off hF rfl rfl ?_
            refine L.off hF rfl rfl ?_
            refine L.off hF rfl rfl ?_
            refine L.off hF rfl rfl ?_
            refine L.off hF rfl rfl ?_
            refine L.off hF rfl rfl ?_
            refine L.off hF rfl rfl ?_
            refine L.off hF rfl rfl ?_
            refine L.off hF rfl rfl ?_
            refine L.off hF rfl rfl ?_
            refine L.off hF rfl rfl ?_
            refine L.off hF rfl rfl ?_
            refine L.pick hF rfl rfl rfl rfl ?_
            refine L.nil ?_
            refine WpC.cond rfl (fun hc => by cases hc) (fun _ => ?_)
            refine WpC.skip ?_
            exact ⟨_, ⟨k, a0, r3.1.Auth, r3.1.Start, r3.1.End, r3.1.Renew, by omega, H, rfl⟩, Le.mk [(0, 8)] hm rfl ⟨⟨_, rfl, rfl⟩, ⟨_, rfl, rfl⟩, trivial⟩ trivial ⟨⟨_, _, rfl, rfl, rfl⟩, trivial⟩⟩
theorem open35 : Go.MG.Opens Try.prog 35 (Go.MG.eR Go.MG.eB) (Go.MG.wfR (fun _ => True)) := Go.MG.Opens.slice Try.underlying35 (Go.MG.Opens.u8 Try.underlying5) (fun _ => (by kernel_rfl : Try.prog.cellsOf 5 = 1).symm) (fun _ => rfl) (fun _ => rfl) (by kernel_rfl)
end Go.Proofs.Ytflcaebmammlfaa.M
