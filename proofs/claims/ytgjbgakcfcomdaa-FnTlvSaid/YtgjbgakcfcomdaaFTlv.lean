import Derived.Test.YtgjbgakcfcomdaaFTlvx0
import Derived.Test.YtgjbgakcfcomdaaProg
namespace Go.Proofs.Ytgjbgakcfcomdaa.M
open Go Go.MG
set_option linter.unusedVariables false
set_option linter.unusedSimpArgs false
/-! ### Fspec_l14Show -/
def Fspec_l14Show.l2 (cREC : (List Timpl_Tlv) → Int → Option (List UInt8)) : Nat → (List Timpl_Tlv) → (List UInt8) → Int → Timpl_Tlv → Option (List UInt8)
 | 0, _, _, _, _ => none
 | k2 + 1, v54, v55, v56, v57 => cond (decide (v56 < (v57.Kids.length : Int))) ((at? v57.Kids v56).bind fun b61 => (cREC v54 b61).bind fun r62 => cond (decide (v55.length + r62.length ≤ 9223372036854775807)) ((Fspec_l14Show.l2 cREC k2) v54 (v55 ++ r62) (IntKind.i64.wrap (v56 + (1 : Int))) v57) none) ((Fspec_Var k2 (v55.length : Int)).bind fun r64 => cond (decide (([(ofI (IntKind.i64.wrap (v57.Tag + (128 : Int))))] : List UInt8).length + r64.length ≤ 9223372036854775807)) (cond (decide ((([(ofI (IntKind.i64.wrap (v57.Tag + (128 : Int))))] : List UInt8) ++ r64).length + v55.length ≤ 9223372036854775807)) (some ((([(ofI (IntKind.i64.wrap (v57.Tag + (128 : Int))))] : List UInt8) ++ r64) ++ v55)) none) none)
def Fspec_l14Show : Nat → (List Timpl_Tlv) → Int → Option (List UInt8)
 | 0, _, _ => none
 | k + 1, a0, a1 => (at? a0 a1).bind fun b1 => cond b1.Leaf ((Fspec_Var k (b1.Data.length : Int)).bind fun r5 => cond (decide (([(ofI b1.Tag)] : List UInt8).length + r5.length ≤ 9223372036854775807)) (cond (decide ((([(ofI b1.Tag)] : List UInt8) ++ r5).length + b1.Data.length ≤ 9223372036854775807)) (some ((([(ofI b1.Tag)] : List UInt8) ++ r5) ++ b1.Data)) none) none) (Fspec_l14Show.l2 (Fspec_l14Show k) k a0 ([] : List UInt8) (0 : Int) b1)
theorem ent76 : MG.Enters Try.prog 76 := ⟨Try.f76, Try.func76, rfl, by decide⟩
set_option maxHeartbeats 8000000 in
set_option maxRecDepth 100000 in
theorem Fspec_l14Show_gives : ∀ (k : Nat) (g0 : Bool) (a0 : List Timpl_Tlv) (a1 : Int) (r : List UInt8) (H : Fspec_l14Show k a0 a1 = some r), Gives Try.prog 76 [V.one (Cell.sl g0 (List.map eTimpl_Tlv a0)), V.one (cI a1)] [] [V.one (cS r)] [] := by
 intro k
 induction k with
 | zero => intros; rename_i H; cases H
 | succ k ih =>
  intro g0 a0 a1 r H
  refine Gives.intro Try.func76 rfl rfl rfl rfl ?_
  intro F hF hm
  rw [Fspec_l14Show] at H
  obtain ⟨K, hK⟩ : ∃ K, k ≤ K := ⟨k, Nat.le_refl k⟩
  refine WpC.seq (WpC.regionL ?_)
  refine L.assign hF rfl rfl rfl (L.nil ?_)
  refine WpC.seq (WpC.regionL ?_)
  refine L.move hF rfl rfl rfl ?_
  refine L.move hF rfl rfl rfl ?_
  obtain ⟨b1, hb1, H⟩ := bindS H
  refine L.idxR (xs := a0) (e := eTimpl_Tlv) Try.underlying22 info45 hF rfl rfl rfl rfl rfl hb1 rfl rfl ?_
  refine L.loadPe shape45 hF rfl rfl rfl rfl rfl ?_
  refine L.alloc 2 info45 rfl hF rfl rfl rfl rfl ?_
  refine L.storePtr shape45 hF rfl rfl rfl rfl rfl rfl rfl (L.nil ?_)
  refine WpC.seq (WpC.seq (WpC.regionL ?_))
  refine L.fieldAddr Try.underlying45 rfl info4 rfl hF rfl rfl rfl rfl rfl ?_
  refine L.loadPtr shape4 hF rfl rfl rfl rfl rfl rfl (L.nil ?_)
  refine WpC.cond rfl (fun hc => ?_) (fun hc => ?_)
  ·replace H := condT hc H
   refine WpC.seq ?_
   obtain ⟨r5, hr5, H⟩ := bindS H
   obtain ⟨h6, H⟩ := condG H
   obtain ⟨h7, H⟩ := condG H
   refine A.begin mixed rfl rfl ?_
   intro W hI hO
   have n4095 : W 2 #[true, true, true, true, true, true, true, true, true, true, true, true, false, false] (mkSt [(4, one (cS ([] : List UInt8))), (23, one (cS (([(ofI b1.Tag)] : List UInt8) ++ r5))), (25, one (cS b1.Data))] [] [] 0) := by
    refine hI _ _ _ ?_
    refine Atk 12 rfl (Ca.bin rfl rfl (calm_str _ _ _ _ _ _)) (fun Q0 k0 => L.catS hF rfl rfl rfl rfl (of_decide_eq_true h7) (L.nil k0)) ?_
    refine Atk 13 rfl (Ca.assign) (fun Q0 k0 => L.assign hF rfl rfl rfl (L.nil k0)) ?_
    refine A.le (τ := mkSt [(4, one (cS ((([(ofI b1.Tag)] : List UInt8) ++ r5) ++ b1.Data)))] [] [] 0) (Le.mk [] hm rfl (Sa1 trivial) trivial trivial) ?_
    refine A.done (by kernel_rfl) ?_
    refine WpC.ret ?_
    cases H
    exact Leaves.ret rfl rfl rfl ⟨rfl, rfl⟩
   have n3583 : W 3 #[true, true, true, true, true, true, true, true, true, false, true, true, false, false] (mkSt [(4, one (cS ([] : List UInt8))), (18, one (cS ([(ofI b1.Tag)] : List UInt8))), (22, one (cS r5)), (25, one (cS b1.Data))] [] [] 0) := by
    refine hI _ _ _ ?_
    refine Atk 9 rfl (Ca.bin rfl rfl (calm_str _ _ _ _ _ _)) (fun Q0 k0 => L.catS hF rfl rfl rfl rfl (of_decide_eq_true h6) (L.nil k0)) ?_
    exact A.on (hO _ _ _ n4095) (Le.mk [] hm rfl (Sa2 (Sa1 trivial)) trivial trivial)
   have n1535 : W 4 #[true, true, true, true, true, true, true, true, true, false, true, false, false, false] (mkSt [(4, one (cS ([] : List UInt8))), (18, one (cS ([(ofI b1.Tag)] : List UInt8))), (22, one (cS r5)), (24, one (Cell.ptr 0 2))] [] [(0, (bTimpl_Tlv g0 b1))] 1) := by
    refine hI _ _ _ ?_
    refine Atk 9 rfl (Ca.bin rfl rfl (calm_str _ _ _ _ _ _)) (fun Q0 k0 => L.catS hF rfl rfl rfl rfl (of_decide_eq_true h6) (L.nil k0)) ?_
    refine A.all [11] (by kernel_rfl) rfl ⟨⟨_, rfl, ?_⟩, trivial⟩
    refine L.loadPtr shape9 hF rfl rfl rfl rfl rfl rfl (L.nil ?_)
    exact A.on (hO _ _ _ n4095) (Le.mk [] hm rfl (Sa2 (Sa1 trivial)) trivial trivial)
   have n3327 : W 4 #[true, true, true, true, true, true, true, true, false, false, true, true, false, false] (mkSt [(4, one (cS ([] : List UInt8))), (18, one (cS ([(ofI b1.Tag)] : List UInt8))), (21, one (cI (b1.Data.length : Int))), (25, one (cS b1.Data))] [] [] 0) := by
    refine hI _ _ _ ?_
    refine A.all [8] (by kernel_rfl) rfl ⟨⟨_, rfl, ?_⟩, trivial⟩
    refine L.call [false] [] [] 0 hF rfl rfl rfl ent68 rfl rfl rfl rfl rfl (Fspec_Var_gives k  (b1.Data.length : Int) r5 hr5) rfl (L.nil ?_)
    exact A.on (hO _ _ _ n3583) (Le.mk [] hm rfl (Sa4 trivial) trivial trivial)
   have n3567 : W 4 #[true, true, true, true, false, true, true, true, true, false, true, true, false, false] (mkSt [(4, one (cS ([] : List UInt8))), (17, one (Cell.own 0)), (22, one (cS r5)), (25, one (cS b1.Data))] [(0, ⟨1, List.map eB ([(ofI b1.Tag)] : List UInt8)⟩)] [] 1) := by
    refine hI _ _ _ ?_
    refine A.all [4] (by kernel_rfl) rfl ⟨⟨_, rfl, ?_⟩, trivial⟩
    refine L.b2s (xs := ([(ofI b1.Tag)] : List UInt8)) Try.underlying33 Try.underlying5 Try.underlying9 hF rfl rfl rfl rfl (L.nil ?_)
    exact A.on (hO _ _ _ n3583) (Le.mk [] hm rfl (Sa4 trivial) trivial trivial)
   have n1279 : W 5 #[true, true, true, true, true, true, true, true, false, false, true, false, false, false] (mkSt [(4, one (cS ([] : List UInt8))), (18, one (cS ([(ofI b1.Tag)] : List UInt8))), (21, one (cI (b1.Data.length : Int))), (24, one (Cell.ptr 0 2))] [] [(0, (bTimpl_Tlv g0 b1))] 1) := by
    refine hI _ _ _ ?_
    refine A.all [8, 11] (by kernel_rfl) rfl ⟨⟨_, rfl, ?_⟩, ⟨_, rfl, ?_⟩, trivial⟩
    ·refine L.call [false] [] [] 1 hF rfl rfl rfl ent68 rfl rfl rfl rfl rfl (Fspec_Var_gives k  (b1.Data.length : Int) r5 hr5) rfl (L.nil ?_)
     exact A.on (hO _ _ _ n1535) (Le.mk [(0, 0)] hm rfl (Sa4 trivial) trivial (Ba1 trivial))
    ·refine L.loadPtr shape9 hF rfl rfl rfl rfl rfl rfl (L.nil ?_)
     exact A.on (hO _ _ _ n3327) (Le.mk [] hm rfl (Sa4 trivial) trivial trivial)
   have n3559 : W 5 #[true, true, true, false, false, true, true, true, true, false, true, true, false, false] (mkSt [(4, one (cS ([] : List UInt8))), (16, one (cU (ofI b1.Tag))), (22, one (cS r5)), (25, one (cS b1.Data))] [] [] 0) := by
    refine hI _ _ _ ?_
    refine A.all [3] (by kernel_rfl) rfl ⟨⟨_, rfl, ?_⟩, trivial⟩
    refine L.buildSlice (e := eB) 0 ([(ofI b1.Tag)] : List UInt8) Try.underlying33 info5 rfl rfl rfl hF rfl rfl rfl rfl rfl rfl rfl rfl (L.nil ?_)
    exact A.on (hO _ _ _ n3567) (Le.mk [(0, 0)] hm rfl (Sa4 trivial) (Ra1 trivial) trivial)
   have n3311 : W 5 #[true, true, true, true, false, true, true, true, false, false, true, true, false, false] (mkSt [(4, one (cS ([] : List UInt8))), (17, one (Cell.own 0)), (21, one (cI (b1.Data.length : Int))), (25, one (cS b1.Data))] [(0, ⟨1, List.map eB ([(ofI b1.Tag)] : List UInt8)⟩)] [] 1) := by
    refine hI _ _ _ ?_
    refine A.all [4, 8] (by kernel_rfl) rfl ⟨⟨_, rfl, ?_⟩, ⟨_, rfl, ?_⟩, trivial⟩
    ·refine L.b2s (xs := ([(ofI b1.Tag)] : List UInt8)) Try.underlying33 Try.underlying5 Try.underlying9 hF rfl rfl rfl rfl (L.nil ?_)
     exact A.on (hO _ _ _ n3327) (Le.mk [] hm rfl (Sa4 trivial) trivial trivial)
    ·refine L.call [false] [] [] 1 hF rfl rfl rfl ent68 rfl rfl rfl rfl rfl (Fspec_Var_gives k  (b1.Data.length : Int) r5 hr5) rfl (L.nil ?_)
     exact A.on (hO _ _ _ n3567) (Le.mk [(0, 0)] hm rfl (Sa4 trivial) (Ra1 trivial) trivial)
   have n1519 : W 5 #[true, true, true, true, false, true, true, true, true, false, true, false, false, false] (mkSt [(4, one (cS ([] : List UInt8))), (17, one (Cell.own 0)), (22, one (cS r5)), (24, one (Cell.ptr 1 2))] [(0, ⟨1, List.map eB ([(ofI b1.Tag)] : List UInt8)⟩)] [(1, (bTimpl_Tlv g0 b1))] 2) := by
    refine hI _ _ _ ?_
    refine A.all [4, 11] (by kernel_rfl) rfl ⟨⟨_, rfl, ?_⟩, ⟨_, rfl, ?_⟩, trivial⟩
    ·refine L.b2s (xs := ([(ofI b1.Tag)] : List UInt8)) Try.underlying33 Try.underlying5 Try.underlying9 hF rfl rfl rfl rfl (L.nil ?_)
     exact A.on (hO _ _ _ n1535) (Le.mk [(0, 1)] hm rfl (Sa4 trivial) trivial (Ba1 trivial))
    ·refine L.loadPtr shape9 hF rfl rfl rfl rfl rfl rfl (L.nil ?_)
     exact A.on (hO _ _ _ n3567) (Le.mk [(0, 0)] hm rfl (Sa4 trivial) (Ra1 trivial) trivial)
   have n3135 : W 6 #[true, true, true, true, true, true, false, false, false, false, true, true, false, false] (mkSt [(4, one (cS ([] : List UInt8))), (18, one (cS ([(ofI b1.Tag)] : List UInt8))), (19, one (Cell.ptr 0 2)), (25, one (cS b1.Data))] [] [(0, (bTimpl_Tlv g0 b1))] 1) := by
    refine hI _ _ _ ?_
    refine A.all [6] (by kernel_rfl) rfl ⟨⟨_, rfl, ?_⟩, trivial⟩
    refine L.loadPtr shape9 hF rfl rfl rfl rfl rfl rfl (L.nil ?_)
    refine Atk 7 rfl (Ca.lenS Try.underlying9 rfl) (fun Q0 k0 => L.lenS Try.underlying9 hF rfl rfl rfl (L.nil k0)) ?_
    exact A.on (hO _ _ _ n3327) (Le.mk [] hm rfl (Sa4 trivial) trivial trivial)
   have n3303 : W 6 #[true, true, true, false, false, true, true, true, false, false, true, true, false, false] (mkSt [(4, one (cS ([] : List UInt8))), (16, one (cU (ofI b1.Tag))), (21, one (cI (b1.Data.length : Int))), (25, one (cS b1.Data))] [] [] 0) := by
    refine hI _ _ _ ?_
    refine A.all [3, 8] (by kernel_rfl) rfl ⟨⟨_, rfl, ?_⟩, ⟨_, rfl, ?_⟩, trivial⟩
    ·refine L.buildSlice (e := eB) 0 ([(ofI b1.Tag)] : List UInt8) Try.underlying33 info5 rfl rfl rfl hF rfl rfl rfl rfl rfl rfl rfl rfl (L.nil ?_)
     exact A.on (hO _ _ _ n3311) (Le.mk [(0, 0)] hm rfl (Sa4 trivial) (Ra1 trivial) trivial)
    ·refine L.call [false] [] [] 0 hF rfl rfl rfl ent68 rfl rfl rfl rfl rfl (Fspec_Var_gives k  (b1.Data.length : Int) r5 hr5) rfl (L.nil ?_)
     exact A.on (hO _ _ _ n3559) (Le.mk [] hm rfl (Sa4 trivial) trivial trivial)
   have n1511 : W 6 #[true, true, true, false, false, true, true, true, true, false, true, false, false, false] (mkSt [(4, one (cS ([] : List UInt8))), (16, one (cU (ofI b1.Tag))), (22, one (cS r5)), (24, one (Cell.ptr 0 2))] [] [(0, (bTimpl_Tlv g0 b1))] 1) := by
    refine hI _ _ _ ?_
    refine A.all [3, 11] (by kernel_rfl) rfl ⟨⟨_, rfl, ?_⟩, ⟨_, rfl, ?_⟩, trivial⟩
    ·refine L.buildSlice (e := eB) 1 ([(ofI b1.Tag)] : List UInt8) Try.underlying33 info5 rfl rfl rfl hF rfl rfl rfl rfl rfl rfl rfl rfl (L.nil ?_)
     exact A.on (hO _ _ _ n1519) (Le.mk [(0, 1), (1, 0)] hm rfl (Sa4 trivial) (Ra1 trivial) (Ba1 trivial))
    ·refine L.loadPtr shape9 hF rfl rfl rfl rfl rfl rfl (L.nil ?_)
     exact A.on (hO _ _ _ n3559) (Le.mk [] hm rfl (Sa4 trivial) trivial trivial)
   have n1263 : W 6 #[true, true, true, true, false, true, true, true, false, false, true, false, false, false] (mkSt [(4, one (cS ([] : List UInt8))), (17, one (Cell.own 0)), (21, one (cI (b1.Data.length : Int))), (24, one (Cell.ptr 1 2))] [(0, ⟨1, List.map eB ([(ofI b1.Tag)] : List UInt8)⟩)] [(1, (bTimpl_Tlv g0 b1))] 2) := by
    refine hI _ _ _ ?_
    refine A.all [4, 8, 11] (by kernel_rfl) rfl ⟨⟨_, rfl, ?_⟩, ⟨_, rfl, ?_⟩, ⟨_, rfl, ?_⟩, trivial⟩
    ·refine L.b2s (xs := ([(ofI b1.Tag)] : List UInt8)) Try.underlying33 Try.underlying5 Try.underlying9 hF rfl rfl rfl rfl (L.nil ?_)
     exact A.on (hO _ _ _ n1279) (Le.mk [(0, 1)] hm rfl (Sa4 trivial) trivial (Ba1 trivial))
    ·refine L.call [false] [] [] 2 hF rfl rfl rfl ent68 rfl rfl rfl rfl rfl (Fspec_Var_gives k  (b1.Data.length : Int) r5 hr5) rfl (L.nil ?_)
     exact A.on (hO _ _ _ n1519) (Le.mk [(0, 0), (1, 1)] hm rfl (Sa4 trivial) (Ra1 trivial) (Ba1 trivial))
    ·refine L.loadPtr shape9 hF rfl rfl rfl rfl rfl rfl (L.nil ?_)
     exact A.on (hO _ _ _ n3311) (Le.mk [(0, 0)] hm rfl (Sa4 trivial) (Ra1 trivial) trivial)
   have n3119 : W 7 #[true, true, true, true, false, true, false, false, false, false, true, true, false, false] (mkSt [(4, one (cS ([] : List UInt8))), (17, one (Cell.own 0)), (19, one (Cell.ptr 1 2)), (25, one (cS b1.Data))] [(0, ⟨1, List.map eB ([(ofI b1.Tag)] : List UInt8)⟩)] [(1, (bTimpl_Tlv g0 b1))] 2) := by
    refine hI _ _ _ ?_
    refine A.all [4, 6] (by kernel_rfl) rfl ⟨⟨_, rfl, ?_⟩, ⟨_, rfl, ?_⟩, trivial⟩
    ·refine L.b2s (xs := ([(ofI b1.Tag)] : List UInt8)) Try.underlying33 Try.underlying5 Try.underlying9 hF rfl rfl rfl rfl (L.nil ?_)
     exact A.on (hO _ _ _ n3135) (Le.mk [(0, 1)] hm rfl (Sa4 trivial) trivial (Ba1 trivial))
    ·refine L.loadPtr shape9 hF rfl rfl rfl rfl rfl rfl (L.nil ?_)
     refine Atk 7 rfl (Ca.lenS Try.underlying9 rfl) (fun Q0 k0 => L.lenS Try.underlying9 hF rfl rfl rfl (L.nil k0)) ?_
     exact A.on (hO _ _ _ n3311) (Le.mk [(0, 0)] hm rfl (Sa4 trivial) (Ra1 trivial) trivial)
   have n3553 : W 7 #[true, false, false, false, false, true, true, true, true, false, true, true, false, false] (mkSt [(4, one (cS ([] : List UInt8))), (14, one (Cell.ptr 0 0)), (22, one (cS r5)), (25, one (cS b1.Data))] [] [(0, (bTimpl_Tlv g0 b1))] 1) := by
    refine hI _ _ _ ?_
    refine A.all [1] (by kernel_rfl) rfl ⟨⟨_, rfl, ?_⟩, trivial⟩
    refine L.loadPtr shape3 hF rfl rfl rfl rfl rfl rfl (L.nil ?_)
    refine Atk 2 rfl (Ca.conv Try.underlying3 Try.underlying5 rfl) (fun Q0 k0 => L.toB Try.underlying3 Try.underlying5 hF rfl rfl rfl (L.nil k0)) ?_
    exact A.on (hO _ _ _ n3559) (Le.mk [] hm rfl (Sa4 trivial) trivial trivial)
   have n1255 : W 7 #[true, true, true, false, false, true, true, true, false, false, true, false, false, false] (mkSt [(4, one (cS ([] : List UInt8))), (16, one (cU (ofI b1.Tag))), (21, one (cI (b1.Data.length : Int))), (24, one (Cell.ptr 0 2))] [] [(0, (bTimpl_Tlv g0 b1))] 1) := by
    refine hI _ _ _ ?_
    refine A.all [3, 8, 11] (by kernel_rfl) rfl ⟨⟨_, rfl, ?_⟩, ⟨_, rfl, ?_⟩, ⟨_, rfl, ?_⟩, trivial⟩
    ·refine L.buildSlice (e := eB) 1 ([(ofI b1.Tag)] : List UInt8) Try.underlying33 info5 rfl rfl rfl hF rfl rfl rfl rfl rfl rfl rfl rfl (L.nil ?_)
     exact A.on (hO _ _ _ n1263) (Le.mk [(0, 1), (1, 0)] hm rfl (Sa4 trivial) (Ra1 trivial) (Ba1 trivial))
    ·refine L.call [false] [] [] 1 hF rfl rfl rfl ent68 rfl rfl rfl rfl rfl (Fspec_Var_gives k  (b1.Data.length : Int) r5 hr5) rfl (L.nil ?_)
     exact A.on (hO _ _ _ n1511) (Le.mk [(0, 0)] hm rfl (Sa4 trivial) trivial (Ba1 trivial))
    ·refine L.loadPtr shape9 hF rfl rfl rfl rfl rfl rfl (L.nil ?_)
     exact A.on (hO _ _ _ n3303) (Le.mk [] hm rfl (Sa4 trivial) trivial trivial)
   have n3111 : W 8 #[true, true, true, false, false, true, false, false, false, false, true, true, false, false] (mkSt [(4, one (cS ([] : List UInt8))), (16, one (cU (ofI b1.Tag))), (19, one (Cell.ptr 0 2)), (25, one (cS b1.Data))] [] [(0, (bTimpl_Tlv g0 b1))] 1) := by
    refine hI _ _ _ ?_
    refine A.all [3, 6] (by kernel_rfl) rfl ⟨⟨_, rfl, ?_⟩, ⟨_, rfl, ?_⟩, trivial⟩
    ·refine L.buildSlice (e := eB) 1 ([(ofI b1.Tag)] : List UInt8) Try.underlying33 info5 rfl rfl rfl hF rfl rfl rfl rfl rfl rfl rfl rfl (L.nil ?_)
     exact A.on (hO _ _ _ n3119) (Le.mk [(0, 1), (1, 0)] hm rfl (Sa4 trivial) (Ra1 trivial) (Ba1 trivial))
    ·refine L.loadPtr shape9 hF rfl rfl rfl rfl rfl rfl (L.nil ?_)
     refine Atk 7 rfl (Ca.lenS Try.underlying9 rfl) (fun Q0 k0 => L.lenS Try.underlying9 hF rfl rfl rfl (L.nil k0)) ?_
     exact A.on (hO _ _ _ n3303) (Le.mk [] hm rfl (Sa4 trivial) trivial trivial)
   have n3297 : W 8 #[true, false, false, false, false, true, true, true, false, false, true, true, false, false] (mkSt [(4, one (cS ([] : List UInt8))), (14, one (Cell.ptr 0 0)), (21, one (cI (b1.Data.length : Int))), (25, one (cS b1.Data))] [] [(0, (bTimpl_Tlv g0 b1))] 1) := by
    refine hI _ _ _ ?_
    refine A.all [1, 8] (by kernel_rfl) rfl ⟨⟨_, rfl, ?_⟩, ⟨_, rfl, ?_⟩, trivial⟩
    ·refine L.loadPtr shape3 hF rfl rfl rfl rfl rfl rfl (L.nil ?_)
     refine Atk 2 rfl (Ca.conv Try.underlying3 Try.underlying5 rfl) (fun Q0 k0 => L.toB Try.underlying3 Try.underlying5 hF rfl rfl rfl (L.nil k0)) ?_
     exact A.on (hO _ _ _ n3303) (Le.mk [] hm rfl (Sa4 trivial) trivial trivial)
    ·refine L.call [false] [] [] 1 hF rfl rfl rfl ent68 rfl rfl rfl rfl rfl (Fspec_Var_gives k  (b1.Data.length : Int) r5 hr5) rfl (L.nil ?_)
     exact A.on (hO _ _ _ n3553) (Le.mk [(0, 0)] hm rfl (Sa4 trivial) trivial (Ba1 trivial))
   refine hI _ _ _ ?_
   refine Atk 0 rfl (Ca.fieldAddr Try.underlying45 rfl info3 rfl) (fun Q0 k0 => L.fieldAddr Try.underlying45 rfl info3 rfl hF rfl rfl rfl rfl rfl (L.nil k0)) ?_
   refine Atk 5 rfl (Ca.fieldAddr Try.underlying45 rfl info9 rfl) (fun Q0 k0 => L.fieldAddr Try.underlying45 rfl info9 rfl hF rfl rfl rfl rfl rfl (L.nil k0)) ?_
   refine Atk 10 rfl (Ca.fieldAddr Try.underlying45 rfl info9 rfl) (fun Q0 k0 => L.fieldAddr Try.underlying45 rfl info9 rfl hF rfl rfl rfl rfl rfl (L.nil k0)) ?_
   refine A.all [1, 6, 11] (by kernel_rfl) rfl ⟨⟨_, rfl, ?_⟩, ⟨_, rfl, ?_⟩, ⟨_, rfl, ?_⟩, trivial⟩
   ·refine L.loadPtr shape3 hF rfl rfl rfl rfl rfl rfl (L.nil ?_)
    refine Atk 2 rfl (Ca.conv Try.underlying3 Try.underlying5 rfl) (fun Q0 k0 => L.toB Try.underlying3 Try.underlying5 hF rfl rfl rfl (L.nil k0)) ?_
    refine A.all [3, 6, 11] (by kernel_rfl) rfl ⟨⟨_, rfl, ?_⟩, ⟨_, rfl, ?_⟩, ⟨_, rfl, ?_⟩, trivial⟩
    ·refine L.buildSlice (e := eB) 3 ([(ofI b1.Tag)] : List UInt8) Try.underlying33 info5 rfl rfl rfl hF rfl rfl rfl rfl rfl rfl rfl rfl (L.nil ?_)
     refine A.all [4, 6, 11] (by kernel_rfl) rfl ⟨⟨_, rfl, ?_⟩, ⟨_, rfl, ?_⟩, ⟨_, rfl, ?_⟩, trivial⟩
     ·refine L.b2s (xs := ([(ofI b1.Tag)] : List UInt8)) Try.underlying33 Try.underlying5 Try.underlying9 hF rfl rfl rfl rfl (L.nil ?_)
      refine A.all [6, 11] (by kernel_rfl) rfl ⟨⟨_, rfl, ?_⟩, ⟨_, rfl, ?_⟩, trivial⟩
      ·refine L.loadPtr shape9 hF rfl rfl rfl rfl rfl rfl (L.nil ?_)
       refine Atk 7 rfl (Ca.lenS Try.underlying9 rfl) (fun Q0 k0 => L.lenS Try.underlying9 hF rfl rfl rfl (L.nil k0)) ?_
       exact A.on (hO _ _ _ n1279) (Le.mk [(0, 2)] hm rfl (Sa4 trivial) trivial (Ba1 trivial))
      ·refine L.loadPtr shape9 hF rfl rfl rfl rfl rfl rfl (L.nil ?_)
       exact A.on (hO _ _ _ n3135) (Le.mk [(0, 2)] hm rfl (Sa4 trivial) trivial (Ba1 trivial))
     ·refine L.loadPtr shape9 hF rfl rfl rfl rfl rfl rfl (L.nil ?_)
      refine Atk 7 rfl (Ca.lenS Try.underlying9 rfl) (fun Q0 k0 => L.lenS Try.underlying9 hF rfl rfl rfl (L.nil k0)) ?_
      exact A.on (hO _ _ _ n1263) (Le.mk [(0, 3), (1, 2)] hm rfl (Sa4 trivial) (Ra1 trivial) (Ba1 trivial))
     ·refine L.loadPtr shape9 hF rfl rfl rfl rfl rfl rfl (L.nil ?_)
      exact A.on (hO _ _ _ n3119) (Le.mk [(0, 3), (1, 2)] hm rfl (Sa4 trivial) (Ra1 trivial) (Ba1 trivial))
    ·refine L.loadPtr shape9 hF rfl rfl rfl rfl rfl rfl (L.nil ?_)
     refine Atk 7 rfl (Ca.lenS Try.underlying9 rfl) (fun Q0 k0 => L.lenS Try.underlying9 hF rfl rfl rfl (L.nil k0)) ?_
     exact A.on (hO _ _ _ n1255) (Le.mk [(0, 2)] hm rfl (Sa4 trivial) trivial (Ba1 trivial))
    ·refine L.loadPtr shape9 hF rfl rfl rfl rfl rfl rfl (L.nil ?_)
     exact A.on (hO _ _ _ n3111) (Le.mk [(0, 2)] hm rfl (Sa4 trivial) trivial (Ba1 trivial))
   ·refine L.loadPtr shape9 hF rfl rfl rfl rfl rfl rfl (L.nil ?_)
    refine Atk 7 rfl (Ca.lenS Try.underlying9 rfl) (fun Q0 k0 => L.lenS Try.underlying9 hF rfl rfl rfl (L.nil k0)) ?_
    refine A.all [1, 8, 11] (by kernel_rfl) rfl ⟨⟨_, rfl, ?_⟩, ⟨_, rfl, ?_⟩, ⟨_, rfl, ?_⟩, trivial⟩
    ·refine L.loadPtr shape3 hF rfl rfl rfl rfl rfl rfl (L.nil ?_)
     refine Atk 2 rfl (Ca.conv Try.underlying3 Try.underlying5 rfl) (fun Q0 k0 => L.toB Try.underlying3 Try.underlying5 hF rfl rfl rfl (L.nil k0)) ?_
     exact A.on (hO _ _ _ n1255) (Le.mk [(0, 2)] hm rfl (Sa4 trivial) trivial (Ba1 trivial))
    ·refine L.call [false] [] [] 3 hF rfl rfl rfl ent68 rfl rfl rfl rfl rfl (Fspec_Var_gives k  (b1.Data.length : Int) r5 hr5) rfl (L.nil ?_)
     refine A.all [1, 11] (by kernel_rfl) rfl ⟨⟨_, rfl, ?_⟩, ⟨_, rfl, ?_⟩, trivial⟩
     ·refine L.loadPtr shape3 hF rfl rfl rfl rfl rfl rfl (L.nil ?_)
      refine Atk 2 rfl (Ca.conv Try.underlying3 Try.underlying5 rfl) (fun Q0 k0 => L.toB Try.underlying3 Try.underlying5 hF rfl rfl rfl (L.nil k0)) ?_
      exact A.on (hO _ _ _ n1511) (Le.mk [(0, 2)] hm rfl (Sa4 trivial) trivial (Ba1 trivial))
     ·refine L.loadPtr shape9 hF rfl rfl rfl rfl rfl rfl (L.nil ?_)
      exact A.on (hO _ _ _ n3553) (Le.mk [(0, 2)] hm rfl (Sa4 trivial) trivial (Ba1 trivial))
    ·refine L.loadPtr shape9 hF rfl rfl rfl rfl rfl rfl (L.nil ?_)
     exact A.on (hO _ _ _ n3297) (Le.mk [(0, 2)] hm rfl (Sa4 trivial) trivial (Ba1 trivial))
   ·refine L.loadPtr shape9 hF rfl rfl rfl rfl rfl rfl (L.nil ?_)
    refine A.all [1, 6] (by kernel_rfl) rfl ⟨⟨_, rfl, ?_⟩, ⟨_, rfl, ?_⟩, trivial⟩
    ·refine L.loadPtr shape3 hF rfl rfl rfl rfl rfl rfl (L.nil ?_)
     refine Atk 2 rfl (Ca.conv Try.underlying3 Try.underlying5 rfl) (fun Q0 k0 => L.toB Try.underlying3 Try.underlying5 hF rfl rfl rfl (L.nil k0)) ?_
     exact A.on (hO _ _ _ n3111) (Le.mk [(0, 2)] hm rfl (Sa4 trivial) trivial (Ba1 trivial))
    ·refine L.loadPtr shape9 hF rfl rfl rfl rfl rfl rfl (L.nil ?_)
     refine Atk 7 rfl (Ca.lenS Try.underlying9 rfl) (fun Q0 k0 => L.lenS Try.underlying9 hF rfl rfl rfl (L.nil k0)) ?_
     exact A.on (hO _ _ _ n3297) (Le.mk [(0, 2)] hm rfl (Sa4 trivial) trivial (Ba1 trivial))
  ·replace H := condF hc H
   refine WpC.skip (WpC.seq (WpC.regionL ?_))
   refine L.assign hF rfl rfl rfl (L.nil ?_)
   refine WpC.seq (WpC.seq (WpC.regionL ?_))
   refine L.assign hF rfl rfl rfl (L.nil ?_)
   refine WpC.block ?_
   refine WpC.loopL (P := Try.prog) (fun n σ => ∃ v54 : List Timpl_Tlv, ∃ v55 : List UInt8, ∃ v56 : Int, ∃ v57 : Timpl_Tlv, n ≤ K ∧ Fspec_l14Show.l2 (Fspec_l14Show k) n v54 v55 v56 v57 = some r ∧ σ = mkSt [(0, one (Cell.sl g0 (List.map eTimpl_Tlv v54))), (5, one (Cell.ptr 0 0)), (6, one (cS v55)), (7, one (cI v56))] [] [(0, (bTimpl_Tlv g0 v57))] 1) k ⟨_, ⟨a0, ([] : List UInt8), (0 : Int), b1, by omega, H, rfl⟩, Le.mk [(0, 2)] hm rfl (Sa4 trivial) trivial (Ba1 trivial)⟩ ?_
   clear H
   rintro k2 _ ⟨v54, v55, v56, v57, hk2, H, rfl⟩
   cases k2 with
   | zero => cases H
   | succ k2 =>
    rw [Fspec_l14Show.l2] at H
    refine WpC.seq (WpC.seq (WpC.regionL ?_))
    refine L.move hF rfl rfl rfl ?_
    refine L.fieldAddr Try.underlying45 rfl info39 rfl hF rfl rfl rfl rfl rfl ?_
    refine L.loadPtr shape39 hF rfl rfl rfl rfl rfl rfl ?_
    refine L.lenR (xs := v57.Kids) (e := eI) Try.underlying39 hF rfl rfl rfl rfl ?_
    refine L.bin hF rfl rfl rfl rfl rfl rfl (L.nil ?_)
    refine WpC.cond rfl (fun hc => ?_) (fun hc => ?_)
    ·replace H := condT hc H
     refine WpC.skip (WpC.seq (WpC.block (WpC.regionL ?_)))
     refine L.move hF rfl rfl rfl ?_
     refine L.move hF rfl rfl rfl ?_
     refine L.fieldAddr Try.underlying45 rfl info39 rfl hF rfl rfl rfl rfl rfl ?_
     refine L.loadPtr shape39 hF rfl rfl rfl rfl rfl rfl ?_
     refine L.move hF rfl rfl rfl ?_
     obtain ⟨b61, hb61, H⟩ := bindS H
     refine L.idxR (xs := v57.Kids) (e := eI) Try.underlying39 info3 hF rfl rfl rfl rfl rfl hb61 rfl rfl ?_
     refine L.loadPe shape3 hF rfl rfl rfl rfl rfl ?_
     obtain ⟨r62, hr62, H⟩ := bindS H
     refine L.call [false, false] [] [] 1 hF rfl rfl rfl ent76 rfl rfl rfl rfl rfl (ih g0 v54 b61 r62 hr62) rfl ?_
     obtain ⟨h63, H⟩ := condG H
     refine L.catS hF rfl rfl rfl rfl (of_decide_eq_true h63) ?_
     refine L.assign hF rfl rfl rfl (L.nil ?_)
     refine WpC.regionL ?_
     refine L.move hF rfl rfl rfl ?_
     refine L.bin hF rfl rfl rfl rfl rfl rfl ?_
     refine L.assign hF rfl rfl rfl (L.nil ?_)
     exact ⟨k2, _, by omega, ⟨v54, (v55 ++ r62), (IntKind.i64.wrap (v56 + (1 : Int))), v57, by omega, H, rfl⟩, Le.mk [(0, 0)] hm rfl (Sa4 trivial) trivial (Ba1 trivial)⟩
    ·replace H := condF hc H
     refine WpC.exit (WpC.seq ?_)
     obtain ⟨r64, hr64, H⟩ := bindS H
     obtain ⟨h65, H⟩ := condG H
     obtain ⟨h66, H⟩ := condG H
     refine A.begin mixed rfl rfl ?_
     intro W hI hO
     have n1535 : W 3 #[true, true, true, true, true, true, true, true, true, false, true, false, false] (mkSt [(48, one (cS ([(ofI (IntKind.i64.wrap (v57.Tag + (128 : Int))))] : List UInt8))), (51, one (cS r64)), (53, one (cS v55))] [] [] 0) := by
      refine hI _ _ _ ?_
      refine Atk 9 rfl (Ca.bin rfl rfl (calm_str _ _ _ _ _ _)) (fun Q0 k0 => L.catS hF rfl rfl rfl rfl (of_decide_eq_true h65) (L.nil k0)) ?_
      refine Atk 11 rfl (Ca.bin rfl rfl (calm_str _ _ _ _ _ _)) (fun Q0 k0 => L.catS hF rfl rfl rfl rfl (of_decide_eq_true h66) (L.nil k0)) ?_
      refine Atk 12 rfl (Ca.assign) (fun Q0 k0 => L.assign hF rfl rfl rfl (L.nil k0)) ?_
      refine A.le (τ := mkSt [(4, one (cS ((([(ofI (IntKind.i64.wrap (v57.Tag + (128 : Int))))] : List UInt8) ++ r64) ++ v55)))] [] [] 0) (Le.mk [] hm rfl (Sa1 trivial) trivial trivial) ?_
      refine A.done (by kernel_rfl) ?_
      refine WpC.ret ?_
      cases H
      exact Leaves.ret rfl rfl rfl ⟨rfl, rfl⟩
     have n1503 : W 4 #[true, true, true, true, true, false, true, true, true, false, true, false, false] (mkSt [(47, one (Cell.own 0)), (51, one (cS r64)), (53, one (cS v55))] [(0, ⟨1, List.map eB ([(ofI (IntKind.i64.wrap (v57.Tag + (128 : Int))))] : List UInt8)⟩)] [] 1) := by
      refine hI _ _ _ ?_
      refine A.all [5] (by kernel_rfl) rfl ⟨⟨_, rfl, ?_⟩, trivial⟩
      refine L.b2s (xs := ([(ofI (IntKind.i64.wrap (v57.Tag + (128 : Int))))] : List UInt8)) Try.underlying33 Try.underlying5 Try.underlying9 hF rfl rfl rfl rfl (L.nil ?_)
      exact A.on (hO _ _ _ n1535) (Le.mk [] hm rfl (Sa2 (Sa1 trivial)) trivial trivial)
     have n1487 : W 5 #[true, true, true, true, false, false, true, true, true, false, true, false, false] (mkSt [(46, one (cU (ofI (IntKind.i64.wrap (v57.Tag + (128 : Int)))))), (51, one (cS r64)), (53, one (cS v55))] [] [] 0) := by
      refine hI _ _ _ ?_
      refine A.all [4] (by kernel_rfl) rfl ⟨⟨_, rfl, ?_⟩, trivial⟩
      refine L.buildSlice (e := eB) 0 ([(ofI (IntKind.i64.wrap (v57.Tag + (128 : Int))))] : List UInt8) Try.underlying33 info5 rfl rfl rfl hF rfl rfl rfl rfl rfl rfl rfl rfl (L.nil ?_)
      exact A.on (hO _ _ _ n1503) (Le.mk [(0, 0)] hm rfl (Sa2 (Sa1 trivial)) (Ra1 trivial) trivial)
     refine hI _ _ _ ?_
     refine Atk 0 rfl (Ca.fieldAddr Try.underlying45 rfl info3 rfl) (fun Q0 k0 => L.fieldAddr Try.underlying45 rfl info3 rfl hF rfl rfl rfl rfl rfl (L.nil k0)) ?_
     refine Atk 6 rfl (Ca.move) (fun Q0 k0 => L.move hF rfl rfl rfl (L.nil k0)) ?_
     refine Atk 7 rfl (Ca.lenS Try.underlying9 rfl) (fun Q0 k0 => L.lenS Try.underlying9 hF rfl rfl rfl (L.nil k0)) ?_
     refine Atk 10 rfl (Ca.move) (fun Q0 k0 => L.move hF rfl rfl rfl (L.nil k0)) ?_
     refine A.all [1, 8] (by kernel_rfl) rfl ⟨⟨_, rfl, ?_⟩, ⟨_, rfl, ?_⟩, trivial⟩
     ·refine L.loadPtr shape3 hF rfl rfl rfl rfl rfl rfl (L.nil ?_)
      refine Atk 2 rfl (Ca.bin rfl rfl (calm_int _ _ _ _ _ _ _ _)) (fun Q0 k0 => L.bin hF rfl rfl rfl rfl rfl rfl (L.nil k0)) ?_
      refine Atk 3 rfl (Ca.conv Try.underlying3 Try.underlying5 rfl) (fun Q0 k0 => L.toB Try.underlying3 Try.underlying5 hF rfl rfl rfl (L.nil k0)) ?_
      refine A.all [4, 8] (by kernel_rfl) rfl ⟨⟨_, rfl, ?_⟩, ⟨_, rfl, ?_⟩, trivial⟩
      ·refine L.buildSlice (e := eB) 1 ([(ofI (IntKind.i64.wrap (v57.Tag + (128 : Int))))] : List UInt8) Try.underlying33 info5 rfl rfl rfl hF rfl rfl rfl rfl rfl rfl rfl rfl (L.nil ?_)
       refine A.all [5, 8] (by kernel_rfl) rfl ⟨⟨_, rfl, ?_⟩, ⟨_, rfl, ?_⟩, trivial⟩
       ·refine L.b2s (xs := ([(ofI (IntKind.i64.wrap (v57.Tag + (128 : Int))))] : List UInt8)) Try.underlying33 Try.underlying5 Try.underlying9 hF rfl rfl rfl rfl (L.nil ?_)
        refine A.all [8] (by kernel_rfl) rfl ⟨⟨_, rfl, ?_⟩, trivial⟩
        refine L.call [false] [] [] 2 hF rfl rfl rfl ent68 rfl rfl rfl rfl rfl (Fspec_Var_gives k2  (v55.length : Int) r64 hr64) rfl (L.nil ?_)
        exact A.on (hO _ _ _ n1535) (Le.mk [] hm rfl (Sa2 (Sa1 trivial)) trivial trivial)
       ·refine L.call [false] [] [] 2 hF rfl rfl rfl ent68 rfl rfl rfl rfl rfl (Fspec_Var_gives k2  (v55.length : Int) r64 hr64) rfl (L.nil ?_)
        exact A.on (hO _ _ _ n1503) (Le.mk [(0, 1)] hm rfl (Sa2 (Sa1 trivial)) (Ra1 trivial) trivial)
      ·refine L.call [false] [] [] 1 hF rfl rfl rfl ent68 rfl rfl rfl rfl rfl (Fspec_Var_gives k2  (v55.length : Int) r64 hr64) rfl (L.nil ?_)
       exact A.on (hO _ _ _ n1487) (Le.mk [] hm rfl (Sa2 (Sa1 trivial)) trivial trivial)
     ·refine L.call [false] [] [] 1 hF rfl rfl rfl ent68 rfl rfl rfl rfl rfl (Fspec_Var_gives k2  (v55.length : Int) r64 hr64) rfl (L.nil ?_)
      refine A.all [1] (by kernel_rfl) rfl ⟨⟨_, rfl, ?_⟩, trivial⟩
      refine L.loadPtr shape3 hF rfl rfl rfl rfl rfl rfl (L.nil ?_)
      refine Atk 2 rfl (Ca.bin rfl rfl (calm_int _ _ _ _ _ _ _ _)) (fun Q0 k0 => L.bin hF rfl rfl rfl rfl rfl rfl (L.nil k0)) ?_
      refine Atk 3 rfl (Ca.conv Try.underlying3 Try.underlying5 rfl) (fun Q0 k0 => L.toB Try.underlying3 Try.underlying5 hF rfl rfl rfl (L.nil k0)) ?_
      exact A.on (hO _ _ _ n1487) (Le.mk [] hm rfl (Sa2 (Sa1 trivial)) trivial trivial)
/-! ### Fspec_ReadVar -/
def Fspec_ReadVar.l26 (cl22 : (List UInt8) → Int → Option (Int × Int)) : Nat → (List UInt8) → Int → Int → Int → Option (Int × Int)
 | 0, _, _, _, _ => none
 | k26 + 1, v411, v412, v413, v414 => cond (decide (v414 ≥ (0 : Int))) ((at? v411 v414).bind fun b416 => (Fspec_ReadVar.l26 cl22 k26) v411 v412 (IntKind.i64.wrap ((IntKind.i64.wrap (v413 * (128 : Int))) + (Int.tmod (b416.toNat : Int) (128 : Int)))) (IntKind.i64.wrap (v414 - (1 : Int)))) ((Fspec_Var k26 v413).bind fun r417 => (cut? v411 (0 : Int) v412).bind fun b418 => cond (r417 == b418) (some (v413, v412)) (cl22 v411 (IntKind.i64.wrap (v412 + (1 : Int)))))
def Fspec_ReadVar.l22 : Nat → (List UInt8) → Int → Option (Int × Int)
 | 0, _, _ => none
 | k22 + 1, v345, v346 => cond (decide (v346 ≤ (7 : Int))) (cond (decide (v346 ≤ (v345.length : Int))) (Fspec_ReadVar.l26 (Fspec_ReadVar.l22 k22) k22 v345 v346 (0 : Int) (IntKind.i64.wrap (v346 - (1 : Int)))) (some ((0 : Int), (0 : Int)))) (some ((0 : Int), (0 : Int)))
def Fspec_ReadVar (k : Nat) (a0 : List UInt8) : Option (Int × Int) := Fspec_ReadVar.l22 k a0 (1 : Int)
theorem ent122 : MG.Enters Try.prog 122 := ⟨Try.f122, Try.func122, rfl, by decide⟩
set_option maxHeartbeats 8000000 in
set_option maxRecDepth 100000 in
theorem Fspec_ReadVar_gives (k : Nat) (a0 : List UInt8) (r : Int × Int) (H : Fspec_ReadVar k a0 = some r) : Gives Try.prog 122 [V.one (cS a0)] [] [V.one (cI r.1), V.one (cI r.2)] [] := by
 refine Gives.intro Try.func122 rfl rfl rfl rfl ?_
 intro F hF hm
 unfold Fspec_ReadVar at H
 obtain ⟨K, hK⟩ : ∃ K, k ≤ K := ⟨k, Nat.le_refl k⟩
 refine WpC.seq (WpC.regionL ?_)
 refine L.assign hF rfl rfl rfl ?_
 refine L.assign hF rfl rfl rfl (L.nil ?_)
 refine WpC.seq (WpC.seq (WpC.regionL ?_))
 refine L.assign hF rfl rfl rfl (L.nil ?_)
 refine WpC.block ?_
 refine WpC.loopL (P := Try.prog) (fun n σ => ∃ v345 : List UInt8, ∃ v346 : Int, n ≤ K ∧ Fspec_ReadVar.l22 n v345 v346 = some r ∧ σ = mkSt [(0, one (cS v345)), (4, one (cI v346))] [] [] 0) k ⟨_, ⟨a0, (1 : Int), by omega, H, rfl⟩, Le.mk [] hm rfl (Sa2 trivial) trivial trivial⟩ ?_
 clear H
 rintro k22 _ ⟨v345, v346, hk22, H, rfl⟩
 cases k22 with
 | zero => cases H
 | succ k22 =>
  rw [Fspec_ReadVar.l22] at H
  refine WpC.seq (WpC.seq (WpC.regionL ?_))
  refine L.move hF rfl rfl rfl ?_
  refine L.bin hF rfl rfl rfl rfl rfl rfl ?_
  refine L.move hF rfl rfl rfl ?_
  refine L.split (fun hc => ?_) (fun hc => ?_)
  ·replace H := condT hc H
   refine L.move hF rfl rfl rfl ?_
   refine L.move hF rfl rfl rfl ?_
   refine L.lenS Try.underlying9 hF rfl rfl rfl ?_
   refine L.bin hF rfl rfl rfl rfl rfl rfl ?_
   refine L.pick hF rfl rfl rfl rfl (L.nil ?_)
   refine WpC.cond rfl (fun hc => ?_) (fun hc => ?_)
   ·replace H := condT hc H
    refine WpC.skip (WpC.seq (WpC.block (WpC.seq (WpC.regionL ?_))))
    refine L.assign hF rfl rfl rfl (L.nil ?_)
    refine WpC.seq (WpC.seq (WpC.regionL ?_))
    refine L.move hF rfl rfl rfl ?_
    refine L.bin hF rfl rfl rfl rfl rfl rfl ?_
    refine L.assign hF rfl rfl rfl (L.nil ?_)
    refine WpC.block ?_
    refine WpC.loopL (P := Try.prog) (fun n σ => ∃ v411 : List UInt8, ∃ v412 : Int, ∃ v413 : Int, ∃ v414 : Int, n ≤ K ∧ Fspec_ReadVar.l26 (Fspec_ReadVar.l22 k22) n v411 v412 v413 v414 = some r ∧ σ = mkSt [(0, one (cS v411)), (4, one (cI v412)), (5, one (cI v413)), (6, one (cI v414))] [] [] 0) k22 ⟨_, ⟨v345, v346, (0 : Int), (IntKind.i64.wrap (v346 - (1 : Int))), by omega, H, rfl⟩, Le.mk [] hm rfl (Sa4 trivial) trivial trivial⟩ ?_
    clear H
    rintro k26 _ ⟨v411, v412, v413, v414, hk26, H, rfl⟩
    cases k26 with
    | zero => cases H
    | succ k26 =>
     rw [Fspec_ReadVar.l26] at H
     refine WpC.seq (WpC.seq (WpC.regionL ?_))
     refine L.move hF rfl rfl rfl ?_
     refine L.bin hF rfl rfl rfl rfl rfl rfl (L.nil ?_)
     refine WpC.cond rfl (fun hc => ?_) (fun hc => ?_)
     ·replace H := condT hc H
      refine WpC.skip (WpC.seq (WpC.block (WpC.regionL ?_)))
      refine L.move hF rfl rfl rfl ?_
      refine L.bin hF rfl rfl rfl rfl rfl rfl ?_
      refine L.move hF rfl rfl rfl ?_
      refine L.move hF rfl rfl rfl ?_
      obtain ⟨b416, hb416, H⟩ := bindS H
      refine L.idxS Try.underlying9 hF rfl rfl rfl rfl hb416 ?_
      refine L.ofB Try.underlying5 Try.underlying3 hF rfl rfl rfl ?_
      refine L.rem hF rfl rfl rfl rfl (by decide) ?_
      refine L.bin hF rfl rfl rfl rfl rfl rfl ?_
      refine L.assign hF rfl rfl rfl (L.nil ?_)
      refine WpC.regionL ?_
      refine L.move hF rfl rfl rfl ?_
      refine L.bin hF rfl rfl rfl rfl rfl rfl ?_
      refine L.assign hF rfl rfl rfl (L.nil ?_)
      exact ⟨k26, _, by omega, ⟨v411, v412, (IntKind.i64.wrap ((IntKind.i64.wrap (v413 * (128 : Int))) + (Int.tmod (b416.toNat : Int) (128 : Int)))), (IntKind.i64.wrap (v414 - (1 : Int))), by omega, H, rfl⟩, Le.mk [] hm rfl (Sa4 trivial) trivial trivial⟩
     ·replace H := condF hc H
      refine WpC.exit (WpC.seq ?_)
      obtain ⟨r417, hr417, H⟩ := bindS H
      obtain ⟨b418, hb418, H⟩ := bindS H
      refine A.begin mixed rfl rfl ?_
      intro W hI hO
      refine hI _ _ _ ?_
      refine Atk 0 rfl (Ca.move) (fun Q0 k0 => L.move hF rfl rfl rfl (L.nil k0)) ?_
      refine Atk 2 rfl (Ca.move) (fun Q0 k0 => L.move hF rfl rfl rfl (L.nil k0)) ?_
      refine Atk 3 rfl (Ca.move) (fun Q0 k0 => L.move hF rfl rfl rfl (L.nil k0)) ?_
      refine Atk 4 rfl (Ca.slice) (fun Q0 k0 => L.cutS Try.underlying9 hF rfl rfl rfl rfl rfl hb418 (L.nil k0)) ?_
      refine A.all [1] (by kernel_rfl) rfl ⟨⟨_, rfl, ?_⟩, trivial⟩
      refine L.call [false] [] [] 0 hF rfl rfl rfl ent68 rfl rfl rfl rfl rfl (Fspec_Var_gives k26  v413 r417 hr417) rfl (L.nil ?_)
      refine Atk 5 rfl (Ca.bin rfl rfl (calm_str _ _ _ _ _ _)) (fun Q0 k0 => L.binS hF rfl rfl rfl rfl rfl (L.nil k0)) ?_
      refine A.le (τ := mkSt [(0, one (cS v411)), (4, one (cI v412)), (5, one (cI v413)), (36, one (cL (r417 == b418)))] [] [] 0) (Le.mk [] hm rfl (Sa4 trivial) trivial trivial) ?_
      refine A.done (by kernel_rfl) ?_
      refine WpC.cond rfl (fun hc => ?_) (fun hc => ?_)
      ·replace H := condT hc H
       refine WpC.seq (WpC.regionL ?_)
       refine L.move hF rfl rfl rfl ?_
       refine L.move hF rfl rfl rfl ?_
       refine L.assign hF rfl rfl rfl ?_
       refine L.assign hF rfl rfl rfl (L.nil ?_)
       refine WpC.ret ?_
       cases H
       exact Leaves.ret rfl rfl rfl ⟨rfl, rfl⟩
      ·replace H := condF hc H
       refine WpC.skip (WpC.regionL ?_)
       refine L.move hF rfl rfl rfl ?_
       refine L.bin hF rfl rfl rfl rfl rfl rfl ?_
       refine L.assign hF rfl rfl rfl (L.nil ?_)
       exact ⟨k22, _, by omega, ⟨v411, (IntKind.i64.wrap (v412 + (1 : Int))), by omega, H, rfl⟩, Le.mk [] hm rfl (Sa2 trivial) trivial trivial⟩
   ·replace H := condF hc H
    refine WpC.exit (WpC.seq (WpC.regionL ?_))
    refine L.assign hF rfl rfl rfl ?_
    refine L.assign hF rfl rfl rfl (L.nil ?_)
    refine WpC.ret ?_
    cases H
    exact Leaves.ret rfl rfl rfl ⟨rfl, rfl⟩
  ·replace H := condF hc H
   refine L.off hF rfl rfl ?_
   refine L.off hF rfl rfl ?_
   refine L.off hF rfl rfl ?_
   refine L.off hF rfl rfl ?_
   refine L.pick hF rfl rfl rfl rfl (L.nil ?_)
   refine WpC.cond rfl (fun hc => by cases hc) (fun _ => ?_)
   refine WpC.exit (WpC.seq (WpC.regionL ?_))
   refine L.assign hF rfl rfl rfl ?_
   refine L.assign hF rfl rfl rfl (L.nil ?_)
   refine WpC.ret ?_
   cases H
   exact Leaves.ret rfl rfl rfl ⟨rfl, rfl⟩
/-! ### Fspec_l14Node -/
def Fspec_l14Node.l4 (cREC : Tspec_l14R → Int → Int → Int → Option (Tspec_l14R × Int)) : Nat → Int → Int → Int → Int → (List UInt8) → (List Timpl_Tlv) → Int → Int → Int → Bool → (List Int) → Option (Tspec_l14R × Int)
 | 0, _, _, _, _, _, _, _, _, _, _, _ => none
 | k4 + 1, v88, v89, v90, v91, v92, v93, v94, v95, v96, v97, v98 => cond (decide (v90 < v91)) ((cREC (⟨v92, v93, v94, v95⟩ : Tspec_l14R) v90 v91 (IntKind.i64.wrap (v89 + (1 : Int)))).bind fun r99 => cond (r99.1.code != (0 : Int)) (some (r99.1, v88)) (cond (decide ((2 * (v98.length + ([(IntKind.i64.wrap ((r99.1.out.length : Int) - (1 : Int)))] : List Int).length) + 192) * 8 ≤ 281474976710656)) ((Fspec_l14Node.l4 cREC k4) v88 v89 r99.2 v91 r99.1.s r99.1.out r99.1.begun r99.1.code v96 v97 (v98 ++ ([(IntKind.i64.wrap ((r99.1.out.length : Int) - (1 : Int)))] : List Int))) none)) (cond (decide ((2 * (v93.length + ([(⟨v96, v97, ([] : List UInt8), v98⟩ : Timpl_Tlv)] : List Timpl_Tlv).length) + 192) * 56 ≤ 281474976710656)) (some ((⟨v92, (v93 ++ ([(⟨v96, v97, ([] : List UInt8), v98⟩ : Timpl_Tlv)] : List Timpl_Tlv)), v94, v95⟩ : Tspec_l14R), v91)) none)
def Fspec_l14Node.j2 (cREC : Tspec_l14R → Int → Int → Int → Option (Tspec_l14R × Int)) (k : Nat) (v16 : Int) (v17 : Int) (v18 : Bool) (v19 : Int) (v20 : Int) (v21 : Int) (v22 : Bool) (v23 : Tspec_l14R) (v24 : Int) : Option (Tspec_l14R × Int) := cond v22 (some ((⟨v23.s, v23.out, v24, (1 : Int)⟩ : Tspec_l14R), v16)) (cond v18 ((cut? v23.s v21 (IntKind.i64.wrap (v21 + v20))).bind fun b27 => cond (decide ((2 * (v23.out.length + ([(⟨v19, v18, b27, []⟩ : Timpl_Tlv)] : List Timpl_Tlv).length) + 192) * 56 ≤ 281474976710656)) (some ((⟨v23.s, (v23.out ++ ([(⟨v19, v18, b27, []⟩ : Timpl_Tlv)] : List Timpl_Tlv)), v24, v23.code⟩ : Tspec_l14R), (IntKind.i64.wrap (v21 + v20)))) none) (Fspec_l14Node.l4 cREC k v16 v17 v21 (IntKind.i64.wrap (v21 + v20)) v23.s v23.out v24 v23.code v19 v18 []))
def Fspec_l14Node : Nat → Tspec_l14R → Int → Int → Int → Option (Tspec_l14R × Int)
 | 0, _, _, _, _ => none
 | k + 1, a0, a1, a2, a3 => cond (decide (a0.begun ≥ (60 : Int))) (some ((⟨a0.s, a0.out, a0.begun, (4 : Int)⟩ : Tspec_l14R), a1)) (cond (decide (a1 ≥ a2)) (some ((⟨a0.s, a0.out, (IntKind.i64.wrap (a0.begun + (1 : Int))), (1 : Int)⟩ : Tspec_l14R), a1)) ((at? a0.s a1).bind fun b1 => (at? a0.s a1).bind fun b2 => (Fspec_l1In k (Int.tmod (b2.toNat : Int) (128 : Int)) (1 : Int) (100 : Int)).bind fun r4 => cond (!r4) (some ((⟨a0.s, a0.out, (IntKind.i64.wrap (a0.begun + (1 : Int))), (2 : Int)⟩ : Tspec_l14R), a1)) (cond (decide (a3 ≥ (8 : Int))) (some ((⟨a0.s, a0.out, (IntKind.i64.wrap (a0.begun + (1 : Int))), (3 : Int)⟩ : Tspec_l14R), a1)) ((cut? a0.s (IntKind.i64.wrap (a1 + (1 : Int))) a2).bind fun b5 => (Fspec_ReadVar k b5).bind fun r6 => cond (r6.2 == (0 : Int)) (Fspec_l14Node.j2 (Fspec_l14Node k) k a1 a3 (decide ((b1.toNat : Int) < (128 : Int))) (Int.tmod (b2.toNat : Int) (128 : Int)) r6.1 (IntKind.i64.wrap ((IntKind.i64.wrap (a1 + (1 : Int))) + r6.2)) true a0 (IntKind.i64.wrap (a0.begun + (1 : Int)))) (Fspec_l14Node.j2 (Fspec_l14Node k) k a1 a3 (decide ((b1.toNat : Int) < (128 : Int))) (Int.tmod (b2.toNat : Int) (128 : Int)) r6.1 (IntKind.i64.wrap ((IntKind.i64.wrap (a1 + (1 : Int))) + r6.2)) (decide (r6.1 > (IntKind.i64.wrap (a2 - (IntKind.i64.wrap ((IntKind.i64.wrap (a1 + (1 : Int))) + r6.2)))))) a0 (IntKind.i64.wrap (a0.begun + (1 : Int))))))))
theorem ent51 : MG.Enters Try.prog 51 := ⟨Try.f51, Try.func51, rfl, by decide⟩
set_option maxHeartbeats 8000000 in
set_option maxRecDepth 100000 in
theorem Fspec_l14Node_gives : ∀ (k : Nat) (a0 : Tspec_l14R) (a1 : Int) (a2 : Int) (a3 : Int) (r : Tspec_l14R × Int) (H : Fspec_l14Node k a0 a1 a2 a3 = some r), Gives Try.prog 51 [V.agg [cS a0.s, Cell.ow 4 (List.map eTimpl_Tlv a0.out), cI a0.begun, cI a0.code], V.one (cI a1), V.one (cI a2), V.one (cI a3)] [] [V.agg [cS r.1.s, Cell.ow 4 (List.map eTimpl_Tlv r.1.out), cI r.1.begun, cI r.1.code], V.one (cI r.2)] [] := by
 intro k
 induction k with
 | zero => intros; rename_i H; cases H
 | succ k ih =>
  intro a0 a1 a2 a3 r H
  refine Gives.intro Try.func51 rfl rfl rfl rfl ?_
  intro F hF hm
  rw [Fspec_l14Node] at H
  obtain ⟨K, hK⟩ : ∃ K, k ≤ K := ⟨k, Nat.le_refl k⟩
  refine WpC.seq (WpC.regionL ?_)
  refine L.box 7 hF rfl rfl rfl rfl ?_
  refine L.alloc 8 info82 rfl hF rfl rfl rfl rfl ?_
  refine L.assign hF rfl rfl rfl (L.nil ?_)
  refine WpC.seq (WpC.seq (WpC.regionL ?_))
  refine L.fieldAddr Try.underlying82 rfl info3 rfl hF rfl rfl rfl rfl rfl ?_
  refine L.loadPtr shape3 hF rfl rfl rfl rfl rfl rfl ?_
  refine L.bin hF rfl rfl rfl rfl rfl rfl (L.nil ?_)
  refine WpC.cond rfl (fun hc => ?_) (fun hc => ?_)
  ·replace H := condT hc H
   refine WpC.seq (WpC.regionL ?_)
   refine L.fieldAddr Try.underlying82 rfl info3 rfl hF rfl rfl rfl rfl rfl ?_
   refine L.storePtr shape3 hF rfl rfl rfl rfl rfl rfl rfl (L.nil ?_)
   refine WpC.seq (WpC.regionL ?_)
   refine L.loadPtr shape82 hF rfl rfl rfl rfl rfl rfl ?_
   refine L.move hF rfl rfl rfl ?_
   refine L.storePtr shape82 hF rfl rfl rfl rfl rfl rfl rfl ?_
   refine L.assign hF rfl rfl rfl (L.nil ?_)
   refine WpC.ret ?_
   cases H
   exact Leaves.ret rfl rfl rfl ⟨rfl, rfl⟩
  ·replace H := condF hc H
   refine WpC.skip (WpC.seq (WpC.regionL ?_))
   refine L.fieldAddr Try.underlying82 rfl info3 rfl hF rfl rfl rfl rfl rfl ?_
   refine L.loadPtr shape3 hF rfl rfl rfl rfl rfl rfl ?_
   refine L.bin hF rfl rfl rfl rfl rfl rfl ?_
   refine L.fieldAddr Try.underlying82 rfl info3 rfl hF rfl rfl rfl rfl rfl ?_
   refine L.storePtr shape3 hF rfl rfl rfl rfl rfl rfl rfl (L.nil ?_)
   refine WpC.seq (WpC.seq (WpC.regionL ?_))
   refine L.move hF rfl rfl rfl ?_
   refine L.move hF rfl rfl rfl ?_
   refine L.bin hF rfl rfl rfl rfl rfl rfl (L.nil ?_)
   refine WpC.cond rfl (fun hc => ?_) (fun hc => ?_)
   ·replace H := condT hc H
    refine WpC.seq (WpC.regionL ?_)
    refine L.fieldAddr Try.underlying82 rfl info3 rfl hF rfl rfl rfl rfl rfl ?_
    refine L.storePtr shape3 hF rfl rfl rfl rfl rfl rfl rfl (L.nil ?_)
    refine WpC.seq (WpC.regionL ?_)
    refine L.loadPtr shape82 hF rfl rfl rfl rfl rfl rfl ?_
    refine L.move hF rfl rfl rfl ?_
    refine L.storePtr shape82 hF rfl rfl rfl rfl rfl rfl rfl ?_
    refine L.assign hF rfl rfl rfl (L.nil ?_)
    refine WpC.ret ?_
    cases H
    exact Leaves.ret rfl rfl rfl ⟨rfl, rfl⟩
   ·replace H := condF hc H
    refine WpC.skip (WpC.seq (WpC.regionL ?_))
    refine L.fieldAddr Try.underlying82 rfl info9 rfl hF rfl rfl rfl rfl rfl ?_
    refine L.loadPtr shape9 hF rfl rfl rfl rfl rfl rfl ?_
    refine L.move hF rfl rfl rfl ?_
    obtain ⟨b1, hb1, H⟩ := bindS H
    refine L.idxS Try.underlying9 hF rfl rfl rfl rfl hb1 ?_
    refine L.ofB Try.underlying5 Try.underlying3 hF rfl rfl rfl ?_
    refine L.bin hF rfl rfl rfl rfl rfl rfl ?_
    refine L.assign hF rfl rfl rfl (L.nil ?_)
    refine WpC.seq (WpC.regionL ?_)
    refine L.fieldAddr Try.underlying82 rfl info9 rfl hF rfl rfl rfl rfl rfl ?_
    refine L.loadPtr shape9 hF rfl rfl rfl rfl rfl rfl ?_
    refine L.move hF rfl rfl rfl ?_
    obtain ⟨b2, hb2, H⟩ := bindS H
    refine L.idxS Try.underlying9 hF rfl rfl rfl rfl hb2 ?_
    refine L.ofB Try.underlying5 Try.underlying3 hF rfl rfl rfl ?_
    refine L.rem hF rfl rfl rfl rfl (by decide) ?_
    refine L.assign hF rfl rfl rfl (L.nil ?_)
    refine WpC.seq (WpC.seq (WpC.regionL ?_))
    refine L.move hF rfl rfl rfl ?_
    obtain ⟨r4, hr4, H⟩ := bindS H
    refine L.call [false, false, false] [] [] 9 hF rfl rfl rfl ent121 rfl rfl rfl rfl rfl (Fspec_l1In_gives k  (Int.tmod (b2.toNat : Int) (128 : Int)) (1 : Int) (100 : Int) r4 hr4) rfl ?_
    refine L.not hF rfl rfl rfl (L.nil ?_)
    refine WpC.cond rfl (fun hc => ?_) (fun hc => ?_)
    ·replace H := condT hc H
     refine WpC.seq (WpC.regionL ?_)
     refine L.fieldAddr Try.underlying82 rfl info3 rfl hF rfl rfl rfl rfl rfl ?_
     refine L.storePtr shape3 hF rfl rfl rfl rfl rfl rfl rfl (L.nil ?_)
     refine WpC.seq (WpC.regionL ?_)
     refine L.loadPtr shape82 hF rfl rfl rfl rfl rfl rfl ?_
     refine L.move hF rfl rfl rfl ?_
     refine L.storePtr shape82 hF rfl rfl rfl rfl rfl rfl rfl ?_
     refine L.assign hF rfl rfl rfl (L.nil ?_)
     refine WpC.ret ?_
     cases H
     exact Leaves.ret rfl rfl rfl ⟨rfl, rfl⟩
    ·replace H := condF hc H
     refine WpC.skip (WpC.seq (WpC.seq (WpC.regionL ?_)))
     refine L.move hF rfl rfl rfl ?_
     refine L.bin hF rfl rfl rfl rfl rfl rfl (L.nil ?_)
     refine WpC.cond rfl (fun hc => ?_) (fun hc => ?_)
     ·replace H := condT hc H
      refine WpC.seq (WpC.regionL ?_)
      refine L.fieldAddr Try.underlying82 rfl info3 rfl hF rfl rfl rfl rfl rfl ?_
      refine L.storePtr shape3 hF rfl rfl rfl rfl rfl rfl rfl (L.nil ?_)
      refine WpC.seq (WpC.regionL ?_)
      refine L.loadPtr shape82 hF rfl rfl rfl rfl rfl rfl ?_
      refine L.move hF rfl rfl rfl ?_
      refine L.storePtr shape82 hF rfl rfl rfl rfl rfl rfl rfl ?_
      refine L.assign hF rfl rfl rfl (L.nil ?_)
      refine WpC.ret ?_
      cases H
      exact Leaves.ret rfl rfl rfl ⟨rfl, rfl⟩
     ·replace H := condF hc H
      refine WpC.skip (WpC.seq (WpC.regionL ?_))
      refine L.fieldAddr Try.underlying82 rfl info9 rfl hF rfl rfl rfl rfl rfl ?_
      refine L.loadPtr shape9 hF rfl rfl rfl rfl rfl rfl ?_
      refine L.move hF rfl rfl rfl ?_
      refine L.bin hF rfl rfl rfl rfl rfl rfl ?_
      refine L.move hF rfl rfl rfl ?_
      obtain ⟨b5, hb5, H⟩ := bindS H
      refine L.cutS Try.underlying9 hF rfl rfl rfl rfl rfl hb5 ?_
      obtain ⟨r6, hr6, H⟩ := bindS H
      refine L.call [false] [] [] 10 hF rfl rfl rfl ent122 rfl rfl rfl rfl rfl (Fspec_ReadVar_gives k  b5 r6 hr6) rfl ?_
      refine L.move hF rfl rfl rfl ?_
      refine L.extract hF rfl rfl rfl rfl ?_
      refine L.extract hF rfl rfl rfl rfl ?_
      refine L.assign hF rfl rfl rfl ?_
      refine L.assign hF rfl rfl rfl (L.nil ?_)
      refine WpC.seq (WpC.regionL ?_)
      refine L.move hF rfl rfl rfl ?_
      refine L.bin hF rfl rfl rfl rfl rfl rfl ?_
      refine L.move hF rfl rfl rfl ?_
      refine L.bin hF rfl rfl rfl rfl rfl rfl ?_
      refine L.assign hF rfl rfl rfl (L.nil ?_)
      refine WpC.seq ?_
      refine WpC.join (fun σ => ∃ kj2 : Nat, ∃ v16 : Int, ∃ v17 : Int, ∃ v18 : Bool, ∃ v19 : Int, ∃ v20 : Int, ∃ v21 : Int, ∃ v22 : Bool, ∃ v23 : Tspec_l14R, ∃ v24 : Int, kj2 ≤ K ∧ Fspec_l14Node.j2 (Fspec_l14Node k) kj2 v16 v17 v18 v19 v20 v21 v22 v23 v24 = some r ∧ σ = mkSt [(1, one (cI v16)), (3, one (cI v17)), (4, one (Cell.ptr 0 0)), (8, one (Cell.ptr 1 0)), (10, one (cL v18)), (11, one (cI v19)), (12, one (cI v20)), (14, one (cI v21)), (80, one (cL v22))] [(2, ⟨4, List.map eTimpl_Tlv v23.out⟩)] [(0, [cS v23.s, Cell.own 2, cI v24, cI v23.code]), (1, [cS ([] : List UInt8), Cell.nil, cI (0 : Int), cI (0 : Int)])] 3) ?_ ?_
      ·rintro _ ⟨kj2, v16, v17, v18, v19, v20, v21, v22, v23, v24, hkj2, H, rfl⟩
       unfold Fspec_l14Node.j2 at H
       refine WpC.cond rfl (fun hc => ?_) (fun hc => ?_)
       ·replace H := condT hc H
        refine WpC.seq (WpC.regionL ?_)
        refine L.fieldAddr Try.underlying82 rfl info3 rfl hF rfl rfl rfl rfl rfl ?_
        refine L.storePtr shape3 hF rfl rfl rfl rfl rfl rfl rfl (L.nil ?_)
        refine WpC.seq (WpC.regionL ?_)
        refine L.loadPtr shape82 hF rfl rfl rfl rfl rfl rfl ?_
        refine L.move hF rfl rfl rfl ?_
        refine L.storePtr shape82 hF rfl rfl rfl rfl rfl rfl rfl ?_
        refine L.assign hF rfl rfl rfl (L.nil ?_)
        refine WpC.ret ?_
        cases H
        exact Leaves.ret rfl rfl rfl ⟨rfl, rfl⟩
       ·replace H := condF hc H
        refine WpC.skip (WpC.seq (WpC.regionL ?_))
        refine L.move hF rfl rfl rfl ?_
        refine L.move hF rfl rfl rfl ?_
        refine L.bin hF rfl rfl rfl rfl rfl rfl ?_
        refine L.assign hF rfl rfl rfl (L.nil ?_)
        refine WpC.seq (WpC.regionL ?_)
        refine L.move hF rfl rfl rfl ?_
        refine L.move hF rfl rfl rfl ?_
        refine L.buildF built45 hF rfl rfl rfl rfl ?_
        refine L.alloc 3 info45 rfl hF rfl rfl rfl rfl ?_
        refine L.storePtr shape45 hF rfl rfl rfl rfl rfl rfl rfl (L.nil ?_)
        refine WpC.seq (WpC.seq (WpC.regionL ?_))
        refine L.move hF rfl rfl rfl (L.nil ?_)
        refine WpC.cond rfl (fun hc => ?_) (fun hc => ?_)
        ·replace H := condT hc H
         refine WpC.seq (WpC.regionL ?_)
         refine L.fieldAddr Try.underlying82 rfl info9 rfl hF rfl rfl rfl rfl rfl ?_
         refine L.loadPtr shape9 hF rfl rfl rfl rfl rfl rfl ?_
         refine L.move hF rfl rfl rfl ?_
         refine L.move hF rfl rfl rfl ?_
         obtain ⟨b27, hb27, H⟩ := bindS H
         refine L.cutS Try.underlying9 hF rfl rfl rfl rfl rfl hb27 ?_
         refine L.fieldAddr Try.underlying45 rfl info9 rfl hF rfl rfl rfl rfl rfl ?_
         refine L.storePtr shape9 hF rfl rfl rfl rfl rfl rfl rfl (L.nil ?_)
         refine WpC.seq (WpC.regionL ?_)
         refine L.fieldAddr Try.underlying82 rfl info22 rfl hF rfl rfl rfl rfl rfl ?_
         refine L.loadPtr shape22 hF rfl rfl rfl rfl rfl rfl ?_
         refine L.loadPtr shape45 hF rfl rfl rfl rfl rfl rfl ?_
         refine L.buildSliceN (e := eTimpl_Tlv) 1 4 ([(⟨v19, v18, b27, []⟩ : Timpl_Tlv)] : List Timpl_Tlv) Try.underlying22 info45 rfl rfl rfl hF rfl rfl rfl rfl rfl rfl rfl rfl ?_
         obtain ⟨h28, H⟩ := condG H
         refine L.appendN (xs := v23.out) (ys := ([(⟨v19, v18, b27, []⟩ : Timpl_Tlv)] : List Timpl_Tlv)) (e := eTimpl_Tlv) 5 Try.underlying22 info45 rfl rfl hF rfl rfl rfl rfl rfl rfl rfl rfl rfl (fun _ _ h1 h2 => by cases h1; cases h2; rfl) Try.underlying22 (of_decide_eq_true h28) rfl rfl ?_
         refine L.fieldAddr Try.underlying82 rfl info22 rfl hF rfl rfl rfl rfl rfl ?_
         refine L.storePtr shape22 hF rfl rfl rfl rfl rfl rfl rfl (L.nil ?_)
         refine WpC.seq (WpC.regionL ?_)
         refine L.loadPtr shape82 hF rfl rfl rfl rfl rfl rfl ?_
         refine L.move hF rfl rfl rfl ?_
         refine L.storePtr shape82 hF rfl rfl rfl rfl rfl rfl rfl ?_
         refine L.assign hF rfl rfl rfl (L.nil ?_)
         refine WpC.ret ?_
         cases H
         exact Leaves.ret rfl rfl rfl ⟨rfl, rfl⟩
        ·replace H := condF hc H
         refine WpC.skip (WpC.seq (WpC.block ?_))
         refine WpC.loopL (P := Try.prog) (fun n σ => ∃ v88 : Int, ∃ v89 : Int, ∃ v90 : Int, ∃ v91 : Int, ∃ v92 : List UInt8, ∃ v93 : List Timpl_Tlv, ∃ v94 : Int, ∃ v95 : Int, ∃ v96 : Int, ∃ v97 : Bool, ∃ v98 : List Int, n ≤ K ∧ Fspec_l14Node.l4 (Fspec_l14Node k) n v88 v89 v90 v91 v92 v93 v94 v95 v96 v97 v98 = some r ∧ σ = mkSt [(1, one (cI v88)), (3, one (cI v89)), (4, one (Cell.ptr 0 0)), (8, one (Cell.ptr 1 0)), (14, one (cI v90)), (15, one (cI v91)), (16, one (Cell.ptr 2 0))] [(3, ⟨4, List.map eTimpl_Tlv v93⟩), (4, ⟨1, List.map eI v98⟩)] [(0, [cS v92, Cell.own 3, cI v94, cI v95]), (1, [cS ([] : List UInt8), Cell.nil, cI (0 : Int), cI (0 : Int)]), (2, [cI v96, cL v97, cS ([] : List UInt8), Cell.own 4])] 5) kj2 ⟨_, ⟨v16, v17, v21, (IntKind.i64.wrap (v21 + v20)), v23.s, v23.out, v24, v23.code, v19, v18, [], by omega, H, rfl⟩, (Le.ownB 3 3 4 1 rfl rfl rfl).trans (Le.mk [(0, 0), (1, 1), (2, 3), (3, 2), (4, 4)] hm rfl (Sa4 (Sa2 (Sa1 trivial))) (Ra2 trivial) (Ba2 (Ba1 trivial)))⟩ ?_
         clear H
         rintro k4 _ ⟨v88, v89, v90, v91, v92, v93, v94, v95, v96, v97, v98, hk4, H, rfl⟩
         cases k4 with
         | zero => cases H
         | succ k4 =>
          rw [Fspec_l14Node.l4] at H
          refine WpC.seq (WpC.seq (WpC.regionL ?_))
          refine L.move hF rfl rfl rfl ?_
          refine L.move hF rfl rfl rfl ?_
          refine L.bin hF rfl rfl rfl rfl rfl rfl (L.nil ?_)
          refine WpC.cond rfl (fun hc => ?_) (fun hc => ?_)
          ·replace H := condT hc H
           refine WpC.skip (WpC.block (WpC.seq (WpC.regionL ?_)))
           refine L.loadPtr shape82 hF rfl rfl rfl rfl rfl rfl ?_
           refine L.move hF rfl rfl rfl ?_
           refine L.move hF rfl rfl rfl ?_
           refine L.move hF rfl rfl rfl ?_
           refine L.bin hF rfl rfl rfl rfl rfl rfl ?_
           obtain ⟨r99, hr99, H⟩ := bindS H
           refine L.call [true, false, false, false] [] [] 5 hF rfl rfl rfl ent51 rfl rfl rfl rfl rfl (ih  (⟨v92, v93, v94, v95⟩ : Tspec_l14R) v90 v91 (IntKind.i64.wrap (v89 + (1 : Int))) r99 hr99) rfl ?_
           refine L.move hF rfl rfl rfl ?_
           refine L.extract hF rfl rfl rfl rfl ?_
           refine L.extract hF rfl rfl rfl rfl ?_
           refine L.alloc 10 info82 rfl hF rfl rfl rfl rfl ?_
           refine L.storePtr shape82 hF rfl rfl rfl rfl rfl rfl rfl ?_
           refine L.assign hF rfl rfl rfl (L.nil ?_)
           refine WpC.seq (WpC.regionL ?_)
           refine L.loadPtr shape82 hF rfl rfl rfl rfl rfl rfl ?_
           refine L.storePtr shape82 hF rfl rfl rfl rfl rfl rfl rfl (L.nil ?_)
           refine WpC.seq (WpC.seq (WpC.regionL ?_))
           refine L.fieldAddr Try.underlying82 rfl info3 rfl hF rfl rfl rfl rfl rfl ?_
           refine L.loadPtr shape3 hF rfl rfl rfl rfl rfl rfl ?_
           refine L.bin hF rfl rfl rfl rfl rfl rfl (L.nil ?_)
           refine WpC.cond rfl (fun hc => ?_) (fun hc => ?_)
           ·replace H := condT hc H
            refine WpC.seq (WpC.regionL ?_)
            refine L.loadPtr shape82 hF rfl rfl rfl rfl rfl rfl ?_
            refine L.move hF rfl rfl rfl ?_
            refine L.storePtr shape82 hF rfl rfl rfl rfl rfl rfl rfl ?_
            refine L.assign hF rfl rfl rfl (L.nil ?_)
            refine WpC.ret ?_
            cases H
            exact Leaves.ret rfl rfl rfl ⟨rfl, rfl⟩
           ·replace H := condF hc H
            refine WpC.skip (WpC.seq (WpC.regionL ?_))
            refine L.fieldAddr Try.underlying45 rfl info39 rfl hF rfl rfl rfl rfl rfl ?_
            refine L.loadPtr shape39 hF rfl rfl rfl rfl rfl rfl ?_
            refine L.fieldAddr Try.underlying82 rfl info22 rfl hF rfl rfl rfl rfl rfl ?_
            refine L.loadPtr shape22 hF rfl rfl rfl rfl rfl rfl ?_
            refine L.lenR (xs := r99.1.out) (e := eTimpl_Tlv) Try.underlying22 hF rfl rfl rfl rfl ?_
            refine L.bin hF rfl rfl rfl rfl rfl rfl ?_
            refine L.buildSlice (e := eI) 11 ([(IntKind.i64.wrap ((r99.1.out.length : Int) - (1 : Int)))] : List Int) Try.underlying39 info3 rfl rfl rfl hF rfl rfl rfl rfl rfl rfl rfl rfl ?_
            obtain ⟨h100, H⟩ := condG H
            refine L.append (xs := v98) (ys := ([(IntKind.i64.wrap ((r99.1.out.length : Int) - (1 : Int)))] : List Int)) (e := eI) 12 Try.underlying39 info3 rfl rfl hF rfl rfl rfl rfl rfl rfl rfl rfl (fun _ => rfl) (fun _ _ h1 h2 => by cases h1; cases h2; rfl) ⟨_, Try.underlying39⟩ (of_decide_eq_true h100) rfl rfl ?_
            refine L.fieldAddr Try.underlying45 rfl info39 rfl hF rfl rfl rfl rfl rfl ?_
            refine L.storePtr shape39 hF rfl rfl rfl rfl rfl rfl rfl (L.nil ?_)
            refine WpC.regionL ?_
            refine L.move hF rfl rfl rfl ?_
            refine L.assign hF rfl rfl rfl (L.nil ?_)
            exact ⟨k4, _, by omega, ⟨v88, v89, r99.2, v91, r99.1.s, r99.1.out, r99.1.begun, r99.1.code, v96, v97, (v98 ++ ([(IntKind.i64.wrap ((r99.1.out.length : Int) - (1 : Int)))] : List Int)), by omega, H, rfl⟩, Le.mk [(0, 0), (1, 1), (2, 2), (3, 6), (4, 12)] hm rfl (Sa4 (Sa2 (Sa1 trivial))) (Ra2 trivial) (Ba2 (Ba1 trivial))⟩
          ·replace H := condF hc H
           refine WpC.exit (WpC.seq (WpC.regionL ?_))
           refine L.fieldAddr Try.underlying82 rfl info22 rfl hF rfl rfl rfl rfl rfl ?_
           refine L.loadPtr shape22 hF rfl rfl rfl rfl rfl rfl ?_
           refine L.loadPtr shape45 hF rfl rfl rfl rfl rfl rfl ?_
           refine L.buildSliceN (e := eTimpl_Tlv) 1 5 ([(⟨v96, v97, ([] : List UInt8), v98⟩ : Timpl_Tlv)] : List Timpl_Tlv) Try.underlying22 info45 rfl rfl rfl hF rfl rfl rfl rfl rfl rfl rfl rfl ?_
           obtain ⟨h101, H⟩ := condG H
           refine L.appendN (xs := v93) (ys := ([(⟨v96, v97, ([] : List UInt8), v98⟩ : Timpl_Tlv)] : List Timpl_Tlv)) (e := eTimpl_Tlv) 6 Try.underlying22 info45 rfl rfl hF rfl rfl rfl rfl rfl rfl rfl rfl rfl (fun _ _ h1 h2 => by cases h1; cases h2; rfl) Try.underlying22 (of_decide_eq_true h101) rfl rfl ?_
           refine L.fieldAddr Try.underlying82 rfl info22 rfl hF rfl rfl rfl rfl rfl ?_
           refine L.storePtr shape22 hF rfl rfl rfl rfl rfl rfl rfl (L.nil ?_)
           refine WpC.seq (WpC.regionL ?_)
           refine L.loadPtr shape82 hF rfl rfl rfl rfl rfl rfl ?_
           refine L.move hF rfl rfl rfl ?_
           refine L.storePtr shape82 hF rfl rfl rfl rfl rfl rfl rfl ?_
           refine L.assign hF rfl rfl rfl (L.nil ?_)
           refine WpC.ret ?_
           cases H
           exact Leaves.ret rfl rfl rfl ⟨rfl, rfl⟩
      ·refine WpC.regionL ?_
       refine L.move hF rfl rfl rfl ?_
       refine L.bin hF rfl rfl rfl rfl rfl rfl ?_
       refine L.move hF rfl rfl rfl ?_
       refine L.split (fun hc => ?_) (fun hc => ?_)
       ·replace H := condT hc H
        refine L.off hF rfl rfl ?_
        refine L.off hF rfl rfl ?_
        refine L.off hF rfl rfl ?_
        refine L.off hF rfl rfl ?_
        refine L.off hF rfl rfl ?_
        refine L.pick hF rfl rfl rfl rfl (L.nil ?_)
        exact ⟨_, ⟨k, a1, a3, (decide ((b1.toNat : Int) < (128 : Int))), (Int.tmod (b2.toNat : Int) (128 : Int)), r6.1, (IntKind.i64.wrap ((IntKind.i64.wrap (a1 + (1 : Int))) + r6.2)), true, a0, (IntKind.i64.wrap (a0.begun + (1 : Int))), by omega, H, rfl⟩, Le.mk [(0, 7), (1, 8), (2, 1)] hm rfl (Sa8 (Sa1 trivial)) (Ra1 trivial) (Ba2 trivial)⟩
       ·replace H := condF hc H
        refine L.move hF rfl rfl rfl ?_
        refine L.move hF rfl rfl rfl ?_
        refine L.move hF rfl rfl rfl ?_
        refine L.bin hF rfl rfl rfl rfl rfl rfl ?_
        refine L.bin hF rfl rfl rfl rfl rfl rfl ?_
        refine L.pick hF rfl rfl rfl rfl (L.nil ?_)
        exact ⟨_, ⟨k, a1, a3, (decide ((b1.toNat : Int) < (128 : Int))), (Int.tmod (b2.toNat : Int) (128 : Int)), r6.1, (IntKind.i64.wrap ((IntKind.i64.wrap (a1 + (1 : Int))) + r6.2)), (decide (r6.1 > (IntKind.i64.wrap (a2 - (IntKind.i64.wrap ((IntKind.i64.wrap (a1 + (1 : Int))) + r6.2)))))), a0, (IntKind.i64.wrap (a0.begun + (1 : Int))), by omega, H, rfl⟩, Le.mk [(0, 7), (1, 8), (2, 1)] hm rfl (Sa8 (Sa1 trivial)) (Ra1 trivial) (Ba2 trivial)⟩
/-! ### Fspec_ReadTlv -/
def Fspec_ReadTlv (k : Nat) (a0 : List UInt8) : Option (List Timpl_Tlv × Int) := cond (decide ((a0.length : Int) > (900 : Int))) (some (([] : List Timpl_Tlv), (4 : Int))) ((Fspec_l14Node k (⟨a0, [], (0 : Int), (0 : Int)⟩ : Tspec_l14R) (0 : Int) (a0.length : Int) (0 : Int)).bind fun r1 => cond (r1.1.code != (0 : Int)) (some (([] : List Timpl_Tlv), r1.1.code)) (cond (r1.2 != (a0.length : Int)) (some (([] : List Timpl_Tlv), (5 : Int))) (some (r1.1.out, (0 : Int)))))
theorem ent11 : MG.Enters Try.prog 11 := ⟨Try.f11, Try.func11, rfl, by decide⟩
set_option maxHeartbeats 8000000 in
set_option maxRecDepth 100000 in
theorem Fspec_ReadTlv_gives (k : Nat) (a0 : List UInt8) (r : List Timpl_Tlv × Int) (H : Fspec_ReadTlv k a0 = some r) : Gives Try.prog 11 [V.one (cS a0)] [] [V.one (Cell.ow 4 (List.map eTimpl_Tlv r.1)), V.one (cI r.2)] [] := by
 refine Gives.intro Try.func11 rfl rfl rfl rfl ?_
 intro F hF hm
 unfold Fspec_ReadTlv at H
 obtain ⟨K, hK⟩ : ∃ K, k ≤ K := ⟨k, Nat.le_refl k⟩
 refine WpC.seq (WpC.regionL ?_)
 refine L.assign hF rfl rfl rfl ?_
 refine L.assign hF rfl rfl rfl (L.nil ?_)
 refine WpC.seq (WpC.seq (WpC.regionL ?_))
 refine L.move hF rfl rfl rfl ?_
 refine L.lenS Try.underlying9 hF rfl rfl rfl ?_
 refine L.bin hF rfl rfl rfl rfl rfl rfl (L.nil ?_)
 refine WpC.cond rfl (fun hc => ?_) (fun hc => ?_)
 ·replace H := condT hc H
  refine WpC.seq (WpC.regionL ?_)
  refine L.buildSliceN (e := eTimpl_Tlv) 1 1 ([] : List Timpl_Tlv) Try.underlying22 info45 rfl rfl rfl hF rfl rfl rfl rfl rfl rfl rfl rfl ?_
  refine L.assign hF rfl rfl rfl ?_
  refine L.assign hF rfl rfl rfl (L.nil ?_)
  refine WpC.ret ?_
  cases H
  exact Leaves.ret rfl rfl rfl ⟨rfl, rfl⟩
 ·replace H := condF hc H
  refine WpC.skip (WpC.seq (WpC.regionL ?_))
  refine L.move hF rfl rfl rfl ?_
  refine L.buildF built82 hF rfl rfl rfl rfl ?_
  refine L.move hF rfl rfl rfl ?_
  refine L.lenS Try.underlying9 hF rfl rfl rfl ?_
  refine L.le (Le.own 12 1 1 4 rfl rfl rfl) ?_
  obtain ⟨r1, hr1, H⟩ := bindS H
  refine L.call [true, false, false, false] [] [] 2 hF rfl rfl rfl ent51 rfl rfl rfl rfl rfl (Fspec_l14Node_gives k  (⟨a0, [], (0 : Int), (0 : Int)⟩ : Tspec_l14R) (0 : Int) (a0.length : Int) (0 : Int) r1 hr1) rfl ?_
  refine L.move hF rfl rfl rfl ?_
  refine L.extract hF rfl rfl rfl rfl ?_
  refine L.extract hF rfl rfl rfl rfl ?_
  refine L.alloc 7 info82 rfl hF rfl rfl rfl rfl ?_
  refine L.storePtr shape82 hF rfl rfl rfl rfl rfl rfl rfl ?_
  refine L.assign hF rfl rfl rfl (L.nil ?_)
  refine WpC.seq (WpC.seq (WpC.regionL ?_))
  refine L.fieldAddr Try.underlying82 rfl info3 rfl hF rfl rfl rfl rfl rfl ?_
  refine L.loadPtr shape3 hF rfl rfl rfl rfl rfl rfl ?_
  refine L.bin hF rfl rfl rfl rfl rfl rfl (L.nil ?_)
  refine WpC.cond rfl (fun hc => ?_) (fun hc => ?_)
  ·replace H := condT hc H
   refine WpC.seq ?_
   refine A.begin mixed rfl rfl ?_
   intro W hI hO
   have n15 : W 1 #[true, true, true, true, false] (mkSt [(2, one (Cell.own 0)), (3, one (cI (0 : Int))), (23, one (cI r1.1.code))] [(0, ⟨4, List.map eTimpl_Tlv ([] : List Timpl_Tlv)⟩)] [] 1) := by
    refine hI _ _ _ ?_
    refine Atk 4 rfl (Ca.assign) (fun Q0 k0 => L.assign hF rfl rfl rfl (L.nil k0)) ?_
    refine A.le (τ := mkSt [(2, one (Cell.own 0)), (3, one (cI r1.1.code))] [(0, ⟨4, List.map eTimpl_Tlv ([] : List Timpl_Tlv)⟩)] [] 1) (Le.mk [(0, 0)] hm rfl (Sa2 trivial) (Ra1 trivial) trivial) ?_
    refine A.done (by kernel_rfl) ?_
    refine WpC.ret ?_
    cases H
    exact Leaves.ret rfl rfl rfl ⟨rfl, rfl⟩
   refine hI _ _ _ ?_
   refine Atk 1 rfl (Ca.fieldAddr Try.underlying82 rfl info3 rfl) (fun Q0 k0 => L.fieldAddr Try.underlying82 rfl info3 rfl hF rfl rfl rfl rfl rfl (L.nil k0)) ?_
   refine A.all [0, 2] (by kernel_rfl) rfl ⟨⟨_, rfl, ?_⟩, ⟨_, rfl, ?_⟩, trivial⟩
   ·refine L.buildSliceN (e := eTimpl_Tlv) 1 8 ([] : List Timpl_Tlv) Try.underlying22 info45 rfl rfl rfl hF rfl rfl rfl rfl rfl rfl rfl rfl (L.nil ?_)
    refine Atk 3 rfl (Ca.assign) (fun Q0 k0 => L.assign hF rfl rfl rfl (L.nil k0)) ?_
    refine A.all [2] (by kernel_rfl) rfl ⟨⟨_, rfl, ?_⟩, trivial⟩
    refine L.loadPtr shape3 hF rfl rfl rfl rfl rfl rfl (L.nil ?_)
    exact A.on (hO _ _ _ n15) (Le.mk [(0, 8)] hm rfl (Sa2 (Sa1 trivial)) (Ra1 trivial) trivial)
   ·refine L.loadPtr shape3 hF rfl rfl rfl rfl rfl rfl (L.nil ?_)
    refine A.all [0] (by kernel_rfl) rfl ⟨⟨_, rfl, ?_⟩, trivial⟩
    refine L.buildSliceN (e := eTimpl_Tlv) 1 8 ([] : List Timpl_Tlv) Try.underlying22 info45 rfl rfl rfl hF rfl rfl rfl rfl rfl rfl rfl rfl (L.nil ?_)
    refine Atk 3 rfl (Ca.assign) (fun Q0 k0 => L.assign hF rfl rfl rfl (L.nil k0)) ?_
    exact A.on (hO _ _ _ n15) (Le.mk [(0, 8)] hm rfl (Sa2 (Sa1 trivial)) (Ra1 trivial) trivial)
  ·replace H := condF hc H
   refine WpC.skip (WpC.seq (WpC.seq (WpC.regionL ?_)))
   refine L.move hF rfl rfl rfl ?_
   refine L.move hF rfl rfl rfl ?_
   refine L.lenS Try.underlying9 hF rfl rfl rfl ?_
   refine L.bin hF rfl rfl rfl rfl rfl rfl (L.nil ?_)
   refine WpC.cond rfl (fun hc => ?_) (fun hc => ?_)
   ·replace H := condT hc H
    refine WpC.seq (WpC.regionL ?_)
    refine L.buildSliceN (e := eTimpl_Tlv) 1 8 ([] : List Timpl_Tlv) Try.underlying22 info45 rfl rfl rfl hF rfl rfl rfl rfl rfl rfl rfl rfl ?_
    refine L.assign hF rfl rfl rfl ?_
    refine L.assign hF rfl rfl rfl (L.nil ?_)
    refine WpC.ret ?_
    cases H
    exact Leaves.ret rfl rfl rfl ⟨rfl, rfl⟩
   ·replace H := condF hc H
    refine WpC.skip (WpC.seq (WpC.regionL ?_))
    refine L.fieldAddr Try.underlying82 rfl info22 rfl hF rfl rfl rfl rfl rfl ?_
    refine L.loadPtr shape22 hF rfl rfl rfl rfl rfl rfl ?_
    refine L.assign hF rfl rfl rfl ?_
    refine L.assign hF rfl rfl rfl (L.nil ?_)
    refine WpC.ret ?_
    cases H
    exact Leaves.ret rfl rfl rfl ⟨rfl, rfl⟩
/-! ### Fspec_l14Same -/
def Fspec_l14Same.l14 (cl12 : (List Timpl_Tlv) → (List Timpl_Tlv) → Int → Option Bool) : Nat → (List Timpl_Tlv) → (List Timpl_Tlv) → Int → Int → Timpl_Tlv → Timpl_Tlv → Option Bool
 | 0, _, _, _, _, _, _ => none
 | k14 + 1, v367, v368, v369, v370, v371, v372 => cond (decide (v370 < (v371.Kids.length : Int))) ((at? v371.Kids v370).bind fun b375 => (at? v372.Kids v370).bind fun b376 => cond (b375 != b376) (some false) ((Fspec_l14Same.l14 cl12 k14) v367 v368 v369 (IntKind.i64.wrap (v370 + (1 : Int))) v371 v372)) (cl12 v367 v368 (IntKind.i64.wrap (v369 + (1 : Int))))
def Fspec_l14Same.l12 : Nat → (List Timpl_Tlv) → (List Timpl_Tlv) → Int → Option Bool
 | 0, _, _, _ => none
 | k12 + 1, v312, v313, v314 => cond (decide (v314 < (v312.length : Int))) ((at? v312 v314).bind fun b346 => (at? v313 v314).bind fun b347 => cond (b346.Tag != b347.Tag) (some false) (cond (b346.Leaf != b347.Leaf) (some false) (cond (b346.Data != b347.Data) (some false) (cond ((b346.Kids.length : Int) != (b347.Kids.length : Int)) (some false) (Fspec_l14Same.l14 (Fspec_l14Same.l12 k12) k12 v312 v313 v314 (0 : Int) b346 b347))))) (some true)
def Fspec_l14Same (k : Nat) (a0 : List Timpl_Tlv) (a1 : List Timpl_Tlv) : Option Bool := cond ((a0.length : Int) != (a1.length : Int)) (some false) (Fspec_l14Same.l12 k a0 a1 (0 : Int))
theorem ent77 : MG.Enters Try.prog 77 := ⟨Try.f77, Try.func77, rfl, by decide⟩
set_option maxHeartbeats 8000000 in
set_option maxRecDepth 100000 in
theorem Fspec_l14Same_gives (k : Nat) (g0 : Bool) (g1 : Bool) (a0 : List Timpl_Tlv) (a1 : List Timpl_Tlv) (r : Bool) (H : Fspec_l14Same k a0 a1 = some r) : Gives Try.prog 77 [V.one (Cell.sl g0 (List.map eTimpl_Tlv a0)), V.one (Cell.sl g1 (List.map eTimpl_Tlv a1))] [] [V.one (cL r)] [] := by
 refine Gives.intro Try.func77 rfl rfl rfl rfl ?_
 intro F hF hm
 unfold Fspec_l14Same at H
 obtain ⟨K, hK⟩ : ∃ K, k ≤ K := ⟨k, Nat.le_refl k⟩
 refine WpC.seq (WpC.regionL ?_)
 refine L.assign hF rfl rfl rfl (L.nil ?_)
 refine WpC.seq (WpC.seq (WpC.regionL ?_))
 refine L.move hF rfl rfl rfl ?_
 refine L.lenR (xs := a0) (e := eTimpl_Tlv) Try.underlying22 hF rfl rfl rfl rfl ?_
 refine L.move hF rfl rfl rfl ?_
 refine L.lenR (xs := a1) (e := eTimpl_Tlv) Try.underlying22 hF rfl rfl rfl rfl ?_
 refine L.bin hF rfl rfl rfl rfl rfl rfl (L.nil ?_)
 refine WpC.cond rfl (fun hc => ?_) (fun hc => ?_)
 ·replace H := condT hc H
  refine WpC.seq (WpC.regionL ?_)
  refine L.assign hF rfl rfl rfl (L.nil ?_)
  refine WpC.ret ?_
  cases H
  exact Leaves.ret rfl rfl rfl ⟨rfl, rfl⟩
 ·replace H := condF hc H
  refine WpC.skip (WpC.seq (WpC.seq (WpC.regionL ?_)))
  refine L.assign hF rfl rfl rfl (L.nil ?_)
  refine WpC.block ?_
  refine WpC.loopL (P := Try.prog) (fun n σ => ∃ v312 : List Timpl_Tlv, ∃ v313 : List Timpl_Tlv, ∃ v314 : Int, n ≤ K ∧ Fspec_l14Same.l12 n v312 v313 v314 = some r ∧ σ = mkSt [(0, one (Cell.sl g0 (List.map eTimpl_Tlv v312))), (1, one (Cell.sl g1 (List.map eTimpl_Tlv v313))), (5, one (cI v314))] [] [] 0) k ⟨_, ⟨a0, a1, (0 : Int), by omega, H, rfl⟩, Le.mk [] hm rfl (Sa2 (Sa1 trivial)) trivial trivial⟩ ?_
  clear H
  rintro k12 _ ⟨v312, v313, v314, hk12, H, rfl⟩
  cases k12 with
  | zero => cases H
  | succ k12 =>
   rw [Fspec_l14Same.l12] at H
   refine WpC.seq (WpC.seq (WpC.regionL ?_))
   refine L.move hF rfl rfl rfl ?_
   refine L.move hF rfl rfl rfl ?_
   refine L.lenR (xs := v312) (e := eTimpl_Tlv) Try.underlying22 hF rfl rfl rfl rfl ?_
   refine L.bin hF rfl rfl rfl rfl rfl rfl (L.nil ?_)
   refine WpC.cond rfl (fun hc => ?_) (fun hc => ?_)
   ·replace H := condT hc H
    refine WpC.skip (WpC.seq (WpC.block (WpC.seq (WpC.regionL ?_))))
    refine L.move hF rfl rfl rfl ?_
    refine L.move hF rfl rfl rfl ?_
    obtain ⟨b346, hb346, H⟩ := bindS H
    refine L.idxR (xs := v312) (e := eTimpl_Tlv) Try.underlying22 info45 hF rfl rfl rfl rfl rfl hb346 rfl rfl ?_
    refine L.loadPe shape45 hF rfl rfl rfl rfl rfl ?_
    refine L.alloc 0 info45 rfl hF rfl rfl rfl rfl ?_
    refine L.storePtr shape45 hF rfl rfl rfl rfl rfl rfl rfl (L.nil ?_)
    refine WpC.seq (WpC.regionL ?_)
    refine L.move hF rfl rfl rfl ?_
    refine L.move hF rfl rfl rfl ?_
    obtain ⟨b347, hb347, H⟩ := bindS H
    refine L.idxR (xs := v313) (e := eTimpl_Tlv) Try.underlying22 info45 hF rfl rfl rfl rfl rfl hb347 rfl rfl ?_
    refine L.loadPe shape45 hF rfl rfl rfl rfl rfl ?_
    refine L.alloc 1 info45 rfl hF rfl rfl rfl rfl ?_
    refine L.storePtr shape45 hF rfl rfl rfl rfl rfl rfl rfl (L.nil ?_)
    refine WpC.seq (WpC.seq (WpC.regionL ?_))
    refine L.fieldAddr Try.underlying45 rfl info3 rfl hF rfl rfl rfl rfl rfl ?_
    refine L.loadPtr shape3 hF rfl rfl rfl rfl rfl rfl ?_
    refine L.fieldAddr Try.underlying45 rfl info3 rfl hF rfl rfl rfl rfl rfl ?_
    refine L.loadPtr shape3 hF rfl rfl rfl rfl rfl rfl ?_
    refine L.bin hF rfl rfl rfl rfl rfl rfl ?_
    refine L.move hF rfl rfl rfl ?_
    refine L.split (fun hc => ?_) (fun hc => ?_)
    ·replace H := condT hc H
     refine L.off hF rfl rfl ?_
     refine L.off hF rfl rfl ?_
     refine L.off hF rfl rfl ?_
     refine L.off hF rfl rfl ?_
     refine L.off hF rfl rfl ?_
     refine L.pick hF rfl rfl rfl rfl ?_
     refine L.move hF rfl rfl rfl ?_
     refine L.off hF rfl rfl ?_
     refine L.off hF rfl rfl ?_
     refine L.off hF rfl rfl ?_
     refine L.off hF rfl rfl ?_
     refine L.off hF rfl rfl ?_
     refine L.pick hF rfl rfl rfl rfl ?_
     refine L.move hF rfl rfl rfl ?_
     refine L.off hF rfl rfl ?_
     refine L.off hF rfl rfl ?_
     refine L.off hF rfl rfl ?_
     refine L.off hF rfl rfl ?_
     refine L.off hF rfl rfl ?_
     refine L.off hF rfl rfl ?_
     refine L.off hF rfl rfl ?_
     refine L.pick hF rfl rfl rfl rfl (L.nil ?_)
     refine WpC.cond rfl (fun _ => ?_) (fun hc => by cases hc)
     refine WpC.seq (WpC.regionL ?_)
     refine L.assign hF rfl rfl rfl (L.nil ?_)
     refine WpC.ret ?_
     cases H
     exact Leaves.ret rfl rfl rfl ⟨rfl, rfl⟩
    ·replace H := condF hc H
     refine L.fieldAddr Try.underlying45 rfl info4 rfl hF rfl rfl rfl rfl rfl ?_
     refine L.loadPtr shape4 hF rfl rfl rfl rfl rfl rfl ?_
     refine L.fieldAddr Try.underlying45 rfl info4 rfl hF rfl rfl rfl rfl rfl ?_
     refine L.loadPtr shape4 hF rfl rfl rfl rfl rfl rfl ?_
     refine L.neL Try.underlying4 hF rfl rfl rfl rfl ?_
     refine L.pick hF rfl rfl rfl rfl ?_
     refine L.move hF rfl rfl rfl ?_
     refine L.split (fun hc => ?_) (fun hc => ?_)
     ·replace H := condT hc H
      refine L.off hF rfl rfl ?_
      refine L.off hF rfl rfl ?_
      refine L.off hF rfl rfl ?_
      refine L.off hF rfl rfl ?_
      refine L.off hF rfl rfl ?_
      refine L.pick hF rfl rfl rfl rfl ?_
      refine L.move hF rfl rfl rfl ?_
      refine L.off hF rfl rfl ?_
      refine L.off hF rfl rfl ?_
      refine L.off hF rfl rfl ?_
      refine L.off hF rfl rfl ?_
      refine L.off hF rfl rfl ?_
      refine L.off hF rfl rfl ?_
      refine L.off hF rfl rfl ?_
      refine L.pick hF rfl rfl rfl rfl (L.nil ?_)
      refine WpC.cond rfl (fun _ => ?_) (fun hc => by cases hc)
      refine WpC.seq (WpC.regionL ?_)
      refine L.assign hF rfl rfl rfl (L.nil ?_)
      refine WpC.ret ?_
      cases H
      exact Leaves.ret rfl rfl rfl ⟨rfl, rfl⟩
     ·replace H := condF hc H
      refine L.fieldAddr Try.underlying45 rfl info9 rfl hF rfl rfl rfl rfl rfl ?_
      refine L.loadPtr shape9 hF rfl rfl rfl rfl rfl rfl ?_
      refine L.fieldAddr Try.underlying45 rfl info9 rfl hF rfl rfl rfl rfl rfl ?_
      refine L.loadPtr shape9 hF rfl rfl rfl rfl rfl rfl ?_
      refine L.binS hF rfl rfl rfl rfl rfl ?_
      refine L.pick hF rfl rfl rfl rfl ?_
      refine L.move hF rfl rfl rfl ?_
      refine L.split (fun hc => ?_) (fun hc => ?_)
      ·replace H := condT hc H
       refine L.off hF rfl rfl ?_
       refine L.off hF rfl rfl ?_
       refine L.off hF rfl rfl ?_
       refine L.off hF rfl rfl ?_
       refine L.off hF rfl rfl ?_
       refine L.off hF rfl rfl ?_
       refine L.off hF rfl rfl ?_
       refine L.pick hF rfl rfl rfl rfl (L.nil ?_)
       refine WpC.cond rfl (fun _ => ?_) (fun hc => by cases hc)
       refine WpC.seq (WpC.regionL ?_)
       refine L.assign hF rfl rfl rfl (L.nil ?_)
       refine WpC.ret ?_
       cases H
       exact Leaves.ret rfl rfl rfl ⟨rfl, rfl⟩
      ·replace H := condF hc H
       refine L.fieldAddr Try.underlying45 rfl info39 rfl hF rfl rfl rfl rfl rfl ?_
       refine L.loadPtr shape39 hF rfl rfl rfl rfl rfl rfl ?_
       refine L.lenR (xs := b346.Kids) (e := eI) Try.underlying39 hF rfl rfl rfl rfl ?_
       refine L.fieldAddr Try.underlying45 rfl info39 rfl hF rfl rfl rfl rfl rfl ?_
       refine L.loadPtr shape39 hF rfl rfl rfl rfl rfl rfl ?_
       refine L.lenR (xs := b347.Kids) (e := eI) Try.underlying39 hF rfl rfl rfl rfl ?_
       refine L.bin hF rfl rfl rfl rfl rfl rfl ?_
       refine L.pick hF rfl rfl rfl rfl (L.nil ?_)
       refine WpC.cond rfl (fun hc => ?_) (fun hc => ?_)
       ·replace H := condT hc H
        refine WpC.seq (WpC.regionL ?_)
        refine L.assign hF rfl rfl rfl (L.nil ?_)
        refine WpC.ret ?_
        cases H
        exact Leaves.ret rfl rfl rfl ⟨rfl, rfl⟩
       ·replace H := condF hc H
        refine WpC.skip (WpC.seq (WpC.regionL ?_))
        refine L.assign hF rfl rfl rfl (L.nil ?_)
        refine WpC.block ?_
        refine WpC.loopL (P := Try.prog) (fun n σ => ∃ v367 : List Timpl_Tlv, ∃ v368 : List Timpl_Tlv, ∃ v369 : Int, ∃ v370 : Int, ∃ v371 : Timpl_Tlv, ∃ v372 : Timpl_Tlv, n ≤ K ∧ Fspec_l14Same.l14 (Fspec_l14Same.l12 k12) n v367 v368 v369 v370 v371 v372 = some r ∧ σ = mkSt [(0, one (Cell.sl g0 (List.map eTimpl_Tlv v367))), (1, one (Cell.sl g1 (List.map eTimpl_Tlv v368))), (5, one (cI v369)), (6, one (Cell.ptr 0 0)), (7, one (Cell.ptr 1 0)), (8, one (cI v370))] [] [(0, (bTimpl_Tlv g0 v371)), (1, (bTimpl_Tlv g1 v372))] 2) k12 ⟨_, ⟨v312, v313, v314, (0 : Int), b346, b347, by omega, H, rfl⟩, Le.mk [(0, 0), (1, 1)] hm rfl (Sa4 (Sa2 trivial)) trivial (Ba2 trivial)⟩ ?_
        clear H
        rintro k14 _ ⟨v367, v368, v369, v370, v371, v372, hk14, H, rfl⟩
        cases k14 with
        | zero => cases H
        | succ k14 =>
         rw [Fspec_l14Same.l14] at H
         refine WpC.seq (WpC.seq (WpC.regionL ?_))
         refine L.move hF rfl rfl rfl ?_
         refine L.fieldAddr Try.underlying45 rfl info39 rfl hF rfl rfl rfl rfl rfl ?_
         refine L.loadPtr shape39 hF rfl rfl rfl rfl rfl rfl ?_
         refine L.lenR (xs := v371.Kids) (e := eI) Try.underlying39 hF rfl rfl rfl rfl ?_
         refine L.bin hF rfl rfl rfl rfl rfl rfl (L.nil ?_)
         refine WpC.cond rfl (fun hc => ?_) (fun hc => ?_)
         ·replace H := condT hc H
          refine WpC.skip (WpC.seq (WpC.block (WpC.seq ?_)))
          refine S.begin mixed (by kernel_rfl) ?_
          refine S.st 0 rfl rfl ((Ca.fieldAddr Try.underlying45 rfl info39 rfl).quiet) (fun Q0 k0 => L.fieldAddr Try.underlying45 rfl info39 rfl hF rfl rfl rfl rfl rfl (L.nil k0)) ?_
          refine S.st 1 rfl rfl (Qu.load) (fun Q0 k0 => L.loadPtr shape39 hF rfl rfl rfl rfl rfl rfl (L.nil k0)) ?_
          refine S.st 2 rfl rfl ((Ca.move).quiet) (fun Q0 k0 => L.move hF rfl rfl rfl (L.nil k0)) ?_
          obtain ⟨b375, hb375, H⟩ := bindS H
          refine S.st 3 rfl rfl ((Ca.indexAddr).quiet) (fun Q0 k0 => L.idxR (xs := v371.Kids) (e := eI) Try.underlying39 info3 hF rfl rfl rfl rfl rfl hb375 rfl rfl (L.nil k0)) ?_
          refine S.st 4 rfl rfl (Qu.load) (fun Q0 k0 => L.loadPe shape3 hF rfl rfl rfl rfl rfl (L.nil k0)) ?_
          refine S.st 5 rfl rfl ((Ca.fieldAddr Try.underlying45 rfl info39 rfl).quiet) (fun Q0 k0 => L.fieldAddr Try.underlying45 rfl info39 rfl hF rfl rfl rfl rfl rfl (L.nil k0)) ?_
          refine S.st 6 rfl rfl (Qu.load) (fun Q0 k0 => L.loadPtr shape39 hF rfl rfl rfl rfl rfl rfl (L.nil k0)) ?_
          refine S.st 7 rfl rfl ((Ca.move).quiet) (fun Q0 k0 => L.move hF rfl rfl rfl (L.nil k0)) ?_
          obtain ⟨b376, hb376, H⟩ := bindS H
          refine S.st 8 rfl rfl ((Ca.indexAddr).quiet) (fun Q0 k0 => L.idxR (xs := v372.Kids) (e := eI) Try.underlying39 info3 hF rfl rfl rfl rfl rfl hb376 rfl rfl (L.nil k0)) ?_
          refine S.st 9 rfl rfl (Qu.load) (fun Q0 k0 => L.loadPe shape3 hF rfl rfl rfl rfl rfl (L.nil k0)) ?_
          refine S.st 10 rfl rfl ((Ca.bin rfl rfl (calm_int _ _ _ _ _ _ _ _)).quiet) (fun Q0 k0 => L.bin hF rfl rfl rfl rfl rfl rfl (L.nil k0)) ?_
          refine S.nil ?_
          refine WpC.cond rfl (fun hc => ?_) (fun hc => ?_)
          ·replace H := condT hc H
           refine WpC.seq (WpC.regionL ?_)
           refine L.assign hF rfl rfl rfl (L.nil ?_)
           refine WpC.ret ?_
           cases H
           exact Leaves.ret rfl rfl rfl ⟨rfl, rfl⟩
          ·replace H := condF hc H
           refine WpC.skip (WpC.regionL ?_)
           refine L.move hF rfl rfl rfl ?_
           refine L.bin hF rfl rfl rfl rfl rfl rfl ?_
           refine L.assign hF rfl rfl rfl (L.nil ?_)
           exact ⟨k14, _, by omega, ⟨v367, v368, v369, (IntKind.i64.wrap (v370 + (1 : Int))), v371, v372, by omega, H, rfl⟩, Le.mk [(0, 0), (1, 1)] hm rfl (Sa4 (Sa2 trivial)) trivial (Ba2 trivial)⟩
         ·replace H := condF hc H
          refine WpC.exit (WpC.regionL ?_)
          refine L.move hF rfl rfl rfl ?_
          refine L.bin hF rfl rfl rfl rfl rfl rfl ?_
          refine L.assign hF rfl rfl rfl (L.nil ?_)
          exact ⟨k12, _, by omega, ⟨v367, v368, (IntKind.i64.wrap (v369 + (1 : Int))), by omega, H, rfl⟩, Le.mk [] hm rfl (Sa2 (Sa1 trivial)) trivial trivial⟩
   ·replace H := condF hc H
    refine WpC.exit (WpC.seq (WpC.regionL ?_))
    refine L.assign hF rfl rfl rfl (L.nil ?_)
    refine WpC.ret ?_
    cases H
    exact Leaves.ret rfl rfl rfl ⟨rfl, rfl⟩
/-! ### Fspec_TlvOk -/
def Fspec_TlvOk (k : Nat) (a0 : List Timpl_Tlv) : Option Bool := (Fspec_l14Tree k a0).bind fun r2 => cond (!r2) (some false) ((Fspec_l14Show k a0 (IntKind.i64.wrap ((a0.length : Int) - (1 : Int)))).bind fun r3 => (Fspec_ReadTlv k r3).bind fun r4 => cond (r4.2 == (0 : Int)) ((Fspec_l14Same k r4.1 a0).bind fun r6 => some r6) (some false))
theorem ent32 : MG.Enters Try.prog 32 := ⟨Try.f32, Try.func32, rfl, by decide⟩
set_option maxHeartbeats 8000000 in
set_option maxRecDepth 100000 in
theorem Fspec_TlvOk_gives (k : Nat) (g0 : Bool) (a0 : List Timpl_Tlv) (r : Bool) (H : Fspec_TlvOk k a0 = some r) : Gives Try.prog 32 [V.one (Cell.sl g0 (List.map eTimpl_Tlv a0))] [] [V.one (cL r)] [] := by
 refine Gives.intro Try.func32 rfl rfl rfl rfl ?_
 intro F hF hm
 unfold Fspec_TlvOk at H
 obtain ⟨K, hK⟩ : ∃ K, k ≤ K := ⟨k, Nat.le_refl k⟩
 refine WpC.seq (WpC.regionL ?_)
 refine L.assign hF rfl rfl rfl (L.nil ?_)
 refine WpC.seq (WpC.seq (WpC.regionL ?_))
 refine L.move hF rfl rfl rfl ?_
 obtain ⟨r2, hr2, H⟩ := bindS H
 refine L.call [false] [] [] 1 hF rfl rfl rfl ent75 rfl rfl rfl rfl rfl (Fspec_l14Tree_gives k g0 a0 r2 hr2) rfl ?_
 refine L.not hF rfl rfl rfl (L.nil ?_)
 refine WpC.cond rfl (fun hc => ?_) (fun hc => ?_)
 ·replace H := condT hc H
  refine WpC.seq (WpC.regionL ?_)
  refine L.assign hF rfl rfl rfl (L.nil ?_)
  refine WpC.ret ?_
  cases H
  exact Leaves.ret rfl rfl rfl ⟨rfl, rfl⟩
 ·replace H := condF hc H
  refine WpC.skip (WpC.seq (WpC.regionL ?_))
  refine L.move hF rfl rfl rfl ?_
  refine L.move hF rfl rfl rfl ?_
  refine L.lenR (xs := a0) (e := eTimpl_Tlv) Try.underlying22 hF rfl rfl rfl rfl ?_
  refine L.bin hF rfl rfl rfl rfl rfl rfl ?_
  obtain ⟨r3, hr3, H⟩ := bindS H
  refine L.call [false, false] [] [] 2 hF rfl rfl rfl ent76 rfl rfl rfl rfl rfl (Fspec_l14Show_gives k g0 a0 (IntKind.i64.wrap ((a0.length : Int) - (1 : Int))) r3 hr3) rfl ?_
  obtain ⟨r4, hr4, H⟩ := bindS H
  refine L.call [false] [] [] 3 hF rfl rfl rfl ent11 rfl rfl rfl rfl rfl (Fspec_ReadTlv_gives k  r3 r4 hr4) rfl ?_
  refine L.move hF rfl rfl rfl ?_
  refine L.extract hF rfl rfl rfl rfl ?_
  refine L.extract hF rfl rfl rfl rfl ?_
  refine L.assign hF rfl rfl rfl ?_
  refine L.assign hF rfl rfl rfl (L.nil ?_)
  refine WpC.seq (WpC.regionL ?_)
  refine L.move hF rfl rfl rfl ?_
  refine L.bin hF rfl rfl rfl rfl rfl rfl ?_
  refine L.move hF rfl rfl rfl ?_
  refine L.split (fun hc => ?_) (fun hc => ?_)
  ·replace H := condT hc H
   refine L.move hF rfl rfl rfl ?_
   refine L.move hF rfl rfl rfl ?_
   obtain ⟨r6, hr6, H⟩ := bindS H
   refine L.call [false, false] [3] [] 5 hF rfl rfl rfl ent77 rfl rfl rfl rfl rfl (Fspec_l14Same_gives k false g0 r4.1 a0 r6 hr6) rfl ?_
   refine L.pick hF rfl rfl rfl rfl ?_
   refine L.assign hF rfl rfl rfl (L.nil ?_)
   refine WpC.ret ?_
   cases H
   exact Leaves.ret rfl rfl rfl ⟨rfl, rfl⟩
  ·replace H := condF hc H
   refine L.off hF rfl rfl ?_
   refine L.off hF rfl rfl ?_
   refine L.off hF rfl rfl ?_
   refine L.pick hF rfl rfl rfl rfl ?_
   refine L.assign hF rfl rfl rfl (L.nil ?_)
   refine WpC.ret ?_
   cases H
   exact Leaves.ret rfl rfl rfl ⟨rfl, rfl⟩
/-! ### Fspec_ShowTlv -/
def Fspec_ShowTlv (k : Nat) (a0 : List Timpl_Tlv) : Option (List UInt8) := (Fspec_TlvOk k a0).bind fun r2 => cond (!r2) (some ([] : List UInt8)) ((Fspec_l14Show k a0 (IntKind.i64.wrap ((a0.length : Int) - (1 : Int)))).bind fun r3 => some r3)
theorem ent33 : MG.Enters Try.prog 33 := ⟨Try.f33, Try.func33, rfl, by decide⟩
set_option maxHeartbeats 8000000 in
set_option maxRecDepth 100000 in
theorem Fspec_ShowTlv_gives (k : Nat) (g0 : Bool) (a0 : List Timpl_Tlv) (r : List UInt8) (H : Fspec_ShowTlv k a0 = some r) : Gives Try.prog 33 [V.one (Cell.sl g0 (List.map eTimpl_Tlv a0))] [] [V.one (cS r)] [] := by
 refine Gives.intro Try.func33 rfl rfl rfl rfl ?_
 intro F hF hm
 unfold Fspec_ShowTlv at H
 obtain ⟨K, hK⟩ : ∃ K, k ≤ K := ⟨k, Nat.le_refl k⟩
 refine WpC.seq (WpC.regionL ?_)
 refine L.assign hF rfl rfl rfl (L.nil ?_)
 refine WpC.seq (WpC.seq (WpC.regionL ?_))
 refine L.move hF rfl rfl rfl ?_
 obtain ⟨r2, hr2, H⟩ := bindS H
 refine L.call [false] [] [] 1 hF rfl rfl rfl ent32 rfl rfl rfl rfl rfl (Fspec_TlvOk_gives k g0 a0 r2 hr2) rfl ?_
 refine L.not hF rfl rfl rfl (L.nil ?_)
 refine WpC.cond rfl (fun hc => ?_) (fun hc => ?_)
 ·replace H := condT hc H
  refine WpC.seq (WpC.regionL ?_)
  refine L.assign hF rfl rfl rfl (L.nil ?_)
  refine WpC.ret ?_
  cases H
  exact Leaves.ret rfl rfl rfl ⟨rfl, rfl⟩
 ·replace H := condF hc H
  refine WpC.skip (WpC.seq (WpC.regionL ?_))
  refine L.move hF rfl rfl rfl ?_
  refine L.move hF rfl rfl rfl ?_
  refine L.lenR (xs := a0) (e := eTimpl_Tlv) Try.underlying22 hF rfl rfl rfl rfl ?_
  refine L.bin hF rfl rfl rfl rfl rfl rfl ?_
  obtain ⟨r3, hr3, H⟩ := bindS H
  refine L.call [false, false] [] [] 2 hF rfl rfl rfl ent76 rfl rfl rfl rfl rfl (Fspec_l14Show_gives k g0 a0 (IntKind.i64.wrap ((a0.length : Int) - (1 : Int))) r3 hr3) rfl ?_
  refine L.assign hF rfl rfl rfl (L.nil ?_)
  refine WpC.ret ?_
  cases H
  exact Leaves.ret rfl rfl rfl ⟨rfl, rfl⟩
/-! ### Fspec_l1Spoil -/
def Fspec_l1Spoil (k : Nat) (a1 : List UInt8) (o0 : Tspec_l1Cur) : Option (List UInt8 × Tspec_l1Cur) := cond ((a1.length : Int) == (0 : Int)) ((Fspec_l1Text k (3 : Int) o0).bind fun r2 => some (r2.1, r2.2)) ((Fspec_l1Below k (a1.length : Int) o0).bind fun r3 => (Fspec_l1Below k (4 : Int) r3.2).bind fun r14 => cond (r14.1 == (0 : Int)) ((cut? a1 (0 : Int) r3.1).bind fun b15 => (cut? a1 (IntKind.i64.wrap (r3.1 + (1 : Int))) (a1.length : Int)).bind fun b16 => cond (decide (b15.length + b16.length ≤ 9223372036854775807)) (some ((b15 ++ b16), r14.2)) none) (cond (r14.1 == (1 : Int)) ((cut? a1 (0 : Int) r3.1).bind fun b18 => (Fspec_l1Byte k r14.2).bind fun r19 => cond (decide (b18.length + ([(ofI r19.1)] : List UInt8).length ≤ 9223372036854775807)) ((cut? a1 r3.1 (a1.length : Int)).bind fun b21 => cond (decide ((b18 ++ ([(ofI r19.1)] : List UInt8)).length + b21.length ≤ 9223372036854775807)) (some (((b18 ++ ([(ofI r19.1)] : List UInt8)) ++ b21), r19.2)) none) none) (cond (r14.1 == (2 : Int)) ((cut? a1 (0 : Int) r3.1).bind fun b23 => some (b23, r14.2)) ((cut? a1 (0 : Int) r3.1).bind fun b24 => (at? a1 r3.1).bind fun b25 => (Fspec_l1Below k (255 : Int) r14.2).bind fun r26 => cond (decide (b24.length + ([(ofI (Go.bits .xor .i64 (b25.toNat : Int) (IntKind.i64.wrap ((1 : Int) + r26.1))))] : List UInt8).length ≤ 9223372036854775807)) ((cut? a1 (IntKind.i64.wrap (r3.1 + (1 : Int))) (a1.length : Int)).bind fun b28 => cond (decide ((b24 ++ ([(ofI (Go.bits .xor .i64 (b25.toNat : Int) (IntKind.i64.wrap ((1 : Int) + r26.1))))] : List UInt8)).length + b28.length ≤ 9223372036854775807)) (some (((b24 ++ ([(ofI (Go.bits .xor .i64 (b25.toNat : Int) (IntKind.i64.wrap ((1 : Int) + r26.1))))] : List UInt8)) ++ b28), r26.2)) none) none))))
theorem ent66 : MG.Enters Try.prog 66 := ⟨Try.f66, Try.func66, rfl, by decide⟩
set_option maxHeartbeats 8000000 in
set_option maxRecDepth 100000 in
theorem Fspec_l1Spoil_gives (k : Nat) (a1 : List UInt8) (o0 : Tspec_l1Cur) (r : List UInt8 × Tspec_l1Cur) (H : Fspec_l1Spoil k a1 o0 = some r) : Gives Try.prog 66 [V.one (Cell.ptr 0 0), V.one (cS a1)] [[Cell.sl true (List.map eB o0.b), cI o0.i, cI o0.h]] [V.one (cS r.1)] [[Cell.sl true (List.map eB r.2.b), cI r.2.i, cI r.2.h]] := by
 refine Gives.intro Try.func66 rfl rfl rfl rfl ?_
 intro F hF hm
 unfold Fspec_l1Spoil at H
 obtain ⟨K, hK⟩ : ∃ K, k ≤ K := ⟨k, Nat.le_refl k⟩
 refine WpC.seq (WpC.regionL ?_)
 refine L.assign hF rfl rfl rfl (L.nil ?_)
 refine WpC.seq (WpC.seq (WpC.regionL ?_))
 refine L.move hF rfl rfl rfl ?_
 refine L.lenS Try.underlying9 hF rfl rfl rfl ?_
 refine L.bin hF rfl rfl rfl rfl rfl rfl (L.nil ?_)
 refine WpC.cond rfl (fun hc => ?_) (fun hc => ?_)
 ·replace H := condT hc H
  refine WpC.seq (WpC.regionL ?_)
  refine L.move hF rfl rfl rfl ?_
  obtain ⟨r2, hr2, H⟩ := bindS H
  refine L.call [false, false] [] [0] 6 hF rfl rfl rfl ent81 rfl rfl rfl rfl rfl (Fspec_l1Text_gives k  (3 : Int) o0 r2 hr2) rfl ?_
  refine L.assign hF rfl rfl rfl (L.nil ?_)
  refine WpC.ret ?_
  cases H
  exact Leaves.ret rfl rfl rfl ⟨rfl, rfl⟩
 ·replace H := condF hc H
  refine WpC.skip (WpC.seq (WpC.regionL ?_))
  refine L.move hF rfl rfl rfl ?_
  refine L.move hF rfl rfl rfl ?_
  refine L.lenS Try.underlying9 hF rfl rfl rfl ?_
  obtain ⟨r3, hr3, H⟩ := bindS H
  refine L.call [false, false] [] [0] 6 hF rfl rfl rfl ent70 rfl rfl rfl rfl rfl (Fspec_l1Below_gives k  (a1.length : Int) o0 r3 hr3) rfl ?_
  refine L.assign hF rfl rfl rfl (L.nil ?_)
  refine WpC.seq (WpC.seq (WpC.regionL ?_))
  refine L.move hF rfl rfl rfl ?_
  obtain ⟨r14, hr14, H⟩ := bindS H
  refine L.call [false, false] [] [0] 10 hF rfl rfl rfl ent70 rfl rfl rfl rfl rfl (Fspec_l1Below_gives k  (4 : Int) r3.2 r14 hr14) rfl (L.nil ?_)
  refine WpC.block (WpC.seq (WpC.regionL ?_))
  refine L.bin hF rfl rfl rfl rfl rfl rfl ?_
  refine L.assign hF rfl rfl rfl (L.nil ?_)
  refine WpC.cond rfl (fun hc => ?_) (fun hc => ?_)
  ·replace H := condT hc H
   refine WpC.seq ?_
   refine S.begin mixed (by kernel_rfl) ?_
   refine S.st 0 rfl rfl ((Ca.move).quiet) (fun Q0 k0 => L.move hF rfl rfl rfl (L.nil k0)) ?_
   refine S.st 1 rfl rfl ((Ca.move).quiet) (fun Q0 k0 => L.move hF rfl rfl rfl (L.nil k0)) ?_
   obtain ⟨b15, hb15, H⟩ := bindS H
   refine S.st 2 rfl rfl ((Ca.slice).quiet) (fun Q0 k0 => L.cutS Try.underlying9 hF rfl rfl rfl rfl rfl hb15 (L.nil k0)) ?_
   refine S.st 3 rfl rfl ((Ca.move).quiet) (fun Q0 k0 => L.move hF rfl rfl rfl (L.nil k0)) ?_
   refine S.st 4 rfl rfl ((Ca.move).quiet) (fun Q0 k0 => L.move hF rfl rfl rfl (L.nil k0)) ?_
   refine S.st 5 rfl rfl ((Ca.bin rfl rfl (calm_int _ _ _ _ _ _ _ _)).quiet) (fun Q0 k0 => L.bin hF rfl rfl rfl rfl rfl rfl (L.nil k0)) ?_
   obtain ⟨b16, hb16, H⟩ := bindS H
   refine S.st 6 rfl rfl ((Ca.slice).quiet) (fun Q0 k0 => L.cutS Try.underlying9 hF rfl rfl rfl rfl rfl hb16 (L.nil k0)) ?_
   obtain ⟨h17, H⟩ := condG H
   refine S.st 7 rfl rfl ((Ca.bin rfl rfl (calm_str _ _ _ _ _ _)).quiet) (fun Q0 k0 => L.catS hF rfl rfl rfl rfl (of_decide_eq_true h17) (L.nil k0)) ?_
   refine S.st 8 rfl rfl ((Ca.assign).quiet) (fun Q0 k0 => L.assign hF rfl rfl rfl (L.nil k0)) ?_
   refine S.nil ?_
   refine WpC.ret ?_
   cases H
   exact Leaves.ret rfl rfl rfl ⟨rfl, rfl⟩
  ·replace H := condF hc H
   refine WpC.seq (WpC.regionL ?_)
   refine L.bin hF rfl rfl rfl rfl rfl rfl ?_
   refine L.assign hF rfl rfl rfl (L.nil ?_)
   refine WpC.cond rfl (fun hc => ?_) (fun hc => ?_)
   ·replace H := condT hc H
    refine WpC.seq ?_
    obtain ⟨b18, hb18, H⟩ := bindS H
    obtain ⟨r19, hr19, H⟩ := bindS H
    obtain ⟨h20, H⟩ := condG H
    obtain ⟨b21, hb21, H⟩ := bindS H
    obtain ⟨h22, H⟩ := condG H
    refine A.begin mixed rfl rfl ?_
    intro W hI hO
    refine hI _ _ _ ?_
    refine Atk 0 rfl (Ca.move) (fun Q0 k0 => L.move hF rfl rfl rfl (L.nil k0)) ?_
    refine Atk 1 rfl (Ca.move) (fun Q0 k0 => L.move hF rfl rfl rfl (L.nil k0)) ?_
    refine Atk 2 rfl (Ca.slice) (fun Q0 k0 => L.cutS Try.underlying9 hF rfl rfl rfl rfl rfl hb18 (L.nil k0)) ?_
    refine Atk 3 rfl (Ca.move) (fun Q0 k0 => L.move hF rfl rfl rfl (L.nil k0)) ?_
    refine Atk 9 rfl (Ca.move) (fun Q0 k0 => L.move hF rfl rfl rfl (L.nil k0)) ?_
    refine Atk 10 rfl (Ca.move) (fun Q0 k0 => L.move hF rfl rfl rfl (L.nil k0)) ?_
    refine Atk 11 rfl (Ca.slice) (fun Q0 k0 => L.cutS Try.underlying9 hF rfl rfl rfl rfl rfl hb21 (L.nil k0)) ?_
    refine A.all [4] (by kernel_rfl) rfl ⟨⟨_, rfl, ?_⟩, trivial⟩
    refine L.call [false] [] [0] 14 hF rfl rfl rfl ent128 rfl rfl rfl rfl rfl (Fspec_l1Byte_gives k  r14.2 r19 hr19) rfl (L.nil ?_)
    refine Atk 5 rfl (Ca.conv Try.underlying3 Try.underlying5 rfl) (fun Q0 k0 => L.toB Try.underlying3 Try.underlying5 hF rfl rfl rfl (L.nil k0)) ?_
    refine A.all [6] (by kernel_rfl) rfl ⟨⟨_, rfl, ?_⟩, trivial⟩
    refine L.buildSlice (e := eB) 18 ([(ofI r19.1)] : List UInt8) Try.underlying33 info5 rfl rfl rfl hF rfl rfl rfl rfl rfl rfl rfl rfl (L.nil ?_)
    refine A.le (τ := mkSt [(4, one (cS ([] : List UInt8))), (31, one (cS b18)), (35, one (Cell.own 1)), (40, one (cS b21))] [(1, ⟨1, List.map eB ([(ofI r19.1)] : List UInt8)⟩)] [(0, (bTspec_l1Cur true r19.2))] 2) (Le.mk [(0, 0), (1, 18)] hm rfl (Sa4 trivial) (Ra1 trivial) (Ba1 trivial)) ?_
    refine A.all [7] (by kernel_rfl) rfl ⟨⟨_, rfl, ?_⟩, trivial⟩
    refine L.b2s (xs := ([(ofI r19.1)] : List UInt8)) Try.underlying33 Try.underlying5 Try.underlying9 hF rfl rfl rfl rfl (L.nil ?_)
    refine Atk 8 rfl (Ca.bin rfl rfl (calm_str _ _ _ _ _ _)) (fun Q0 k0 => L.catS hF rfl rfl rfl rfl (of_decide_eq_true h20) (L.nil k0)) ?_
    refine Atk 12 rfl (Ca.bin rfl rfl (calm_str _ _ _ _ _ _)) (fun Q0 k0 => L.catS hF rfl rfl rfl rfl (of_decide_eq_true h22) (L.nil k0)) ?_
    refine Atk 13 rfl (Ca.assign) (fun Q0 k0 => L.assign hF rfl rfl rfl (L.nil k0)) ?_
    refine A.le (τ := mkSt [(4, one (cS ((b18 ++ ([(ofI r19.1)] : List UInt8)) ++ b21)))] [] [(0, (bTspec_l1Cur true r19.2))] 1) (Le.mk [(0, 0)] hm rfl (Sa1 trivial) trivial (Ba1 trivial)) ?_
    refine A.done (by kernel_rfl) ?_
    refine WpC.ret ?_
    cases H
    exact Leaves.ret rfl rfl rfl ⟨rfl, rfl⟩
   ·replace H := condF hc H
    refine WpC.seq (WpC.regionL ?_)
    refine L.bin hF rfl rfl rfl rfl rfl rfl ?_
    refine L.assign hF rfl rfl rfl (L.nil ?_)
    refine WpC.cond rfl (fun hc => ?_) (fun hc => ?_)
    ·replace H := condT hc H
     refine WpC.seq (WpC.regionL ?_)
     refine L.move hF rfl rfl rfl ?_
     refine L.move hF rfl rfl rfl ?_
     obtain ⟨b23, hb23, H⟩ := bindS H
     refine L.cutS Try.underlying9 hF rfl rfl rfl rfl rfl hb23 ?_
     refine L.assign hF rfl rfl rfl (L.nil ?_)
     refine WpC.ret ?_
     cases H
     exact Leaves.ret rfl rfl rfl ⟨rfl, rfl⟩
    ·replace H := condF hc H
     refine WpC.skip (WpC.seq ?_)
     obtain ⟨b24, hb24, H⟩ := bindS H
     obtain ⟨b25, hb25, H⟩ := bindS H
     obtain ⟨r26, hr26, H⟩ := bindS H
     obtain ⟨h27, H⟩ := condG H
     obtain ⟨b28, hb28, H⟩ := bindS H
     obtain ⟨h29, H⟩ := condG H
     refine A.begin mixed rfl rfl ?_
     intro W hI hO
     refine hI _ _ _ ?_
     refine Atk 0 rfl (Ca.move) (fun Q0 k0 => L.move hF rfl rfl rfl (L.nil k0)) ?_
     refine Atk 1 rfl (Ca.move) (fun Q0 k0 => L.move hF rfl rfl rfl (L.nil k0)) ?_
     refine Atk 2 rfl (Ca.slice) (fun Q0 k0 => L.cutS Try.underlying9 hF rfl rfl rfl rfl rfl hb24 (L.nil k0)) ?_
     refine Atk 3 rfl (Ca.move) (fun Q0 k0 => L.move hF rfl rfl rfl (L.nil k0)) ?_
     refine Atk 4 rfl (Ca.move) (fun Q0 k0 => L.move hF rfl rfl rfl (L.nil k0)) ?_
     refine Atk 5 rfl (Ca.index) (fun Q0 k0 => L.idxS Try.underlying9 hF rfl rfl rfl rfl hb25 (L.nil k0)) ?_
     refine Atk 6 rfl (Ca.conv Try.underlying5 Try.underlying3 rfl) (fun Q0 k0 => L.ofB Try.underlying5 Try.underlying3 hF rfl rfl rfl (L.nil k0)) ?_
     refine Atk 7 rfl (Ca.move) (fun Q0 k0 => L.move hF rfl rfl rfl (L.nil k0)) ?_
     refine Atk 15 rfl (Ca.move) (fun Q0 k0 => L.move hF rfl rfl rfl (L.nil k0)) ?_
     refine Atk 16 rfl (Ca.move) (fun Q0 k0 => L.move hF rfl rfl rfl (L.nil k0)) ?_
     refine A.le (τ := mkSt [(4, one (cS ([] : List UInt8))), (49, one (cS b24)), (53, one (cI (b25.toNat : Int))), (54, one (Cell.ptr 0 0)), (62, one (cS a1)), (63, one (cI r3.1))] [] [(0, (bTspec_l1Cur true r14.2))] 1) (Le.mk [(0, 0)] hm rfl (Sa4 (Sa2 trivial)) trivial (Ba1 trivial)) ?_
     refine Atk 17 rfl (Ca.bin rfl rfl (calm_int _ _ _ _ _ _ _ _)) (fun Q0 k0 => L.bin hF rfl rfl rfl rfl rfl rfl (L.nil k0)) ?_
     refine Atk 18 rfl (Ca.slice) (fun Q0 k0 => L.cutS Try.underlying9 hF rfl rfl rfl rfl rfl hb28 (L.nil k0)) ?_
     refine A.all [8] (by kernel_rfl) rfl ⟨⟨_, rfl, ?_⟩, trivial⟩
     refine L.call [false, false] [] [0] 1 hF rfl rfl rfl ent70 rfl rfl rfl rfl rfl (Fspec_l1Below_gives k  (255 : Int) r14.2 r26 hr26) rfl (L.nil ?_)
     refine Atk 9 rfl (Ca.bin rfl rfl (calm_int _ _ _ _ _ _ _ _)) (fun Q0 k0 => L.bin hF rfl rfl rfl rfl rfl rfl (L.nil k0)) ?_
     refine Atk 10 rfl (Ca.bin rfl rfl (calm_int _ _ _ _ _ _ _ _)) (fun Q0 k0 => L.bin hF rfl rfl rfl rfl rfl rfl (L.nil k0)) ?_
     refine Atk 11 rfl (Ca.conv Try.underlying3 Try.underlying5 rfl) (fun Q0 k0 => L.toB Try.underlying3 Try.underlying5 hF rfl rfl rfl (L.nil k0)) ?_
     refine A.all [12] (by kernel_rfl) rfl ⟨⟨_, rfl, ?_⟩, trivial⟩
     refine L.buildSlice (e := eB) 5 ([(ofI (Go.bits .xor .i64 (b25.toNat : Int) (IntKind.i64.wrap ((1 : Int) + r26.1))))] : List UInt8) Try.underlying33 info5 rfl rfl rfl hF rfl rfl rfl rfl rfl rfl rfl rfl (L.nil ?_)
     refine A.all [13] (by kernel_rfl) rfl ⟨⟨_, rfl, ?_⟩, trivial⟩
     refine L.b2s (xs := ([(ofI (Go.bits .xor .i64 (b25.toNat : Int) (IntKind.i64.wrap ((1 : Int) + r26.1))))] : List UInt8)) Try.underlying33 Try.underlying5 Try.underlying9 hF rfl rfl rfl rfl (L.nil ?_)
     refine Atk 14 rfl (Ca.bin rfl rfl (calm_str _ _ _ _ _ _)) (fun Q0 k0 => L.catS hF rfl rfl rfl rfl (of_decide_eq_true h27) (L.nil k0)) ?_
     refine Atk 19 rfl (Ca.bin rfl rfl (calm_str _ _ _ _ _ _)) (fun Q0 k0 => L.catS hF rfl rfl rfl rfl (of_decide_eq_true h29) (L.nil k0)) ?_
     refine A.le (τ := mkSt [(4, one (cS ([] : List UInt8))), (66, one (cS ((b24 ++ ([(ofI (Go.bits .xor .i64 (b25.toNat : Int) (IntKind.i64.wrap ((1 : Int) + r26.1))))] : List UInt8)) ++ b28)))] [] [(0, (bTspec_l1Cur true r26.2))] 1) (Le.mk [(0, 0)] hm rfl (Sa2 trivial) trivial (Ba1 trivial)) ?_
     refine Atk 20 rfl (Ca.assign) (fun Q0 k0 => L.assign hF rfl rfl rfl (L.nil k0)) ?_
     refine A.le (τ := mkSt [(4, one (cS ((b24 ++ ([(ofI (Go.bits .xor .i64 (b25.toNat : Int) (IntKind.i64.wrap ((1 : Int) + r26.1))))] : List UInt8)) ++ b28)))] [] [(0, (bTspec_l1Cur true r26.2))] 1) (Le.mk [(0, 0)] hm rfl (Sa1 trivial) trivial (Ba1 trivial)) ?_
     refine A.done (by kernel_rfl) ?_
     refine WpC.ret ?_
     cases H
     exact Leaves.ret rfl rfl rfl ⟨rfl, rfl⟩
/-! ### Fspec_DrawReadTlv -/
def Fspec_DrawReadTlv.l8 : Nat → (List UInt8) → Int → Option (List UInt8)
 | 0, _, _ => none
 | k8 + 1, v139, v140 => cond (decide (v140 > (0 : Int))) ((Fspec_Var k8 (v139.length : Int)).bind fun r144 => cond (decide (([129] : List UInt8).length + r144.length ≤ 9223372036854775807)) (cond (decide ((([129] : List UInt8) ++ r144).length + v139.length ≤ 9223372036854775807)) ((Fspec_DrawReadTlv.l8 k8) ((([129] : List UInt8) ++ r144) ++ v139) (IntKind.i64.wrap (v140 - (1 : Int)))) none) none) (some v139)
def Fspec_DrawReadTlv.l10 : Nat → (List UInt8) → Int → Option (List UInt8)
 | 0, _, _ => none
 | k10 + 1, v167, v168 => cond (decide (v168 > (0 : Int))) (cond (decide (v167.length + ([1, 0] : List UInt8).length ≤ 9223372036854775807)) ((Fspec_DrawReadTlv.l10 k10) (v167 ++ ([1, 0] : List UInt8)) (IntKind.i64.wrap (v168 - (1 : Int)))) none) ((Fspec_Var k10 (v167.length : Int)).bind fun r171 => cond (decide (([129] : List UInt8).length + r171.length ≤ 9223372036854775807)) (cond (decide ((([129] : List UInt8) ++ r171).length + v167.length ≤ 9223372036854775807)) (some ((([129] : List UInt8) ++ r171) ++ v167)) none) none)
def Fspec_DrawReadTlv.j6 (k : Nat) (v90 : List UInt8) (v91 : Int) (v92 : Bool) (v93 : List UInt8) (v94 : Int) (v95 : Int) : Option (List UInt8) := cond v92 ((Fspec_l1Spoil k v90 (⟨v93, v94, v95⟩ : Tspec_l1Cur)).bind fun r96 => some r96.1) (cond (v91 == (2 : Int)) ((Fspec_l1Text k (3 : Int) (⟨v93, v94, v95⟩ : Tspec_l1Cur)).bind fun r97 => cond (decide (v90.length + r97.1.length ≤ 9223372036854775807)) (some (v90 ++ r97.1)) none) (cond (v91 == (3 : Int)) ((Fspec_l1Below k (5 : Int) (⟨v93, v94, v95⟩ : Tspec_l1Cur)).bind fun r123 => Fspec_DrawReadTlv.l8 k ([] : List UInt8) (IntKind.i64.wrap ((6 : Int) + r123.1))) (cond (v91 == (4 : Int)) ((Fspec_l1Below k (5 : Int) (⟨v93, v94, v95⟩ : Tspec_l1Cur)).bind fun r159 => Fspec_DrawReadTlv.l10 k ([] : List UInt8) (IntKind.i64.wrap ((57 : Int) + r159.1))) (some v90))))
def Fspec_DrawReadTlv (k : Nat) (a0 : List UInt8) : Option (List UInt8) := (Fspec_l1New k a0).bind fun r1 => (Fspec_l14Some k r1).bind fun r2 => (Fspec_ShowTlv k r2.1).bind fun r3 => (Fspec_l1Below k (6 : Int) r2.2).bind fun r89 => cond (r89.1 == (0 : Int)) (Fspec_DrawReadTlv.j6 k r3 r89.1 (r89.1 == (0 : Int)) r89.2.b r89.2.i r89.2.h) (Fspec_DrawReadTlv.j6 k r3 r89.1 (r89.1 == (1 : Int)) r89.2.b r89.2.i r89.2.h)
theorem ent35 : MG.Enters Try.prog 35 := ⟨Try.f35, Try.func35, rfl, by decide⟩
set_option maxHeartbeats 8000000 in
set_option maxRecDepth 100000 in
theorem Fspec_DrawReadTlv_gives (k : Nat) (a0 : List UInt8) (r : List UInt8) (H : Fspec_DrawReadTlv k a0 = some r) : Gives Try.prog 35 [V.one (Cell.sl true (List.map eB a0))] [] [V.one (cS r)] [] := by
 refine Gives.intro Try.func35 rfl rfl rfl rfl ?_
 intro F hF hm
 unfold Fspec_DrawReadTlv at H
 obtain ⟨K, hK⟩ : ∃ K, k ≤ K := ⟨k, Nat.le_refl k⟩
 refine WpC.seq (WpC.regionL ?_)
 refine L.assign hF rfl rfl rfl (L.nil ?_)
 refine WpC.seq (WpC.regionL ?_)
 refine L.move hF rfl rfl rfl ?_
 obtain ⟨r1, hr1, H⟩ := bindS H
 refine L.call [false] [] [] 1 hF rfl rfl rfl ent61 rfl rfl rfl rfl rfl (Fspec_l1New_gives k  a0 r1 hr1) rfl ?_
 refine L.assign hF rfl rfl rfl (L.nil ?_)
 refine WpC.seq (WpC.regionL ?_)
 refine L.move hF rfl rfl rfl ?_
 obtain ⟨r2, hr2, H⟩ := bindS H
 refine L.call [false] [] [1] 2 hF rfl rfl rfl ent69 rfl rfl rfl rfl rfl (Fspec_l14Some_gives k  r1 r2 hr2) rfl ?_
 obtain ⟨r3, hr3, H⟩ := bindS H
 refine L.call [false] [2] [] 6 hF rfl rfl rfl ent33 rfl rfl rfl rfl rfl (Fspec_ShowTlv_gives k false r2.1 r3 hr3) rfl ?_
 refine L.assign hF rfl rfl rfl (L.nil ?_)
 refine WpC.seq (WpC.seq (WpC.regionL ?_))
 refine L.move hF rfl rfl rfl ?_
 obtain ⟨r89, hr89, H⟩ := bindS H
 refine L.call [false, false] [] [1] 7 hF rfl rfl rfl ent70 rfl rfl rfl rfl rfl (Fspec_l1Below_gives k  (6 : Int) r2.2 r89 hr89) rfl (L.nil ?_)
 refine WpC.block ?_
 refine WpC.join (fun σ => ∃ kj6 : Nat, ∃ v90 : List UInt8, ∃ v91 : Int, ∃ v92 : Bool, ∃ v93 : List UInt8, ∃ v94 : Int, ∃ v95 : Int, kj6 ≤ K ∧ Fspec_DrawReadTlv.j6 kj6 v90 v91 v92 v93 v94 v95 = some r ∧ σ = mkSt [(3, one (Cell.ptr 0 0)), (4, one (cS v90)), (15, one (cI v91)), (16, one (cL v92))] [] [(0, [Cell.sl true (List.map eB v93), cI v94, cI v95])] 1) ?_ ?_
 ·rintro _ ⟨kj6, v90, v91, v92, v93, v94, v95, hkj6, H, rfl⟩
  unfold Fspec_DrawReadTlv.j6 at H
  refine WpC.cond rfl (fun hc => ?_) (fun hc => ?_)
  ·replace H := condT hc H
   refine WpC.seq (WpC.regionL ?_)
   refine L.move hF rfl rfl rfl ?_
   refine L.move hF rfl rfl rfl ?_
   obtain ⟨r96, hr96, H⟩ := bindS H
   refine L.call [false, false] [] [0] 1 hF rfl rfl rfl ent66 rfl rfl rfl rfl rfl (Fspec_l1Spoil_gives kj6  v90 (⟨v93, v94, v95⟩ : Tspec_l1Cur) r96 hr96) rfl ?_
   refine L.assign hF rfl rfl rfl (L.nil ?_)
   refine WpC.ret ?_
   cases H
   exact Leaves.ret rfl rfl rfl ⟨rfl, rfl⟩
  ·replace H := condF hc H
   refine WpC.seq (WpC.regionL ?_)
   refine L.bin hF rfl rfl rfl rfl rfl rfl ?_
   refine L.assign hF rfl rfl rfl (L.nil ?_)
   refine WpC.cond rfl (fun hc => ?_) (fun hc => ?_)
   ·replace H := condT hc H
    refine WpC.seq (WpC.regionL ?_)
    refine L.move hF rfl rfl rfl ?_
    refine L.move hF rfl rfl rfl ?_
    obtain ⟨r97, hr97, H⟩ := bindS H
    refine L.call [false, false] [] [0] 1 hF rfl rfl rfl ent81 rfl rfl rfl rfl rfl (Fspec_l1Text_gives kj6  (3 : Int) (⟨v93, v94, v95⟩ : Tspec_l1Cur) r97 hr97) rfl ?_
    obtain ⟨h98, H⟩ := condG H
    refine L.catS hF rfl rfl rfl rfl (of_decide_eq_true h98) ?_
    refine L.assign hF rfl rfl rfl (L.nil ?_)
    refine WpC.ret ?_
    cases H
    exact Leaves.ret rfl rfl rfl ⟨rfl, rfl⟩
   ·replace H := condF hc H
    refine WpC.seq (WpC.regionL ?_)
    refine L.bin hF rfl rfl rfl rfl rfl rfl ?_
    refine L.assign hF rfl rfl rfl (L.nil ?_)
    refine WpC.cond rfl (fun hc => ?_) (fun hc => ?_)
    ·replace H := condT hc H
     refine WpC.seq (WpC.regionL ?_)
     refine L.assign hF rfl rfl rfl (L.nil ?_)
     refine WpC.seq (WpC.seq (WpC.regionL ?_))
     refine L.move hF rfl rfl rfl ?_
     obtain ⟨r123, hr123, H⟩ := bindS H
     refine L.call [false, false] [] [0] 1 hF rfl rfl rfl ent70 rfl rfl rfl rfl rfl (Fspec_l1Below_gives kj6  (5 : Int) (⟨v93, v94, v95⟩ : Tspec_l1Cur) r123 hr123) rfl ?_
     refine L.bin hF rfl rfl rfl rfl rfl rfl ?_
     refine L.assign hF rfl rfl rfl (L.nil ?_)
     refine WpC.block ?_
     refine WpC.loopL (P := Try.prog) (fun n σ => ∃ v139 : List UInt8, ∃ v140 : Int, n ≤ K ∧ Fspec_DrawReadTlv.l8 n v139 v140 = some r ∧ σ = mkSt [(5, one (cS v139)), (6, one (cI v140))] [] [] 0) kj6 ⟨_, ⟨([] : List UInt8), (IntKind.i64.wrap ((6 : Int) + r123.1)), by omega, H, rfl⟩, Le.mk [] hm rfl (Sa2 trivial) trivial trivial⟩ ?_
     clear H
     rintro k8 _ ⟨v139, v140, hk8, H, rfl⟩
     cases k8 with
     | zero => cases H
     | succ k8 =>
      rw [Fspec_DrawReadTlv.l8] at H
      refine WpC.seq (WpC.seq (WpC.regionL ?_))
      refine L.move hF rfl rfl rfl ?_
      refine L.bin hF rfl rfl rfl rfl rfl rfl (L.nil ?_)
      refine WpC.cond rfl (fun hc => ?_) (fun hc => ?_)
      ·replace H := condT hc H
       refine WpC.skip (WpC.seq (WpC.block (WpC.regionL ?_)))
       refine L.move hF rfl rfl rfl ?_
       refine L.lenS Try.underlying9 hF rfl rfl rfl ?_
       obtain ⟨r144, hr144, H⟩ := bindS H
       refine L.call [false] [] [] 0 hF rfl rfl rfl ent68 rfl rfl rfl rfl rfl (Fspec_Var_gives k8  (v139.length : Int) r144 hr144) rfl ?_
       obtain ⟨h145, H⟩ := condG H
       refine L.catS hF rfl rfl rfl rfl (of_decide_eq_true h145) ?_
       refine L.move hF rfl rfl rfl ?_
       obtain ⟨h146, H⟩ := condG H
       refine L.catS hF rfl rfl rfl rfl (of_decide_eq_true h146) ?_
       refine L.assign hF rfl rfl rfl (L.nil ?_)
       refine WpC.regionL ?_
       refine L.move hF rfl rfl rfl ?_
       refine L.bin hF rfl rfl rfl rfl rfl rfl ?_
       refine L.assign hF rfl rfl rfl (L.nil ?_)
       exact ⟨k8, _, by omega, ⟨((([129] : List UInt8) ++ r144) ++ v139), (IntKind.i64.wrap (v140 - (1 : Int))), by omega, H, rfl⟩, Le.mk [] hm rfl (Sa2 trivial) trivial trivial⟩
      ·replace H := condF hc H
       refine WpC.exit (WpC.seq (WpC.regionL ?_))
       refine L.move hF rfl rfl rfl ?_
       refine L.assign hF rfl rfl rfl (L.nil ?_)
       refine WpC.ret ?_
       cases H
       exact Leaves.ret rfl rfl rfl ⟨rfl, rfl⟩
    ·replace H := condF hc H
     refine WpC.seq (WpC.regionL ?_)
     refine L.bin hF rfl rfl rfl rfl rfl rfl ?_
     refine L.assign hF rfl rfl rfl (L.nil ?_)
     refine WpC.cond rfl (fun hc => ?_) (fun hc => ?_)
     ·replace H := condT hc H
      refine WpC.seq (WpC.regionL ?_)
      refine L.assign hF rfl rfl rfl (L.nil ?_)
      refine WpC.seq (WpC.seq (WpC.regionL ?_))
      refine L.move hF rfl rfl rfl ?_
      obtain ⟨r159, hr159, H⟩ := bindS H
      refine L.call [false, false] [] [0] 1 hF rfl rfl rfl ent70 rfl rfl rfl rfl rfl (Fspec_l1Below_gives kj6  (5 : Int) (⟨v93, v94, v95⟩ : Tspec_l1Cur) r159 hr159) rfl ?_
      refine L.bin hF rfl rfl rfl rfl rfl rfl ?_
      refine L.assign hF rfl rfl rfl (L.nil ?_)
      refine WpC.block ?_
      refine WpC.loopL (P := Try.prog) (fun n σ => ∃ v167 : List UInt8, ∃ v168 : Int, n ≤ K ∧ Fspec_DrawReadTlv.l10 n v167 v168 = some r ∧ σ = mkSt [(7, one (cS v167)), (8, one (cI v168))] [] [] 0) kj6 ⟨_, ⟨([] : List UInt8), (IntKind.i64.wrap ((57 : Int) + r159.1)), by omega, H, rfl⟩, Le.mk [] hm rfl (Sa2 trivial) trivial trivial⟩ ?_
      clear H
      rintro k10 _ ⟨v167, v168, hk10, H, rfl⟩
      cases k10 with
      | zero => cases H
      | succ k10 =>
       rw [Fspec_DrawReadTlv.l10] at H
       refine WpC.seq (WpC.seq (WpC.regionL ?_))
       refine L.move hF rfl rfl rfl ?_
       refine L.bin hF rfl rfl rfl rfl rfl rfl (L.nil ?_)
       refine WpC.cond rfl (fun hc => ?_) (fun hc => ?_)
       ·replace H := condT hc H
        refine WpC.skip (WpC.seq (WpC.block (WpC.regionL ?_)))
        refine L.move hF rfl rfl rfl ?_
        obtain ⟨h170, H⟩ := condG H
        refine L.catS hF rfl rfl rfl rfl (of_decide_eq_true h170) ?_
        refine L.assign hF rfl rfl rfl (L.nil ?_)
        refine WpC.regionL ?_
        refine L.move hF rfl rfl rfl ?_
        refine L.bin hF rfl rfl rfl rfl rfl rfl ?_
        refine L.assign hF rfl rfl rfl (L.nil ?_)
        exact ⟨k10, _, by omega, ⟨(v167 ++ ([1, 0] : List UInt8)), (IntKind.i64.wrap (v168 - (1 : Int))), by omega, H, rfl⟩, Le.mk [] hm rfl (Sa2 trivial) trivial trivial⟩
       ·replace H := condF hc H
        refine WpC.exit (WpC.seq (WpC.regionL ?_))
        refine L.move hF rfl rfl rfl ?_
        refine L.lenS Try.underlying9 hF rfl rfl rfl ?_
        obtain ⟨r171, hr171, H⟩ := bindS H
        refine L.call [false] [] [] 0 hF rfl rfl rfl ent68 rfl rfl rfl rfl rfl (Fspec_Var_gives k10  (v167.length : Int) r171 hr171) rfl ?_
        obtain ⟨h172, H⟩ := condG H
        refine L.catS hF rfl rfl rfl rfl (of_decide_eq_true h172) ?_
        refine L.move hF rfl rfl rfl ?_
        obtain ⟨h173, H⟩ := condG H
        refine L.catS hF rfl rfl rfl rfl (of_decide_eq_true h173) ?_
        refine L.assign hF rfl rfl rfl (L.nil ?_)
        refine WpC.ret ?_
        cases H
        exact Leaves.ret rfl rfl rfl ⟨rfl, rfl⟩
     ·replace H := condF hc H
      refine WpC.skip (WpC.seq (WpC.regionL ?_))
      refine L.move hF rfl rfl rfl ?_
      refine L.assign hF rfl rfl rfl (L.nil ?_)
      refine WpC.ret ?_
      cases H
      exact Leaves.ret rfl rfl rfl ⟨rfl, rfl⟩
 ·refine WpC.seq (WpC.regionL ?_)
  refine L.bin hF rfl rfl rfl rfl rfl rfl ?_
  refine L.assign hF rfl rfl rfl (L.nil ?_)
  refine WpC.cond rfl (fun hc => ?_) (fun hc => ?_)
  ·replace H := condT hc H
   refine WpC.skip ?_
   exact ⟨_, ⟨k, r3, r89.1, (r89.1 == (0 : Int)), r89.2.b, r89.2.i, r89.2.h, by omega, H, rfl⟩, Le.mk [(0, 1)] hm rfl (Sa4 trivial) trivial (Ba1 trivial)⟩
  ·replace H := condF hc H
   refine WpC.regionL ?_
   refine L.bin hF rfl rfl rfl rfl rfl rfl ?_
   refine L.assign hF rfl rfl rfl (L.nil ?_)
   exact ⟨_, ⟨k, r3, r89.1, (r89.1 == (1 : Int)), r89.2.b, r89.2.i, r89.2.h, by omega, H, rfl⟩, Le.mk [(0, 1)] hm rfl (Sa4 trivial) trivial (Ba1 trivial)⟩
/-! ### Flaws_FnTlv -/
def Flaws_FnTlv.j1 (k : Nat) (v28 : List UInt8) : Option Bool := (Fspec_DrawReadTlv k v28).bind fun r29 => (Fimpl_ReadTlv k r29).bind fun r30 => (Fspec_ReadTlv k r29).bind fun r31 => cond (r30.2 == r31.2) (cond (r30.2 != (0 : Int)) (cond (r30.2 == (0 : Int)) (some true) (some ((r30.1.length : Int) == (0 : Int)))) ((Fimpl_ShowTlv k r30.1).bind fun r33 => cond (r33 == r29) (cond (r30.2 == (0 : Int)) (some true) (some ((r30.1.length : Int) == (0 : Int)))) (some false))) (some false)
def Flaws_FnTlv (k : Nat) (a0 : List UInt8) : Option Bool := (Flaws_big k a0).bind fun r2 => cond r2 (some true) ((Fspec_DrawTlvOk k a0).bind fun r3 => (Fimpl_ShowTlv k r3).bind fun r4 => (Fimpl_ReadTlv k r4).bind fun r5 => (Fspec_TlvOk k r3).bind fun r18 => cond ((r4 != ([] : List UInt8)) != r18) (some false) ((Fspec_ShowTlv k r3).bind fun r19 => cond (r4 != r19) (some false) ((Fimpl_TlvOk k r3).bind fun r20 => (Fspec_TlvOk k r3).bind fun r21 => cond (r20 != r21) (some false) (cond (r4 != ([] : List UInt8)) ((cut? r4 (0 : Int) (IntKind.i64.wrap ((r4.length : Int) - (1 : Int)))).bind fun b34 => (Fimpl_ReadTlv k b34).bind fun r35 => cond (decide (r4.length + ([120] : List UInt8).length ≤ 9223372036854775807)) ((Fimpl_ReadTlv k (r4 ++ ([120] : List UInt8))).bind fun r37 => cond (r5.2 != (0 : Int)) (some false) (cond ((r5.1.length : Int) != (r3.length : Int)) (some false) ((Fimpl_ShowTlv k r5.1).bind fun r39 => cond (r39 != r4) (some false) (cond (r35.2 == (0 : Int)) (some false) (cond (r37.2 == (0 : Int)) (some false) (Flaws_FnTlv.j1 k a0)))))) none) (Flaws_FnTlv.j1 k a0)))))
theorem ent7 : MG.Enters Try.prog 7 := ⟨Try.f7, Try.func7, rfl, by decide⟩
set_option maxHeartbeats 8000000 in
set_option maxRecDepth 100000 in
theorem Flaws_FnTlv_gives (k : Nat) (a0 : List UInt8) (r : Bool) (H : Flaws_FnTlv k a0 = some r) : Gives Try.prog 7 [V.one (Cell.sl true (List.map eB a0))] [] [V.one (cL r)] [] := by
 refine Gives.intro Try.func7 rfl rfl rfl rfl ?_
 intro F hF hm
 unfold Flaws_FnTlv at H
 obtain ⟨K, hK⟩ : ∃ K, k ≤ K := ⟨k, Nat.le_refl k⟩
 refine WpC.seq (WpC.regionL ?_)
 refine L.assign hF rfl rfl rfl (L.nil ?_)
 refine WpC.seq (WpC.seq (WpC.regionL ?_))
 refine L.move hF rfl rfl rfl ?_
 obtain ⟨r2, hr2, H⟩ := bindS H
 refine L.call [false] [] [] 1 hF rfl rfl rfl ent21 rfl rfl rfl rfl rfl (Flaws_big_gives k true a0 r2 hr2) rfl (L.nil ?_)
 refine WpC.cond rfl (fun hc => ?_) (fun hc => ?_)
 ·replace H := condT hc H
  refine WpC.seq (WpC.regionL ?_)
  refine L.assign hF rfl rfl rfl (L.nil ?_)
  refine WpC.ret ?_
  cases H
  exact Leaves.ret rfl rfl rfl ⟨rfl, rfl⟩
 ·replace H := condF hc H
  refine WpC.skip (WpC.seq (WpC.regionL ?_))
  refine L.move hF rfl rfl rfl ?_
  obtain ⟨r3, hr3, H⟩ := bindS H
  refine L.call [false] [] [] 2 hF rfl rfl rfl ent30 rfl rfl rfl rfl rfl (Fspec_DrawTlvOk_gives k  a0 r3 hr3) rfl ?_
  refine L.assign hF rfl rfl rfl (L.nil ?_)
  refine WpC.seq (WpC.regionL ?_)
  refine L.move hF rfl rfl rfl ?_
  obtain ⟨r4, hr4, H⟩ := bindS H
  refine L.call [false] [2] [] 3 hF rfl rfl rfl ent31 rfl rfl rfl rfl rfl (Fimpl_ShowTlv_gives k false r3 r4 hr4) rfl ?_
  refine L.assign hF rfl rfl rfl (L.nil ?_)
  refine WpC.seq (WpC.regionL ?_)
  refine L.move hF rfl rfl rfl ?_
  obtain ⟨r5, hr5, H⟩ := bindS H
  refine L.call [false] [] [] 4 hF rfl rfl rfl ent12 rfl rfl rfl rfl rfl (Fimpl_ReadTlv_gives k  r4 r5 hr5) rfl ?_
  refine L.move hF rfl rfl rfl ?_
  refine L.extract hF rfl rfl rfl rfl ?_
  refine L.extract hF rfl rfl rfl rfl ?_
  refine L.assign hF rfl rfl rfl ?_
  refine L.assign hF rfl rfl rfl (L.nil ?_)
  refine WpC.seq (WpC.seq (WpC.regionL ?_))
  refine L.move hF rfl rfl rfl ?_
  refine L.binS hF rfl rfl rfl rfl rfl ?_
  refine L.move hF rfl rfl rfl ?_
  obtain ⟨r18, hr18, H⟩ := bindS H
  refine L.call [false] [2] [] 6 hF rfl rfl rfl ent32 rfl rfl rfl rfl rfl (Fspec_TlvOk_gives k false r3 r18 hr18) rfl ?_
  refine L.neL Try.underlying4 hF rfl rfl rfl rfl ?_
  refine L.move hF rfl rfl rfl ?_
  refine L.split (fun hc => ?_) (fun hc => ?_)
  ·replace H := condT hc H
   refine L.off hF rfl rfl ?_
   refine L.off hF rfl rfl ?_
   refine L.off hF rfl rfl ?_
   refine L.off hF rfl rfl ?_
   refine L.pick hF rfl rfl rfl rfl ?_
   refine L.move hF rfl rfl rfl ?_
   refine L.off hF rfl rfl ?_
   refine L.off hF rfl rfl ?_
   refine L.off hF rfl rfl ?_
   refine L.off hF rfl rfl ?_
   refine L.off hF rfl rfl ?_
   refine L.pick hF rfl rfl rfl rfl (L.nil ?_)
   refine WpC.cond rfl (fun _ => ?_) (fun hc => by cases hc)
   refine WpC.seq (WpC.regionL ?_)
   refine L.assign hF rfl rfl rfl (L.nil ?_)
   refine WpC.ret ?_
   cases H
   exact Leaves.ret rfl rfl rfl ⟨rfl, rfl⟩
  ·replace H := condF hc H
   refine L.move hF rfl rfl rfl ?_
   refine L.move hF rfl rfl rfl ?_
   obtain ⟨r19, hr19, H⟩ := bindS H
   refine L.call [false] [2] [] 7 hF rfl rfl rfl ent33 rfl rfl rfl rfl rfl (Fspec_ShowTlv_gives k false r3 r19 hr19) rfl ?_
   refine L.binS hF rfl rfl rfl rfl rfl ?_
   refine L.pick hF rfl rfl rfl rfl ?_
   refine L.move hF rfl rfl rfl ?_
   refine L.split (fun hc => ?_) (fun hc => ?_)
   ·replace H := condT hc H
    refine L.off hF rfl rfl ?_
    refine L.off hF rfl rfl ?_
    refine L.off hF rfl rfl ?_
    refine L.off hF rfl rfl ?_
    refine L.off hF rfl rfl ?_
    refine L.pick hF rfl rfl rfl rfl (L.nil ?_)
    refine WpC.cond rfl (fun _ => ?_) (fun hc => by cases hc)
    refine WpC.seq (WpC.regionL ?_)
    refine L.assign hF rfl rfl rfl (L.nil ?_)
    refine WpC.ret ?_
    cases H
    exact Leaves.ret rfl rfl rfl ⟨rfl, rfl⟩
   ·replace H := condF hc H
    refine L.move hF rfl rfl rfl ?_
    obtain ⟨r20, hr20, H⟩ := bindS H
    refine L.call [false] [2] [] 8 hF rfl rfl rfl ent34 rfl rfl rfl rfl rfl (Fimpl_TlvOk_gives k false r3 r20 hr20) rfl ?_
    refine L.move hF rfl rfl rfl ?_
    obtain ⟨r21, hr21, H⟩ := bindS H
    refine L.call [false] [2] [] 9 hF rfl rfl rfl ent32 rfl rfl rfl rfl rfl (Fspec_TlvOk_gives k false r3 r21 hr21) rfl ?_
    refine L.neL Try.underlying4 hF rfl rfl rfl rfl ?_
    refine L.pick hF rfl rfl rfl rfl (L.nil ?_)
    refine WpC.cond rfl (fun hc => ?_) (fun hc => ?_)
    ·replace H := condT hc H
     refine WpC.seq (WpC.regionL ?_)
     refine L.assign hF rfl rfl rfl (L.nil ?_)
     refine WpC.ret ?_
     cases H
     exact Leaves.ret rfl rfl rfl ⟨rfl, rfl⟩
    ·replace H := condF hc H
     refine WpC.skip ?_
     refine WpC.join (fun σ => ∃ kj1 : Nat, ∃ v28 : List UInt8, kj1 ≤ K ∧ Flaws_FnTlv.j1 kj1 v28 = some r ∧ σ = mkSt [(0, one (Cell.sl true (List.map eB v28)))] [] [] 0) ?_ ?_
     ·rintro _ ⟨kj1, v28, hkj1, H, rfl⟩
      unfold Flaws_FnTlv.j1 at H
      refine WpC.seq (WpC.regionL ?_)
      refine L.move hF rfl rfl rfl ?_
      obtain ⟨r29, hr29, H⟩ := bindS H
      refine L.call [false] [] [] 0 hF rfl rfl rfl ent35 rfl rfl rfl rfl rfl (Fspec_DrawReadTlv_gives kj1  v28 r29 hr29) rfl ?_
      refine L.assign hF rfl rfl rfl (L.nil ?_)
      refine WpC.seq (WpC.regionL ?_)
      refine L.move hF rfl rfl rfl ?_
      obtain ⟨r30, hr30, H⟩ := bindS H
      refine L.call [false] [] [] 1 hF rfl rfl rfl ent12 rfl rfl rfl rfl rfl (Fimpl_ReadTlv_gives kj1  r29 r30 hr30) rfl ?_
      refine L.move hF rfl rfl rfl ?_
      refine L.extract hF rfl rfl rfl rfl ?_
      refine L.extract hF rfl rfl rfl rfl ?_
      refine L.assign hF rfl rfl rfl ?_
      refine L.assign hF rfl rfl rfl (L.nil ?_)
      refine WpC.seq (WpC.regionL ?_)
      refine L.move hF rfl rfl rfl ?_
      obtain ⟨r31, hr31, H⟩ := bindS H
      refine L.call [false] [] [] 3 hF rfl rfl rfl ent11 rfl rfl rfl rfl rfl (Fspec_ReadTlv_gives kj1  r29 r31 hr31) rfl ?_
      refine L.move hF rfl rfl rfl ?_
      refine L.extract hF rfl rfl rfl rfl ?_
      refine L.extract hF rfl rfl rfl rfl ?_
      refine L.assign hF rfl rfl rfl ?_
      refine L.assign hF rfl rfl rfl (L.nil ?_)
      refine WpC.seq (WpC.regionL ?_)
      refine L.move hF rfl rfl rfl ?_
      refine L.move hF rfl rfl rfl ?_
      refine L.bin hF rfl rfl rfl rfl rfl rfl ?_
      refine L.move hF rfl rfl rfl ?_
      refine L.split (fun hc => ?_) (fun hc => ?_)
      ·replace H := condT hc H
       refine L.move hF rfl rfl rfl ?_
       refine L.bin hF rfl rfl rfl rfl rfl rfl ?_
       refine L.move hF rfl rfl rfl ?_
       refine L.split (fun hc => ?_) (fun hc => ?_)
       ·replace H := condT hc H
        refine L.off hF rfl rfl ?_
        refine L.off hF rfl rfl ?_
        refine L.off hF rfl rfl ?_
        refine L.off hF rfl rfl ?_
        refine L.pick hF rfl rfl rfl rfl ?_
        refine L.pick hF rfl rfl rfl rfl ?_
        refine L.move hF rfl rfl rfl ?_
        refine L.move hF rfl rfl rfl ?_
        refine L.bin hF rfl rfl rfl rfl rfl rfl ?_
        refine L.move hF rfl rfl rfl ?_
        refine L.split (fun hc => ?_) (fun hc => ?_)
        ·replace H := condT hc H
         refine L.off hF rfl rfl ?_
         refine L.off hF rfl rfl ?_
         refine L.off hF rfl rfl ?_
         refine L.pick hF rfl rfl rfl rfl ?_
         refine L.pick hF rfl rfl rfl rfl ?_
         refine L.assign hF rfl rfl rfl (L.nil ?_)
         refine WpC.ret ?_
         cases H
         exact Leaves.ret rfl rfl rfl ⟨rfl, rfl⟩
        ·replace H := condF hc H
         refine L.move hF rfl rfl rfl ?_
         refine L.lenR (xs := r30.1) (e := eTimpl_Tlv) Try.underlying22 hF rfl rfl rfl rfl ?_
         refine L.bin hF rfl rfl rfl rfl rfl rfl ?_
         refine L.pick hF rfl rfl rfl rfl ?_
         refine L.pick hF rfl rfl rfl rfl ?_
         refine L.assign hF rfl rfl rfl (L.nil ?_)
         refine WpC.ret ?_
         cases H
         exact Leaves.ret rfl rfl rfl ⟨rfl, rfl⟩
       ·replace H := condF hc H
        refine L.move hF rfl rfl rfl ?_
        obtain ⟨r33, hr33, H⟩ := bindS H
        refine L.call [false] [1] [] 5 hF rfl rfl rfl ent31 rfl rfl rfl rfl rfl (Fimpl_ShowTlv_gives kj1 false r30.1 r33 hr33) rfl ?_
        refine L.move hF rfl rfl rfl ?_
        refine L.binS hF rfl rfl rfl rfl rfl ?_
        refine L.pick hF rfl rfl rfl rfl ?_
        refine L.pick hF rfl rfl rfl rfl ?_
        refine L.move hF rfl rfl rfl ?_
        refine L.split (fun hc => ?_) (fun hc => ?_)
        ·replace H := condT hc H
         refine L.move hF rfl rfl rfl ?_
         refine L.bin hF rfl rfl rfl rfl rfl rfl ?_
         refine L.move hF rfl rfl rfl ?_
         refine L.split (fun hc => ?_) (fun hc => ?_)
         ·replace H := condT hc H
          refine L.off hF rfl rfl ?_
          refine L.off hF rfl rfl ?_
          refine L.off hF rfl rfl ?_
          refine L.pick hF rfl rfl rfl rfl ?_
          refine L.pick hF rfl rfl rfl rfl ?_
          refine L.assign hF rfl rfl rfl (L.nil ?_)
          refine WpC.ret ?_
          cases H
          exact Leaves.ret rfl rfl rfl ⟨rfl, rfl⟩
         ·replace H := condF hc H
          refine L.move hF rfl rfl rfl ?_
          refine L.lenR (xs := r30.1) (e := eTimpl_Tlv) Try.underlying22 hF rfl rfl rfl rfl ?_
          refine L.bin hF rfl rfl rfl rfl rfl rfl ?_
          refine L.pick hF rfl rfl rfl rfl ?_
          refine L.pick hF rfl rfl rfl rfl ?_
          refine L.assign hF rfl rfl rfl (L.nil ?_)
          refine WpC.ret ?_
          cases H
          exact Leaves.ret rfl rfl rfl ⟨rfl, rfl⟩
        ·replace H := condF hc H
         refine L.off hF rfl rfl ?_
         refine L.off hF rfl rfl ?_
         refine L.off hF rfl rfl ?_
         refine L.off hF rfl rfl ?_
         refine L.off hF rfl rfl ?_
         refine L.off hF rfl rfl ?_
         refine L.off hF rfl rfl ?_
         refine L.pick hF rfl rfl rfl rfl ?_
         refine L.assign hF rfl rfl rfl (L.nil ?_)
         refine WpC.ret ?_
         cases H
         exact Leaves.ret rfl rfl rfl ⟨rfl, rfl⟩
      ·replace H := condF hc H
       refine L.off hF rfl rfl ?_
       refine L.off hF rfl rfl ?_
       refine L.off hF rfl rfl ?_
       refine L.off hF rfl rfl ?_
       refine L.off hF rfl rfl ?_
       refine L.off hF rfl rfl ?_
       refine L.off hF rfl rfl ?_
       refine L.off hF rfl rfl ?_
       refine L.pick hF rfl rfl rfl rfl ?_
       refine L.move hF rfl rfl rfl ?_
       refine L.off hF rfl rfl ?_
       refine L.off hF rfl rfl ?_
       refine L.off hF rfl rfl ?_
       refine L.off hF rfl rfl ?_
       refine L.off hF rfl rfl ?_
       refine L.off hF rfl rfl ?_
       refine L.off hF rfl rfl ?_
       refine L.pick hF rfl rfl rfl rfl ?_
       refine L.assign hF rfl rfl rfl (L.nil ?_)
       refine WpC.ret ?_
       cases H
       exact Leaves.ret rfl rfl rfl ⟨rfl, rfl⟩
     ·refine WpC.seq (WpC.regionL ?_)
      refine L.move hF rfl rfl rfl ?_
      refine L.binS hF rfl rfl rfl rfl rfl (L.nil ?_)
      refine WpC.cond rfl (fun hc => ?_) (fun hc => ?_)
      ·replace H := condT hc H
       refine WpC.seq (WpC.regionL ?_)
       refine L.move hF rfl rfl rfl ?_
       refine L.move hF rfl rfl rfl ?_
       refine L.lenS Try.underlying9 hF rfl rfl rfl ?_
       refine L.bin hF rfl rfl rfl rfl rfl rfl ?_
       obtain ⟨b34, hb34, H⟩ := bindS H
       refine L.cutS Try.underlying9 hF rfl rfl rfl rfl rfl hb34 ?_
       obtain ⟨r35, hr35, H⟩ := bindS H
       refine L.call [false] [] [] 10 hF rfl rfl rfl ent12 rfl rfl rfl rfl rfl (Fimpl_ReadTlv_gives k  b34 r35 hr35) rfl ?_
       refine L.move hF rfl rfl rfl ?_
       refine L.extract hF rfl rfl rfl rfl ?_
       refine L.extract hF rfl rfl rfl rfl ?_
       refine L.assign hF rfl rfl rfl ?_
       refine L.assign hF rfl rfl rfl (L.nil ?_)
       refine WpC.seq (WpC.regionL ?_)
       refine L.move hF rfl rfl rfl ?_
       obtain ⟨h36, H⟩ := condG H
       refine L.catS hF rfl rfl rfl rfl (of_decide_eq_true h36) ?_
       obtain ⟨r37, hr37, H⟩ := bindS H
       refine L.call [false] [] [] 12 hF rfl rfl rfl ent12 rfl rfl rfl rfl rfl (Fimpl_ReadTlv_gives k  (r4 ++ ([120] : List UInt8)) r37 hr37) rfl ?_
       refine L.move hF rfl rfl rfl ?_
       refine L.extract hF rfl rfl rfl rfl ?_
       refine L.extract hF rfl rfl rfl rfl ?_
       refine L.assign hF rfl rfl rfl ?_
       refine L.assign hF rfl rfl rfl (L.nil ?_)
       refine WpC.seq (WpC.regionL ?_)
       refine L.move hF rfl rfl rfl ?_
       refine L.bin hF rfl rfl rfl rfl rfl rfl ?_
       refine L.move hF rfl rfl rfl ?_
       refine L.split (fun hc => ?_) (fun hc => ?_)
       ·replace H := condT hc H
        refine L.off hF rfl rfl ?_
        refine L.off hF rfl rfl ?_
        refine L.off hF rfl rfl ?_
        refine L.off hF rfl rfl ?_
        refine L.off hF rfl rfl ?_
        refine L.pick hF rfl rfl rfl rfl ?_
        refine L.move hF rfl rfl rfl ?_
        refine L.off hF rfl rfl ?_
        refine L.off hF rfl rfl ?_
        refine L.off hF rfl rfl ?_
        refine L.off hF rfl rfl ?_
        refine L.pick hF rfl rfl rfl rfl ?_
        refine L.move hF rfl rfl rfl ?_
        refine L.off hF rfl rfl ?_
        refine L.off hF rfl rfl ?_
        refine L.pick hF rfl rfl rfl rfl ?_
        refine L.move hF rfl rfl rfl ?_
        refine L.off hF rfl rfl ?_
        refine L.off hF rfl rfl ?_
        refine L.pick hF rfl rfl rfl rfl (L.nil ?_)
        refine WpC.cond rfl (fun _ => ?_) (fun hc => by cases hc)
        refine WpC.seq (WpC.regionL ?_)
        refine L.assign hF rfl rfl rfl (L.nil ?_)
        refine WpC.ret ?_
        cases H
        exact Leaves.ret rfl rfl rfl ⟨rfl, rfl⟩
       ·replace H := condF hc H
        refine L.move hF rfl rfl rfl ?_
        refine L.lenR (xs := r5.1) (e := eTimpl_Tlv) Try.underlying22 hF rfl rfl rfl rfl ?_
        refine L.move hF rfl rfl rfl ?_
        refine L.lenR (xs := r3) (e := eTimpl_Tlv) Try.underlying22 hF rfl rfl rfl rfl ?_
        refine L.bin hF rfl rfl rfl rfl rfl rfl ?_
        refine L.pick hF rfl rfl rfl rfl ?_
        refine L.move hF rfl rfl rfl ?_
        refine L.split (fun hc => ?_) (fun hc => ?_)
        ·replace H := condT hc H
         refine L.off hF rfl rfl ?_
         refine L.off hF rfl rfl ?_
         refine L.off hF rfl rfl ?_
         refine L.off hF rfl rfl ?_
         refine L.pick hF rfl rfl rfl rfl ?_
         refine L.move hF rfl rfl rfl ?_
         refine L.off hF rfl rfl ?_
         refine L.off hF rfl rfl ?_
         refine L.pick hF rfl rfl rfl rfl ?_
         refine L.move hF rfl rfl rfl ?_
         refine L.off hF rfl rfl ?_
         refine L.off hF rfl rfl ?_
         refine L.pick hF rfl rfl rfl rfl (L.nil ?_)
         refine WpC.cond rfl (fun _ => ?_) (fun hc => by cases hc)
         refine WpC.seq (WpC.regionL ?_)
         refine L.assign hF rfl rfl rfl (L.nil ?_)
         refine WpC.ret ?_
         cases H
         exact Leaves.ret rfl rfl rfl ⟨rfl, rfl⟩
        ·replace H := condF hc H
         refine L.move hF rfl rfl rfl ?_
         obtain ⟨r39, hr39, H⟩ := bindS H
         refine L.call [false] [4] [] 14 hF rfl rfl rfl ent31 rfl rfl rfl rfl rfl (Fimpl_ShowTlv_gives k false r5.1 r39 hr39) rfl ?_
         refine L.move hF rfl rfl rfl ?_
         refine L.binS hF rfl rfl rfl rfl rfl ?_
         refine L.pick hF rfl rfl rfl rfl ?_
         refine L.move hF rfl rfl rfl ?_
         refine L.split (fun hc => ?_) (fun hc => ?_)
         ·replace H := condT hc H
          refine L.off hF rfl rfl ?_
          refine L.off hF rfl rfl ?_
          refine L.pick hF rfl rfl rfl rfl ?_
          refine L.move hF rfl rfl rfl ?_
          refine L.off hF rfl rfl ?_
          refine L.off hF rfl rfl ?_
          refine L.pick hF rfl rfl rfl rfl (L.nil ?_)
          refine WpC.cond rfl (fun _ => ?_) (fun hc => by cases hc)
          refine WpC.seq (WpC.regionL ?_)
          refine L.assign hF rfl rfl rfl (L.nil ?_)
          refine WpC.ret ?_
          cases H
          exact Leaves.ret rfl rfl rfl ⟨rfl, rfl⟩
         ·replace H := condF hc H
          refine L.move hF rfl rfl rfl ?_
          refine L.bin hF rfl rfl rfl rfl rfl rfl ?_
          refine L.pick hF rfl rfl rfl rfl ?_
          refine L.move hF rfl rfl rfl ?_
          refine L.split (fun hc => ?_) (fun hc => ?_)
          ·replace H := condT hc H
           refine L.off hF rfl rfl ?_
           refine L.off hF rfl rfl ?_
           refine L.pick hF rfl rfl rfl rfl (L.nil ?_)
           refine WpC.cond rfl (fun _ => ?_) (fun hc => by cases hc)
           refine WpC.seq (WpC.regionL ?_)
           refine L.assign hF rfl rfl rfl (L.nil ?_)
           refine WpC.ret ?_
           cases H
           exact Leaves.ret rfl rfl rfl ⟨rfl, rfl⟩
          ·replace H := condF hc H
           refine L.move hF rfl rfl rfl ?_
           refine L.bin hF rfl rfl rfl rfl rfl rfl ?_
           refine L.pick hF rfl rfl rfl rfl (L.nil ?_)
           refine WpC.cond rfl (fun hc => ?_) (fun hc => ?_)
           ·replace H := condT hc H
            refine WpC.seq (WpC.regionL ?_)
            refine L.assign hF rfl rfl rfl (L.nil ?_)
            refine WpC.ret ?_
            cases H
            exact Leaves.ret rfl rfl rfl ⟨rfl, rfl⟩
           ·replace H := condF hc H
            refine WpC.skip ?_
            exact ⟨_, ⟨k, a0, by omega, H, rfl⟩, Le.mk [] hm rfl (Sa1 trivial) trivial trivial⟩
      ·replace H := condF hc H
       refine WpC.skip ?_
       exact ⟨_, ⟨k, a0, by omega, H, rfl⟩, Le.mk [] hm rfl (Sa1 trivial) trivial trivial⟩
theorem open33 : Go.MG.Opens Try.prog 33 (Go.MG.eR Go.MG.eB) (Go.MG.wfR (fun _ => True)) := Go.MG.Opens.slice Try.underlying33 (Go.MG.Opens.u8 Try.underlying5) (fun _ => (by kernel_rfl : Try.prog.cellsOf 5 = 1).symm) (fun _ => rfl) (fun _ => rfl) (by kernel_rfl)
end Go.Proofs.Ytgjbgakcfcomdaa.M
