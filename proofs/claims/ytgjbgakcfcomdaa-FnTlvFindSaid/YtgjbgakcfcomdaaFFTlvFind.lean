import Derived.Test.YtgjbgakcfcomdaaFFTlvFindx0
import Derived.Test.YtgjbgakcfcomdaaProg
namespace Go.Proofs.Ytgjbgakcfcomdaa.M
open Go Go.MG
set_option linter.unusedVariables false
set_option linter.unusedSimpArgs false
/-! ### Fspec_l14Show -/
def Fspec_l14Show.l2 (cREC : (List Timpl_Tlv) → Int → Option (List UInt8)) : Nat → (List Timpl_Tlv) → (List UInt8) → Int → Timpl_Tlv → Option (List UInt8)
 | 0, _, _, _, _ => none
 | k2 + 1, v54, v55, v56, v57 => cond (decide (v56 < (v57.Kids.length : Int))) ((at? v57.Kids v56).bind fun b61 => (cREC v54 b61).bind fun r62 => cond (decide (v55.length + r62.length ≤ 9223372036854775807)) ((Fspec_l14Show.l2 cREC k2) v54 (v55 ++ r62) (IntKind.i64.wrap (v56 + (1 : Int))) v57) none) ((Fspec_Var k2 (v55.length : Int)).bind fun r64 => cond (decide (([(ofI (IntKind.i64.wrap (v57.Tag + (128 : Int))))] : List UInt8).length + r64.length ≤ 9223372036854775807)) (cond (decide ((([(ofI (IntKind.i64.wrap (v57.Tag + (128 : Int))))] : List UInt8) ++ r64).length + v55.length ≤ 9223372036854775807)) (some ((([(ofI (IntKind.i64.wrap (v57.Tag + (128 : Int))))] : List UInt8) ++ r64) ++ v55)) none) none)
def Fspec_l14Show : Nat → (List Timpl_Tlv) → Int → Option (List UInt8)
 | 0, _, _ => none
 | k + 1, a0, a1 => (at? a0 a1).bind fun b1 => cond b1.Leaf ((Fspec_Var k (b1.Data.length : Int)).bind fun r5 => cond (decide (([(ofI b1.Tag)] : List UInt8).length + r5.length ≤ 9223372036854775807)) (cond (decide ((([(ofI b1.Tag)] : List UInt8) ++ r5).length + b1.Data.length ≤ 9223372036854775807)) (some ((([(ofI b1.Tag)] : List UInt8) ++ r5) ++ b1.Data)) none) none) (Fspec_l14Show.l2 (Fspec_l14Show k) k a0 ([] : List UInt8) (0 : Int) b1)
theorem ent76 : MG.Enters Try.prog 76 := ⟨Try.f76, Try.func76, rfl, by decide⟩
set_option maxHeartbeats 8000000 in
set_option maxRecDepth 100000 in
theorem Fspec_l14Show_gives : ∀ (k : Nat) (g0 : Bool) (a0 : List Timpl_Tlv) (a1 : Int) (r : List UInt8) (H : Fspec_l14Show k a0 a1 = some r), Gives Try.prog 76 [V.one (Cell.sl g0 (List.map eTimpl_Tlv a0)), V.one (cI a1)] [] [V.one (cS r)] [] := by
 intro k
 induction k with
 | zero => intros; rename_i H; cases H
 | succ k ih =>
  intro g0 a0 a1 r H
  refine Gives.intro Try.func76 rfl rfl rfl rfl ?_
  intro F hF hm
  rw [Fspec_l14Show] at H
  obtain ⟨K, hK⟩ : ∃ K, k ≤ K := ⟨k, Nat.le_refl k⟩
  refine WpC.seq (WpC.regionL ?_)
  refine L.assign hF rfl rfl rfl (L.nil ?_)
  refine WpC.seq (WpC.regionL ?_)
  refine L.move hF rfl rfl rfl ?_
  refine L.move hF rfl rfl rfl ?_
  obtain ⟨b1, hb1, H⟩ := bindS H
  refine L.idxR (xs := a0) (e := eTimpl_Tlv) Try.underlying22 info45 hF rfl rfl rfl rfl rfl hb1 rfl rfl ?_
  refine L.loadPe shape45 hF rfl rfl rfl rfl rfl ?_
  refine L.alloc 2 info45 rfl hF rfl rfl rfl rfl ?_
  refine L.storePtr shape45 hF rfl rfl rfl rfl rfl rfl rfl (L.nil ?_)
  refine WpC.seq (WpC.seq (WpC.regionL ?_))
  refine L.fieldAddr Try.underlying45 rfl info4 rfl hF rfl rfl rfl rfl rfl ?_
  refine L.loadPtr shape4 hF rfl rfl rfl rfl rfl rfl (L.nil ?_)
  refine WpC.cond rfl (fun hc => ?_) (fun hc => ?_)
  ·replace H := condT hc H
   refine WpC.seq ?_
   obtain ⟨r5, hr5, H⟩ := bindS H
   obtain ⟨h6, H⟩ := condG H
   obtain ⟨h7, H⟩ := condG H
   refine A.begin mixed rfl rfl ?_
   intro W hI hO
   have n4095 : W 2 #[true, true, true, true, true, true, true, true, true, true, true, true, false, false] (mkSt [(4, one (cS ([] : List UInt8))), (23, one (cS (([(ofI b1.Tag)] : List UInt8) ++ r5))), (25, one (cS b1.Data))] [] [] 0) := by
    refine hI _ _ _ ?_
    refine Atk 12 rfl (Ca.bin rfl rfl (calm_str _ _ _ _ _ _)) (fun Q0 k0 => L.catS hF rfl rfl rfl rfl (of_decide_eq_true h7) (L.nil k0)) ?_
    refine Atk 13 rfl (Ca.assign) (fun Q0 k0 => L.assign hF rfl rfl rfl (L.nil k0)) ?_
    refine A.le (τ := mkSt [(4, one (cS ((([(ofI b1.Tag)] : List UInt8) ++ r5) ++ b1.Data)))] [] [] 0) (Le.mk [] hm rfl (Sa1 trivial) trivial trivial) ?_
    refine A.done (by kernel_rfl) ?_
    refine WpC.ret ?_
    cases H
    exact Leaves.ret rfl rfl rfl ⟨rfl, rfl⟩
   have n3583 : W 3 #[true, true, true, true, true, true, true, true, true, false, true, true, false, false] (mkSt [(4, one (cS ([] : List UInt8))), (18, one (cS ([(ofI b1.Tag)] : List UInt8))), (22, one (cS r5)), (25, one (cS b1.Data))] [] [] 0) := by
    refine hI _ _ _ ?_
    refine Atk 9 rfl (Ca.bin rfl rfl (calm_str _ _ _ _ _ _)) (fun Q0 k0 => L.catS hF rfl rfl rfl rfl (of_decide_eq_true h6) (L.nil k0)) ?_
    exact A.on (hO _ _ _ n4095) (Le.mk [] hm rfl (Sa2 (Sa1 trivial)) trivial trivial)
   have n1535 : W 4 #[true, true, true, true, true, true, true, true, true, false, true, false, false, false] (mkSt [(4, one (cS ([] : List UInt8))), (18, one (cS ([(ofI b1.Tag)] : List UInt8))), (22, one (cS r5)), (24, one (Cell.ptr 0 2))] [] [(0, (bTimpl_Tlv g0 b1))] 1) := by
    refine hI _ _ _ ?_
    refine Atk 9 rfl (Ca.bin rfl rfl (calm_str _ _ _ _ _ _)) (fun Q0 k0 => L.catS hF rfl rfl rfl rfl (of_decide_eq_true h6) (L.nil k0)) ?_
    refine A.all [11] (by kernel_rfl) rfl ⟨⟨_, rfl, ?_⟩, trivial⟩
    refine L.loadPtr shape9 hF rfl rfl rfl rfl rfl rfl (L.nil ?_)
    exact A.on (hO _ _ _ n4095) (Le.mk [] hm rfl (Sa2 (Sa1 trivial)) trivial trivial)
   have n3327 : W 4 #[true, true, true, true, true, true, true, true, false, false, true, true, false, false] (mkSt [(4, one (cS ([] : List UInt8))), (18, one (cS ([(ofI b1.Tag)] : List UInt8))), (21, one (cI (b1.Data.length : Int))), (25, one (cS b1.Data))] [] [] 0) := by
    refine hI _ _ _ ?_
    refine A.all [8] (by kernel_rfl) rfl ⟨⟨_, rfl, ?_⟩, trivial⟩
    refine L.call [false] [] [] 0 hF rfl rfl rfl ent68 rfl rfl rfl rfl rfl (Fspec_Var_gives k  (b1.Data.length : Int) r5 hr5) rfl (L.nil ?_)
    exact A.on (hO _ _ _ n3583) (Le.mk [] hm rfl (Sa4 trivial) trivial trivial)
   have n3567 : W 4 #[true, true, true, true, false, true, true, true, true, false, true, true, false, false] (mkSt [(4, one (cS ([] : List UInt8))), (17, one (Cell.own 0)), (22, one (cS r5)), (25, one (cS b1.Data))] [(0, ⟨1, List.map eB ([(ofI b1.Tag)] : List UInt8)⟩)] [] 1) := by
    refine hI _ _ _ ?_
    refine A.all [4] (by kernel_rfl) rfl ⟨⟨_, rfl, ?_⟩, trivial⟩
    refine L.b2s (xs := ([(ofI b1.Tag)] : List UInt8)) Try.underlying33 Try.underlying5 Try.underlying9 hF rfl rfl rfl rfl (L.nil ?_)
    exact A.on (hO _ _ _ n3583) (Le.mk [] hm rfl (Sa4 trivial) trivial trivial)
   have n1279 : W 5 #[true, true, true, true, true, true, true, true, false, false, true, false, false, false] (mkSt [(4, one (cS ([] : List UInt8))), (18, one (cS ([(ofI b1.Tag)] : List UInt8))), (21, one (cI (b1.Data.length : Int))), (24, one (Cell.ptr 0 2))] [] [(0, (bTimpl_Tlv g0 b1))] 1) := by
    refine hI _ _ _ ?_
    refine A.all [8, 11] (by kernel_rfl) rfl ⟨⟨_, rfl, ?_⟩, ⟨_, rfl, ?_⟩, trivial⟩
    ·refine L.call [false] [] [] 1 hF rfl rfl rfl ent68 rfl rfl rfl rfl rfl (Fspec_Var_gives k  (b1.Data.length : Int) r5 hr5) rfl (L.nil ?_)
     exact A.on (hO _ _ _ n1535) (Le.mk [(0, 0)] hm rfl (Sa4 trivial) trivial (Ba1 trivial))
    ·refine L.loadPtr shape9 hF rfl rfl rfl rfl rfl rfl (L.nil ?_)
     exact A.on (hO _ _ _ n3327) (Le.mk [] hm rfl (Sa4 trivial) trivial trivial)
   have n3559 : W 5 #[true, true, true, false, false, true, true, true, true, false, true, true, false, false] (mkSt [(4, one (cS ([] : List UInt8))), (16, one (cU (ofI b1.Tag))), (22, one (cS r5)), (25, one (cS b1.Data))] [] [] 0) := by
    refine hI _ _ _ ?_
    refine A.all [3] (by kernel_rfl) rfl ⟨⟨_, rfl, ?_⟩, trivial⟩
    refine L.buildSlice (e := eB) 0 ([(ofI b1.Tag)] : List UInt8) Try.underlying33 info5 rfl rfl rfl hF rfl rfl rfl rfl rfl rfl rfl rfl (L.nil ?_)
    exact A.on (hO _ _ _ n3567) (Le.mk [(0, 0)] hm rfl (Sa4 trivial) (Ra1 trivial) trivial)
   have n3311 : W 5 #[true, true, true, true, false, true, true, true, false, false, true, true, false, false] (mkSt [(4, one (cS ([] : List UInt8))), (17, one (Cell.own 0)), (21, one (cI (b1.Data.length : Int))), (25, one (cS b1.Data))] [(0, ⟨1, List.map eB ([(ofI b1.Tag)] : List UInt8)⟩)] [] 1) := by
    refine hI _ _ _ ?_
    refine A.all [4, 8] (by kernel_rfl) rfl ⟨⟨_, rfl, ?_⟩, ⟨_, rfl, ?_⟩, trivial⟩
    ·refine L.b2s (xs := ([(ofI b1.Tag)] : List UInt8)) Try.underlying33 Try.underlying5 Try.underlying9 hF rfl rfl rfl rfl (L.nil ?_)
     exact A.on (hO _ _ _ n3327) (Le.mk [] hm rfl (Sa4 trivial) trivial trivial)
    ·refine L.call [false] [] [] 1 hF rfl rfl rfl ent68 rfl rfl rfl rfl rfl (Fspec_Var_gives k  (b1.Data.length : Int) r5 hr5) rfl (L.nil ?_)
     exact A.on (hO _ _ _ n3567) (Le.mk [(0, 0)] hm rfl (Sa4 trivial) (Ra1 trivial) trivial)
   have n1519 : W 5 #[true, true, true, true, false, true, true, true, true, false, true, false, false, false] (mkSt [(4, one (cS ([] : List UInt8))), (17, one (Cell.own 0)), (22, one (cS r5)), (24, one (Cell.ptr 1 2))] [(0, ⟨1, List.map eB ([(ofI b1.Tag)] : List UInt8)⟩)] [(1, (bTimpl_Tlv g0 b1))] 2) := by
    refine hI _ _ _ ?_
    refine A.all [4, 11] (by kernel_rfl) rfl ⟨⟨_, rfl, ?_⟩, ⟨_, rfl, ?_⟩, trivial⟩
    ·refine L.b2s (xs := ([(ofI b1.Tag)] : List UInt8)) Try.underlying33 Try.underlying5 Try.underlying9 hF rfl rfl rfl rfl (L.nil ?_)
     exact A.on (hO _ _ _ n1535) (Le.mk [(0, 1)] hm rfl (Sa4 trivial) trivial (Ba1 trivial))
    ·refine L.loadPtr shape9 hF rfl rfl rfl rfl rfl rfl (L.nil ?_)
     exact A.on (hO _ _ _ n3567) (Le.mk [(0, 0)] hm rfl (Sa4 trivial) (Ra1 trivial) trivial)
   have n3135 : W 6 #[true, true, true, true, true, true, false, false, false, false, true, true, false, false] (mkSt [(4, one (cS ([] : List UInt8))), (18, one (cS ([(ofI b1.Tag)] : List UInt8))), (19, one (Cell.ptr 0 2)), (25, one (cS b1.Data))] [] [(0, (bTimpl_Tlv g0 b1))] 1) := by
    refine hI _ _ _ ?_
    refine A.all [6] (by kernel_rfl) rfl ⟨⟨_, rfl, ?_⟩, trivial⟩
    refine L.loadPtr shape9 hF rfl rfl rfl rfl rfl rfl (L.nil ?_)
    refine Atk 7 rfl (Ca.lenS Try.underlying9 rfl) (fun Q0 k0 => L.lenS Try.underlying9 hF rfl rfl rfl (L.nil k0)) ?_
    exact A.on (hO _ _ _ n3327) (Le.mk [] hm rfl (Sa4 trivial) trivial trivial)
   have n3303 : W 6 #[true, true, true, false, false, true, true, true, false, false, true, true, false, false] (mkSt [(4, one (cS ([] : List UInt8))), (16, one (cU (ofI b1.Tag))), (21, one (cI (b1.Data.length : Int))), (25, one (cS b1.Data))] [] [] 0) := by
    refine hI _ _ _ ?_
    refine A.all [3, 8] (by kernel_rfl) rfl ⟨⟨_, rfl, ?_⟩, ⟨_, rfl, ?_⟩, trivial⟩
    ·refine L.buildSlice (e := eB) 0 ([(ofI b1.Tag)] : List UInt8) Try.underlying33 info5 rfl rfl rfl hF rfl rfl rfl rfl rfl rfl rfl rfl (L.nil ?_)
     exact A.on (hO _ _ _ n3311) (Le.mk [(0, 0)] hm rfl (Sa4 trivial) (Ra1 trivial) trivial)
    ·refine L.call [false] [] [] 0 hF rfl rfl rfl ent68 rfl rfl rfl rfl rfl (Fspec_Var_gives k  (b1.Data.length : Int) r5 hr5) rfl (L.nil ?_)
     exact A.on (hO _ _ _ n3559) (Le.mk [] hm rfl (Sa4 trivial) trivial trivial)
   have n1511 : W 6 #[true, true, true, false, false, true, true, true, true, false, true, false, false, false] (mkSt [(4, one (cS ([] : List UInt8))), (16, one (cU (ofI b1.Tag))), (22, one (cS r5)), (24, one (Cell.ptr 0 2))] [] [(0, (bTimpl_Tlv g0 b1))] 1) := by
    refine hI _ _ _ ?_
    refine A.all [3, 11] (by kernel_rfl) rfl ⟨⟨_, rfl, ?_⟩, ⟨_, rfl, ?_⟩, trivial⟩
    ·refine L.buildSlice (e := eB) 1 ([(ofI b1.Tag)] : List UInt8) Try.underlying33 info5 rfl rfl rfl hF rfl rfl rfl rfl rfl rfl rfl rfl (L.nil ?_)
     exact A.on (hO _ _ _ n1519) (Le.mk [(0, 1), (1, 0)] hm rfl (Sa4 trivial) (Ra1 trivial) (Ba1 trivial))
    ·refine L.loadPtr shape9 hF rfl rfl rfl rfl rfl rfl (L.nil ?_)
     exact A.on (hO _ _ _ n3559) (Le.mk [] hm rfl (Sa4 trivial) trivial trivial)
   have n1263 : W 6 #[true, true, true, true, false, true, true, true, false, false, true, false, false, false] (mkSt [(4, one (cS ([] : List UInt8))), (17, one (Cell.own 0)), (21, one (cI (b1.Data.length : Int))), (24, one (Cell.ptr 1 2))] [(0, ⟨1, List.map eB ([(ofI b1.Tag)] : List UInt8)⟩)] [(1, (bTimpl_Tlv g0 b1))] 2) := by
    refine hI _ _ _ ?_
    refine A.all [4, 8, 11] (by kernel_rfl) rfl ⟨⟨_, rfl, ?_⟩, ⟨_, rfl, ?_⟩, ⟨_, rfl, ?_⟩, trivial⟩
    ·refine L.b2s (xs := ([(ofI b1.Tag)] : List UInt8)) Try.underlying33 Try.underlying5 Try.underlying9 hF rfl rfl rfl rfl (L.nil ?_)
     exact A.on (hO _ _ _ n1279) (Le.mk [(0, 1)] hm rfl (Sa4 trivial) trivial (Ba1 trivial))
    ·refine L.call [false] [] [] 2 hF rfl rfl rfl ent68 rfl rfl rfl rfl rfl (Fspec_Var_gives k  (b1.Data.length : Int) r5 hr5) rfl (L.nil ?_)
     exact A.on (hO _ _ _ n1519) (Le.mk [(0, 0), (1, 1)] hm rfl (Sa4 trivial) (Ra1 trivial) (Ba1 trivial))
    ·refine L.loadPtr shape9 hF rfl rfl rfl rfl rfl rfl (L.nil ?_)
     exact A.on (hO _ _ _ n3311) (Le.mk [(0, 0)] hm rfl (Sa4 trivial) (Ra1 trivial) trivial)
   have n3119 : W 7 #[true, true, true, true, false, true, false, false, false, false, true, true, false, false] (mkSt [(4, one (cS ([] : List UInt8))), (17, one (Cell.own 0)), (19, one (Cell.ptr 1 2)), (25, one (cS b1.Data))] [(0, ⟨1, List.map eB ([(ofI b1.Tag)] : List UInt8)⟩)] [(1, (bTimpl_Tlv g0 b1))] 2) := by
    refine hI _ _ _ ?_
    refine A.all [4, 6] (by kernel_rfl) rfl ⟨⟨_, rfl, ?_⟩, ⟨_, rfl, ?_⟩, trivial⟩
    ·refine L.b2s (xs := ([(ofI b1.Tag)] : List UInt8)) Try.underlying33 Try.underlying5 Try.underlying9 hF rfl rfl rfl rfl (L.nil ?_)
     exact A.on (hO _ _ _ n3135) (Le.mk [(0, 1)] hm rfl (Sa4 trivial) trivial (Ba1 trivial))
    ·refine L.loadPtr shape9 hF rfl rfl rfl rfl rfl rfl (L.nil ?_)
     refine Atk 7 rfl (Ca.lenS Try.underlying9 rfl) (fun Q0 k0 => L.lenS Try.underlying9 hF rfl rfl rfl (L.nil k0)) ?_
     exact A.on (hO _ _ _ n3311) (Le.mk [(0, 0)] hm rfl (Sa4 trivial) (Ra1 trivial) trivial)
   have n3553 : W 7 #[true, false, false, false, false, true, true, true, true, false, true, true, false, false] (mkSt [(4, one (cS ([] : List UInt8))), (14, one (Cell.ptr 0 0)), (22, one (cS r5)), (25, one (cS b1.Data))] [] [(0, (bTimpl_Tlv g0 b1))] 1) := by
    refine hI _ _ _ ?_
    refine A.all [1] (by kernel_rfl) rfl ⟨⟨_, rfl, ?_⟩, trivial⟩
    refine L.loadPtr shape3 hF rfl rfl rfl rfl rfl rfl (L.nil ?_)
    refine Atk 2 rfl (Ca.conv Try.underlying3 Try.underlying5 rfl) (fun Q0 k0 => L.toB Try.underlying3 Try.underlying5 hF rfl rfl rfl (L.nil k0)) ?_
    exact A.on (hO _ _ _ n3559) (Le.mk [] hm rfl (Sa4 trivial) trivial trivial)
   have n1255 : W 7 #[true, true, true, false, false, true, true, true, false, false, true, false, false, false] (mkSt [(4, one (cS ([] : List UInt8))), (16, one (cU (ofI b1.Tag))), (21, one (cI (b1.Data.length : Int))), (24, one (Cell.ptr 0 2))] [] [(0, (bTimpl_Tlv g0 b1))] 1) := by
    refine hI _ _ _ ?_
    refine A.all [3, 8, 11] (by kernel_rfl) rfl ⟨⟨_, rfl, ?_⟩, ⟨_, rfl, ?_⟩, ⟨_, rfl, ?_⟩, trivial⟩
    ·refine L.buildSlice (e := eB) 1 ([(ofI b1.Tag)] : List UInt8) Try.underlying33 info5 rfl rfl rfl hF rfl rfl rfl rfl rfl rfl rfl rfl (L.nil ?_)
     exact A.on (hO _ _ _ n1263) (Le.mk [(0, 1), (1, 0)] hm rfl (Sa4 trivial) (Ra1 trivial) (Ba1 trivial))
    ·refine L.call [false] [] [] 1 hF rfl rfl rfl ent68 rfl rfl rfl rfl rfl (Fspec_Var_gives k  (b1.Data.length : Int) r5 hr5) rfl (L.nil ?_)
     exact A.on (hO _ _ _ n1511) (Le.mk [(0, 0)] hm rfl (Sa4 trivial) trivial (Ba1 trivial))
    ·refine L.loadPtr shape9 hF rfl rfl rfl rfl rfl rfl (L.nil ?_)
     exact A.on (hO _ _ _ n3303) (Le.mk [] hm rfl (Sa4 trivial) trivial trivial)
   have n3111 : W 8 #[true, true, true, false, false, true, false, false, false, false, true, true, false, false] (mkSt [(4, one (cS ([] : List UInt8))), (16, one (cU (ofI b1.Tag))), (19, one (Cell.ptr 0 2)), (25, one (cS b1.Data))] [] [(0, (bTimpl_Tlv g0 b1))] 1) := by
    refine hI _ _ _ ?_
    refine A.all [3, 6] (by kernel_rfl) rfl ⟨⟨_, rfl, ?_⟩, ⟨_, rfl, ?_⟩, trivial⟩
    ·refine L.buildSlice (e := eB) 1 ([(ofI b1.Tag)] : List UInt8) Try.underlying33 info5 rfl rfl rfl hF rfl rfl rfl rfl rfl rfl rfl rfl (L.nil ?_)
     exact A.on (hO _ _ _ n3119) (Le.mk [(0, 1), (1, 0)] hm rfl (Sa4 trivial) (Ra1 trivial) (Ba1 trivial))
    ·refine L.loadPtr shape9 hF rfl rfl rfl rfl rfl rfl (L.nil ?_)
     refine Atk 7 rfl (Ca.lenS Try.underlying9 rfl) (fun Q0 k0 => L.lenS Try.underlying9 hF rfl rfl rfl (L.nil k0)) ?_
     exact A.on (hO _ _ _ n3303) (Le.mk [] hm rfl (Sa4 trivial) trivial trivial)
   have n3297 : W 8 #[true, false, false, false, false, true, true, true, false, false, true, true, false, false] (mkSt [(4, one (cS ([] : List UInt8))), (14, one (Cell.ptr 0 0)), (21, one (cI (b1.Data.length : Int))), (25, one (cS b1.Data))] [] [(0, (bTimpl_Tlv g0 b1))] 1) := by
    refine hI _ _ _ ?_
    refine A.all [1, 8] (by kernel_rfl) rfl ⟨⟨_, rfl, ?_⟩, ⟨_, rfl, ?_⟩, trivial⟩
    ·refine L.loadPtr shape3 hF rfl rfl rfl rfl rfl rfl (L.nil ?_)
     refine Atk 2 rfl (Ca.conv Try.underlying3 Try.underlying5 rfl) (fun Q0 k0 => L.toB Try.underlying3 Try.underlying5 hF rfl rfl rfl (L.nil k0)) ?_
     exact A.on (hO _ _ _ n3303) (Le.mk [] hm rfl (Sa4 trivial) trivial trivial)
    ·refine L.call [false] [] [] 1 hF rfl rfl rfl ent68 rfl rfl rfl rfl rfl (Fspec_Var_gives k  (b1.Data.length : Int) r5 hr5) rfl (L.nil ?_)
     exact A.on (hO _ _ _ n3553) (Le.mk [(0, 0)] hm rfl (Sa4 trivial) trivial (Ba1 trivial))
   refine hI _ _ _ ?_
   refine Atk 0 rfl (Ca.fieldAddr Try.underlying45 rfl info3 rfl) (fun Q0 k0 => L.fieldAddr Try.underlying45 rfl info3 rfl hF rfl rfl rfl rfl rfl (L.nil k0)) ?_
   refine Atk 5 rfl (Ca.fieldAddr Try.underlying45 rfl info9 rfl) (fun Q0 k0 => L.fieldAddr Try.underlying45 rfl info9 rfl hF rfl rfl rfl rfl rfl (L.nil k0)) ?_
   refine Atk 10 rfl (Ca.fieldAddr Try.underlying45 rfl info9 rfl) (fun Q0 k0 => L.fieldAddr Try.underlying45 rfl info9 rfl hF rfl rfl rfl rfl rfl (L.nil k0)) ?_
   refine A.all [1, 6, 11] (by kernel_rfl) rfl ⟨⟨_, rfl, ?_⟩, ⟨_, rfl, ?_⟩, ⟨_, rfl, ?_⟩, trivial⟩
   ·refine L.loadPtr shape3 hF rfl rfl rfl rfl rfl rfl (L.nil ?_)
    refine Atk 2 rfl (Ca.conv Try.underlying3 Try.underlying5 rfl) (fun Q0 k0 => L.toB Try.underlying3 Try.underlying5 hF rfl rfl rfl (L.nil k0)) ?_
    refine A.all [3, 6, 11] (by kernel_rfl) rfl ⟨⟨_, rfl, ?_⟩, ⟨_, rfl, ?_⟩, ⟨_, rfl, ?_⟩, trivial⟩
    ·refine L.buildSlice (e := eB) 3 ([(ofI b1.Tag)] : List UInt8) Try.underlying33 info5 rfl rfl rfl hF rfl rfl rfl rfl rfl rfl rfl rfl (L.nil ?_)
     refine A.all [4, 6, 11] (by kernel_rfl) rfl ⟨⟨_, rfl, ?_⟩, ⟨_, rfl, ?_⟩, ⟨_, rfl, ?_⟩, trivial⟩
     ·refine L.b2s (xs := ([(ofI b1.Tag)] : List UInt8)) Try.underlying33 Try.underlying5 Try.underlying9 hF rfl rfl rfl rfl (L.nil ?_)
      refine A.all [6, 11] (by kernel_rfl) rfl ⟨⟨_, rfl, ?_⟩, ⟨_, rfl, ?_⟩, trivial⟩
      ·refine L.loadPtr shape9 hF rfl rfl rfl rfl rfl rfl (L.nil ?_)
       refine Atk 7 rfl (Ca.lenS Try.underlying9 rfl) (fun Q0 k0 => L.lenS Try.underlying9 hF rfl rfl rfl (L.nil k0)) ?_
       exact A.on (hO _ _ _ n1279) (Le.mk [(0, 2)] hm rfl (Sa4 trivial) trivial (Ba1 trivial))
      ·refine L.loadPtr shape9 hF rfl rfl rfl rfl rfl rfl (L.nil ?_)
       exact A.on (hO _ _ _ n3135) (Le.mk [(0, 2)] hm rfl (Sa4 trivial) trivial (Ba1 trivial))
     ·refine L.loadPtr shape9 hF rfl rfl rfl rfl rfl rfl (L.nil ?_)
      refine Atk 7 rfl (Ca.lenS Try.underlying9 rfl) (fun Q0 k0 => L.lenS Try.underlying9 hF rfl rfl rfl (L.nil k0)) ?_
      exact A.on (hO _ _ _ n1263) (Le.mk [(0, 3), (1, 2)] hm rfl (Sa4 trivial) (Ra1 trivial) (Ba1 trivial))
     ·refine L.loadPtr shape9 hF rfl rfl rfl rfl rfl rfl (L.nil ?_)
      exact A.on (hO _ _ _ n3119) (Le.mk [(0, 3), (1, 2)] hm rfl (Sa4 trivial) (Ra1 trivial) (Ba1 trivial))
    ·refine L.loadPtr shape9 hF rfl rfl rfl rfl rfl rfl (L.nil ?_)
     refine Atk 7 rfl (Ca.lenS Try.underlying9 rfl) (fun Q0 k0 => L.lenS Try.underlying9 hF rfl rfl rfl (L.nil k0)) ?_
     exact A.on (hO _ _ _ n1255) (Le.mk [(0, 2)] hm rfl (Sa4 trivial) trivial (Ba1 trivial))
    ·refine L.loadPtr shape9 hF rfl rfl rfl rfl rfl rfl (L.nil ?_)
     exact A.on (hO _ _ _ n3111) (Le.mk [(0, 2)] hm rfl (Sa4 trivial) trivial (Ba1 trivial))
   ·refine L.loadPtr shape9 hF rfl rfl rfl rfl rfl rfl (L.nil ?_)
    refine Atk 7 rfl (Ca.lenS Try.underlying9 rfl) (fun Q0 k0 => L.lenS Try.underlying9 hF rfl rfl rfl (L.nil k0)) ?_
    refine A.all [1, 8, 11] (by kernel_rfl) rfl ⟨⟨_, rfl, ?_⟩, ⟨_, rfl, ?_⟩, ⟨_, rfl, ?_⟩, trivial⟩
    ·refine L.loadPtr shape3 hF rfl rfl rfl rfl rfl rfl (L.nil ?_)
     refine Atk 2 rfl (Ca.conv Try.underlying3 Try.underlying5 rfl) (fun Q0 k0 => L.toB Try.underlying3 Try.underlying5 hF rfl rfl rfl (L.nil k0)) ?_
     exact A.on (hO _ _ _ n1255) (Le.mk [(0, 2)] hm rfl (Sa4 trivial) trivial (Ba1 trivial))
    ·refine L.call [false] [] [] 3 hF rfl rfl rfl ent68 rfl rfl rfl rfl rfl (Fspec_Var_gives k  (b1.Data.length : Int) r5 hr5) rfl (L.nil ?_)
     refine A.all [1, 11] (by kernel_rfl) rfl ⟨⟨_, rfl, ?_⟩, ⟨_, rfl, ?_⟩, trivial⟩
     ·refine L.loadPtr shape3 hF rfl rfl rfl rfl rfl rfl (L.nil ?_)
      refine Atk 2 rfl (Ca.conv Try.underlying3 Try.underlying5 rfl) (fun Q0 k0 => L.toB Try.underlying3 Try.underlying5 hF rfl rfl rfl (L.nil k0)) ?_
      exact A.on (hO _ _ _ n1511) (Le.mk [(0, 2)] hm rfl (Sa4 trivial) trivial (Ba1 trivial))
     ·refine L.loadPtr shape9 hF rfl rfl rfl rfl rfl rfl (L.nil ?_)
      exact A.on (hO _ _ _ n3553) (Le.mk [(0, 2)] hm rfl (Sa4 trivial) trivial (Ba1 trivial))
    ·refine L.loadPtr shape9 hF rfl rfl rfl rfl rfl rfl (L.nil ?_)
     exact A.on (hO _ _ _ n3297) (Le.mk [(0, 2)] hm rfl (Sa4 trivial) trivial (Ba1 trivial))
   ·refine L.loadPtr shape9 hF rfl rfl rfl rfl rfl rfl (L.nil ?_)
    refine A.all [1, 6] (by kernel_rfl) rfl ⟨⟨_, rfl, ?_⟩, ⟨_, rfl, ?_⟩, trivial⟩
    ·refine L.loadPtr shape3 hF rfl rfl rfl rfl rfl rfl (L.nil ?_)
     refine Atk 2 rfl (Ca.conv Try.underlying3 Try.underlying5 rfl) (fun Q0 k0 => L.toB Try.underlying3 Try.underlying5 hF rfl rfl rfl (L.nil k0)) ?_
     exact A.on (hO _ _ _ n3111) (Le.mk [(0, 2)] hm rfl (Sa4 trivial) trivial (Ba1 trivial))
    ·refine L.loadPtr shape9 hF rfl rfl rfl rfl rfl rfl (L.nil ?_)
     refine Atk 7 rfl (Ca.lenS Try.underlying9 rfl) (fun Q0 k0 => L.lenS Try.underlying9 hF rfl rfl rfl (L.nil k0)) ?_
     exact A.on (hO _ _ _ n3297) (Le.mk [(0, 2)] hm rfl (Sa4 trivial) trivial (Ba1 trivial))
  ·replace H := condF hc H
   refine WpC.skip (WpC.seq (WpC.regionL ?_))
   refine L.assign hF rfl rfl rfl (L.nil ?_)
   refine WpC.seq (WpC.seq (WpC.regionL ?_))
   refine L.assign hF rfl rfl rfl (L.nil ?_)
   refine WpC.block ?_
   refine WpC.loopL (P := Try.prog) (fun n σ => ∃ v54 : List Timpl_Tlv, ∃ v55 : List UInt8, ∃ v56 : Int, ∃ v57 : Timpl_Tlv, n ≤ K ∧ Fspec_l14Show.l2 (Fspec_l14Show k) n v54 v55 v56 v57 = some r ∧ σ = mkSt [(0, one (Cell.sl g0 (List.map eTimpl_Tlv v54))), (5, one (Cell.ptr 0 0)), (6, one (cS v55)), (7, one (cI v56))] [] [(0, (bTimpl_Tlv g0 v57))] 1) k ⟨_, ⟨a0, ([] : List UInt8), (0 : Int), b1, by omega, H, rfl⟩, Le.mk [(0, 2)] hm rfl (Sa4 trivial) trivial (Ba1 trivial)⟩ ?_
   clear H
   rintro k2 _ ⟨v54, v55, v56, v57, hk2, H, rfl⟩
   cases k2 with
   | zero => cases H
   | succ k2 =>
    rw [Fspec_l14Show.l2] at H
    refine WpC.seq (WpC.seq (WpC.regionL ?_))
    refine L.move hF rfl rfl rfl ?_
    refine L.fieldAddr Try.underlying45 rfl info39 rfl hF rfl rfl rfl rfl rfl ?_
    refine L.loadPtr shape39 hF rfl rfl rfl rfl rfl rfl ?_
    refine L.lenR (xs := v57.Kids) (e := eI) Try.underlying39 hF rfl rfl rfl rfl ?_
    refine L.bin hF rfl rfl rfl rfl rfl rfl (L.nil ?_)
    refine WpC.cond rfl (fun hc => ?_) (fun hc => ?_)
    ·replace H := condT hc H
     refine WpC.skip (WpC.seq (WpC.block (WpC.regionL ?_)))
     refine L.move hF rfl rfl rfl ?_
     refine L.move hF rfl rfl rfl ?_
     refine L.fieldAddr Try.underlying45 rfl info39 rfl hF rfl rfl rfl rfl rfl ?_
     refine L.loadPtr shape39 hF rfl rfl rfl rfl rfl rfl ?_
     refine L.move hF rfl rfl rfl ?_
     obtain ⟨b61, hb61, H⟩ := bindS H
     refine L.idxR (xs := v57.Kids) (e := eI) Try.underlying39 info3 hF rfl rfl rfl rfl rfl hb61 rfl rfl ?_
     refine L.loadPe shape3 hF rfl rfl rfl rfl rfl ?_
     obtain ⟨r62, hr62, H⟩ := bindS H
     refine L.call [false, false] [] [] 1 hF rfl rfl rfl ent76 rfl rfl rfl rfl rfl (ih g0 v54 b61 r62 hr62) rfl ?_
     obtain ⟨h63, H⟩ := condG H
     refine L.catS hF rfl rfl rfl rfl (of_decide_eq_true h63) ?_
     refine L.assign hF rfl rfl rfl (L.nil ?_)
     refine WpC.regionL ?_
     refine L.move hF rfl rfl rfl ?_
     refine L.bin hF rfl rfl rfl rfl rfl rfl ?_
     refine L.assign hF rfl rfl rfl (L.nil ?_)
     exact ⟨k2, _, by omega, ⟨v54, (v55 ++ r62), (IntKind.i64.wrap (v56 + (1 : Int))), v57, by omega, H, rfl⟩, Le.mk [(0, 0)] hm rfl (Sa4 trivial) trivial (Ba1 trivial)⟩
    ·replace H := condF hc H
     refine WpC.exit (WpC.seq ?_)
     obtain ⟨r64, hr64, H⟩ := bindS H
     obtain ⟨h65, H⟩ := condG H
     obtain ⟨h66, H⟩ := condG H
     refine A.begin mixed rfl rfl ?_
     intro W hI hO
     have n1535 : W 3 #[true, true, true, true, true, true, true, true, true, false, true, false, false] (mkSt [(48, one (cS ([(ofI (IntKind.i64.wrap (v57.Tag + (128 : Int))))] : List UInt8))), (51, one (cS r64)), (53, one (cS v55))] [] [] 0) := by
      refine hI _ _ _ ?_
      refine Atk 9 rfl (Ca.bin rfl rfl (calm_str _ _ _ _ _ _)) (fun Q0 k0 => L.catS hF rfl rfl rfl rfl (of_decide_eq_true h65) (L.nil k0)) ?_
      refine Atk 11 rfl (Ca.bin rfl rfl (calm_str _ _ _ _ _ _)) (fun Q0 k0 => L.catS hF rfl rfl rfl rfl (of_decide_eq_true h66) (L.nil k0)) ?_
      refine Atk 12 rfl (Ca.assign) (fun Q0 k0 => L.assign hF rfl rfl rfl (L.nil k0)) ?_
      refine A.le (τ := mkSt [(4, one (cS ((([(ofI (IntKind.i64.wrap (v57.Tag + (128 : Int))))] : List UInt8) ++ r64) ++ v55)))] [] [] 0) (Le.mk [] hm rfl (Sa1 trivial) trivial trivial) ?_
      refine A.done (by kernel_rfl) ?_
      refine WpC.ret ?_
      cases H
      exact Leaves.ret rfl rfl rfl ⟨rfl, rfl⟩
     have n1503 : W 4 #[true, true, true, true, true, false, true, true, true, false, true, false, false] (mkSt [(47, one (Cell.own 0)), (51, one (cS r64)), (53, one (cS v55))] [(0, ⟨1, List.map eB ([(ofI (IntKind.i64.wrap (v57.Tag + (128 : Int))))] : List UInt8)⟩)] [] 1) := by
      refine hI _ _ _ ?_
      refine A.all [5] (by kernel_rfl) rfl ⟨⟨_, rfl, ?_⟩, trivial⟩
      refine L.b2s (xs := ([(ofI (IntKind.i64.wrap (v57.Tag + (128 : Int))))] : List UInt8)) Try.underlying33 Try.underlying5 Try.underlying9 hF rfl rfl rfl rfl (L.nil ?_)
      exact A.on (hO _ _ _ n1535) (Le.mk [] hm rfl (Sa2 (Sa1 trivial)) trivial trivial)
     have n1487 : W 5 #[true, true, true, true, false, false, true, true, true, false, true, false, false] (mkSt [(46, one (cU (ofI (IntKind.i64.wrap (v57.Tag + (128 : Int)))))), (51, one (cS r64)), (53, one (cS v55))] [] [] 0) := by
      refine hI _ _ _ ?_
      refine A.all [4] (by kernel_rfl) rfl ⟨⟨_, rfl, ?_⟩, trivial⟩
      refine L.buildSlice (e := eB) 0 ([(ofI (IntKind.i64.wrap (v57.Tag + (128 : Int))))] : List UInt8) Try.underlying33 info5 rfl rfl rfl hF rfl rfl rfl rfl rfl rfl rfl rfl (L.nil ?_)
      exact A.on (hO _ _ _ n1503) (Le.mk [(0, 0)] hm rfl (Sa2 (Sa1 trivial)) (Ra1 trivial) trivial)
     refine hI _ _ _ ?_
     refine Atk 0 rfl (Ca.fieldAddr Try.underlying45 rfl info3 rfl) (fun Q0 k0 => L.fieldAddr Try.underlying45 rfl info3 rfl hF rfl rfl rfl rfl rfl (L.nil k0)) ?_
     refine Atk 6 rfl (Ca.move) (fun Q0 k0 => L.move hF rfl rfl rfl (L.nil k0)) ?_
     refine Atk 7 rfl (Ca.lenS Try.underlying9 rfl) (fun Q0 k0 => L.lenS Try.underlying9 hF rfl rfl rfl (L.nil k0)) ?_
     refine Atk 10 rfl (Ca.move) (fun Q0 k0 => L.move hF rfl rfl rfl (L.nil k0)) ?_
     refine A.all [1, 8] (by kernel_rfl) rfl ⟨⟨_, rfl, ?_⟩, ⟨_, rfl, ?_⟩, trivial⟩
     ·refine L.loadPtr shape3 hF rfl rfl rfl rfl rfl rfl (L.nil ?_)
      refine Atk 2 rfl (Ca.bin rfl rfl (calm_int _ _ _ _ _ _ _ _)) (fun Q0 k0 => L.bin hF rfl rfl rfl rfl rfl rfl (L.nil k0)) ?_
      refine Atk 3 rfl (Ca.conv Try.underlying3 Try.underlying5 rfl) (fun Q0 k0 => L.toB Try.underlying3 Try.underlying5 hF rfl rfl rfl (L.nil k0)) ?_
      refine A.all [4, 8] (by kernel_rfl) rfl ⟨⟨_, rfl, ?_⟩, ⟨_, rfl, ?_⟩, trivial⟩
      ·refine L.buildSlice (e := eB) 1 ([(ofI (IntKind.i64.wrap (v57.Tag + (128 : Int))))] : List UInt8) Try.underlying33 info5 rfl rfl rfl hF rfl rfl rfl rfl rfl rfl rfl rfl (L.nil ?_)
       refine A.all [5, 8] (by kernel_rfl) rfl ⟨⟨_, rfl, ?_⟩, ⟨_, rfl, ?_⟩, trivial⟩
       ·refine L.b2s (xs := ([(ofI (IntKind.i64.wrap (v57.Tag + (128 : Int))))] : List UInt8)) Try.underlying33 Try.underlying5 Try.underlying9 hF rfl rfl rfl rfl (L.nil ?_)
        refine A.all [8] (by kernel_rfl) rfl ⟨⟨_, rfl, ?_⟩, trivial⟩
        refine L.call [false] [] [] 2 hF rfl rfl rfl ent68 rfl rfl rfl rfl rfl (Fspec_Var_gives k2  (v55.length : Int) r64 hr64) rfl (L.nil ?_)
        exact A.on (hO _ _ _ n1535) (Le.mk [] hm rfl (Sa2 (Sa1 trivial)) trivial trivial)
       ·refine L.call [false] [] [] 2 hF rfl rfl rfl ent68 rfl rfl rfl rfl rfl (Fspec_Var_gives k2  (v55.length : Int) r64 hr64) rfl (L.nil ?_)
        exact A.on (hO _ _ _ n1503) (Le.mk [(0, 1)] hm rfl (Sa2 (Sa1 trivial)) (Ra1 trivial) trivial)
      ·refine L.call [false] [] [] 1 hF rfl rfl rfl ent68 rfl rfl rfl rfl rfl (Fspec_Var_gives k2  (v55.length : Int) r64 hr64) rfl (L.nil ?_)
       exact A.on (hO _ _ _ n1487) (Le.mk [] hm rfl (Sa2 (Sa1 trivial)) trivial trivial)
     ·refine L.call [false] [] [] 1 hF rfl rfl rfl ent68 rfl rfl rfl rfl rfl (Fspec_Var_gives k2  (v55.length : Int) r64 hr64) rfl (L.nil ?_)
      refine A.all [1] (by kernel_rfl) rfl ⟨⟨_, rfl, ?_⟩, trivial⟩
      refine L.loadPtr shape3 hF rfl rfl rfl rfl rfl rfl (L.nil ?_)
      refine Atk 2 rfl (Ca.bin rfl rfl (calm_int _ _ _ _ _ _ _ _)) (fun Q0 k0 => L.bin hF rfl rfl rfl rfl rfl rfl (L.nil k0)) ?_
      refine Atk 3 rfl (Ca.conv Try.underlying3 Try.underlying5 rfl) (fun Q0 k0 => L.toB Try.underlying3 Try.underlying5 hF rfl rfl rfl (L.nil k0)) ?_
      exact A.on (hO _ _ _ n1487) (Le.mk [] hm rfl (Sa2 (Sa1 trivial)) trivial trivial)
/-! ### Fspec_ReadVar -/
def Fspec_ReadVar.l26 (cl22 : (List UInt8) → Int → Option (Int × Int)) : Nat → (List UInt8) → Int → Int → Int → Option (Int × Int)
 | 0, _, _, _, _ => none
 | k26 + 1, v411, v412, v413, v414 => cond (decide (v414 ≥ (0 : Int))) ((at? v411 v414).bind fun b416 => (Fspec_ReadVar.l26 cl22 k26) v411 v412 (IntKind.i64.wrap ((IntKind.i64.wrap (v413 * (128 : Int))) + (Int.tmod (b416.toNat : Int) (128 : Int)))) (IntKind.i64.wrap (v414 - (1 : Int)))) ((Fspec_Var k26 v413).bind fun r417 => (cut? v411 (0 : Int) v412).bind fun b418 => cond (r417 == b418) (some (v413, v412)) (cl22 v411 (IntKind.i64.wrap (v412 + (1 : Int)))))
def Fspec_ReadVar.l22 : Nat → (List UInt8) → Int → Option (Int × Int)
 | 0, _, _ => none
 | k22 + 1, v345, v346 => cond (decide (v346 ≤ (7 : Int))) (cond (decide (v346 ≤ (v345.length : Int))) (Fspec_ReadVar.l26 (Fspec_ReadVar.l22 k22) k22 v345 v346 (0 : Int) (IntKind.i64.wrap (v346 - (1 : Int)))) (some ((0 : Int), (0 : Int)))) (some ((0 : Int), (0 : Int)))
def Fspec_ReadVar (k : Nat) (a0 : List UInt8) : Option (Int × Int) := Fspec_ReadVar.l22 k a0 (1 : Int)
theorem ent122 : MG.Enters Try.prog 122 := ⟨Try.f122, Try.func122, rfl, by decide⟩
set_option maxHeartbeats 8000000 in
set_option maxRecDepth 100000 in
theorem Fspec_ReadVar_gives (k : Nat) (a0 : List UInt8) (r : Int × Int) (H : Fspec_ReadVar k a0 = some r) : Gives Try.prog 122 [V.one (cS a0)] [] [V.one (cI r.1), V.one (cI r.2)] [] := by
 refine Gives.intro Try.func122 rfl rfl rfl rfl ?_
 intro F hF hm
 unfold Fspec_ReadVar at H
 obtain ⟨K, hK⟩ : ∃ K, k ≤ K := ⟨k, Nat.le_refl k⟩
 refine WpC.seq (WpC.regionL ?_)
 refine L.assign hF rfl rfl rfl ?_
 refine L.assign hF rfl rfl rfl (L.nil ?_)
 refine WpC.seq (WpC.seq (WpC.regionL ?_))
 refine L.assign hF rfl rfl rfl (L.nil ?_)
 refine WpC.block ?_
 refine WpC.loopL (P := Try.prog) (fun n σ => ∃ v345 : List UInt8, ∃ v346 : Int, n ≤ K ∧ Fspec_ReadVar.l22 n v345 v346 = some r ∧ σ = mkSt [(0, one (cS v345)), (4, one (cI v346))] [] [] 0) k ⟨_, ⟨a0, (1 : Int), by omega, H, rfl⟩, Le.mk [] hm rfl (Sa2 trivial) trivial trivial⟩ ?_
 clear H
 rintro k22 _ ⟨v345, v346, hk22, H, rfl⟩
 cases k22 with
 | zero => cases H
 | succ k22 =>
  rw [Fspec_ReadVar.l22] at H
  refine WpC.seq (WpC.seq (WpC.regionL ?_))
  refine L.move hF rfl rfl rfl ?_
  refine L.bin hF rfl rfl rfl rfl rfl rfl ?_
  refine L.move hF rfl rfl rfl ?_
  refine L.split (fun hc => ?_) (fun hc => ?_)
  ·replace H := condT hc H
   refine L.move hF rfl rfl rfl ?_
   refine L.move hF rfl rfl rfl ?_
   refine L.lenS Try.underlying9 hF rfl rfl rfl ?_
   refine L.bin hF rfl rfl rfl rfl rfl rfl ?_
   refine L.pick hF rfl rfl rfl rfl (L.nil ?_)
   refine WpC.cond rfl (fun hc => ?_) (fun hc => ?_)
   ·replace H := condT hc H
    refine WpC.skip (WpC.seq (WpC.block (WpC.seq (WpC.regionL ?_))))
    refine L.assign hF rfl rfl rfl (L.nil ?_)
    refine WpC.seq (WpC.seq (WpC.regionL ?_))
    refine L.move hF rfl rfl rfl ?_
    refine L.bin hF rfl rfl rfl rfl rfl rfl ?_
    refine L.assign hF rfl rfl rfl (L.nil ?_)
    refine WpC.block ?_
    refine WpC.loopL (P := Try.prog) (fun n σ => ∃ v411 : List UInt8, ∃ v412 : Int, ∃ v413 : Int, ∃ v414 : Int, n ≤ K ∧ Fspec_ReadVar.l26 (Fspec_ReadVar.l22 k22) n v411 v412 v413 v414 = some r ∧ σ = mkSt [(0, one (cS v411)), (4, one (cI v412)), (5, one (cI v413)), (6, one (cI v414))] [] [] 0) k22 ⟨_, ⟨v345, v346, (0 : Int), (IntKind.i64.wrap (v346 - (1 : Int))), by omega, H, rfl⟩, Le.mk [] hm rfl (Sa4 trivial) trivial trivial⟩ ?_
    clear H
    rintro k26 _ ⟨v411, v412, v413, v414, hk26, H, rfl⟩
    cases k26 with
    | zero => cases H
    | succ k26 =>
     rw [Fspec_ReadVar.l26] at H
     refine WpC.seq (WpC.seq (WpC.regionL ?_))
     refine L.move hF rfl rfl rfl ?_
     refine L.bin hF rfl rfl rfl rfl rfl rfl (L.nil ?_)
     refine WpC.cond rfl (fun hc => ?_) (fun hc => ?_)
     ·replace H := condT hc H
      refine WpC.skip (WpC.seq (WpC.block (WpC.regionL ?_)))
      refine L.move hF rfl rfl rfl ?_
      refine L.bin hF rfl rfl rfl rfl rfl rfl ?_
      refine L.move hF rfl rfl rfl ?_
      refine L.move hF rfl rfl rfl ?_
      obtain ⟨b416, hb416, H⟩ := bindS H
      refine L.idxS Try.underlying9 hF rfl rfl rfl rfl hb416 ?_
      refine L.ofB Try.underlying5 Try.underlying3 hF rfl rfl rfl ?_
      refine L.rem hF rfl rfl rfl rfl (by decide) ?_
      refine L.bin hF rfl rfl rfl rfl rfl rfl ?_
      refine L.assign hF rfl rfl rfl (L.nil ?_)
      refine WpC.regionL ?_
      refine L.move hF rfl rfl rfl ?_
      refine L.bin hF rfl rfl rfl rfl rfl rfl ?_
      refine L.assign hF rfl rfl rfl (L.nil ?_)
      exact ⟨k26, _, by omega, ⟨v411, v412, (IntKind.i64.wrap ((IntKind.i64.wrap (v413 * (128 : Int))) + (Int.tmod (b416.toNat : Int) (128 : Int)))), (IntKind.i64.wrap (v414 - (1 : Int))), by omega, H, rfl⟩, Le.mk [] hm rfl (Sa4 trivial) trivial trivial⟩
     ·replace H := condF hc H
      refine WpC.exit (WpC.seq ?_)
      obtain ⟨r417, hr417, H⟩ := bindS H
      obtain ⟨b418, hb418, H⟩ := bindS H
      refine A.begin mixed rfl rfl ?_
      intro W hI hO
      refine hI _ _ _ ?_
      refine Atk 0 rfl (Ca.move) (fun Q0 k0 => L.move hF rfl rfl rfl (L.nil k0)) ?_
      refine Atk 2 rfl (Ca.move) (fun Q0 k0 => L.move hF rfl rfl rfl (L.nil k0)) ?_
      refine Atk 3 rfl (Ca.move) (fun Q0 k0 => L.move hF rfl rfl rfl (L.nil k0)) ?_
      refine Atk 4 rfl (Ca.slice) (fun Q0 k0 => L.cutS Try.underlying9 hF rfl rfl rfl rfl rfl hb418 (L.nil k0)) ?_
      refine A.all [1] (by kernel_rfl) rfl ⟨⟨_, rfl, ?_⟩, trivial⟩
      refine L.call [false] [] [] 0 hF rfl rfl rfl ent68 rfl rfl rfl rfl rfl (Fspec_Var_gives k26  v413 r417 hr417) rfl (L.nil ?_)
      refine Atk 5 rfl (Ca.bin rfl rfl (calm_str _ _ _ _ _ _)) (fun Q0 k0 => L.binS hF rfl rfl rfl rfl rfl (L.nil k0)) ?_
      refine A.le (τ := mkSt [(0, one (cS v411)), (4, one (cI v412)), (5, one (cI v413)), (36, one (cL (r417 == b418)))] [] [] 0) (Le.mk [] hm rfl (Sa4 trivial) trivial trivial) ?_
      refine A.done (by kernel_rfl) ?_
      refine WpC.cond rfl (fun hc => ?_) (fun hc => ?_)
      ·replace H := condT hc H
       refine WpC.seq (WpC.regionL ?_)
       refine L.move hF rfl rfl rfl ?_
       refine L.move hF rfl rfl rfl ?_
       refine L.assign hF rfl rfl rfl ?_
       refine L.assign hF rfl rfl rfl (L.nil ?_)
       refine WpC.ret ?_
       cases H
       exact Leaves.ret rfl rfl rfl ⟨rfl, rfl⟩
      ·replace H := condF hc H
       refine WpC.skip (WpC.regionL ?_)
       refine L.move hF rfl rfl rfl ?_
       refine L.bin hF rfl rfl rfl rfl rfl rfl ?_
       refine L.assign hF rfl rfl rfl (L.nil ?_)
       exact ⟨k22, _, by omega, ⟨v411, (IntKind.i64.wrap (v412 + (1 : Int))), by omega, H, rfl⟩, Le.mk [] hm rfl (Sa2 trivial) trivial trivial⟩
   ·replace H := condF hc H
    refine WpC.exit (WpC.seq (WpC.regionL ?_))
    refine L.assign hF rfl rfl rfl ?_
    refine L.assign hF rfl rfl rfl (L.nil ?_)
    refine WpC.ret ?_
    cases H
    exact Leaves.ret rfl rfl rfl ⟨rfl, rfl⟩
  ·replace H := condF hc H
   refine L.off hF rfl rfl ?_
   refine L.off hF rfl rfl ?_
   refine L.off hF rfl rfl ?_
   refine L.off hF rfl rfl ?_
   refine L.pick hF rfl rfl rfl rfl (L.nil ?_)
   refine WpC.cond rfl (fun hc => by cases hc) (fun _ => ?_)
   refine WpC.exit (WpC.seq (WpC.regionL ?_))
   refine L.assign hF rfl rfl rfl ?_
   refine L.assign hF rfl rfl rfl (L.nil ?_)
   refine WpC.ret ?_
   cases H
   exact Leaves.ret rfl rfl rfl ⟨rfl, rfl⟩
/-! ### Fspec_l14Node -/
def Fspec_l14Node.l4 (cREC : Tspec_l14R → Int → Int → Int → Option (Tspec_l14R × Int)) : Nat → Int → Int → Int → Int → (List UInt8) → (List Timpl_Tlv) → Int → Int → Int → Bool → (List Int) → Option (Tspec_l14R × Int)
 | 0, _, _, _, _, _, _, _, _, _, _, _ => none
 | k4 + 1, v88, v89, v90, v91, v92, v93, v94, v95, v96, v97, v98 => cond (decide (v90 < v91)) ((cREC (⟨v92, v93, v94, v95⟩ : Tspec_l14R) v90 v91 (IntKind.i64.wrap (v89 + (1 : Int)))).bind fun r99 => cond (r99.1.code != (0 : Int)) (some (r99.1, v88)) (cond (decide ((2 * (v98.length + ([(IntKind.i64.wrap ((r99.1.out.length : Int) - (1 : Int)))] : List Int).length) + 192) * 8 ≤ 281474976710656)) ((Fspec_l14Node.l4 cREC k4) v88 v89 r99.2 v91 r99.1.s r99.1.out r99.1.begun r99.1.code v96 v97 (v98 ++ ([(IntKind.i64.wrap ((r99.1.out.length : Int) - (1 : Int)))] : List Int))) none)) (cond (decide ((2 * (v93.length + ([(⟨v96, v97, ([] : List UInt8), v98⟩ : Timpl_Tlv)] : List Timpl_Tlv).length) + 192) * 56 ≤ 281474976710656)) (some ((⟨v92, (v93 ++ ([(⟨v96, v97, ([] : List UInt8), v98⟩ : Timpl_Tlv)] : List Timpl_Tlv)), v94, v95⟩ : Tspec_l14R), v91)) none)
def Fspec_l14Node.j2 (cREC : Tspec_l14R → Int → Int → Int → Option (Tspec_l14R × Int)) (k : Nat) (v16 : Int) (v17 : Int) (v18 : Bool) (v19 : Int) (v20 : Int) (v21 : Int) (v22 : Bool) (v23 : Tspec_l14R) (v24 : Int) : Option (Tspec_l14R × Int) := cond v22 (some ((⟨v23.s, v23.out, v24, (1 : Int)⟩ : Tspec_l14R), v16)) (cond v18 ((cut? v23.s v21 (IntKind.i64.wrap (v21 + v20))).bind fun b27 => cond (decide ((2 * (v23.out.length + ([(⟨v19, v18, b27, []⟩ : Timpl_Tlv)] : List Timpl_Tlv).length) + 192) * 56 ≤ 281474976710656)) (some ((⟨v23.s, (v23.out ++ ([(⟨v19, v18, b27, []⟩ : Timpl_Tlv)] : List Timpl_Tlv)), v24, v23.code⟩ : Tspec_l14R), (IntKind.i64.wrap (v21 + v20)))) none) (Fspec_l14Node.l4 cREC k v16 v17 v21 (IntKind.i64.wrap (v21 + v20)) v23.s v23.out v24 v23.code v19 v18 []))
def Fspec_l14Node : Nat → Tspec_l14R → Int → Int → Int → Option (Tspec_l14R × Int)
 | 0, _, _, _, _ => none
 | k + 1, a0, a1, a2, a3 => cond (decide (a0.begun ≥ (60 : Int))) (some ((⟨a0.s, a0.out, a0.begun, (4 : Int)⟩ : Tspec_l14R), a1)) (cond (decide (a1 ≥ a2)) (some ((⟨a0.s, a0.out, (IntKind.i64.wrap (a0.begun + (1 : Int))), (1 : Int)⟩ : Tspec_l14R), a1)) ((at? a0.s a1).bind fun b1 => (at? a0.s a1).bind fun b2 => (Fspec_l1In k (Int.tmod (b2.toNat : Int) (128 : Int)) (1 : Int) (100 : Int)).bind fun r4 => cond (!r4) (some ((⟨a0.s, a0.out, (IntKind.i64.wrap (a0.begun + (1 : Int))), (2 : Int)⟩ : Tspec_l14R), a1)) (cond (decide (a3 ≥ (8 : Int))) (some ((⟨a0.s, a0.out, (IntKind.i64.wrap (a0.begun + (1 : Int))), (3 : Int)⟩ : Tspec_l14R), a1)) ((cut? a0.s (IntKind.i64.wrap (a1 + (1 : Int))) a2).bind fun b5 => (Fspec_ReadVar k b5).bind fun r6 => cond (r6.2 == (0 : Int)) (Fspec_l14Node.j2 (Fspec_l14Node k) k a1 a3 (decide ((b1.toNat : Int) < (128 : Int))) (Int.tmod (b2.toNat : Int) (128 : Int)) r6.1 (IntKind.i64.wrap ((IntKind.i64.wrap (a1 + (1 : Int))) + r6.2)) true a0 (IntKind.i64.wrap (a0.begun + (1 : Int)))) (Fspec_l14Node.j2 (Fspec_l14Node k) k a1 a3 (decide ((b1.toNat : Int) < (128 : Int))) (Int.tmod (b2.toNat : Int) (128 : Int)) r6.1 (IntKind.i64.wrap ((IntKind.i64.wrap (a1 + (1 : Int))) + r6.2)) (decide (r6.1 > (IntKind.i64.wrap (a2 - (IntKind.i64.wrap ((IntKind.i64.wrap (a1 + (1 : Int))) + r6.2)))))) a0 (IntKind.i64.wrap (a0.begun + (1 : Int))))))))
theorem ent51 : MG.Enters Try.prog 51 := ⟨Try.f51, Try.func51, rfl, by decide⟩
set_option maxHeartbeats 8000000 in
set_option maxRecDepth 100000 in
theorem Fspec_l14Node_gives : ∀ (k : Nat) (a0 : Tspec_l14R) (a1 : Int) (a2 : Int) (a3 : Int) (r : Tspec_l14R × Int) (H : Fspec_l14Node k a0 a1 a2 a3 = some r), Gives Try.prog 51 [V.agg [cS a0.s, Cell.ow 4 (List.map eTimpl_Tlv a0.out), cI a0.begun, cI a0.code], V.one (cI a1), V.one (cI a2), V.one (cI a3)] [] [V.agg [cS r.1.s, Cell.ow 4 (List.map eTimpl_Tlv r.1.out), cI r.1.begun, cI r.1.code], V.one (cI r.2)] [] := by
 intro k
 induction k with
 | zero => intros; rename_i H; cases H
 | succ k ih =>
  intro a0 a1 a2 a3 r H
  refine Gives.intro Try.func51 rfl rfl rfl rfl ?_
  intro F hF hm
  rw [Fspec_l14Node] at H
  obtain ⟨K, hK⟩ : ∃ K, k ≤ K := ⟨k, Nat.le_refl k⟩
  refine WpC.seq (WpC.regionL ?_)
  refine L.box 7 hF rfl rfl rfl rfl ?_
  refine L.alloc 8 info82 rfl hF rfl rfl rfl rfl ?_
  refine L.assign hF rfl rfl rfl (L.nil ?_)
  refine WpC.seq (WpC.seq (WpC.regionL ?_))
  refine L.fieldAddr Try.underlying82 rfl info3 rfl hF rfl rfl rfl rfl rfl ?_
  refine L.loadPtr shape3 hF rfl rfl rfl rfl rfl rfl ?_
  refine L.bin hF rfl rfl rfl rfl rfl rfl (L.nil ?_)
  refine WpC.cond rfl (fun hc => ?_) (fun hc => ?_)
  ·replace H := condT hc H
   refine WpC.seq (WpC.regionL ?_)
   refine L.fieldAddr Try.underlying82 rfl info3 rfl hF rfl rfl rfl rfl rfl ?_
   refine L.storePtr shape3 hF rfl rfl rfl rfl rfl rfl rfl (L.nil ?_)
   refine WpC.seq (WpC.regionL ?_)
   refine L.loadPtr shape82 hF rfl rfl rfl rfl rfl rfl ?_
   refine L.move hF rfl rfl rfl ?_
   refine L.storePtr shape82 hF rfl rfl rfl rfl rfl rfl rfl ?_
   refine L.assign hF rfl rfl rfl (L.nil ?_)
   refine WpC.ret ?_
   cases H
   exact Leaves.ret rfl rfl rfl ⟨rfl, rfl⟩
  ·replace H := condF hc H
   refine WpC.skip (WpC.seq (WpC.regionL ?_))
   refine L.fieldAddr Try.underlying82 rfl info3 rfl hF rfl rfl rfl rfl rfl ?_
   refine L.loadPtr shape3 hF rfl rfl rfl rfl rfl rfl ?_
   refine L.bin hF rfl rfl rfl rfl rfl rfl ?_
   refine L.fieldAddr Try.underlying82 rfl info3 rfl hF rfl rfl rfl rfl rfl ?_
   refine L.storePtr shape3 hF rfl rfl rfl rfl rfl rfl rfl (L.nil ?_)
   refine WpC.seq (WpC.seq (WpC.regionL ?_))
   refine L.move hF rfl rfl rfl ?_
   refine L.move hF rfl rfl rfl ?_
   refine L.bin hF rfl rfl rfl rfl rfl rfl (L.nil ?_)
   refine WpC.cond rfl (fun hc => ?_) (fun hc => ?_)
   ·replace H := condT hc H
    refine WpC.seq (WpC.regionL ?_)
    refine L.fieldAddr Try.underlying82 rfl info3 rfl hF rfl rfl rfl rfl rfl ?_
    refine L.storePtr shape3 hF rfl rfl rfl rfl rfl rfl rfl (L.nil ?_)
    refine WpC.seq (WpC.regionL ?_)
    refine L.loadPtr shape82 hF rfl rfl rfl rfl rfl rfl ?_
    refine L.move hF rfl rfl rfl ?_
    refine L.storePtr shape82 hF rfl rfl rfl rfl rfl rfl rfl ?_
    refine L.assign hF rfl rfl rfl (L.nil ?_)
    refine WpC.ret ?_
    cases H
    exact Leaves.ret rfl rfl rfl ⟨rfl, rfl⟩
   ·replace H := condF hc H
    refine WpC.skip (WpC.seq (WpC.regionL ?_))
    refine L.fieldAddr Try.underlying82 rfl info9 rfl hF rfl rfl rfl rfl rfl ?_
    refine L.loadPtr shape9 hF rfl rfl rfl rfl rfl rfl ?_
    refine L.move hF rfl rfl rfl ?_
    obtain ⟨b1, hb1, H⟩ := bindS H
    refine L.idxS Try.underlying9 hF rfl rfl rfl rfl hb1 ?_
    refine L.ofB Try.underlying5 Try.underlying3 hF rfl rfl rfl ?_
    refine L.bin hF rfl rfl rfl rfl rfl rfl ?_
    refine L.assign hF rfl rfl rfl (L.nil ?_)
    refine WpC.seq (WpC.regionL ?_)
    refine L.fieldAddr Try.underlying82 rfl info9 rfl hF rfl rfl rfl rfl rfl ?_
    refine L.loadPtr shape9 hF rfl rfl rfl rfl rfl rfl ?_
    refine L.move hF rfl rfl rfl ?_
    obtain ⟨b2, hb2, H⟩ := bindS H
    refine L.idxS Try.underlying9 hF rfl rfl rfl rfl hb2 ?_
    refine L.ofB Try.underlying5 Try.underlying3 hF rfl rfl rfl ?_
    refine L.rem hF rfl rfl rfl rfl (by decide) ?_
    refine L.assign hF rfl rfl rfl (L.nil ?_)
    refine WpC.seq (WpC.seq (WpC.regionL ?_))
    refine L.move hF rfl rfl rfl ?_
    obtain ⟨r4, hr4, H⟩ := bindS H
    refine L.call [false, false, false] [] [] 9 hF rfl rfl rfl ent121 rfl rfl rfl rfl rfl (Fspec_l1In_gives k  (Int.tmod (b2.toNat : Int) (128 : Int)) (1 : Int) (100 : Int) r4 hr4) rfl ?_
    refine L.not hF rfl rfl rfl (L.nil ?_)
    refine WpC.cond rfl (fun hc => ?_) (fun hc => ?_)
    ·replace H := condT hc H
     refine WpC.seq (WpC.regionL ?_)
     refine L.fieldAddr Try.underlying82 rfl info3 rfl hF rfl rfl rfl rfl rfl ?_
     refine L.storePtr shape3 hF rfl rfl rfl rfl rfl rfl rfl (L.nil ?_)
     refine WpC.seq (WpC.regionL ?_)
     refine L.loadPtr shape82 hF rfl rfl rfl rfl rfl rfl ?_
     refine L.move hF rfl rfl rfl ?_
     refine L.storePtr shape82 hF rfl rfl rfl rfl rfl rfl rfl ?_
     refine L.assign hF rfl rfl rfl (L.nil ?_)
     refine WpC.ret ?_
     cases H
     exact Leaves.ret rfl rfl rfl ⟨rfl, rfl⟩
    ·replace H := condF hc H
     refine WpC.skip (WpC.seq (WpC.seq (WpC.regionL ?_)))
     refine L.move hF rfl rfl rfl ?_
     refine L.bin hF rfl rfl rfl rfl rfl rfl (L.nil ?_)
     refine WpC.cond rfl (fun hc => ?_) (fun hc => ?_)
     ·replace H := condT hc H
      refine WpC.seq (WpC.regionL ?_)
      refine L.fieldAddr Try.underlying82 rfl info3 rfl hF rfl rfl rfl rfl rfl ?_
      refine L.storePtr shape3 hF rfl rfl rfl rfl rfl rfl rfl (L.nil ?_)
      refine WpC.seq (WpC.regionL ?_)
      refine L.loadPtr shape82 hF rfl rfl rfl rfl rfl rfl ?_
      refine L.move hF rfl rfl rfl ?_
      refine L.storePtr shape82 hF rfl rfl rfl rfl rfl rfl rfl ?_
      refine L.assign hF rfl rfl rfl (L.nil ?_)
      refine WpC.ret ?_
      cases H
      exact Leaves.ret rfl rfl rfl ⟨rfl, rfl⟩
     ·replace H := condF hc H
      refine WpC.skip (WpC.seq (WpC.regionL ?_))
      refine L.fieldAddr Try.underlying82 rfl info9 rfl hF rfl rfl rfl rfl rfl ?_
      refine L.loadPtr shape9 hF rfl rfl rfl rfl rfl rfl ?_
      refine L.move hF rfl rfl rfl ?_
      refine L.bin hF rfl rfl rfl rfl rfl rfl ?_
      refine L.move hF rfl rfl rfl ?_
      obtain ⟨b5, hb5, H⟩ := bindS H
      refine L.cutS Try.underlying9 hF rfl rfl rfl rfl rfl hb5 ?_
      obtain ⟨r6, hr6, H⟩ := bindS H
      refine L.call [false] [] [] 10 hF rfl rfl rfl ent122 rfl rfl rfl rfl rfl (Fspec_ReadVar_gives k  b5 r6 hr6) rfl ?_
      refine L.move hF rfl rfl rfl ?_
      refine L.extract hF rfl rfl rfl rfl ?_
      refine L.extract hF rfl rfl rfl rfl ?_
      refine L.assign hF rfl rfl rfl ?_
      refine L.assign hF rfl rfl rfl (L.nil ?_)
      refine WpC.seq (WpC.regionL ?_)
      refine L.move hF rfl rfl rfl ?_
      refine L.bin hF rfl rfl rfl rfl rfl rfl ?_
      refine L.move hF rfl rfl rfl ?_
      refine L.bin hF rfl rfl rfl rfl rfl rfl ?_
      refine L.assign hF rfl rfl rfl (L.nil ?_)
      refine WpC.seq ?_
      refine WpC.join (fun σ => ∃ kj2 : Nat, ∃ v16 : Int, ∃ v17 : Int, ∃ v18 : Bool, ∃ v19 : Int, ∃ v20 : Int, ∃ v21 : Int, ∃ v22 : Bool, ∃ v23 : Tspec_l14R, ∃ v24 : Int, kj2 ≤ K ∧ Fspec_l14Node.j2 (Fspec_l14Node k) kj2 v16 v17 v18 v19 v20 v21 v22 v23 v24 = some r ∧ σ = mkSt [(1, one (cI v16)), (3, one (cI v17)), (4, one (Cell.ptr 0 0)), (8, one (Cell.ptr 1 0)), (10, one (cL v18)), (11, one (cI v19)), (12, one (cI v20)), (14, one (cI v21)), (80, one (cL v22))] [(2, ⟨4, List.map eTimpl_Tlv v23.out⟩)] [(0, [cS v23.s, Cell.own 2, cI v24, cI v23.code]), (1, [cS ([] : List UInt8), Cell.nil, cI (0 : Int), cI (0 : Int)])] 3) ?_ ?_
      ·rintro _ ⟨kj2, v16, v17, v18, v19, v20, v21, v22, v23, v24, hkj2, H, rfl⟩
       unfold Fspec_l14Node.j2 at H
       refine WpC.cond rfl (fun hc => ?_) (fun hc => ?_)
       ·replace H := condT hc H
        refine WpC.seq (WpC.regionL ?_)
        refine L.fieldAddr Try.underlying82 rfl info3 rfl hF rfl rfl rfl rfl rfl ?_
        refine L.storePtr shape3 hF rfl rfl rfl rfl rfl rfl rfl (L.nil ?_)
        refine WpC.seq (WpC.regionL ?_)
        refine L.loadPtr shape82 hF rfl rfl rfl rfl rfl rfl ?_
        refine L.move hF rfl rfl rfl ?_
        refine L.storePtr shape82 hF rfl rfl rfl rfl rfl rfl rfl ?_
        refine L.assign hF rfl rfl rfl (L.nil ?_)
        refine WpC.ret ?_
        cases H
        exact Leaves.ret rfl rfl rfl ⟨rfl, rfl⟩
       ·replace H := condF hc H
        refine WpC.skip (WpC.seq (WpC.regionL ?_))
        refine L.move hF rfl rfl rfl ?_
        refine L.move hF rfl rfl rfl ?_
        refine L.bin hF rfl rfl rfl rfl rfl rfl ?_
        refine L.assign hF rfl rfl rfl (L.nil ?_)
        refine WpC.seq (WpC.regionL ?_)
        refine L.move hF rfl rfl rfl ?_
        refine L.move hF rfl rfl rfl ?_
        refine L.buildF built45 hF rfl rfl rfl rfl ?_
        refine L.alloc 3 info45 rfl hF rfl rfl rfl rfl ?_
        refine L.storePtr shape45 hF rfl rfl rfl rfl rfl rfl rfl (L.nil ?_)
        refine WpC.seq (WpC.seq (WpC.regionL ?_))
        refine L.move hF rfl rfl rfl (L.nil ?_)
        refine WpC.cond rfl (fun hc => ?_) (fun hc => ?_)
        ·replace H := condT hc H
         refine WpC.seq (WpC.regionL ?_)
         refine L.fieldAddr Try.underlying82 rfl info9 rfl hF rfl rfl rfl rfl rfl ?_
         refine L.loadPtr shape9 hF rfl rfl rfl rfl rfl rfl ?_
         refine L.move hF rfl rfl rfl ?_
         refine L.move hF rfl rfl rfl ?_
         obtain ⟨b27, hb27, H⟩ := bindS H
         refine L.cutS Try.underlying9 hF rfl rfl rfl rfl rfl hb27 ?_
         refine L.fieldAddr Try.underlying45 rfl info9 rfl hF rfl rfl rfl rfl rfl ?_
         refine L.storePtr shape9 hF rfl rfl rfl rfl rfl rfl rfl (L.nil ?_)
         refine WpC.seq (WpC.regionL ?_)
         refine L.fieldAddr Try.underlying82 rfl info22 rfl hF rfl rfl rfl rfl rfl ?_
         refine L.loadPtr shape22 hF rfl rfl rfl rfl rfl rfl ?_
         refine L.loadPtr shape45 hF rfl rfl rfl rfl rfl rfl ?_
         refine L.buildSliceN (e := eTimpl_Tlv) 1 4 ([(⟨v19, v18, b27, []⟩ : Timpl_Tlv)] : List Timpl_Tlv) Try.underlying22 info45 rfl rfl rfl hF rfl rfl rfl rfl rfl rfl rfl rfl ?_
         obtain ⟨h28, H⟩ := condG H
         refine L.appendN (xs := v23.out) (ys := ([(⟨v19, v18, b27, []⟩ : Timpl_Tlv)] : List Timpl_Tlv)) (e := eTimpl_Tlv) 5 Try.underlying22 info45 rfl rfl hF rfl rfl rfl rfl rfl rfl rfl rfl rfl (fun _ _ h1 h2 => by cases h1; cases h2; rfl) Try.underlying22 (of_decide_eq_true h28) rfl rfl ?_
         refine L.fieldAddr Try.underlying82 rfl info22 rfl hF rfl rfl rfl rfl rfl ?_
         refine L.storePtr shape22 hF rfl rfl rfl rfl rfl rfl rfl (L.nil ?_)
         refine WpC.seq (WpC.regionL ?_)
         refine L.loadPtr shape82 hF rfl rfl rfl rfl rfl rfl ?_
         refine L.move hF rfl rfl rfl ?_
         refine L.storePtr shape82 hF rfl rfl rfl rfl rfl rfl rfl ?_
         refine L.assign hF rfl rfl rfl (L.nil ?_)
         refine WpC.ret ?_
         cases H
         exact Leaves.ret rfl rfl rfl ⟨rfl, rfl⟩
        ·replace H := condF hc H
         refine WpC.skip (WpC.seq (WpC.block ?_))
         refine WpC.loopL (P := Try.prog) (fun n σ => ∃ v88 : Int, ∃ v89 : Int, ∃ v90 : Int, ∃ v91 : Int, ∃ v92 : List UInt8, ∃ v93 : List Timpl_Tlv, ∃ v94 : Int, ∃ v95 : Int, ∃ v96 : Int, ∃ v97 : Bool, ∃ v98 : List Int, n ≤ K ∧ Fspec_l14Node.l4 (Fspec_l14Node k) n v88 v89 v90 v91 v92 v93 v94 v95 v96 v97 v98 = some r ∧ σ = mkSt [(1, one (cI v88)), (3, one (cI v89)), (4, one (Cell.ptr 0 0)), (8, one (Cell.ptr 1 0)), (14, one (cI v90)), (15, one (cI v91)), (16, one (Cell.ptr 2 0))] [(3, ⟨4, List.map eTimpl_Tlv v93⟩), (4, ⟨1, List.map eI v98⟩)] [(0, [cS v92, Cell.own 3, cI v94, cI v95]), (1, [cS ([] : List UInt8), Cell.nil, cI (0 : Int), cI (0 : Int)]), (2, [cI v96, cL v97, cS ([] : List UInt8), Cell.own 4])] 5) kj2 ⟨_, ⟨v16, v17, v21, (IntKind.i64.wrap (v21 + v20)), v23.s, v23.out, v24, v23.code, v19, v18, [], by omega, H, rfl⟩, (Le.ownB 3 3 4 1 rfl rfl rfl).trans (Le.mk [(0, 0), (1, 1), (2, 3), (3, 2), (4, 4)] hm rfl (Sa4 (Sa2 (Sa1 trivial))) (Ra2 trivial) (Ba2 (Ba1 trivial)))⟩ ?_
         clear H
         rintro k4 _ ⟨v88, v89, v90, v91, v92, v93, v94, v95, v96, v97, v98, hk4, H, rfl⟩
         cases k4 with
         | zero => cases H
         | succ k4 =>
          rw [Fspec_l14Node.l4] at H
          refine WpC.seq (WpC.seq (WpC.regionL ?_))
          refine L.move hF rfl rfl rfl ?_
          refine L.move hF rfl rfl rfl ?_
          refine L.bin hF rfl rfl rfl rfl rfl rfl (L.nil ?_)
          refine WpC.cond rfl (fun hc => ?_) (fun hc => ?_)
          ·replace H := condT hc H
           refine WpC.skip (WpC.block (WpC.seq (WpC.regionL ?_)))
           refine L.loadPtr shape82 hF rfl rfl rfl rfl rfl rfl ?_
           refine L.move hF rfl rfl rfl ?_
           refine L.move hF rfl rfl rfl ?_
           refine L.move hF rfl rfl rfl ?_
           refine L.bin hF rfl rfl rfl rfl rfl rfl ?_
           obtain ⟨r99, hr99, H⟩ := bindS H
           refine L.call [true, false, false, false] [] [] 5 hF rfl rfl rfl ent51 rfl rfl rfl rfl rfl (ih  (⟨v92, v93, v94, v95⟩ : Tspec_l14R) v90 v91 (IntKind.i64.wrap (v89 + (1 : Int))) r99 hr99) rfl ?_
           refine L.move hF rfl rfl rfl ?_
           refine L.extract hF rfl rfl rfl rfl ?_
           refine L.extract hF rfl rfl rfl rfl ?_
           refine L.alloc 10 info82 rfl hF rfl rfl rfl rfl ?_
           refine L.storePtr shape82 hF rfl rfl rfl rfl rfl rfl rfl ?_
           refine L.assign hF rfl rfl rfl (L.nil ?_)
           refine WpC.seq (WpC.regionL ?_)
           refine L.loadPtr shape82 hF rfl rfl rfl rfl rfl rfl ?_
           refine L.storePtr shape82 hF rfl rfl rfl rfl rfl rfl rfl (L.nil ?_)
           refine WpC.seq (WpC.seq (WpC.regionL ?_))
           refine L.fieldAddr Try.underlying82 rfl info3 rfl hF rfl rfl rfl rfl rfl ?_
           refine L.loadPtr shape3 hF rfl rfl rfl rfl rfl rfl ?_
           refine L.bin hF rfl rfl rfl rfl rfl rfl (L.nil ?_)
           refine WpC.cond rfl (fun hc => ?_) (fun hc => ?_)
           ·replace H := condT hc H
            refine WpC.seq (WpC.regionL ?_)
            refine L.loadPtr shape82 hF rfl rfl rfl rfl rfl rfl ?_
            refine L.move hF rfl rfl rfl ?_
            refine L.storePtr shape82 hF rfl rfl rfl rfl rfl rfl rfl ?_
            refine L.assign hF rfl rfl rfl (L.nil ?_)
            refine WpC.ret ?_
            cases H
            exact Leaves.ret rfl rfl rfl ⟨rfl, rfl⟩
           ·replace H := condF hc H
            refine WpC.skip (WpC.seq (WpC.regionL ?_))
            refine L.fieldAddr Try.underlying45 rfl info39 rfl hF rfl rfl rfl rfl rfl ?_
            refine L.loadPtr shape39 hF rfl rfl rfl rfl rfl rfl ?_
            refine L.fieldAddr Try.underlying82 rfl info22 rfl hF rfl rfl rfl rfl rfl ?_
            refine L.loadPtr shape22 hF rfl rfl rfl rfl rfl rfl ?_
            refine L.lenR (xs := r99.1.out) (e := eTimpl_Tlv) Try.underlying22 hF rfl rfl rfl rfl ?_
            refine L.bin hF rfl rfl rfl rfl rfl rfl ?_
            refine L.buildSlice (e := eI) 11 ([(IntKind.i64.wrap ((r99.1.out.length : Int) - (1 : Int)))] : List Int) Try.underlying39 info3 rfl rfl rfl hF rfl rfl rfl rfl rfl rfl rfl rfl ?_
            obtain ⟨h100, H⟩ := condG H
            refine L.append (xs := v98) (ys := ([(IntKind.i64.wrap ((r99.1.out.length : Int) - (1 : Int)))] : List Int)) (e := eI) 12 Try.underlying39 info3 rfl rfl hF rfl rfl rfl rfl rfl rfl rfl rfl (fun _ => rfl) (fun _ _ h1 h2 => by cases h1; cases h2; rfl) ⟨_, Try.underlying39⟩ (of_decide_eq_true h100) rfl rfl ?_
            refine L.fieldAddr Try.underlying45 rfl info39 rfl hF rfl rfl rfl rfl rfl ?_
            refine L.storePtr shape39 hF rfl rfl rfl rfl rfl rfl rfl (L.nil ?_)
            refine WpC.regionL ?_
            refine L.move hF rfl rfl rfl ?_
            refine L.assign hF rfl rfl rfl (L.nil ?_)
            exact ⟨k4, _, by omega, ⟨v88, v89, r99.2, v91, r99.1.s, r99.1.out, r99.1.begun, r99.1.code, v96, v97, (v98 ++ ([(IntKind.i64.wrap ((r99.1.out.length : Int) - (1 : Int)))] : List Int)), by omega, H, rfl⟩, Le.mk [(0, 0), (1, 1), (2, 2), (3, 6), (4, 12)] hm rfl (Sa4 (Sa2 (Sa1 trivial))) (Ra2 trivial) (Ba2 (Ba1 trivial))⟩
          ·replace H := condF hc H
           refine WpC.exit (WpC.seq (WpC.regionL ?_))
           refine L.fieldAddr Try.underlying82 rfl info22 rfl hF rfl rfl rfl rfl rfl ?_
           refine L.loadPtr shape22 hF rfl rfl rfl rfl rfl rfl ?_
           refine L.loadPtr shape45 hF rfl rfl rfl rfl rfl rfl ?_
           refine L.buildSliceN (e := eTimpl_Tlv) 1 5 ([(⟨v96, v97, ([] : List UInt8), v98⟩ : Timpl_Tlv)] : List Timpl_Tlv) Try.underlying22 info45 rfl rfl rfl hF rfl rfl rfl rfl rfl rfl rfl rfl ?_
           obtain ⟨h101, H⟩ := condG H
           refine L.appendN (xs := v93) (ys := ([(⟨v96, v97, ([] : List UInt8), v98⟩ : Timpl_Tlv)] : List Timpl_Tlv)) (e := eTimpl_Tlv) 6 Try.underlying22 info45 rfl rfl hF rfl rfl rfl rfl rfl rfl rfl rfl rfl (fun _ _ h1 h2 => by cases h1; cases h2; rfl) Try.underlying22 (of_decide_eq_true h101) rfl rfl ?_
           refine L.fieldAddr Try.underlying82 rfl info22 rfl hF rfl rfl rfl rfl rfl ?_
           refine L.storePtr shape22 hF rfl rfl rfl rfl rfl rfl rfl (L.nil ?_)
           refine WpC.seq (WpC.regionL ?_)
           refine L.loadPtr shape82 hF rfl rfl rfl rfl rfl rfl ?_
           refine L.move hF rfl rfl rfl ?_
           refine L.storePtr shape82 hF rfl rfl rfl rfl rfl rfl rfl ?_
           refine L.assign hF rfl rfl rfl (L.nil ?_)
           refine WpC.ret ?_
           cases H
           exact Leaves.ret rfl rfl rfl ⟨rfl, rfl⟩
      ·refine WpC.regionL ?_
       refine L.move hF rfl rfl rfl ?_
       refine L.bin hF rfl rfl rfl rfl rfl rfl ?_
       refine L.move hF rfl rfl rfl ?_
       refine L.split (fun hc => ?_) (fun hc => ?_)
       ·replace H := condT hc H
        refine L.off hF rfl rfl ?_
        refine L.off hF rfl rfl ?_
        refine L.off hF rfl rfl ?_
        refine L.off hF rfl rfl ?_
        refine L.off hF rfl rfl ?_
        refine L.pick hF rfl rfl rfl rfl (L.nil ?_)
        exact ⟨_, ⟨k, a1, a3, (decide ((b1.toNat : Int) < (128 : Int))), (Int.tmod (b2.toNat : Int) (128 : Int)), r6.1, (IntKind.i64.wrap ((IntKind.i64.wrap (a1 + (1 : Int))) + r6.2)), true, a0, (IntKind.i64.wrap (a0.begun + (1 : Int))), by omega, H, rfl⟩, Le.mk [(0, 7), (1, 8), (2, 1)] hm rfl (Sa8 (Sa1 trivial)) (Ra1 trivial) (Ba2 trivial)⟩
       ·replace H := condF hc H
        refine L.move hF rfl rfl rfl ?_
        refine L.move hF rfl rfl rfl ?_
        refine L.move hF rfl rfl rfl ?_
        refine L.bin hF rfl rfl rfl rfl rfl rfl ?_
        refine L.bin hF rfl rfl rfl rfl rfl rfl ?_
        refine L.pick hF rfl rfl rfl rfl (L.nil ?_)
        exact ⟨_, ⟨k, a1, a3, (decide ((b1.toNat : Int) < (128 : Int))), (Int.tmod (b2.toNat : Int) (128 : Int)), r6.1, (IntKind.i64.wrap ((IntKind.i64.wrap (a1 + (1 : Int))) + r6.2)), (decide (r6.1 > (IntKind.i64.wrap (a2 - (IntKind.i64.wrap ((IntKind.i64.wrap (a1 + (1 : Int))) + r6.2)))))), a0, (IntKind.i64.wrap (a0.begun + (1 : Int))), by omega, H, rfl⟩, Le.mk [(0, 7), (1, 8), (2, 1)] hm rfl (Sa8 (Sa1 trivial)) (Ra1 trivial) (Ba2 trivial)⟩
/-! ### Fspec_ReadTlv -/
def Fspec_ReadTlv (k : Nat) (a0 : List UInt8) : Option (List Timpl_Tlv × Int) := cond (decide ((a0.length : Int) > (900 : Int))) (some (([] : List Timpl_Tlv), (4 : Int))) ((Fspec_l14Node k (⟨a0, [], (0 : Int), (0 : Int)⟩ : Tspec_l14R) (0 : Int) (a0.length : Int) (0 : Int)).bind fun r1 => cond (r1.1.code != (0 : Int)) (some (([] : List Timpl_Tlv), r1.1.code)) (cond (r1.2 != (a0.length : Int)) (some (([] : List Timpl_Tlv), (5 : Int))) (some (r1.1.out, (0 : Int)))))
theorem ent11 : MG.Enters Try.prog 11 := ⟨Try.f11, Try.func11, rfl, by decide⟩
set_option maxHeartbeats 8000000 in
set_option maxRecDepth 100000 in
theorem Fspec_ReadTlv_gives (k : Nat) (a0 : List UInt8) (r : List Timpl_Tlv × Int) (H : Fspec_ReadTlv k a0 = some r) : Gives Try.prog 11 [V.one (cS a0)] [] [V.one (Cell.ow 4 (List.map eTimpl_Tlv r.1)), V.one (cI r.2)] [] := by
 refine Gives.intro Try.func11 rfl rfl rfl rfl ?_
 intro F hF hm
 unfold Fspec_ReadTlv at H
 obtain ⟨K, hK⟩ : ∃ K, k ≤ K := ⟨k, Nat.le_refl k⟩
 refine WpC.seq (WpC.regionL ?_)
 refine L.assign hF rfl rfl rfl ?_
 refine L.assign hF rfl rfl rfl (L.nil ?_)
 refine WpC.seq (WpC.seq (WpC.regionL ?_))
 refine L.move hF rfl rfl rfl ?_
 refine L.lenS Try.underlying9 hF rfl rfl rfl ?_
 refine L.bin hF rfl rfl rfl rfl rfl rfl (L.nil ?_)
 refine WpC.cond rfl (fun hc => ?_) (fun hc => ?_)
 ·replace H := condT hc H
  refine WpC.seq (WpC.regionL ?_)
  refine L.buildSliceN (e := eTimpl_Tlv) 1 1 ([] : List Timpl_Tlv) Try.underlying22 info45 rfl rfl rfl hF rfl rfl rfl rfl rfl rfl rfl rfl ?_
  refine L.assign hF rfl rfl rfl ?_
  refine L.assign hF rfl rfl rfl (L.nil ?_)
  refine WpC.ret ?_
  cases H
  exact Leaves.ret rfl rfl rfl ⟨rfl, rfl⟩
 ·replace H := condF hc H
  refine WpC.skip (WpC.seq (WpC.regionL ?_))
  refine L.move hF rfl rfl rfl ?_
  refine L.buildF built82 hF rfl rfl rfl rfl ?_
  refine L.move hF rfl rfl rfl ?_
  refine L.lenS Try.underlying9 hF rfl rfl rfl ?_
  refine L.le (Le.own 12 1 1 4 rfl rfl rfl) ?_
  obtain ⟨r1, hr1, H⟩ := bindS H
  refine L.call [true, false, false, false] [] [] 2 hF rfl rfl rfl ent51 rfl rfl rfl rfl rfl (Fspec_l14Node_gives k  (⟨a0, [], (0 : Int), (0 : Int)⟩ : Tspec_l14R) (0 : Int) (a0.length : Int) (0 : Int) r1 hr1) rfl ?_
  refine L.move hF rfl rfl rfl ?_
  refine L.extract hF rfl rfl rfl rfl ?_
  refine L.extract hF rfl rfl rfl rfl ?_
  refine L.alloc 7 info82 rfl hF rfl rfl rfl rfl ?_
  refine L.storePtr shape82 hF rfl rfl rfl rfl rfl rfl rfl ?_
  refine L.assign hF rfl rfl rfl (L.nil ?_)
  refine WpC.seq (WpC.seq (WpC.regionL ?_))
  refine L.fieldAddr Try.underlying82 rfl info3 rfl hF rfl rfl rfl rfl rfl ?_
  refine L.loadPtr shape3 hF rfl rfl rfl rfl rfl rfl ?_
  refine L.bin hF rfl rfl rfl rfl rfl rfl (L.nil ?_)
  refine WpC.cond rfl (fun hc => ?_) (fun hc => ?_)
  ·replace H := condT hc H
   refine WpC.seq ?_
   refine A.begin mixed rfl rfl ?_
   intro W hI hO
   have n15 : W 1 #[true, true, true, true, false] (mkSt [(2, one (Cell.own 0)), (3, one (cI (0 : Int))), (23, one (cI r1.1.code))] [(0, ⟨4, List.map eTimpl_Tlv ([] : List Timpl_Tlv)⟩)] [] 1) := by
    refine hI _ _ _ ?_
    refine Atk 4 rfl (Ca.assign) (fun Q0 k0 => L.assign hF rfl rfl rfl (L.nil k0)) ?_
    refine A.le (τ := mkSt [(2, one (Cell.own 0)), (3, one (cI r1.1.code))] [(0, ⟨4, List.map eTimpl_Tlv ([] : List Timpl_Tlv)⟩)] [] 1) (Le.mk [(0, 0)] hm rfl (Sa2 trivial) (Ra1 trivial) trivial) ?_
    refine A.done (by kernel_rfl) ?_
    refine WpC.ret ?_
    cases H
    exact Leaves.ret rfl rfl rfl ⟨rfl, rfl⟩
   refine hI _ _ _ ?_
   refine Atk 1 rfl (Ca.fieldAddr Try.underlying82 rfl info3 rfl) (fun Q0 k0 => L.fieldAddr Try.underlying82 rfl info3 rfl hF rfl rfl rfl rfl rfl (L.nil k0)) ?_
   refine A.all [0, 2] (by kernel_rfl) rfl ⟨⟨_, rfl, ?_⟩, ⟨_, rfl, ?_⟩, trivial⟩
   ·refine L.buildSliceN (e := eTimpl_Tlv) 1 8 ([] : List Timpl_Tlv) Try.underlying22 info45 rfl rfl rfl hF rfl rfl rfl rfl rfl rfl rfl rfl (L.nil ?_)
    refine Atk 3 rfl (Ca.assign) (fun Q0 k0 => L.assign hF rfl rfl rfl (L.nil k0)) ?_
    refine A.all [2] (by kernel_rfl) rfl ⟨⟨_, rfl, ?_⟩, trivial⟩
    refine L.loadPtr shape3 hF rfl rfl rfl rfl rfl rfl (L.nil ?_)
    exact A.on (hO _ _ _ n15) (Le.mk [(0, 8)] hm rfl (Sa2 (Sa1 trivial)) (Ra1 trivial) trivial)
   ·refine L.loadPtr shape3 hF rfl rfl rfl rfl rfl rfl (L.nil ?_)
    refine A.all [0] (by kernel_rfl) rfl ⟨⟨_, rfl, ?_⟩, trivial⟩
    refine L.buildSliceN (e := eTimpl_Tlv) 1 8 ([] : List Timpl_Tlv) Try.underlying22 info45 rfl rfl rfl hF rfl rfl rfl rfl rfl rfl rfl rfl (L.nil ?_)
    refine Atk 3 rfl (Ca.assign) (fun Q0 k0 => L.assign hF rfl rfl rfl (L.nil k0)) ?_
    exact A.on (hO _ _ _ n15) (Le.mk [(0, 8)] hm rfl (Sa2 (Sa1 trivial)) (Ra1 trivial) trivial)
  ·replace H := condF hc H
   refine WpC.skip (WpC.seq (WpC.seq (WpC.regionL ?_)))
   refine L.move hF rfl rfl rfl ?_
   refine L.move hF rfl rfl rfl ?_
   refine L.lenS Try.underlying9 hF rfl rfl rfl ?_
   refine L.bin hF rfl rfl rfl rfl rfl rfl (L.nil ?_)
   refine WpC.cond rfl (fun hc => ?_) (fun hc => ?_)
   ·replace H := condT hc H
    refine WpC.seq (WpC.regionL ?_)
    refine L.buildSliceN (e := eTimpl_Tlv) 1 8 ([] : List Timpl_Tlv) Try.underlying22 info45 rfl rfl rfl hF rfl rfl rfl rfl rfl rfl rfl rfl ?_
    refine L.assign hF rfl rfl rfl ?_
    refine L.assign hF rfl rfl rfl (L.nil ?_)
    refine WpC.ret ?_
    cases H
    exact Leaves.ret rfl rfl rfl ⟨rfl, rfl⟩
   ·replace H := condF hc H
    refine WpC.skip (WpC.seq (WpC.regionL ?_))
    refine L.fieldAddr Try.underlying82 rfl info22 rfl hF rfl rfl rfl rfl rfl ?_
    refine L.loadPtr shape22 hF rfl rfl rfl rfl rfl rfl ?_
    refine L.assign hF rfl rfl rfl ?_
    refine L.assign hF rfl rfl rfl (L.nil ?_)
    refine WpC.ret ?_
    cases H
    exact Leaves.ret rfl rfl rfl ⟨rfl, rfl⟩
/-! ### Fspec_l14Same -/
def Fspec_l14Same.l14 (cl12 : (List Timpl_Tlv) → (List Timpl_Tlv) → Int → Option Bool) : Nat → (List Timpl_Tlv) → (List Timpl_Tlv) → Int → Int → Timpl_Tlv → Timpl_Tlv → Option Bool
 | 0, _, _, _, _, _, _ => none
 | k14 + 1, v367, v368, v369, v370, v371, v372 => cond (decide (v370 < (v371.Kids.length : Int))) ((at? v371.Kids v370).bind fun b375 => (at? v372.Kids v370).bind fun b376 => cond (b375 != b376) (some false) ((Fspec_l14Same.l14 cl12 k14) v367 v368 v369 (IntKind.i64.wrap (v370 + (1 : Int))) v371 v372)) (cl12 v367 v368 (IntKind.i64.wrap (v369 + (1 : Int))))
def Fspec_l14Same.l12 : Nat → (List Timpl_Tlv) → (List Timpl_Tlv) → Int → Option Bool
 | 0, _, _, _ => none
 | k12 + 1, v312, v313, v314 => cond (decide (v314 < (v312.length : Int))) ((at? v312 v314).bind fun b346 => (at? v313 v314).bind fun b347 => cond (b346.Tag != b347.Tag) (some false) (cond (b346.Leaf != b347.Leaf) (some false) (cond (b346.Data != b347.Data) (some false) (cond ((b346.Kids.length : Int) != (b347.Kids.length : Int)) (some false) (Fspec_l14Same.l14 (Fspec_l14Same.l12 k12) k12 v312 v313 v314 (0 : Int) b346 b347))))) (some true)
def Fspec_l14Same (k : Nat) (a0 : List Timpl_Tlv) (a1 : List Timpl_Tlv) : Option Bool := cond ((a0.length : Int) != (a1.length : Int)) (some false) (Fspec_l14Same.l12 k a0 a1 (0 : Int))
theorem ent77 : MG.Enters Try.prog 77 := ⟨Try.f77, Try.func77, rfl, by decide⟩
set_option maxHeartbeats 8000000 in
set_option maxRecDepth 100000 in
theorem Fspec_l14Same_gives (k : Nat) (g0 : Bool) (g1 : Bool) (a0 : List Timpl_Tlv) (a1 : List Timpl_Tlv) (r : Bool) (H : Fspec_l14Same k a0 a1 = some r) : Gives Try.prog 77 [V.one (Cell.sl g0 (List.map eTimpl_Tlv a0)), V.one (Cell.sl g1 (List.map eTimpl_Tlv a1))] [] [V.one (cL r)] [] := by
 refine Gives.intro Try.func77 rfl rfl rfl rfl ?_
 intro F hF hm
 unfold Fspec_l14Same at H
 obtain ⟨K, hK⟩ : ∃ K, k ≤ K := ⟨k, Nat.le_refl k⟩
 refine WpC.seq (WpC.regionL ?_)
 refine L.assign hF rfl rfl rfl (L.nil ?_)
 refine WpC.seq (WpC.seq (WpC.regionL ?_))
 refine L.move hF rfl rfl rfl ?_
 refine L.lenR (xs := a0) (e := eTimpl_Tlv) Try.underlying22 hF rfl rfl rfl rfl ?_
 refine L.move hF rfl rfl rfl ?_
 refine L.lenR (xs := a1) (e := eTimpl_Tlv) Try.underlying22 hF rfl rfl rfl rfl ?_
 refine L.bin hF rfl rfl rfl rfl rfl rfl (L.nil ?_)
 refine WpC.cond rfl (fun hc => ?_) (fun hc => ?_)
 ·replace H := condT hc H
  refine WpC.seq (WpC.regionL ?_)
  refine L.assign hF rfl rfl rfl (L.nil ?_)
  refine WpC.ret ?_
  cases H
  exact Leaves.ret rfl rfl rfl ⟨rfl, rfl⟩
 ·replace H := condF hc H
  refine WpC.skip (WpC.seq (WpC.seq (WpC.regionL ?_)))
  refine L.assign hF rfl rfl rfl (L.nil ?_)
  refine WpC.block ?_
  refine WpC.loopL (P := Try.prog) (fun n σ => ∃ v312 : List Timpl_Tlv, ∃ v313 : List Timpl_Tlv, ∃ v314 : Int, n ≤ K ∧ Fspec_l14Same.l12 n v312 v313 v314 = some r ∧ σ = mkSt [(0, one (Cell.sl g0 (List.map eTimpl_Tlv v312))), (1, one (Cell.sl g1 (List.map eTimpl_Tlv v313))), (5, one (cI v314))] [] [] 0) k ⟨_, ⟨a0, a1, (0 : Int), by omega, H, rfl⟩, Le.mk [] hm rfl (Sa2 (Sa1 trivial)) trivial trivial⟩ ?_
  clear H
  rintro k12 _ ⟨v312, v313, v314, hk12, H, rfl⟩
  cases k12 with
  | zero => cases H
  | succ k12 =>
   rw [Fspec_l14Same.l12] at H
   refine WpC.seq (WpC.seq (WpC.regionL ?_))
   refine L.move hF rfl rfl rfl ?_
   refine L.move hF rfl rfl rfl ?_
   refine L.lenR (xs := v312) (e := eTimpl_Tlv) Try.underlying22 hF rfl rfl rfl rfl ?_
   refine L.bin hF rfl rfl rfl rfl rfl rfl (L.nil ?_)
   refine WpC.cond rfl (fun hc => ?_) (fun hc => ?_)
   ·replace H := condT hc H
    refine WpC.skip (WpC.seq (WpC.block (WpC.seq (WpC.regionL ?_))))
    refine L.move hF rfl rfl rfl ?_
    refine L.move hF rfl rfl rfl ?_
    obtain ⟨b346, hb346, H⟩ := bindS H
    refine L.idxR (xs := v312) (e := eTimpl_Tlv) Try.underlying22 info45 hF rfl rfl rfl rfl rfl hb346 rfl rfl ?_
    refine L.loadPe shape45 hF rfl rfl rfl rfl rfl ?_
    refine L.alloc 0 info45 rfl hF rfl rfl rfl rfl ?_
    refine L.storePtr shape45 hF rfl rfl rfl rfl rfl rfl rfl (L.nil ?_)
    refine WpC.seq (WpC.regionL ?_)
    refine L.move hF rfl rfl rfl ?_
    refine L.move hF rfl rfl rfl ?_
    obtain ⟨b347, hb347, H⟩ := bindS H
    refine L.idxR (xs := v313) (e := eTimpl_Tlv) Try.underlying22 info45 hF rfl rfl rfl rfl rfl hb347 rfl rfl ?_
    refine L.loadPe shape45 hF rfl rfl rfl rfl rfl ?_
    refine L.alloc 1 info45 rfl hF rfl rfl rfl rfl ?_
    refine L.storePtr shape45 hF rfl rfl rfl rfl rfl rfl rfl (L.nil ?_)
    refine WpC.seq (WpC.seq (WpC.regionL ?_))
    refine L.fieldAddr Try.underlying45 rfl info3 rfl hF rfl rfl rfl rfl rfl ?_
    refine L.loadPtr shape3 hF rfl rfl rfl rfl rfl rfl ?_
    refine L.fieldAddr Try.underlying45 rfl info3 rfl hF rfl rfl rfl rfl rfl ?_
    refine L.loadPtr shape3 hF rfl rfl rfl rfl rfl rfl ?_
    refine L.bin hF rfl rfl rfl rfl rfl rfl ?_
    refine L.move hF rfl rfl rfl ?_
    refine L.split (fun hc => ?_) (fun hc => ?_)
    ·replace H := condT hc H
     refine L.off hF rfl rfl ?_
     refine L.off hF rfl rfl ?_
     refine L.off hF rfl rfl ?_
     refine L.off hF rfl rfl ?_
     refine L.off hF rfl rfl ?_
     refine L.pick hF rfl rfl rfl rfl ?_
     refine L.move hF rfl rfl rfl ?_
     refine L.off hF rfl rfl ?_
     refine L.off hF rfl rfl ?_
     refine L.off hF rfl rfl ?_
     refine L.off hF rfl rfl ?_
     refine L.off hF rfl rfl ?_
     refine L.pick hF rfl rfl rfl rfl ?_
     refine L.move hF rfl rfl rfl ?_
     refine L.off hF rfl rfl ?_
     refine L.off hF rfl rfl ?_
     refine L.off hF rfl rfl ?_
     refine L.off hF rfl rfl ?_
     refine L.off hF rfl rfl ?_
     refine L.off hF rfl rfl ?_
     refine L.off hF rfl rfl ?_
     refine L.pick hF rfl rfl rfl rfl (L.nil ?_)
     refine WpC.cond rfl (fun _ => ?_) (fun hc => by cases hc)
     refine WpC.seq (WpC.regionL ?_)
     refine L.assign hF rfl rfl rfl (L.nil ?_)
     refine WpC.ret ?_
     cases H
     exact Leaves.ret rfl rfl rfl ⟨rfl, rfl⟩
    ·replace H := condF hc H
     refine L.fieldAddr Try.underlying45 rfl info4 rfl hF rfl rfl rfl rfl rfl ?_
     refine L.loadPtr shape4 hF rfl rfl rfl rfl rfl rfl ?_
     refine L.fieldAddr Try.underlying45 rfl info4 rfl hF rfl rfl rfl rfl rfl ?_
     refine L.loadPtr shape4 hF rfl rfl rfl rfl rfl rfl ?_
     refine L.neL Try.underlying4 hF rfl rfl rfl rfl ?_
     refine L.pick hF rfl rfl rfl rfl ?_
     refine L.move hF rfl rfl rfl ?_
     refine L.split (fun hc => ?_) (fun hc => ?_)
     ·replace H := condT hc H
      refine L.off hF rfl rfl ?_
      refine L.off hF rfl rfl ?_
      refine L.off hF rfl rfl ?_
      refine L.off hF rfl rfl ?_
      refine L.off hF rfl rfl ?_
      refine L.pick hF rfl rfl rfl rfl ?_
      refine L.move hF rfl rfl rfl ?_
      refine L.off hF rfl rfl ?_
      refine L.off hF rfl rfl ?_
      refine L.off hF rfl rfl ?_
      refine L.off hF rfl rfl ?_
      refine L.off hF rfl rfl ?_
      refine L.off hF rfl rfl ?_
      refine L.off hF rfl rfl ?_
      refine L.pick hF rfl rfl rfl rfl (L.nil ?_)
      refine WpC.cond rfl (fun _ => ?_) (fun hc => by cases hc)
      refine WpC.seq (WpC.regionL ?_)
      refine L.assign hF rfl rfl rfl (L.nil ?_)
      refine WpC.ret ?_
      cases H
      exact Leaves.ret rfl rfl rfl ⟨rfl, rfl⟩
     ·replace H := condF hc H
      refine L.fieldAddr Try.underlying45 rfl info9 rfl hF rfl rfl rfl rfl rfl ?_
      refine L.loadPtr shape9 hF rfl rfl rfl rfl rfl rfl ?_
      refine L.fieldAddr Try.underlying45 rfl info9 rfl hF rfl rfl rfl rfl rfl ?_
      refine L.loadPtr shape9 hF rfl rfl rfl rfl rfl rfl ?_
      refine L.binS hF rfl rfl rfl rfl rfl ?_
      refine L.pick hF rfl rfl rfl rfl ?_
      refine L.move hF rfl rfl rfl ?_
      refine L.split (fun hc => ?_) (fun hc => ?_)
      ·replace H := condT hc H
       refine L.off hF rfl rfl ?_
       refine L.off hF rfl rfl ?_
       refine L.off hF rfl rfl ?_
       refine L.off hF rfl rfl ?_
       refine L.off hF rfl rfl ?_
       refine L.off hF rfl rfl ?_
       refine L.off hF rfl rfl ?_
       refine L.pick hF rfl rfl rfl rfl (L.nil ?_)
       refine WpC.cond rfl (fun _ => ?_) (fun hc => by cases hc)
       refine WpC.seq (WpC.regionL ?_)
       refine L.assign hF rfl rfl rfl (L.nil ?_)
       refine WpC.ret ?_
       cases H
       exact Leaves.ret rfl rfl rfl ⟨rfl, rfl⟩
      ·replace H := condF hc H
       refine L.fieldAddr Try.underlying45 rfl info39 rfl hF rfl rfl rfl rfl rfl ?_
       refine L.loadPtr shape39 hF rfl rfl rfl rfl rfl rfl ?_
       refine L.lenR (xs := b346.Kids) (e := eI) Try.underlying39 hF rfl rfl rfl rfl ?_
       refine L.fieldAddr Try.underlying45 rfl info39 rfl hF rfl rfl rfl rfl rfl ?_
       refine L.loadPtr shape39 hF rfl rfl rfl rfl rfl rfl ?_
       refine L.lenR (xs := b347.Kids) (e := eI) Try.underlying39 hF rfl rfl rfl rfl ?_
       refine L.bin hF rfl rfl rfl rfl rfl rfl ?_
       refine L.pick hF rfl rfl rfl rfl (L.nil ?_)
       refine WpC.cond rfl (fun hc => ?_) (fun hc => ?_)
       ·replace H := condT hc H
        refine WpC.seq (WpC.regionL ?_)
        refine L.assign hF rfl rfl rfl (L.nil ?_)
        refine WpC.ret ?_
        cases H
        exact Leaves.ret rfl rfl rfl ⟨rfl, rfl⟩
       ·replace H := condF hc H
        refine WpC.skip (WpC.seq (WpC.regionL ?_))
        refine L.assign hF rfl rfl rfl (L.nil ?_)
        refine WpC.block ?_
        refine WpC.loopL (P := Try.prog) (fun n σ => ∃ v367 : List Timpl_Tlv, ∃ v368 : List Timpl_Tlv, ∃ v369 : Int, ∃ v370 : Int, ∃ v371 : Timpl_Tlv, ∃ v372 : Timpl_Tlv, n ≤ K ∧ Fspec_l14Same.l14 (Fspec_l14Same.l12 k12) n v367 v368 v369 v370 v371 v372 = some r ∧ σ = mkSt [(0, one (Cell.sl g0 (List.map eTimpl_Tlv v367))), (1, one (Cell.sl g1 (List.map eTimpl_Tlv v368))), (5, one (cI v369)), (6, one (Cell.ptr 0 0)), (7, one (Cell.ptr 1 0)), (8, one (cI v370))] [] [(0, (bTimpl_Tlv g0 v371)), (1, (bTimpl_Tlv g1 v372))] 2) k12 ⟨_, ⟨v312, v313, v314, (0 : Int), b346, b347, by omega, H, rfl⟩, Le.mk [(0, 0), (1, 1)] hm rfl (Sa4 (Sa2 trivial)) trivial (Ba2 trivial)⟩ ?_
        clear H
        rintro k14 _ ⟨v367, v368, v369, v370, v371, v372, hk14, H, rfl⟩
        cases k14 with
        | zero => cases H
        | succ k14 =>
         rw [Fspec_l14Same.l14] at H
         refine WpC.seq (WpC.seq (WpC.regionL ?_))
         refine L.move hF rfl rfl rfl ?_
         refine L.fieldAddr Try.underlying45 rfl info39 rfl hF rfl rfl rfl rfl rfl ?_
         refine L.loadPtr shape39 hF rfl rfl rfl rfl rfl rfl ?_
         refine L.lenR (xs := v371.Kids) (e := eI) Try.underlying39 hF rfl rfl rfl rfl ?_
         refine L.bin hF rfl rfl rfl rfl rfl rfl (L.nil ?_)
         refine WpC.cond rfl (fun hc => ?_) (fun hc => ?_)
         ·replace H := condT hc H
          refine WpC.skip (WpC.seq (WpC.block (WpC.seq ?_)))
          refine S.begin mixed (by kernel_rfl) ?_
          refine S.st 0 rfl rfl ((Ca.fieldAddr Try.underlying45 rfl info39 rfl).quiet) (fun Q0 k0 => L.fieldAddr Try.underlying45 rfl info39 rfl hF rfl rfl rfl rfl rfl (L.nil k0)) ?_
          refine S.st 1 rfl rfl (Qu.load) (fun Q0 k0 => L.loadPtr shape39 hF rfl rfl rfl rfl rfl rfl (L.nil k0)) ?_
          refine S.st 2 rfl rfl ((Ca.move).quiet) (fun Q0 k0 => L.move hF rfl rfl rfl (L.nil k0)) ?_
          obtain ⟨b375, hb375, H⟩ := bindS H
          refine S.st 3 rfl rfl ((Ca.indexAddr).quiet) (fun Q0 k0 => L.idxR (xs := v371.Kids) (e := eI) Try.underlying39 info3 hF rfl rfl rfl rfl rfl hb375 rfl rfl (L.nil k0)) ?_
          refine S.st 4 rfl rfl (Qu.load) (fun Q0 k0 => L.loadPe shape3 hF rfl rfl rfl rfl rfl (L.nil k0)) ?_
          refine S.st 5 rfl rfl ((Ca.fieldAddr Try.underlying45 rfl info39 rfl).quiet) (fun Q0 k0 => L.fieldAddr Try.underlying45 rfl info39 rfl hF rfl rfl rfl rfl rfl (L.nil k0)) ?_
          refine S.st 6 rfl rfl (Qu.load) (fun Q0 k0 => L.loadPtr shape39 hF rfl rfl rfl rfl rfl rfl (L.nil k0)) ?_
          refine S.st 7 rfl rfl ((Ca.move).quiet) (fun Q0 k0 => L.move hF rfl rfl rfl (L.nil k0)) ?_
          obtain ⟨b376, hb376, H⟩ := bindS H
          refine S.st 8 rfl rfl ((Ca.indexAddr).quiet) (fun Q0 k0 => L.idxR (xs := v372.Kids) (e := eI) Try.underlying39 info3 hF rfl rfl rfl rfl rfl hb376 rfl rfl (L.nil k0)) ?_
          refine S.st 9 rfl rfl (Qu.load) (fun Q0 k0 => L.loadPe shape3 hF rfl rfl rfl rfl rfl (L.nil k0)) ?_
          refine S.st 10 rfl rfl ((Ca.bin rfl rfl (calm_int _ _ _ _ _ _ _ _)).quiet) (fun Q0 k0 => L.bin hF rfl rfl rfl rfl rfl rfl (L.nil k0)) ?_
          refine S.nil ?_
          refine WpC.cond rfl (fun hc => ?_) (fun hc => ?_)
          ·replace H := condT hc H
           refine WpC.seq (WpC.regionL ?_)
           refine L.assign hF rfl rfl rfl (L.nil ?_)
           refine WpC.ret ?_
           cases H
           exact Leaves.ret rfl rfl rfl ⟨rfl, rfl⟩
          ·replace H := condF hc H
           refine WpC.skip (WpC.regionL ?_)
           refine L.move hF rfl rfl rfl ?_
           refine L.bin hF rfl rfl rfl rfl rfl rfl ?_
           refine L.assign hF rfl rfl rfl (L.nil ?_)
           exact ⟨k14, _, by omega, ⟨v367, v368, v369, (IntKind.i64.wrap (v370 + (1 : Int))), v371, v372, by omega, H, rfl⟩, Le.mk [(0, 0), (1, 1)] hm rfl (Sa4 (Sa2 trivial)) trivial (Ba2 trivial)⟩
         ·replace H := condF hc H
          refine WpC.exit (WpC.regionL ?_)
          refine L.move hF rfl rfl rfl ?_
          refine L.bin hF rfl rfl rfl rfl rfl rfl ?_
          refine L.assign hF rfl rfl rfl (L.nil ?_)
          exact ⟨k12, _, by omega, ⟨v367, v368, (IntKind.i64.wrap (v369 + (1 : Int))), by omega, H, rfl⟩, Le.mk [] hm rfl (Sa2 (Sa1 trivial)) trivial trivial⟩
   ·replace H := condF hc H
    refine WpC.exit (WpC.seq (WpC.regionL ?_))
    refine L.assign hF rfl rfl rfl (L.nil ?_)
    refine WpC.ret ?_
    cases H
    exact Leaves.ret rfl rfl rfl ⟨rfl, rfl⟩
/-! ### Fspec_TlvOk -/
def Fspec_TlvOk (k : Nat) (a0 : List Timpl_Tlv) : Option Bool := (Fspec_l14Tree k a0).bind fun r2 => cond (!r2) (some false) ((Fspec_l14Show k a0 (IntKind.i64.wrap ((a0.length : Int) - (1 : Int)))).bind fun r3 => (Fspec_ReadTlv k r3).bind fun r4 => cond (r4.2 == (0 : Int)) ((Fspec_l14Same k r4.1 a0).bind fun r6 => some r6) (some false))
theorem ent32 : MG.Enters Try.prog 32 := ⟨Try.f32, Try.func32, rfl, by decide⟩
set_option maxHeartbeats 8000000 in
set_option maxRecDepth 100000 in
theorem Fspec_TlvOk_gives (k : Nat) (g0 : Bool) (a0 : List Timpl_Tlv) (r : Bool) (H : Fspec_TlvOk k a0 = some r) : Gives Try.prog 32 [V.one (Cell.sl g0 (List.map eTimpl_Tlv a0))] [] [V.one (cL r)] [] := by
 refine Gives.intro Try.func32 rfl rfl rfl rfl ?_
 intro F hF hm
 unfold Fspec_TlvOk at H
 obtain ⟨K, hK⟩ : ∃ K, k ≤ K := ⟨k, Nat.le_refl k⟩
 refine WpC.seq (WpC.regionL ?_)
 refine L.assign hF rfl rfl rfl (L.nil ?_)
 refine WpC.seq (WpC.seq (WpC.regionL ?_))
 refine L.move hF rfl rfl rfl ?_
 obtain ⟨r2, hr2, H⟩ := bindS H
 refine L.call [false] [] [] 1 hF rfl rfl rfl ent75 rfl rfl rfl rfl rfl (Fspec_l14Tree_gives k g0 a0 r2 hr2) rfl ?_
 refine L.not hF rfl rfl rfl (L.nil ?_)
 refine WpC.cond rfl (fun hc => ?_) (fun hc => ?_)
 ·replace H := condT hc H
  refine WpC.seq (WpC.regionL ?_)
  refine L.assign hF rfl rfl rfl (L.nil ?_)
  refine WpC.ret ?_
  cases H
  exact Leaves.ret rfl rfl rfl ⟨rfl, rfl⟩
 ·replace H := condF hc H
  refine WpC.skip (WpC.seq (WpC.regionL ?_))
  refine L.move hF rfl rfl rfl ?_
  refine L.move hF rfl rfl rfl ?_
  refine L.lenR (xs := a0) (e := eTimpl_Tlv) Try.underlying22 hF rfl rfl rfl rfl ?_
  refine L.bin hF rfl rfl rfl rfl rfl rfl ?_
  obtain ⟨r3, hr3, H⟩ := bindS H
  refine L.call [false, false] [] [] 2 hF rfl rfl rfl ent76 rfl rfl rfl rfl rfl (Fspec_l14Show_gives k g0 a0 (IntKind.i64.wrap ((a0.length : Int) - (1 : Int))) r3 hr3) rfl ?_
  obtain ⟨r4, hr4, H⟩ := bindS H
  refine L.call [false] [] [] 3 hF rfl rfl rfl ent11 rfl rfl rfl rfl rfl (Fspec_ReadTlv_gives k  r3 r4 hr4) rfl ?_
  refine L.move hF rfl rfl rfl ?_
  refine L.extract hF rfl rfl rfl rfl ?_
  refine L.extract hF rfl rfl rfl rfl ?_
  refine L.assign hF rfl rfl rfl ?_
  refine L.assign hF rfl rfl rfl (L.nil ?_)
  refine WpC.seq (WpC.regionL ?_)
  refine L.move hF rfl rfl rfl ?_
  refine L.bin hF rfl rfl rfl rfl rfl rfl ?_
  refine L.move hF rfl rfl rfl ?_
  refine L.split (fun hc => ?_) (fun hc => ?_)
  ·replace H := condT hc H
   refine L.move hF rfl rfl rfl ?_
   refine L.move hF rfl rfl rfl ?_
   obtain ⟨r6, hr6, H⟩ := bindS H
   refine L.call [false, false] [3] [] 5 hF rfl rfl rfl ent77 rfl rfl rfl rfl rfl (Fspec_l14Same_gives k false g0 r4.1 a0 r6 hr6) rfl ?_
   refine L.pick hF rfl rfl rfl rfl ?_
   refine L.assign hF rfl rfl rfl (L.nil ?_)
   refine WpC.ret ?_
   cases H
   exact Leaves.ret rfl rfl rfl ⟨rfl, rfl⟩
  ·replace H := condF hc H
   refine L.off hF rfl rfl ?_
   refine L.off hF rfl rfl ?_
   refine L.off hF rfl rfl ?_
   refine L.pick hF rfl rfl rfl rfl ?_
   refine L.assign hF rfl rfl rfl (L.nil ?_)
   refine WpC.ret ?_
   cases H
   exact Leaves.ret rfl rfl rfl ⟨rfl, rfl⟩
/-! ### Fspec_TlvFind -/
def Fspec_TlvFind.j98 (cl97 : (List Timpl_Tlv) → (List Int) → Int → Int → Int → Int → Option (List UInt8 × Bool)) (k : Nat) (v1693 : List Timpl_Tlv) (v1694 : List Int) (v1695 : Int) (v1696 : Int) (v1697 : Int) (v1698 : Int) : Option (List UInt8 × Bool) := cl97 v1693 v1694 v1695 v1696 v1697 (IntKind.i64.wrap (v1698 - (1 : Int)))
def Fspec_TlvFind.l97 (cl82 : (List Timpl_Tlv) → (List Int) → Int → Int → Option (List UInt8 × Bool)) : Nat → (List Timpl_Tlv) → (List Int) → Int → Int → Int → Int → Option (List UInt8 × Bool)
 | 0, _, _, _, _, _, _ => none
 | k97 + 1, v1681, v1682, v1683, v1684, v1685, v1686 => cond (decide (v1686 ≥ (0 : Int))) ((at? v1681 v1683).bind fun b1699 => (at? b1699.Kids v1686).bind fun b1700 => (at? v1681 b1700).bind fun b1701 => (at? v1682 v1684).bind fun b1702 => cond (b1701.Tag == b1702) ((at? v1681 v1683).bind fun b1703 => (at? b1703.Kids v1686).bind fun b1704 => Fspec_TlvFind.j98 (Fspec_TlvFind.l97 cl82 k97) k97 v1681 v1682 v1683 v1684 b1704 v1686) (Fspec_TlvFind.j98 (Fspec_TlvFind.l97 cl82 k97) k97 v1681 v1682 v1683 v1684 v1685 v1686)) (cond (decide (v1685 < (0 : Int))) (some (([] : List UInt8), false)) (cl82 v1681 v1682 v1685 (IntKind.i64.wrap (v1684 + (1 : Int)))))
def Fspec_TlvFind.l82 : Nat → (List Timpl_Tlv) → (List Int) → Int → Int → Option (List UInt8 × Bool)
 | 0, _, _, _, _ => none
 | k82 + 1, v1413, v1414, v1415, v1416 => cond (decide (v1416 < (v1414.length : Int))) ((at? v1413 v1415).bind fun b1633 => Fspec_TlvFind.l97 (Fspec_TlvFind.l82 k82) k82 v1413 v1414 v1415 v1416 (-1 : Int) (IntKind.i64.wrap ((b1633.Kids.length : Int) - (1 : Int)))) ((at? v1413 v1415).bind fun b1706 => cond (!b1706.Leaf) (some (([] : List UInt8), false)) ((at? v1413 v1415).bind fun b1707 => some (b1707.Data, true)))
def Fspec_TlvFind (k : Nat) (a0 : List Timpl_Tlv) (a1 : List Int) : Option (List UInt8 × Bool) := (Fspec_TlvOk k a0).bind fun r2 => cond (!r2) (some (([] : List UInt8), false)) (Fspec_TlvFind.l82 k a0 a1 (IntKind.i64.wrap ((a0.length : Int) - (1 : Int))) (0 : Int))
theorem ent29 : MG.Enters Try.prog 29 := ⟨Try.f29, Try.func29, rfl, by decide⟩
set_option maxHeartbeats 8000000 in
set_option maxRecDepth 100000 in
theorem Fspec_TlvFind_gives (k : Nat) (g0 : Bool) (g1 : Bool) (a0 : List Timpl_Tlv) (a1 : List Int) (r : List UInt8 × Bool) (H : Fspec_TlvFind k a0 a1 = some r) : Gives Try.prog 29 [V.one (Cell.sl g0 (List.map eTimpl_Tlv a0)), V.one (Cell.sl g1 (List.map eI a1))] [] [V.one (cS r.1), V.one (cL r.2)] [] := by
 refine Gives.intro Try.func29 rfl rfl rfl rfl ?_
 intro F hF hm
 unfold Fspec_TlvFind at H
 obtain ⟨K, hK⟩ : ∃ K, k ≤ K := ⟨k, Nat.le_refl k⟩
 refine WpC.seq (WpC.regionL ?_)
 refine L.assign hF rfl rfl rfl ?_
 refine L.assign hF rfl rfl rfl (L.nil ?_)
 refine WpC.seq (WpC.seq (WpC.regionL ?_))
 refine L.move hF rfl rfl rfl ?_
 obtain ⟨r2, hr2, H⟩ := bindS H
 refine L.call [false] [] [] 2 hF rfl rfl rfl ent32 rfl rfl rfl rfl rfl (Fspec_TlvOk_gives k g0 a0 r2 hr2) rfl ?_
 refine L.not hF rfl rfl rfl (L.nil ?_)
 refine WpC.cond rfl (fun hc => ?_) (fun hc => ?_)
 ·replace H := condT hc H
  refine WpC.seq (WpC.regionL ?_)
  refine L.assign hF rfl rfl rfl ?_
  refine L.assign hF rfl rfl rfl (L.nil ?_)
  refine WpC.ret ?_
  cases H
  exact Leaves.ret rfl rfl rfl ⟨rfl, rfl⟩
 ·replace H := condF hc H
  refine WpC.skip (WpC.seq (WpC.regionL ?_))
  refine L.move hF rfl rfl rfl ?_
  refine L.lenR (xs := a0) (e := eTimpl_Tlv) Try.underlying22 hF rfl rfl rfl rfl ?_
  refine L.bin hF rfl rfl rfl rfl rfl rfl ?_
  refine L.assign hF rfl rfl rfl (L.nil ?_)
  refine WpC.seq (WpC.seq (WpC.regionL ?_))
  refine L.assign hF rfl rfl rfl (L.nil ?_)
  refine WpC.block ?_
  refine WpC.loopL (P := Try.prog) (fun n σ => ∃ v1413 : List Timpl_Tlv, ∃ v1414 : List Int, ∃ v1415 : Int, ∃ v1416 : Int, n ≤ K ∧ Fspec_TlvFind.l82 n v1413 v1414 v1415 v1416 = some r ∧ σ = mkSt [(0, one (Cell.sl g0 (List.map eTimpl_Tlv v1413))), (1, one (Cell.sl g1 (List.map eI v1414))), (6, one (cI v1415)), (7, one (cI v1416))] [] [] 0) k ⟨_, ⟨a0, a1, (IntKind.i64.wrap ((a0.length : Int) - (1 : Int))), (0 : Int), by omega, H, rfl⟩, Le.mk [] hm rfl (Sa4 trivial) trivial trivial⟩ ?_
  clear H
  rintro k82 _ ⟨v1413, v1414, v1415, v1416, hk82, H, rfl⟩
  cases k82 with
  | zero => cases H
  | succ k82 =>
   rw [Fspec_TlvFind.l82] at H
   refine WpC.seq (WpC.seq (WpC.regionL ?_))
   refine L.move hF rfl rfl rfl ?_
   refine L.move hF rfl rfl rfl ?_
   refine L.lenR (xs := v1414) (e := eI) Try.underlying39 hF rfl rfl rfl rfl ?_
   refine L.bin hF rfl rfl rfl rfl rfl rfl (L.nil ?_)
   refine WpC.cond rfl (fun hc => ?_) (fun hc => ?_)
   ·replace H := condT hc H
    refine WpC.skip (WpC.seq (WpC.block (WpC.seq (WpC.regionL ?_))))
    refine L.assign hF rfl rfl rfl (L.nil ?_)
    refine WpC.seq (WpC.seq (WpC.regionL ?_))
    refine L.move hF rfl rfl rfl ?_
    refine L.move hF rfl rfl rfl ?_
    obtain ⟨b1633, hb1633, H⟩ := bindS H
    refine L.idxR (xs := v1413) (e := eTimpl_Tlv) Try.underlying22 info45 hF rfl rfl rfl rfl rfl hb1633 rfl rfl ?_
    refine L.fieldAddr Try.underlying45 rfl info39 rfl hF rfl rfl rfl rfl rfl ?_
    refine L.loadPe shape39 hF rfl rfl rfl rfl rfl ?_
    refine L.lenR (xs := b1633.Kids) (e := eI) Try.underlying39 hF rfl rfl rfl rfl ?_
    refine L.bin hF rfl rfl rfl rfl rfl rfl ?_
    refine L.assign hF rfl rfl rfl (L.nil ?_)
    refine WpC.block ?_
    refine WpC.loopL (P := Try.prog) (fun n σ => ∃ v1681 : List Timpl_Tlv, ∃ v1682 : List Int, ∃ v1683 : Int, ∃ v1684 : Int, ∃ v1685 : Int, ∃ v1686 : Int, n ≤ K ∧ Fspec_TlvFind.l97 (Fspec_TlvFind.l82 k82) n v1681 v1682 v1683 v1684 v1685 v1686 = some r ∧ σ = mkSt [(0, one (Cell.sl g0 (List.map eTimpl_Tlv v1681))), (1, one (Cell.sl g1 (List.map eI v1682))), (6, one (cI v1683)), (7, one (cI v1684)), (8, one (cI v1685)), (9, one (cI v1686))] [] [] 0) k82 ⟨_, ⟨v1413, v1414, v1415, v1416, (-1 : Int), (IntKind.i64.wrap ((b1633.Kids.length : Int) - (1 : Int))), by omega, H, rfl⟩, Le.mk [] hm rfl (Sa4 (Sa2 trivial)) trivial trivial⟩ ?_
    clear H
    rintro k97 _ ⟨v1681, v1682, v1683, v1684, v1685, v1686, hk97, H, rfl⟩
    cases k97 with
    | zero => cases H
    | succ k97 =>
     rw [Fspec_TlvFind.l97] at H
     refine WpC.seq (WpC.seq (WpC.regionL ?_))
     refine L.move hF rfl rfl rfl ?_
     refine L.bin hF rfl rfl rfl rfl rfl rfl (L.nil ?_)
     refine WpC.cond rfl (fun hc => ?_) (fun hc => ?_)
     ·replace H := condT hc H
      refine WpC.skip ?_
      refine WpC.join (fun σ => ∃ kj98 : Nat, ∃ v1693 : List Timpl_Tlv, ∃ v1694 : List Int, ∃ v1695 : Int, ∃ v1696 : Int, ∃ v1697 : Int, ∃ v1698 : Int, kj98 ≤ K ∧ Fspec_TlvFind.j98 (Fspec_TlvFind.l97 (Fspec_TlvFind.l82 k82) k97) kj98 v1693 v1694 v1695 v1696 v1697 v1698 = some r ∧ σ = mkSt [(0, one (Cell.sl g0 (List.map eTimpl_Tlv v1693))), (1, one (Cell.sl g1 (List.map eI v1694))), (6, one (cI v1695)), (7, one (cI v1696)), (8, one (cI v1697)), (9, one (cI v1698))] [] [] 0) ?_ ?_
      ·rintro _ ⟨kj98, v1693, v1694, v1695, v1696, v1697, v1698, hkj98, H, rfl⟩
       unfold Fspec_TlvFind.j98 at H
       refine WpC.regionL ?_
       refine L.move hF rfl rfl rfl ?_
       refine L.bin hF rfl rfl rfl rfl rfl rfl ?_
       refine L.assign hF rfl rfl rfl (L.nil ?_)
       exact ⟨k97, _, by omega, ⟨v1693, v1694, v1695, v1696, v1697, (IntKind.i64.wrap (v1698 - (1 : Int))), by omega, H, rfl⟩, Le.mk [] hm rfl (Sa4 (Sa2 trivial)) trivial trivial⟩
      ·refine WpC.block (WpC.seq ?_)
       refine S.begin mixed (by kernel_rfl) ?_
       refine S.st 0 rfl rfl ((Ca.move).quiet) (fun Q0 k0 => L.move hF rfl rfl rfl (L.nil k0)) ?_
       refine S.st 1 rfl rfl ((Ca.move).quiet) (fun Q0 k0 => L.move hF rfl rfl rfl (L.nil k0)) ?_
       refine S.st 2 rfl rfl ((Ca.move).quiet) (fun Q0 k0 => L.move hF rfl rfl rfl (L.nil k0)) ?_
       obtain ⟨b1699, hb1699, H⟩ := bindS H
       refine S.st 3 rfl rfl ((Ca.indexAddr).quiet) (fun Q0 k0 => L.idxR (xs := v1681) (e := eTimpl_Tlv) Try.underlying22 info45 hF rfl rfl rfl rfl rfl hb1699 rfl rfl (L.nil k0)) ?_
       refine S.st 4 rfl rfl ((Ca.fieldAddr Try.underlying45 rfl info39 rfl).quiet) (fun Q0 k0 => L.fieldAddr Try.underlying45 rfl info39 rfl hF rfl rfl rfl rfl rfl (L.nil k0)) ?_
       refine S.st 5 rfl rfl (Qu.load) (fun Q0 k0 => L.loadPe shape39 hF rfl rfl rfl rfl rfl (L.nil k0)) ?_
       refine S.st 6 rfl rfl ((Ca.move).quiet) (fun Q0 k0 => L.move hF rfl rfl rfl (L.nil k0)) ?_
       obtain ⟨b1700, hb1700, H⟩ := bindS H
       refine S.st 7 rfl rfl ((Ca.indexAddr).quiet) (fun Q0 k0 => L.idxR (xs := b1699.Kids) (e := eI) Try.underlying39 info3 hF rfl rfl rfl rfl rfl hb1700 rfl rfl (L.nil k0)) ?_
       refine S.st 8 rfl rfl (Qu.load) (fun Q0 k0 => L.loadPe shape3 hF rfl rfl rfl rfl rfl (L.nil k0)) ?_
       obtain ⟨b1701, hb1701, H⟩ := bindS H
       refine S.st 9 rfl rfl ((Ca.indexAddr).quiet) (fun Q0 k0 => L.idxR (xs := v1681) (e := eTimpl_Tlv) Try.underlying22 info45 hF rfl rfl rfl rfl rfl hb1701 rfl rfl (L.nil k0)) ?_
       refine S.st 10 rfl rfl ((Ca.fieldAddr Try.underlying45 rfl info3 rfl).quiet) (fun Q0 k0 => L.fieldAddr Try.underlying45 rfl info3 rfl hF rfl rfl rfl rfl rfl (L.nil k0)) ?_
       refine S.st 11 rfl rfl (Qu.load) (fun Q0 k0 => L.loadPe shape3 hF rfl rfl rfl rfl rfl (L.nil k0)) ?_
       refine S.st 12 rfl rfl ((Ca.move).quiet) (fun Q0 k0 => L.move hF rfl rfl rfl (L.nil k0)) ?_
       refine S.st 13 rfl rfl ((Ca.move).quiet) (fun Q0 k0 => L.move hF rfl rfl rfl (L.nil k0)) ?_
       obtain ⟨b1702, hb1702, H⟩ := bindS H
       refine S.st 14 rfl rfl ((Ca.indexAddr).quiet) (fun Q0 k0 => L.idxR (xs := v1682) (e := eI) Try.underlying39 info3 hF rfl rfl rfl rfl rfl hb1702 rfl rfl (L.nil k0)) ?_
       refine S.st 15 rfl rfl (Qu.load) (fun Q0 k0 => L.loadPe shape3 hF rfl rfl rfl rfl rfl (L.nil k0)) ?_
       refine S.st 16 rfl rfl ((Ca.bin rfl rfl (calm_int _ _ _ _ _ _ _ _)).quiet) (fun Q0 k0 => L.bin hF rfl rfl rfl rfl rfl rfl (L.nil k0)) ?_
       refine S.nil ?_
       refine WpC.cond rfl (fun hc => ?_) (fun hc => ?_)
       ·replace H := condT hc H
        refine WpC.regionL ?_
        refine L.move hF rfl rfl rfl ?_
        refine L.move hF rfl rfl rfl ?_
        obtain ⟨b1703, hb1703, H⟩ := bindS H
        refine L.idxR (xs := v1681) (e := eTimpl_Tlv) Try.underlying22 info45 hF rfl rfl rfl rfl rfl hb1703 rfl rfl ?_
        refine L.fieldAddr Try.underlying45 rfl info39 rfl hF rfl rfl rfl rfl rfl ?_
        refine L.loadPe shape39 hF rfl rfl rfl rfl rfl ?_
        refine L.move hF rfl rfl rfl ?_
        obtain ⟨b1704, hb1704, H⟩ := bindS H
        refine L.idxR (xs := b1703.Kids) (e := eI) Try.underlying39 info3 hF rfl rfl rfl rfl rfl hb1704 rfl rfl ?_
        refine L.loadPe shape3 hF rfl rfl rfl rfl rfl ?_
        refine L.assign hF rfl rfl rfl (L.nil ?_)
        exact ⟨_, ⟨k97, v1681, v1682, v1683, v1684, b1704, v1686, by omega, H, rfl⟩, Le.mk [] hm rfl (Sa4 (Sa2 trivial)) trivial trivial⟩
       ·replace H := condF hc H
        refine WpC.skip ?_
        exact ⟨_, ⟨k97, v1681, v1682, v1683, v1684, v1685, v1686, by omega, H, rfl⟩, Le.mk [] hm rfl (Sa4 (Sa2 trivial)) trivial trivial⟩
     ·replace H := condF hc H
      refine WpC.exit (WpC.seq (WpC.seq (WpC.regionL ?_)))
      refine L.move hF rfl rfl rfl ?_
      refine L.bin hF rfl rfl rfl rfl rfl rfl (L.nil ?_)
      refine WpC.cond rfl (fun hc => ?_) (fun hc => ?_)
      ·replace H := condT hc H
       refine WpC.seq (WpC.regionL ?_)
       refine L.assign hF rfl rfl rfl ?_
       refine L.assign hF rfl rfl rfl (L.nil ?_)
       refine WpC.ret ?_
       cases H
       exact Leaves.ret rfl rfl rfl ⟨rfl, rfl⟩
      ·replace H := condF hc H
       refine WpC.skip (WpC.regionL ?_)
       refine L.move hF rfl rfl rfl ?_
       refine L.assign hF rfl rfl rfl (L.nil ?_)
       refine WpC.regionL ?_
       refine L.move hF rfl rfl rfl ?_
       refine L.bin hF rfl rfl rfl rfl rfl rfl ?_
       refine L.assign hF rfl rfl rfl (L.nil ?_)
       exact ⟨k82, _, by omega, ⟨v1681, v1682, v1685, (IntKind.i64.wrap (v1684 + (1 : Int))), by omega, H, rfl⟩, Le.mk [] hm rfl (Sa4 trivial) trivial trivial⟩
   ·replace H := condF hc H
    refine WpC.exit (WpC.seq (WpC.seq (WpC.regionL ?_)))
    refine L.move hF rfl rfl rfl ?_
    refine L.move hF rfl rfl rfl ?_
    obtain ⟨b1706, hb1706, H⟩ := bindS H
    refine L.idxR (xs := v1413) (e := eTimpl_Tlv) Try.underlying22 info45 hF rfl rfl rfl rfl rfl hb1706 rfl rfl ?_
    refine L.fieldAddr Try.underlying45 rfl info4 rfl hF rfl rfl rfl rfl rfl ?_
    refine L.loadPe shape4 hF rfl rfl rfl rfl rfl ?_
    refine L.not hF rfl rfl rfl (L.nil ?_)
    refine WpC.cond rfl (fun hc => ?_) (fun hc => ?_)
    ·replace H := condT hc H
     refine WpC.seq (WpC.regionL ?_)
     refine L.assign hF rfl rfl rfl ?_
     refine L.assign hF rfl rfl rfl (L.nil ?_)
     refine WpC.ret ?_
     cases H
     exact Leaves.ret rfl rfl rfl ⟨rfl, rfl⟩
    ·replace H := condF hc H
     refine WpC.skip (WpC.seq (WpC.regionL ?_))
     refine L.move hF rfl rfl rfl ?_
     refine L.move hF rfl rfl rfl ?_
     obtain ⟨b1707, hb1707, H⟩ := bindS H
     refine L.idxR (xs := v1413) (e := eTimpl_Tlv) Try.underlying22 info45 hF rfl rfl rfl rfl rfl hb1707 rfl rfl ?_
     refine L.fieldAddr Try.underlying45 rfl info9 rfl hF rfl rfl rfl rfl rfl ?_
     refine L.loadPe shape9 hF rfl rfl rfl rfl rfl ?_
     refine L.assign hF rfl rfl rfl ?_
     refine L.assign hF rfl rfl rfl (L.nil ?_)
     refine WpC.ret ?_
     cases H
     exact Leaves.ret rfl rfl rfl ⟨rfl, rfl⟩
/-! ### Flaws_FnTlvFind -/
def Flaws_FnTlvFind.j8 (cl7 : (List Timpl_Tlv) → (List Int) → (List UInt8) → Bool → Bool → Int → Option Bool) (k : Nat) (v110 : List Timpl_Tlv) (v111 : List Int) (v112 : List UInt8) (v113 : Bool) (v114 : Bool) (v115 : Int) : Option Bool := cl7 v110 v111 v112 v113 v114 (IntKind.i64.wrap (v115 + (1 : Int)))
def Flaws_FnTlvFind.l7 : Nat → (List Timpl_Tlv) → (List Int) → (List UInt8) → Bool → Bool → Int → Option Bool
 | 0, _, _, _, _, _, _ => none
 | k7 + 1, v100, v101, v102, v103, v104, v105 => cond (decide (v105 < (v100.length : Int))) (cond v104 (Flaws_FnTlvFind.j8 (Flaws_FnTlvFind.l7 k7) k7 v100 v101 v102 v103 true v105) ((at? v100 v105).bind fun b116 => cond b116.Leaf ((at? v100 v105).bind fun b117 => cond (b117.Data == v102) (cond ((v101.length : Int) == (0 : Int)) (Flaws_FnTlvFind.j8 (Flaws_FnTlvFind.l7 k7) k7 v100 v101 v102 v103 true v105) ((at? v100 v105).bind fun b118 => (at? v101 (IntKind.i64.wrap ((v101.length : Int) - (1 : Int)))).bind fun b119 => Flaws_FnTlvFind.j8 (Flaws_FnTlvFind.l7 k7) k7 v100 v101 v102 v103 (b118.Tag == b119) v105)) (Flaws_FnTlvFind.j8 (Flaws_FnTlvFind.l7 k7) k7 v100 v101 v102 v103 false v105)) (Flaws_FnTlvFind.j8 (Flaws_FnTlvFind.l7 k7) k7 v100 v101 v102 v103 false v105))) (cond (!v103) (some true) (some v104))
def Flaws_FnTlvFind (k : Nat) (a0 : List UInt8) : Option Bool := (Flaws_big k a0).bind fun r2 => cond r2 (some true) ((Fspec_DrawTlvFind k a0).bind fun r3 => (Fimpl_TlvFind k r3.1 r3.2).bind fun r4 => (Fspec_TlvFind k r3.1 r3.2).bind fun r5 => cond (r4.2 != r5.2) (some false) (cond (r4.1 != r5.1) (some false) (Flaws_FnTlvFind.l7 k r3.1 r3.2 r4.1 r4.2 false (0 : Int))))
theorem ent6 : MG.Enters Try.prog 6 := ⟨Try.f6, Try.func6, rfl, by decide⟩
set_option maxHeartbeats 8000000 in
set_option maxRecDepth 100000 in
theorem Flaws_FnTlvFind_gives (k : Nat) (a0 : List UInt8) (r : Bool) (H : Flaws_FnTlvFind k a0 = some r) : Gives Try.prog 6 [V.one (Cell.sl true (List.map eB a0))] [] [V.one (cL r)] [] := by
 refine Gives.intro Try.func6 rfl rfl rfl rfl ?_
 intro F hF hm
 unfold Flaws_FnTlvFind at H
 obtain ⟨K, hK⟩ : ∃ K, k ≤ K := ⟨k, Nat.le_refl k⟩
 refine WpC.seq (WpC.regionL ?_)
 refine L.assign hF rfl rfl rfl (L.nil ?_)
 refine WpC.seq (WpC.seq (WpC.regionL ?_))
 refine L.move hF rfl rfl rfl ?_
 obtain ⟨r2, hr2, H⟩ := bindS H
 refine L.call [false] [] [] 1 hF rfl rfl rfl ent21 rfl rfl rfl rfl rfl (Flaws_big_gives k true a0 r2 hr2) rfl (L.nil ?_)
 refine WpC.cond rfl (fun hc => ?_) (fun hc => ?_)
 ·replace H := condT hc H
  refine WpC.seq (WpC.regionL ?_)
  refine L.assign hF rfl rfl rfl (L.nil ?_)
  refine WpC.ret ?_
  cases H
  exact Leaves.ret rfl rfl rfl ⟨rfl, rfl⟩
 ·replace H := condF hc H
  refine WpC.skip (WpC.seq (WpC.regionL ?_))
  refine L.move hF rfl rfl rfl ?_
  obtain ⟨r3, hr3, H⟩ := bindS H
  refine L.call [false] [] [] 2 hF rfl rfl rfl ent27 rfl rfl rfl rfl rfl (Fspec_DrawTlvFind_gives k  a0 r3 hr3) rfl ?_
  refine L.move hF rfl rfl rfl ?_
  refine L.extract hF rfl rfl rfl rfl ?_
  refine L.extract hF rfl rfl rfl rfl ?_
  refine L.assign hF rfl rfl rfl ?_
  refine L.assign hF rfl rfl rfl (L.nil ?_)
  refine WpC.seq (WpC.regionL ?_)
  refine L.move hF rfl rfl rfl ?_
  refine L.move hF rfl rfl rfl ?_
  refine L.le (Le.shareAll 2 rfl) ?_
  obtain ⟨r4, hr4, H⟩ := bindS H
  refine L.call [false, false] [3] [] 4 hF rfl rfl rfl ent28 rfl rfl rfl rfl rfl (Fimpl_TlvFind_gives k false r3.1 r3.2 r4 hr4) rfl ?_
  refine L.move hF rfl rfl rfl ?_
  refine L.extract hF rfl rfl rfl rfl ?_
  refine L.extract hF rfl rfl rfl rfl ?_
  refine L.assign hF rfl rfl rfl ?_
  refine L.assign hF rfl rfl rfl (L.nil ?_)
  refine WpC.seq (WpC.regionL ?_)
  refine L.move hF rfl rfl rfl ?_
  refine L.move hF rfl rfl rfl ?_
  obtain ⟨r5, hr5, H⟩ := bindS H
  refine L.call [false, false] [3] [] 6 hF rfl rfl rfl ent29 rfl rfl rfl rfl rfl (Fspec_TlvFind_gives k true false r3.1 r3.2 r5 hr5) rfl ?_
  refine L.move hF rfl rfl rfl ?_
  refine L.extract hF rfl rfl rfl rfl ?_
  refine L.extract hF rfl rfl rfl rfl ?_
  refine L.assign hF rfl rfl rfl ?_
  refine L.assign hF rfl rfl rfl (L.nil ?_)
  refine WpC.seq (WpC.seq (WpC.regionL ?_))
  refine L.move hF rfl rfl rfl ?_
  refine L.move hF rfl rfl rfl ?_
  refine L.neL Try.underlying4 hF rfl rfl rfl rfl ?_
  refine L.move hF rfl rfl rfl ?_
  refine L.split (fun hc => ?_) (fun hc => ?_)
  ·replace H := condT hc H
   refine L.off hF rfl rfl ?_
   refine L.off hF rfl rfl ?_
   refine L.off hF rfl rfl ?_
   refine L.pick hF rfl rfl rfl rfl (L.nil ?_)
   refine WpC.cond rfl (fun _ => ?_) (fun hc => by cases hc)
   refine WpC.seq (WpC.regionL ?_)
   refine L.assign hF rfl rfl rfl (L.nil ?_)
   refine WpC.ret ?_
   cases H
   exact Leaves.ret rfl rfl rfl ⟨rfl, rfl⟩
  ·replace H := condF hc H
   refine L.move hF rfl rfl rfl ?_
   refine L.move hF rfl rfl rfl ?_
   refine L.binS hF rfl rfl rfl rfl rfl ?_
   refine L.pick hF rfl rfl rfl rfl (L.nil ?_)
   refine WpC.cond rfl (fun hc => ?_) (fun hc => ?_)
   ·replace H := condT hc H
    refine WpC.seq (WpC.regionL ?_)
    refine L.assign hF rfl rfl rfl (L.nil ?_)
    refine WpC.ret ?_
    cases H
    exact Leaves.ret rfl rfl rfl ⟨rfl, rfl⟩
   ·replace H := condF hc H
    refine WpC.skip (WpC.seq (WpC.regionL ?_))
    refine L.assign hF rfl rfl rfl (L.nil ?_)
    refine WpC.seq (WpC.seq (WpC.regionL ?_))
    refine L.assign hF rfl rfl rfl (L.nil ?_)
    refine WpC.block ?_
    refine WpC.loopL (P := Try.prog) (fun n σ => ∃ v100 : List Timpl_Tlv, ∃ v101 : List Int, ∃ v102 : List UInt8, ∃ v103 : Bool, ∃ v104 : Bool, ∃ v105 : Int, n ≤ K ∧ Flaws_FnTlvFind.l7 n v100 v101 v102 v103 v104 v105 = some r ∧ σ = mkSt [(3, one (Cell.sl true (List.map eTimpl_Tlv v100))), (4, one (Cell.own 0)), (5, one (cS v102)), (6, one (cL v103)), (9, one (cL v104)), (10, one (cI v105))] [(0, ⟨1, List.map eI v101⟩)] [] 1) k ⟨_, ⟨r3.1, r3.2, r4.1, r4.2, false, (0 : Int), by omega, H, rfl⟩, Le.mk [(0, 3)] hm rfl (Sa4 (Sa2 trivial)) (Ra1 trivial) trivial⟩ ?_
    clear H
    rintro k7 _ ⟨v100, v101, v102, v103, v104, v105, hk7, H, rfl⟩
    cases k7 with
    | zero => cases H
    | succ k7 =>
     rw [Flaws_FnTlvFind.l7] at H
     refine WpC.seq (WpC.seq (WpC.regionL ?_))
     refine L.move hF rfl rfl rfl ?_
     refine L.move hF rfl rfl rfl ?_
     refine L.lenR (xs := v100) (e := eTimpl_Tlv) Try.underlying22 hF rfl rfl rfl rfl ?_
     refine L.bin hF rfl rfl rfl rfl rfl rfl (L.nil ?_)
     refine WpC.cond rfl (fun hc => ?_) (fun hc => ?_)
     ·replace H := condT hc H
      refine WpC.skip ?_
      refine WpC.join (fun σ => ∃ kj8 : Nat, ∃ v110 : List Timpl_Tlv, ∃ v111 : List Int, ∃ v112 : List UInt8, ∃ v113 : Bool, ∃ v114 : Bool, ∃ v115 : Int, kj8 ≤ K ∧ Flaws_FnTlvFind.j8 (Flaws_FnTlvFind.l7 k7) kj8 v110 v111 v112 v113 v114 v115 = some r ∧ σ = mkSt [(3, one (Cell.sl true (List.map eTimpl_Tlv v110))), (4, one (Cell.own 0)), (5, one (cS v112)), (6, one (cL v113)), (9, one (cL v114)), (10, one (cI v115))] [(0, ⟨1, List.map eI v111⟩)] [] 1) ?_ ?_
      ·rintro _ ⟨kj8, v110, v111, v112, v113, v114, v115, hkj8, H, rfl⟩
       unfold Flaws_FnTlvFind.j8 at H
       refine WpC.regionL ?_
       refine L.move hF rfl rfl rfl ?_
       refine L.bin hF rfl rfl rfl rfl rfl rfl ?_
       refine L.assign hF rfl rfl rfl (L.nil ?_)
       exact ⟨k7, _, by omega, ⟨v110, v111, v112, v113, v114, (IntKind.i64.wrap (v115 + (1 : Int))), by omega, H, rfl⟩, Le.mk [(0, 0)] hm rfl (Sa4 (Sa2 trivial)) (Ra1 trivial) trivial⟩
      ·refine WpC.block ?_
       refine S.begin mixed (by kernel_rfl) ?_
       refine S.st 0 rfl rfl ((Ca.move).quiet) (fun Q0 k0 => L.move hF rfl rfl rfl (L.nil k0)) ?_
       refine S.st 1 rfl rfl ((Ca.move).quiet) (fun Q0 k0 => L.move hF rfl rfl rfl (L.nil k0)) ?_
       refine S.split (fun hc => ?_) (fun hc => ?_)
       ·replace H := condT hc H
        refine S.off 2 rfl rfl hF rfl rfl ?_
        refine S.off 3 rfl rfl hF rfl rfl ?_
        refine S.off 4 rfl rfl hF rfl rfl ?_
        refine S.off 5 rfl rfl hF rfl rfl ?_
        refine S.off 6 rfl rfl hF rfl rfl ?_
        refine S.off 7 rfl rfl hF rfl rfl ?_
        refine S.off 8 rfl rfl hF rfl rfl ?_
        refine S.off 9 rfl rfl hF rfl rfl ?_
        refine S.off 10 rfl rfl hF rfl rfl ?_
        refine S.off 11 rfl rfl hF rfl rfl ?_
        refine S.off 12 rfl rfl hF rfl rfl ?_
        refine S.off 13 rfl rfl hF rfl rfl ?_
        refine S.off 14 rfl rfl hF rfl rfl ?_
        refine S.off 15 rfl rfl hF rfl rfl ?_
        refine S.off 16 rfl rfl hF rfl rfl ?_
        refine S.off 17 rfl rfl hF rfl rfl ?_
        refine S.off 18 rfl rfl hF rfl rfl ?_
        refine S.off 19 rfl rfl hF rfl rfl ?_
        refine S.off 20 rfl rfl hF rfl rfl ?_
        refine S.off 21 rfl rfl hF rfl rfl ?_
        refine S.off 22 rfl rfl hF rfl rfl ?_
        refine S.off 23 rfl rfl hF rfl rfl ?_
        refine S.off 24 rfl rfl hF rfl rfl ?_
        refine S.off 25 rfl rfl hF rfl rfl ?_
        refine S.off 26 rfl rfl hF rfl rfl ?_
        refine S.off 27 rfl rfl hF rfl rfl ?_
        refine S.off 28 rfl rfl hF rfl rfl ?_
        refine S.off 29 rfl rfl hF rfl rfl ?_
        refine S.off 30 rfl rfl hF rfl rfl ?_
        refine S.off 31 rfl rfl hF rfl rfl ?_
        refine S.off 32 rfl rfl hF rfl rfl ?_
        refine S.off 33 rfl rfl hF rfl rfl ?_
        refine S.off 34 rfl rfl hF rfl rfl ?_
        refine S.st 35 rfl rfl ((Ca.pick).quiet) (fun Q0 k0 => L.pick hF rfl rfl rfl rfl (L.nil k0)) ?_
        refine S.st 36 rfl rfl ((Ca.assign).quiet) (fun Q0 k0 => L.assign hF rfl rfl rfl (L.nil k0)) ?_
        refine S.nil ?_
        exact ⟨_, ⟨k7, v100, v101, v102, v103, true, v105, by omega, H, rfl⟩, Le.mk [(0, 0)] hm rfl (Sa4 (Sa2 trivial)) (Ra1 trivial) trivial⟩
       ·replace H := condF hc H
        refine S.st 2 rfl rfl ((Ca.move).quiet) (fun Q0 k0 => L.move hF rfl rfl rfl (L.nil k0)) ?_
        refine S.st 3 rfl rfl ((Ca.move).quiet) (fun Q0 k0 => L.move hF rfl rfl rfl (L.nil k0)) ?_
        obtain ⟨b116, hb116, H⟩ := bindS H
        refine S.st 4 rfl rfl ((Ca.indexAddr).quiet) (fun Q0 k0 => L.idxR (xs := v100) (e := eTimpl_Tlv) Try.underlying22 info45 hF rfl rfl rfl rfl rfl hb116 rfl rfl (L.nil k0)) ?_
        refine S.st 5 rfl rfl ((Ca.fieldAddr Try.underlying45 rfl info4 rfl).quiet) (fun Q0 k0 => L.fieldAddr Try.underlying45 rfl info4 rfl hF rfl rfl rfl rfl rfl (L.nil k0)) ?_
        refine S.st 6 rfl rfl (Qu.load) (fun Q0 k0 => L.loadPe shape4 hF rfl rfl rfl rfl rfl (L.nil k0)) ?_
        refine S.st 7 rfl rfl ((Ca.move).quiet) (fun Q0 k0 => L.move hF rfl rfl rfl (L.nil k0)) ?_
        refine S.split (fun hc => ?_) (fun hc => ?_)
        ·replace H := condT hc H
         refine S.st 8 rfl rfl ((Ca.move).quiet) (fun Q0 k0 => L.move hF rfl rfl rfl (L.nil k0)) ?_
         refine S.st 9 rfl rfl ((Ca.move).quiet) (fun Q0 k0 => L.move hF rfl rfl rfl (L.nil k0)) ?_
         obtain ⟨b117, hb117, H⟩ := bindS H
         refine S.st 10 rfl rfl ((Ca.indexAddr).quiet) (fun Q0 k0 => L.idxR (xs := v100) (e := eTimpl_Tlv) Try.underlying22 info45 hF rfl rfl rfl rfl rfl hb117 rfl rfl (L.nil k0)) ?_
         refine S.st 11 rfl rfl ((Ca.fieldAddr Try.underlying45 rfl info9 rfl).quiet) (fun Q0 k0 => L.fieldAddr Try.underlying45 rfl info9 rfl hF rfl rfl rfl rfl rfl (L.nil k0)) ?_
         refine S.st 12 rfl rfl (Qu.load) (fun Q0 k0 => L.loadPe shape9 hF rfl rfl rfl rfl rfl (L.nil k0)) ?_
         refine S.st 13 rfl rfl ((Ca.move).quiet) (fun Q0 k0 => L.move hF rfl rfl rfl (L.nil k0)) ?_
         refine S.st 14 rfl rfl ((Ca.bin rfl rfl (calm_str _ _ _ _ _ _)).quiet) (fun Q0 k0 => L.binS hF rfl rfl rfl rfl rfl (L.nil k0)) ?_
         refine S.st 15 rfl rfl ((Ca.pick).quiet) (fun Q0 k0 => L.pick hF rfl rfl rfl rfl (L.nil k0)) ?_
         refine S.st 16 rfl rfl ((Ca.move).quiet) (fun Q0 k0 => L.move hF rfl rfl rfl (L.nil k0)) ?_
         refine S.split (fun hc => ?_) (fun hc => ?_)
         ·replace H := condT hc H
          refine S.st 17 rfl rfl ((Ca.move).quiet) (fun Q0 k0 => L.move hF rfl rfl rfl (L.nil k0)) ?_
          refine S.st 18 rfl rfl ((Ca.lenR (xs := v101) (e := eI) Try.underlying39 rfl rfl).quiet) (fun Q0 k0 => L.lenR (xs := v101) (e := eI) Try.underlying39 hF rfl rfl rfl rfl (L.nil k0)) ?_
          refine S.st 19 rfl rfl ((Ca.bin rfl rfl (calm_int _ _ _ _ _ _ _ _)).quiet) (fun Q0 k0 => L.bin hF rfl rfl rfl rfl rfl rfl (L.nil k0)) ?_
          refine S.st 20 rfl rfl ((Ca.move).quiet) (fun Q0 k0 => L.move hF rfl rfl rfl (L.nil k0)) ?_
          refine S.split (fun hc => ?_) (fun hc => ?_)
          ·replace H := condT hc H
           refine S.off 21 rfl rfl hF rfl rfl ?_
           refine S.off 22 rfl rfl hF rfl rfl ?_
           refine S.off 23 rfl rfl hF rfl rfl ?_
           refine S.off 24 rfl rfl hF rfl rfl ?_
           refine S.off 25 rfl rfl hF rfl rfl ?_
           refine S.off 26 rfl rfl hF rfl rfl ?_
           refine S.off 27 rfl rfl hF rfl rfl ?_
           refine S.off 28 rfl rfl hF rfl rfl ?_
           refine S.off 29 rfl rfl hF rfl rfl ?_
           refine S.off 30 rfl rfl hF rfl rfl ?_
           refine S.off 31 rfl rfl hF rfl rfl ?_
           refine S.off 32 rfl rfl hF rfl rfl ?_
           refine S.st 33 rfl rfl ((Ca.pick).quiet) (fun Q0 k0 => L.pick hF rfl rfl rfl rfl (L.nil k0)) ?_
           refine S.st 34 rfl rfl ((Ca.pick).quiet) (fun Q0 k0 => L.pick hF rfl rfl rfl rfl (L.nil k0)) ?_
           refine S.st 35 rfl rfl ((Ca.pick).quiet) (fun Q0 k0 => L.pick hF rfl rfl rfl rfl (L.nil k0)) ?_
           refine S.st 36 rfl rfl ((Ca.assign).quiet) (fun Q0 k0 => L.assign hF rfl rfl rfl (L.nil k0)) ?_
           refine S.nil ?_
           exact ⟨_, ⟨k7, v100, v101, v102, v103, true, v105, by omega, H, rfl⟩, Le.mk [(0, 0)] hm rfl (Sa4 (Sa2 trivial)) (Ra1 trivial) trivial⟩
          ·replace H := condF hc H
           refine S.st 21 rfl rfl ((Ca.move).quiet) (fun Q0 k0 => L.move hF rfl rfl rfl (L.nil k0)) ?_
           refine S.st 22 rfl rfl ((Ca.move).quiet) (fun Q0 k0 => L.move hF rfl rfl rfl (L.nil k0)) ?_
           obtain ⟨b118, hb118, H⟩ := bindS H
           refine S.st 23 rfl rfl ((Ca.indexAddr).quiet) (fun Q0 k0 => L.idxR (xs := v100) (e := eTimpl_Tlv) Try.underlying22 info45 hF rfl rfl rfl rfl rfl hb118 rfl rfl (L.nil k0)) ?_
           refine S.st 24 rfl rfl ((Ca.fieldAddr Try.underlying45 rfl info3 rfl).quiet) (fun Q0 k0 => L.fieldAddr Try.underlying45 rfl info3 rfl hF rfl rfl rfl rfl rfl (L.nil k0)) ?_
           refine S.st 25 rfl rfl (Qu.load) (fun Q0 k0 => L.loadPe shape3 hF rfl rfl rfl rfl rfl (L.nil k0)) ?_
           refine S.st 26 rfl rfl ((Ca.move).quiet) (fun Q0 k0 => L.move hF rfl rfl rfl (L.nil k0)) ?_
           refine S.st 27 rfl rfl ((Ca.move).quiet) (fun Q0 k0 => L.move hF rfl rfl rfl (L.nil k0)) ?_
           refine S.st 28 rfl rfl ((Ca.lenR (xs := v101) (e := eI) Try.underlying39 rfl rfl).quiet) (fun Q0 k0 => L.lenR (xs := v101) (e := eI) Try.underlying39 hF rfl rfl rfl rfl (L.nil k0)) ?_
           refine S.st 29 rfl rfl ((Ca.bin rfl rfl (calm_int _ _ _ _ _ _ _ _)).quiet) (fun Q0 k0 => L.bin hF rfl rfl rfl rfl rfl rfl (L.nil k0)) ?_
           obtain ⟨b119, hb119, H⟩ := bindS H
           refine S.st 30 rfl rfl ((Ca.indexAddr).quiet) (fun Q0 k0 => L.idxR (xs := v101) (e := eI) Try.underlying39 info3 hF rfl rfl rfl rfl rfl hb119 rfl rfl (L.nil k0)) ?_
           refine S.st 31 rfl rfl (Qu.load) (fun Q0 k0 => L.loadEp (xs := v101) (e := eI) shape3 hF rfl rfl rfl rfl (at?_get hb119).2 rfl rfl (L.nil k0)) ?_
           refine S.st 32 rfl rfl ((Ca.bin rfl rfl (calm_int _ _ _ _ _ _ _ _)).quiet) (fun Q0 k0 => L.bin hF rfl rfl rfl rfl rfl rfl (L.nil k0)) ?_
           refine S.st 33 rfl rfl ((Ca.pick).quiet) (fun Q0 k0 => L.pick hF rfl rfl rfl rfl (L.nil k0)) ?_
           refine S.st 34 rfl rfl ((Ca.pick).quiet) (fun Q0 k0 => L.pick hF rfl rfl rfl rfl (L.nil k0)) ?_
           refine S.st 35 rfl rfl ((Ca.pick).quiet) (fun Q0 k0 => L.pick hF rfl rfl rfl rfl (L.nil k0)) ?_
           refine S.st 36 rfl rfl ((Ca.assign).quiet) (fun Q0 k0 => L.assign hF rfl rfl rfl (L.nil k0)) ?_
           refine S.nil ?_
           exact ⟨_, ⟨k7, v100, v101, v102, v103, (b118.Tag == b119), v105, by omega, H, rfl⟩, Le.mk [(0, 0)] hm rfl (Sa4 (Sa2 trivial)) (Ra1 trivial) trivial⟩
         ·replace H := condF hc H
          refine S.off 17 rfl rfl hF rfl rfl ?_
          refine S.off 18 rfl rfl hF rfl rfl ?_
          refine S.off 19 rfl rfl hF rfl rfl ?_
          refine S.off 20 rfl rfl hF rfl rfl ?_
          refine S.off 21 rfl rfl hF rfl rfl ?_
          refine S.off 22 rfl rfl hF rfl rfl ?_
          refine S.off 23 rfl rfl hF rfl rfl ?_
          refine S.off 24 rfl rfl hF rfl rfl ?_
          refine S.off 25 rfl rfl hF rfl rfl ?_
          refine S.off 26 rfl rfl hF rfl rfl ?_
          refine S.off 27 rfl rfl hF rfl rfl ?_
          refine S.off 28 rfl rfl hF rfl rfl ?_
          refine S.off 29 rfl rfl hF rfl rfl ?_
          refine S.off 30 rfl rfl hF rfl rfl ?_
          refine S.off 31 rfl rfl hF rfl rfl ?_
          refine S.off 32 rfl rfl hF rfl rfl ?_
          refine S.off 33 rfl rfl hF rfl rfl ?_
          refine S.st 34 rfl rfl ((Ca.pick).quiet) (fun Q0 k0 => L.pick hF rfl rfl rfl rfl (L.nil k0)) ?_
          refine S.st 35 rfl rfl ((Ca.pick).quiet) (fun Q0 k0 => L.pick hF rfl rfl rfl rfl (L.nil k0)) ?_
          refine S.st 36 rfl rfl ((Ca.assign).quiet) (fun Q0 k0 => L.assign hF rfl rfl rfl (L.nil k0)) ?_
          refine S.nil ?_
          exact ⟨_, ⟨k7, v100, v101, v102, v103, false, v105, by omega, H, rfl⟩, Le.mk [(0, 0)] hm rfl (Sa4 (Sa2 trivial)) (Ra1 trivial) trivial⟩
        ·replace H := condF hc H
         refine S.off 8 rfl rfl hF rfl rfl ?_
         refine S.off 9 rfl rfl hF rfl rfl ?_
         refine S.off 10 rfl rfl hF rfl rfl ?_
         refine S.off 11 rfl rfl hF rfl rfl ?_
         refine S.off 12 rfl rfl hF rfl rfl ?_
         refine S.off 13 rfl rfl hF rfl rfl ?_
         refine S.off 14 rfl rfl hF rfl rfl ?_
         refine S.st 15 rfl rfl ((Ca.pick).quiet) (fun Q0 k0 => L.pick hF rfl rfl rfl rfl (L.nil k0)) ?_
         refine S.st 16 rfl rfl ((Ca.move).quiet) (fun Q0 k0 => L.move hF rfl rfl rfl (L.nil k0)) ?_
         refine S.off 17 rfl rfl hF rfl rfl ?_
         refine S.off 18 rfl rfl hF rfl rfl ?_
         refine S.off 19 rfl rfl hF rfl rfl ?_
         refine S.off 20 rfl rfl hF rfl rfl ?_
         refine S.off 21 rfl rfl hF rfl rfl ?_
         refine S.off 22 rfl rfl hF rfl rfl ?_
         refine S.off 23 rfl rfl hF rfl rfl ?_
         refine S.off 24 rfl rfl hF rfl rfl ?_
         refine S.off 25 rfl rfl hF rfl rfl ?_
         refine S.off 26 rfl rfl hF rfl rfl ?_
         refine S.off 27 rfl rfl hF rfl rfl ?_
         refine S.off 28 rfl rfl hF rfl rfl ?_
         refine S.off 29 rfl rfl hF rfl rfl ?_
         refine S.off 30 rfl rfl hF rfl rfl ?_
         refine S.off 31 rfl rfl hF rfl rfl ?_
         refine S.off 32 rfl rfl hF rfl rfl ?_
         refine S.off 33 rfl rfl hF rfl rfl ?_
         refine S.st 34 rfl rfl ((Ca.pick).quiet) (fun Q0 k0 => L.pick hF rfl rfl rfl rfl (L.nil k0)) ?_
         refine S.st 35 rfl rfl ((Ca.pick).quiet) (fun Q0 k0 => L.pick hF rfl rfl rfl rfl (L.nil k0)) ?_
         refine S.st 36 rfl rfl ((Ca.assign).quiet) (fun Q0 k0 => L.assign hF rfl rfl rfl (L.nil k0)) ?_
         refine S.nil ?_
         exact ⟨_, ⟨k7, v100, v101, v102, v103, false, v105, by omega, H, rfl⟩, Le.mk [(0, 0)] hm rfl (Sa4 (Sa2 trivial)) (Ra1 trivial) trivial⟩
     ·replace H := condF hc H
      refine WpC.exit (WpC.seq (WpC.regionL ?_))
      refine L.move hF rfl rfl rfl ?_
      refine L.not hF rfl rfl rfl ?_
      refine L.move hF rfl rfl rfl ?_
      refine L.split (fun hc => ?_) (fun hc => ?_)
      ·replace H := condT hc H
       refine L.off hF rfl rfl ?_
       refine L.pick hF rfl rfl rfl rfl ?_
       refine L.assign hF rfl rfl rfl (L.nil ?_)
       refine WpC.ret ?_
       cases H
       exact Leaves.ret rfl rfl rfl ⟨rfl, rfl⟩
      ·replace H := condF hc H
       refine L.move hF rfl rfl rfl ?_
       refine L.pick hF rfl rfl rfl rfl ?_
       refine L.assign hF rfl rfl rfl (L.nil ?_)
       refine WpC.ret ?_
       cases H
       exact Leaves.ret rfl rfl rfl ⟨rfl, rfl⟩
theorem open33 : Go.MG.Opens Try.prog 33 (Go.MG.eR Go.MG.eB) (Go.MG.wfR (fun _ => True)) := Go.MG.Opens.slice Try.underlying33 (Go.MG.Opens.u8 Try.underlying5) (fun _ => (by kernel_rfl : Try.prog.cellsOf 5 = 1).symm) (fun _ => rfl) (fun _ => rfl) (by kernel_rfl)
end Go.Proofs.Ytgjbgakcfcomdaa.M
