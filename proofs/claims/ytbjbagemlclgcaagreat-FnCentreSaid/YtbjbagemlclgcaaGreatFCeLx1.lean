import Derived.Test.YtbjbagemlclgcaaGreatFCeLx0
import Derived.Test.YtbjbagemlclgcaaGreatProg
namespace Go.Proofs.YtbjbagemlclgcaaGreat.M
open Go Go.MG Tryz
set_option linter.unusedVariables false
set_option linter.unusedSimpArgs false
set_option maxHeartbeats 8000000
set_option maxRecDepth 100000
/-! ### I_ReadVar -/
def I_ReadVar.l2 : Nat → (List UInt8) → Int → Int → Option (Int × Int)
 | 0, _, _, _ => none
 | k2 + 1, v82, v83, v84 => cond (decide (v84 < (v82.length : Int))) (cond (decide (v84 < 7)) ((at? v82 v84).bind fun b92 => cond (!(decide ((IntKind.i64.wrap (7 * v84)) < 0))) ((at? v82 v84).bind fun b94 => cond (decide (b94 < (128 : UInt8))) ((I_Var k2 (Go.bits .or .i64 v83 (shlI .i64 ((b92 &&& (127 : UInt8)).toNat : Int) (IntKind.i64.wrap (7 * v84))))).bind fun r97 => (cut? v82 0 (IntKind.i64.wrap (v84 + 1))).bind fun b98 => cond (r97 != b98) (some (0, 0)) (some ((Go.bits .or .i64 v83 (shlI .i64 ((b92 &&& (127 : UInt8)).toNat : Int) (IntKind.i64.wrap (7 * v84)))), (IntKind.i64.wrap (v84 + 1))))) ((I_ReadVar.l2 k2) v82 (Go.bits .or .i64 v83 (shlI .i64 ((b92 &&& (127 : UInt8)).toNat : Int) (IntKind.i64.wrap (7 * v84)))) (IntKind.i64.wrap (v84 + 1)))) none) (some (0, 0))) (some (0, 0))
def I_ReadVar (k : Nat) (a0 : List UInt8) : Option (Int × Int) := I_ReadVar.l2 k a0 0 0
theorem ent181 : MG.Enters Tryz.prog 181 := ⟨Tryz.f181, func181, rfl, by decide⟩
theorem g181 (k : Nat) (a0 : List UInt8) (r : Int × Int) (H : I_ReadVar k a0 = some r) : Gives Tryz.prog 181 [V.one (cS a0)] [] [V.one (cI r.1), V.one (cI r.2)] [] := by
 refine Gives.intro func181 rfl rfl rfl rfl ?_; refine fx fun w0 T S0 ob oh hm => ?_
 have hF := fxe w0 T S0 40 ob oh
 unfold I_ReadVar at H; obtain ⟨K, hK⟩ := leK k; refine sr ?_; refine ag ?_; refine ag (L.nil ?_); refine sr ?_; refine ag (L.nil ?_); refine WpC.seq (sr ?_); refine ag (L.nil ?_); refine WpC.block ?_; refine WpC.loopL (P := Tryz.prog) (fun n σ => ∃ (v82 : List UInt8) (v83 v84 : Int), n ≤ K ∧ I_ReadVar.l2 n v82 v83 v84 = some r ∧ σ = mkSt [(0, oS v82), (4, oI v83), (5, oI v84)] [] [] 0) k ⟨_, ⟨a0, 0, 0, by omega, H, rfl⟩, lm [] hm⟩ ?_; clear H
 rintro k2 _ ⟨v82, v83, v84, hk2, H, rfl⟩
 cases k2 with
 | zero => cases H
 | succ k2 =>
  rw [I_ReadVar.l2] at H
  refine WpC.seq (sr ?_); refine mv ?_; refine mv ?_; refine L.lenS underlying9 hF rfl rfl rfl ?_; refine bi ?_; refine mv ?_; refine sH H (fun hc H => ?_) (fun hc H => ?_)
  ·refine mv ?_; refine bi ?_; refine pk (L.nil ?_); refine cd H (fun hc H => ?_) (fun hc H => ?_)
   ·refine WpC.skip (WpC.seq (WpC.block (sr ?_))); refine mv ?_; refine mv ?_; refine mv ?_; obtain ⟨b92, hb92, H⟩ := bindS H; refine L.idxS underlying9 hF rfl rfl rfl rfl hb92 ?_; refine L.binB (a := b92) (b := (127 : UInt8)) hF rfl rfl rfl rfl rfl ?_; refine L.ofB underlying5 underlying3 hF rfl rfl rfl ?_; refine mv ?_; refine bi ?_; obtain ⟨h93, H⟩ := condG H; refine L.shl hF rfl rfl rfl rfl (by simpa using h93) ?_; refine bi ?_; refine ag (L.nil ?_); refine sr ?_; refine mv ?_; refine mv ?_; obtain ⟨b94, hb94, H⟩ := bindS H; refine L.idxS underlying9 hF rfl rfl rfl rfl hb94 ?_; refine L.binB (a := b94) (b := (128 : UInt8)) hF rfl rfl rfl rfl rfl (L.nil ?_); refine cd H (fun hc H => ?_) (fun hc H => ?_)
    ·refine WpC.seq (WpC.seq ?_); obtain ⟨r97, hr97, H⟩ := bindS H; obtain ⟨b98, hb98, H⟩ := bindS H; refine A.begin mixed rfl rfl ?_; intro W hI hO; refine hI _ _ _ ?_; refine tM 0 ?_; refine tM 2 ?_; refine tM 3 ?_; refine Atk 4 rfl (Ca.bin rfl rfl (calm_int _ _ _ _ _ _ _ _)) (fun Q0 k0 => bi (L.nil k0)) ?_; refine Atk 5 rfl (Ca.slice) (fun Q0 k0 => L.cutS underlying9 hF rfl rfl rfl rfl rfl hb98 (L.nil k0)) ?_; refine A.all [1] (by kernel_rfl) rfl ⟨⟨_, rfl, ?_⟩, trivial⟩; refine c0 0 ent189 (g189 k2  (Go.bits .or .i64 v83 (shlI .i64 ((b92 &&& (127 : UInt8)).toNat : Int) (IntKind.i64.wrap (7 * v84)))) r97 hr97) (L.nil ?_); refine Atk 6 rfl (Ca.bin rfl rfl (calm_str _ _ _ _ _ _)) (fun Q0 k0 => L.binS hF rfl rfl rfl rfl rfl (L.nil k0)) ?_; refine A.le (τ := mkSt [(4, one (cI (Go.bits .or .i64 v83 (shlI .i64 ((b92 &&& (127 : UInt8)).toNat : Int) (IntKind.i64.wrap (7 * v84)))))), (5, oI v84), (36, oL (r97 != b98))] [] [] 0) (lm [] hm) ?_; refine A.done (by kernel_rfl) ?_; refine cd H (fun hc H => ?_) (fun hc H => ?_)
     ·refine sr ?_; refine ag ?_; refine ag (L.nil ?_); cases H; exact WpC.ret rt
     ·refine WpC.skip (sr ?_); refine mv ?_; refine mv ?_; refine bi ?_; refine ag ?_; refine ag (L.nil ?_); cases H; exact WpC.ret rt
    ·refine WpC.skip (WpC.regionL ?_); refine mv ?_; refine bi ?_; refine ag (L.nil ?_); exact ⟨k2, _, by omega, ⟨v82, (Go.bits .or .i64 v83 (shlI .i64 ((b92 &&& (127 : UInt8)).toNat : Int) (IntKind.i64.wrap (7 * v84)))), (IntKind.i64.wrap (v84 + 1)), by omega, H, rfl⟩, lm [] hm⟩
   ·refine WpC.exit (sr ?_); refine ag ?_; refine ag (L.nil ?_); cases H; exact WpC.ret rt
  ·(repeat refine of ?_); refine pk (L.nil ?_); refine cF ?_; refine WpC.exit (sr ?_); refine ag ?_; refine ag (L.nil ?_); cases H; exact WpC.ret rt
/-! ### I_varAt -/
def I_varAt (k : Nat) (a0 : List UInt8) (a1 : Int) : Option (Int × Int) := (cut? a0 a1 (a0.length : Int)).bind fun b1 => (I_ReadVar k b1).bind fun r2 => cond (r2.2 == 0) (some ((-1), a1)) (some (r2.1, (IntKind.i64.wrap (a1 + r2.2))))
theorem ent149 : MG.Enters Tryz.prog 149 := ⟨Tryz.f149, func149, rfl, by decide⟩
theorem g149 (k : Nat) (a0 : List UInt8) (a1 : Int) (r : Int × Int) (H : I_varAt k a0 a1 = some r) : Gives Tryz.prog 149 [V.one (cS a0), V.one (cI a1)] [] [V.one (cI r.1), V.one (cI r.2)] [] := by
 refine Gives.intro func149 rfl rfl rfl rfl ?_; refine fx fun w0 T S0 ob oh hm => ?_
 have hF := fxe w0 T S0 22 ob oh
 unfold I_varAt at H; obtain ⟨K, hK⟩ := leK k; refine sr ?_; refine ag ?_; refine ag (L.nil ?_); refine sr ?_; refine mv ?_; refine mv ?_; obtain ⟨b1, hb1, H⟩ := bindS H; refine L.cutS underlying9 hF rfl rfl rfl rfl rfl hb1 ?_; obtain ⟨r2, hr2, H⟩ := bindS H; refine c0 2 ent181 (g181 k  b1 r2 hr2) ?_; refine mv ?_; refine ex ?_; refine ex ?_; refine ag ?_; refine ag (L.nil ?_); refine WpC.seq (sr ?_); refine mv ?_; refine bi (L.nil ?_); refine cd H (fun hc H => ?_) (fun hc H => ?_)
 ·refine sr ?_; refine mv ?_; refine ag ?_; refine ag (L.nil ?_); cases H; exact WpC.ret rt
 ·refine WpC.skip (sr ?_); refine mv ?_; refine mv ?_; refine mv ?_; refine bi ?_; refine ag ?_; refine ag (L.nil ?_); cases H; exact WpC.ret rt
/-! ### I_isKey -/
def I_isKey (k : Nat) (a0 : Int) : Option Bool := (I_within k a0 1 1000000).bind fun r1 => some r1
theorem ent182 : MG.Enters Tryz.prog 182 := ⟨Tryz.f182, func182, rfl, by decide⟩
theorem g182 (k : Nat) (a0 : Int) (r : Bool) (H : I_isKey k a0 = some r) : Gives Tryz.prog 182 [V.one (cI a0)] [] [V.one (cL r)] [] := by
 refine Gives.intro func182 rfl rfl rfl rfl ?_; refine fx fun w0 T S0 ob oh hm => ?_
 have hF := fxe w0 T S0 5 ob oh
 unfold I_isKey at H; obtain ⟨K, hK⟩ := leK k; refine sr ?_; refine ag (L.nil ?_); refine sr ?_; refine mv ?_; obtain ⟨r1, hr1, H⟩ := bindS H; refine c0 1 ent90 (g90 k  a0 1 1000000 r1 hr1) ?_; refine ag (L.nil ?_); cases H; exact WpC.ret rt
/-! ### I_termAt -/
def I_termAt.l4 (cREC : (List UInt8) → Int → Int → Option Int) : Nat → (List UInt8) → Int → Int → Int → Int → Option Int
 | 0, _, _, _, _, _ => none
 | k4 + 1, v96, v97, v98, v99, v100 => cond (decide (v100 < v98)) (cond (decide (v99 ≥ 0)) ((cREC v96 v99 (IntKind.i64.wrap (v97 - 1))).bind fun r102 => (I_termAt.l4 cREC k4) v96 v97 v98 r102 (IntKind.i64.wrap (v100 + 1))) (some v99)) (some v99)
def I_termAt : Nat → (List UInt8) → Int → Int → Option Int
 | 0, _, _, _ => none
 | k + 1, a0, a1, a2 => cond (decide (a1 ≥ (a0.length : Int))) (some (-1)) (cond (decide (a2 < 1)) (some (-1)) ((I_varAt k a0 (IntKind.i64.wrap (a1 + 1))).bind fun r1 => (at? a0 a1).bind fun b54 => cond (b54 == (97 : UInt8)) ((I_within k r1.1 0 40).bind fun r58 => cond (!r58) (some (-1)) (cond (decide (r1.1 > (IntKind.i64.wrap ((a0.length : Int) - r1.2)))) (some (-1)) (some (IntKind.i64.wrap (r1.2 + r1.1))))) (cond (b54 == (107 : UInt8)) ((I_isKey k r1.1).bind fun r60 => cond (!r60) (some (-1)) (some r1.2)) (cond (b54 == (108 : UInt8)) ((I_within k r1.1 0 12).bind fun r62 => cond (!r62) (some (-1)) (I_termAt.l4 (I_termAt k) k a0 a2 r1.1 r1.2 0)) (cond (b54 == (115 : UInt8)) ((I_isKey k r1.1).bind fun r104 => cond (!r104) (some (-1)) (((I_termAt k) a0 r1.2 (IntKind.i64.wrap (a2 - 1))).bind fun r105 => some r105)) (some (-1)))))))
theorem ent150 : MG.Enters Tryz.prog 150 := ⟨Tryz.f150, func150, rfl, by decide⟩
theorem g150 : ∀ (k : Nat) (a0 : List UInt8) (a1 a2 r : Int) (H : I_termAt k a0 a1 a2 = some r), Gives Tryz.prog 150 [V.one (cS a0), V.one (cI a1), V.one (cI a2)] [] [V.one (cI r)] [] := by
 intro k
 induction k with
 | zero => intros; rename_i H; cases H
 | succ k ih =>
  intro a0 a1 a2 r H; refine Gives.intro func150 rfl rfl rfl rfl ?_; refine fx fun w0 T S0 ob oh hm => ?_
  have hF := fxe w0 T S0 80 ob oh
  rw [I_termAt] at H
  obtain ⟨K, hK⟩ := leK k; refine sr ?_; refine ag (L.nil ?_); refine WpC.seq (sr ?_); refine mv ?_; refine mv ?_; refine L.lenS underlying9 hF rfl rfl rfl ?_; refine bi ?_; refine mv ?_; refine sH H (fun hc H => ?_) (fun hc H => ?_)
  ·(repeat refine of ?_); refine pk (L.nil ?_); refine cT ?_; refine sr ?_; refine ag (L.nil ?_); cases H; exact WpC.ret rt
  ·refine mv ?_; refine bi ?_; refine pk (L.nil ?_); refine cd H (fun hc H => ?_) (fun hc H => ?_)
   ·refine sr ?_; refine ag (L.nil ?_); cases H; exact WpC.ret rt
   ·refine WpC.skip (sr ?_); refine mv ?_; refine mv ?_; refine bi ?_; obtain ⟨r1, hr1, H⟩ := bindS H; refine c0 3 ent149 (g149 k  a0 (IntKind.i64.wrap (a1 + 1)) r1 hr1) ?_; refine mv ?_; refine ex ?_; refine ex ?_; refine ag ?_; refine ag (L.nil ?_); refine WpC.seq (sr ?_); refine mv ?_; refine mv ?_; obtain ⟨b54, hb54, H⟩ := bindS H; refine L.idxS underlying9 hF rfl rfl rfl rfl hb54 (L.nil ?_); refine WpC.block (sr ?_); refine L.binB (a := b54) (b := (97 : UInt8)) hF rfl rfl rfl rfl rfl ?_; refine ag (L.nil ?_); refine cd H (fun hc H => ?_) (fun hc H => ?_)
    ·refine WpC.seq (sr ?_); refine mv ?_; obtain ⟨r58, hr58, H⟩ := bindS H; refine c0 5 ent90 (g90 k  r1.1 0 40 r58 hr58) ?_; refine nt ?_; refine mv ?_; refine sH H (fun hc H => ?_) (fun hc H => ?_)
     ·(repeat refine of ?_); refine pk (L.nil ?_); refine cT ?_; refine sr ?_; refine ag (L.nil ?_); cases H; exact WpC.ret rt
     ·refine mv ?_; refine mv ?_; refine L.lenS underlying9 hF rfl rfl rfl ?_; refine mv ?_; refine bi ?_; refine bi ?_; refine pk (L.nil ?_); refine cd H (fun hc H => ?_) (fun hc H => ?_)
      ·refine sr ?_; refine ag (L.nil ?_); cases H; exact WpC.ret rt
      ·refine WpC.skip (sr ?_); refine mv ?_; refine mv ?_; refine bi ?_; refine ag (L.nil ?_); cases H; exact WpC.ret rt
    ·refine sr ?_; refine L.binB (a := b54) (b := (107 : UInt8)) hF rfl rfl rfl rfl rfl ?_; refine ag (L.nil ?_); refine cd H (fun hc H => ?_) (fun hc H => ?_)
     ·refine WpC.seq (sr ?_); refine mv ?_; obtain ⟨r60, hr60, H⟩ := bindS H; refine c0 5 ent182 (g182 k  r1.1 r60 hr60) ?_; refine nt (L.nil ?_); refine cd H (fun hc H => ?_) (fun hc H => ?_)
      ·refine sr ?_; refine ag (L.nil ?_); cases H; exact WpC.ret rt
      ·refine WpC.skip (sr ?_); refine mv ?_; refine ag (L.nil ?_); cases H; exact WpC.ret rt
     ·refine sr ?_; refine L.binB (a := b54) (b := (108 : UInt8)) hF rfl rfl rfl rfl rfl ?_; refine ag (L.nil ?_); refine cd H (fun hc H => ?_) (fun hc H => ?_)
      ·refine WpC.seq (sr ?_); refine mv ?_; obtain ⟨r62, hr62, H⟩ := bindS H; refine c0 5 ent90 (g90 k  r1.1 0 12 r62 hr62) ?_; refine nt (L.nil ?_); refine cd H (fun hc H => ?_) (fun hc H => ?_)
       ·refine sr ?_; refine ag (L.nil ?_); cases H; exact WpC.ret rt
       ·refine WpC.skip (WpC.seq (sr ?_)); refine ag (L.nil ?_); refine WpC.block ?_; refine WpC.loopL (P := Tryz.prog) (fun n σ => ∃ (v96 : List UInt8) (v97 v98 v99 v100 : Int), n ≤ K ∧ I_termAt.l4 (I_termAt k) n v96 v97 v98 v99 v100 = some r ∧ σ = mkSt [(0, oS v96), (2, oI v97), (7, oI v98), (8, oI v99), (9, oI v100)] [] [] 0) k ⟨_, ⟨a0, a2, r1.1, r1.2, 0, by omega, H, rfl⟩, lm [] hm⟩ ?_; clear H
        rintro k4 _ ⟨v96, v97, v98, v99, v100, hk4, H, rfl⟩
        cases k4 with
        | zero => cases H
        | succ k4 =>
         rw [I_termAt.l4] at H
         refine WpC.seq (sr ?_); refine mv ?_; refine mv ?_; refine bi ?_; refine mv ?_; refine sH H (fun hc H => ?_) (fun hc H => ?_)
         ·refine mv ?_; refine bi ?_; refine pk (L.nil ?_); refine cd H (fun hc H => ?_) (fun hc H => ?_)
          ·refine WpC.skip (WpC.seq (WpC.block (WpC.regionL ?_))); refine mv ?_; refine mv ?_; refine mv ?_; refine bi ?_; obtain ⟨r102, hr102, H⟩ := bindS H; refine c0 0 ent150 (ih  v96 v99 (IntKind.i64.wrap (v97 - 1)) r102 hr102) ?_; refine ag (L.nil ?_); refine WpC.regionL ?_; refine mv ?_; refine bi ?_; refine ag (L.nil ?_); exact ⟨k4, _, by omega, ⟨v96, v97, v98, r102, (IntKind.i64.wrap (v100 + 1)), by omega, H, rfl⟩, lm [] hm⟩
          ·refine WpC.exit (sr ?_); refine mv ?_; refine ag (L.nil ?_); cases H; exact WpC.ret rt
         ·(repeat refine of ?_); refine pk (L.nil ?_); refine cF ?_; refine WpC.exit (sr ?_); refine mv ?_; refine ag (L.nil ?_); cases H; exact WpC.ret rt
      ·refine sr ?_; refine L.binB (a := b54) (b := (115 : UInt8)) hF rfl rfl rfl rfl rfl ?_; refine ag (L.nil ?_); refine cd H (fun hc H => ?_) (fun hc H => ?_)
       ·refine WpC.seq (sr ?_); refine mv ?_; obtain ⟨r104, hr104, H⟩ := bindS H; refine c0 5 ent182 (g182 k  r1.1 r104 hr104) ?_; refine nt (L.nil ?_); refine cd H (fun hc H => ?_) (fun hc H => ?_)
        ·refine sr ?_; refine ag (L.nil ?_); cases H; exact WpC.ret rt
        ·refine WpC.skip (sr ?_); refine mv ?_; refine mv ?_; refine mv ?_; refine bi ?_; obtain ⟨r105, hr105, H⟩ := bindS H; refine c0 6 ent150 (ih  a0 r1.2 (IntKind.i64.wrap (a2 - 1)) r105 hr105) ?_; refine ag (L.nil ?_); cases H; exact WpC.ret rt
       ·refine WpC.skip (sr ?_); refine ag (L.nil ?_); cases H; exact WpC.ret rt
/-! ### I_TermOk -/
def I_TermOk (k : Nat) (a0 : List UInt8) : Option Bool := (I_within k (a0.length : Int) 1 900).bind fun r3 => cond r3 ((I_termAt k a0 0 8).bind fun r4 => some (r4 == (a0.length : Int))) (some false)
theorem ent180 : MG.Enters Tryz.prog 180 := ⟨Tryz.f180, func180, rfl, by decide⟩
theorem g180 (k : Nat) (a0 : List UInt8) (r : Bool) (H : I_TermOk k a0 = some r) : Gives Tryz.prog 180 [V.one (cS a0)] [] [V.one (cL r)] [] := by
 refine Gives.intro func180 rfl rfl rfl rfl ?_; refine fx fun w0 T S0 ob oh hm => ?_
 have hF := fxe w0 T S0 13 ob oh
 unfold I_TermOk at H; obtain ⟨K, hK⟩ := leK k; refine sr ?_; refine ag (L.nil ?_); refine sr ?_; refine mv ?_; refine L.lenS underlying9 hF rfl rfl rfl ?_; obtain ⟨r3, hr3, H⟩ := bindS H; refine c0 1 ent90 (g90 k  (a0.length : Int) 1 900 r3 hr3) ?_; refine mv ?_; refine sH H (fun hc H => ?_) (fun hc H => ?_)
 ·refine mv ?_; obtain ⟨r4, hr4, H⟩ := bindS H; refine c0 2 ent150 (g150 k  a0 0 8 r4 hr4) ?_; refine mv ?_; refine L.lenS underlying9 hF rfl rfl rfl ?_; refine bi ?_; refine pk ?_; refine ag (L.nil ?_); cases H; exact WpC.ret rt
 ·(repeat refine of ?_); refine pk ?_; refine ag (L.nil ?_); cases H; exact WpC.ret rt
/-! ### I_isOf -/
def I_isOf (k : Nat) (a0 : List UInt8) (a1 : UInt8) : Option Bool := (I_TermOk k a0).bind fun r3 => cond r3 ((at? a0 0).bind fun b4 => some (b4 == a1)) (some false)
theorem ent148 : MG.Enters Tryz.prog 148 := ⟨Tryz.f148, func148, rfl, by decide⟩
theorem g148 (k : Nat) (a0 : List UInt8) (a1 : UInt8) (r : Bool) (H : I_isOf k a0 a1 = some r) : Gives Tryz.prog 148 [V.one (cS a0), V.one (cU a1)] [] [V.one (cL r)] [] := by
 refine Gives.intro func148 rfl rfl rfl rfl ?_; refine fx fun w0 T S0 ob oh hm => ?_
 have hF := fxe w0 T S0 13 ob oh
 unfold I_isOf at H; obtain ⟨K, hK⟩ := leK k; refine sr ?_; refine ag (L.nil ?_); refine sr ?_; refine mv ?_; obtain ⟨r3, hr3, H⟩ := bindS H; refine c0 2 ent180 (g180 k  a0 r3 hr3) ?_; refine mv ?_; refine sH H (fun hc H => ?_) (fun hc H => ?_)
 ·refine mv ?_; obtain ⟨b4, hb4, H⟩ := bindS H; refine L.idxS underlying9 hF rfl rfl rfl rfl hb4 ?_; refine mv ?_; refine L.binB (a := b4) (b := a1) hF rfl rfl rfl rfl rfl ?_; refine pk ?_; refine ag (L.nil ?_); cases H; exact WpC.ret rt
 ·(repeat refine of ?_); refine pk ?_; refine ag (L.nil ?_); cases H; exact WpC.ret rt
/-! ### I_Parts -/
def I_Parts.l2 : Nat → (List UInt8) → Int → (List (List UInt8)) → Int → Int → Option (List (List UInt8) × Bool)
 | 0, _, _, _, _, _ => none
 | k2 + 1, v57, v58, v59, v60, v61 => cond (decide (v61 < v60)) ((I_termAt k2 v57 v58 8).bind fun r65 => (cut? v57 v58 r65).bind fun b66 => cond (decide ((2 * (v59.length + ([b66] : List (List UInt8)).length) + 192) * 16 ≤ 281474976710656)) ((I_Parts.l2 k2) v57 r65 (v59 ++ ([b66] : List (List UInt8))) v60 (IntKind.i64.wrap (v61 + 1))) none) (some (v59, true))
def I_Parts (k : Nat) (a0 : List UInt8) : Option (List (List UInt8) × Bool) := (I_isOf k a0 (108 : UInt8)).bind fun r2 => cond (!r2) (some ([], false)) ((I_varAt k a0 1).bind fun r3 => I_Parts.l2 k a0 r3.2 ([] : List (List UInt8)) r3.1 0)
theorem ent88 : MG.Enters Tryz.prog 88 := ⟨Tryz.f88, func88, rfl, by decide⟩
theorem g88 (k : Nat) (a0 : List UInt8) (r : List (List UInt8) × Bool) (H : I_Parts k a0 = some r) : Gives Tryz.prog 88 [V.one (cS a0)] [] [V.one (Cell.ow 1 (List.map eS r.1)), V.one (cL r.2)] [] := by
 refine Gives.intro func88 rfl rfl rfl rfl ?_; refine fx fun w0 T S0 ob oh hm => ?_
 have hF := fxe w0 T S0 33 ob oh
 unfold I_Parts at H; obtain ⟨K, hK⟩ := leK k; refine sr ?_; refine ag ?_; refine ag (L.nil ?_); refine WpC.seq (sr ?_); refine mv ?_; obtain ⟨r2, hr2, H⟩ := bindS H; refine c0 1 ent148 (g148 k  a0 (108 : UInt8) r2 hr2) ?_; refine nt (L.nil ?_); refine cd H (fun hc H => ?_) (fun hc H => ?_)
 ·refine sr ?_; refine ag ?_; refine ag (L.nil ?_); refine WpC.le (Le.own 2 0 2 1 rfl rfl rfl) ?_; cases H; exact WpC.ret rt
 ·refine WpC.skip (sr ?_); refine mv ?_; obtain ⟨r3, hr3, H⟩ := bindS H; refine c0 2 ent149 (g149 k  a0 1 r3 hr3) ?_; refine mv ?_; refine ex ?_; refine ex ?_; refine ag ?_; refine ag (L.nil ?_); refine sr ?_; refine L.buildSlice (e := eS) 4 ([] : List (List UInt8)) underlying70 info9 rfl rfl rfl hF rfl rfl rfl rfl rfl rfl rfl rfl ?_; refine ag (L.nil ?_); refine WpC.seq (sr ?_); refine mv ?_; refine mv (L.nil ?_); refine WpC.block ?_; refine WpC.loopL (P := Tryz.prog) (fun n σ => ∃ (v57 : List UInt8) (v58 : Int) (v59 : List (List UInt8)) (v60 v61 : Int), n ≤ K ∧ I_Parts.l2 n v57 v58 v59 v60 v61 = some r ∧ σ = mkSt [(0, oS v57), (5, oI v58), (6, one (Cell.own 0)), (17, oI v60), (18, oI v61)] [(0, ⟨1, List.map eS v59⟩)] [] 1) k ⟨_, ⟨a0, r3.2, ([] : List (List UInt8)), r3.1, 0, by omega, H, rfl⟩, lm [(0, 4)] hm⟩ ?_; clear H
  rintro k2 _ ⟨v57, v58, v59, v60, v61, hk2, H, rfl⟩
  cases k2 with
  | zero => cases H
  | succ k2 =>
   rw [I_Parts.l2] at H
   refine sr ?_; refine bi (L.nil ?_); refine WpC.seq ?_; refine cd H (fun hc H => ?_) (fun hc H => ?_)
   ·refine WpC.skip (WpC.seq (WpC.block (sr ?_))); refine mv ?_; refine mv ?_; obtain ⟨r65, hr65, H⟩ := bindS H; refine c0 1 ent150 (g150 k2  v57 v58 8 r65 hr65) ?_; refine ag (L.nil ?_); refine sr ?_; refine mv ?_; refine mv ?_; refine mv ?_; refine mv ?_; obtain ⟨b66, hb66, H⟩ := bindS H; refine L.cutS underlying9 hF rfl rfl rfl rfl rfl hb66 ?_; refine L.buildSlice (e := eS) 2 ([b66] : List (List UInt8)) underlying70 info9 rfl rfl rfl hF rfl rfl rfl rfl rfl rfl rfl rfl ?_; obtain ⟨h67, H⟩ := condG H; refine L.append (xs := v59) (ys := ([b66] : List (List UInt8))) (e := eS) 3 underlying70 info9 rfl rfl hF rfl rfl rfl rfl rfl rfl rfl rfl (fun _ => rfl) (fun _ _ h1 h2 => by cases h1; cases h2; rfl) ⟨_, underlying70⟩ (of_decide_eq_true h67) rfl rfl ?_; refine ag (L.nil ?_); refine WpC.regionL ?_; refine mv ?_; refine ag (L.nil ?_); refine WpC.regionL ?_; refine bi ?_; refine mv (L.nil ?_); exact ⟨k2, _, by omega, ⟨v57, r65, (v59 ++ ([b66] : List (List UInt8))), v60, (IntKind.i64.wrap (v61 + 1)), by omega, H, rfl⟩, lm [(0, 3)] hm⟩
   ·refine WpC.exit (sr ?_); refine mv ?_; refine ag ?_; refine ag (L.nil ?_); cases H; exact WpC.ret rt
/-! ### I_isRealm -/
def I_isRealm (k : Nat) (a0 : Int) : Option Bool := (I_within k a0 0 2).bind fun r1 => some r1
theorem ent89 : MG.Enters Tryz.prog 89 := ⟨Tryz.f89, func89, rfl, by decide⟩
theorem g89 (k : Nat) (a0 : Int) (r : Bool) (H : I_isRealm k a0 = some r) : Gives Tryz.prog 89 [V.one (cI a0)] [] [V.one (cL r)] [] := by
 refine Gives.intro func89 rfl rfl rfl rfl ?_; refine fx fun w0 T S0 ob oh hm => ?_
 have hF := fxe w0 T S0 5 ob oh
 unfold I_isRealm at H; obtain ⟨K, hK⟩ := leK k; refine sr ?_; refine ag (L.nil ?_); refine sr ?_; refine mv ?_; obtain ⟨r1, hr1, H⟩ := bindS H; refine c0 1 ent90 (g90 k  a0 0 2 r1 hr1) ?_; refine ag (L.nil ?_); cases H; exact WpC.ret rt
/-! ### I_ConfigOk_1 -/
def I_ConfigOk_1 (k : Nat) (a0 : T_Pair) : Option Bool := (I_isRealm k a0.A).bind fun r3 => cond r3 ((I_isRealm k a0.B).bind fun r4 => cond r4 (some (a0.A != a0.B)) (some false)) (some false)
theorem ent115 : MG.Enters Tryz.prog 115 := ⟨Tryz.f115, func115, rfl, by decide⟩
theorem g115 (k : Nat) (a0 : T_Pair) (r : Bool) (H : I_ConfigOk_1 k a0 = some r) : Gives Tryz.prog 115 [V.agg [cI a0.A, cI a0.B]] [] [V.one (cL r)] [] := by
 refine Gives.intro func115 rfl rfl rfl rfl ?_; refine fx fun w0 T S0 ob oh hm => ?_
 have hF := fxe w0 T S0 18 ob oh
 unfold I_ConfigOk_1 at H; obtain ⟨K, hK⟩ := leK k; refine sr ?_; refine bo 2 ?_; refine ag (L.nil ?_); refine sr ?_; refine fa underlying147 info3 ?_; refine lp shape3 ?_; obtain ⟨r3, hr3, H⟩ := bindS H; refine c0 3 ent89 (g89 k  a0.A r3 hr3) ?_; refine mv ?_; refine sH H (fun hc H => ?_) (fun hc H => ?_)
 ·refine fa underlying147 info3 ?_; refine lp shape3 ?_; obtain ⟨r4, hr4, H⟩ := bindS H; refine c0 4 ent89 (g89 k  a0.B r4 hr4) ?_; refine pk ?_; refine mv ?_; refine sH H (fun hc H => ?_) (fun hc H => ?_)
  ·refine fa underlying147 info3 ?_; refine lp shape3 ?_; refine fa underlying147 info3 ?_; refine lp shape3 ?_; refine bi ?_; refine pk ?_; refine ag (L.nil ?_); cases H; exact WpC.ret rt
  ·(repeat refine of ?_); refine pk ?_; refine ag (L.nil ?_); cases H; exact WpC.ret rt
 ·(repeat refine of ?_); refine pk ?_; refine mv ?_; (repeat refine of ?_); refine pk ?_; refine ag (L.nil ?_); cases H; exact WpC.ret rt
/-! ### V_Index_Pair -/
def V_Index_Pair.l2 : Nat → (List T_Pair) → Int → Int → T_Pair → Option Int
 | 0, _, _, _, _ => none
 | k2 + 1, v29, v30, v31, v32 => cond (decide (v31 < v30)) ((at? v29 v31).bind fun b34 => cond ((v32.A == b34.A) && ((v32.B == b34.B) && true)) (some v31) ((V_Index_Pair.l2 k2) v29 v30 (IntKind.i64.wrap (v31 + 1)) v32)) (some (-1))
def V_Index_Pair (k : Nat) (a0 : List T_Pair) (a1 : T_Pair) : Option Int := V_Index_Pair.l2 k a0 (a0.length : Int) 0 a1
theorem ent191 : MG.Enters Tryz.prog 191 := ⟨Tryz.f191, func191, rfl, by decide⟩
theorem g191 (k : Nat) (g0 : Bool) (a0 : List T_Pair) (a1 : T_Pair) (r : Int) (H : V_Index_Pair k a0 a1 = some r) : Gives Tryz.prog 191 [V.one (Cell.sl g0 (List.map eT_Pair a0)), V.agg [cI a1.A, cI a1.B]] [] [V.one (cI r)] [] := by
 refine Gives.intro func191 rfl rfl rfl rfl ?_; refine fx fun w0 T S0 ob oh hm => ?_
 have hF := fxe w0 T S0 19 ob oh
 unfold V_Index_Pair at H; obtain ⟨K, hK⟩ := leK k; refine sr ?_; refine bo 3 ?_; refine ag (L.nil ?_); refine WpC.seq (sr ?_); refine mv ?_; refine L.lenR (xs := a0) (e := eT_Pair) underlying42 hF rfl rfl rfl rfl ?_; refine mv (L.nil ?_); refine WpC.block ?_; refine WpC.loopL (P := Tryz.prog) (fun n σ => ∃ (v29 : List T_Pair) (v30 v31 : Int) (v32 : T_Pair), n ≤ K ∧ V_Index_Pair.l2 n v29 v30 v31 v32 = some r ∧ σ = mkSt [(0, one (Cell.sl g0 (List.map eT_Pair v29))), (3, oP 0 0), (7, oI v30), (8, oI v31)] [] [(0, [cI v32.A, cI v32.B])] 1) k ⟨_, ⟨a0, (a0.length : Int), 0, a1, by omega, H, rfl⟩, lm [(0, 3)] hm⟩ ?_; clear H
 rintro k2 _ ⟨v29, v30, v31, v32, hk2, H, rfl⟩
 cases k2 with
 | zero => cases H
 | succ k2 =>
  rw [V_Index_Pair.l2] at H
  refine sr ?_; refine bi (L.nil ?_); refine WpC.seq ?_; refine cd H (fun hc H => ?_) (fun hc H => ?_)
  ·refine WpC.skip (WpC.seq (WpC.block (sr ?_))); refine mv ?_; refine ag (L.nil ?_); refine WpC.seq ?_; refine S.begin mixed (by kernel_rfl) ?_; refine S.st 0 rfl rfl (Qu.load) (fun Q0 k0 => lp shape147 (L.nil k0)) ?_; refine S.st 1 rfl rfl ((Ca.move).quiet) (fun Q0 k0 => mv (L.nil k0)) ?_; refine S.st 2 rfl rfl ((Ca.move).quiet) (fun Q0 k0 => mv (L.nil k0)) ?_; obtain ⟨b34, hb34, H⟩ := bindS H; refine S.st 3 rfl rfl ((Ca.indexAddr).quiet) (fun Q0 k0 => ix underlying42 info147 hb34 (L.nil k0)) ?_; refine S.st 4 rfl rfl (Qu.load) (fun Q0 k0 => le shape147 (L.nil k0)) ?_; refine S.st 5 rfl rfl ((Ca.eqA (r := ((v32.A == b34.A) && ((v32.B == b34.B) && true))) rfl rfl rfl rfl (by kernel_rfl) (by kernel_rfl)).quiet) (fun Q0 k0 => L.eqA (r := ((v32.A == b34.A) && ((v32.B == b34.B) && true))) hF rfl rfl rfl rfl rfl rfl (by kernel_rfl) (by kernel_rfl) (L.nil k0)) ?_; refine S.nil ?_; refine cd H (fun hc H => ?_) (fun hc H => ?_)
   ·refine sr ?_; refine mv ?_; refine ag (L.nil ?_); cases H; exact WpC.ret rt
   ·refine WpC.skip (WpC.regionL ?_); refine bi ?_; refine mv (L.nil ?_); exact ⟨k2, _, by omega, ⟨v29, v30, (IntKind.i64.wrap (v31 + 1)), v32, by omega, H, rfl⟩, lm [(0, 0)] hm⟩
  ·refine WpC.exit (sr ?_); refine ag (L.nil ?_); cases H; exact WpC.ret rt
/-! ### V_Contains_Pair -/
def V_Contains_Pair (k : Nat) (a0 : List T_Pair) (a1 : T_Pair) : Option Bool := (V_Index_Pair k a0 a1).bind fun r1 => some (decide (r1 ≥ 0))
theorem ent172 : MG.Enters Tryz.prog 172 := ⟨Tryz.f172, func172, rfl, by decide⟩
theorem g172 (k : Nat) (g0 : Bool) (a0 : List T_Pair) (a1 : T_Pair) (r : Bool) (H : V_Contains_Pair k a0 a1 = some r) : Gives Tryz.prog 172 [V.one (Cell.sl g0 (List.map eT_Pair a0)), V.agg [cI a1.A, cI a1.B]] [] [V.one (cL r)] [] := by
 refine Gives.intro func172 rfl rfl rfl rfl ?_; refine fx fun w0 T S0 ob oh hm => ?_
 have hF := fxe w0 T S0 9 ob oh
 unfold V_Contains_Pair at H; obtain ⟨K, hK⟩ := leK k; refine sr ?_; refine bo 3 ?_; refine ag (L.nil ?_); refine sr ?_; refine mv ?_; refine lp shape147 ?_; obtain ⟨r1, hr1, H⟩ := bindS H; refine c0 4 ent191 (g191 k g0 a0 a1 r1 hr1) ?_; refine bi ?_; refine ag (L.nil ?_); cases H; exact WpC.ret rt
/-! ### I_arePairs__impl_ConfigOk_1 -/
def I_arePairs__impl_ConfigOk_1.l2 : Nat → (List T_Pair) → Int → Int → Option Bool
 | 0, _, _, _ => none
 | k2 + 1, v84, v85, v86 => cond (decide (v86 < v85)) ((at? v84 v86).bind fun b94 => (I_ConfigOk_1 k2 b94).bind fun r98 => cond (!r98) (some false) ((part? v84 0 v86).bind fun b100 => (V_Contains_Pair k2 b100 b94).bind fun r101 => cond r101 (some false) ((I_arePairs__impl_ConfigOk_1.l2 k2) v84 v85 (IntKind.i64.wrap (v86 + 1))))) (some (decide ((v84.length : Int) ≤ 6)))
def I_arePairs__impl_ConfigOk_1 (k : Nat) (a0 : List T_Pair) : Option Bool := I_arePairs__impl_ConfigOk_1.l2 k a0 (a0.length : Int) 0
theorem ent114 : MG.Enters Tryz.prog 114 := ⟨Tryz.f114, func114, rfl, by decide⟩
theorem g114 (k : Nat) (g0 : Bool) (a0 : List T_Pair) (r : Bool) (H : I_arePairs__impl_ConfigOk_1 k a0 = some r) : Gives Tryz.prog 114 [V.one (Cell.sl g0 (List.map eT_Pair a0)), V.one (Cell.clo 115 [])] [] [V.one (cL r)] [] := by
 refine Gives.intro func114 rfl rfl rfl rfl ?_; refine fx fun w0 T S0 ob oh hm => ?_
 have hF := fxe w0 T S0 29 ob oh
 unfold I_arePairs__impl_ConfigOk_1 at H; obtain ⟨K, hK⟩ := leK k; refine sr ?_; refine ag (L.nil ?_); refine WpC.seq (sr ?_); refine mv ?_; refine L.lenR (xs := a0) (e := eT_Pair) underlying42 hF rfl rfl rfl rfl ?_; refine mv (L.nil ?_); refine WpC.block ?_; refine WpC.loopL (P := Tryz.prog) (fun n σ => ∃ (v84 : List T_Pair) (v85 v86 : Int), n ≤ K ∧ I_arePairs__impl_ConfigOk_1.l2 n v84 v85 v86 = some r ∧ σ = mkSt [(0, one (Cell.sl g0 (List.map eT_Pair v84))), (1, one (Cell.clo 115 [])), (7, one (Cell.sl g0 (List.map eT_Pair v84))), (8, oI v85), (9, oI v86)] [] [] 0) k ⟨_, ⟨a0, (a0.length : Int), 0, by omega, H, rfl⟩, lm [] hm⟩ ?_; clear H
 rintro k2 _ ⟨v84, v85, v86, hk2, H, rfl⟩
 cases k2 with
 | zero => cases H
 | succ k2 =>
  rw [I_arePairs__impl_ConfigOk_1.l2] at H
  refine sr ?_; refine bi (L.nil ?_); refine WpC.seq ?_; refine cd H (fun hc H => ?_) (fun hc H => ?_)
  ·refine WpC.skip (WpC.seq (WpC.block (sr ?_))); refine mv ?_; obtain ⟨b94, hb94, H⟩ := bindS H; refine ix underlying42 info147 hb94 ?_; refine le shape147 ?_; refine alc 0 info147 ?_; refine ag ?_; refine sp shape147 (L.nil ?_); refine WpC.seq ?_; obtain ⟨r98, hr98, H⟩ := bindS H
   rcases Bool.eq_false_or_eq_true ((!r98)) with hc99 | hc99
   ·replace H := condT hc99 H
    refine A.begin mixed rfl rfl ?_; intro W hI hO; refine hI _ _ _ ?_; refine tM 0 ?_; refine A.all [1] (by kernel_rfl) rfl ⟨⟨_, rfl, ?_⟩, trivial⟩; refine lp shape147 (L.nil ?_); refine A.all [2] (by kernel_rfl) rfl ⟨⟨_, rfl, ?_⟩, trivial⟩; refine c0 1 ent115 (g115 k2  b94 r98 hr98) (L.nil ?_); refine Atk 3 rfl (Ca.un rfl rfl) (fun Q0 k0 => nt (L.nil k0)) ?_; refine tM 4 ?_; refine A.le (τ := mkSt [(0, one (Cell.sl g0 (List.map eT_Pair v84))), (1, one (Cell.clo 115 [])), (5, oI v86), (6, oP 0 0), (7, one (Cell.sl g0 (List.map eT_Pair v84))), (8, oI v85), (9, oI v86), (18, oL true)] [] [(0, [cI b94.A, cI b94.B])] 1) (Le.mk [(0, 0)] hm rfl (Sa4 (Sa2 (Sa1 (Sa1 trivial rfl (congrArg (fun b => some (one (cL b))) hc99))))) trivial (Ba1 trivial)) ?_; refine tO 5 ?_; refine tO 6 ?_; refine tO 7 ?_; refine tO 8 ?_; refine A.all [9] (by kernel_rfl) rfl ⟨⟨_, rfl, ?_⟩, trivial⟩; refine of (L.nil ?_); refine tP 10 ?_; refine A.le (τ := mkSt [(0, one (Cell.sl g0 (List.map eT_Pair v84))), (1, one (Cell.clo 115 [])), (7, one (Cell.sl g0 (List.map eT_Pair v84))), (8, oI v85), (9, oI v86), (24, oL true)] [] [] 0) (lm [] hm) ?_; refine A.done (by kernel_rfl) ?_; refine cT ?_
    refine sr ?_; refine ag (L.nil ?_); cases H; exact WpC.ret rt
   ·replace H := condF hc99 H
    obtain ⟨b100, hb100, H⟩ := bindS H; obtain ⟨r101, hr101, H⟩ := bindS H; refine A.begin mixed rfl rfl ?_; intro W hI hO; refine hI _ _ _ ?_; refine tM 0 ?_; refine A.all [1] (by kernel_rfl) rfl ⟨⟨_, rfl, ?_⟩, trivial⟩; refine lp shape147 (L.nil ?_); refine A.all [2] (by kernel_rfl) rfl ⟨⟨_, rfl, ?_⟩, trivial⟩; refine c0 1 ent115 (g115 k2  b94 r98 hr98) (L.nil ?_); refine Atk 3 rfl (Ca.un rfl rfl) (fun Q0 k0 => nt (L.nil k0)) ?_; refine tM 4 ?_; refine A.le (τ := mkSt [(0, one (Cell.sl g0 (List.map eT_Pair v84))), (1, one (Cell.clo 115 [])), (5, oI v86), (6, oP 0 0), (7, one (Cell.sl g0 (List.map eT_Pair v84))), (8, oI v85), (9, oI v86), (18, oL false)] [] [(0, [cI b94.A, cI b94.B])] 1) (Le.mk [(0, 0)] hm rfl (Sa4 (Sa2 (Sa1 (Sa1 trivial rfl (congrArg (fun b => some (one (cL b))) hc99))))) trivial (Ba1 trivial)) ?_; refine tM 5 ?_; refine tM 6 ?_; refine Atk 7 rfl (Ca.slice) (fun Q0 k0 => L.cutR (xs := v84) (ys := b100) (e := eT_Pair) underlying42 info147 hF rfl rfl rfl rfl rfl hb100 (fun _ => rfl) (L.nil k0)) ?_; refine A.all [8] (by kernel_rfl) rfl ⟨⟨_, rfl, ?_⟩, trivial⟩; refine lp shape147 (L.nil ?_); refine A.all [9] (by kernel_rfl) rfl ⟨⟨_, rfl, ?_⟩, trivial⟩
    refine c0 1 ent172 (g172 k2 g0 b100 b94 r101 hr101) (L.nil ?_); refine tP 10 ?_; refine A.le (τ := mkSt [(0, one (Cell.sl g0 (List.map eT_Pair v84))), (1, one (Cell.clo 115 [])), (7, one (Cell.sl g0 (List.map eT_Pair v84))), (8, oI v85), (9, oI v86), (24, oL r101)] [] [] 0) (lm [] hm) ?_; refine A.done (by kernel_rfl) ?_; refine cd H (fun hc H => ?_) (fun hc H => ?_)
    ·refine sr ?_; refine ag (L.nil ?_); cases H; exact WpC.ret rt
    ·refine WpC.skip (WpC.regionL ?_); refine bi ?_; refine mv (L.nil ?_); exact ⟨k2, _, by omega, ⟨v84, v85, (IntKind.i64.wrap (v86 + 1)), by omega, H, rfl⟩, lm [] hm⟩
  ·refine WpC.exit (sr ?_); refine mv ?_; refine L.lenR (xs := v84) (e := eT_Pair) underlying42 hF rfl rfl rfl rfl ?_; refine bi ?_; refine ag (L.nil ?_); cases H; exact WpC.ret rt
/-! ### I_isService -/
def I_isService (k : Nat) (a0 : Int) : Option Bool := (I_within k a0 0 2).bind fun r1 => some r1
theorem ent52 : MG.Enters Tryz.prog 52 := ⟨Tryz.f52, func52, rfl, by decide⟩
theorem g52 (k : Nat) (a0 : Int) (r : Bool) (H : I_isService k a0 = some r) : Gives Tryz.prog 52 [V.one (cI a0)] [] [V.one (cL r)] [] := by
 refine Gives.intro func52 rfl rfl rfl rfl ?_; refine fx fun w0 T S0 ob oh hm => ?_
 have hF := fxe w0 T S0 5 ob oh
 unfold I_isService at H; obtain ⟨K, hK⟩ := leK k; refine sr ?_; refine ag (L.nil ?_); refine sr ?_; refine mv ?_; obtain ⟨r1, hr1, H⟩ := bindS H; refine c0 1 ent90 (g90 k  a0 0 2 r1 hr1) ?_; refine ag (L.nil ?_); cases H; exact WpC.ret rt
/-! ### I_ConfigOk_2 -/
def I_ConfigOk_2 (k : Nat) (a0 : T_Pair) : Option Bool := (I_isService k a0.A).bind fun r3 => cond r3 ((I_isService k a0.B).bind fun r4 => some r4) (some false)
theorem ent116 : MG.Enters Tryz.prog 116 := ⟨Tryz.f116, func116, rfl, by decide⟩
theorem g116 (k : Nat) (a0 : T_Pair) (r : Bool) (H : I_ConfigOk_2 k a0 = some r) : Gives Tryz.prog 116 [V.agg [cI a0.A, cI a0.B]] [] [V.one (cL r)] [] := by
 refine Gives.intro func116 rfl rfl rfl rfl ?_; refine fx fun w0 T S0 ob oh hm => ?_
 have hF := fxe w0 T S0 11 ob oh
 unfold I_ConfigOk_2 at H; obtain ⟨K, hK⟩ := leK k; refine sr ?_; refine bo 2 ?_; refine ag (L.nil ?_); refine sr ?_; refine fa underlying147 info3 ?_; refine lp shape3 ?_; obtain ⟨r3, hr3, H⟩ := bindS H; refine c0 3 ent52 (g52 k  a0.A r3 hr3) ?_; refine mv ?_; refine sH H (fun hc H => ?_) (fun hc H => ?_)
 ·refine fa underlying147 info3 ?_; refine lp shape3 ?_; obtain ⟨r4, hr4, H⟩ := bindS H; refine c0 4 ent52 (g52 k  a0.B r4 hr4) ?_; refine pk ?_; refine ag (L.nil ?_); cases H; exact WpC.ret rt
 ·(repeat refine of ?_); refine pk ?_; refine ag (L.nil ?_); cases H; exact WpC.ret rt
/-! ### I_arePairs__impl_ConfigOk_2 -/
def I_arePairs__impl_ConfigOk_2.l2 : Nat → (List T_Pair) → Int → Int → Option Bool
 | 0, _, _, _ => none
 | k2 + 1, v84, v85, v86 => cond (decide (v86 < v85)) ((at? v84 v86).bind fun b94 => (I_ConfigOk_2 k2 b94).bind fun r98 => cond (!r98) (some false) ((part? v84 0 v86).bind fun b100 => (V_Contains_Pair k2 b100 b94).bind fun r101 => cond r101 (some false) ((I_arePairs__impl_ConfigOk_2.l2 k2) v84 v85 (IntKind.i64.wrap (v86 + 1))))) (some (decide ((v84.length : Int) ≤ 6)))
def I_arePairs__impl_ConfigOk_2 (k : Nat) (a0 : List T_Pair) : Option Bool := I_arePairs__impl_ConfigOk_2.l2 k a0 (a0.length : Int) 0
theorem I_arePairs__impl_ConfigOk_2_gives (k : Nat) (g0 : Bool) (a0 : List T_Pair) (r : Bool) (H : I_arePairs__impl_ConfigOk_2 k a0 = some r) : Gives Tryz.prog 114 [V.one (Cell.sl g0 (List.map eT_Pair a0)), V.one (Cell.clo 116 [])] [] [V.one (cL r)] [] := by
 refine Gives.intro func114 rfl rfl rfl rfl ?_; refine fx fun w0 T S0 ob oh hm => ?_
 have hF := fxe w0 T S0 29 ob oh
 unfold I_arePairs__impl_ConfigOk_2 at H; obtain ⟨K, hK⟩ := leK k; refine sr ?_; refine ag (L.nil ?_); refine WpC.seq (sr ?_); refine mv ?_; refine L.lenR (xs := a0) (e := eT_Pair) underlying42 hF rfl rfl rfl rfl ?_; refine mv (L.nil ?_); refine WpC.block ?_; refine WpC.loopL (P := Tryz.prog) (fun n σ => ∃ (v84 : List T_Pair) (v85 v86 : Int), n ≤ K ∧ I_arePairs__impl_ConfigOk_2.l2 n v84 v85 v86 = some r ∧ σ = mkSt [(0, one (Cell.sl g0 (List.map eT_Pair v84))), (1, one (Cell.clo 116 [])), (7, one (Cell.sl g0 (List.map eT_Pair v84))), (8, oI v85), (9, oI v86)] [] [] 0) k ⟨_, ⟨a0, (a0.length : Int), 0, by omega, H, rfl⟩, lm [] hm⟩ ?_; clear H
 rintro k2 _ ⟨v84, v85, v86, hk2, H, rfl⟩
 cases k2 with
 | zero => cases H
 | succ k2 =>
  rw [I_arePairs__impl_ConfigOk_2.l2] at H
  refine sr ?_; refine bi (L.nil ?_); refine WpC.seq ?_; refine cd H (fun hc H => ?_) (fun hc H => ?_)
  ·refine WpC.skip (WpC.seq (WpC.block (sr ?_))); refine mv ?_; obtain ⟨b94, hb94, H⟩ := bindS H; refine ix underlying42 info147 hb94 ?_; refine le shape147 ?_; refine alc 0 info147 ?_; refine ag ?_; refine sp shape147 (L.nil ?_); refine WpC.seq ?_; obtain ⟨r98, hr98, H⟩ := bindS H
   rcases Bool.eq_false_or_eq_true ((!r98)) with hc99 | hc99
   ·replace H := condT hc99 H
    refine A.begin mixed rfl rfl ?_; intro W hI hO; refine hI _ _ _ ?_; refine tM 0 ?_; refine A.all [1] (by kernel_rfl) rfl ⟨⟨_, rfl, ?_⟩, trivial⟩; refine lp shape147 (L.nil ?_); refine A.all [2] (by kernel_rfl) rfl ⟨⟨_, rfl, ?_⟩, trivial⟩; refine c0 1 ent116 (g116 k2  b94 r98 hr98) (L.nil ?_); refine Atk 3 rfl (Ca.un rfl rfl) (fun Q0 k0 => nt (L.nil k0)) ?_; refine tM 4 ?_; refine A.le (τ := mkSt [(0, one (Cell.sl g0 (List.map eT_Pair v84))), (1, one (Cell.clo 116 [])), (5, oI v86), (6, oP 0 0), (7, one (Cell.sl g0 (List.map eT_Pair v84))), (8, oI v85), (9, oI v86), (18, oL true)] [] [(0, [cI b94.A, cI b94.B])] 1) (Le.mk [(0, 0)] hm rfl (Sa4 (Sa2 (Sa1 (Sa1 trivial rfl (congrArg (fun b => some (one (cL b))) hc99))))) trivial (Ba1 trivial)) ?_; refine tO 5 ?_; refine tO 6 ?_; refine tO 7 ?_; refine tO 8 ?_; refine A.all [9] (by kernel_rfl) rfl ⟨⟨_, rfl, ?_⟩, trivial⟩; refine of (L.nil ?_); refine tP 10 ?_; refine A.le (τ := mkSt [(0, one (Cell.sl g0 (List.map eT_Pair v84))), (1, one (Cell.clo 116 [])), (7, one (Cell.sl g0 (List.map eT_Pair v84))), (8, oI v85), (9, oI v86), (24, oL true)] [] [] 0) (lm [] hm) ?_; refine A.done (by kernel_rfl) ?_; refine cT ?_
    refine sr ?_; refine ag (L.nil ?_); cases H; exact WpC.ret rt
   ·replace H := condF hc99 H
    obtain ⟨b100, hb100, H⟩ := bindS H; obtain ⟨r101, hr101, H⟩ := bindS H; refine A.begin mixed rfl rfl ?_; intro W hI hO; refine hI _ _ _ ?_; refine tM 0 ?_; refine A.all [1] (by kernel_rfl) rfl ⟨⟨_, rfl, ?_⟩, trivial⟩; refine lp shape147 (L.nil ?_); refine A.all [2] (by kernel_rfl) rfl ⟨⟨_, rfl, ?_⟩, trivial⟩; refine c0 1 ent116 (g116 k2  b94 r98 hr98) (L.nil ?_); refine Atk 3 rfl (Ca.un rfl rfl) (fun Q0 k0 => nt (L.nil k0)) ?_; refine tM 4 ?_; refine A.le (τ := mkSt [(0, one (Cell.sl g0 (List.map eT_Pair v84))), (1, one (Cell.clo 116 [])), (5, oI v86), (6, oP 0 0), (7, one (Cell.sl g0 (List.map eT_Pair v84))), (8, oI v85), (9, oI v86), (18, oL false)] [] [(0, [cI b94.A, cI b94.B])] 1) (Le.mk [(0, 0)] hm rfl (Sa4 (Sa2 (Sa1 (Sa1 trivial rfl (congrArg (fun b => some (one (cL b))) hc99))))) trivial (Ba1 trivial)) ?_; refine tM 5 ?_; refine tM 6 ?_; refine Atk 7 rfl (Ca.slice) (fun Q0 k0 => L.cutR (xs := v84) (ys := b100) (e := eT_Pair) underlying42 info147 hF rfl rfl rfl rfl rfl hb100 (fun _ => rfl) (L.nil k0)) ?_; refine A.all [8] (by kernel_rfl) rfl ⟨⟨_, rfl, ?_⟩, trivial⟩; refine lp shape147 (L.nil ?_); refine A.all [9] (by kernel_rfl) rfl ⟨⟨_, rfl, ?_⟩, trivial⟩
    refine c0 1 ent172 (g172 k2 g0 b100 b94 r101 hr101) (L.nil ?_); refine tP 10 ?_; refine A.le (τ := mkSt [(0, one (Cell.sl g0 (List.map eT_Pair v84))), (1, one (Cell.clo 116 [])), (7, one (Cell.sl g0 (List.map eT_Pair v84))), (8, oI v85), (9, oI v86), (24, oL r101)] [] [] 0) (lm [] hm) ?_; refine A.done (by kernel_rfl) ?_; refine cd H (fun hc H => ?_) (fun hc H => ?_)
    ·refine sr ?_; refine ag (L.nil ?_); cases H; exact WpC.ret rt
    ·refine WpC.skip (WpC.regionL ?_); refine bi ?_; refine mv (L.nil ?_); exact ⟨k2, _, by omega, ⟨v84, v85, (IntKind.i64.wrap (v86 + 1)), by omega, H, rfl⟩, lm [] hm⟩
  ·refine WpC.exit (sr ?_); refine mv ?_; refine L.lenR (xs := v84) (e := eT_Pair) underlying42 hF rfl rfl rfl rfl ?_; refine bi ?_; refine ag (L.nil ?_); cases H; exact WpC.ret rt
/-! ### I_areAll__impl_isRealm -/
def I_areAll__impl_isRealm.l2 : Nat → (List Int) → Int → Int → Int → Option Bool
 | 0, _, _, _, _ => none
 | k2 + 1, v39, v40, v41, v42 => cond (decide (v42 < v41)) ((at? v39 v42).bind fun b45 => (I_isRealm k2 b45).bind fun r46 => cond (!r46) (some false) ((I_areAll__impl_isRealm.l2 k2) v39 v40 v41 (IntKind.i64.wrap (v42 + 1)))) (some (decide ((v39.length : Int) ≤ v40)))
def I_areAll__impl_isRealm (k : Nat) (a0 : List Int) (a1 : Int) : Option Bool := I_areAll__impl_isRealm.l2 k a0 a1 (a0.length : Int) 0
theorem ent117 : MG.Enters Tryz.prog 117 := ⟨Tryz.f117, func117, rfl, by decide⟩
theorem g117 (k : Nat) (g0 : Bool) (a0 : List Int) (a1 : Int) (r : Bool) (H : I_areAll__impl_isRealm k a0 a1 = some r) : Gives Tryz.prog 117 [V.one (Cell.sl g0 (List.map eI a0)), V.one (cI a1), V.one (Cell.clo 89 [])] [] [V.one (cL r)] [] := by
 refine Gives.intro func117 rfl rfl rfl rfl ?_; refine fx fun w0 T S0 ob oh hm => ?_
 have hF := fxe w0 T S0 24 ob oh
 unfold I_areAll__impl_isRealm at H; obtain ⟨K, hK⟩ := leK k; refine sr ?_; refine ag (L.nil ?_); refine WpC.seq (sr ?_); refine mv ?_; refine L.lenR (xs := a0) (e := eI) underlying22 hF rfl rfl rfl rfl ?_; refine mv (L.nil ?_); refine WpC.block ?_; refine WpC.loopL (P := Tryz.prog) (fun n σ => ∃ (v39 : List Int) (v40 v41 v42 : Int), n ≤ K ∧ I_areAll__impl_isRealm.l2 n v39 v40 v41 v42 = some r ∧ σ = mkSt [(0, one (Cell.sl g0 (List.map eI v39))), (1, oI v40), (2, one (Cell.clo 89 [])), (9, one (Cell.sl g0 (List.map eI v39))), (10, oI v41), (11, oI v42)] [] [] 0) k ⟨_, ⟨a0, a1, (a0.length : Int), 0, by omega, H, rfl⟩, lm [] hm⟩ ?_; clear H
 rintro k2 _ ⟨v39, v40, v41, v42, hk2, H, rfl⟩
 cases k2 with
 | zero => cases H
 | succ k2 =>
  rw [I_areAll__impl_isRealm.l2] at H
  refine sr ?_; refine bi (L.nil ?_); refine WpC.seq ?_; refine cd H (fun hc H => ?_) (fun hc H => ?_)
  ·refine WpC.skip (WpC.seq (WpC.block (sr ?_))); obtain ⟨b45, hb45, H⟩ := bindS H; refine ix underlying22 info3 hb45 ?_; refine le shape3 ?_; refine ag (L.nil ?_); refine sr ?_; refine mv ?_; refine mv ?_; obtain ⟨r46, hr46, H⟩ := bindS H; refine c0 0 ent89 (g89 k2  b45 r46 hr46) ?_; refine nt (L.nil ?_); refine cd H (fun hc H => ?_) (fun hc H => ?_)
   ·refine sr ?_; refine ag (L.nil ?_); cases H; exact WpC.ret rt
   ·refine WpC.skip (WpC.regionL ?_); refine bi ?_; refine mv (L.nil ?_); exact ⟨k2, _, by omega, ⟨v39, v40, v41, (IntKind.i64.wrap (v42 + 1)), by omega, H, rfl⟩, lm [] hm⟩
  ·refine WpC.exit (sr ?_); refine mv ?_; refine L.lenR (xs := v39) (e := eI) underlying22 hF rfl rfl rfl rfl ?_; refine mv ?_; refine bi ?_; refine ag (L.nil ?_); cases H; exact WpC.ret rt
/-! ### I_ConfigOk -/
def I_ConfigOk (k : Nat) (a0 : T_Config) : Option Bool := (I_arePairs__impl_ConfigOk_1 k a0.Links).bind fun r1 => (I_arePairs__impl_ConfigOk_2 k a0.Proxy).bind fun r2 => cond r1 (cond r2 (cond ((a0.UserRealm.length : Int) == 3) ((I_areAll__impl_isRealm k a0.UserRealm 3).bind fun r6 => cond r6 (cond ((a0.ServiceRealm.length : Int) == 3) ((I_areAll__impl_isRealm k a0.ServiceRealm 3).bind fun r7 => cond r7 ((I_within k a0.Skew 0 20).bind fun r8 => some r8) (some false)) (some false)) (some false)) (some false)) (some false)) (some false)
theorem ent51 : MG.Enters Tryz.prog 51 := ⟨Tryz.f51, func51, rfl, by decide⟩
theorem g51 (k : Nat) (g0 g1 g2 g3 : Bool) (a0 : T_Config) (r : Bool) (H : I_ConfigOk k a0 = some r) : Gives Tryz.prog 51 [V.agg (bT_Config g0 g1 g2 g3 a0)] [] [V.one (cL r)] [] := by
 refine Gives.intro func51 rfl rfl rfl rfl ?_; refine fx fun w0 T S0 ob oh hm => ?_
 have hF := fxe w0 T S0 42 ob oh
 unfold I_ConfigOk at H; obtain ⟨K, hK⟩ := leK k; refine sr ?_; refine bo 5 ?_; refine ag (L.nil ?_); refine sr ?_; refine fa underlying44 info42 ?_; refine lp shape42 ?_; obtain ⟨r1, hr1, H⟩ := bindS H; refine c0 6 ent114 (g114 k g2 a0.Links r1 hr1) ?_; refine ag (L.nil ?_); refine sr ?_; refine fa underlying44 info42 ?_; refine lp shape42 ?_; obtain ⟨r2, hr2, H⟩ := bindS H; refine c0 7 ent114 (I_arePairs__impl_ConfigOk_2_gives k g3 a0.Proxy r2 hr2) ?_; refine ag (L.nil ?_); refine sr ?_; refine mv ?_; refine mv ?_; refine sH H (fun hc H => ?_) (fun hc H => ?_)
 ·refine mv ?_; refine pk ?_; refine mv ?_; refine sH H (fun hc H => ?_) (fun hc H => ?_)
  ·refine fa underlying44 info22 ?_; refine lp shape22 ?_; refine L.lenR (xs := a0.UserRealm) (e := eI) underlying22 hF rfl rfl rfl rfl ?_; refine bi ?_; refine pk ?_; refine mv ?_; refine sH H (fun hc H => ?_) (fun hc H => ?_)
   ·refine fa underlying44 info22 ?_; refine lp shape22 ?_; obtain ⟨r6, hr6, H⟩ := bindS H; refine c0 8 ent117 (g117 k g0 a0.UserRealm 3 r6 hr6) ?_; refine pk ?_; refine mv ?_; refine sH H (fun hc H => ?_) (fun hc H => ?_)
    ·refine fa underlying44 info22 ?_; refine lp shape22 ?_; refine L.lenR (xs := a0.ServiceRealm) (e := eI) underlying22 hF rfl rfl rfl rfl ?_; refine bi ?_; refine pk ?_; refine mv ?_; refine sH H (fun hc H => ?_) (fun hc H => ?_)
     ·refine fa underlying44 info22 ?_; refine lp shape22 ?_; obtain ⟨r7, hr7, H⟩ := bindS H; refine c0 9 ent117 (g117 k g1 a0.ServiceRealm 3 r7 hr7) ?_; refine pk ?_; refine mv ?_; refine sH H (fun hc H => ?_) (fun hc H => ?_)
      ·refine fa underlying44 info3 ?_; refine lp shape3 ?_; obtain ⟨r8, hr8, H⟩ := bindS H; refine c0 10 ent90 (g90 k  a0.Skew 0 20 r8 hr8) ?_; refine pk ?_; refine ag (L.nil ?_); cases H; exact WpC.ret rt
      ·(repeat refine of ?_); refine pk ?_; refine ag (L.nil ?_); cases H; exact WpC.ret rt
     ·(repeat refine of ?_); refine pk ?_; refine mv ?_; (repeat refine of ?_); refine pk ?_; refine ag (L.nil ?_); cases H; exact WpC.ret rt
    ·(repeat refine of ?_); refine pk ?_; refine mv ?_; (repeat refine of ?_); refine pk ?_; refine mv ?_; (repeat refine of ?_); refine pk ?_; refine ag (L.nil ?_); cases H; exact WpC.ret rt
   ·(repeat refine of ?_); refine pk ?_; refine mv ?_; (repeat refine of ?_); refine pk ?_; refine mv ?_; (repeat refine of ?_); refine pk ?_; refine mv ?_; (repeat refine of ?_); refine pk ?_; refine ag (L.nil ?_); cases H; exact WpC.ret rt
  ·(repeat refine of ?_); refine pk ?_; refine mv ?_; (repeat refine of ?_); refine pk ?_; refine mv ?_; (repeat refine of ?_); refine pk ?_; refine mv ?_; (repeat refine of ?_); refine pk ?_; refine mv ?_; (repeat refine of ?_); refine pk ?_; refine ag (L.nil ?_); cases H; exact WpC.ret rt
 ·refine of ?_; refine pk ?_; refine mv ?_; (repeat refine of ?_); refine pk ?_; refine mv ?_; (repeat refine of ?_); refine pk ?_; refine mv ?_; (repeat refine of ?_); refine pk ?_; refine mv ?_; (repeat refine of ?_); refine pk ?_; refine mv ?_; (repeat refine of ?_); refine pk ?_; refine ag (L.nil ?_); cases H; exact WpC.ret rt
/-! ### I_isTime -/
def I_isTime (k : Nat) (a0 : Int) : Option Bool := (I_within k a0 0 100000).bind fun r1 => some r1
theorem ent53 : MG.Enters Tryz.prog 53 := ⟨Tryz.f53, func53, rfl, by decide⟩
theorem g53 (k : Nat) (a0 : Int) (r : Bool) (H : I_isTime k a0 = some r) : Gives Tryz.prog 53 [V.one (cI a0)] [] [V.one (cL r)] [] := by
 refine Gives.intro func53 rfl rfl rfl rfl ?_; refine fx fun w0 T S0 ob oh hm => ?_
 have hF := fxe w0 T S0 5 ob oh
 unfold I_isTime at H; obtain ⟨K, hK⟩ := leK k; refine sr ?_; refine ag (L.nil ?_); refine sr ?_; refine mv ?_; obtain ⟨r1, hr1, H⟩ := bindS H; refine c0 1 ent90 (g90 k  a0 0 100000 r1 hr1) ?_; refine ag (L.nil ?_); cases H; exact WpC.ret rt
/-! ### I_ReadAtom -/
def I_ReadAtom (k : Nat) (a0 : List UInt8) : Option (List UInt8 × Bool) := (I_isOf k a0 (97 : UInt8)).bind fun r2 => cond (!r2) (some (([] : List UInt8), false)) ((I_varAt k a0 1).bind fun r3 => (cut? a0 r3.2 (a0.length : Int)).bind fun b4 => some (b4, true))
theorem ent183 : MG.Enters Tryz.prog 183 := ⟨Tryz.f183, func183, rfl, by decide⟩
theorem g183 (k : Nat) (a0 : List UInt8) (r : List UInt8 × Bool) (H : I_ReadAtom k a0 = some r) : Gives Tryz.prog 183 [V.one (cS a0)] [] [V.one (cS r.1), V.one (cL r.2)] [] := by
 refine Gives.intro func183 rfl rfl rfl rfl ?_; refine fx fun w0 T S0 ob oh hm => ?_
 have hF := fxe w0 T S0 17 ob oh
 unfold I_ReadAtom at H; obtain ⟨K, hK⟩ := leK k; refine sr ?_; refine ag ?_; refine ag (L.nil ?_); refine WpC.seq (sr ?_); refine mv ?_; obtain ⟨r2, hr2, H⟩ := bindS H; refine c0 1 ent148 (g148 k  a0 (97 : UInt8) r2 hr2) ?_; refine nt (L.nil ?_); refine cd H (fun hc H => ?_) (fun hc H => ?_)
 ·refine sr ?_; refine ag ?_; refine ag (L.nil ?_); cases H; exact WpC.ret rt
 ·refine WpC.skip (sr ?_); refine mv ?_; obtain ⟨r3, hr3, H⟩ := bindS H; refine c0 2 ent149 (g149 k  a0 1 r3 hr3) ?_; refine mv ?_; refine ex ?_; refine ex ?_; refine ag ?_; refine ag (L.nil ?_); refine sr ?_; refine mv ?_; refine mv ?_; obtain ⟨b4, hb4, H⟩ := bindS H; refine L.cutS underlying9 hF rfl rfl rfl rfl rfl hb4 ?_; refine ag ?_; refine ag (L.nil ?_); cases H; exact WpC.ret rt
/-! ### I_ReadNum -/
def I_ReadNum (k : Nat) (a0 : List UInt8) : Option (Int × Bool) := (I_ReadAtom k a0).bind fun r1 => (I_ReadVar k r1.1).bind fun r2 => cond (!r1.2) (some (0, false)) (cond (r2.2 == 0) (some (0, false)) (cond (r2.2 != (r1.1.length : Int)) (some (0, false)) (some (r2.1, true))))
theorem ent151 : MG.Enters Tryz.prog 151 := ⟨Tryz.f151, func151, rfl, by decide⟩
theorem g151 (k : Nat) (a0 : List UInt8) (r : Int × Bool) (H : I_ReadNum k a0 = some r) : Gives Tryz.prog 151 [V.one (cS a0)] [] [V.one (cI r.1), V.one (cL r.2)] [] := by
 refine Gives.intro func151 rfl rfl rfl rfl ?_; refine fx fun w0 T S0 ob oh hm => ?_
 have hF := fxe w0 T S0 31 ob oh
 unfold I_ReadNum at H; obtain ⟨K, hK⟩ := leK k; refine sr ?_; refine ag ?_; refine ag (L.nil ?_); refine sr ?_; refine mv ?_; obtain ⟨r1, hr1, H⟩ := bindS H; refine c0 1 ent183 (g183 k  a0 r1 hr1) ?_; refine mv ?_; refine ex ?_; refine ex ?_; refine ag ?_; refine ag (L.nil ?_); refine sr ?_; refine mv ?_; obtain ⟨r2, hr2, H⟩ := bindS H; refine c0 3 ent181 (g181 k  r1.1 r2 hr2) ?_; refine mv ?_; refine ex ?_; refine ex ?_; refine ag ?_; refine ag (L.nil ?_); refine WpC.seq (sr ?_); refine mv ?_; refine nt ?_; refine mv ?_; refine sH H (fun hc H => ?_) (fun hc H => ?_)
 ·(repeat refine of ?_); refine pk ?_; refine mv ?_; (repeat refine of ?_); refine pk (L.nil ?_); refine cT ?_; refine sr ?_; refine ag ?_; refine ag (L.nil ?_); cases H; exact WpC.ret rt
 ·refine mv ?_; refine bi ?_; refine pk ?_; refine mv ?_; refine sH H (fun hc H => ?_) (fun hc H => ?_)
  ·(repeat refine of ?_); refine pk (L.nil ?_); refine cT ?_; refine sr ?_; refine ag ?_; refine ag (L.nil ?_); cases H; exact WpC.ret rt
  ·refine mv ?_; refine mv ?_; refine L.lenS underlying9 hF rfl rfl rfl ?_; refine bi ?_; refine pk (L.nil ?_); refine cd H (fun hc H => ?_) (fun hc H => ?_)
   ·refine sr ?_; refine ag ?_; refine ag (L.nil ?_); cases H; exact WpC.ret rt
   ·refine WpC.skip (sr ?_); refine mv ?_; refine ag ?_; refine ag (L.nil ?_); cases H; exact WpC.ret rt
/-! ### I_ReadNums -/
def I_ReadNums.l2 : Nat → (List Int) → (List (List UInt8)) → Int → Int → Option (List Int × Bool)
 | 0, _, _, _, _ => none
 | k2 + 1, v48, v49, v50, v51 => cond (decide (v51 < v50)) ((at? v49 v51).bind fun b55 => (I_ReadNum k2 b55).bind fun r56 => cond (!r56.2) (some ([], false)) (cond (decide ((2 * (v48.length + ([r56.1] : List Int).length) + 192) * 8 ≤ 281474976710656)) ((I_ReadNums.l2 k2) (v48 ++ ([r56.1] : List Int)) v49 v50 (IntKind.i64.wrap (v51 + 1))) none)) (some (v48, true))
def I_ReadNums (k : Nat) (a0 : List UInt8) : Option (List Int × Bool) := (I_Parts k a0).bind fun r1 => cond (!r1.2) (some ([], false)) (I_ReadNums.l2 k ([] : List Int) r1.1 (r1.1.length : Int) 0)
theorem ent91 : MG.Enters Tryz.prog 91 := ⟨Tryz.f91, func91, rfl, by decide⟩
theorem g91 (k : Nat) (a0 : List UInt8) (r : List Int × Bool) (H : I_ReadNums k a0 = some r) : Gives Tryz.prog 91 [V.one (cS a0)] [] [V.one (Cell.ow 1 (List.map eI r.1)), V.one (cL r.2)] [] := by
 refine Gives.intro func91 rfl rfl rfl rfl ?_; refine fx fun w0 T S0 ob oh hm => ?_
 have hF := fxe w0 T S0 38 ob oh
 unfold I_ReadNums at H; obtain ⟨K, hK⟩ := leK k; refine sr ?_; refine ag ?_; refine ag (L.nil ?_); refine sr ?_; refine mv ?_; obtain ⟨r1, hr1, H⟩ := bindS H; refine c0 1 ent88 (g88 k  a0 r1 hr1) ?_; refine mv ?_; refine ex ?_; refine ex ?_; refine ag ?_; refine ag (L.nil ?_); refine WpC.seq (sr ?_); refine mv ?_; refine nt (L.nil ?_); refine cd H (fun hc H => ?_) (fun hc H => ?_)
 ·refine sr ?_; refine ag ?_; refine ag (L.nil ?_); refine WpC.le (Le.own 2 0 3 1 rfl rfl rfl) ?_; cases H; exact WpC.ret rt
 ·refine WpC.skip (sr ?_); refine L.buildSlice (e := eI) 3 ([] : List Int) underlying22 info3 rfl rfl rfl hF rfl rfl rfl rfl rfl rfl rfl rfl ?_; refine ag (L.nil ?_); refine WpC.seq (sr ?_); refine mv ?_; refine L.lenR (xs := r1.1) (e := eS) underlying70 hF rfl rfl rfl rfl ?_; refine mv (L.nil ?_); refine WpC.block ?_; refine WpC.loopL (P := Tryz.prog) (fun n σ => ∃ (v48 : List Int) (v49 : List (List UInt8)) (v50 v51 : Int), n ≤ K ∧ I_ReadNums.l2 n v48 v49 v50 v51 = some r ∧ σ = mkSt [(6, one (Cell.own 0)), (19, one (Cell.own 1)), (20, oI v50), (21, oI v51)] [(0, ⟨1, List.map eI v48⟩), (1, ⟨1, List.map eS v49⟩)] [] 2) k ⟨_, ⟨([] : List Int), r1.1, (r1.1.length : Int), 0, by omega, H, rfl⟩, lm [(0, 3), (1, 1)] hm⟩ ?_; clear H
  rintro k2 _ ⟨v48, v49, v50, v51, hk2, H, rfl⟩
  cases k2 with
  | zero => cases H
  | succ k2 =>
   rw [I_ReadNums.l2] at H
   refine sr ?_; refine bi (L.nil ?_); refine WpC.seq ?_; refine cd H (fun hc H => ?_) (fun hc H => ?_)
   ·refine WpC.skip (WpC.seq (WpC.block (sr ?_))); obtain ⟨b55, hb55, H⟩ := bindS H; refine ix underlying70 info9 hb55 ?_; refine L.loadEp (xs := v49) (e := eS) shape9 hF rfl rfl rfl rfl (at?_get hb55).2 rfl rfl ?_; refine ag (L.nil ?_); refine sr ?_; refine mv ?_; obtain ⟨r56, hr56, H⟩ := bindS H; refine c0 2 ent151 (g151 k2  b55 r56 hr56) ?_; refine mv ?_; refine ex ?_; refine ex ?_; refine ag ?_; refine ag (L.nil ?_); refine WpC.seq (sr ?_); refine mv ?_; refine nt (L.nil ?_); refine cd H (fun hc H => ?_) (fun hc H => ?_)
    ·refine sr ?_; refine ag ?_; refine ag (L.nil ?_); refine WpC.le (Le.own 2 0 4 1 rfl rfl rfl) ?_; cases H; exact WpC.ret rt
    ·refine WpC.skip (WpC.regionL ?_); refine mv ?_; refine mv ?_; refine L.buildSlice (e := eI) 4 ([r56.1] : List Int) underlying22 info3 rfl rfl rfl hF rfl rfl rfl rfl rfl rfl rfl rfl ?_; obtain ⟨h57, H⟩ := condG H; refine L.append (xs := v48) (ys := ([r56.1] : List Int)) (e := eI) 5 underlying22 info3 rfl rfl hF rfl rfl rfl rfl rfl rfl rfl rfl (fun _ => rfl) (fun _ _ h1 h2 => by cases h1; cases h2; rfl) ⟨_, underlying22⟩ (of_decide_eq_true h57) rfl rfl ?_; refine ag (L.nil ?_); refine WpC.regionL ?_; refine bi ?_; refine mv (L.nil ?_); exact ⟨k2, _, by omega, ⟨(v48 ++ ([r56.1] : List Int)), v49, v50, (IntKind.i64.wrap (v51 + 1)), by omega, H, rfl⟩, lm [(0, 5), (1, 1)] hm⟩
   ·refine WpC.exit (sr ?_); refine mv ?_; refine ag ?_; refine ag (L.nil ?_); cases H; exact WpC.ret rt
/-! ### I_isNonce -/
def I_isNonce (k : Nat) (a0 : Int) : Option Bool := (I_within k a0 0 1000000).bind fun r1 => some r1
theorem ent92 : MG.Enters Tryz.prog 92 := ⟨Tryz.f92, func92, rfl, by decide⟩
theorem g92 (k : Nat) (a0 : Int) (r : Bool) (H : I_isNonce k a0 = some r) : Gives Tryz.prog 92 [V.one (cI a0)] [] [V.one (cL r)] [] := by
 refine Gives.intro func92 rfl rfl rfl rfl ?_; refine fx fun w0 T S0 ob oh hm => ?_
 have hF := fxe w0 T S0 5 ob oh
 unfold I_isNonce at H; obtain ⟨K, hK⟩ := leK k; refine sr ?_; refine ag (L.nil ?_); refine sr ?_; refine mv ?_; obtain ⟨r1, hr1, H⟩ := bindS H; refine c0 1 ent90 (g90 k  a0 0 1000000 r1 hr1) ?_; refine ag (L.nil ?_); cases H; exact WpC.ret rt
/-! ### I_isPrincipal -/
def I_isPrincipal (k : Nat) (a0 : Int) : Option Bool := (I_within k a0 0 5).bind fun r1 => some r1
theorem ent170 : MG.Enters Tryz.prog 170 := ⟨Tryz.f170, func170, rfl, by decide⟩
theorem g170 (k : Nat) (a0 : Int) (r : Bool) (H : I_isPrincipal k a0 = some r) : Gives Tryz.prog 170 [V.one (cI a0)] [] [V.one (cL r)] [] := by
 refine Gives.intro func170 rfl rfl rfl rfl ?_; refine fx fun w0 T S0 ob oh hm => ?_
 have hF := fxe w0 T S0 5 ob oh
 unfold I_isPrincipal at H; obtain ⟨K, hK⟩ := leK k; refine sr ?_; refine ag (L.nil ?_); refine sr ?_; refine mv ?_; obtain ⟨r1, hr1, H⟩ := bindS H; refine c0 1 ent90 (g90 k  a0 0 5 r1 hr1) ?_; refine ag (L.nil ?_); cases H; exact WpC.ret rt
/-! ### I_PrincipalKey -/
def I_PrincipalKey (k : Nat) (a0 : Int) : Option Int := (I_within k a0 0 2).bind fun r3 => cond r3 (some (IntKind.i64.wrap (1 + a0))) ((I_isPrincipal k a0).bind fun r4 => cond r4 (some (IntKind.i64.wrap ((IntKind.i64.wrap (11 + a0)) - 3))) (some 0))
theorem ent119 : MG.Enters Tryz.prog 119 := ⟨Tryz.f119, func119, rfl, by decide⟩
theorem g119 (k : Nat) (a0 r : Int) (H : I_PrincipalKey k a0 = some r) : Gives Tryz.prog 119 [V.one (cI a0)] [] [V.one (cI r)] [] := by
 refine Gives.intro func119 rfl rfl rfl rfl ?_; refine fx fun w0 T S0 ob oh hm => ?_
 have hF := fxe w0 T S0 14 ob oh
 unfold I_PrincipalKey at H; obtain ⟨K, hK⟩ := leK k; refine sr ?_; refine ag (L.nil ?_); refine WpC.seq (WpC.block (sr ?_)); refine mv ?_; obtain ⟨r3, hr3, H⟩ := bindS H; refine c0 1 ent90 (g90 k  a0 0 2 r3 hr3) ?_; refine ag (L.nil ?_); refine cd H (fun hc H => ?_) (fun hc H => ?_)
 ·refine sr ?_; refine mv ?_; refine bi ?_; refine ag (L.nil ?_); cases H; exact WpC.ret rt
 ·refine sr ?_; refine mv ?_; obtain ⟨r4, hr4, H⟩ := bindS H; refine c0 2 ent170 (g170 k  a0 r4 hr4) ?_; refine ag (L.nil ?_); refine cd H (fun hc H => ?_) (fun hc H => ?_)
  ·refine sr ?_; refine mv ?_; refine bi ?_; refine bi ?_; refine ag (L.nil ?_); cases H; exact WpC.ret rt
  ·refine WpC.skip (sr ?_); refine ag (L.nil ?_); cases H; exact WpC.ret rt
/-! ### I_sealed -/
def I_sealed (k : Nat) (a0 : List UInt8) : Option (Int × List UInt8 × Bool) := (I_isOf k a0 (115 : UInt8)).bind fun r2 => cond (!r2) (some (0, ([] : List UInt8), false)) ((I_varAt k a0 1).bind fun r3 => (cut? a0 r3.2 (a0.length : Int)).bind fun b4 => some (r3.1, b4, true))
theorem ent184 : MG.Enters Tryz.prog 184 := ⟨Tryz.f184, func184, rfl, by decide⟩
theorem g184 (k : Nat) (a0 : List UInt8) (r : Int × List UInt8 × Bool) (H : I_sealed k a0 = some r) : Gives Tryz.prog 184 [V.one (cS a0)] [] [V.one (cI r.1), V.one (cS r.2.1), V.one (cL r.2.2)] [] := by
 refine Gives.intro func184 rfl rfl rfl rfl ?_; refine fx fun w0 T S0 ob oh hm => ?_
 have hF := fxe w0 T S0 19 ob oh
 unfold I_sealed at H; obtain ⟨K, hK⟩ := leK k; refine sr ?_; refine ag ?_; refine ag ?_; refine ag (L.nil ?_); refine WpC.seq (sr ?_); refine mv ?_; obtain ⟨r2, hr2, H⟩ := bindS H; refine c0 1 ent148 (g148 k  a0 (115 : UInt8) r2 hr2) ?_; refine nt (L.nil ?_); refine cd H (fun hc H => ?_) (fun hc H => ?_)
 ·refine sr ?_; refine ag ?_; refine ag ?_; refine ag (L.nil ?_); cases H; exact WpC.ret rt
 ·refine WpC.skip (sr ?_); refine mv ?_; obtain ⟨r3, hr3, H⟩ := bindS H; refine c0 2 ent149 (g149 k  a0 1 r3 hr3) ?_; refine mv ?_; refine ex ?_; refine ex ?_; refine ag ?_; refine ag (L.nil ?_); refine WpC.seq ?_; refine S.begin mixed (by kernel_rfl) ?_; refine S.st 0 rfl rfl ((Ca.move).quiet) (fun Q0 k0 => mv (L.nil k0)) ?_; refine S.st 1 rfl rfl ((Ca.move).quiet) (fun Q0 k0 => mv (L.nil k0)) ?_; refine S.st 2 rfl rfl ((Ca.move).quiet) (fun Q0 k0 => mv (L.nil k0)) ?_; obtain ⟨b4, hb4, H⟩ := bindS H; refine S.st 3 rfl rfl ((Ca.slice).quiet) (fun Q0 k0 => L.cutS underlying9 hF rfl rfl rfl rfl rfl hb4 (L.nil k0)) ?_; refine S.st 4 rfl rfl ((Ca.assign).quiet) (fun Q0 k0 => ag (L.nil k0)) ?_; refine S.st 5 rfl rfl ((Ca.assign).quiet) (fun Q0 k0 => ag (L.nil k0)) ?_; refine S.st 6 rfl rfl ((Ca.assign).quiet) (fun Q0 k0 => ag (L.nil k0)) ?_; refine S.nil ?_; cases H; exact WpC.ret rt
/-! ### I_Open -/
def I_Open (k : Nat) (a0 : List UInt8) (a1 : Int) : Option (List UInt8 × Bool) := (I_sealed k a0).bind fun r1 => cond (!r1.2.2) (some (([] : List UInt8), false)) (cond (r1.1 != a1) (some (([] : List UInt8), false)) (some (r1.2.1, true)))
theorem ent152 : MG.Enters Tryz.prog 152 := ⟨Tryz.f152, func152, rfl, by decide⟩
theorem g152 (k : Nat) (a0 : List UInt8) (a1 : Int) (r : List UInt8 × Bool) (H : I_Open k a0 a1 = some r) : Gives Tryz.prog 152 [V.one (cS a0), V.one (cI a1)] [] [V.one (cS r.1), V.one (cL r.2)] [] := by
 refine Gives.intro func152 rfl rfl rfl rfl ?_; refine fx fun w0 T S0 ob oh hm => ?_
 have hF := fxe w0 T S0 23 ob oh
 unfold I_Open at H; obtain ⟨K, hK⟩ := leK k; refine sr ?_; refine ag ?_; refine ag (L.nil ?_); refine sr ?_; refine mv ?_; obtain ⟨r1, hr1, H⟩ := bindS H; refine c0 2 ent184 (g184 k  a0 r1 hr1) ?_; refine mv ?_; refine ex ?_; refine ex ?_; refine ex ?_; refine ag ?_; refine ag ?_; refine ag (L.nil ?_); refine WpC.seq (sr ?_); refine mv ?_; refine nt ?_; refine mv ?_; refine sH H (fun hc H => ?_) (fun hc H => ?_)
 ·(repeat refine of ?_); refine pk (L.nil ?_); refine cT ?_; refine sr ?_; refine ag ?_; refine ag (L.nil ?_); cases H; exact WpC.ret rt
 ·refine mv ?_; refine mv ?_; refine bi ?_; refine pk (L.nil ?_); refine cd H (fun hc H => ?_) (fun hc H => ?_)
  ·refine sr ?_; refine ag ?_; refine ag (L.nil ?_); cases H; exact WpC.ret rt
  ·refine WpC.skip (sr ?_); refine mv ?_; refine ag ?_; refine ag (L.nil ?_); cases H; exact WpC.ret rt
/-! ### I_RealmOf -/
def I_RealmOf.j2 (k : Nat) (v11 : Int) (v12 : Bool) (v13 : T_Config) : Option Int := cond v12 (some (-1)) (cond (decide (v11 < 3)) ((at? v13.UserRealm v11).bind fun b14 => some b14) ((at? v13.ServiceRealm (IntKind.i64.wrap (v11 - 3))).bind fun b15 => some b15))
def I_RealmOf (k : Nat) (a0 : T_Config) (a1 : Int) : Option Int := (I_ConfigOk k a0).bind fun r16 => cond (!r16) (I_RealmOf.j2 k a1 true a0) ((I_isPrincipal k a1).bind fun r17 => I_RealmOf.j2 k a1 (!r17) a0)
theorem ent153 : MG.Enters Tryz.prog 153 := ⟨Tryz.f153, func153, rfl, by decide⟩
theorem g153 (k : Nat) (g0 g1 g2 g3 : Bool) (a0 : T_Config) (a1 r : Int) (H : I_RealmOf k a0 a1 = some r) : Gives Tryz.prog 153 [V.agg (bT_Config g0 g1 g2 g3 a0), V.one (cI a1)] [] [V.one (cI r)] [] := by
 refine Gives.intro func153 rfl rfl rfl rfl ?_; refine fx fun w0 T S0 ob oh hm => ?_
 have hF := fxe w0 T S0 28 ob oh
 unfold I_RealmOf at H; obtain ⟨K, hK⟩ := leK k; refine sr ?_; refine bo 6 ?_; refine ag (L.nil ?_); refine WpC.seq (WpC.block ?_); refine WpC.join (fun σ => ∃ (kj2 : Nat) (v11 : Int) (v12 : Bool) (v13 : T_Config), kj2 ≤ K ∧ I_RealmOf.j2 kj2 v11 v12 v13 = some r ∧ σ = mkSt [(1, oI v11), (2, oP 0 0), (5, oL v12)] [] [(0, (bT_Config g0 g1 g2 g3 v13))] 1) ?_ ?_
 ·rintro _ ⟨kj2, v11, v12, v13, hkj2, H, rfl⟩
  unfold I_RealmOf.j2 at H; refine cd H (fun hc H => ?_) (fun hc H => ?_)
  ·refine sr ?_; refine ag (L.nil ?_); cases H; exact WpC.ret rt
  ·refine sr ?_; refine mv ?_; refine bi ?_; refine ag (L.nil ?_); refine cd H (fun hc H => ?_) (fun hc H => ?_)
   ·refine sr ?_; refine fa underlying44 info22 ?_; refine lp shape22 ?_; refine mv ?_; obtain ⟨b14, hb14, H⟩ := bindS H; refine ix underlying22 info3 hb14 ?_; refine le shape3 ?_; refine ag (L.nil ?_); cases H; exact WpC.ret rt
   ·refine WpC.skip (sr ?_); refine fa underlying44 info22 ?_; refine lp shape22 ?_; refine mv ?_; refine bi ?_; obtain ⟨b15, hb15, H⟩ := bindS H; refine ix underlying22 info3 hb15 ?_; refine le shape3 ?_; refine ag (L.nil ?_); cases H; exact WpC.ret rt
 ·refine WpC.regionL ?_; refine lp shape44 ?_; obtain ⟨r16, hr16, H⟩ := bindS H; refine c0 7 ent51 (g51 k g0 g1 g2 g3 a0 r16 hr16) ?_; refine nt ?_; refine mv ?_; refine sH H (fun hc H => ?_) (fun hc H => ?_)
  ·(repeat refine of ?_); refine pk ?_; refine ag (L.nil ?_); exact ⟨_, ⟨k, a1, true, a0, by omega, H, rfl⟩, lm [(0, 6)] hm⟩
  ·refine mv ?_; obtain ⟨r17, hr17, H⟩ := bindS H; refine c0 8 ent170 (g170 k  a1 r17 hr17) ?_; refine nt ?_; refine pk ?_; refine ag (L.nil ?_); exact ⟨_, ⟨k, a1, (!r17), a0, by omega, H, rfl⟩, lm [(0, 6)] hm⟩
/-! ### I_apart -/
def I_apart (k : Nat) (a0 a1 : Int) : Option Int := some (if (IntKind.i64.wrap (a1 - a0)) > (IntKind.i64.wrap (a0 - a1)) then (IntKind.i64.wrap (a1 - a0)) else (IntKind.i64.wrap (a0 - a1)))
theorem ent123 : MG.Enters Tryz.prog 123 := ⟨Tryz.f123, func123, rfl, by decide⟩
theorem g123 (k : Nat) (a0 a1 r : Int) (H : I_apart k a0 a1 = some r) : Gives Tryz.prog 123 [V.one (cI a0), V.one (cI a1)] [] [V.one (cI r)] [] := by
 refine Gives.intro func123 rfl rfl rfl rfl ?_; refine fx fun w0 T S0 ob oh hm => ?_
 have hF := fxe w0 T S0 12 ob oh
 unfold I_apart at H; obtain ⟨K, hK⟩ := leK k; refine sr ?_; refine ag (L.nil ?_); refine sr ?_; refine mv ?_; refine mv ?_; refine bi ?_; refine mv ?_; refine mv ?_; refine bi ?_; refine L.maxI hF rfl rfl rfl rfl ?_; refine ag (L.nil ?_); cases H; exact WpC.ret rt
/-! ### I_CentreKey -/
def I_CentreKey (k : Nat) (a0 : Int) : Option Int := (I_isRealm k a0).bind fun r2 => cond (!r2) (some 0) (some (IntKind.i64.wrap (21 + a0)))
theorem ent155 : MG.Enters Tryz.prog 155 := ⟨Tryz.f155, func155, rfl, by decide⟩
theorem g155 (k : Nat) (a0 r : Int) (H : I_CentreKey k a0 = some r) : Gives Tryz.prog 155 [V.one (cI a0)] [] [V.one (cI r)] [] := by
 refine Gives.intro func155 rfl rfl rfl rfl ?_; refine fx fun w0 T S0 ob oh hm => ?_
 have hF := fxe w0 T S0 8 ob oh
 unfold I_CentreKey at H; obtain ⟨K, hK⟩ := leK k; refine sr ?_; refine ag (L.nil ?_); refine WpC.seq (sr ?_); refine mv ?_; obtain ⟨r2, hr2, H⟩ := bindS H; refine c0 1 ent89 (g89 k  a0 r2 hr2) ?_; refine nt (L.nil ?_); refine cd H (fun hc H => ?_) (fun hc H => ?_)
 ·refine sr ?_; refine ag (L.nil ?_); cases H; exact WpC.ret rt
 ·refine WpC.skip (sr ?_); refine mv ?_; refine bi ?_; refine ag (L.nil ?_); cases H; exact WpC.ret rt
/-! ### I_term -/
def I_term (k : Nat) (a0 : List UInt8) : Option (List UInt8) := (I_TermOk k a0).bind fun r2 => cond (!r2) (some ([] : List UInt8)) (some a0)
theorem ent188 : MG.Enters Tryz.prog 188 := ⟨Tryz.f188, func188, rfl, by decide⟩
theorem g188 (k : Nat) (a0 r : List UInt8) (H : I_term k a0 = some r) : Gives Tryz.prog 188 [V.one (cS a0)] [] [V.one (cS r)] [] := by
 refine Gives.intro func188 rfl rfl rfl rfl ?_; refine fx fun w0 T S0 ob oh hm => ?_
 have hF := fxe w0 T S0 7 ob oh
 unfold I_term at H; obtain ⟨K, hK⟩ := leK k; refine sr ?_; refine ag (L.nil ?_); refine WpC.seq (sr ?_); refine mv ?_; obtain ⟨r2, hr2, H⟩ := bindS H; refine c0 1 ent180 (g180 k  a0 r2 hr2) ?_; refine nt (L.nil ?_); refine cd H (fun hc H => ?_) (fun hc H => ?_)
 ·refine sr ?_; refine ag (L.nil ?_); cases H; exact WpC.ret rt
 ·refine WpC.skip (sr ?_); refine mv ?_; refine ag (L.nil ?_); cases H; exact WpC.ret rt
/-! ### I_Atom -/
def I_Atom (k : Nat) (a0 : List UInt8) : Option (List UInt8) := (I_Var k (a0.length : Int)).bind fun r1 => cond (decide (([97] : List UInt8).length + r1.length ≤ 9223372036854775807)) (cond (decide ((([97] : List UInt8) ++ r1).length + a0.length ≤ 9223372036854775807)) ((I_term k ((([97] : List UInt8) ++ r1) ++ a0)).bind fun r4 => some r4) none) none
theorem ent158 : MG.Enters Tryz.prog 158 := ⟨Tryz.f158, func158, rfl, by decide⟩
theorem g158 (k : Nat) (a0 r : List UInt8) (H : I_Atom k a0 = some r) : Gives Tryz.prog 158 [V.one (cS a0)] [] [V.one (cS r)] [] := by
 refine Gives.intro func158 rfl rfl rfl rfl ?_; refine fx fun w0 T S0 ob oh hm => ?_
 have hF := fxe w0 T S0 10 ob oh
 unfold I_Atom at H; obtain ⟨K, hK⟩ := leK k; refine sr ?_; refine ag (L.nil ?_); refine sr ?_; refine mv ?_; refine L.lenS underlying9 hF rfl rfl rfl ?_; obtain ⟨r1, hr1, H⟩ := bindS H; refine c0 1 ent189 (g189 k  (a0.length : Int) r1 hr1) ?_; obtain ⟨h2, H⟩ := condG H; refine L.catS hF rfl rfl rfl rfl (of_decide_eq_true h2) ?_; refine mv ?_; obtain ⟨h3, H⟩ := condG H; refine L.catS hF rfl rfl rfl rfl (of_decide_eq_true h3) ?_; obtain ⟨r4, hr4, H⟩ := bindS H; refine c0 2 ent188 (g188 k  ((([97] : List UInt8) ++ r1) ++ a0) r4 hr4) ?_; refine ag (L.nil ?_); cases H; exact WpC.ret rt
/-! ### I_Num -/
def I_Num (k : Nat) (a0 : Int) : Option (List UInt8) := (I_Var k a0).bind fun r1 => cond (r1 == ([] : List UInt8)) (some ([] : List UInt8)) ((I_Atom k r1).bind fun r2 => some r2)
theorem ent196 : MG.Enters Tryz.prog 196 := ⟨Tryz.f196, func196, rfl, by decide⟩
theorem g196 (k : Nat) (a0 : Int) (r : List UInt8) (H : I_Num k a0 = some r) : Gives Tryz.prog 196 [V.one (cI a0)] [] [V.one (cS r)] [] := by
 refine Gives.intro func196 rfl rfl rfl rfl ?_; refine fx fun w0 T S0 ob oh hm => ?_
 have hF := fxe w0 T S0 10 ob oh
 unfold I_Num at H; obtain ⟨K, hK⟩ := leK k; refine sr ?_; refine ag (L.nil ?_); refine sr ?_; refine mv ?_; obtain ⟨r1, hr1, H⟩ := bindS H; refine c0 1 ent189 (g189 k  a0 r1 hr1) ?_; refine ag (L.nil ?_); refine WpC.seq (sr ?_); refine mv ?_; refine L.binS hF rfl rfl rfl rfl rfl (L.nil ?_); refine cd H (fun hc H => ?_) (fun hc H => ?_)
 ·refine sr ?_; refine ag (L.nil ?_); cases H; exact WpC.ret rt
 ·refine WpC.skip (sr ?_); refine mv ?_; obtain ⟨r2, hr2, H⟩ := bindS H; refine c0 2 ent158 (g158 k  r1 r2 hr2) ?_; refine ag (L.nil ?_); cases H; exact WpC.ret rt
/-! ### I_List -/
def I_List.l2 : Nat → (List UInt8) → (List (List UInt8)) → Int → Int → Option (List UInt8)
 | 0, _, _, _, _ => none
 | k2 + 1, v61, v62, v63, v64 => cond (decide (v64 < v63)) ((at? v62 v64).bind fun b69 => (I_TermOk k2 b69).bind fun r71 => cond (!r71) (some ([] : List UInt8)) (cond (decide (v61.length + b69.length ≤ 9223372036854775807)) ((I_List.l2 k2) (v61 ++ b69) v62 v63 (IntKind.i64.wrap (v64 + 1))) none)) ((I_term k2 v61).bind fun r73 => some r73)
def I_List (k : Nat) (a0 : List (List UInt8)) : Option (List UInt8) := (I_Var k (a0.length : Int)).bind fun r1 => cond (decide (([108] : List UInt8).length + r1.length ≤ 9223372036854775807)) (I_List.l2 k (([108] : List UInt8) ++ r1) a0 (a0.length : Int) 0) none
theorem ent185 : MG.Enters Tryz.prog 185 := ⟨Tryz.f185, func185, rfl, by decide⟩
theorem g185 (k : Nat) (g0 : Bool) (a0 : List (List UInt8)) (r : List UInt8) (H : I_List k a0 = some r) : Gives Tryz.prog 185 [V.one (Cell.sl g0 (List.map eS a0))] [] [V.one (cS r)] [] := by
 refine Gives.intro func185 rfl rfl rfl rfl ?_; refine fx fun w0 T S0 ob oh hm => ?_
 have hF := fxe w0 T S0 25 ob oh
 unfold I_List at H; obtain ⟨K, hK⟩ := leK k; refine sr ?_; refine ag (L.nil ?_); refine sr ?_; refine mv ?_; refine L.lenR (xs := a0) (e := eS) underlying70 hF rfl rfl rfl rfl ?_; obtain ⟨r1, hr1, H⟩ := bindS H; refine c0 1 ent189 (g189 k  (a0.length : Int) r1 hr1) ?_; obtain ⟨h2, H⟩ := condG H; refine L.catS hF rfl rfl rfl rfl (of_decide_eq_true h2) ?_; refine ag (L.nil ?_); refine WpC.seq (sr ?_); refine mv ?_; refine L.lenR (xs := a0) (e := eS) underlying70 hF rfl rfl rfl rfl ?_; refine mv (L.nil ?_); refine WpC.block ?_; refine WpC.loopL (P := Tryz.prog) (fun n σ => ∃ (v61 : List UInt8) (v62 : List (List UInt8)) (v63 v64 : Int), n ≤ K ∧ I_List.l2 n v61 v62 v63 v64 = some r ∧ σ = mkSt [(3, oS v61), (10, one (Cell.sl g0 (List.map eS v62))), (11, oI v63), (12, oI v64)] [] [] 0) k ⟨_, ⟨(([108] : List UInt8) ++ r1), a0, (a0.length : Int), 0, by omega, H, rfl⟩, lm [] hm⟩ ?_; clear H
 rintro k2 _ ⟨v61, v62, v63, v64, hk2, H, rfl⟩
 cases k2 with
 | zero => cases H
 | succ k2 =>
  rw [I_List.l2] at H
  refine sr ?_; refine bi (L.nil ?_); refine WpC.seq ?_; refine cd H (fun hc H => ?_) (fun hc H => ?_)
  ·refine WpC.skip (WpC.seq (WpC.block (sr ?_))); obtain ⟨b69, hb69, H⟩ := bindS H; refine ix underlying70 info9 hb69 ?_; refine le shape9 ?_; refine ag (L.nil ?_); refine WpC.seq (sr ?_); refine mv ?_; obtain ⟨r71, hr71, H⟩ := bindS H; refine c0 0 ent180 (g180 k2  b69 r71 hr71) ?_; refine nt (L.nil ?_); refine cd H (fun hc H => ?_) (fun hc H => ?_)
   ·refine sr ?_; refine ag (L.nil ?_); cases H; exact WpC.ret rt
   ·refine WpC.skip (WpC.regionL ?_); refine mv ?_; refine mv ?_; obtain ⟨h72, H⟩ := condG H; refine L.catS hF rfl rfl rfl rfl (of_decide_eq_true h72) ?_; refine ag (L.nil ?_); refine WpC.regionL ?_; refine bi ?_; refine mv (L.nil ?_); exact ⟨k2, _, by omega, ⟨(v61 ++ b69), v62, v63, (IntKind.i64.wrap (v64 + 1)), by omega, H, rfl⟩, lm [] hm⟩
  ·refine WpC.exit (sr ?_); refine mv ?_; obtain ⟨r73, hr73, H⟩ := bindS H; refine c0 0 ent188 (g188 k2  v61 r73 hr73) ?_; refine ag (L.nil ?_); cases H; exact WpC.ret rt
/-! ### I_Nums -/
def I_Nums.l2 : Nat → (List (List UInt8)) → (List Int) → Int → Int → Option (List UInt8)
 | 0, _, _, _, _ => none
 | k2 + 1, v49, v50, v51, v52 => cond (decide (v52 < v51)) ((at? v50 v52).bind fun b56 => (I_Num k2 b56).bind fun r57 => cond (r57 == ([] : List UInt8)) (some ([] : List UInt8)) (cond (decide ((2 * (v49.length + ([r57] : List (List UInt8)).length) + 192) * 16 ≤ 281474976710656)) ((I_Nums.l2 k2) (v49 ++ ([r57] : List (List UInt8))) v50 v51 (IntKind.i64.wrap (v52 + 1))) none)) ((I_List k2 v49).bind fun r59 => some r59)
def I_Nums (k : Nat) (a0 : List Int) : Option (List UInt8) := I_Nums.l2 k ([] : List (List UInt8)) a0 (a0.length : Int) 0
theorem ent186 : MG.Enters Tryz.prog 186 := ⟨Tryz.f186, func186, rfl, by decide⟩
theorem g186 (k : Nat) (g0 : Bool) (a0 : List Int) (r : List UInt8) (H : I_Nums k a0 = some r) : Gives Tryz.prog 186 [V.one (Cell.sl g0 (List.map eI a0))] [] [V.one (cS r)] [] := by
 refine Gives.intro func186 rfl rfl rfl rfl ?_; refine fx fun w0 T S0 ob oh hm => ?_
 have hF := fxe w0 T S0 25 ob oh
 unfold I_Nums at H; obtain ⟨K, hK⟩ := leK k; refine sr ?_; refine ag (L.nil ?_); refine sr ?_; refine L.buildSlice (e := eS) 1 ([] : List (List UInt8)) underlying70 info9 rfl rfl rfl hF rfl rfl rfl rfl rfl rfl rfl rfl ?_; refine ag (L.nil ?_); refine WpC.seq (sr ?_); refine mv ?_; refine L.lenR (xs := a0) (e := eI) underlying22 hF rfl rfl rfl rfl ?_; refine mv (L.nil ?_); refine WpC.block ?_; refine WpC.loopL (P := Tryz.prog) (fun n σ => ∃ (v49 : List (List UInt8)) (v50 : List Int) (v51 v52 : Int), n ≤ K ∧ I_Nums.l2 n v49 v50 v51 v52 = some r ∧ σ = mkSt [(3, one (Cell.own 0)), (8, one (Cell.sl g0 (List.map eI v50))), (9, oI v51), (10, oI v52)] [(0, ⟨1, List.map eS v49⟩)] [] 1) k ⟨_, ⟨([] : List (List UInt8)), a0, (a0.length : Int), 0, by omega, H, rfl⟩, lm [(0, 1)] hm⟩ ?_; clear H
 rintro k2 _ ⟨v49, v50, v51, v52, hk2, H, rfl⟩
 cases k2 with
 | zero => cases H
 | succ k2 =>
  rw [I_Nums.l2] at H
  refine sr ?_; refine bi (L.nil ?_); refine WpC.seq ?_; refine cd H (fun hc H => ?_) (fun hc H => ?_)
  ·refine WpC.skip (WpC.seq (WpC.block (sr ?_))); obtain ⟨b56, hb56, H⟩ := bindS H; refine ix underlying22 info3 hb56 ?_; refine le shape3 ?_; refine ag (L.nil ?_); refine sr ?_; refine mv ?_; obtain ⟨r57, hr57, H⟩ := bindS H; refine c0 1 ent196 (g196 k2  b56 r57 hr57) ?_; refine ag (L.nil ?_); refine WpC.seq (sr ?_); refine mv ?_; refine L.binS hF rfl rfl rfl rfl rfl (L.nil ?_); refine cd H (fun hc H => ?_) (fun hc H => ?_)
   ·refine sr ?_; refine ag (L.nil ?_); cases H; exact WpC.ret rt
   ·refine WpC.skip (WpC.regionL ?_); refine mv ?_; refine mv ?_; refine L.buildSlice (e := eS) 2 ([r57] : List (List UInt8)) underlying70 info9 rfl rfl rfl hF rfl rfl rfl rfl rfl rfl rfl rfl ?_; obtain ⟨h58, H⟩ := condG H; refine L.append (xs := v49) (ys := ([r57] : List (List UInt8))) (e := eS) 3 underlying70 info9 rfl rfl hF rfl rfl rfl rfl rfl rfl rfl rfl (fun _ => rfl) (fun _ _ h1 h2 => by cases h1; cases h2; rfl) ⟨_, underlying70⟩ (of_decide_eq_true h58) rfl rfl ?_; refine ag (L.nil ?_); refine WpC.regionL ?_; refine bi ?_; refine mv (L.nil ?_); exact ⟨k2, _, by omega, ⟨(v49 ++ ([r57] : List (List UInt8))), v50, v51, (IntKind.i64.wrap (v52 + 1)), by omega, H, rfl⟩, lm [(0, 3)] hm⟩
  ·refine WpC.exit (sr ?_); refine mv ?_; obtain ⟨r59, hr59, H⟩ := bindS H; refine ca [false] [0] [] 1 ent185 (g185 k2 false v49 r59 hr59) ?_; refine ag (L.nil ?_); cases H; exact WpC.ret rt
/-! ### I_isFor -/
def I_isFor (k : Nat) (a0 : Int) : Option Bool := (I_isService k a0).bind fun r3 => cond r3 (some true) ((I_isRealm k (IntKind.i64.wrap (a0 - 10))).bind fun r4 => some r4)
theorem ent198 : MG.Enters Tryz.prog 198 := ⟨Tryz.f198, func198, rfl, by decide⟩
theorem g198 (k : Nat) (a0 : Int) (r : Bool) (H : I_isFor k a0 = some r) : Gives Tryz.prog 198 [V.one (cI a0)] [] [V.one (cL r)] [] := by
 refine Gives.intro func198 rfl rfl rfl rfl ?_; refine fx fun w0 T S0 ob oh hm => ?_
 have hF := fxe w0 T S0 10 ob oh
 unfold I_isFor at H; obtain ⟨K, hK⟩ := leK k; refine sr ?_; refine ag (L.nil ?_); refine sr ?_; refine mv ?_; obtain ⟨r3, hr3, H⟩ := bindS H; refine c0 1 ent52 (g52 k  a0 r3 hr3) ?_; refine mv ?_; refine sH H (fun hc H => ?_) (fun hc H => ?_)
 ·(repeat refine of ?_); refine pk ?_; refine ag (L.nil ?_); cases H; exact WpC.ret rt
 ·refine mv ?_; refine bi ?_; obtain ⟨r4, hr4, H⟩ := bindS H; refine c0 2 ent89 (g89 k  (IntKind.i64.wrap (a0 - 10)) r4 hr4) ?_; refine pk ?_; refine ag (L.nil ?_); cases H; exact WpC.ret rt
/-! ### I_RestOk -/
def I_RestOk (k : Nat) (a0 : T_Rest) : Option Bool := (I_within k a0.Servers 0 7).bind fun r4 => cond r4 ((I_within k a0.Ops 0 255).bind fun r5 => cond r5 ((I_isTime k a0.End).bind fun r6 => some r6) (some false)) (some false)
theorem ent121 : MG.Enters Tryz.prog 121 := ⟨Tryz.f121, func121, rfl, by decide⟩
theorem g121 (k : Nat) (a0 : T_Rest) (r : Bool) (H : I_RestOk k a0 = some r) : Gives Tryz.prog 121 [V.agg (bT_Rest a0)] [] [V.one (cL r)] [] := by
 refine Gives.intro func121 rfl rfl rfl rfl ?_; refine fx fun w0 T S0 ob oh hm => ?_
 have hF := fxe w0 T S0 16 ob oh
 unfold I_RestOk at H; obtain ⟨K, hK⟩ := leK k; refine sr ?_; refine bo 3 ?_; refine ag (L.nil ?_); refine sr ?_; refine fa underlying37 info3 ?_; refine lp shape3 ?_; obtain ⟨r4, hr4, H⟩ := bindS H; refine c0 4 ent90 (g90 k  a0.Servers 0 7 r4 hr4) ?_; refine mv ?_; refine sH H (fun hc H => ?_) (fun hc H => ?_)
 ·refine fa underlying37 info3 ?_; refine lp shape3 ?_; obtain ⟨r5, hr5, H⟩ := bindS H; refine c0 5 ent90 (g90 k  a0.Ops 0 255 r5 hr5) ?_; refine pk ?_; refine mv ?_; refine sH H (fun hc H => ?_) (fun hc H => ?_)
  ·refine fa underlying37 info3 ?_; refine lp shape3 ?_; obtain ⟨r6, hr6, H⟩ := bindS H; refine c0 6 ent53 (g53 k  a0.End r6 hr6) ?_; refine pk ?_; refine ag (L.nil ?_); cases H; exact WpC.ret rt
  ·(repeat refine of ?_); refine pk ?_; refine ag (L.nil ?_); cases H; exact WpC.ret rt
 ·(repeat refine of ?_); refine pk ?_; refine mv ?_; (repeat refine of ?_); refine pk ?_; refine ag (L.nil ?_); cases H; exact WpC.ret rt
/-! ### I_areAll__impl_isService -/
def I_areAll__impl_isService.l2 : Nat → (List Int) → Int → Int → Int → Option Bool
 | 0, _, _, _, _ => none
 | k2 + 1, v39, v40, v41, v42 => cond (decide (v42 < v41)) ((at? v39 v42).bind fun b45 => (I_isService k2 b45).bind fun r46 => cond (!r46) (some false) ((I_areAll__impl_isService.l2 k2) v39 v40 v41 (IntKind.i64.wrap (v42 + 1)))) (some (decide ((v39.length : Int) ≤ v40)))
def I_areAll__impl_isService (k : Nat) (a0 : List Int) (a1 : Int) : Option Bool := I_areAll__impl_isService.l2 k a0 a1 (a0.length : Int) 0
theorem I_areAll__impl_isService_gives (k : Nat) (g0 : Bool) (a0 : List Int) (a1 : Int) (r : Bool) (H : I_areAll__impl_isService k a0 a1 = some r) : Gives Tryz.prog 117 [V.one (Cell.sl g0 (List.map eI a0)), V.one (cI a1), V.one (Cell.clo 52 [])] [] [V.one (cL r)] [] := by
 refine Gives.intro func117 rfl rfl rfl rfl ?_; refine fx fun w0 T S0 ob oh hm => ?_
 have hF := fxe w0 T S0 24 ob oh
 unfold I_areAll__impl_isService at H; obtain ⟨K, hK⟩ := leK k; refine sr ?_; refine ag (L.nil ?_); refine WpC.seq (sr ?_); refine mv ?_; refine L.lenR (xs := a0) (e := eI) underlying22 hF rfl rfl rfl rfl ?_; refine mv (L.nil ?_); refine WpC.block ?_; refine WpC.loopL (P := Tryz.prog) (fun n σ => ∃ (v39 : List Int) (v40 v41 v42 : Int), n ≤ K ∧ I_areAll__impl_isService.l2 n v39 v40 v41 v42 = some r ∧ σ = mkSt [(0, one (Cell.sl g0 (List.map eI v39))), (1, oI v40), (2, one (Cell.clo 52 [])), (9, one (Cell.sl g0 (List.map eI v39))), (10, oI v41), (11, oI v42)] [] [] 0) k ⟨_, ⟨a0, a1, (a0.length : Int), 0, by omega, H, rfl⟩, lm [] hm⟩ ?_; clear H
 rintro k2 _ ⟨v39, v40, v41, v42, hk2, H, rfl⟩
 cases k2 with
 | zero => cases H
 | succ k2 =>
  rw [I_areAll__impl_isService.l2] at H
  refine sr ?_; refine bi (L.nil ?_); refine WpC.seq ?_; refine cd H (fun hc H => ?_) (fun hc H => ?_)
  ·refine WpC.skip (WpC.seq (WpC.block (sr ?_))); obtain ⟨b45, hb45, H⟩ := bindS H; refine ix underlying22 info3 hb45 ?_; refine le shape3 ?_; refine ag (L.nil ?_); refine sr ?_; refine mv ?_; refine mv ?_; obtain ⟨r46, hr46, H⟩ := bindS H; refine c0 0 ent52 (g52 k2  b45 r46 hr46) ?_; refine nt (L.nil ?_); refine cd H (fun hc H => ?_) (fun hc H => ?_)
   ·refine sr ?_; refine ag (L.nil ?_); cases H; exact WpC.ret rt
   ·refine WpC.skip (WpC.regionL ?_); refine bi ?_; refine mv (L.nil ?_); exact ⟨k2, _, by omega, ⟨v39, v40, v41, (IntKind.i64.wrap (v42 + 1)), by omega, H, rfl⟩, lm [] hm⟩
  ·refine WpC.exit (sr ?_); refine mv ?_; refine L.lenR (xs := v39) (e := eI) underlying22 hF rfl rfl rfl rfl ?_; refine mv ?_; refine bi ?_; refine ag (L.nil ?_); cases H; exact WpC.ret rt
/-! ### I_ticketOk -/
def I_ticketOk (k : Nat) (a0 : T_Ticket) : Option Bool := (I_isPrincipal k a0.Client).bind fun r7 => cond r7 ((I_isFor k a0.Service).bind fun r8 => cond r8 ((I_isKey k a0.Key).bind fun r9 => cond r9 ((I_RestOk k a0.Rest).bind fun r10 => cond r10 ((I_areAll__impl_isRealm k a0.Path 6).bind fun r11 => cond r11 ((I_areAll__impl_isService k a0.Via 4).bind fun r12 => some r12) (some false)) (some false)) (some false)) (some false)) (some false)
theorem ent192 : MG.Enters Tryz.prog 192 := ⟨Tryz.f192, func192, rfl, by decide⟩
theorem g192 (k : Nat) (g0 g1 : Bool) (a0 : T_Ticket) (r : Bool) (H : I_ticketOk k a0 = some r) : Gives Tryz.prog 192 [V.agg (bT_Ticket g0 g1 a0)] [] [V.one (cL r)] [] := by
 refine Gives.intro func192 rfl rfl rfl rfl ?_; refine fx fun w0 T S0 ob oh hm => ?_
 have hF := fxe w0 T S0 31 ob oh
 unfold I_ticketOk at H; obtain ⟨K, hK⟩ := leK k; refine sr ?_; refine bo 8 ?_; refine ag (L.nil ?_); refine sr ?_; refine fa underlying76 info3 ?_; refine lp shape3 ?_; obtain ⟨r7, hr7, H⟩ := bindS H; refine c0 9 ent170 (g170 k  a0.Client r7 hr7) ?_; refine mv ?_; refine sH H (fun hc H => ?_) (fun hc H => ?_)
 ·refine fa underlying76 info3 ?_; refine lp shape3 ?_; obtain ⟨r8, hr8, H⟩ := bindS H; refine c0 10 ent198 (g198 k  a0.Service r8 hr8) ?_; refine pk ?_; refine mv ?_; refine sH H (fun hc H => ?_) (fun hc H => ?_)
  ·refine fa underlying76 info3 ?_; refine lp shape3 ?_; obtain ⟨r9, hr9, H⟩ := bindS H; refine c0 11 ent182 (g182 k  a0.Key r9 hr9) ?_; refine pk ?_; refine mv ?_; refine sH H (fun hc H => ?_) (fun hc H => ?_)
   ·refine fa underlying76 info37 ?_; refine lp shape37 ?_; obtain ⟨r10, hr10, H⟩ := bindS H; refine c0 12 ent121 (g121 k  a0.Rest r10 hr10) ?_; refine pk ?_; refine mv ?_; refine sH H (fun hc H => ?_) (fun hc H => ?_)
    ·refine fa underlying76 info22 ?_; refine lp shape22 ?_; obtain ⟨r11, hr11, H⟩ := bindS H; refine c0 13 ent117 (g117 k g0 a0.Path 6 r11 hr11) ?_; refine pk ?_; refine mv ?_; refine sH H (fun hc H => ?_) (fun hc H => ?_)
     ·refine fa underlying76 info22 ?_; refine lp shape22 ?_; obtain ⟨r12, hr12, H⟩ := bindS H; refine c0 14 ent117 (I_areAll__impl_isService_gives k g1 a0.Via 4 r12 hr12) ?_; refine pk ?_; refine ag (L.nil ?_); cases H; exact WpC.ret rt
     ·(repeat refine of ?_); refine pk ?_; refine ag (L.nil ?_); cases H; exact WpC.ret rt
    ·(repeat refine of ?_); refine pk ?_; refine mv ?_; (repeat refine of ?_); refine pk ?_; refine ag (L.nil ?_); cases H; exact WpC.ret rt
   ·(repeat refine of ?_); refine pk ?_; refine mv ?_; (repeat refine of ?_); refine pk ?_; refine mv ?_; (repeat refine of ?_); refine pk ?_; refine ag (L.nil ?_); cases H; exact WpC.ret rt
  ·(repeat refine of ?_); refine pk ?_; refine mv ?_; (repeat refine of ?_); refine pk ?_; refine mv ?_; (repeat refine of ?_); refine pk ?_; refine mv ?_; (repeat refine of ?_); refine pk ?_; refine ag (L.nil ?_); cases H; exact WpC.ret rt
 ·(repeat refine of ?_); refine pk ?_; refine mv ?_; (repeat refine of ?_); refine pk ?_; refine mv ?_; (repeat refine of ?_); refine pk ?_; refine mv ?_; (repeat refine of ?_); refine pk ?_; refine mv ?_; (repeat refine of ?_); refine pk ?_; refine ag (L.nil ?_); cases H; exact WpC.ret rt
/-! ### I_KeyTerm -/
def I_KeyTerm (k : Nat) (a0 : Int) : Option (List UInt8) := (I_Var k a0).bind fun r1 => cond (decide (([107] : List UInt8).length + r1.length ≤ 9223372036854775807)) ((I_term k (([107] : List UInt8) ++ r1)).bind fun r3 => some r3) none
theorem ent194 : MG.Enters Tryz.prog 194 := ⟨Tryz.f194, func194, rfl, by decide⟩
theorem g194 (k : Nat) (a0 : Int) (r : List UInt8) (H : I_KeyTerm k a0 = some r) : Gives Tryz.prog 194 [V.one (cI a0)] [] [V.one (cS r)] [] := by
 refine Gives.intro func194 rfl rfl rfl rfl ?_; refine fx fun w0 T S0 ob oh hm => ?_
 have hF := fxe w0 T S0 7 ob oh
 unfold I_KeyTerm at H; obtain ⟨K, hK⟩ := leK k; refine sr ?_; refine ag (L.nil ?_); refine sr ?_; refine mv ?_; obtain ⟨r1, hr1, H⟩ := bindS H; refine c0 1 ent189 (g189 k  a0 r1 hr1) ?_; obtain ⟨h2, H⟩ := condG H; refine L.catS hF rfl rfl rfl rfl (of_decide_eq_true h2) ?_; obtain ⟨r3, hr3, H⟩ := bindS H; refine c0 2 ent188 (g188 k  (([107] : List UInt8) ++ r1) r3 hr3) ?_; refine ag (L.nil ?_); cases H; exact WpC.ret rt
/-! ### I_ShowRest -/
def I_ShowRest (k : Nat) (a0 : T_Rest) : Option (List UInt8) := (I_RestOk k a0).bind fun r2 => cond (!r2) (some ([] : List UInt8)) ((I_Nums k ([a0.Servers, a0.Ops, a0.End] : List Int)).bind fun r3 => some r3)
theorem ent195 : MG.Enters Tryz.prog 195 := ⟨Tryz.f195, func195, rfl, by decide⟩
theorem g195 (k : Nat) (a0 : T_Rest) (r : List UInt8) (H : I_ShowRest k a0 = some r) : Gives Tryz.prog 195 [V.agg (bT_Rest a0)] [] [V.one (cS r)] [] := by
 refine Gives.intro func195 rfl rfl rfl rfl ?_; refine fx fun w0 T S0 ob oh hm => ?_
 have hF := fxe w0 T S0 14 ob oh
 unfold I_ShowRest at H; obtain ⟨K, hK⟩ := leK k; refine sr ?_; refine bo 3 ?_; refine ag (L.nil ?_); refine WpC.seq (sr ?_); refine lp shape37 ?_; obtain ⟨r2, hr2, H⟩ := bindS H; refine c0 4 ent121 (g121 k  a0 r2 hr2) ?_; refine nt (L.nil ?_); refine cd H (fun hc H => ?_) (fun hc H => ?_)
 ·refine sr ?_; refine ag (L.nil ?_); cases H; exact WpC.ret rt
 ·refine WpC.skip (sr ?_); refine fa underlying37 info3 ?_; refine lp shape3 ?_; refine fa underlying37 info3 ?_; refine lp shape3 ?_; refine fa underlying37 info3 ?_; refine lp shape3 ?_; refine L.buildSlice (e := eI) 5 ([a0.Servers, a0.Ops, a0.End] : List Int) underlying22 info3 rfl rfl rfl hF rfl rfl rfl rfl rfl rfl rfl rfl ?_; obtain ⟨r3, hr3, H⟩ := bindS H; refine ca [false] [5] [] 6 ent186 (g186 k false ([a0.Servers, a0.Ops, a0.End] : List Int) r3 hr3) ?_; refine ag (L.nil ?_); cases H; exact WpC.ret rt
/-! ### I_Seal -/
def I_Seal (k : Nat) (a0 : Int) (a1 : List UInt8) : Option (List UInt8) := (I_TermOk k a1).bind fun r7 => cond (!r7) (some ([] : List UInt8)) ((I_isKey k a0).bind fun r8 => cond (!r8) (some ([] : List UInt8)) ((I_Var k a0).bind fun r9 => cond (decide (([115] : List UInt8).length + r9.length ≤ 9223372036854775807)) (cond (decide ((([115] : List UInt8) ++ r9).length + a1.length ≤ 9223372036854775807)) ((I_term k ((([115] : List UInt8) ++ r9) ++ a1)).bind fun r12 => some r12) none) none))
theorem ent193 : MG.Enters Tryz.prog 193 := ⟨Tryz.f193, func193, rfl, by decide⟩
theorem g193 (k : Nat) (a0 : Int) (a1 r : List UInt8) (H : I_Seal k a0 a1 = some r) : Gives Tryz.prog 193 [V.one (cI a0), V.one (cS a1)] [] [V.one (cS r)] [] := by
 refine Gives.intro func193 rfl rfl rfl rfl ?_; refine fx fun w0 T S0 ob oh hm => ?_
 have hF := fxe w0 T S0 19 ob oh
 unfold I_Seal at H; obtain ⟨K, hK⟩ := leK k; refine sr ?_; refine ag (L.nil ?_); refine WpC.seq (sr ?_); refine mv ?_; obtain ⟨r7, hr7, H⟩ := bindS H; refine c0 2 ent180 (g180 k  a1 r7 hr7) ?_; refine nt ?_; refine mv ?_; refine sH H (fun hc H => ?_) (fun hc H => ?_)
 ·(repeat refine of ?_); refine pk (L.nil ?_); refine cT ?_; refine sr ?_; refine ag (L.nil ?_); cases H; exact WpC.ret rt
 ·refine mv ?_; obtain ⟨r8, hr8, H⟩ := bindS H; refine c0 3 ent182 (g182 k  a0 r8 hr8) ?_; refine nt ?_; refine pk (L.nil ?_); refine cd H (fun hc H => ?_) (fun hc H => ?_)
  ·refine sr ?_; refine ag (L.nil ?_); cases H; exact WpC.ret rt
  ·refine WpC.skip (sr ?_); refine mv ?_; obtain ⟨r9, hr9, H⟩ := bindS H; refine c0 4 ent189 (g189 k  a0 r9 hr9) ?_; obtain ⟨h10, H⟩ := condG H; refine L.catS hF rfl rfl rfl rfl (of_decide_eq_true h10) ?_; refine mv ?_; obtain ⟨h11, H⟩ := condG H; refine L.catS hF rfl rfl rfl rfl (of_decide_eq_true h11) ?_; obtain ⟨r12, hr12, H⟩ := bindS H; refine c0 5 ent188 (g188 k  ((([115] : List UInt8) ++ r9) ++ a1) r12 hr12) ?_; refine ag (L.nil ?_); cases H; exact WpC.ret rt
/-! ### I_ShowTicket -/
def I_ShowTicket (k : Nat) (a0 : T_Ticket) (a1 : Int) : Option (List UInt8) := (I_ticketOk k a0).bind fun r2 => cond (!r2) (some ([] : List UInt8)) ((I_Nums k ([a0.Client, a0.Service] : List Int)).bind fun r3 => (I_KeyTerm k a0.Key).bind fun r4 => (I_ShowRest k a0.Rest).bind fun r5 => (I_Nums k a0.Path).bind fun r6 => (I_Nums k a0.Via).bind fun r7 => (I_List k ([r3, r4, r5, r6, r7] : List (List UInt8))).bind fun r8 => (I_Seal k a1 r8).bind fun r9 => some r9)
theorem ent174 : MG.Enters Tryz.prog 174 := ⟨Tryz.f174, func174, rfl, by decide⟩
theorem g174 (k : Nat) (g0 g1 : Bool) (a0 : T_Ticket) (a1 : Int) (r : List UInt8) (H : I_ShowTicket k a0 a1 = some r) : Gives Tryz.prog 174 [V.agg (bT_Ticket g0 g1 a0), V.one (cI a1)] [] [V.one (cS r)] [] := by
 refine Gives.intro func174 rfl rfl rfl rfl ?_; refine fx fun w0 T S0 ob oh hm => ?_
 have hF := fxe w0 T S0 30 ob oh
 unfold I_ShowTicket at H; obtain ⟨K, hK⟩ := leK k; refine sr ?_; refine bo 9 ?_; refine ag (L.nil ?_); refine WpC.seq (sr ?_); refine lp shape76 ?_; obtain ⟨r2, hr2, H⟩ := bindS H; refine c0 10 ent192 (g192 k g0 g1 a0 r2 hr2) ?_; refine nt (L.nil ?_); refine cd H (fun hc H => ?_) (fun hc H => ?_)
 ·refine sr ?_; refine ag (L.nil ?_); cases H; exact WpC.ret rt
 ·refine WpC.skip (WpC.seq ?_); obtain ⟨r3, hr3, H⟩ := bindS H; obtain ⟨r4, hr4, H⟩ := bindS H; obtain ⟨r5, hr5, H⟩ := bindS H; obtain ⟨r6, hr6, H⟩ := bindS H; obtain ⟨r7, hr7, H⟩ := bindS H; obtain ⟨r8, hr8, H⟩ := bindS H; obtain ⟨r9, hr9, H⟩ := bindS H
  refine A.lin (fun β => mkStL [(1, iI a1), (2, iP 9 0), (4, [(β 22, some (one (cS r9))), (true, some (one (cS ([] : List UInt8))))]), (8, lI (β 0) a1), (9, lP (β 1) 9 0), (10, al (β 2) (one (cI a0.Client))), (11, lP (β 3) 9 1), (12, al (β 4) (one (cI a0.Service))), (13, al (β 5) (one (Cell.own 11))), (14, al (β 6) (one (cS r3))), (15, lP (β 7) 9 2), (16, al (β 8) (one (cI a0.Key))), (17, al (β 9) (one (cS r4))), (18, lP (β 10) 9 3), (19, al (β 11) (agg (bT_Rest a0.Rest))), (20, al (β 12) (one (cS r5))), (21, lP (β 13) 9 6), (22, al (β 14) (one (Cell.sl g0 (List.map eI a0.Path)))), (23, al (β 15) (one (cS r6))), (24, lP (β 16) 9 7), (25, al (β 17) (one (Cell.sl g1 (List.map eI a0.Via)))), (26, al (β 18) (one (cS r7))), (27, al (β 19) (one (Cell.own 17))), (28, al (β 20) (one (cS r8))), (29, al (β 21) (one (cS r9)))] [(11, al (β 5) (⟨1, List.map eI ([a0.Client, a0.Service] : List Int)⟩)), (17, al (β 19) (⟨1, List.map eS ([r3, r4, r5, r6, r7] : List (List UInt8))⟩))] [(9, ai ((bT_Ticket g0 g1 a0)))] 20) [([], [21, 22]), ([], [2, 5, 6, 9, 12, 15, 18, 19, 20, 21, 22]), ([1], [5, 6, 9, 12, 15, 18, 19, 20, 21, 22]), ([], [4, 5, 6, 9, 12, 15, 18, 19, 20, 21, 22]), ([3], [5, 6, 9, 12, 15, 18, 19, 20, 21, 22]), ([1, 2, 3, 4], [6, 9, 12, 15, 18, 19, 20, 21, 22]), ([1, 2, 3, 4, 5], [9, 12, 15, 18, 19, 20, 21, 22]), ([], [8, 9, 12, 15, 18, 19, 20, 21, 22]), ([7], [9, 12, 15, 18, 19, 20, 21, 22]), ([1, 2, 3, 4, 5, 6, 7, 8], [12, 15, 18, 19, 20, 21, 22]), ([], [11, 12, 15, 18, 19, 20, 21, 22]), ([10], [12, 15, 18, 19, 20, 21, 22]), ([1, 2, 3, 4, 5, 6, 7, 8, 9, 10, 11], [15, 18, 19, 20, 21, 22]), ([], [14, 15, 18, 19, 20, 21, 22]), ([13], [15, 18, 19, 20, 21, 22]), ([1, 2, 3, 4, 5, 6, 7, 8, 9, 10, 11, 12, 13, 14], [18, 19, 20, 21, 22]), ([], [17, 18, 19, 20, 21, 22]), ([16], [18, 19, 20, 21, 22]), ([1, 2, 3, 4, 5, 6, 7, 8, 9, 10, 11, 12, 13, 14, 15, 16, 17], [19, 20, 21, 22]), ([1, 2, 3, 4, 5, 6, 7, 8, 9, 10, 11, 12, 13, 14, 15, 16, 17, 18], [20, 21, 22]), ([1, 2, 3, 4, 5, 6, 7, 8, 9, 10, 11, 12, 13, 14, 15, 16, 17, 18, 19], [21, 22]), ([0, 1, 2, 3, 4, 5, 6, 7, 8, 9, 10, 11, 12, 13, 14, 15, 16, 17, 18, 19, 20], [22]), ([0, 1, 2, 3, 4, 5, 6, 7, 8, 9, 10, 11, 12, 13, 14, 15, 16, 17, 18, 19, 20, 21], [])] 23 mixed rfl (by kernel_rfl) ?_ ?_ ?_
  ·exact Le.lin [] hm rfl (sa (sa2 (kn2 (kn4 (kn8 (kn8 kz)))))) (kn2 kz) (ba kz)
  ·repeat' (first | exact trivial | refine ⟨⟨_, rfl, fun β => ?_⟩, ?_⟩ | fail)
   ·refine mv ?_; exact lx [] hm
   ·refine fa underlying76 info3 ?_; exact lx [] hm
   ·refine lp shape3 ?_; exact lx [] hm
   ·refine fa underlying76 info3 ?_; exact lx [] hm
   ·refine lp shape3 ?_; exact lx [] hm
   ·refine L.buildSlice (e := eI) 20 ([a0.Client, a0.Service] : List Int) underlying22 info3 rfl rfl rfl hF rfl rfl rfl rfl rfl rfl rfl rfl ?_; exact lx [(11, 20)] hm
   ·refine ca [false] [11] [] 20 ent186 (g186 k false ([a0.Client, a0.Service] : List Int) r3 hr3) ?_; exact lx [(12, 20)] hm
   ·refine fa underlying76 info3 ?_; exact lx [] hm
   ·refine lp shape3 ?_; exact lx [] hm
   ·refine c0 20 ent194 (g194 k  a0.Key r4 hr4) ?_; exact lx [(13, 20)] hm
   ·refine fa underlying76 info37 ?_; exact lx [] hm
   ·refine lp shape37 ?_; exact lx [] hm
   ·refine c0 20 ent195 (g195 k  a0.Rest r5 hr5) ?_; exact lx [(14, 20)] hm
   ·refine fa underlying76 info22 ?_; exact lx [] hm
   ·refine lp shape22 ?_; exact lx [] hm
   ·refine c0 20 ent186 (g186 k g0 a0.Path r6 hr6) ?_; exact lx [(15, 20)] hm
   ·refine fa underlying76 info22 ?_; exact lx [] hm
   ·refine lp shape22 ?_; exact lx [] hm
   ·refine c0 20 ent186 (g186 k g1 a0.Via r7 hr7) ?_; exact lx [(16, 20)] hm
   ·refine L.buildSlice (e := eS) 20 ([r3, r4, r5, r6, r7] : List (List UInt8)) underlying70 info9 rfl rfl rfl hF rfl rfl rfl rfl rfl rfl rfl rfl ?_; exact lx [(17, 20)] hm
   ·refine ca [false] [17] [] 20 ent185 (g185 k false ([r3, r4, r5, r6, r7] : List (List UInt8)) r8 hr8) ?_; exact lx [(18, 20)] hm
   ·refine c0 20 ent193 (g193 k  a1 r8 r9 hr9) ?_; exact lx [(19, 20)] hm
   ·refine ag ?_; exact lx [] hm
  refine ⟨_, (lm [] hm : Le _ _ (mkSt [(4, oS r9)] [] [] 0)), ?_⟩; cases H; exact WpC.ret rt
/-! ### I_grantOk -/
def I_grantOk (k : Nat) (a0 : T_Grant) : Option Bool := (I_isKey k a0.Key).bind fun r5 => cond r5 ((I_isFor k a0.Service).bind fun r6 => cond r6 ((I_within k a0.Nonce 0 1000000).bind fun r7 => cond r7 ((I_RestOk k a0.Rest).bind fun r8 => some r8) (some false)) (some false)) (some false)
theorem ent197 : MG.Enters Tryz.prog 197 := ⟨Tryz.f197, func197, rfl, by decide⟩
theorem g197 (k : Nat) (a0 : T_Grant) (r : Bool) (H : I_grantOk k a0 = some r) : Gives Tryz.prog 197 [V.agg (bT_Grant a0)] [] [V.one (cL r)] [] := by
 refine Gives.intro func197 rfl rfl rfl rfl ?_; refine fx fun w0 T S0 ob oh hm => ?_
 have hF := fxe w0 T S0 21 ob oh
 unfold I_grantOk at H; obtain ⟨K, hK⟩ := leK k; refine sr ?_; refine bo 6 ?_; refine ag (L.nil ?_); refine sr ?_; refine fa underlying80 info3 ?_; refine lp shape3 ?_; obtain ⟨r5, hr5, H⟩ := bindS H; refine c0 7 ent182 (g182 k  a0.Key r5 hr5) ?_; refine mv ?_; refine sH H (fun hc H => ?_) (fun hc H => ?_)
 ·refine fa underlying80 info3 ?_; refine lp shape3 ?_; obtain ⟨r6, hr6, H⟩ := bindS H; refine c0 8 ent198 (g198 k  a0.Service r6 hr6) ?_; refine pk ?_; refine mv ?_; refine sH H (fun hc H => ?_) (fun hc H => ?_)
  ·refine fa underlying80 info3 ?_; refine lp shape3 ?_; obtain ⟨r7, hr7, H⟩ := bindS H; refine c0 9 ent90 (g90 k  a0.Nonce 0 1000000 r7 hr7) ?_; refine pk ?_; refine mv ?_; refine sH H (fun hc H => ?_) (fun hc H => ?_)
   ·refine fa underlying80 info37 ?_; refine lp shape37 ?_; obtain ⟨r8, hr8, H⟩ := bindS H; refine c0 10 ent121 (g121 k  a0.Rest r8 hr8) ?_; refine pk ?_; refine ag (L.nil ?_); cases H; exact WpC.ret rt
   ·(repeat refine of ?_); refine pk ?_; refine ag (L.nil ?_); cases H; exact WpC.ret rt
  ·(repeat refine of ?_); refine pk ?_; refine mv ?_; (repeat refine of ?_); refine pk ?_; refine ag (L.nil ?_); cases H; exact WpC.ret rt
 ·(repeat refine of ?_); refine pk ?_; refine mv ?_; (repeat refine of ?_); refine pk ?_; refine mv ?_; (repeat refine of ?_); refine pk ?_; refine ag (L.nil ?_); cases H; exact WpC.ret rt
/-! ### I_ShowGrant -/
def I_ShowGrant (k : Nat) (a0 : T_Grant) (a1 : Int) : Option (List UInt8) := (I_grantOk k a0).bind fun r2 => cond (!r2) (some ([] : List UInt8)) ((I_KeyTerm k a0.Key).bind fun r3 => (I_Nums k ([a0.Service, a0.Nonce] : List Int)).bind fun r4 => (I_ShowRest k a0.Rest).bind fun r5 => (I_List k ([r3, r4, r5] : List (List UInt8))).bind fun r6 => (I_Seal k a1 r6).bind fun r7 => some r7)
theorem ent187 : MG.Enters Tryz.prog 187 := ⟨Tryz.f187, func187, rfl, by decide⟩
theorem g187 (k : Nat) (a0 : T_Grant) (a1 : Int) (r : List UInt8) (H : I_ShowGrant k a0 a1 = some r) : Gives Tryz.prog 187 [V.agg (bT_Grant a0), V.one (cI a1)] [] [V.one (cS r)] [] := by
 refine Gives.intro func187 rfl rfl rfl rfl ?_; refine fx fun w0 T S0 ob oh hm => ?_
 have hF := fxe w0 T S0 24 ob oh
 unfold I_ShowGrant at H; obtain ⟨K, hK⟩ := leK k; refine sr ?_; refine bo 7 ?_; refine ag (L.nil ?_); refine WpC.seq (sr ?_); refine lp shape80 ?_; obtain ⟨r2, hr2, H⟩ := bindS H; refine c0 8 ent197 (g197 k  a0 r2 hr2) ?_; refine nt (L.nil ?_); refine cd H (fun hc H => ?_) (fun hc H => ?_)
 ·refine sr ?_; refine ag (L.nil ?_); cases H; exact WpC.ret rt
 ·refine WpC.skip (WpC.seq ?_); obtain ⟨r3, hr3, H⟩ := bindS H; obtain ⟨r4, hr4, H⟩ := bindS H; obtain ⟨r5, hr5, H⟩ := bindS H; obtain ⟨r6, hr6, H⟩ := bindS H; obtain ⟨r7, hr7, H⟩ := bindS H
  refine A.lin (fun β => mkStL [(1, iI a1), (2, iP 7 0), (4, [(β 16, some (one (cS r7))), (true, some (one (cS ([] : List UInt8))))]), (8, lI (β 0) a1), (9, lP (β 1) 7 0), (10, al (β 2) (one (cI a0.Key))), (11, al (β 3) (one (cS r3))), (12, lP (β 4) 7 1), (13, al (β 5) (one (cI a0.Service))), (14, lP (β 6) 7 2), (15, al (β 7) (one (cI a0.Nonce))), (16, al (β 8) (one (Cell.own 10))), (17, al (β 9) (one (cS r4))), (18, lP (β 10) 7 3), (19, al (β 11) (agg (bT_Rest a0.Rest))), (20, al (β 12) (one (cS r5))), (21, al (β 13) (one (Cell.own 13))), (22, al (β 14) (one (cS r6))), (23, al (β 15) (one (cS r7)))] [(10, al (β 8) (⟨1, List.map eI ([a0.Service, a0.Nonce] : List Int)⟩)), (13, al (β 13) (⟨1, List.map eS ([r3, r4, r5] : List (List UInt8))⟩))] [(7, ai ((bT_Grant a0)))] 16) [([], [15, 16]), ([], [2, 3, 9, 12, 13, 14, 15, 16]), ([1], [3, 9, 12, 13, 14, 15, 16]), ([1, 2], [9, 12, 13, 14, 15, 16]), ([], [5, 8, 9, 12, 13, 14, 15, 16]), ([4], [8, 9, 12, 13, 14, 15, 16]), ([], [7, 8, 9, 12, 13, 14, 15, 16]), ([6], [8, 9, 12, 13, 14, 15, 16]), ([4, 5, 6, 7], [9, 12, 13, 14, 15, 16]), ([1, 2, 3, 4, 5, 6, 7, 8], [12, 13, 14, 15, 16]), ([], [11, 12, 13, 14, 15, 16]), ([10], [12, 13, 14, 15, 16]), ([1, 2, 3, 4, 5, 6, 7, 8, 9, 10, 11], [13, 14, 15, 16]), ([1, 2, 3, 4, 5, 6, 7, 8, 9, 10, 11, 12], [14, 15, 16]), ([1, 2, 3, 4, 5, 6, 7, 8, 9, 10, 11, 12, 13], [15, 16]), ([0, 1, 2, 3, 4, 5, 6, 7, 8, 9, 10, 11, 12, 13, 14], [16]), ([0, 1, 2, 3, 4, 5, 6, 7, 8, 9, 10, 11, 12, 13, 14, 15], [])] 17 mixed rfl (by kernel_rfl) ?_ ?_ ?_
  ·exact Le.lin [] hm rfl (sa (sa2 (kn8 (kn8 kz)))) (kn2 kz) (ba kz)
  ·repeat' (first | exact trivial | refine ⟨⟨_, rfl, fun β => ?_⟩, ?_⟩ | fail)
   ·refine mv ?_; exact lx [] hm
   ·refine fa underlying80 info3 ?_; exact lx [] hm
   ·refine lp shape3 ?_; exact lx [] hm
   ·refine c0 16 ent194 (g194 k  a0.Key r3 hr3) ?_; exact lx [(9, 16)] hm
   ·refine fa underlying80 info3 ?_; exact lx [] hm
   ·refine lp shape3 ?_; exact lx [] hm
   ·refine fa underlying80 info3 ?_; exact lx [] hm
   ·refine lp shape3 ?_; exact lx [] hm
   ·refine L.buildSlice (e := eI) 16 ([a0.Service, a0.Nonce] : List Int) underlying22 info3 rfl rfl rfl hF rfl rfl rfl rfl rfl rfl rfl rfl ?_; exact lx [(10, 16)] hm
   ·refine ca [false] [10] [] 16 ent186 (g186 k false ([a0.Service, a0.Nonce] : List Int) r4 hr4) ?_; exact lx [(11, 16)] hm
   ·refine fa underlying80 info37 ?_; exact lx [] hm
   ·refine lp shape37 ?_; exact lx [] hm
   ·refine c0 16 ent195 (g195 k  a0.Rest r5 hr5) ?_; exact lx [(12, 16)] hm
   ·refine L.buildSlice (e := eS) 16 ([r3, r4, r5] : List (List UInt8)) underlying70 info9 rfl rfl rfl hF rfl rfl rfl rfl rfl rfl rfl rfl ?_; exact lx [(13, 16)] hm
   ·refine ca [false] [13] [] 16 ent185 (g185 k false ([r3, r4, r5] : List (List UInt8)) r6 hr6) ?_; exact lx [(14, 16)] hm
   ·refine c0 16 ent193 (g193 k  a1 r6 r7 hr7) ?_; exact lx [(15, 16)] hm
   ·refine ag ?_; exact lx [] hm
  refine ⟨_, (lm [] hm : Le _ _ (mkSt [(4, oS r7)] [] [] 0)), ?_⟩; cases H; exact WpC.ret rt
/-! ### I_asked_given -/
def I_asked_given (k : Nat) (a0 : T_asked) (a1 : T_Event) (a2 : T_Ticket) (a3 a4 : Int) : Option T_Reply := (I_Nums k ([3, a0.nonce] : List Int)).bind fun r1 => (I_ShowTicket k a2 a3).bind fun r2 => (I_ShowGrant k (⟨a2.Key, a2.Service, a0.nonce, a2.Rest⟩ : T_Grant) a4).bind fun r3 => (I_List k ([r1, r2, r3] : List (List UInt8))).bind fun r4 => cond (r4 == ([] : List UInt8)) (some (⟨1, ([] : List UInt8), (⟨0, 0, 0, 0, 0, 0, 0, 0, (⟨0, 0, 0⟩ : T_Rest)⟩ : T_Event)⟩ : T_Reply)) (some (⟨0, r4, (⟨a1.Kind, a0.realm, a1.By, a1.Client, a2.Service, a2.Key, a1.Parent, a1.Evid, a2.Rest⟩ : T_Event)⟩ : T_Reply))
theorem ent154 : MG.Enters Tryz.prog 154 := ⟨Tryz.f154, func154, rfl, by decide⟩
theorem g154 (k : Nat) (g0 g1 g2 g3 g4 g5 g6 : Bool) (a0 : T_asked) (a1 : T_Event) (a2 : T_Ticket) (a3 a4 : Int) (r : T_Reply) (H : I_asked_given k a0 a1 a2 a3 a4 = some r) : Gives Tryz.prog 154 [V.agg (bT_asked g0 g1 g2 g3 g4 a0), V.agg (bT_Event a1), V.agg (bT_Ticket g5 g6 a2), V.one (cI a3), V.one (cI a4)] [] [V.agg (bT_Reply r)] [] := by
 refine Gives.intro func154 rfl rfl rfl rfl ?_; refine fx fun w0 T S0 ob oh hm => ?_
 have hF := fxe w0 T S0 52 ob oh
 unfold I_asked_given at H; obtain ⟨K, hK⟩ := leK k; refine sr ?_; refine bo 31 ?_; refine bo 32 ?_; refine bo 33 ?_; refine alc 34 info64 (L.nil ?_); refine sr ?_; refine fa underlying76 info3 ?_; refine lp shape3 ?_; refine fa underlying76 info3 ?_; refine lp shape3 ?_; refine fa underlying130 info3 ?_; refine lp shape3 ?_; refine fa underlying76 info37 ?_; refine lp shape37 ?_; refine bf built80 ?_; refine alc 35 info80 ?_; refine sp shape80 (L.nil ?_); refine WpC.seq ?_; obtain ⟨r1, hr1, H⟩ := bindS H; obtain ⟨r2, hr2, H⟩ := bindS H; obtain ⟨r3, hr3, H⟩ := bindS H; obtain ⟨r4, hr4, H⟩ := bindS H
 refine A.lin (fun β => mkStL [(3, iI a3), (4, iI a4), (5, iP 31 0), (6, iP 32 0), (7, iP 33 0), (10, iP 34 0), (11, iP 35 0), (12, al (β 12) (one (cS r4))), (22, lP (β 0) 31 8), (23, al (β 1) (one (cI a0.nonce))), (24, al (β 2) (one (Cell.own 36))), (25, al (β 3) (one (cS r1))), (26, al (β 4) (agg (bT_Ticket g5 g6 a2))), (27, lI (β 5) a3), (28, al (β 6) (one (cS r2))), (29, al (β 7) (agg [cI a2.Key, cI a2.Service, cI a0.nonce, cI a2.Rest.Servers, cI a2.Rest.Ops, cI a2.Rest.End])), (30, lI (β 8) a4), (31, al (β 9) (one (cS r3))), (32, al (β 10) (one (Cell.own 40))), (33, al (β 11) (one (cS r4)))] [(36, al (β 2) (⟨1, List.map eI ([3, a0.nonce] : List Int)⟩)), (40, al (β 10) (⟨1, List.map eS ([r1, r2, r3] : List (List UInt8))⟩))] [(31, ai ((bT_asked g0 g1 g2 g3 g4 a0))), (32, ai ((bT_Event a1))), (33, ai ((bT_Ticket g5 g6 a2))), (34, ai (zc0)), (35, ai ([cI a2.Key, cI a2.Service, cI a0.nonce, cI a2.Rest.Servers, cI a2.Rest.Ops, cI a2.Rest.End]))] 42) [([], [1, 2, 3, 6, 9, 10, 11, 12]), ([0], [2, 3, 6, 9, 10, 11, 12]), ([0, 1], [3, 6, 9, 10, 11, 12]), ([0, 1, 2], [6, 9, 10, 11, 12]), ([], [6, 9, 10, 11, 12]), ([], [6, 9, 10, 11, 12]), ([0, 1, 2, 3, 4, 5], [9, 10, 11, 12]), ([], [9, 10, 11, 12]), ([], [9, 10, 11, 12]), ([0, 1, 2, 3, 4, 5, 6, 7, 8], [10, 11, 12]), ([0, 1, 2, 3, 4, 5, 6, 7, 8, 9], [11, 12]), ([0, 1, 2, 3, 4, 5, 6, 7, 8, 9, 10], [12]), ([0, 1, 2, 3, 4, 5, 6, 7, 8, 9, 10, 11], [])] 13 mixed rfl (by kernel_rfl) ?_ ?_ ?_
 ·exact Le.lin [] hm rfl (sa (sa2 (sa4 (kn (kn4 (kn8 kz)))))) (kn2 kz) (ba (ba (ba (ba (ba kz)))))
 ·repeat' (first | exact trivial | refine ⟨⟨_, rfl, fun β => ?_⟩, ?_⟩ | fail)
  ·refine fa underlying130 info3 ?_; exact lx [] hm
  ·refine lp shape3 ?_; exact lx [] hm
  ·refine L.buildSlice (e := eI) 42 ([3, a0.nonce] : List Int) underlying22 info3 rfl rfl rfl hF rfl rfl rfl rfl rfl rfl rfl rfl ?_; exact lx [(36, 42)] hm
  ·refine ca [false] [36] [] 42 ent186 (g186 k false ([3, a0.nonce] : List Int) r1 hr1) ?_; exact lx [(37, 42)] hm
  ·refine lp shape76 ?_; exact lx [] hm
  ·refine mv ?_; exact lx [] hm
  ·refine c0 42 ent174 (g174 k g5 g6 a2 a3 r2 hr2) ?_; exact lx [(38, 42)] hm
  ·refine lp shape80 ?_; exact lx [] hm
  ·refine mv ?_; exact lx [] hm
  ·refine c0 42 ent187 (g187 k  (⟨a2.Key, a2.Service, a0.nonce, a2.Rest⟩ : T_Grant) a4 r3 hr3) ?_; exact lx [(39, 42)] hm
  ·refine L.buildSlice (e := eS) 42 ([r1, r2, r3] : List (List UInt8)) underlying70 info9 rfl rfl rfl hF rfl rfl rfl rfl rfl rfl rfl rfl ?_; exact lx [(40, 42)] hm
  ·refine ca [false] [40] [] 42 ent185 (g185 k false ([r1, r2, r3] : List (List UInt8)) r4 hr4) ?_; exact lx [(41, 42)] hm
  ·refine ag ?_; exact lx [] hm
 refine ⟨_, (lm [(0, 31), (1, 32), (2, 33), (3, 34)] hm : Le _ _ (mkSt [(5, oP 0 0), (6, oP 1 0), (7, oP 2 0), (10, oP 3 0), (12, oS r4)] [] [(0, (bT_asked g0 g1 g2 g3 g4 a0)), (1, (bT_Event a1)), (2, (bT_Ticket g5 g6 a2)), (3, zc0)] 4)), ?_⟩; refine WpC.seq (sr ?_); refine mv ?_; refine L.binS hF rfl rfl rfl rfl rfl (L.nil ?_); refine cd H (fun hc H => ?_) (fun hc H => ?_)
 ·refine sr ?_; refine bf built64 ?_; refine sp shape64 (L.nil ?_); cases H; exact WpC.ret rt
 ·refine WpC.skip (sr ?_); refine fa underlying130 info3 ?_; refine lp shape3 ?_; refine fa underlying62 info3 ?_; refine sp shape3 (L.nil ?_); refine sr ?_; refine fa underlying76 info3 ?_; refine lp shape3 ?_; refine fa underlying62 info3 ?_; refine sp shape3 (L.nil ?_); refine sr ?_; refine fa underlying76 info3 ?_; refine lp shape3 ?_; refine fa underlying62 info3 ?_; refine sp shape3 (L.nil ?_); refine sr ?_; refine fa underlying76 info37 ?_; refine lp shape37 ?_; refine fa underlying62 info37 ?_; refine sp shape37 (L.nil ?_); refine sr ?_; refine mv ?_; refine lp shape62 ?_; refine bf built64 ?_; refine sp shape64 (L.nil ?_); cases H; exact WpC.ret rt
/-! ### I_asked_login -/
def I_asked_login.j2 (k : Nat) (v16 : Int) (v17 : List Int) (v18 : Bool) (v19 : T_asked) : Option T_Reply := cond v18 (some (⟨2, ([] : List UInt8), (⟨0, 0, 0, 0, 0, 0, 0, 0, (⟨0, 0, 0⟩ : T_Rest)⟩ : T_Event)⟩ : T_Reply)) ((at? v17 1).bind fun b20 => (I_apart k b20 v19.now).bind fun r21 => cond (decide (r21 > v19.c.Skew)) (some (⟨3, ([] : List UInt8), (⟨0, 0, 0, 0, 0, 0, 0, 0, (⟨0, 0, 0⟩ : T_Rest)⟩ : T_Event)⟩ : T_Reply)) (cond (decide ((IntKind.i64.wrap (v19.now + 50)) > 100000)) (some (⟨4, ([] : List UInt8), (⟨0, 0, 0, 0, 0, 0, 0, 0, (⟨0, 0, 0⟩ : T_Rest)⟩ : T_Event)⟩ : T_Reply)) ((I_CentreKey k v19.realm).bind fun r22 => (I_PrincipalKey k v16).bind fun r23 => (I_asked_given k v19 (⟨1, 0, v16, v16, 0, 0, 0, 0, (⟨0, 0, 0⟩ : T_Rest)⟩ : T_Event) (⟨v16, (IntKind.i64.wrap (10 + v19.realm)), v19.fresh, (⟨7, 255, (IntKind.i64.wrap (v19.now + 50))⟩ : T_Rest), [], []⟩ : T_Ticket) r22 r23).bind fun r24 => some r24)))
def I_asked_login (k : Nat) (a0 : T_asked) (a1 : Int) : Option T_Reply := (at? a0.parts 1).bind fun b1 => (I_PrincipalKey k a1).bind fun r2 => (I_Open k b1 r2).bind fun r3 => (I_ReadNums k r3.1).bind fun r4 => (I_RealmOf k a0.c a1).bind fun r14 => cond (r14 != a0.realm) (some (⟨1, ([] : List UInt8), (⟨0, 0, 0, 0, 0, 0, 0, 0, (⟨0, 0, 0⟩ : T_Rest)⟩ : T_Event)⟩ : T_Reply)) (cond (!r3.2) (I_asked_login.j2 k a1 r4.1 true a0) (cond (!r4.2) (I_asked_login.j2 k a1 r4.1 true a0) (cond ((r4.1.length : Int) != 2) (I_asked_login.j2 k a1 r4.1 true a0) ((at? r4.1 0).bind fun b25 => I_asked_login.j2 k a1 r4.1 (b25 != 8) a0))))
theorem ent93 : MG.Enters Tryz.prog 93 := ⟨Tryz.f93, func93, rfl, by decide⟩
theorem g93 (k : Nat) (g0 g1 g2 g3 g4 : Bool) (a0 : T_asked) (a1 : Int) (r : T_Reply) (H : I_asked_login k a0 a1 = some r) : Gives Tryz.prog 93 [V.agg (bT_asked g0 g1 g2 g3 g4 a0), V.one (cI a1)] [] [V.agg (bT_Reply r)] [] := by
 refine Gives.intro func93 rfl rfl rfl rfl ?_; refine fx fun w0 T S0 ob oh hm => ?_
 have hF := fxe w0 T S0 93 ob oh
 unfold I_asked_login at H; obtain ⟨K, hK⟩ := leK k; refine sr ?_; refine bo 11 ?_; refine alc 12 info64 (L.nil ?_); refine WpC.seq ?_; obtain ⟨b1, hb1, H⟩ := bindS H; obtain ⟨r2, hr2, H⟩ := bindS H; obtain ⟨r3, hr3, H⟩ := bindS H
 refine A.lin (fun β => mkStL [(1, iI a1), (2, iP 11 0), (4, iP 12 0), (5, al (β 10) (one (cS r3.1))), (6, al (β 11) (one (cL r3.2))), (10, al (β 7) (Slot.tup [V.one (cS r3.1), V.one (cL r3.2)])), (11, lP (β 0) 11 9), (12, al (β 1) (one (Cell.sl g4 (List.map eS a0.parts)))), (13, al (β 2) (one (Cell.pe g4 (eS b1) 0))), (14, al (β 3) (one (cS b1))), (15, lI (β 4) a1), (16, lI (β 5) r2), (17, al (β 6) (Slot.tup [V.one (cS r3.1), V.one (cL r3.2)])), (18, al (β 8) (one (cS r3.1))), (19, al (β 9) (one (cL r3.2)))] [] [(11, ai ((bT_asked g0 g1 g2 g3 g4 a0))), (12, ai (zc0))] 16) [([], [1, 2, 3, 6, 7, 8, 9, 10, 11]), ([0], [2, 3, 6, 7, 8, 9, 10, 11]), ([0, 1], [3, 6, 7, 8, 9, 10, 11]), ([0, 1, 2], [6, 7, 8, 9, 10, 11]), ([], [5, 6, 7, 8, 9, 10, 11]), ([4], [6, 7, 8, 9, 10, 11]), ([0, 1, 2, 3, 4, 5], [7, 8, 9, 10, 11]), ([0, 1, 2, 3, 4, 5, 6], [8, 9, 10, 11]), ([0, 1, 2, 3, 4, 5, 6, 7], [10, 11]), ([0, 1, 2, 3, 4, 5, 6, 7], [11]), ([0, 1, 2, 3, 4, 5, 6, 7, 8], [11]), ([0, 1, 2, 3, 4, 5, 6, 7, 8, 9, 10], [])] 12 mixed rfl (by kernel_rfl) ?_ ?_ ?_
 ·exact Le.lin [] hm rfl (sa (sa2 (kn4 (kn8 kz)))) kz (ba (ba kz))
 ·repeat' (first | exact trivial | refine ⟨⟨_, rfl, fun β => ?_⟩, ?_⟩ | fail)
  ·refine fa underlying130 info70 ?_; exact lx [] hm
  ·refine lp shape70 ?_; exact lx [] hm
  ·refine ix underlying70 info9 hb1 ?_; exact lx [] hm
  ·refine le shape9 ?_; exact lx [] hm
  ·refine mv ?_; exact lx [] hm
  ·refine c0 16 ent119 (g119 k  a1 r2 hr2) ?_; exact lx [(13, 16)] hm
  ·refine c0 16 ent152 (g152 k  b1 r2 r3 hr3) ?_; exact lx [(14, 16), (15, 17)] hm
  ·refine mv ?_; exact lx [] hm
  ·refine ex ?_; exact lx [] hm
  ·refine ex ?_; exact lx [] hm
  ·refine ag ?_; exact lx [] hm
  ·refine ag ?_; exact lx [] hm
 refine ⟨_, (lm [(0, 11), (1, 12)] hm : Le _ _ (mkSt [(1, oI a1), (2, oP 0 0), (4, oP 1 0), (5, oS r3.1), (6, oL r3.2)] [] [(0, (bT_asked g0 g1 g2 g3 g4 a0)), (1, zc0)] 2)), ?_⟩; refine sr ?_; refine mv ?_; obtain ⟨r4, hr4, H⟩ := bindS H; refine c0 2 ent91 (g91 k  r3.1 r4 hr4) ?_; refine mv ?_; refine ex ?_; refine ex ?_; refine ag ?_; refine ag (L.nil ?_); refine WpC.seq (WpC.block (WpC.seq ?_)); obtain ⟨r14, hr14, H⟩ := bindS H
 refine A.lin (fun β => mkStL [(1, iI a1), (2, iP 0 0), (4, iP 1 0), (6, ai (one (cL r3.2))), (7, ai (one (Cell.own 2))), (8, ai (one (cL r4.2))), (25, al (β 7) (one (cL (r14 != a0.realm)))), (26, lP (β 0) 0 0), (27, al (β 1) (agg (bT_Config g0 g1 g2 g3 a0.c))), (28, lI (β 2) a1), (29, lI (β 3) r14), (30, lP (β 4) 0 5), (31, al (β 5) (one (cI a0.realm))), (32, al (β 6) (one (cL (r14 != a0.realm))))] [(2, ai (⟨1, List.map eI r4.1⟩))] [(0, ai ((bT_asked g0 g1 g2 g3 g4 a0))), (1, ai (zc0))] 5) [([], [1, 3, 6, 7]), ([0], [3, 6, 7]), ([], [3, 6, 7]), ([0, 1, 2], [6, 7]), ([], [5, 6, 7]), ([4], [6, 7]), ([0, 1, 2, 3, 4, 5], [7]), ([0, 1, 2, 3, 4, 5, 6], [])] 8 mixed rfl (by kernel_rfl) ?_ ?_ ?_
 ·exact Le.lin [] hm rfl (sa2 (sa4 (kn8 kz))) (ra kz) (ba (ba kz))
 ·repeat' (first | exact trivial | refine ⟨⟨_, rfl, fun β => ?_⟩, ?_⟩ | fail)
  ·refine fa underlying130 info44 ?_; exact lx [] hm
  ·refine lp shape44 ?_; exact lx [] hm
  ·refine mv ?_; exact lx [] hm
  ·refine c0 5 ent153 (g153 k g0 g1 g2 g3 a0.c a1 r14 hr14) ?_; exact lx [(4, 5)] hm
  ·refine fa underlying130 info3 ?_; exact lx [] hm
  ·refine lp shape3 ?_; exact lx [] hm
  ·refine bi ?_; exact lx [] hm
  ·refine ag ?_; exact lx [] hm
 refine ⟨_, (lm [(0, 0), (1, 1), (2, 2)] hm : Le _ _ (mkSt [(1, oI a1), (2, oP 0 0), (4, oP 1 0), (6, oL r3.2), (7, one (Cell.own 2)), (8, oL r4.2), (25, oL (r14 != a0.realm))] [(2, ⟨1, List.map eI r4.1⟩)] [(0, (bT_asked g0 g1 g2 g3 g4 a0)), (1, zc0)] 3)), ?_⟩; refine cd H (fun hc H => ?_) (fun hc H => ?_)
 ·refine sr ?_; refine bf built64 ?_; refine sp shape64 (L.nil ?_); cases H; exact WpC.ret rt
 ·refine WpC.join (fun σ => ∃ (kj2 : Nat) (v16 : Int) (v17 : List Int) (v18 : Bool) (v19 : T_asked), kj2 ≤ K ∧ I_asked_login.j2 kj2 v16 v17 v18 v19 = some r ∧ σ = mkSt [(1, oI v16), (2, oP 0 0), (4, oP 1 0), (7, one (Cell.own 2)), (34, oL v18)] [(2, ⟨1, List.map eI v17⟩)] [(0, (bT_asked g0 g1 g2 g3 g4 v19)), (1, zc0)] 3) ?_ ?_
  ·rintro _ ⟨kj2, v16, v17, v18, v19, hkj2, H, rfl⟩
   unfold I_asked_login.j2 at H; refine cd H (fun hc H => ?_) (fun hc H => ?_)
   ·refine sr ?_; refine bf built64 ?_; refine sp shape64 (L.nil ?_); cases H; exact WpC.ret rt
   ·refine WpC.seq ?_; obtain ⟨b20, hb20, H⟩ := bindS H; obtain ⟨r21, hr21, H⟩ := bindS H; refine A.lin (fun β => mkStL [(1, iI v16), (2, iP 0 0), (4, iP 1 0), (7, ai (one (Cell.own 2))), (53, al (β 10) (one (cL (decide (r21 > v19.c.Skew))))), (54, al (β 0) (one (Cell.own 2))), (55, al (β 1) (one (Cell.ep 2 ((1 : Int).toNat) 0))), (56, lI (β 2) b20), (57, lP (β 3) 0 6), (58, al (β 4) (one (cI v19.now))), (59, lI (β 5) r21), (60, lP (β 6) 0 0), (61, lP (β 7) 0 4), (62, al (β 8) (one (cI v19.c.Skew))), (63, al (β 9) (one (cL (decide (r21 > v19.c.Skew)))))] [(2, ai (⟨1, List.map eI v17⟩))] [(0, ai ((bT_asked g0 g1 g2 g3 g4 v19))), (1, ai (zc0))] 4) [([], [1, 2, 5, 9, 10]), ([0], [2, 5, 9, 10]), ([0, 1], [5, 9, 10]), ([], [4, 5, 9, 10]), ([3], [5, 9, 10]), ([0, 1, 2, 3, 4], [9, 10]), ([], [7, 8, 9, 10]), ([6], [8, 9, 10]), ([6, 7], [9, 10]), ([0, 1, 2, 3, 4, 5, 6, 7, 8], [10]), ([0, 1, 2, 3, 4, 5, 6, 7, 8, 9], [])] 11 mixed rfl (by kernel_rfl) ?_ ?_ ?_
    ·exact Le.lin [] hm rfl (sa4 (kn (kn2 (kn8 kz)))) (ra kz) (ba (ba kz))
    ·repeat' (first | exact trivial | refine ⟨⟨_, rfl, fun β => ?_⟩, ?_⟩ | fail)
     ·refine mv ?_; exact lx [] hm
     ·refine ix underlying22 info3 hb20 ?_; exact lx [] hm
     ·refine L.loadEp (xs := v17) (e := eI) shape3 hF rfl rfl rfl rfl (at?_get hb20).2 rfl rfl ?_; exact lx [] hm
     ·refine fa underlying130 info3 ?_; exact lx [] hm
     ·refine lp shape3 ?_; exact lx [] hm
     ·refine c0 4 ent123 (g123 kj2  b20 v19.now r21 hr21) ?_; exact lx [(3, 4)] hm
     ·refine fa underlying130 info44 ?_; exact lx [] hm
     ·refine fa underlying44 info3 ?_; exact lx [] hm
     ·refine lp shape3 ?_; exact lx [] hm
     ·refine bi ?_; exact lx [] hm
     ·refine ag ?_; exact lx [] hm
    refine ⟨_, (lm [(0, 0), (1, 1)] hm : Le _ _ (mkSt [(1, oI v16), (2, oP 0 0), (4, oP 1 0), (53, one (cL (decide (r21 > v19.c.Skew))))] [] [(0, (bT_asked g0 g1 g2 g3 g4 v19)), (1, zc0)] 2)), ?_⟩; refine cd H (fun hc H => ?_) (fun hc H => ?_)
    ·refine sr ?_; refine bf built64 ?_; refine sp shape64 (L.nil ?_); cases H; exact WpC.ret rt
    ·refine sr ?_; refine fa underlying130 info3 ?_; refine lp shape3 ?_; refine bi ?_; refine bi ?_; refine ag (L.nil ?_); refine cd H (fun hc H => ?_) (fun hc H => ?_)
     ·refine sr ?_; refine bf built64 ?_; refine sp shape64 (L.nil ?_); cases H; exact WpC.ret rt
     ·refine WpC.skip (sr ?_); refine mv ?_; refine fa underlying130 info3 ?_; refine lp shape3 ?_; refine bi ?_; refine fa underlying130 info3 ?_; refine lp shape3 ?_; refine fa underlying130 info3 ?_; refine lp shape3 ?_; refine bi ?_; refine bf built37 ?_; refine bf built76 ?_; refine alc 2 info76 ?_; refine sp shape76 (L.nil ?_); refine WpC.seq ?_; obtain ⟨r22, hr22, H⟩ := bindS H; obtain ⟨r23, hr23, H⟩ := bindS H; obtain ⟨r24, hr24, H⟩ := bindS H
      refine A.lin (fun β => mkStL [(1, iI v16), (2, iP 0 0), (4, iP 1 0), (9, iP 2 0), (82, al (β 0) (agg (bT_asked g0 g1 g2 g3 g4 v19))), (83, lI (β 1) v16), (84, lI (β 2) v16), (85, al (β 3) (agg [cI 1, cI 0, cI v16, cI v16, cI 0, cI 0, cI 0, cI 0, cI 0, cI 0, cI 0])), (86, al (β 4) (agg [cI v16, cI (IntKind.i64.wrap (10 + v19.realm)), cI v19.fresh, cI 7, cI 255, cI (IntKind.i64.wrap (v19.now + 50)), Cell.nil, Cell.nil])), (87, lP (β 5) 0 5), (88, al (β 6) (one (cI v19.realm))), (89, lI (β 7) r22), (90, lI (β 8) v16), (91, lI (β 9) r23), (92, al (β 10) (agg (bT_Reply r24)))] [] [(0, ai ((bT_asked g0 g1 g2 g3 g4 v19))), (1, [(β 11, some ((bT_Reply r24))), (true, some (zc0))]), (2, ai ([cI v16, cI (IntKind.i64.wrap (10 + v19.realm)), cI v19.fresh, cI 7, cI 255, cI (IntKind.i64.wrap (v19.now + 50)), Cell.nil, Cell.nil]))] 18) [([], [10, 11]), ([], [3, 10, 11]), ([], [3, 10, 11]), ([1, 2], [10, 11]), ([], [10, 11]), ([], [6, 7, 9, 10, 11]), ([5], [7, 9, 10, 11]), ([5, 6], [9, 10, 11]), ([], [9, 10, 11]), ([5, 6, 7, 8], [10, 11]), ([0, 1, 2, 3, 4, 5, 6, 7, 8, 9], [11]), ([0, 1, 2, 3, 4, 5, 6, 7, 8, 9, 10], [])] 12 mixed rfl (by kernel_rfl) ?_ ?_ ?_
      ·exact Le.lin [] hm rfl (sa4 (kn (kn2 (kn8 kz)))) kz (ba (ba (ba kz)))
      ·repeat' (first | exact trivial | refine ⟨⟨_, rfl, fun β => ?_⟩, ?_⟩ | fail)
       ·refine lp shape130 ?_; exact lx [] hm
       ·refine mv ?_; exact lx [] hm
       ·refine mv ?_; exact lx [] hm
       ·refine bf built62 ?_; exact lx [] hm
       ·refine lp shape76 ?_; exact lx [] hm
       ·refine fa underlying130 info3 ?_; exact lx [] hm
       ·refine lp shape3 ?_; exact lx [] hm
       ·refine c0 18 ent155 (g155 kj2  v19.realm r22 hr22) ?_; exact lx [(3, 18)] hm
       ·refine mv ?_; exact lx [] hm
       ·refine c0 18 ent119 (g119 kj2  v16 r23 hr23) ?_; exact lx [(4, 18)] hm
       ·refine c0 18 ent154 (g154 kj2 g0 g1 g2 g3 g4 true true v19 (⟨1, 0, v16, v16, 0, 0, 0, 0, (⟨0, 0, 0⟩ : T_Rest)⟩ : T_Event) (⟨v16, (IntKind.i64.wrap (10 + v19.realm)), v19.fresh, (⟨7, 255, (IntKind.i64.wrap (v19.now + 50))⟩ : T_Rest), [], []⟩ : T_Ticket) r22 r23 r24 hr24) ?_; exact lx [(5, 18), (6, 19), (7, 20), (8, 21), (9, 22), (10, 23), (11, 24), (12, 25), (13, 26), (14, 27), (15, 28), (16, 29), (17, 30)] hm
       ·refine sp shape64 ?_; exact lx [] hm
      refine ⟨_, (lm [(0, 1)] hm : Le _ _ (mkSt [(4, oP 0 0)] [] [(0, (bT_Reply r24))] 1)), ?_⟩; cases H; exact WpC.ret rt
  ·refine WpC.regionL ?_; refine mv ?_; refine nt ?_; refine mv ?_; refine sH H (fun hc H => ?_) (fun hc H => ?_)
   ·(repeat refine of ?_); refine pk ?_; refine mv ?_; (repeat refine of ?_); refine pk ?_; refine mv ?_; (repeat refine of ?_); refine pk ?_; refine ag (L.nil ?_); exact ⟨_, ⟨k, a1, r4.1, true, a0, by omega, H, rfl⟩, lm [(0, 0), (1, 1), (2, 2)] hm⟩
   ·refine mv ?_; refine nt ?_; refine pk ?_; refine mv ?_; refine sH H (fun hc H => ?_) (fun hc H => ?_)
    ·(repeat refine of ?_); refine pk ?_; refine mv ?_; (repeat refine of ?_); refine pk ?_; refine ag (L.nil ?_); exact ⟨_, ⟨k, a1, r4.1, true, a0, by omega, H, rfl⟩, lm [(0, 0), (1, 1), (2, 2)] hm⟩
    ·refine mv ?_; refine L.lenR (xs := r4.1) (e := eI) underlying22 hF rfl rfl rfl rfl ?_; refine bi ?_; refine pk ?_; refine mv ?_; refine sH H (fun hc H => ?_) (fun hc H => ?_)
     ·(repeat refine of ?_); refine pk ?_; refine ag (L.nil ?_); exact ⟨_, ⟨k, a1, r4.1, true, a0, by omega, H, rfl⟩, lm [(0, 0), (1, 1), (2, 2)] hm⟩
     ·refine mv ?_; obtain ⟨b25, hb25, H⟩ := bindS H; refine ix underlying22 info3 hb25 ?_; refine L.loadEp (xs := r4.1) (e := eI) shape3 hF rfl rfl rfl rfl (at?_get hb25).2 rfl rfl ?_; refine bi ?_; refine pk ?_; refine ag (L.nil ?_); exact ⟨_, ⟨k, a1, r4.1, (b25 != 8), a0, by omega, H, rfl⟩, lm [(0, 0), (1, 1), (2, 2)] hm⟩
/-! ### I_ReadRest -/
def I_ReadRest.j2 (k : Nat) (v4 : List Int) (v5 : Bool) : Option (T_Rest × Bool) := cond v5 (some ((⟨0, 0, 0⟩ : T_Rest), false)) ((at? v4 0).bind fun b6 => (at? v4 1).bind fun b7 => (at? v4 2).bind fun b8 => (I_RestOk k (⟨b6, b7, b8⟩ : T_Rest)).bind fun r10 => cond (!r10) (some ((⟨0, 0, 0⟩ : T_Rest), false)) (some ((⟨b6, b7, b8⟩ : T_Rest), true)))
def I_ReadRest (k : Nat) (a0 : List UInt8) : Option (T_Rest × Bool) := (I_ReadNums k a0).bind fun r1 => cond (!r1.2) (I_ReadRest.j2 k r1.1 true) (I_ReadRest.j2 k r1.1 ((r1.1.length : Int) != 3))
theorem ent156 : MG.Enters Tryz.prog 156 := ⟨Tryz.f156, func156, rfl, by decide⟩
theorem g156 (k : Nat) (a0 : List UInt8) (r : T_Rest × Bool) (H : I_ReadRest k a0 = some r) : Gives Tryz.prog 156 [V.one (cS a0)] [] [V.agg (bT_Rest r.1), V.one (cL r.2)] [] := by
 refine Gives.intro func156 rfl rfl rfl rfl ?_; refine fx fun w0 T S0 ob oh hm => ?_
 have hF := fxe w0 T S0 35 ob oh
 unfold I_ReadRest at H; obtain ⟨K, hK⟩ := leK k; refine sr ?_; refine alc 1 info37 ?_; refine ag (L.nil ?_); refine sr ?_; refine mv ?_; obtain ⟨r1, hr1, H⟩ := bindS H; refine c0 2 ent91 (g91 k  a0 r1 hr1) ?_; refine mv ?_; refine ex ?_; refine ex ?_; refine ag ?_; refine ag (L.nil ?_); refine WpC.seq ?_; refine WpC.join (fun σ => ∃ (kj2 : Nat) (v4 : List Int) (v5 : Bool), kj2 ≤ K ∧ I_ReadRest.j2 kj2 v4 v5 = some r ∧ σ = mkSt [(2, oP 0 0), (4, one (Cell.own 1)), (18, oL v5)] [(1, ⟨1, List.map eI v4⟩)] [(0, [cI 0, cI 0, cI 0])] 2) ?_ ?_
 ·rintro _ ⟨kj2, v4, v5, hkj2, H, rfl⟩
  unfold I_ReadRest.j2 at H; refine cd H (fun hc H => ?_) (fun hc H => ?_)
  ·refine sr ?_; refine bf built37 ?_; refine sp shape37 ?_; refine ag (L.nil ?_); cases H; exact WpC.ret rt
  ·refine WpC.skip (WpC.seq ?_); obtain ⟨b6, hb6, H⟩ := bindS H; obtain ⟨b7, hb7, H⟩ := bindS H; obtain ⟨b8, hb8, H⟩ := bindS H; refine A.lin (fun β => mkStL [(2, iP 0 0), (4, ai (one (Cell.own 1))), (6, lP (β 10) 2 0), (20, al (β 0) (one (Cell.own 1))), (21, al (β 1) (one (Cell.ep 1 ((0 : Int).toNat) 0))), (22, lI (β 2) b6), (23, al (β 3) (one (Cell.own 1))), (24, al (β 4) (one (Cell.ep 1 ((1 : Int).toNat) 0))), (25, lI (β 5) b7), (26, al (β 6) (one (Cell.own 1))), (27, al (β 7) (one (Cell.ep 1 ((2 : Int).toNat) 0))), (28, lI (β 8) b8), (29, al (β 9) (agg [cI b6, cI b7, cI b8]))] [(1, ai (⟨1, List.map eI v4⟩))] [(0, ai ([cI 0, cI 0, cI 0])), (2, [(β 11, some ([cI b6, cI b7, cI b8])), (β 10, some ([cI 0, cI 0, cI 0]))])] 3) [([], [1, 2, 9, 11]), ([0], [2, 9, 11]), ([0, 1], [9, 11]), ([], [4, 5, 9, 11]), ([3], [5, 9, 11]), ([3, 4], [9, 11]), ([], [7, 8, 9, 11]), ([6], [8, 9, 11]), ([6, 7], [9, 11]), ([0, 1, 2, 3, 4, 5, 6, 7, 8], [11]), ([], [11]), ([0, 1, 2, 3, 4, 5, 6, 7, 8, 9, 10], [])] 12 mixed rfl (by kernel_rfl) ?_ ?_ ?_
   ·exact Le.lin [] hm rfl (sa2 (kn (kn2 (kn8 kz)))) (ra kz) (ba (kn kz))
   ·repeat' (first | exact trivial | refine ⟨⟨_, rfl, fun β => ?_⟩, ?_⟩ | fail)
    ·refine mv ?_; exact lx [] hm
    ·refine ix underlying22 info3 hb6 ?_; exact lx [] hm
    ·refine L.loadEp (xs := v4) (e := eI) shape3 hF rfl rfl rfl rfl (at?_get hb6).2 rfl rfl ?_; exact lx [] hm
    ·refine mv ?_; exact lx [] hm
    ·refine ix underlying22 info3 hb7 ?_; exact lx [] hm
    ·refine L.loadEp (xs := v4) (e := eI) shape3 hF rfl rfl rfl rfl (at?_get hb7).2 rfl rfl ?_; exact lx [] hm
    ·refine mv ?_; exact lx [] hm
    ·refine ix underlying22 info3 hb8 ?_; exact lx [] hm
    ·refine L.loadEp (xs := v4) (e := eI) shape3 hF rfl rfl rfl rfl (at?_get hb8).2 rfl rfl ?_; exact lx [] hm
    ·refine bf built37 ?_; exact lx [] hm
    ·refine alc 3 info37 ?_; exact lx [(2, 3)] hm
    ·refine sp shape37 ?_; exact lx [] hm
   refine ⟨_, (lm [(0, 0), (1, 2)] hm : Le _ _ (mkSt [(2, oP 0 0), (6, oP 1 0)] [] [(0, [cI 0, cI 0, cI 0]), (1, [cI b6, cI b7, cI b8])] 2)), ?_⟩; refine WpC.seq (sr ?_); refine lp shape37 ?_; obtain ⟨r10, hr10, H⟩ := bindS H; refine c0 2 ent121 (g121 kj2  (⟨b6, b7, b8⟩ : T_Rest) r10 hr10) ?_; refine nt (L.nil ?_); refine cd H (fun hc H => ?_) (fun hc H => ?_)
   ·refine sr ?_; refine bf built37 ?_; refine sp shape37 ?_; refine ag (L.nil ?_); cases H; exact WpC.ret rt
   ·refine WpC.skip (sr ?_); refine lp shape37 ?_; refine sp shape37 ?_; refine ag (L.nil ?_); cases H; exact WpC.ret rt
 ·refine WpC.regionL ?_; refine mv ?_; refine nt ?_; refine mv ?_; refine sH H (fun hc H => ?_) (fun hc H => ?_)
  ·(repeat refine of ?_); refine pk (L.nil ?_); exact ⟨_, ⟨k, r1.1, true, by omega, H, rfl⟩, lm [(0, 1), (1, 2)] hm⟩
  ·refine mv ?_; refine L.lenR (xs := r1.1) (e := eI) underlying22 hF rfl rfl rfl rfl ?_; refine bi ?_; refine pk (L.nil ?_); exact ⟨_, ⟨k, r1.1, ((r1.1.length : Int) != 3), by omega, H, rfl⟩, lm [(0, 1), (1, 2)] hm⟩
/-! ### I_ReadKey -/
def I_ReadKey (k : Nat) (a0 : List UInt8) : Option (Int × Bool) := (I_isOf k a0 (107 : UInt8)).bind fun r2 => cond (!r2) (some (0, false)) ((I_varAt k a0 1).bind fun r3 => some (r3.1, true))
theorem ent173 : MG.Enters Tryz.prog 173 := ⟨Tryz.f173, func173, rfl, by decide⟩
theorem g173 (k : Nat) (a0 : List UInt8) (r : Int × Bool) (H : I_ReadKey k a0 = some r) : Gives Tryz.prog 173 [V.one (cS a0)] [] [V.one (cI r.1), V.one (cL r.2)] [] := by
 refine Gives.intro func173 rfl rfl rfl rfl ?_; refine fx fun w0 T S0 ob oh hm => ?_
 have hF := fxe w0 T S0 15 ob oh
 unfold I_ReadKey at H; obtain ⟨K, hK⟩ := leK k; refine sr ?_; refine ag ?_; refine ag (L.nil ?_); refine WpC.seq (sr ?_); refine mv ?_; obtain ⟨r2, hr2, H⟩ := bindS H; refine c0 1 ent148 (g148 k  a0 (107 : UInt8) r2 hr2) ?_; refine nt (L.nil ?_); refine cd H (fun hc H => ?_) (fun hc H => ?_)
 ·refine sr ?_; refine ag ?_; refine ag (L.nil ?_); cases H; exact WpC.ret rt
 ·refine WpC.skip (sr ?_); refine mv ?_; obtain ⟨r3, hr3, H⟩ := bindS H; refine c0 2 ent149 (g149 k  a0 1 r3 hr3) ?_; refine mv ?_; refine ex ?_; refine ex ?_; refine ag ?_; refine ag (L.nil ?_); refine sr ?_; refine mv ?_; refine ag ?_; refine ag (L.nil ?_); cases H; exact WpC.ret rt
/-! ### I_ReadTicket -/
def I_ReadTicket (k : Nat) (a0 : List UInt8) (a1 : Int) : Option (T_Ticket × Bool) := (I_Open k a0 a1).bind fun r1 => (I_Parts k r1.1).bind fun r2 => cond ((r2.1.length : Int) != 5) (some ((⟨0, 0, 0, (⟨0, 0, 0⟩ : T_Rest), [], []⟩ : T_Ticket), false)) ((at? r2.1 0).bind fun b3 => (I_ReadNums k b3).bind fun r4 => cond ((r4.1.length : Int) != 2) (some ((⟨0, 0, 0, (⟨0, 0, 0⟩ : T_Rest), [], []⟩ : T_Ticket), false)) ((at? r4.1 0).bind fun b5 => (at? r4.1 1).bind fun b6 => (at? r2.1 1).bind fun b7 => (I_ReadKey k b7).bind fun r8 => (at? r2.1 2).bind fun b9 => (I_ReadRest k b9).bind fun r10 => (at? r2.1 3).bind fun b11 => (I_ReadNums k b11).bind fun r12 => (at? r2.1 4).bind fun b13 => (I_ReadNums k b13).bind fun r14 => (I_ShowTicket k (⟨b5, b6, r8.1, r10.1, r12.1, r14.1⟩ : T_Ticket) a1).bind fun r16 => cond (r16 != a0) (some ((⟨0, 0, 0, (⟨0, 0, 0⟩ : T_Rest), [], []⟩ : T_Ticket), false)) (some ((⟨b5, b6, r8.1, r10.1, r12.1, r14.1⟩ : T_Ticket), true))))
theorem ent118 : MG.Enters Tryz.prog 118 := ⟨Tryz.f118, func118, rfl, by decide⟩
theorem g118 (k : Nat) (a0 : List UInt8) (a1 : Int) (r : T_Ticket × Bool) (H : I_ReadTicket k a0 a1 = some r) : Gives Tryz.prog 118 [V.one (cS a0), V.one (cI a1)] [] [V.agg [cI r.1.Client, cI r.1.Service, cI r.1.Key, cI r.1.Rest.Servers, cI r.1.Rest.Ops, cI r.1.Rest.End, Cell.ow 1 (List.map eI r.1.Path), Cell.ow 1 (List.map eI r.1.Via)], V.one (cL r.2)] [] := by
 refine Gives.intro func118 rfl rfl rfl rfl ?_; refine fx fun w0 T S0 ob oh hm => ?_
 have hF := fxe w0 T S0 85 ob oh
 unfold I_ReadTicket at H; obtain ⟨K, hK⟩ := leK k; refine sr ?_; refine alc 2 info76 ?_; refine ag (L.nil ?_); refine sr ?_; refine mv ?_; refine mv ?_; obtain ⟨r1, hr1, H⟩ := bindS H; refine c0 3 ent152 (g152 k  a0 a1 r1 hr1) ?_; refine mv ?_; refine ex ?_; refine ex ?_; refine ag ?_; refine ag (L.nil ?_); refine sr ?_; refine mv ?_; obtain ⟨r2, hr2, H⟩ := bindS H; refine c0 5 ent88 (g88 k  r1.1 r2 hr2) ?_; refine mv ?_; refine ex ?_; refine ex ?_; refine ag ?_; refine ag (L.nil ?_); refine WpC.seq (sr ?_); refine mv ?_; refine L.lenR (xs := r2.1) (e := eS) underlying70 hF rfl rfl rfl rfl ?_; refine bi (L.nil ?_); refine cd H (fun hc H => ?_) (fun hc H => ?_)
 ·refine sr ?_; refine bf built76 ?_; refine sp shape76 ?_; refine ag (L.nil ?_); refine WpC.le (Le.ownB 2 6 7 1 rfl rfl rfl) ?_; refine WpC.le (Le.ownB 2 7 8 1 rfl rfl rfl) ?_; cases H; exact WpC.ret rt
 ·refine WpC.skip (sr ?_); refine mv ?_; obtain ⟨b3, hb3, H⟩ := bindS H; refine ix underlying70 info9 hb3 ?_; refine L.loadEp (xs := r2.1) (e := eS) shape9 hF rfl rfl rfl rfl (at?_get hb3).2 rfl rfl ?_; obtain ⟨r4, hr4, H⟩ := bindS H; refine c0 7 ent91 (g91 k  b3 r4 hr4) ?_; refine mv ?_; refine ex ?_; refine ex ?_; refine ag ?_; refine ag (L.nil ?_); refine WpC.seq (sr ?_); refine mv ?_; refine L.lenR (xs := r4.1) (e := eI) underlying22 hF rfl rfl rfl rfl ?_; refine bi (L.nil ?_); refine cd H (fun hc H => ?_) (fun hc H => ?_)
  ·refine sr ?_; refine bf built76 ?_; refine sp shape76 ?_; refine ag (L.nil ?_); refine WpC.le (Le.ownB 2 6 9 1 rfl rfl rfl) ?_; refine WpC.le (Le.ownB 2 7 10 1 rfl rfl rfl) ?_; cases H; exact WpC.ret rt
  ·refine WpC.skip (WpC.seq ?_); obtain ⟨b5, hb5, H⟩ := bindS H; obtain ⟨b6, hb6, H⟩ := bindS H; refine A.lin (fun β => mkStL [(0, ai (one (cS a0))), (1, iI a1), (4, iP 2 0), (8, ai (one (Cell.own 5))), (10, ai (one (Cell.own 7))), (12, lP (β 7) 9 0), (39, al (β 0) (one (Cell.own 7))), (40, al (β 1) (one (Cell.ep 7 ((0 : Int).toNat) 0))), (41, lI (β 2) b5), (42, al (β 3) (one (Cell.own 7))), (43, al (β 4) (one (Cell.ep 7 ((1 : Int).toNat) 0))), (44, lI (β 5) b6), (45, al (β 6) (agg [cI b5, cI b6, cI 0, cI 0, cI 0, cI 0, Cell.nil, Cell.nil]))] [(5, ai (⟨1, List.map eS r2.1⟩)), (7, ai (⟨1, List.map eI r4.1⟩))] [(2, ai (zc1)), (9, [(β 8, some ([cI b5, cI b6, cI 0, cI 0, cI 0, cI 0, Cell.nil, Cell.nil])), (β 7, some (zc1))])] 10) [([], [1, 2, 6, 8]), ([0], [2, 6, 8]), ([0, 1], [6, 8]), ([], [4, 5, 6, 8]), ([3], [5, 6, 8]), ([3, 4], [6, 8]), ([0, 1, 2, 3, 4, 5], [8]), ([], [8]), ([0, 1, 2, 3, 4, 5, 6, 7], [])] 9 mixed rfl (by kernel_rfl) ?_ ?_ ?_
   ·exact Le.lin [] hm rfl (sa (sa4 (kn8 kz))) (ra (ra kz)) (ba (kn kz))
   ·repeat' (first | exact trivial | refine ⟨⟨_, rfl, fun β => ?_⟩, ?_⟩ | fail)
    ·refine mv ?_; exact lx [] hm
    ·refine ix underlying22 info3 hb5 ?_; exact lx [] hm
    ·refine L.loadEp (xs := r4.1) (e := eI) shape3 hF rfl rfl rfl rfl (at?_get hb5).2 rfl rfl ?_; exact lx [] hm
    ·refine mv ?_; exact lx [] hm
    ·refine ix underlying22 info3 hb6 ?_; exact lx [] hm
    ·refine L.loadEp (xs := r4.1) (e := eI) shape3 hF rfl rfl rfl rfl (at?_get hb6).2 rfl rfl ?_; exact lx [] hm
    ·refine bf built76 ?_; exact lx [] hm
    ·refine alc 10 info76 ?_; exact lx [(9, 10)] hm
    ·refine sp shape76 ?_; exact lx [] hm
   refine ⟨_, (lm [(0, 2), (1, 5), (2, 9)] hm : Le _ _ (mkSt [(0, oS a0), (1, oI a1), (4, oP 0 0), (8, one (Cell.own 1)), (12, oP 2 0)] [(1, ⟨1, List.map eS r2.1⟩)] [(0, zc1), (2, [cI b5, cI b6, cI 0, cI 0, cI 0, cI 0, Cell.nil, Cell.nil])] 3)), ?_⟩; refine sr ?_; refine mv ?_; obtain ⟨b7, hb7, H⟩ := bindS H; refine ix underlying70 info9 hb7 ?_; refine L.loadEp (xs := r2.1) (e := eS) shape9 hF rfl rfl rfl rfl (at?_get hb7).2 rfl rfl ?_; obtain ⟨r8, hr8, H⟩ := bindS H; refine c0 3 ent173 (g173 k  b7 r8 hr8) ?_; refine mv ?_; refine ex ?_; refine ex ?_; refine fa underlying76 info3 ?_; refine sp shape3 (L.nil ?_); refine sr ?_; refine mv ?_; obtain ⟨b9, hb9, H⟩ := bindS H; refine ix underlying70 info9 hb9 ?_; refine L.loadEp (xs := r2.1) (e := eS) shape9 hF rfl rfl rfl rfl (at?_get hb9).2 rfl rfl ?_; obtain ⟨r10, hr10, H⟩ := bindS H; refine c0 5 ent156 (g156 k  b9 r10 hr10) ?_; refine mv ?_; refine ex ?_; refine ex ?_; refine fa underlying76 info37 ?_; refine sp shape37 (L.nil ?_); refine sr ?_; refine mv ?_; obtain ⟨b11, hb11, H⟩ := bindS H; refine ix underlying70 info9 hb11 ?_
   refine L.loadEp (xs := r2.1) (e := eS) shape9 hF rfl rfl rfl rfl (at?_get hb11).2 rfl rfl ?_; obtain ⟨r12, hr12, H⟩ := bindS H; refine c0 9 ent91 (g91 k  b11 r12 hr12) ?_; refine mv ?_; refine ex ?_; refine ex ?_; refine fa underlying76 info22 ?_; refine sp shape22 (L.nil ?_); refine sr ?_; refine mv ?_; obtain ⟨b13, hb13, H⟩ := bindS H; refine ix underlying70 info9 hb13 ?_; refine L.loadEp (xs := r2.1) (e := eS) shape9 hF rfl rfl rfl rfl (at?_get hb13).2 rfl rfl ?_; obtain ⟨r14, hr14, H⟩ := bindS H; refine c0 11 ent91 (g91 k  b13 r14 hr14) ?_; refine mv ?_; refine ex ?_; refine ex ?_; refine fa underlying76 info22 ?_; refine sp shape22 (L.nil ?_); refine WpC.seq (sr ?_); refine lp shape76 ?_; refine mv ?_; obtain ⟨r16, hr16, H⟩ := bindS H; refine ca [false, false] [9, 11] [] 13 ent174 (g174 k false false (⟨b5, b6, r8.1, r10.1, r12.1, r14.1⟩ : T_Ticket) a1 r16 hr16) ?_; refine mv ?_; refine L.binS hF rfl rfl rfl rfl rfl (L.nil ?_); refine cd H (fun hc H => ?_) (fun hc H => ?_)
   ·refine sr ?_; refine bf built76 ?_; refine sp shape76 ?_; refine ag (L.nil ?_); refine WpC.le (Le.ownB 0 6 14 1 rfl rfl rfl) ?_; refine WpC.le (Le.ownB 0 7 15 1 rfl rfl rfl) ?_; cases H; exact WpC.ret rt
   ·refine WpC.skip (sr ?_); refine lp shape76 ?_; refine sp shape76 ?_; refine ag (L.nil ?_); cases H; exact WpC.ret rt
/-! ### I_LinkKey -/
def I_LinkKey (k : Nat) (a0 a1 : Int) : Option Int := (I_isRealm k a0).bind fun r7 => cond (!r7) (some 0) ((I_isRealm k a1).bind fun r8 => cond (!r8) (some 0) (some (IntKind.i64.wrap ((IntKind.i64.wrap (31 + (IntKind.i64.wrap (3 * a0)))) + a1))))
theorem ent162 : MG.Enters Tryz.prog 162 := ⟨Tryz.f162, func162, rfl, by decide⟩
theorem g162 (k : Nat) (a0 a1 r : Int) (H : I_LinkKey k a0 a1 = some r) : Gives Tryz.prog 162 [V.one (cI a0), V.one (cI a1)] [] [V.one (cI r)] [] := by
 refine Gives.intro func162 rfl rfl rfl rfl ?_; refine fx fun w0 T S0 ob oh hm => ?_
 have hF := fxe w0 T S0 18 ob oh
 unfold I_LinkKey at H; obtain ⟨K, hK⟩ := leK k; refine sr ?_; refine ag (L.nil ?_); refine WpC.seq (sr ?_); refine mv ?_; obtain ⟨r7, hr7, H⟩ := bindS H; refine c0 2 ent89 (g89 k  a0 r7 hr7) ?_; refine nt ?_; refine mv ?_; refine sH H (fun hc H => ?_) (fun hc H => ?_)
 ·(repeat refine of ?_); refine pk (L.nil ?_); refine cT ?_; refine sr ?_; refine ag (L.nil ?_); cases H; exact WpC.ret rt
 ·refine mv ?_; obtain ⟨r8, hr8, H⟩ := bindS H; refine c0 3 ent89 (g89 k  a1 r8 hr8) ?_; refine nt ?_; refine pk (L.nil ?_); refine cd H (fun hc H => ?_) (fun hc H => ?_)
  ·refine sr ?_; refine ag (L.nil ?_); cases H; exact WpC.ret rt
  ·refine WpC.skip (sr ?_); refine mv ?_; refine bi ?_; refine bi ?_; refine mv ?_; refine bi ?_; refine ag (L.nil ?_); cases H; exact WpC.ret rt
/-! ### I_asked_ticket -/
def I_asked_ticket.j5 (k : Nat) (v98 : Bool) (v99 : T_asked) (v100 v101 v102 v103 v104 v105 : Int) (v106 v107 : List Int) : Option (T_Ticket × Bool) := cond v98 (some ((⟨v100, v101, v102, (⟨v103, v104, v105⟩ : T_Rest), v106, v107⟩ : T_Ticket), (v101 == (IntKind.i64.wrap (10 + v99.realm))))) (some ((⟨v100, v101, v102, (⟨v103, v104, v105⟩ : T_Rest), v106, v107⟩ : T_Ticket), false))
def I_asked_ticket.j9 (cl8 : Bool → Int → T_asked → Int → Int → Int → Int → Int → Int → (List Int) → (List Int) → Option (T_Ticket × Bool)) (k : Nat) (v187 : Bool) (v188 : Int) (v189 : T_asked) (v190 v191 v192 v193 v194 v195 : Int) (v196 v197 : List Int) : Option (T_Ticket × Bool) := cl8 v187 (IntKind.i64.wrap (v188 + 1)) v189 v190 v191 v192 v193 v194 v195 v196 v197
def I_asked_ticket.l8 : Nat → Bool → Int → T_asked → Int → Int → Int → Int → Int → Int → (List Int) → (List Int) → Option (T_Ticket × Bool)
 | 0, _, _, _, _, _, _, _, _, _, _, _ => none
 | k8 + 1, v171, v172, v173, v174, v175, v176, v177, v178, v179, v180, v181 => cond (decide (v172 < 3)) (cond (!v171) ((V_Contains_Pair k8 v173.c.Links (⟨v172, v173.realm⟩ : T_Pair)).bind fun r198 => cond r198 ((at? v173.parts 1).bind fun b199 => (I_LinkKey k8 v172 v173.realm).bind fun r200 => (I_ReadTicket k8 b199 r200).bind fun r201 => cond r201.2 (cond (decide ((2 * (r201.1.Path.length + ([v172] : List Int).length) + 192) * 8 ≤ 281474976710656)) (I_asked_ticket.j9 (I_asked_ticket.l8 k8) k8 r201.2 v172 v173 r201.1.Client r201.1.Service r201.1.Key r201.1.Rest.Servers r201.1.Rest.Ops r201.1.Rest.End (r201.1.Path ++ ([v172] : List Int)) r201.1.Via) none) (I_asked_ticket.j9 (I_asked_ticket.l8 k8) k8 r201.2 v172 v173 r201.1.Client r201.1.Service r201.1.Key r201.1.Rest.Servers r201.1.Rest.Ops r201.1.Rest.End r201.1.Path r201.1.Via)) (I_asked_ticket.j9 (I_asked_ticket.l8 k8) k8 v171 v172 v173 v174 v175 v176 v177 v178 v179 v180 v181)) (I_asked_ticket.j5 k8 v171 v173 v174 v175 v176 v177 v178 v179 v180 v181)) (I_asked_ticket.j5 k8 v171 v173 v174 v175 v176 v177 v178 v179 v180 v181)
def I_asked_ticket (k : Nat) (a0 : T_asked) : Option (T_Ticket × Bool) := (at? a0.parts 1).bind fun b1 => (I_CentreKey k a0.realm).bind fun r2 => (I_ReadTicket k b1 r2).bind fun r3 => I_asked_ticket.l8 k r3.2 0 a0 r3.1.Client r3.1.Service r3.1.Key r3.1.Rest.Servers r3.1.Rest.Ops r3.1.Rest.End r3.1.Path r3.1.Via
theorem ent157 : MG.Enters Tryz.prog 157 := ⟨Tryz.f157, func157, rfl, by decide⟩
theorem g157 (k : Nat) (g0 g1 g2 g3 g4 : Bool) (a0 : T_asked) (r : T_Ticket × Bool) (H : I_asked_ticket k a0 = some r) : Gives Tryz.prog 157 [V.agg (bT_asked g0 g1 g2 g3 g4 a0)] [] [V.agg [cI r.1.Client, cI r.1.Service, cI r.1.Key, cI r.1.Rest.Servers, cI r.1.Rest.Ops, cI r.1.Rest.End, Cell.ow 1 (List.map eI r.1.Path), Cell.ow 1 (List.map eI r.1.Via)], V.one (cL r.2)] [] := by
 refine Gives.intro func157 rfl rfl rfl rfl ?_; refine fx fun w0 T S0 ob oh hm => ?_
 have hF := fxe w0 T S0 63 ob oh
 unfold I_asked_ticket at H; obtain ⟨K, hK⟩ := leK k; refine sr ?_; refine bo 10 ?_; refine alc 11 info76 ?_; refine ag (L.nil ?_); refine WpC.seq ?_; obtain ⟨b1, hb1, H⟩ := bindS H; obtain ⟨r2, hr2, H⟩ := bindS H; obtain ⟨r3, hr3, H⟩ := bindS H
 refine A.lin (fun β => mkStL [(1, iP 10 0), (2, iP 11 0), (4, lP (β 11) 22 0), (5, al (β 13) (one (cL r3.2))), (7, al (β 8) (Slot.tup [V.agg [cI r3.1.Client, cI r3.1.Service, cI r3.1.Key, cI r3.1.Rest.Servers, cI r3.1.Rest.Ops, cI r3.1.Rest.End, Cell.own 19, Cell.own 20], V.one (cL r3.2)])), (8, lP (β 0) 10 9), (9, al (β 1) (one (Cell.sl g4 (List.map eS a0.parts)))), (10, al (β 2) (one (Cell.pe g4 (eS b1) 0))), (11, al (β 3) (one (cS b1))), (12, lP (β 4) 10 5), (13, al (β 5) (one (cI a0.realm))), (14, lI (β 6) r2), (15, al (β 7) (Slot.tup [V.agg [cI r3.1.Client, cI r3.1.Service, cI r3.1.Key, cI r3.1.Rest.Servers, cI r3.1.Rest.Ops, cI r3.1.Rest.End, Cell.own 19, Cell.own 20], V.one (cL r3.2)])), (16, al (β 9) (agg [cI r3.1.Client, cI r3.1.Service, cI r3.1.Key, cI r3.1.Rest.Servers, cI r3.1.Rest.Ops, cI r3.1.Rest.End, Cell.own 19, Cell.own 20])), (17, al (β 10) (one (cL r3.2)))] [(19, al (β 7) (⟨1, List.map eI r3.1.Path⟩)), (20, al (β 7) (⟨1, List.map eI r3.1.Via⟩))] [(10, ai ((bT_asked g0 g1 g2 g3 g4 a0))), (11, ai (zc1)), (22, [(β 12, some ([cI r3.1.Client, cI r3.1.Service, cI r3.1.Key, cI r3.1.Rest.Servers, cI r3.1.Rest.Ops, cI r3.1.Rest.End, Cell.own 19, Cell.own 20])), (β 11, some (zc1))])] 23) [([], [1, 2, 3, 7, 8, 9, 10, 12, 13]), ([0], [2, 3, 7, 8, 9, 10, 12, 13]), ([0, 1], [3, 7, 8, 9, 10, 12, 13]), ([0, 1, 2], [7, 8, 9, 10, 12, 13]), ([], [5, 6, 7, 8, 9, 10, 12, 13]), ([4], [6, 7, 8, 9, 10, 12, 13]), ([4, 5], [7, 8, 9, 10, 12, 13]), ([0, 1, 2, 3, 4, 5, 6], [8, 9, 10, 12, 13]), ([0, 1, 2, 3, 4, 5, 6, 7], [9, 10, 12, 13]), ([0, 1, 2, 3, 4, 5, 6, 7, 8], [12, 13]), ([0, 1, 2, 3, 4, 5, 6, 7, 8], [13]), ([], [12, 13]), ([0, 1, 2, 3, 4, 5, 6, 7, 8, 9, 11], [13]), ([0, 1, 2, 3, 4, 5, 6, 7, 8, 9, 10, 11, 12], [])] 14 mixed rfl (by kernel_rfl) ?_ ?_ ?_
 ·exact Le.lin [] hm rfl (sa2 (kn (kn4 (kn8 kz)))) (kn2 kz) (ba (ba (kn kz)))
 ·repeat' (first | exact trivial | refine ⟨⟨_, rfl, fun β => ?_⟩, ?_⟩ | fail)
  ·refine fa underlying130 info70 ?_; exact lx [] hm
  ·refine lp shape70 ?_; exact lx [] hm
  ·refine ix underlying70 info9 hb1 ?_; exact lx [] hm
  ·refine le shape9 ?_; exact lx [] hm
  ·refine fa underlying130 info3 ?_; exact lx [] hm
  ·refine lp shape3 ?_; exact lx [] hm
  ·refine c0 23 ent155 (g155 k  a0.realm r2 hr2) ?_; exact lx [(12, 23)] hm
  ·refine c0 23 ent118 (g118 k  b1 r2 r3 hr3) ?_; exact lx [(13, 23), (14, 24), (15, 25), (16, 26), (17, 27), (18, 28), (19, 29), (20, 30), (21, 31)] hm
  ·refine mv ?_; exact lx [] hm
  ·refine ex ?_; exact lx [] hm
  ·refine ex ?_; exact lx [] hm
  ·refine alc 23 info76 ?_; exact lx [(22, 23)] hm
  ·refine sp shape76 ?_; exact lx [] hm
  ·refine ag ?_; exact lx [] hm
 refine ⟨_, (lm [(0, 10), (1, 11), (2, 22), (3, 19), (4, 20)] hm : Le _ _ (mkSt [(1, oP 0 0), (2, oP 1 0), (4, oP 2 0), (5, oL r3.2)] [(3, ⟨1, List.map eI r3.1.Path⟩), (4, ⟨1, List.map eI r3.1.Via⟩)] [(0, (bT_asked g0 g1 g2 g3 g4 a0)), (1, zc1), (2, [cI r3.1.Client, cI r3.1.Service, cI r3.1.Key, cI r3.1.Rest.Servers, cI r3.1.Rest.Ops, cI r3.1.Rest.End, Cell.own 3, Cell.own 4])] 5)), ?_⟩; refine WpC.join (fun σ => ∃ (kj5 : Nat) (v98 : Bool) (v99 : T_asked) (v100 v101 v102 v103 v104 v105 : Int) (v106 v107 : List Int), kj5 ≤ K ∧ I_asked_ticket.j5 kj5 v98 v99 v100 v101 v102 v103 v104 v105 v106 v107 = some r ∧ σ = mkSt [(1, oP 0 0), (2, oP 1 0), (4, oP 2 0), (5, oL v98)] [(3, ⟨1, List.map eI v106⟩), (4, ⟨1, List.map eI v107⟩)] [(0, (bT_asked g0 g1 g2 g3 g4 v99)), (1, zc1), (2, [cI v100, cI v101, cI v102, cI v103, cI v104, cI v105, Cell.own 3, Cell.own 4])] 5) ?_ ?_
 ·rintro _ ⟨kj5, v98, v99, v100, v101, v102, v103, v104, v105, v106, v107, hkj5, H, rfl⟩
  unfold I_asked_ticket.j5 at H; refine WpC.seq ?_
  rcases Bool.eq_false_or_eq_true (v98) with hc108 | hc108
  ·replace H := condT hc108 H
   refine A.lin (fun β => mkStL [(1, iP 0 0), (2, iP 1 0), (3, al (β 11) (one (cL (v101 == (IntKind.i64.wrap (10 + v99.realm)))))), (4, iP 2 0), (5, ai (one (cL v98))), (53, al (β 0) (agg [cI v100, cI v101, cI v102, cI v103, cI v104, cI v105, Cell.own 3, Cell.own 4])), (54, al (β 1) (one (cL v98))), (55, al (β 2) (one (cL true))), (56, lP (β 3) 2 1), (57, lI (β 4) v101), (58, lP (β 5) 0 5), (59, al (β 6) (one (cI v99.realm))), (60, al (β 7) (one (cI (IntKind.i64.wrap (10 + v99.realm))))), (61, al (β 8) (one (cL (v101 == (IntKind.i64.wrap (10 + v99.realm)))))), (62, al (β 9) (one (cL (v101 == (IntKind.i64.wrap (10 + v99.realm))))))] [(3, ai (⟨1, List.map eI v106⟩)), (4, ai (⟨1, List.map eI v107⟩))] [(0, ai ((bT_asked g0 g1 g2 g3 g4 v99))), (1, [(β 10, some ([cI v100, cI v101, cI v102, cI v103, cI v104, cI v105, Cell.own 3, Cell.own 4])), (true, some (zc1))]), (2, ai ([cI v100, cI v101, cI v102, cI v103, cI v104, cI v105, Cell.own 3, Cell.own 4]))] 5) [([], [10, 11]), ([], [2, 3, 4, 5, 6, 7, 8, 9, 10, 11]), ([1], [3, 4, 5, 6, 7, 8, 9, 10, 11]), ([1, 2], [4, 8, 9, 11]), ([1, 2, 3], [8, 9, 11]), ([1, 2], [6, 7, 8, 9, 11]), ([1, 2, 5], [7, 8, 9, 11]), ([1, 2, 5, 6], [8, 9, 11]), ([1, 2, 3, 4, 5, 6, 7], [9, 11]), ([1, 2, 3, 4, 5, 6, 7, 8], [11]), ([0, 1, 2], [11]), ([0, 1, 2, 3, 4, 5, 6, 7, 8, 9, 10], [])] 12 mixed rfl (by kernel_rfl) ?_ ?_ ?_
   ·exact Le.lin [] hm rfl (sa2 (kn (sa2 (kn2 (kn8 kz))))) (ra (ra kz)) (ba (ba (ba kz)))
   ·repeat' (first | exact trivial | refine ⟨⟨_, rfl, fun β => ?_⟩, ?_⟩ | fail)
    ·refine lp shape76 ?_; exact lx [] hm
    ·refine mv ?_; exact lx [] hm
    ·refine mv ?_; exact L.nil (Le.lin [] hm rfl (sa2 (kn (sa2 (su (sa (sa (kn (kn2 (kn4 kz))) rfl rfl (congrArg (fun b => some (one (cL b))) hc108))))))) (ra (ra kz)) (ba (ba (ba kz))))
    ·refine fa underlying76 info3 ?_; exact lx [] hm
    ·refine lp shape3 ?_; exact lx [] hm
    ·refine fa underlying130 info3 ?_; exact lx [] hm
    ·refine lp shape3 ?_; exact lx [] hm
    ·refine bi ?_; exact lx [] hm
    ·refine bi ?_; exact lx [] hm
    ·refine pk ?_; exact lx [] hm
    ·refine sp shape76 ?_; exact lx [] hm
    ·refine ag ?_; exact lx [] hm
   refine ⟨_, (lm [(0, 1), (1, 3), (2, 4)] hm : Le _ _ (mkSt [(2, oP 0 0), (3, one (cL (v101 == (IntKind.i64.wrap (10 + v99.realm)))))] [(1, ⟨1, List.map eI v106⟩), (2, ⟨1, List.map eI v107⟩)] [(0, [cI v100, cI v101, cI v102, cI v103, cI v104, cI v105, Cell.own 1, Cell.own 2])] 3)), ?_⟩; cases H; exact WpC.ret rt
  ·replace H := condF hc108 H
   refine A.begin mixed rfl rfl ?_; intro W hI hO; refine hI _ _ _ ?_; refine tM 1 ?_; refine tM 2 ?_; refine A.le (τ := mkSt [(1, oP 0 0), (2, oP 1 0), (4, oP 2 0), (55, oL false)] [(3, ⟨1, List.map eI v106⟩), (4, ⟨1, List.map eI v107⟩)] [(0, (bT_asked g0 g1 g2 g3 g4 v99)), (1, zc1), (2, [cI v100, cI v101, cI v102, cI v103, cI v104, cI v105, Cell.own 3, Cell.own 4])] 5) (Le.mk [(0, 0), (1, 1), (2, 2), (3, 3), (4, 4)] hm rfl (Sa2 (Sa1 (Sa1 trivial rfl (congrArg (fun b => some (one (cL b))) hc108)))) (Ra2 trivial) (Ba2 (Ba1 trivial))) ?_; refine tO 3 ?_; refine tO 4 ?_; refine tO 5 ?_; refine tO 6 ?_; refine tO 7 ?_; refine tO 8 ?_; refine tP 9 ?_; refine A.all [0] (by kernel_rfl) rfl ⟨⟨_, rfl, ?_⟩, trivial⟩; refine lp shape76 (L.nil ?_); refine A.all [10] (by kernel_rfl) rfl ⟨⟨_, rfl, ?_⟩, trivial⟩; refine sp shape76 (L.nil ?_); refine tA 11 ?_
   refine A.le (τ := mkSt [(2, oP 0 0), (3, oL false)] [(1, ⟨1, List.map eI v106⟩), (2, ⟨1, List.map eI v107⟩)] [(0, [cI v100, cI v101, cI v102, cI v103, cI v104, cI v105, Cell.own 1, Cell.own 2])] 3) (lm [(0, 1), (1, 3), (2, 4)] hm) ?_; refine A.done (by kernel_rfl) ?_; cases H; exact WpC.ret rt
 ·refine sr ?_; refine ag (L.nil ?_); refine WpC.block ?_; refine WpC.loopL (P := Tryz.prog) (fun n σ => ∃ (v171 : Bool) (v172 : Int) (v173 : T_asked) (v174 v175 v176 v177 v178 v179 : Int) (v180 v181 : List Int), n ≤ K ∧ I_asked_ticket.l8 n v171 v172 v173 v174 v175 v176 v177 v178 v179 v180 v181 = some r ∧ σ = mkSt [(1, oP 0 0), (2, oP 1 0), (4, oP 2 0), (5, oL v171), (6, oI v172)] [(3, ⟨1, List.map eI v180⟩), (4, ⟨1, List.map eI v181⟩)] [(0, (bT_asked g0 g1 g2 g3 g4 v173)), (1, zc1), (2, [cI v174, cI v175, cI v176, cI v177, cI v178, cI v179, Cell.own 3, Cell.own 4])] 5) k ⟨_, ⟨r3.2, 0, a0, r3.1.Client, r3.1.Service, r3.1.Key, r3.1.Rest.Servers, r3.1.Rest.Ops, r3.1.Rest.End, r3.1.Path, r3.1.Via, by omega, H, rfl⟩, lm [(0, 0), (1, 1), (2, 2), (3, 3), (4, 4)] hm⟩ ?_; clear H
  rintro k8 _ ⟨v171, v172, v173, v174, v175, v176, v177, v178, v179, v180, v181, hk8, H, rfl⟩
  cases k8 with
  | zero => cases H
  | succ k8 =>
   rw [I_asked_ticket.l8] at H
   refine WpC.seq (sr ?_); refine mv ?_; refine bi ?_; refine mv ?_; refine sH H (fun hc H => ?_) (fun hc H => ?_)
   ·refine mv ?_; refine nt ?_; refine pk (L.nil ?_); refine cd H (fun hc H => ?_) (fun hc H => ?_)
    ·refine WpC.skip ?_; refine WpC.join (fun σ => ∃ (kj9 : Nat) (v187 : Bool) (v188 : Int) (v189 : T_asked) (v190 v191 v192 v193 v194 v195 : Int) (v196 v197 : List Int), kj9 ≤ K ∧ I_asked_ticket.j9 (I_asked_ticket.l8 k8) kj9 v187 v188 v189 v190 v191 v192 v193 v194 v195 v196 v197 = some r ∧ σ = mkSt [(1, oP 0 0), (2, oP 1 0), (4, oP 2 0), (5, oL v187), (6, oI v188)] [(3, ⟨1, List.map eI v196⟩), (4, ⟨1, List.map eI v197⟩)] [(0, (bT_asked g0 g1 g2 g3 g4 v189)), (1, zc1), (2, [cI v190, cI v191, cI v192, cI v193, cI v194, cI v195, Cell.own 3, Cell.own 4])] 5) ?_ ?_
     ·rintro _ ⟨kj9, v187, v188, v189, v190, v191, v192, v193, v194, v195, v196, v197, hkj9, H, rfl⟩
      unfold I_asked_ticket.j9 at H; refine WpC.regionL ?_; refine mv ?_; refine bi ?_; refine ag (L.nil ?_); exact ⟨k8, _, by omega, ⟨v187, (IntKind.i64.wrap (v188 + 1)), v189, v190, v191, v192, v193, v194, v195, v196, v197, by omega, H, rfl⟩, lm [(0, 0), (1, 1), (2, 2), (3, 3), (4, 4)] hm⟩
     ·refine WpC.block (sr ?_); refine fa underlying130 info44 ?_; refine fa underlying44 info42 ?_; refine lp shape42 ?_; refine mv ?_; refine fa underlying130 info3 ?_; refine lp shape3 ?_; refine bf built147 ?_; obtain ⟨r198, hr198, H⟩ := bindS H; refine c0 5 ent172 (g172 k8 g2 v173.c.Links (⟨v172, v173.realm⟩ : T_Pair) r198 hr198) (L.nil ?_); refine cd H (fun hc H => ?_) (fun hc H => ?_)
      ·refine WpC.seq ?_; obtain ⟨b199, hb199, H⟩ := bindS H; obtain ⟨r200, hr200, H⟩ := bindS H; obtain ⟨r201, hr201, H⟩ := bindS H
       refine A.lin (fun β => mkStL [(1, iP 0 0), (2, iP 1 0), (4, iP 2 0), (5, [(β 13, some (one (cL r201.2))), (true, some (one (cL v171)))]), (6, iI v172), (34, al (β 9) (Slot.tup [V.agg [cI r201.1.Client, cI r201.1.Service, cI r201.1.Key, cI r201.1.Rest.Servers, cI r201.1.Rest.Ops, cI r201.1.Rest.End, Cell.own 13, Cell.own 14], V.one (cL r201.2)])), (35, lP (β 0) 0 9), (36, al (β 1) (one (Cell.sl g4 (List.map eS v173.parts)))), (37, al (β 2) (one (Cell.pe g4 (eS b199) 0))), (38, al (β 3) (one (cS b199))), (39, lI (β 4) v172), (40, lP (β 5) 0 5), (41, al (β 6) (one (cI v173.realm))), (42, lI (β 7) r200), (43, al (β 8) (Slot.tup [V.agg [cI r201.1.Client, cI r201.1.Service, cI r201.1.Key, cI r201.1.Rest.Servers, cI r201.1.Rest.Ops, cI r201.1.Rest.End, Cell.own 13, Cell.own 14], V.one (cL r201.2)])), (44, al (β 10) (agg [cI r201.1.Client, cI r201.1.Service, cI r201.1.Key, cI r201.1.Rest.Servers, cI r201.1.Rest.Ops, cI r201.1.Rest.End, Cell.own 13, Cell.own 14])), (45, al (β 11) (one (cL r201.2)))] [(3, ai (⟨1, List.map eI v180⟩)), (4, ai (⟨1, List.map eI v181⟩)), (13, al (β 8) (⟨1, List.map eI r201.1.Path⟩)), (14, al (β 8) (⟨1, List.map eI r201.1.Via⟩))] [(0, ai ((bT_asked g0 g1 g2 g3 g4 v173))), (1, ai (zc1)), (2, [(β 12, some ([cI r201.1.Client, cI r201.1.Service, cI r201.1.Key, cI r201.1.Rest.Servers, cI r201.1.Rest.Ops, cI r201.1.Rest.End, Cell.own 13, Cell.own 14])), (true, some ([cI v174, cI v175, cI v176, cI v177, cI v178, cI v179, Cell.own 3, Cell.own 4]))])] 16) [([], [1, 2, 3, 8, 9, 10, 11, 12, 13]), ([0], [2, 3, 8, 9, 10, 11, 12, 13]), ([0, 1], [3, 8, 9, 10, 11, 12, 13]), ([0, 1, 2], [8, 9, 10, 11, 12, 13]), ([], [7, 8, 9, 10, 11, 12, 13]), ([], [6, 7, 8, 9, 10, 11, 12, 13]), ([5], [7, 8, 9, 10, 11, 12, 13]), ([4, 5, 6], [8, 9, 10, 11, 12, 13]), ([0, 1, 2, 3, 4, 5, 6, 7], [9, 10, 11, 12, 13]), ([0, 1, 2, 3, 4, 5, 6, 7, 8], [10, 11, 12, 13]), ([0, 1, 2, 3, 4, 5, 6, 7, 8, 9], [12, 13]), ([0, 1, 2, 3, 4, 5, 6, 7, 8, 9], [13]), ([0, 1, 2, 3, 4, 5, 6, 7, 8, 9, 10], [13]), ([0, 1, 2, 3, 4, 5, 6, 7, 8, 9, 10, 11, 12], [])] 14 mixed rfl (by kernel_rfl) ?_ ?_ ?_
       ·exact Le.lin [] hm rfl (sa (sa4 (kn4 (kn8 kz)))) (ra (ra (kn2 kz))) (ba (ba (ba kz)))
       ·repeat' (first | exact trivial | refine ⟨⟨_, rfl, fun β => ?_⟩, ?_⟩ | fail)
        ·refine fa underlying130 info70 ?_; exact lx [] hm
        ·refine lp shape70 ?_; exact lx [] hm
        ·refine ix underlying70 info9 hb199 ?_; exact lx [] hm
        ·refine le shape9 ?_; exact lx [] hm
        ·refine mv ?_; exact lx [] hm
        ·refine fa underlying130 info3 ?_; exact lx [] hm
        ·refine lp shape3 ?_; exact lx [] hm
        ·refine c0 16 ent162 (g162 k8  v172 v173.realm r200 hr200) ?_; exact lx [(6, 16)] hm
        ·refine c0 16 ent118 (g118 k8  b199 r200 r201 hr201) ?_; exact lx [(7, 16), (8, 17), (9, 18), (10, 19), (11, 20), (12, 21), (13, 22), (14, 23), (15, 24)] hm
        ·refine mv ?_; exact lx [] hm
        ·refine ex ?_; exact lx [] hm
        ·refine ex ?_; exact lx [] hm
        ·refine sp shape76 ?_; exact lx [] hm
        ·refine ag ?_; exact lx [] hm
       refine ⟨_, (lm [(0, 0), (1, 1), (2, 2), (3, 13), (4, 14)] hm : Le _ _ (mkSt [(1, oP 0 0), (2, oP 1 0), (4, oP 2 0), (5, oL r201.2), (6, oI v172)] [(3, ⟨1, List.map eI r201.1.Path⟩), (4, ⟨1, List.map eI r201.1.Via⟩)] [(0, (bT_asked g0 g1 g2 g3 g4 v173)), (1, zc1), (2, [cI r201.1.Client, cI r201.1.Service, cI r201.1.Key, cI r201.1.Rest.Servers, cI r201.1.Rest.Ops, cI r201.1.Rest.End, Cell.own 3, Cell.own 4])] 5)), ?_⟩; refine sr ?_; refine mv (L.nil ?_); refine cd H (fun hc H => ?_) (fun hc H => ?_)
       ·refine WpC.regionL ?_; refine fa underlying76 info22 ?_; refine lp shape22 ?_; refine mv ?_; refine L.buildSlice (e := eI) 5 ([v172] : List Int) underlying22 info3 rfl rfl rfl hF rfl rfl rfl rfl rfl rfl rfl rfl ?_; obtain ⟨h202, H⟩ := condG H; refine L.append (xs := r201.1.Path) (ys := ([v172] : List Int)) (e := eI) 6 underlying22 info3 rfl rfl hF rfl rfl rfl rfl rfl rfl rfl rfl (fun _ => rfl) (fun _ _ h1 h2 => by cases h1; cases h2; rfl) ⟨_, underlying22⟩ (of_decide_eq_true h202) rfl rfl ?_; refine fa underlying76 info22 ?_; refine sp shape22 (L.nil ?_); exact ⟨_, ⟨k8, r201.2, v172, v173, r201.1.Client, r201.1.Service, r201.1.Key, r201.1.Rest.Servers, r201.1.Rest.Ops, r201.1.Rest.End, (r201.1.Path ++ ([v172] : List Int)), r201.1.Via, by omega, H, rfl⟩, lm [(0, 0), (1, 1), (2, 2), (3, 6), (4, 4)] hm⟩
       ·refine WpC.skip ?_; exact ⟨_, ⟨k8, r201.2, v172, v173, r201.1.Client, r201.1.Service, r201.1.Key, r201.1.Rest.Servers, r201.1.Rest.Ops, r201.1.Rest.End, r201.1.Path, r201.1.Via, by omega, H, rfl⟩, lm [(0, 0), (1, 1), (2, 2), (3, 3), (4, 4)] hm⟩
      ·refine WpC.skip ?_; exact ⟨_, ⟨k8, v171, v172, v173, v174, v175, v176, v177, v178, v179, v180, v181, by omega, H, rfl⟩, lm [(0, 0), (1, 1), (2, 2), (3, 3), (4, 4)] hm⟩
    ·refine WpC.exit ?_; exact ⟨_, ⟨k8, v171, v173, v174, v175, v176, v177, v178, v179, v180, v181, by omega, H, rfl⟩, lm [(0, 0), (1, 1), (2, 2), (3, 3), (4, 4)] hm⟩
   ·(repeat refine of ?_); refine pk (L.nil ?_); refine cF ?_; refine WpC.exit ?_; exact ⟨_, ⟨k8, v171, v173, v174, v175, v176, v177, v178, v179, v180, v181, by omega, H, rfl⟩, lm [(0, 0), (1, 1), (2, 2), (3, 3), (4, 4)] hm⟩
/-! ### I_authOk -/
def I_authOk (k : Nat) (a0 : T_Auth) : Option Bool := (I_isPrincipal k a0.Client).bind fun r4 => cond r4 ((I_isTime k a0.Time).bind fun r5 => cond r5 ((I_within k a0.Seq 0 1000000).bind fun r6 => some r6) (some false)) (some false)
theorem ent112 : MG.Enters Tryz.prog 112 := ⟨Tryz.f112, func112, rfl, by decide⟩
theorem g112 (k : Nat) (a0 : T_Auth) (r : Bool) (H : I_authOk k a0 = some r) : Gives Tryz.prog 112 [V.agg (bT_Auth a0)] [] [V.one (cL r)] [] := by
 refine Gives.intro func112 rfl rfl rfl rfl ?_; refine fx fun w0 T S0 ob oh hm => ?_
 have hF := fxe w0 T S0 16 ob oh
 unfold I_authOk at H; obtain ⟨K, hK⟩ := leK k; refine sr ?_; refine bo 3 ?_; refine ag (L.nil ?_); refine sr ?_; refine fa underlying35 info3 ?_; refine lp shape3 ?_; obtain ⟨r4, hr4, H⟩ := bindS H; refine c0 4 ent170 (g170 k  a0.Client r4 hr4) ?_; refine mv ?_; refine sH H (fun hc H => ?_) (fun hc H => ?_)
 ·refine fa underlying35 info3 ?_; refine lp shape3 ?_; obtain ⟨r5, hr5, H⟩ := bindS H; refine c0 5 ent53 (g53 k  a0.Time r5 hr5) ?_; refine pk ?_; refine mv ?_; refine sH H (fun hc H => ?_) (fun hc H => ?_)
  ·refine fa underlying35 info3 ?_; refine lp shape3 ?_; obtain ⟨r6, hr6, H⟩ := bindS H; refine c0 6 ent90 (g90 k  a0.Seq 0 1000000 r6 hr6) ?_; refine pk ?_; refine ag (L.nil ?_); cases H; exact WpC.ret rt
  ·(repeat refine of ?_); refine pk ?_; refine ag (L.nil ?_); cases H; exact WpC.ret rt
 ·(repeat refine of ?_); refine pk ?_; refine mv ?_; (repeat refine of ?_); refine pk ?_; refine ag (L.nil ?_); cases H; exact WpC.ret rt
/-! ### I_ShowAuth -/
def I_ShowAuth (k : Nat) (a0 : T_Auth) (a1 : Int) : Option (List UInt8) := (I_authOk k a0).bind fun r2 => cond (!r2) (some ([] : List UInt8)) ((I_Nums k ([7, a0.Client, a0.Time, a0.Seq] : List Int)).bind fun r3 => (I_Seal k a1 r3).bind fun r4 => some r4)
theorem ent175 : MG.Enters Tryz.prog 175 := ⟨Tryz.f175, func175, rfl, by decide⟩
theorem g175 (k : Nat) (a0 : T_Auth) (a1 : Int) (r : List UInt8) (H : I_ShowAuth k a0 a1 = some r) : Gives Tryz.prog 175 [V.agg (bT_Auth a0), V.one (cI a1)] [] [V.one (cS r)] [] := by
 refine Gives.intro func175 rfl rfl rfl rfl ?_; refine fx fun w0 T S0 ob oh hm => ?_
 have hF := fxe w0 T S0 18 ob oh
 unfold I_ShowAuth at H; obtain ⟨K, hK⟩ := leK k; refine sr ?_; refine bo 4 ?_; refine ag (L.nil ?_); refine WpC.seq (sr ?_); refine lp shape35 ?_; obtain ⟨r2, hr2, H⟩ := bindS H; refine c0 5 ent112 (g112 k  a0 r2 hr2) ?_; refine nt (L.nil ?_); refine cd H (fun hc H => ?_) (fun hc H => ?_)
 ·refine sr ?_; refine ag (L.nil ?_); cases H; exact WpC.ret rt
 ·refine WpC.skip (sr ?_); refine mv ?_; refine fa underlying35 info3 ?_; refine lp shape3 ?_; refine fa underlying35 info3 ?_; refine lp shape3 ?_; refine fa underlying35 info3 ?_; refine lp shape3 ?_; refine L.buildSlice (e := eI) 6 ([7, a0.Client, a0.Time, a0.Seq] : List Int) underlying22 info3 rfl rfl rfl hF rfl rfl rfl rfl rfl rfl rfl rfl ?_; obtain ⟨r3, hr3, H⟩ := bindS H; refine ca [false] [6] [] 7 ent186 (g186 k false ([7, a0.Client, a0.Time, a0.Seq] : List Int) r3 hr3) ?_; obtain ⟨r4, hr4, H⟩ := bindS H; refine c0 8 ent193 (g193 k  a1 r3 r4 hr4) ?_; refine ag (L.nil ?_); cases H; exact WpC.ret rt
/-! ### I_ReadAuth -/
def I_ReadAuth (k : Nat) (a0 : List UInt8) (a1 : Int) : Option (T_Auth × Bool) := (I_Open k a0 a1).bind fun r1 => (I_ReadNums k r1.1).bind fun r2 => cond ((r2.1.length : Int) != 4) (some ((⟨0, 0, 0⟩ : T_Auth), false)) ((at? r2.1 1).bind fun b3 => (at? r2.1 2).bind fun b4 => (at? r2.1 3).bind fun b5 => (I_ShowAuth k (⟨b3, b4, b5⟩ : T_Auth) a1).bind fun r7 => cond (r7 != a0) (some ((⟨0, 0, 0⟩ : T_Auth), false)) (some ((⟨b3, b4, b5⟩ : T_Auth), true)))
theorem ent120 : MG.Enters Tryz.prog 120 := ⟨Tryz.f120, func120, rfl, by decide⟩
theorem g120 (k : Nat) (a0 : List UInt8) (a1 : Int) (r : T_Auth × Bool) (H : I_ReadAuth k a0 a1 = some r) : Gives Tryz.prog 120 [V.one (cS a0), V.one (cI a1)] [] [V.agg (bT_Auth r.1), V.one (cL r.2)] [] := by
 refine Gives.intro func120 rfl rfl rfl rfl ?_; refine fx fun w0 T S0 ob oh hm => ?_
 have hF := fxe w0 T S0 43 ob oh
 unfold I_ReadAuth at H; obtain ⟨K, hK⟩ := leK k; refine sr ?_; refine alc 2 info35 ?_; refine ag (L.nil ?_); refine sr ?_; refine mv ?_; refine mv ?_; obtain ⟨r1, hr1, H⟩ := bindS H; refine c0 3 ent152 (g152 k  a0 a1 r1 hr1) ?_; refine mv ?_; refine ex ?_; refine ex ?_; refine ag ?_; refine ag (L.nil ?_); refine sr ?_; refine mv ?_; obtain ⟨r2, hr2, H⟩ := bindS H; refine c0 5 ent91 (g91 k  r1.1 r2 hr2) ?_; refine mv ?_; refine ex ?_; refine ex ?_; refine ag ?_; refine ag (L.nil ?_); refine WpC.seq (sr ?_); refine mv ?_; refine L.lenR (xs := r2.1) (e := eI) underlying22 hF rfl rfl rfl rfl ?_; refine bi (L.nil ?_); refine cd H (fun hc H => ?_) (fun hc H => ?_)
 ·refine sr ?_; refine bf built35 ?_; refine sp shape35 ?_; refine ag (L.nil ?_); cases H; exact WpC.ret rt
 ·refine WpC.skip (WpC.seq ?_); obtain ⟨b3, hb3, H⟩ := bindS H; obtain ⟨b4, hb4, H⟩ := bindS H; obtain ⟨b5, hb5, H⟩ := bindS H; refine A.lin (fun β => mkStL [(0, ai (one (cS a0))), (1, iI a1), (4, iP 2 0), (8, ai (one (Cell.own 5))), (10, lP (β 10) 7 0), (26, al (β 0) (one (Cell.own 5))), (27, al (β 1) (one (Cell.ep 5 ((1 : Int).toNat) 0))), (28, lI (β 2) b3), (29, al (β 3) (one (Cell.own 5))), (30, al (β 4) (one (Cell.ep 5 ((2 : Int).toNat) 0))), (31, lI (β 5) b4), (32, al (β 6) (one (Cell.own 5))), (33, al (β 7) (one (Cell.ep 5 ((3 : Int).toNat) 0))), (34, lI (β 8) b5), (35, al (β 9) (agg [cI b3, cI b4, cI b5]))] [(5, ai (⟨1, List.map eI r2.1⟩))] [(2, ai ([cI 0, cI 0, cI 0])), (7, [(β 11, some ([cI b3, cI b4, cI b5])), (β 10, some ([cI 0, cI 0, cI 0]))])] 8) [([], [1, 2, 9, 11]), ([0], [2, 9, 11]), ([0, 1], [9, 11]), ([], [4, 5, 9, 11]), ([3], [5, 9, 11]), ([3, 4], [9, 11]), ([], [7, 8, 9, 11]), ([6], [8, 9, 11]), ([6, 7], [9, 11]), ([0, 1, 2, 3, 4, 5, 6, 7, 8], [11]), ([], [11]), ([0, 1, 2, 3, 4, 5, 6, 7, 8, 9, 10], [])] 12 mixed rfl (by kernel_rfl) ?_ ?_ ?_
  ·exact Le.lin [] hm rfl (sa4 (kn (kn2 (kn8 kz)))) (ra kz) (ba (kn kz))
  ·repeat' (first | exact trivial | refine ⟨⟨_, rfl, fun β => ?_⟩, ?_⟩ | fail)
   ·refine mv ?_; exact lx [] hm
   ·refine ix underlying22 info3 hb3 ?_; exact lx [] hm
   ·refine L.loadEp (xs := r2.1) (e := eI) shape3 hF rfl rfl rfl rfl (at?_get hb3).2 rfl rfl ?_; exact lx [] hm
   ·refine mv ?_; exact lx [] hm
   ·refine ix underlying22 info3 hb4 ?_; exact lx [] hm
   ·refine L.loadEp (xs := r2.1) (e := eI) shape3 hF rfl rfl rfl rfl (at?_get hb4).2 rfl rfl ?_; exact lx [] hm
   ·refine mv ?_; exact lx [] hm
   ·refine ix underlying22 info3 hb5 ?_; exact lx [] hm
   ·refine L.loadEp (xs := r2.1) (e := eI) shape3 hF rfl rfl rfl rfl (at?_get hb5).2 rfl rfl ?_; exact lx [] hm
   ·refine bf built35 ?_; exact lx [] hm
   ·refine alc 8 info35 ?_; exact lx [(7, 8)] hm
   ·refine sp shape35 ?_; exact lx [] hm
  refine ⟨_, (lm [(0, 2), (1, 7)] hm : Le _ _ (mkSt [(0, oS a0), (1, oI a1), (4, oP 0 0), (10, oP 1 0)] [] [(0, [cI 0, cI 0, cI 0]), (1, [cI b3, cI b4, cI b5])] 2)), ?_⟩; refine WpC.seq (sr ?_); refine lp shape35 ?_; refine mv ?_; obtain ⟨r7, hr7, H⟩ := bindS H; refine c0 2 ent175 (g175 k  (⟨b3, b4, b5⟩ : T_Auth) a1 r7 hr7) ?_; refine mv ?_; refine L.binS hF rfl rfl rfl rfl rfl (L.nil ?_); refine cd H (fun hc H => ?_) (fun hc H => ?_)
  ·refine sr ?_; refine bf built35 ?_; refine sp shape35 ?_; refine ag (L.nil ?_); cases H; exact WpC.ret rt
  ·refine WpC.skip (sr ?_); refine lp shape35 ?_; refine sp shape35 ?_; refine ag (L.nil ?_); cases H; exact WpC.ret rt
/-! ### I_Meet -/
def I_Meet (k : Nat) (a0 a1 : T_Rest) : Option T_Rest := (I_RestOk k a0).bind fun r7 => cond (!r7) (some (⟨0, 0, 0⟩ : T_Rest)) ((I_RestOk k a1).bind fun r8 => cond (!r8) (some (⟨0, 0, 0⟩ : T_Rest)) (some (⟨(Go.bits .and .i64 a0.Servers a1.Servers), (Go.bits .and .i64 a0.Ops a1.Ops), (if a1.End < a0.End then a1.End else a0.End)⟩ : T_Rest)))
theorem ent160 : MG.Enters Tryz.prog 160 := ⟨Tryz.f160, func160, rfl, by decide⟩
theorem g160 (k : Nat) (a0 a1 r : T_Rest) (H : I_Meet k a0 a1 = some r) : Gives Tryz.prog 160 [V.agg (bT_Rest a0), V.agg (bT_Rest a1)] [] [V.agg (bT_Rest r)] [] := by
 refine Gives.intro func160 rfl rfl rfl rfl ?_; refine fx fun w0 T S0 ob oh hm => ?_
 have hF := fxe w0 T S0 30 ob oh
 unfold I_Meet at H; obtain ⟨K, hK⟩ := leK k; refine sr ?_; refine bo 6 ?_; refine bo 7 ?_; refine alc 8 info37 (L.nil ?_); refine WpC.seq (sr ?_); refine lp shape37 ?_; obtain ⟨r7, hr7, H⟩ := bindS H; refine c0 9 ent121 (g121 k  a0 r7 hr7) ?_; refine nt ?_; refine mv ?_; refine sH H (fun hc H => ?_) (fun hc H => ?_)
 ·(repeat refine of ?_); refine pk (L.nil ?_); refine cT ?_; refine sr ?_; refine bf built37 ?_; refine sp shape37 (L.nil ?_); cases H; exact WpC.ret rt
 ·refine lp shape37 ?_; obtain ⟨r8, hr8, H⟩ := bindS H; refine c0 10 ent121 (g121 k  a1 r8 hr8) ?_; refine nt ?_; refine pk (L.nil ?_); refine cd H (fun hc H => ?_) (fun hc H => ?_)
  ·refine sr ?_; refine bf built37 ?_; refine sp shape37 (L.nil ?_); cases H; exact WpC.ret rt
  ·refine WpC.skip (sr ?_); refine fa underlying37 info3 ?_; refine lp shape3 ?_; refine fa underlying37 info3 ?_; refine lp shape3 ?_; refine bi ?_; refine fa underlying37 info3 ?_; refine lp shape3 ?_; refine fa underlying37 info3 ?_; refine lp shape3 ?_; refine bi ?_; refine fa underlying37 info3 ?_; refine lp shape3 ?_; refine fa underlying37 info3 ?_; refine lp shape3 ?_; refine L.minI hF rfl rfl rfl rfl ?_; refine bf built37 ?_; refine sp shape37 (L.nil ?_); cases H; exact WpC.ret rt
/-! ### I_copyInts -/
def I_copyInts (k : Nat) (a0 : List Int) : Option (List Int) := cond (decide ((2 * (([] : List Int).length + a0.length) + 192) * 8 ≤ 281474976710656)) (some (([] : List Int) ++ a0)) none
theorem ent58 : MG.Enters Tryz.prog 58 := ⟨Tryz.f58, func58, rfl, by decide⟩
theorem g58 (k : Nat) (g0 : Bool) (a0 r : List Int) (H : I_copyInts k a0 = some r) : Gives Tryz.prog 58 [V.one (Cell.sl g0 (List.map eI a0))] [] [V.one (Cell.ow 1 (List.map eI r))] [] := by
 refine Gives.intro func58 rfl rfl rfl rfl ?_; refine fx fun w0 T S0 ob oh hm => ?_
 have hF := fxe w0 T S0 5 ob oh
 unfold I_copyInts at H; obtain ⟨K, hK⟩ := leK k; refine sr ?_; refine ag (L.nil ?_); refine sr ?_; refine mv ?_; obtain ⟨h1, H⟩ := condG H; refine L.append (xs := ([] : List Int)) (ys := a0) (e := eI) 1 underlying22 info3 rfl rfl hF rfl rfl rfl rfl rfl rfl rfl rfl (fun _ => rfl) (fun _ _ h1 _ => by cases h1) ⟨_, underlying22⟩ (of_decide_eq_true h1) rfl rfl ?_; refine ag (L.nil ?_); cases H; exact WpC.ret rt
/-! ### I_asked_delegate -/
def I_asked_delegate.j2 (k : Nat) (v34 v35 : Int) (v36 : Bool) (v37 : T_asked) (v38 : T_Ticket) (v39 : T_Rest) (v40 v41 v42 v43 v44 v45 : Int) (v46 v47 : List Int) : Option T_Reply := cond v36 (some (⟨1, ([] : List UInt8), (⟨0, 0, 0, 0, 0, 0, 0, 0, (⟨0, 0, 0⟩ : T_Rest)⟩ : T_Event)⟩ : T_Reply)) (cond (decide (v37.now > v45)) (some (⟨4, ([] : List UInt8), (⟨0, 0, 0, 0, 0, 0, 0, 0, (⟨0, 0, 0⟩ : T_Rest)⟩ : T_Event)⟩ : T_Reply)) ((V_Contains_Pair k v37.c.Proxy (⟨v35, v34⟩ : T_Pair)).bind fun r49 => cond (!r49) (some (⟨6, ([] : List UInt8), (⟨0, 0, 0, 0, 0, 0, 0, 0, (⟨0, 0, 0⟩ : T_Rest)⟩ : T_Event)⟩ : T_Reply)) (cond (decide ((v47.length : Int) ≥ 4)) (some (⟨6, ([] : List UInt8), (⟨0, 0, 0, 0, 0, 0, 0, 0, (⟨0, 0, 0⟩ : T_Rest)⟩ : T_Event)⟩ : T_Reply)) ((I_Meet k (⟨v43, v44, v45⟩ : T_Rest) v39).bind fun r50 => (I_copyInts k v47).bind fun r51 => cond (decide ((2 * (r51.length + ([v35] : List Int).length) + 192) * 8 ≤ 281474976710656)) ((I_PrincipalKey k (IntKind.i64.wrap (3 + v34))).bind fun r53 => (I_asked_given k v37 (⟨4, 0, v38.Client, v40, 0, 0, v38.Key, v42, (⟨0, 0, 0⟩ : T_Rest)⟩ : T_Event) (⟨v40, v34, v37.fresh, r50, v46, (r51 ++ ([v35] : List Int))⟩ : T_Ticket) r53 v38.Key).bind fun r54 => some r54) none))))
def I_asked_delegate (k : Nat) (a0 : T_asked) (a1 : T_Ticket) (a2 : Int) (a3 : T_Rest) : Option T_Reply := (I_isService k (IntKind.i64.wrap (a1.Client - 3))).bind fun r10 => cond (!r10) (some (⟨6, ([] : List UInt8), (⟨0, 0, 0, 0, 0, 0, 0, 0, (⟨0, 0, 0⟩ : T_Rest)⟩ : T_Event)⟩ : T_Reply)) ((at? a0.c.ServiceRealm (IntKind.i64.wrap (a1.Client - 3))).bind fun b12 => cond (b12 != a0.realm) (some (⟨6, ([] : List UInt8), (⟨0, 0, 0, 0, 0, 0, 0, 0, (⟨0, 0, 0⟩ : T_Rest)⟩ : T_Event)⟩ : T_Reply)) ((at? a0.c.ServiceRealm a2).bind fun b14 => cond (b14 != a0.realm) (some (⟨6, ([] : List UInt8), (⟨0, 0, 0, 0, 0, 0, 0, 0, (⟨0, 0, 0⟩ : T_Rest)⟩ : T_Event)⟩ : T_Reply)) ((at? a0.parts 4).bind fun b15 => (I_PrincipalKey k a1.Client).bind fun r16 => (I_ReadTicket k b15 r16).bind fun r17 => cond (!r17.2) (I_asked_delegate.j2 k a2 (IntKind.i64.wrap (a1.Client - 3)) true a0 a1 a3 r17.1.Client r17.1.Service r17.1.Key r17.1.Rest.Servers r17.1.Rest.Ops r17.1.Rest.End r17.1.Path r17.1.Via) (I_asked_delegate.j2 k a2 (IntKind.i64.wrap (a1.Client - 3)) (r17.1.Service != (IntKind.i64.wrap (a1.Client - 3))) a0 a1 a3 r17.1.Client r17.1.Service r17.1.Key r17.1.Rest.Servers r17.1.Rest.Ops r17.1.Rest.End r17.1.Path r17.1.Via))))
theorem ent159 : MG.Enters Tryz.prog 159 := ⟨Tryz.f159, func159, rfl, by decide⟩
theorem g159 (k : Nat) (g0 g1 g2 g3 g4 g5 g6 : Bool) (a0 : T_asked) (a1 : T_Ticket) (a2 : Int) (a3 : T_Rest) (r : T_Reply) (H : I_asked_delegate k a0 a1 a2 a3 = some r) : Gives Tryz.prog 159 [V.agg (bT_asked g0 g1 g2 g3 g4 a0), V.agg (bT_Ticket g5 g6 a1), V.one (cI a2), V.agg (bT_Rest a3)] [] [V.agg (bT_Reply r)] [] := by
 refine Gives.intro func159 rfl rfl rfl rfl ?_; refine fx fun w0 T S0 ob oh hm => ?_
 have hF := fxe w0 T S0 124 ob oh
 unfold I_asked_delegate at H; obtain ⟨K, hK⟩ := leK k; refine sr ?_; refine bo 22 ?_; refine bo 23 ?_; refine bo 24 ?_; refine alc 25 info64 (L.nil ?_); refine sr ?_; refine fa underlying76 info3 ?_; refine lp shape3 ?_; refine bi ?_; refine ag (L.nil ?_); refine WpC.seq (WpC.seq ?_); obtain ⟨r10, hr10, H⟩ := bindS H
 rcases Bool.eq_false_or_eq_true ((!r10)) with hc11 | hc11
 ·replace H := condT hc11 H
  refine A.begin mixed rfl rfl ?_; intro W hI hO; refine hI _ _ _ ?_; refine tM 0 ?_; refine A.all [1] (by kernel_rfl) rfl ⟨⟨_, rfl, ?_⟩, trivial⟩; refine c0 26 ent52 (g52 k  (IntKind.i64.wrap (a1.Client - 3)) r10 hr10) (L.nil ?_); refine Atk 2 rfl (Ca.un rfl rfl) (fun Q0 k0 => nt (L.nil k0)) ?_; refine tM 3 ?_; refine A.le (τ := mkSt [(2, oI a2), (4, oP 0 0), (5, oP 1 0), (7, oP 2 0), (8, oP 3 0), (9, one (cI (IntKind.i64.wrap (a1.Client - 3)))), (20, oL true)] [] [(0, (bT_asked g0 g1 g2 g3 g4 a0)), (1, (bT_Ticket g5 g6 a1)), (2, (bT_Rest a3)), (3, zc0)] 4) (Le.mk [(0, 22), (1, 23), (2, 24), (3, 25)] hm rfl (Sa4 (Sa2 (Sa1 trivial rfl (congrArg (fun b => some (one (cL b))) hc11)))) trivial (Ba4 trivial)) ?_; refine tO 4 ?_; refine tO 5 ?_; refine tO 6 ?_; refine tO 7 ?_; refine tO 8 ?_; refine tO 9 ?_; refine tO 10 ?_; refine tO 11 ?_; refine tO 12 ?_; refine tP 13 ?_
  refine A.le (τ := mkSt [(2, oI a2), (4, oP 0 0), (5, oP 1 0), (7, oP 2 0), (8, oP 3 0), (9, one (cI (IntKind.i64.wrap (a1.Client - 3)))), (30, oL true)] [] [(0, (bT_asked g0 g1 g2 g3 g4 a0)), (1, (bT_Ticket g5 g6 a1)), (2, (bT_Rest a3)), (3, zc0)] 4) (lm [(0, 0), (1, 1), (2, 2), (3, 3)] hm) ?_; refine tM 14 ?_; refine tO 15 ?_; refine tO 16 ?_; refine tO 17 ?_; refine tO 18 ?_; refine tO 19 ?_; refine tO 20 ?_; refine tO 21 ?_; refine tO 22 ?_; refine tO 23 ?_
  refine A.le (τ := mkSt [(2, oI a2), (4, oP 0 0), (5, oP 1 0), (7, oP 2 0), (8, oP 3 0), (9, one (cI (IntKind.i64.wrap (a1.Client - 3)))), (31, oL true), (40, Slot.tup [])] [] [(0, (bT_asked g0 g1 g2 g3 g4 a0)), (1, (bT_Ticket g5 g6 a1)), (2, (bT_Rest a3)), (3, zc0)] 4) (lm [(0, 0), (1, 1), (2, 2), (3, 3)] hm) ?_; refine tP 24 ?_; refine A.le (τ := mkSt [(2, oI a2), (4, oP 0 0), (5, oP 1 0), (7, oP 2 0), (8, oP 3 0), (9, one (cI (IntKind.i64.wrap (a1.Client - 3)))), (41, oL true)] [] [(0, (bT_asked g0 g1 g2 g3 g4 a0)), (1, (bT_Ticket g5 g6 a1)), (2, (bT_Rest a3)), (3, zc0)] 4) (lm [(0, 0), (1, 1), (2, 2), (3, 3)] hm) ?_; refine A.done (by kernel_rfl) ?_; refine cT ?_; refine sr ?_; refine bf built64 ?_; refine sp shape64 (L.nil ?_); cases H; exact WpC.ret rt
 ·replace H := condF hc11 H
  obtain ⟨b12, hb12, H⟩ := bindS H
  rcases Bool.eq_false_or_eq_true ((b12 != a0.realm)) with hc13 | hc13
  ·replace H := condT hc13 H
   refine A.begin mixed rfl rfl ?_; intro W hI hO
   have n4095 : W 13 #[true, true, true, true, true, true, true, true, true, true, true, true, false, false, false, false, false, false, false, false, false, false, false, false, false] (mkSt [(2, oI a2), (4, oP 0 0), (5, oP 1 0), (7, oP 2 0), (8, oP 3 0), (9, one (cI (IntKind.i64.wrap (a1.Client - 3)))), (20, oL false), (26, oI b12), (28, oI a0.realm)] [] [(0, (bT_asked g0 g1 g2 g3 g4 a0)), (1, (bT_Ticket g5 g6 a1)), (2, (bT_Rest a3)), (3, zc0)] 4) := by
    refine hI _ _ _ ?_; refine Atk 12 rfl (Ca.bin rfl rfl (calm_int _ _ _ _ _ _ _ _)) (fun Q0 k0 => bi (L.nil k0)) ?_; refine tP 13 ?_; refine tM 14 ?_; refine A.le (τ := mkSt [(2, oI a2), (4, oP 0 0), (5, oP 1 0), (7, oP 2 0), (8, oP 3 0), (9, one (cI (IntKind.i64.wrap (a1.Client - 3)))), (31, oL true)] [] [(0, (bT_asked g0 g1 g2 g3 g4 a0)), (1, (bT_Ticket g5 g6 a1)), (2, (bT_Rest a3)), (3, zc0)] 4) (Le.mk [(0, 0), (1, 1), (2, 2), (3, 3)] hm rfl (Sa4 (Sa2 (Sa1 trivial rfl (congrArg (fun b => some (one (cL b))) hc13)))) trivial (Ba4 trivial)) ?_; refine tO 15 ?_; refine tO 16 ?_; refine tO 17 ?_; refine tO 18 ?_; refine tO 19 ?_; refine tO 20 ?_; refine tO 21 ?_; refine tO 22 ?_; refine tO 23 ?_; refine tP 24 ?_
    refine A.le (τ := mkSt [(2, oI a2), (4, oP 0 0), (5, oP 1 0), (7, oP 2 0), (8, oP 3 0), (9, one (cI (IntKind.i64.wrap (a1.Client - 3)))), (41, oL true)] [] [(0, (bT_asked g0 g1 g2 g3 g4 a0)), (1, (bT_Ticket g5 g6 a1)), (2, (bT_Rest a3)), (3, zc0)] 4) (lm [(0, 0), (1, 1), (2, 2), (3, 3)] hm) ?_; refine A.done (by kernel_rfl) ?_; refine cT ?_; refine sr ?_; refine bf built64 ?_; refine sp shape64 (L.nil ?_); cases H; exact WpC.ret rt
   have n3583 : W 14 #[true, true, true, true, true, true, true, true, true, false, true, true, false, false, false, false, false, false, false, false, false, false, false, false, false] (mkSt [(2, oI a2), (4, oP 0 0), (5, oP 1 0), (7, oP 2 0), (8, oP 3 0), (9, one (cI (IntKind.i64.wrap (a1.Client - 3)))), (20, oL false), (25, one (Cell.pe g1 (eI b12) 0)), (28, oI a0.realm)] [] [(0, (bT_asked g0 g1 g2 g3 g4 a0)), (1, (bT_Ticket g5 g6 a1)), (2, (bT_Rest a3)), (3, zc0)] 4) := by
    refine hI _ _ _ ?_; refine A.all [9] (by kernel_rfl) rfl ⟨⟨_, rfl, ?_⟩, trivial⟩; refine le shape3 (L.nil ?_); exact A.on (hO _ _ _ n4095) (lm [(0, 0), (1, 1), (2, 2), (3, 3)] hm)
   refine hI _ _ _ ?_; refine tM 0 ?_; refine A.all [1] (by kernel_rfl) rfl ⟨⟨_, rfl, ?_⟩, trivial⟩; refine c0 26 ent52 (g52 k  (IntKind.i64.wrap (a1.Client - 3)) r10 hr10) (L.nil ?_); refine Atk 2 rfl (Ca.un rfl rfl) (fun Q0 k0 => nt (L.nil k0)) ?_; refine tM 3 ?_; refine A.le (τ := mkSt [(2, oI a2), (4, oP 0 0), (5, oP 1 0), (7, oP 2 0), (8, oP 3 0), (9, one (cI (IntKind.i64.wrap (a1.Client - 3)))), (20, oL false)] [] [(0, (bT_asked g0 g1 g2 g3 g4 a0)), (1, (bT_Ticket g5 g6 a1)), (2, (bT_Rest a3)), (3, zc0)] 4) (Le.mk [(0, 22), (1, 23), (2, 24), (3, 25)] hm rfl (Sa4 (Sa2 (Sa1 trivial rfl (congrArg (fun b => some (one (cL b))) hc11)))) trivial (Ba4 trivial)) ?_; refine tF 4 underlying130 info44 ?_; refine tF 5 underlying44 info22 ?_; refine tM 7 ?_; refine tF 10 underlying130 info3 ?_
   refine A.all [6, 11] (by kernel_rfl) rfl ⟨⟨_, rfl, ?_⟩, ⟨_, rfl, ?_⟩, trivial⟩
   ·refine lp shape22 (L.nil ?_); refine Atk 8 rfl (Ca.indexAddr) (fun Q0 k0 => ix underlying22 info3 hb12 (L.nil k0)) ?_; refine A.all [9, 11] (by kernel_rfl) rfl ⟨⟨_, rfl, ?_⟩, ⟨_, rfl, ?_⟩, trivial⟩
    ·refine le shape3 (L.nil ?_); refine A.all [11] (by kernel_rfl) rfl ⟨⟨_, rfl, ?_⟩, trivial⟩; refine lp shape3 (L.nil ?_); exact A.on (hO _ _ _ n4095) (lm [(0, 0), (1, 1), (2, 2), (3, 3)] hm)
    ·refine lp shape3 (L.nil ?_); exact A.on (hO _ _ _ n3583) (lm [(0, 0), (1, 1), (2, 2), (3, 3)] hm)
   ·refine lp shape3 (L.nil ?_); refine A.all [6] (by kernel_rfl) rfl ⟨⟨_, rfl, ?_⟩, trivial⟩; refine lp shape22 (L.nil ?_); refine Atk 8 rfl (Ca.indexAddr) (fun Q0 k0 => ix underlying22 info3 hb12 (L.nil k0)) ?_; exact A.on (hO _ _ _ n3583) (lm [(0, 0), (1, 1), (2, 2), (3, 3)] hm)
  ·replace H := condF hc13 H
   obtain ⟨b14, hb14, H⟩ := bindS H
   refine A.lin (fun β => mkStL [(2, iI a2), (4, iP 22 0), (5, iP 23 0), (7, iP 24 0), (8, iP 25 0), (9, ai (one (cI (IntKind.i64.wrap (a1.Client - 3))))), (17, al (β 0) (one (cI (IntKind.i64.wrap (a1.Client - 3))))), (18, al (β 1) (one (cL r10))), (19, al (β 2) (one (cL (!r10)))), (20, al (β 3) (one (cL false))), (21, lP (β 4) 22 0), (22, lP (β 5) 22 1), (23, al (β 6) (one (Cell.sl g1 (List.map eI a0.c.ServiceRealm)))), (24, al (β 7) (one (cI (IntKind.i64.wrap (a1.Client - 3))))), (25, al (β 8) (one (Cell.pe g1 (eI b12) 0))), (26, lI (β 9) b12), (27, lP (β 10) 22 5), (28, al (β 11) (one (cI a0.realm))), (29, al (β 12) (one (cL (b12 != a0.realm)))), (30, al (β 13) (one (cL (b12 != a0.realm)))), (31, al (β 14) (one (cL false))), (32, lP (β 15) 22 0), (33, lP (β 16) 22 1), (34, al (β 17) (one (Cell.sl g1 (List.map eI a0.c.ServiceRealm)))), (35, lI (β 18) a2), (36, al (β 19) (one (Cell.pe g1 (eI b14) 0))), (37, lI (β 20) b14), (38, lP (β 21) 22 5), (39, al (β 22) (one (cI a0.realm))), (40, al (β 23) (one (cL (b14 != a0.realm)))), (41, al (β 24) (one (cL (b14 != a0.realm))))] [] [(22, ai ((bT_asked g0 g1 g2 g3 g4 a0))), (23, ai ((bT_Ticket g5 g6 a1))), (24, ai ((bT_Rest a3))), (25, ai (zc0))] 27) [([], [1, 2, 3, 4, 5, 6, 7, 8, 9, 10, 11, 12, 13, 14, 15, 16, 17, 18, 19, 20, 21, 22, 23, 24]), ([0], [2, 3, 4, 5, 6, 7, 8, 9, 10, 11, 12, 13, 14, 15, 16, 17, 18, 19, 20, 21, 22, 23, 24]), ([0, 1], [3, 4, 5, 6, 7, 8, 9, 10, 11, 12, 13, 14, 15, 16, 17, 18, 19, 20, 21, 22, 23, 24]), ([0, 1, 2], [4, 5, 6, 7, 8, 9, 10, 11, 12, 13, 14, 15, 16, 17, 18, 19, 20, 21, 22, 23, 24]), ([0, 1, 2, 3], [5, 6, 8, 9, 12, 13, 14, 15, 16, 17, 18, 19, 20, 21, 22, 23, 24]), ([0, 1, 2, 3, 4], [6, 8, 9, 12, 13, 14, 15, 16, 17, 18, 19, 20, 21, 22, 23, 24]), ([0, 1, 2, 3, 4, 5], [8, 9, 12, 13, 14, 15, 16, 17, 18, 19, 20, 21, 22, 23, 24]), ([0, 1, 2, 3], [8, 9, 12, 13, 14, 15, 16, 17, 18, 19, 20, 21, 22, 23, 24]), ([0, 1, 2, 3, 4, 5, 6, 7], [9, 12, 13, 14, 15, 16, 17, 18, 19, 20, 21, 22, 23, 24]), ([0, 1, 2, 3, 4, 5, 6, 7, 8], [12, 13, 14, 15, 16, 17, 18, 19, 20, 21, 22, 23, 24]), ([0, 1, 2, 3], [11, 12, 13, 14, 15, 16, 17, 18, 19, 20, 21, 22, 23, 24]), ([0, 1, 2, 3, 10], [12, 13, 14, 15, 16, 17, 18, 19, 20, 21, 22, 23, 24]), ([0, 1, 2, 3, 4, 5, 6, 7, 8, 9, 10, 11], [13, 14, 15, 16, 17, 18, 19, 20, 21, 22, 23, 24]), ([0, 1, 2, 3, 4, 5, 6, 7, 8, 9, 10, 11, 12], [14, 15, 16, 17, 18, 19, 20, 21, 22, 23, 24]), ([0, 1, 2, 3, 4, 5, 6, 7, 8, 9, 10, 11, 12, 13], [15, 16, 17, 18, 19, 20, 21, 22, 23, 24]), ([0, 1, 2, 3, 4, 5, 6, 7, 8, 9, 10, 11, 12, 13, 14], [16, 17, 19, 20, 23, 24]), ([0, 1, 2, 3, 4, 5, 6, 7, 8, 9, 10, 11, 12, 13, 14, 15], [17, 19, 20, 23, 24]), ([0, 1, 2, 3, 4, 5, 6, 7, 8, 9, 10, 11, 12, 13, 14, 15, 16], [19, 20, 23, 24]), ([0, 1, 2, 3, 4, 5, 6, 7, 8, 9, 10, 11, 12, 13, 14], [19, 20, 23, 24]), ([0, 1, 2, 3, 4, 5, 6, 7, 8, 9, 10, 11, 12, 13, 14, 15, 16, 17, 18], [20, 23, 24]), ([0, 1, 2, 3, 4, 5, 6, 7, 8, 9, 10, 11, 12, 13, 14, 15, 16, 17, 18, 19], [23, 24]), ([0, 1, 2, 3, 4, 5, 6, 7, 8, 9, 10, 11, 12, 13, 14], [22, 23, 24]), ([0, 1, 2, 3, 4, 5, 6, 7, 8, 9, 10, 11, 12, 13, 14, 21], [23, 24]), ([0, 1, 2, 3, 4, 5, 6, 7, 8, 9, 10, 11, 12, 13, 14, 15, 16, 17, 18, 19, 20, 21, 22], [24]), ([0, 1, 2, 3, 4, 5, 6, 7, 8, 9, 10, 11, 12, 13, 14, 15, 16, 17, 18, 19, 20, 21, 22, 23], [])] 25 mixed rfl (by kernel_rfl) ?_ ?_ ?_
   ·exact Le.lin [] hm rfl (sa2 (sa4 (kn (kn8 (kn8 (kn8 kz)))))) kz (ba (ba (ba (ba kz))))
   ·repeat' (first | exact trivial | refine ⟨⟨_, rfl, fun β => ?_⟩, ?_⟩ | fail)
    ·refine mv ?_; exact lx [] hm
    ·refine c0 27 ent52 (g52 k  (IntKind.i64.wrap (a1.Client - 3)) r10 hr10) ?_; exact lx [(26, 27)] hm
    ·refine nt ?_; exact lx [] hm
    ·refine mv ?_; exact L.nil (Le.lin [] hm rfl (sa (sa8 (sa (kn (kn4 (kn8 (kn8 kz)))) rfl rfl (congrArg (fun b => some (one (cL b))) hc11)))) kz (ba (ba (ba (ba kz)))))
    ·refine fa underlying130 info44 ?_; exact lx [] hm
    ·refine fa underlying44 info22 ?_; exact lx [] hm
    ·refine lp shape22 ?_; exact lx [] hm
    ·refine mv ?_; exact lx [] hm
    ·refine ix underlying22 info3 hb12 ?_; exact lx [] hm
    ·refine le shape3 ?_; exact lx [] hm
    ·refine fa underlying130 info3 ?_; exact lx [] hm
    ·refine lp shape3 ?_; exact lx [] hm
    ·refine bi ?_; exact lx [] hm
    ·refine pk ?_; exact lx [] hm
    ·refine mv ?_; exact L.nil (Le.lin [] hm rfl (sa4 (sa8 (sa8 (sa (kn2 (kn8 kz)) rfl rfl (congrArg (fun b => some (one (cL b))) hc13))))) kz (ba (ba (ba (ba kz)))))
    ·refine fa underlying130 info44 ?_; exact lx [] hm
    ·refine fa underlying44 info22 ?_; exact lx [] hm
    ·refine lp shape22 ?_; exact lx [] hm
    ·refine mv ?_; exact lx [] hm
    ·refine ix underlying22 info3 hb14 ?_; exact lx [] hm
    ·refine le shape3 ?_; exact lx [] hm
    ·refine fa underlying130 info3 ?_; exact lx [] hm
    ·refine lp shape3 ?_; exact lx [] hm
    ·refine bi ?_; exact lx [] hm
    ·refine pk ?_; exact lx [] hm
   refine ⟨_, (lm [(0, 22), (1, 23), (2, 24), (3, 25)] hm : Le _ _ (mkSt [(2, oI a2), (4, oP 0 0), (5, oP 1 0), (7, oP 2 0), (8, oP 3 0), (9, one (cI (IntKind.i64.wrap (a1.Client - 3)))), (41, oL (b14 != a0.realm))] [] [(0, (bT_asked g0 g1 g2 g3 g4 a0)), (1, (bT_Ticket g5 g6 a1)), (2, (bT_Rest a3)), (3, zc0)] 4)), ?_⟩; refine cd H (fun hc H => ?_) (fun hc H => ?_)
   ·refine sr ?_; refine bf built64 ?_; refine sp shape64 (L.nil ?_); cases H; exact WpC.ret rt
   ·refine WpC.skip (WpC.seq ?_); obtain ⟨b15, hb15, H⟩ := bindS H; obtain ⟨r16, hr16, H⟩ := bindS H; obtain ⟨r17, hr17, H⟩ := bindS H
    refine A.lin (fun β => mkStL [(2, iI a2), (4, iP 0 0), (5, iP 1 0), (7, iP 2 0), (8, iP 3 0), (9, ai (one (cI (IntKind.i64.wrap (a1.Client - 3))))), (10, lP (β 11) 14 0), (11, al (β 13) (one (cL r17.2))), (43, al (β 8) (Slot.tup [V.agg [cI r17.1.Client, cI r17.1.Service, cI r17.1.Key, cI r17.1.Rest.Servers, cI r17.1.Rest.Ops, cI r17.1.Rest.End, Cell.own 11, Cell.own 12], V.one (cL r17.2)])), (44, lP (β 0) 0 9), (45, al (β 1) (one (Cell.sl g4 (List.map eS a0.parts)))), (46, al (β 2) (one (Cell.pe g4 (eS b15) 0))), (47, al (β 3) (one (cS b15))), (48, lP (β 4) 1 0), (49, al (β 5) (one (cI a1.Client))), (50, lI (β 6) r16), (51, al (β 7) (Slot.tup [V.agg [cI r17.1.Client, cI r17.1.Service, cI r17.1.Key, cI r17.1.Rest.Servers, cI r17.1.Rest.Ops, cI r17.1.Rest.End, Cell.own 11, Cell.own 12], V.one (cL r17.2)])), (52, al (β 9) (agg [cI r17.1.Client, cI r17.1.Service, cI r17.1.Key, cI r17.1.Rest.Servers, cI r17.1.Rest.Ops, cI r17.1.Rest.End, Cell.own 11, Cell.own 12])), (53, al (β 10) (one (cL r17.2)))] [(11, al (β 7) (⟨1, List.map eI r17.1.Path⟩)), (12, al (β 7) (⟨1, List.map eI r17.1.Via⟩))] [(0, ai ((bT_asked g0 g1 g2 g3 g4 a0))), (1, ai ((bT_Ticket g5 g6 a1))), (2, ai ((bT_Rest a3))), (3, ai (zc0)), (14, [(β 12, some ([cI r17.1.Client, cI r17.1.Service, cI r17.1.Key, cI r17.1.Rest.Servers, cI r17.1.Rest.Ops, cI r17.1.Rest.End, Cell.own 11, Cell.own 12])), (β 11, some (zc1))])] 15) [([], [1, 2, 3, 7, 8, 9, 10, 12, 13]), ([0], [2, 3, 7, 8, 9, 10, 12, 13]), ([0, 1], [3, 7, 8, 9, 10, 12, 13]), ([0, 1, 2], [7, 8, 9, 10, 12, 13]), ([], [5, 6, 7, 8, 9, 10, 12, 13]), ([4], [6, 7, 8, 9, 10, 12, 13]), ([4, 5], [7, 8, 9, 10, 12, 13]), ([0, 1, 2, 3, 4, 5, 6], [8, 9, 10, 12, 13]), ([0, 1, 2, 3, 4, 5, 6, 7], [9, 10, 12, 13]), ([0, 1, 2, 3, 4, 5, 6, 7, 8], [12, 13]), ([0, 1, 2, 3, 4, 5, 6, 7, 8], [13]), ([], [12, 13]), ([0, 1, 2, 3, 4, 5, 6, 7, 8, 9, 11], [13]), ([0, 1, 2, 3, 4, 5, 6, 7, 8, 9, 10, 11, 12], [])] 14 mixed rfl (by kernel_rfl) ?_ ?_ ?_
    ·exact Le.lin [] hm rfl (sa2 (sa4 (kn (kn4 (kn8 kz))))) (kn2 kz) (ba (ba (ba (ba (kn kz)))))
    ·repeat' (first | exact trivial | refine ⟨⟨_, rfl, fun β => ?_⟩, ?_⟩ | fail)
     ·refine fa underlying130 info70 ?_; exact lx [] hm
     ·refine lp shape70 ?_; exact lx [] hm
     ·refine ix underlying70 info9 hb15 ?_; exact lx [] hm
     ·refine le shape9 ?_; exact lx [] hm
     ·refine fa underlying76 info3 ?_; exact lx [] hm
     ·refine lp shape3 ?_; exact lx [] hm
     ·refine c0 15 ent119 (g119 k  a1.Client r16 hr16) ?_; exact lx [(4, 15)] hm
     ·refine c0 15 ent118 (g118 k  b15 r16 r17 hr17) ?_; exact lx [(5, 15), (6, 16), (7, 17), (8, 18), (9, 19), (10, 20), (11, 21), (12, 22), (13, 23)] hm
     ·refine mv ?_; exact lx [] hm
     ·refine ex ?_; exact lx [] hm
     ·refine ex ?_; exact lx [] hm
     ·refine alc 15 info76 ?_; exact lx [(14, 15)] hm
     ·refine sp shape76 ?_; exact lx [] hm
     ·refine ag ?_; exact lx [] hm
    refine ⟨_, (lm [(0, 0), (1, 1), (2, 2), (3, 3), (4, 14), (5, 11), (6, 12)] hm : Le _ _ (mkSt [(2, oI a2), (4, oP 0 0), (5, oP 1 0), (7, oP 2 0), (8, oP 3 0), (9, one (cI (IntKind.i64.wrap (a1.Client - 3)))), (10, oP 4 0), (11, oL r17.2)] [(5, ⟨1, List.map eI r17.1.Path⟩), (6, ⟨1, List.map eI r17.1.Via⟩)] [(0, (bT_asked g0 g1 g2 g3 g4 a0)), (1, (bT_Ticket g5 g6 a1)), (2, (bT_Rest a3)), (3, zc0), (4, [cI r17.1.Client, cI r17.1.Service, cI r17.1.Key, cI r17.1.Rest.Servers, cI r17.1.Rest.Ops, cI r17.1.Rest.End, Cell.own 5, Cell.own 6])] 7)), ?_⟩; refine WpC.seq (WpC.block ?_)
    refine WpC.join (fun σ => ∃ (kj2 : Nat) (v34 v35 : Int) (v36 : Bool) (v37 : T_asked) (v38 : T_Ticket) (v39 : T_Rest) (v40 v41 v42 v43 v44 v45 : Int) (v46 v47 : List Int), kj2 ≤ K ∧ I_asked_delegate.j2 kj2 v34 v35 v36 v37 v38 v39 v40 v41 v42 v43 v44 v45 v46 v47 = some r ∧ σ = mkSt [(2, oI v34), (4, oP 0 0), (5, oP 1 0), (7, oP 2 0), (8, oP 3 0), (9, oI v35), (10, oP 4 0), (54, oL v36)] [(5, ⟨1, List.map eI v46⟩), (6, ⟨1, List.map eI v47⟩)] [(0, (bT_asked g0 g1 g2 g3 g4 v37)), (1, (bT_Ticket g5 g6 v38)), (2, (bT_Rest v39)), (3, zc0), (4, [cI v40, cI v41, cI v42, cI v43, cI v44, cI v45, Cell.own 5, Cell.own 6])] 7) ?_ ?_
    ·rintro _ ⟨kj2, v34, v35, v36, v37, v38, v39, v40, v41, v42, v43, v44, v45, v46, v47, hkj2, H, rfl⟩
     unfold I_asked_delegate.j2 at H; refine cd H (fun hc H => ?_) (fun hc H => ?_)
     ·refine sr ?_; refine bf built64 ?_; refine sp shape64 (L.nil ?_); cases H; exact WpC.ret rt
     ·refine sr ?_; refine fa underlying130 info3 ?_; refine lp shape3 ?_; refine fa underlying76 info37 ?_; refine fa underlying37 info3 ?_; refine lp shape3 ?_; refine bi ?_; refine ag (L.nil ?_); refine cd H (fun hc H => ?_) (fun hc H => ?_)
      ·refine sr ?_; refine bf built64 ?_; refine sp shape64 (L.nil ?_); cases H; exact WpC.ret rt
      ·refine sr ?_; refine fa underlying130 info44 ?_; refine fa underlying44 info42 ?_; refine lp shape42 ?_; refine mv ?_; refine mv ?_; refine bf built147 ?_; obtain ⟨r49, hr49, H⟩ := bindS H; refine c0 7 ent172 (g172 kj2 g3 v37.c.Proxy (⟨v35, v34⟩ : T_Pair) r49 hr49) ?_; refine nt ?_; refine mv ?_; refine sH H (fun hc H => ?_) (fun hc H => ?_)
       ·(repeat refine of ?_); refine pk ?_; refine ag (L.nil ?_); refine cT ?_; refine sr ?_; refine bf built64 ?_; refine sp shape64 (L.nil ?_); cases H; exact WpC.ret rt
       ·refine fa underlying76 info22 ?_; refine lp shape22 ?_; refine L.lenR (xs := v47) (e := eI) underlying22 hF rfl rfl rfl rfl ?_; refine bi ?_; refine pk ?_; refine ag (L.nil ?_); refine cd H (fun hc H => ?_) (fun hc H => ?_)
        ·refine sr ?_; refine bf built64 ?_; refine sp shape64 (L.nil ?_); cases H; exact WpC.ret rt
        ·refine WpC.skip (WpC.seq ?_); obtain ⟨r50, hr50, H⟩ := bindS H; obtain ⟨r51, hr51, H⟩ := bindS H; obtain ⟨h52, H⟩ := condG H
         refine A.lin (fun β => mkStL [(2, iI v34), (4, iP 0 0), (5, iP 1 0), (7, iP 2 0), (8, iP 3 0), (9, iI v35), (10, iP 4 0), (12, lP (β 18) 14 0), (88, lP (β 0) 4 0), (89, lI (β 1) v40), (90, lI (β 2) v34), (91, lP (β 3) 0 7), (92, al (β 4) (one (cI v37.fresh))), (93, lP (β 5) 4 3), (94, al (β 6) (agg [cI v43, cI v44, cI v45])), (95, al (β 7) (agg (bT_Rest v39))), (96, al (β 8) (agg (bT_Rest r50))), (97, lP (β 9) 4 6), (98, al (β 10) (one (Cell.own 5))), (99, lP (β 11) 4 7), (100, al (β 12) (one (Cell.own 6))), (101, al (β 13) (one (Cell.own 11))), (102, lI (β 14) v35), (103, al (β 15) (one (Cell.own 12))), (104, al (β 16) (one (Cell.own 13))), (105, al (β 17) (agg [cI v40, cI v34, cI v37.fresh, cI r50.Servers, cI r50.Ops, cI r50.End, Cell.own 5, Cell.own 13]))] [(5, ai (⟨1, List.map eI v46⟩)), (6, ai (⟨1, List.map eI v47⟩)), (11, [(β 16, none), (β 13, some (⟨1, List.map eI r51⟩))]), (12, al (β 15) (⟨1, List.map eI ([v35] : List Int)⟩)), (13, al (β 16) (⟨1, List.map eI (r51 ++ ([v35] : List Int))⟩))] [(0, ai ((bT_asked g0 g1 g2 g3 g4 v37))), (1, ai ((bT_Ticket g5 g6 v38))), (2, ai ((bT_Rest v39))), (3, ai (zc0)), (4, ai ([cI v40, cI v41, cI v42, cI v43, cI v44, cI v45, Cell.own 5, Cell.own 6])), (14, [(β 19, some ([cI v40, cI v34, cI v37.fresh, cI r50.Servers, cI r50.Ops, cI r50.End, Cell.own 5, Cell.own 13])), (β 18, some (zc1))])] 15) [([], [1, 17, 19]), ([0], [17, 19]), ([], [17, 19]), ([], [4, 17, 19]), ([3], [17, 19]), ([], [6, 8, 13, 16, 17, 19]), ([5], [8, 13, 16, 17, 19]), ([], [8, 13, 16, 17, 19]), ([5, 6, 7], [13, 16, 17, 19]), ([], [10, 17, 19]), ([9], [17, 19]), ([], [12, 13, 16, 17, 19]), ([11], [13, 16, 17, 19]), ([5, 6, 7, 8, 11, 12], [16, 17, 19]), ([], [15, 16, 17, 19]), ([14], [16, 17, 19]), ([5, 6, 7, 8, 11, 12, 13, 14, 15], [17, 19]), ([0, 1, 2, 3, 4, 5, 6, 7, 8, 9, 10, 11, 12, 13, 14, 15, 16], [19]), ([], [19]), ([0, 1, 2, 3, 4, 5, 6, 7, 8, 9, 10, 11, 12, 13, 14, 15, 16, 17, 18], [])] 20 mixed rfl (by kernel_rfl) ?_ ?_ ?_
         ·exact Le.lin [] hm rfl (sa (sa2 (sa4 (kn (kn2 (kn8 (kn8 kz))))))) (ra (ra (kn (kn2 kz)))) (ba (ba (ba (ba (ba (kn kz))))))
         ·repeat' (first | exact trivial | refine ⟨⟨_, rfl, fun β => ?_⟩, ?_⟩ | fail)
          ·refine fa underlying76 info3 ?_; exact lx [] hm
          ·refine lp shape3 ?_; exact lx [] hm
          ·refine mv ?_; exact lx [] hm
          ·refine fa underlying130 info3 ?_; exact lx [] hm
          ·refine lp shape3 ?_; exact lx [] hm
          ·refine fa underlying76 info37 ?_; exact lx [] hm
          ·refine lp shape37 ?_; exact lx [] hm
          ·refine lp shape37 ?_; exact lx [] hm
          ·refine c0 15 ent160 (g160 kj2  (⟨v43, v44, v45⟩ : T_Rest) v39 r50 hr50) ?_; exact lx [(8, 15), (9, 16), (10, 17)] hm
          ·refine fa underlying76 info22 ?_; exact lx [] hm
          ·refine lp shape22 ?_; exact lx [] hm
          ·refine fa underlying76 info22 ?_; exact lx [] hm
          ·refine lp shape22 ?_; exact lx [] hm
          ·refine ca [false] [6] [] 15 ent58 (g58 kj2 false v47 r51 hr51) ?_; exact lx [(11, 15)] hm
          ·refine mv ?_; exact lx [] hm
          ·refine L.buildSlice (e := eI) 15 ([v35] : List Int) underlying22 info3 rfl rfl rfl hF rfl rfl rfl rfl rfl rfl rfl rfl ?_; exact lx [(12, 15)] hm
          ·refine L.append (xs := r51) (ys := ([v35] : List Int)) (e := eI) 15 underlying22 info3 rfl rfl hF rfl rfl rfl rfl rfl rfl rfl rfl (fun _ => rfl) (fun _ _ h1 h2 => by cases h1; cases h2; rfl) ⟨_, underlying22⟩ (of_decide_eq_true h52) rfl rfl ?_; exact lx [(13, 15)] hm
          ·refine bf built76 ?_; exact lx [] hm
          ·refine alc 15 info76 ?_; exact lx [(14, 15)] hm
          ·refine sp shape76 ?_; exact lx [] hm
         refine ⟨_, (lm [(0, 0), (1, 1), (2, 3), (3, 4), (4, 14), (5, 5), (6, 6), (7, 13)] hm : Le _ _ (mkSt [(2, oI v34), (4, oP 0 0), (5, oP 1 0), (8, oP 2 0), (10, oP 3 0), (12, oP 4 0)] [(5, ⟨1, List.map eI v46⟩), (6, ⟨1, List.map eI v47⟩), (7, ⟨1, List.map eI (r51 ++ ([v35] : List Int))⟩)] [(0, (bT_asked g0 g1 g2 g3 g4 v37)), (1, (bT_Ticket g5 g6 v38)), (2, zc0), (3, [cI v40, cI v41, cI v42, cI v43, cI v44, cI v45, Cell.own 5, Cell.own 6]), (4, [cI v40, cI v34, cI v37.fresh, cI r50.Servers, cI r50.Ops, cI r50.End, Cell.own 5, Cell.own 7])] 8)), ?_⟩; refine sr ?_; refine fa underlying76 info3 ?_; refine lp shape3 ?_; refine fa underlying76 info3 ?_; refine lp shape3 ?_; refine fa underlying76 info3 ?_; refine lp shape3 ?_; refine fa underlying76 info3 ?_; refine lp shape3 ?_; refine bf built62 ?_; refine alc 8 info62 ?_; refine sp shape62 (L.nil ?_); refine WpC.seq ?_; obtain ⟨r53, hr53, H⟩ := bindS H; obtain ⟨r54, hr54, H⟩ := bindS H
         refine A.lin (fun β => mkStL [(2, iI v34), (4, iP 0 0), (5, iP 1 0), (8, iP 2 0), (12, iP 4 0), (13, iP 8 0), (115, al (β 0) (agg (bT_asked g0 g1 g2 g3 g4 v37))), (116, al (β 1) (agg [cI 4, cI 0, cI v38.Client, cI v40, cI 0, cI 0, cI v38.Key, cI v42, cI 0, cI 0, cI 0])), (117, al (β 2) (agg [cI v40, cI v34, cI v37.fresh, cI r50.Servers, cI r50.Ops, cI r50.End, Cell.own 5, Cell.own 7])), (118, lI (β 3) v34), (119, al (β 4) (one (cI (IntKind.i64.wrap (3 + v34))))), (120, lI (β 5) r53), (121, lP (β 6) 1 2), (122, al (β 7) (one (cI v38.Key))), (123, al (β 8) (agg (bT_Reply r54)))] [(5, ai (⟨1, List.map eI v46⟩)), (7, ai (⟨1, List.map eI (r51 ++ ([v35] : List Int))⟩))] [(0, ai ((bT_asked g0 g1 g2 g3 g4 v37))), (1, ai ((bT_Ticket g5 g6 v38))), (2, [(β 9, some ((bT_Reply r54))), (true, some (zc0))]), (4, ai ([cI v40, cI v34, cI v37.fresh, cI r50.Servers, cI r50.Ops, cI r50.End, Cell.own 5, Cell.own 7])), (8, ai ([cI 4, cI 0, cI v38.Client, cI v40, cI 0, cI 0, cI v38.Key, cI v42, cI 0, cI 0, cI 0]))] 23) [([], [8, 9]), ([], [8, 9]), ([], [8, 9]), ([], [4, 5, 8, 9]), ([3], [5, 8, 9]), ([3, 4], [8, 9]), ([], [7, 8, 9]), ([6], [8, 9]), ([0, 1, 2, 3, 4, 5, 6, 7], [9]), ([0, 1, 2, 3, 4, 5, 6, 7, 8], [])] 10 mixed rfl (by kernel_rfl) ?_ ?_ ?_
         ·exact Le.lin [] hm rfl (sa2 (sa4 (kn (kn8 kz)))) (ra (ra kz)) (ba (ba (ba (ba (ba kz)))))
         ·repeat' (first | exact trivial | refine ⟨⟨_, rfl, fun β => ?_⟩, ?_⟩ | fail)
          ·refine lp shape130 ?_; exact lx [] hm
          ·refine lp shape62 ?_; exact lx [] hm
          ·refine lp shape76 ?_; exact lx [] hm
          ·refine mv ?_; exact lx [] hm
          ·refine bi ?_; exact lx [] hm
          ·refine c0 23 ent119 (g119 kj2  (IntKind.i64.wrap (3 + v34)) r53 hr53) ?_; exact lx [(9, 23)] hm
          ·refine fa underlying76 info3 ?_; exact lx [] hm
          ·refine lp shape3 ?_; exact lx [] hm
          ·refine ca [false, false, false, false, false] [5, 7] [] 23 ent154 (g154 kj2 g0 g1 g2 g3 g4 false false v37 (⟨4, 0, v38.Client, v40, 0, 0, v38.Key, v42, (⟨0, 0, 0⟩ : T_Rest)⟩ : T_Event) (⟨v40, v34, v37.fresh, r50, v46, (r51 ++ ([v35] : List Int))⟩ : T_Ticket) r53 v38.Key r54 hr54) ?_; exact lx [(10, 23), (11, 24), (12, 25), (13, 26), (14, 27), (15, 28), (16, 29), (17, 30), (18, 31), (19, 32), (20, 33), (21, 34), (22, 35)] hm
          ·refine sp shape64 ?_; exact lx [] hm
         refine ⟨_, (lm [(0, 2)] hm : Le _ _ (mkSt [(8, oP 0 0)] [] [(0, (bT_Reply r54))] 1)), ?_⟩; cases H; exact WpC.ret rt
    ·refine WpC.regionL ?_; refine mv ?_; refine nt ?_; refine mv ?_; refine sH H (fun hc H => ?_) (fun hc H => ?_)
     ·(repeat refine of ?_); refine pk ?_; refine ag (L.nil ?_); exact ⟨_, ⟨k, a2, (IntKind.i64.wrap (a1.Client - 3)), true, a0, a1, a3, r17.1.Client, r17.1.Service, r17.1.Key, r17.1.Rest.Servers, r17.1.Rest.Ops, r17.1.Rest.End, r17.1.Path, r17.1.Via, by omega, H, rfl⟩, lm [(0, 0), (1, 1), (2, 2), (3, 3), (4, 4), (5, 5), (6, 6)] hm⟩
     ·refine fa underlying76 info3 ?_; refine lp shape3 ?_; refine mv ?_; refine bi ?_; refine pk ?_; refine ag (L.nil ?_); exact ⟨_, ⟨k, a2, (IntKind.i64.wrap (a1.Client - 3)), (r17.1.Service != (IntKind.i64.wrap (a1.Client - 3))), a0, a1, a3, r17.1.Client, r17.1.Service, r17.1.Key, r17.1.Rest.Servers, r17.1.Rest.Ops, r17.1.Rest.End, r17.1.Path, r17.1.Via, by omega, H, rfl⟩, lm [(0, 0), (1, 1), (2, 2), (3, 3), (4, 4), (5, 5), (6, 6)] hm⟩
/-! ### I_far -/
def I_far.j19 (cl17 : Int → Int → Int → Int → T_Config → Int → Int → Option Int) (k : Nat) (v185 v186 v187 v188 : Int) (v189 : T_Config) (v190 v191 : Int) : Option Int := cl17 v185 v186 v187 v188 v189 v190 (IntKind.i64.wrap (v191 + 1))
def I_far.j20 (cREC : T_Config → Int → Int → Int → Option Int) (cl17 : Int → Int → Int → Int → T_Config → Int → Int → Option Int) (k : Nat) (v193 v194 v195 v196 : Int) (v197 : T_Config) (v198 v199 : Int) (v200 : Bool) (v201 : T_Pair) : Option Int := cond v200 ((cREC v197 v201.B v194 (IntKind.i64.wrap (v195 - 1))).bind fun r202 => I_far.j19 cl17 k v193 v194 v195 (if (IntKind.i64.wrap (1 + r202)) < v196 then (IntKind.i64.wrap (1 + r202)) else v196) v197 v198 v199) (I_far.j19 cl17 k v193 v194 v195 v196 v197 v198 v199)
def I_far.l17 (cREC : T_Config → Int → Int → Int → Option Int) : Nat → Int → Int → Int → Int → T_Config → Int → Int → Option Int
 | 0, _, _, _, _, _, _, _ => none
 | k17 + 1, v167, v168, v169, v170, v171, v172, v173 => cond (decide (v173 < v172)) ((at? v171.Links v173).bind fun b192 => cond (b192.A == v167) (I_far.j20 cREC (I_far.l17 cREC k17) k17 v167 v168 v169 v170 v171 v172 v173 (decide (v169 > 0)) b192) (I_far.j20 cREC (I_far.l17 cREC k17) k17 v167 v168 v169 v170 v171 v172 v173 false b192)) (some v170)
def I_far : Nat → T_Config → Int → Int → Int → Option Int
 | 0, _, _, _, _ => none
 | k + 1, a0, a1, a2, a3 => cond (a1 == a2) (some 0) (I_far.l17 (I_far k) k a1 a2 a3 3 a0 (a0.Links.length : Int) 0)
theorem ent190 : MG.Enters Tryz.prog 190 := ⟨Tryz.f190, func190, rfl, by decide⟩
theorem g190 : ∀ (k : Nat) (g0 g1 g2 g3 : Bool) (a0 : T_Config) (a1 a2 a3 r : Int) (H : I_far k a0 a1 a2 a3 = some r), Gives Tryz.prog 190 [V.agg (bT_Config g0 g1 g2 g3 a0), V.one (cI a1), V.one (cI a2), V.one (cI a3)] [] [V.one (cI r)] [] := by
 intro k
 induction k with
 | zero => intros; rename_i H; cases H
 | succ k ih =>
  intro g0 g1 g2 g3 a0 a1 a2 a3 r H; refine Gives.intro func190 rfl rfl rfl rfl ?_; refine fx fun w0 T S0 ob oh hm => ?_
  have hF := fxe w0 T S0 42 ob oh
  rw [I_far] at H
  obtain ⟨K, hK⟩ := leK k; refine sr ?_; refine bo 8 ?_; refine ag (L.nil ?_); refine WpC.seq (sr ?_); refine mv ?_; refine mv ?_; refine bi (L.nil ?_); refine cd H (fun hc H => ?_) (fun hc H => ?_)
  ·refine sr ?_; refine ag (L.nil ?_); cases H; exact WpC.ret rt
  ·refine WpC.skip (sr ?_); refine ag (L.nil ?_); refine WpC.seq (sr ?_); refine fa underlying44 info42 ?_; refine lp shape42 ?_; refine L.lenR (xs := a0.Links) (e := eT_Pair) underlying42 hF rfl rfl rfl rfl ?_; refine mv (L.nil ?_); refine WpC.block ?_; refine WpC.loopL (P := Tryz.prog) (fun n σ => ∃ (v167 v168 v169 v170 : Int) (v171 : T_Config) (v172 v173 : Int), n ≤ K ∧ I_far.l17 (I_far k) n v167 v168 v169 v170 v171 v172 v173 = some r ∧ σ = mkSt [(1, oI v167), (2, oI v168), (3, oI v169), (4, oP 0 0), (9, oI v170), (16, one (Cell.sl g2 (List.map eT_Pair v171.Links))), (17, oI v172), (18, oI v173)] [] [(0, (bT_Config g0 g1 g2 g3 v171))] 1) k ⟨_, ⟨a1, a2, a3, 3, a0, (a0.Links.length : Int), 0, by omega, H, rfl⟩, lm [(0, 8)] hm⟩ ?_; clear H
   rintro k17 _ ⟨v167, v168, v169, v170, v171, v172, v173, hk17, H, rfl⟩
   cases k17 with
   | zero => cases H
   | succ k17 =>
    rw [I_far.l17] at H
    refine sr ?_; refine bi (L.nil ?_); refine WpC.seq ?_; refine cd H (fun hc H => ?_) (fun hc H => ?_)
    ·refine WpC.skip ?_; refine WpC.join (fun σ => ∃ (kj19 : Nat) (v185 v186 v187 v188 : Int) (v189 : T_Config) (v190 v191 : Int), kj19 ≤ K ∧ I_far.j19 (I_far.l17 (I_far k) k17) kj19 v185 v186 v187 v188 v189 v190 v191 = some r ∧ σ = mkSt [(1, oI v185), (2, oI v186), (3, oI v187), (4, oP 0 0), (9, oI v188), (16, one (Cell.sl g2 (List.map eT_Pair v189.Links))), (17, oI v190), (18, oI v191)] [] [(0, (bT_Config g0 g1 g2 g3 v189))] 1) ?_ ?_
     ·rintro _ ⟨kj19, v185, v186, v187, v188, v189, v190, v191, hkj19, H, rfl⟩
      unfold I_far.j19 at H; refine WpC.regionL ?_; refine bi ?_; refine mv (L.nil ?_); exact ⟨k17, _, by omega, ⟨v185, v186, v187, v188, v189, v190, (IntKind.i64.wrap (v191 + 1)), by omega, H, rfl⟩, lm [(0, 0)] hm⟩
     ·refine WpC.block (sr ?_); obtain ⟨b192, hb192, H⟩ := bindS H; refine ix underlying42 info147 hb192 ?_; refine le shape147 ?_; refine alc 1 info147 ?_; refine sp shape147 (L.nil ?_); refine WpC.join (fun σ => ∃ (kj20 : Nat) (v193 v194 v195 v196 : Int) (v197 : T_Config) (v198 v199 : Int) (v200 : Bool) (v201 : T_Pair), kj20 ≤ K ∧ I_far.j20 (I_far k) (I_far.l17 (I_far k) k17) kj20 v193 v194 v195 v196 v197 v198 v199 v200 v201 = some r ∧ σ = mkSt [(1, oI v193), (2, oI v194), (3, oI v195), (4, oP 0 0), (9, oI v196), (11, oP 1 0), (16, one (Cell.sl g2 (List.map eT_Pair v197.Links))), (17, oI v198), (18, oI v199), (29, oL v200)] [] [(0, (bT_Config g0 g1 g2 g3 v197)), (1, [cI v201.A, cI v201.B])] 2) ?_ ?_
      ·rintro _ ⟨kj20, v193, v194, v195, v196, v197, v198, v199, v200, v201, hkj20, H, rfl⟩
       unfold I_far.j20 at H; refine cd H (fun hc H => ?_) (fun hc H => ?_)
       ·refine WpC.regionL ?_; refine mv ?_; refine lp shape44 ?_; refine fa underlying147 info3 ?_; refine lp shape3 ?_; refine mv ?_; refine mv ?_; refine bi ?_; obtain ⟨r202, hr202, H⟩ := bindS H; refine c0 2 ent190 (ih g0 g1 g2 g3 v197 v201.B v194 (IntKind.i64.wrap (v195 - 1)) r202 hr202) ?_; refine bi ?_; refine L.minI hF rfl rfl rfl rfl ?_; refine ag (L.nil ?_); exact ⟨_, ⟨kj20, v193, v194, v195, (if (IntKind.i64.wrap (1 + r202)) < v196 then (IntKind.i64.wrap (1 + r202)) else v196), v197, v198, v199, by omega, H, rfl⟩, lm [(0, 0)] hm⟩
       ·refine WpC.skip ?_; exact ⟨_, ⟨kj20, v193, v194, v195, v196, v197, v198, v199, by omega, H, rfl⟩, lm [(0, 0)] hm⟩
      ·refine WpC.regionL ?_; refine fa underlying147 info3 ?_; refine lp shape3 ?_; refine mv ?_; refine bi ?_; refine mv ?_; refine sH H (fun hc H => ?_) (fun hc H => ?_)
       ·refine mv ?_; refine bi ?_; refine pk (L.nil ?_); exact ⟨_, ⟨k17, v167, v168, v169, v170, v171, v172, v173, (decide (v169 > 0)), b192, by omega, H, rfl⟩, lm [(0, 0), (1, 1)] hm⟩
       ·(repeat refine of ?_); refine pk (L.nil ?_); exact ⟨_, ⟨k17, v167, v168, v169, v170, v171, v172, v173, false, b192, by omega, H, rfl⟩, lm [(0, 0), (1, 1)] hm⟩
    ·refine WpC.exit (sr ?_); refine mv ?_; refine ag (L.nil ?_); cases H; exact WpC.ret rt
/-! ### I_NextHop -/
def I_NextHop.j19 (cl17 : Int → Int → Int → Int → Int → T_Config → Option Int) (k : Nat) (v180 v181 v182 v183 v184 : Int) (v185 : T_Config) : Option Int := cl17 v180 v181 v182 v183 (IntKind.i64.wrap (v184 + 1)) v185
def I_NextHop.j20 (cl17 : Int → Int → Int → Int → Int → T_Config → Option Int) (k : Nat) (v188 v189 v190 v191 v192 v193 : Int) (v194 : Bool) (v195 : T_Config) : Option Int := cond v194 (I_NextHop.j19 cl17 k v188 v189 v192 v193 v192 v195) (I_NextHop.j19 cl17 k v188 v189 v190 v191 v192 v195)
def I_NextHop.l17 : Nat → Int → Int → Int → Int → Int → T_Config → Option Int
 | 0, _, _, _, _, _, _ => none
 | k17 + 1, v163, v164, v165, v166, v167, v168 => cond (decide (v167 < 3)) ((I_far k17 v168 v167 v164 3).bind fun r186 => (V_Contains_Pair k17 v168.Links (⟨v163, v167⟩ : T_Pair)).bind fun r196 => cond r196 (I_NextHop.j20 (I_NextHop.l17 k17) k17 v163 v164 v165 v166 v167 r186 (decide (r186 < v166)) v168) (I_NextHop.j20 (I_NextHop.l17 k17) k17 v163 v164 v165 v166 v167 r186 false v168)) (some v165)
def I_NextHop (k : Nat) (a0 : T_Config) (a1 a2 : Int) : Option Int := (I_ConfigOk k a0).bind fun r10 => cond (!r10) (some (-1)) ((I_isRealm k a1).bind fun r11 => cond (!r11) (some (-1)) ((I_isRealm k a2).bind fun r12 => cond (!r12) (some (-1)) (cond (a1 == a2) (some (-1)) (I_NextHop.l17 k a1 a2 (-1) 3 0 a0))))
theorem ent161 : MG.Enters Tryz.prog 161 := ⟨Tryz.f161, func161, rfl, by decide⟩
theorem g161 (k : Nat) (g0 g1 g2 g3 : Bool) (a0 : T_Config) (a1 a2 r : Int) (H : I_NextHop k a0 a1 a2 = some r) : Gives Tryz.prog 161 [V.agg (bT_Config g0 g1 g2 g3 a0), V.one (cI a1), V.one (cI a2)] [] [V.one (cI r)] [] := by
 refine Gives.intro func161 rfl rfl rfl rfl ?_; refine fx fun w0 T S0 ob oh hm => ?_
 have hF := fxe w0 T S0 51 ob oh
 unfold I_NextHop at H; obtain ⟨K, hK⟩ := leK k; refine sr ?_; refine bo 7 ?_; refine ag (L.nil ?_); refine WpC.seq (sr ?_); refine lp shape44 ?_; obtain ⟨r10, hr10, H⟩ := bindS H; refine c0 8 ent51 (g51 k g0 g1 g2 g3 a0 r10 hr10) ?_; refine nt ?_; refine mv ?_; refine sH H (fun hc H => ?_) (fun hc H => ?_)
 ·(repeat refine of ?_); refine pk ?_; refine mv ?_; (repeat refine of ?_); refine pk ?_; refine mv ?_; (repeat refine of ?_); refine pk (L.nil ?_); refine cT ?_; refine sr ?_; refine ag (L.nil ?_); cases H; exact WpC.ret rt
 ·refine mv ?_; obtain ⟨r11, hr11, H⟩ := bindS H; refine c0 9 ent89 (g89 k  a1 r11 hr11) ?_; refine nt ?_; refine pk ?_; refine mv ?_; refine sH H (fun hc H => ?_) (fun hc H => ?_)
  ·(repeat refine of ?_); refine pk ?_; refine mv ?_; (repeat refine of ?_); refine pk (L.nil ?_); refine cT ?_; refine sr ?_; refine ag (L.nil ?_); cases H; exact WpC.ret rt
  ·refine mv ?_; obtain ⟨r12, hr12, H⟩ := bindS H; refine c0 10 ent89 (g89 k  a2 r12 hr12) ?_; refine nt ?_; refine pk ?_; refine mv ?_; refine sH H (fun hc H => ?_) (fun hc H => ?_)
   ·(repeat refine of ?_); refine pk (L.nil ?_); refine cT ?_; refine sr ?_; refine ag (L.nil ?_); cases H; exact WpC.ret rt
   ·refine mv ?_; refine mv ?_; refine bi ?_; refine pk (L.nil ?_); refine cd H (fun hc H => ?_) (fun hc H => ?_)
    ·refine sr ?_; refine ag (L.nil ?_); cases H; exact WpC.ret rt
    ·refine WpC.skip (sr ?_); refine ag ?_; refine ag (L.nil ?_); refine WpC.seq (sr ?_); refine mv (L.nil ?_); refine WpC.block ?_; refine WpC.loopL (P := Tryz.prog) (fun n σ => ∃ (v163 v164 v165 v166 v167 : Int) (v168 : T_Config), n ≤ K ∧ I_NextHop.l17 n v163 v164 v165 v166 v167 v168 = some r ∧ σ = mkSt [(1, oI v163), (2, oI v164), (3, oP 0 0), (7, oI v165), (8, oI v166), (29, oI v167)] [] [(0, (bT_Config g0 g1 g2 g3 v168))] 1) k ⟨_, ⟨a1, a2, (-1), 3, 0, a0, by omega, H, rfl⟩, lm [(0, 7)] hm⟩ ?_; clear H
     rintro k17 _ ⟨v163, v164, v165, v166, v167, v168, hk17, H, rfl⟩
     cases k17 with
     | zero => cases H
     | succ k17 =>
      rw [I_NextHop.l17] at H
      refine sr ?_; refine bi (L.nil ?_); refine WpC.seq ?_; refine cd H (fun hc H => ?_) (fun hc H => ?_)
      ·refine WpC.skip ?_; refine WpC.join (fun σ => ∃ (kj19 : Nat) (v180 v181 v182 v183 v184 : Int) (v185 : T_Config), kj19 ≤ K ∧ I_NextHop.j19 (I_NextHop.l17 k17) kj19 v180 v181 v182 v183 v184 v185 = some r ∧ σ = mkSt [(1, oI v180), (2, oI v181), (3, oP 0 0), (7, oI v182), (8, oI v183), (29, oI v184)] [] [(0, (bT_Config g0 g1 g2 g3 v185))] 1) ?_ ?_
       ·rintro _ ⟨kj19, v180, v181, v182, v183, v184, v185, hkj19, H, rfl⟩
        unfold I_NextHop.j19 at H; refine WpC.regionL ?_; refine bi ?_; refine mv (L.nil ?_); exact ⟨k17, _, by omega, ⟨v180, v181, v182, v183, (IntKind.i64.wrap (v184 + 1)), v185, by omega, H, rfl⟩, lm [(0, 0)] hm⟩
       ·refine WpC.block (sr ?_); refine mv ?_; refine ag (L.nil ?_); refine sr ?_; refine lp shape44 ?_; refine mv ?_; refine mv ?_; obtain ⟨r186, hr186, H⟩ := bindS H; refine c0 1 ent190 (g190 k17 g0 g1 g2 g3 v168 v167 v164 3 r186 hr186) ?_; refine ag (L.nil ?_); refine WpC.join (fun σ => ∃ (kj20 : Nat) (v188 v189 v190 v191 v192 v193 : Int) (v194 : Bool) (v195 : T_Config), kj20 ≤ K ∧ I_NextHop.j20 (I_NextHop.l17 k17) kj20 v188 v189 v190 v191 v192 v193 v194 v195 = some r ∧ σ = mkSt [(1, oI v188), (2, oI v189), (3, oP 0 0), (7, oI v190), (8, oI v191), (9, oI v192), (10, oI v193), (29, oI v192), (46, oL v194)] [] [(0, (bT_Config g0 g1 g2 g3 v195))] 1) ?_ ?_
        ·rintro _ ⟨kj20, v188, v189, v190, v191, v192, v193, v194, v195, hkj20, H, rfl⟩
         unfold I_NextHop.j20 at H; refine cd H (fun hc H => ?_) (fun hc H => ?_)
         ·refine WpC.regionL ?_; refine mv ?_; refine mv ?_; refine ag ?_; refine ag (L.nil ?_); exact ⟨_, ⟨kj20, v188, v189, v192, v193, v192, v195, by omega, H, rfl⟩, lm [(0, 0)] hm⟩
         ·refine WpC.skip ?_; exact ⟨_, ⟨kj20, v188, v189, v190, v191, v192, v195, by omega, H, rfl⟩, lm [(0, 0)] hm⟩
        ·refine WpC.regionL ?_; refine fa underlying44 info42 ?_; refine lp shape42 ?_; refine mv ?_; refine mv ?_; refine bf built147 ?_; obtain ⟨r196, hr196, H⟩ := bindS H; refine c0 2 ent172 (g172 k17 g2 v168.Links (⟨v163, v167⟩ : T_Pair) r196 hr196) ?_; refine mv ?_; refine sH H (fun hc H => ?_) (fun hc H => ?_)
         ·refine mv ?_; refine mv ?_; refine bi ?_; refine pk (L.nil ?_); exact ⟨_, ⟨k17, v163, v164, v165, v166, v167, r186, (decide (r186 < v166)), v168, by omega, H, rfl⟩, lm [(0, 0)] hm⟩
         ·(repeat refine of ?_); refine pk (L.nil ?_); exact ⟨_, ⟨k17, v163, v164, v165, v166, v167, r186, false, v168, by omega, H, rfl⟩, lm [(0, 0)] hm⟩
      ·refine WpC.exit (sr ?_); refine mv ?_; refine ag (L.nil ?_); cases H; exact WpC.ret rt
/-! ### I_asked_ask -/
def I_asked_ask.j3 (k : Nat) (v57 v58 : Int) (v59 : T_asked) (v60 v61 v62 : Int) (v63 : T_Rest) (v64 v65 : List Int) : Option T_Reply := (I_asked_given k v59 (⟨v60, 0, v61, v61, 0, 0, v57, 0, (⟨0, 0, 0⟩ : T_Rest)⟩ : T_Event) (⟨v61, v62, v59.fresh, v63, v64, v65⟩ : T_Ticket) v58 v57).bind fun r66 => some r66
def I_asked_ask.j2 (k : Nat) (v31 : Int) (v32 : Bool) (v33 : T_asked) (v34 v35 v36 v37 v38 v39 v40 v41 v42 : Int) (v43 v44 : List Int) (v45 v46 v47 : Int) : Option T_Reply := cond v32 (some (⟨2, ([] : List UInt8), (⟨0, 0, 0, 0, 0, 0, 0, 0, (⟨0, 0, 0⟩ : T_Rest)⟩ : T_Event)⟩ : T_Reply)) ((I_apart k v46 v33.now).bind fun r48 => cond (decide (r48 > v33.c.Skew)) (some (⟨3, ([] : List UInt8), (⟨0, 0, 0, 0, 0, 0, 0, 0, (⟨0, 0, 0⟩ : T_Rest)⟩ : T_Event)⟩ : T_Reply)) (cond (decide (v33.now > v42)) (some (⟨4, ([] : List UInt8), (⟨0, 0, 0, 0, 0, 0, 0, 0, (⟨0, 0, 0⟩ : T_Rest)⟩ : T_Event)⟩ : T_Reply)) (cond (decide ((v43.length : Int) > 6)) (some (⟨5, ([] : List UInt8), (⟨0, 0, 0, 0, 0, 0, 0, 0, (⟨0, 0, 0⟩ : T_Rest)⟩ : T_Event)⟩ : T_Reply)) ((at? v33.parts 4).bind fun b49 => (I_Atom k ([] : List UInt8)).bind fun r50 => cond (b49 != r50) ((I_asked_delegate k v33 (⟨v37, v38, v39, (⟨v40, v41, v42⟩ : T_Rest), v43, v44⟩ : T_Ticket) v31 (⟨v34, v35, v36⟩ : T_Rest)).bind fun r51 => some r51) ((at? v33.c.ServiceRealm v31).bind fun b52 => (I_PrincipalKey k (IntKind.i64.wrap (3 + v31))).bind fun r53 => (I_Meet k (⟨v40, v41, v42⟩ : T_Rest) (⟨v34, v35, v36⟩ : T_Rest)).bind fun r54 => cond (b52 != v33.realm) ((I_NextHop k v33.c v33.realm b52).bind fun r67 => cond (decide (r67 < 0)) (some (⟨5, ([] : List UInt8), (⟨0, 0, 0, 0, 0, 0, 0, 0, (⟨0, 0, 0⟩ : T_Rest)⟩ : T_Event)⟩ : T_Reply)) ((I_LinkKey k v33.realm r67).bind fun r68 => I_asked_ask.j3 k v39 r68 v33 3 v37 (IntKind.i64.wrap (10 + r67)) r54 v43 v44)) (I_asked_ask.j3 k v39 r53 v33 2 v37 v31 r54 v43 v44))))))
def I_asked_ask (k : Nat) (a0 : T_asked) (a1 : Int) : Option T_Reply := (at? a0.parts 3).bind fun b1 => (I_ReadRest k b1).bind fun r2 => (I_asked_ticket k a0).bind fun r3 => (I_isService k a1).bind fun r7 => cond (!r7) (some (⟨1, ([] : List UInt8), (⟨0, 0, 0, 0, 0, 0, 0, 0, (⟨0, 0, 0⟩ : T_Rest)⟩ : T_Event)⟩ : T_Reply)) (cond (!r2.2) (some (⟨1, ([] : List UInt8), (⟨0, 0, 0, 0, 0, 0, 0, 0, (⟨0, 0, 0⟩ : T_Rest)⟩ : T_Event)⟩ : T_Reply)) (cond (!r3.2) (some (⟨1, ([] : List UInt8), (⟨0, 0, 0, 0, 0, 0, 0, 0, (⟨0, 0, 0⟩ : T_Rest)⟩ : T_Event)⟩ : T_Reply)) ((at? a0.parts 2).bind fun b8 => (I_ReadAuth k b8 r3.1.Key).bind fun r9 => cond (!r9.2) (I_asked_ask.j2 k a1 true a0 r2.1.Servers r2.1.Ops r2.1.End r3.1.Client r3.1.Service r3.1.Key r3.1.Rest.Servers r3.1.Rest.Ops r3.1.Rest.End r3.1.Path r3.1.Via r9.1.Client r9.1.Time r9.1.Seq) (I_asked_ask.j2 k a1 (r9.1.Client != r3.1.Client) a0 r2.1.Servers r2.1.Ops r2.1.End r3.1.Client r3.1.Service r3.1.Key r3.1.Rest.Servers r3.1.Rest.Ops r3.1.Rest.End r3.1.Path r3.1.Via r9.1.Client r9.1.Time r9.1.Seq))))
theorem ent94 : MG.Enters Tryz.prog 94 := ⟨Tryz.f94, func94, rfl, by decide⟩
theorem g94 (k : Nat) (g0 g1 g2 g3 g4 : Bool) (a0 : T_asked) (a1 : Int) (r : T_Reply) (H : I_asked_ask k a0 a1 = some r) : Gives Tryz.prog 94 [V.agg (bT_asked g0 g1 g2 g3 g4 a0), V.one (cI a1)] [] [V.agg (bT_Reply r)] [] := by
 refine Gives.intro func94 rfl rfl rfl rfl ?_; refine fx fun w0 T S0 ob oh hm => ?_
 have hF := fxe w0 T S0 159 ob oh
 unfold I_asked_ask at H; obtain ⟨K, hK⟩ := leK k; refine sr ?_; refine bo 11 ?_; refine alc 12 info64 (L.nil ?_); refine sr ?_; refine fa underlying130 info70 ?_; refine lp shape70 ?_; obtain ⟨b1, hb1, H⟩ := bindS H; refine ix underlying70 info9 hb1 ?_; refine le shape9 ?_; obtain ⟨r2, hr2, H⟩ := bindS H; refine c0 13 ent156 (g156 k  b1 r2 hr2) ?_; refine mv ?_; refine ex ?_; refine ex ?_; refine alc 17 info37 ?_; refine sp shape37 ?_; refine ag (L.nil ?_); refine sr ?_; refine lp shape130 ?_; obtain ⟨r3, hr3, H⟩ := bindS H; refine c0 18 ent157 (g157 k g0 g1 g2 g3 g4 a0 r3 hr3) ?_; refine mv ?_; refine ex ?_; refine ex ?_; refine alc 27 info76 ?_; refine sp shape76 ?_; refine ag (L.nil ?_); refine WpC.seq (sr ?_); refine mv ?_; obtain ⟨r7, hr7, H⟩ := bindS H; refine c0 28 ent52 (g52 k  a1 r7 hr7) ?_; refine nt ?_; refine mv ?_; refine sH H (fun hc H => ?_) (fun hc H => ?_)
 ·(repeat refine of ?_); refine pk ?_; refine mv ?_; (repeat refine of ?_); refine pk (L.nil ?_); refine cT ?_; refine sr ?_; refine bf built64 ?_; refine sp shape64 (L.nil ?_); cases H; exact WpC.ret rt
 ·refine mv ?_; refine nt ?_; refine pk ?_; refine mv ?_; refine sH H (fun hc H => ?_) (fun hc H => ?_)
  ·(repeat refine of ?_); refine pk (L.nil ?_); refine cT ?_; refine sr ?_; refine bf built64 ?_; refine sp shape64 (L.nil ?_); cases H; exact WpC.ret rt
  ·refine mv ?_; refine nt ?_; refine pk (L.nil ?_); refine cd H (fun hc H => ?_) (fun hc H => ?_)
   ·refine sr ?_; refine bf built64 ?_; refine sp shape64 (L.nil ?_); cases H; exact WpC.ret rt
   ·refine WpC.skip (WpC.seq ?_); obtain ⟨b8, hb8, H⟩ := bindS H; obtain ⟨r9, hr9, H⟩ := bindS H
    refine A.lin (fun β => mkStL [(1, iI a1), (2, iP 11 0), (4, iP 12 0), (5, iP 17 0), (7, iP 27 0), (9, lP (β 10) 33 0), (10, al (β 12) (one (cL r9.2))), (42, al (β 7) (Slot.tup [V.agg (bT_Auth r9.1), V.one (cL r9.2)])), (43, lP (β 0) 11 9), (44, al (β 1) (one (Cell.sl g4 (List.map eS a0.parts)))), (45, al (β 2) (one (Cell.pe g4 (eS b8) 0))), (46, al (β 3) (one (cS b8))), (47, lP (β 4) 27 2), (48, al (β 5) (one (cI r3.1.Key))), (49, al (β 6) (Slot.tup [V.agg (bT_Auth r9.1), V.one (cL r9.2)])), (50, al (β 8) (agg (bT_Auth r9.1))), (51, al (β 9) (one (cL r9.2)))] [(24, ai (⟨1, List.map eI r3.1.Path⟩)), (25, ai (⟨1, List.map eI r3.1.Via⟩))] [(11, ai ((bT_asked g0 g1 g2 g3 g4 a0))), (12, ai (zc0)), (17, ai ((bT_Rest r2.1))), (27, ai ([cI r3.1.Client, cI r3.1.Service, cI r3.1.Key, cI r3.1.Rest.Servers, cI r3.1.Rest.Ops, cI r3.1.Rest.End, Cell.own 24, Cell.own 25])), (33, [(β 11, some ((bT_Auth r9.1))), (β 10, some ([cI 0, cI 0, cI 0]))])] 34) [([], [1, 2, 3, 6, 7, 8, 9, 11, 12]), ([0], [2, 3, 6, 7, 8, 9, 11, 12]), ([0, 1], [3, 6, 7, 8, 9, 11, 12]), ([0, 1, 2], [6, 7, 8, 9, 11, 12]), ([], [5, 6, 7, 8, 9, 11, 12]), ([4], [6, 7, 8, 9, 11, 12]), ([0, 1, 2, 3, 4, 5], [7, 8, 9, 11, 12]), ([0, 1, 2, 3, 4, 5, 6], [8, 9, 11, 12]), ([0, 1, 2, 3, 4, 5, 6, 7], [11, 12]), ([0, 1, 2, 3, 4, 5, 6, 7], [12]), ([], [11, 12]), ([0, 1, 2, 3, 4, 5, 6, 7, 8, 10], [12]), ([0, 1, 2, 3, 4, 5, 6, 7, 8, 9, 10, 11], [])] 13 mixed rfl (by kernel_rfl) ?_ ?_ ?_
    ·exact Le.lin [] hm rfl (sa (sa4 (kn4 (kn8 kz)))) (ra (ra kz)) (ba (ba (ba (ba (kn kz)))))
    ·repeat' (first | exact trivial | refine ⟨⟨_, rfl, fun β => ?_⟩, ?_⟩ | fail)
     ·refine fa underlying130 info70 ?_; exact lx [] hm
     ·refine lp shape70 ?_; exact lx [] hm
     ·refine ix underlying70 info9 hb8 ?_; exact lx [] hm
     ·refine le shape9 ?_; exact lx [] hm
     ·refine fa underlying76 info3 ?_; exact lx [] hm
     ·refine lp shape3 ?_; exact lx [] hm
     ·refine c0 34 ent120 (g120 k  b8 r3.1.Key r9 hr9) ?_; exact lx [(29, 34), (30, 35), (31, 36), (32, 37)] hm
     ·refine mv ?_; exact lx [] hm
     ·refine ex ?_; exact lx [] hm
     ·refine ex ?_; exact lx [] hm
     ·refine alc 34 info35 ?_; exact lx [(33, 34)] hm
     ·refine sp shape35 ?_; exact lx [] hm
     ·refine ag ?_; exact lx [] hm
    refine ⟨_, (lm [(0, 11), (1, 12), (2, 17), (3, 27), (4, 33), (5, 24), (6, 25)] hm : Le _ _ (mkSt [(1, oI a1), (2, oP 0 0), (4, oP 1 0), (5, oP 2 0), (7, oP 3 0), (9, oP 4 0), (10, oL r9.2)] [(5, ⟨1, List.map eI r3.1.Path⟩), (6, ⟨1, List.map eI r3.1.Via⟩)] [(0, (bT_asked g0 g1 g2 g3 g4 a0)), (1, zc0), (2, (bT_Rest r2.1)), (3, [cI r3.1.Client, cI r3.1.Service, cI r3.1.Key, cI r3.1.Rest.Servers, cI r3.1.Rest.Ops, cI r3.1.Rest.End, Cell.own 5, Cell.own 6]), (4, (bT_Auth r9.1))] 7)), ?_⟩; refine WpC.seq (WpC.block ?_)
    refine WpC.join (fun σ => ∃ (kj2 : Nat) (v31 : Int) (v32 : Bool) (v33 : T_asked) (v34 v35 v36 v37 v38 v39 v40 v41 v42 : Int) (v43 v44 : List Int) (v45 v46 v47 : Int), kj2 ≤ K ∧ I_asked_ask.j2 kj2 v31 v32 v33 v34 v35 v36 v37 v38 v39 v40 v41 v42 v43 v44 v45 v46 v47 = some r ∧ σ = mkSt [(1, oI v31), (2, oP 0 0), (4, oP 1 0), (5, oP 2 0), (7, oP 3 0), (9, oP 4 0), (52, oL v32)] [(5, ⟨1, List.map eI v43⟩), (6, ⟨1, List.map eI v44⟩)] [(0, (bT_asked g0 g1 g2 g3 g4 v33)), (1, zc0), (2, [cI v34, cI v35, cI v36]), (3, [cI v37, cI v38, cI v39, cI v40, cI v41, cI v42, Cell.own 5, Cell.own 6]), (4, [cI v45, cI v46, cI v47])] 7) ?_ ?_
    ·rintro _ ⟨kj2, v31, v32, v33, v34, v35, v36, v37, v38, v39, v40, v41, v42, v43, v44, v45, v46, v47, hkj2, H, rfl⟩
     unfold I_asked_ask.j2 at H; refine cd H (fun hc H => ?_) (fun hc H => ?_)
     ·refine sr ?_; refine bf built64 ?_; refine sp shape64 (L.nil ?_); cases H; exact WpC.ret rt
     ·refine WpC.seq ?_; obtain ⟨r48, hr48, H⟩ := bindS H; refine A.lin (fun β => mkStL [(1, iI v31), (2, iP 0 0), (4, iP 1 0), (5, iP 2 0), (7, iP 3 0), (9, iP 4 0), (63, al (β 9) (one (cL (decide (r48 > v33.c.Skew))))), (64, lP (β 0) 4 1), (65, lI (β 1) v46), (66, lP (β 2) 0 6), (67, al (β 3) (one (cI v33.now))), (68, lI (β 4) r48), (69, lP (β 5) 0 0), (70, lP (β 6) 0 4), (71, al (β 7) (one (cI v33.c.Skew))), (72, al (β 8) (one (cL (decide (r48 > v33.c.Skew)))))] [(5, ai (⟨1, List.map eI v43⟩)), (6, ai (⟨1, List.map eI v44⟩))] [(0, ai ((bT_asked g0 g1 g2 g3 g4 v33))), (1, ai (zc0)), (2, ai ([cI v34, cI v35, cI v36])), (3, ai ([cI v37, cI v38, cI v39, cI v40, cI v41, cI v42, Cell.own 5, Cell.own 6])), (4, ai ([cI v45, cI v46, cI v47]))] 8) [([], [1, 4, 8, 9]), ([0], [4, 8, 9]), ([], [3, 4, 8, 9]), ([2], [4, 8, 9]), ([0, 1, 2, 3], [8, 9]), ([], [6, 7, 8, 9]), ([5], [7, 8, 9]), ([5, 6], [8, 9]), ([0, 1, 2, 3, 4, 5, 6, 7], [9]), ([0, 1, 2, 3, 4, 5, 6, 7, 8], [])] 10 mixed rfl (by kernel_rfl) ?_ ?_ ?_
      ·exact Le.lin [] hm rfl (sa2 (sa4 (kn2 (kn8 kz)))) (ra (ra kz)) (ba (ba (ba (ba (ba kz)))))
      ·repeat' (first | exact trivial | refine ⟨⟨_, rfl, fun β => ?_⟩, ?_⟩ | fail)
       ·refine fa underlying35 info3 ?_; exact lx [] hm
       ·refine lp shape3 ?_; exact lx [] hm
       ·refine fa underlying130 info3 ?_; exact lx [] hm
       ·refine lp shape3 ?_; exact lx [] hm
       ·refine c0 8 ent123 (g123 kj2  v46 v33.now r48 hr48) ?_; exact lx [(7, 8)] hm
       ·refine fa underlying130 info44 ?_; exact lx [] hm
       ·refine fa underlying44 info3 ?_; exact lx [] hm
       ·refine lp shape3 ?_; exact lx [] hm
       ·refine bi ?_; exact lx [] hm
       ·refine ag ?_; exact lx [] hm
      refine ⟨_, (lm [(0, 0), (1, 1), (2, 2), (3, 3), (4, 5), (5, 6)] hm : Le _ _ (mkSt [(1, oI v31), (2, oP 0 0), (4, oP 1 0), (5, oP 2 0), (7, oP 3 0), (63, one (cL (decide (r48 > v33.c.Skew))))] [(4, ⟨1, List.map eI v43⟩), (5, ⟨1, List.map eI v44⟩)] [(0, (bT_asked g0 g1 g2 g3 g4 v33)), (1, zc0), (2, [cI v34, cI v35, cI v36]), (3, [cI v37, cI v38, cI v39, cI v40, cI v41, cI v42, Cell.own 4, Cell.own 5])] 6)), ?_⟩; refine cd H (fun hc H => ?_) (fun hc H => ?_)
      ·refine sr ?_; refine bf built64 ?_; refine sp shape64 (L.nil ?_); cases H; exact WpC.ret rt
      ·refine sr ?_; refine fa underlying130 info3 ?_; refine lp shape3 ?_; refine fa underlying76 info37 ?_; refine fa underlying37 info3 ?_; refine lp shape3 ?_; refine bi ?_; refine ag (L.nil ?_); refine cd H (fun hc H => ?_) (fun hc H => ?_)
       ·refine sr ?_; refine bf built64 ?_; refine sp shape64 (L.nil ?_); cases H; exact WpC.ret rt
       ·refine sr ?_; refine fa underlying76 info22 ?_; refine lp shape22 ?_; refine L.lenR (xs := v43) (e := eI) underlying22 hF rfl rfl rfl rfl ?_; refine bi ?_; refine ag (L.nil ?_); refine cd H (fun hc H => ?_) (fun hc H => ?_)
        ·refine sr ?_; refine bf built64 ?_; refine sp shape64 (L.nil ?_); cases H; exact WpC.ret rt
        ·refine WpC.seq ?_; obtain ⟨b49, hb49, H⟩ := bindS H; obtain ⟨r50, hr50, H⟩ := bindS H; refine A.lin (fun β => mkStL [(1, iI v31), (2, iP 0 0), (4, iP 1 0), (5, iP 2 0), (7, iP 3 0), (88, al (β 6) (one (cL (b49 != r50)))), (89, lP (β 0) 0 9), (90, al (β 1) (one (Cell.sl g4 (List.map eS v33.parts)))), (91, al (β 2) (one (Cell.pe g4 (eS b49) 0))), (92, al (β 3) (one (cS b49))), (93, al (β 4) (one (cS r50))), (94, al (β 5) (one (cL (b49 != r50))))] [(4, ai (⟨1, List.map eI v43⟩)), (5, ai (⟨1, List.map eI v44⟩))] [(0, ai ((bT_asked g0 g1 g2 g3 g4 v33))), (1, ai (zc0)), (2, ai ([cI v34, cI v35, cI v36])), (3, ai ([cI v37, cI v38, cI v39, cI v40, cI v41, cI v42, Cell.own 4, Cell.own 5]))] 7) [([], [1, 2, 3, 5, 6]), ([0], [2, 3, 5, 6]), ([0, 1], [3, 5, 6]), ([0, 1, 2], [5, 6]), ([], [5, 6]), ([0, 1, 2, 3, 4], [6]), ([0, 1, 2, 3, 4, 5], [])] 7 mixed rfl (by kernel_rfl) ?_ ?_ ?_
         ·exact Le.lin [] hm rfl (sa (sa4 (kn (kn2 (kn4 kz))))) (ra (ra kz)) (ba (ba (ba (ba kz))))
         ·repeat' (first | exact trivial | refine ⟨⟨_, rfl, fun β => ?_⟩, ?_⟩ | fail)
          ·refine fa underlying130 info70 ?_; exact lx [] hm
          ·refine lp shape70 ?_; exact lx [] hm
          ·refine ix underlying70 info9 hb49 ?_; exact lx [] hm
          ·refine le shape9 ?_; exact lx [] hm
          ·refine c0 7 ent158 (g158 kj2  ([] : List UInt8) r50 hr50) ?_; exact lx [(6, 7)] hm
          ·refine L.binS hF rfl rfl rfl rfl rfl ?_; exact lx [] hm
          ·refine ag ?_; exact lx [] hm
         refine ⟨_, (lm [(0, 0), (1, 1), (2, 2), (3, 3), (4, 4), (5, 5)] hm : Le _ _ (mkSt [(1, oI v31), (2, oP 0 0), (4, oP 1 0), (5, oP 2 0), (7, oP 3 0), (88, oL (b49 != r50))] [(4, ⟨1, List.map eI v43⟩), (5, ⟨1, List.map eI v44⟩)] [(0, (bT_asked g0 g1 g2 g3 g4 v33)), (1, zc0), (2, [cI v34, cI v35, cI v36]), (3, [cI v37, cI v38, cI v39, cI v40, cI v41, cI v42, Cell.own 4, Cell.own 5])] 6)), ?_⟩; refine cd H (fun hc H => ?_) (fun hc H => ?_)
         ·refine sr ?_; refine lp shape130 ?_; refine lp shape76 ?_; refine mv ?_; refine lp shape37 ?_; obtain ⟨r51, hr51, H⟩ := bindS H; refine ca [false, false, false, false] [4, 5] [] 6 ent159 (g159 kj2 g0 g1 g2 g3 g4 false false v33 (⟨v37, v38, v39, (⟨v40, v41, v42⟩ : T_Rest), v43, v44⟩ : T_Ticket) v31 (⟨v34, v35, v36⟩ : T_Rest) r51 hr51) ?_; refine sp shape64 (L.nil ?_); cases H; exact WpC.ret rt
         ·refine WpC.skip (sr ?_); refine fa underlying76 info3 ?_; refine lp shape3 ?_; refine fa underlying76 info3 ?_; refine lp shape3 ?_; refine fa underlying76 info3 ?_; refine lp shape3 ?_; refine bf built62 ?_; refine alc 6 info62 ?_; refine sp shape62 (L.nil ?_); refine sr ?_; refine fa underlying76 info3 ?_; refine lp shape3 ?_; refine ag (L.nil ?_); refine sr ?_; refine fa underlying130 info44 ?_; refine fa underlying44 info22 ?_; refine lp shape22 ?_; refine mv ?_; obtain ⟨b52, hb52, H⟩ := bindS H; refine ix underlying22 info3 hb52 ?_; refine le shape3 ?_; refine ag (L.nil ?_); refine sr ?_; refine mv ?_; refine bi ?_; obtain ⟨r53, hr53, H⟩ := bindS H; refine c0 7 ent119 (g119 kj2  (IntKind.i64.wrap (3 + v31)) r53 hr53) ?_; refine ag (L.nil ?_); refine WpC.seq ?_; obtain ⟨r54, hr54, H⟩ := bindS H
          refine A.lin (fun β => mkStL [(1, iI v31), (2, iP 0 0), (4, iP 1 0), (5, iP 2 0), (7, iP 3 0), (11, iP 6 0), (12, iI v39), (13, iI b52), (14, iI r53), (15, lP (β 14) 11 0), (118, lP (β 0) 3 0), (119, lI (β 1) v37), (120, lI (β 2) v31), (121, lP (β 3) 0 7), (122, al (β 4) (one (cI v33.fresh))), (123, lP (β 5) 3 3), (124, al (β 6) (agg [cI v40, cI v41, cI v42])), (125, al (β 7) (agg [cI v34, cI v35, cI v36])), (126, al (β 8) (agg (bT_Rest r54))), (127, lP (β 9) 3 6), (128, al (β 10) (one (Cell.own 4))), (129, lP (β 11) 3 7), (130, al (β 12) (one (Cell.own 5))), (131, al (β 13) (agg [cI v37, cI v31, cI v33.fresh, cI r54.Servers, cI r54.Ops, cI r54.End, Cell.own 4, Cell.own 5]))] [(4, ai (⟨1, List.map eI v43⟩)), (5, ai (⟨1, List.map eI v44⟩))] [(0, ai ((bT_asked g0 g1 g2 g3 g4 v33))), (1, ai (zc0)), (2, ai ([cI v34, cI v35, cI v36])), (3, ai ([cI v37, cI v38, cI v39, cI v40, cI v41, cI v42, Cell.own 4, Cell.own 5])), (6, ai ([cI 2, cI 0, cI v37, cI v37, cI 0, cI 0, cI v39, cI 0, cI 0, cI 0, cI 0])), (11, [(β 15, some ([cI v37, cI v31, cI v33.fresh, cI r54.Servers, cI r54.Ops, cI r54.End, Cell.own 4, Cell.own 5])), (β 14, some (zc1))])] 12) [([], [1, 13, 15]), ([0], [13, 15]), ([], [13, 15]), ([], [4, 13, 15]), ([3], [13, 15]), ([], [6, 8, 13, 15]), ([5], [8, 13, 15]), ([], [8, 13, 15]), ([5, 6, 7], [13, 15]), ([], [10, 13, 15]), ([9], [13, 15]), ([], [12, 13, 15]), ([11], [13, 15]), ([0, 1, 2, 3, 4, 5, 6, 7, 8, 9, 10, 11, 12], [15]), ([], [15]), ([0, 1, 2, 3, 4, 5, 6, 7, 8, 9, 10, 11, 12, 13, 14], [])] 16 mixed rfl (by kernel_rfl) ?_ ?_ ?_
          ·exact Le.lin [] hm rfl (sa (sa8 (kn (kn2 (kn4 (kn8 kz)))))) (ra (ra kz)) (ba (ba (ba (ba (ba (kn kz))))))
          ·repeat' (first | exact trivial | refine ⟨⟨_, rfl, fun β => ?_⟩, ?_⟩ | fail)
           ·refine fa underlying76 info3 ?_; exact lx [] hm
           ·refine lp shape3 ?_; exact lx [] hm
           ·refine mv ?_; exact lx [] hm
           ·refine fa underlying130 info3 ?_; exact lx [] hm
           ·refine lp shape3 ?_; exact lx [] hm
           ·refine fa underlying76 info37 ?_; exact lx [] hm
           ·refine lp shape37 ?_; exact lx [] hm
           ·refine lp shape37 ?_; exact lx [] hm
           ·refine c0 12 ent160 (g160 kj2  (⟨v40, v41, v42⟩ : T_Rest) (⟨v34, v35, v36⟩ : T_Rest) r54 hr54) ?_; exact lx [(8, 12), (9, 13), (10, 14)] hm
           ·refine fa underlying76 info22 ?_; exact lx [] hm
           ·refine lp shape22 ?_; exact lx [] hm
           ·refine fa underlying76 info22 ?_; exact lx [] hm
           ·refine lp shape22 ?_; exact lx [] hm
           ·refine bf built76 ?_; exact lx [] hm
           ·refine alc 12 info76 ?_; exact lx [(11, 12)] hm
           ·refine sp shape76 ?_; exact lx [] hm
          refine ⟨_, (lm [(0, 0), (1, 1), (2, 6), (3, 11), (4, 4), (5, 5)] hm : Le _ _ (mkSt [(2, oP 0 0), (4, oP 1 0), (11, oP 2 0), (12, oI v39), (13, oI b52), (14, oI r53), (15, oP 3 0)] [(4, ⟨1, List.map eI v43⟩), (5, ⟨1, List.map eI v44⟩)] [(0, (bT_asked g0 g1 g2 g3 g4 v33)), (1, zc0), (2, [cI 2, cI 0, cI v37, cI v37, cI 0, cI 0, cI v39, cI 0, cI 0, cI 0, cI 0]), (3, [cI v37, cI v31, cI v33.fresh, cI r54.Servers, cI r54.Ops, cI r54.End, Cell.own 4, Cell.own 5])] 6)), ?_⟩
          refine WpC.join (fun σ => ∃ (kj3 : Nat) (v57 v58 : Int) (v59 : T_asked) (v60 v61 v62 : Int) (v63 : T_Rest) (v64 v65 : List Int), kj3 ≤ K ∧ I_asked_ask.j3 kj3 v57 v58 v59 v60 v61 v62 v63 v64 v65 = some r ∧ σ = mkSt [(2, oP 0 0), (4, oP 1 0), (11, oP 2 0), (12, oI v57), (14, oI v58), (15, oP 3 0)] [(4, ⟨1, List.map eI v64⟩), (5, ⟨1, List.map eI v65⟩)] [(0, (bT_asked g0 g1 g2 g3 g4 v59)), (1, zc0), (2, [cI v60, cI 0, cI v61, cI v61, cI 0, cI 0, cI v57, cI 0, cI 0, cI 0, cI 0]), (3, [cI v61, cI v62, cI v59.fresh, cI v63.Servers, cI v63.Ops, cI v63.End, Cell.own 4, Cell.own 5])] 6) ?_ ?_
          ·rintro _ ⟨kj3, v57, v58, v59, v60, v61, v62, v63, v64, v65, hkj3, H, rfl⟩
           unfold I_asked_ask.j3 at H; refine sr ?_; refine lp shape130 ?_; refine lp shape62 ?_; refine lp shape76 ?_; refine mv ?_; refine mv ?_; obtain ⟨r66, hr66, H⟩ := bindS H; refine ca [false, false, false, false, false] [4, 5] [] 6 ent154 (g154 kj3 g0 g1 g2 g3 g4 false false v59 (⟨v60, 0, v61, v61, 0, 0, v57, 0, (⟨0, 0, 0⟩ : T_Rest)⟩ : T_Event) (⟨v61, v62, v59.fresh, v63, v64, v65⟩ : T_Ticket) v58 v57 r66 hr66) ?_; refine sp shape64 (L.nil ?_); cases H; exact WpC.ret rt
          ·refine sr ?_; refine mv ?_; refine fa underlying130 info3 ?_; refine lp shape3 ?_; refine bi (L.nil ?_); refine cd H (fun hc H => ?_) (fun hc H => ?_)
           ·refine sr ?_; refine fa underlying130 info44 ?_; refine lp shape44 ?_; refine fa underlying130 info3 ?_; refine lp shape3 ?_; refine mv ?_; obtain ⟨r67, hr67, H⟩ := bindS H; refine c0 6 ent161 (g161 kj2 g0 g1 g2 g3 v33.c v33.realm b52 r67 hr67) ?_; refine ag (L.nil ?_); refine WpC.seq (sr ?_); refine mv ?_; refine bi (L.nil ?_); refine cd H (fun hc H => ?_) (fun hc H => ?_)
            ·refine sr ?_; refine bf built64 ?_; refine sp shape64 (L.nil ?_); cases H; exact WpC.ret rt
            ·refine WpC.skip (sr ?_); refine fa underlying62 info3 ?_; refine sp shape3 (L.nil ?_); refine sr ?_; refine mv ?_; refine bi ?_; refine fa underlying76 info3 ?_; refine sp shape3 (L.nil ?_); refine WpC.regionL ?_; refine fa underlying130 info3 ?_; refine lp shape3 ?_; refine mv ?_; obtain ⟨r68, hr68, H⟩ := bindS H; refine c0 7 ent162 (g162 kj2  v33.realm r67 r68 hr68) ?_; refine ag (L.nil ?_); exact ⟨_, ⟨kj2, v39, r68, v33, 3, v37, (IntKind.i64.wrap (10 + r67)), r54, v43, v44, by omega, H, rfl⟩, lm [(0, 0), (1, 1), (2, 2), (3, 3), (4, 4), (5, 5)] hm⟩
           ·refine WpC.skip ?_; exact ⟨_, ⟨kj2, v39, r53, v33, 2, v37, v31, r54, v43, v44, by omega, H, rfl⟩, lm [(0, 0), (1, 1), (2, 2), (3, 3), (4, 4), (5, 5)] hm⟩
    ·refine WpC.regionL ?_; refine mv ?_; refine nt ?_; refine mv ?_; refine sH H (fun hc H => ?_) (fun hc H => ?_)
     ·(repeat refine of ?_); refine pk ?_; refine ag (L.nil ?_); exact ⟨_, ⟨k, a1, true, a0, r2.1.Servers, r2.1.Ops, r2.1.End, r3.1.Client, r3.1.Service, r3.1.Key, r3.1.Rest.Servers, r3.1.Rest.Ops, r3.1.Rest.End, r3.1.Path, r3.1.Via, r9.1.Client, r9.1.Time, r9.1.Seq, by omega, H, rfl⟩, lm [(0, 0), (1, 1), (2, 2), (3, 3), (4, 4), (5, 5), (6, 6)] hm⟩
     ·refine fa underlying35 info3 ?_; refine lp shape3 ?_; refine fa underlying76 info3 ?_; refine lp shape3 ?_; refine bi ?_; refine pk ?_; refine ag (L.nil ?_); exact ⟨_, ⟨k, a1, (r9.1.Client != r3.1.Client), a0, r2.1.Servers, r2.1.Ops, r2.1.End, r3.1.Client, r3.1.Service, r3.1.Key, r3.1.Rest.Servers, r3.1.Rest.Ops, r3.1.Rest.End, r3.1.Path, r3.1.Via, r9.1.Client, r9.1.Time, r9.1.Seq, by omega, H, rfl⟩, lm [(0, 0), (1, 1), (2, 2), (3, 3), (4, 4), (5, 5), (6, 6)] hm⟩
end Go.Proofs.YtbjbagemlclgcaaGreat.M
