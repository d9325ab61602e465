import Derived.Test.YtgjbgakcfcomdaaFRuleTextx0
import Derived.Test.YtgjbgakcfcomdaaProg
namespace Go.Proofs.Ytgjbgakcfcomdaa.M
open Go Go.MG
set_option linter.unusedVariables false
set_option linter.unusedSimpArgs false
/-! ### Fspec_l17Vars -/
def Fspec_l17Vars.j26 (cl22 : (List UInt8) → Int → Int → (List Int) → Int → Option (List Int × Int)) (k : Nat) (v182 : List UInt8) (v183 : Int) (v184 : Int) (v185 : List Int) (v186 : Int) (v187 : Bool) : Option (List Int × Int) := cond v187 (some (v185, (-1 : Int))) ((cut? v182 v183 (v182.length : Int)).bind fun b188 => (Fspec_ReadVar k b188).bind fun r189 => cond (r189.2 == (0 : Int)) (some (v185, (-1 : Int))) (cond (decide ((2 * (v185.length + ([r189.1] : List Int).length) + 192) * 8 ≤ 281474976710656)) (cl22 v182 (IntKind.i64.wrap (v183 + r189.2)) v184 (v185 ++ ([r189.1] : List Int)) (IntKind.i64.wrap (v186 + (1 : Int)))) none))
def Fspec_l17Vars.l22 : Nat → (List UInt8) → Int → Int → (List Int) → Int → Option (List Int × Int)
 | 0, _, _, _, _, _ => none
 | k22 + 1, v156, v157, v158, v159, v160 => cond (decide (v160 < v158)) (cond (decide (v157 < (0 : Int))) (Fspec_l17Vars.j26 (Fspec_l17Vars.l22 k22) k22 v156 v157 v158 v159 v160 true) (Fspec_l17Vars.j26 (Fspec_l17Vars.l22 k22) k22 v156 v157 v158 v159 v160 (decide (v157 > (v156.length : Int))))) (some (v159, v157))
def Fspec_l17Vars (k : Nat) (a0 : List UInt8) (a1 : Int) (a2 : Int) : Option (List Int × Int) := Fspec_l17Vars.l22 k a0 a1 a2 ([] : List Int) (0 : Int)
theorem ent57 : MG.Enters Try.prog 57 := ⟨Try.f57, Try.func57, rfl, by decide⟩
set_option maxHeartbeats 8000000 in
set_option maxRecDepth 100000 in
theorem Fspec_l17Vars_gives (k : Nat) (a0 : List UInt8) (a1 : Int) (a2 : Int) (r : List Int × Int) (H : Fspec_l17Vars k a0 a1 a2 = some r) : Gives Try.prog 57 [V.one (cS a0), V.one (cI a1), V.one (cI a2)] [] [V.one (Cell.ow 1 (List.map eI r.1)), V.one (cI r.2)] [] := by
 refine Gives.intro Try.func57 rfl rfl rfl rfl ?_
 intro F hF hm
 unfold Fspec_l17Vars at H
 obtain ⟨K, hK⟩ : ∃ K, k ≤ K := ⟨k, Nat.le_refl k⟩
 refine WpC.seq (WpC.regionL ?_)
 refine L.assign hF rfl rfl rfl ?_
 refine L.assign hF rfl rfl rfl (L.nil ?_)
 refine WpC.seq (WpC.regionL ?_)
 refine L.buildSlice (e := eI) 3 ([] : List Int) Try.underlying39 info3 rfl rfl rfl hF rfl rfl rfl rfl rfl rfl rfl rfl ?_
 refine L.assign hF rfl rfl rfl (L.nil ?_)
 refine WpC.seq (WpC.seq (WpC.regionL ?_))
 refine L.assign hF rfl rfl rfl (L.nil ?_)
 refine WpC.block ?_
 refine WpC.loopL (P := Try.prog) (fun n σ => ∃ v156 : List UInt8, ∃ v157 : Int, ∃ v158 : Int, ∃ v159 : List Int, ∃ v160 : Int, n ≤ K ∧ Fspec_l17Vars.l22 n v156 v157 v158 v159 v160 = some r ∧ σ = mkSt [(0, one (cS v156)), (1, one (cI v157)), (2, one (cI v158)), (8, one (Cell.own 0)), (9, one (cI v160))] [(0, ⟨1, List.map eI v159⟩)] [] 1) k ⟨_, ⟨a0, a1, a2, ([] : List Int), (0 : Int), by omega, H, rfl⟩, Le.mk [(0, 3)] hm rfl (Sa4 (Sa1 trivial)) (Ra1 trivial) trivial⟩ ?_
 clear H
 rintro k22 _ ⟨v156, v157, v158, v159, v160, hk22, H, rfl⟩
 cases k22 with
 | zero => cases H
 | succ k22 =>
  rw [Fspec_l17Vars.l22] at H
  refine WpC.seq (WpC.seq (WpC.regionL ?_))
  refine L.move hF rfl rfl rfl ?_
  refine L.move hF rfl rfl rfl ?_
  refine L.bin hF rfl rfl rfl rfl rfl rfl (L.nil ?_)
  refine WpC.cond rfl (fun hc => ?_) (fun hc => ?_)
  ·replace H := condT hc H
   refine WpC.skip (WpC.seq (WpC.block (WpC.seq ?_)))
   refine WpC.join (fun σ => ∃ kj26 : Nat, ∃ v182 : List UInt8, ∃ v183 : Int, ∃ v184 : Int, ∃ v185 : List Int, ∃ v186 : Int, ∃ v187 : Bool, kj26 ≤ K ∧ Fspec_l17Vars.j26 (Fspec_l17Vars.l22 k22) kj26 v182 v183 v184 v185 v186 v187 = some r ∧ σ = mkSt [(0, one (cS v182)), (1, one (cI v183)), (2, one (cI v184)), (8, one (Cell.own 0)), (9, one (cI v186)), (25, one (cL v187))] [(0, ⟨1, List.map eI v185⟩)] [] 1) ?_ ?_
   ·rintro _ ⟨kj26, v182, v183, v184, v185, v186, v187, hkj26, H, rfl⟩
    unfold Fspec_l17Vars.j26 at H
    refine WpC.cond rfl (fun hc => ?_) (fun hc => ?_)
    ·replace H := condT hc H
     refine WpC.seq (WpC.regionL ?_)
     refine L.move hF rfl rfl rfl ?_
     refine L.assign hF rfl rfl rfl ?_
     refine L.assign hF rfl rfl rfl (L.nil ?_)
     refine WpC.ret ?_
     cases H
     exact Leaves.ret rfl rfl rfl ⟨rfl, rfl⟩
    ·replace H := condF hc H
     refine WpC.skip (WpC.seq (WpC.regionL ?_))
     refine L.move hF rfl rfl rfl ?_
     refine L.move hF rfl rfl rfl ?_
     obtain ⟨b188, hb188, H⟩ := bindS H
     refine L.cutS Try.underlying9 hF rfl rfl rfl rfl rfl hb188 ?_
     obtain ⟨r189, hr189, H⟩ := bindS H
     refine L.call [false] [] [] 1 hF rfl rfl rfl ent122 rfl rfl rfl rfl rfl (Fspec_ReadVar_gives kj26  b188 r189 hr189) rfl ?_
     refine L.move hF rfl rfl rfl ?_
     refine L.extract hF rfl rfl rfl rfl ?_
     refine L.extract hF rfl rfl rfl rfl ?_
     refine L.assign hF rfl rfl rfl ?_
     refine L.assign hF rfl rfl rfl (L.nil ?_)
     refine WpC.seq (WpC.seq (WpC.regionL ?_))
     refine L.move hF rfl rfl rfl ?_
     refine L.bin hF rfl rfl rfl rfl rfl rfl (L.nil ?_)
     refine WpC.cond rfl (fun hc => ?_) (fun hc => ?_)
     ·replace H := condT hc H
      refine WpC.seq (WpC.regionL ?_)
      refine L.move hF rfl rfl rfl ?_
      refine L.assign hF rfl rfl rfl ?_
      refine L.assign hF rfl rfl rfl (L.nil ?_)
      refine WpC.ret ?_
      cases H
      exact Leaves.ret rfl rfl rfl ⟨rfl, rfl⟩
     ·replace H := condF hc H
      refine WpC.skip (WpC.seq (WpC.regionL ?_))
      refine L.move hF rfl rfl rfl ?_
      refine L.move hF rfl rfl rfl ?_
      refine L.buildSlice (e := eI) 3 ([r189.1] : List Int) Try.underlying39 info3 rfl rfl rfl hF rfl rfl rfl rfl rfl rfl rfl rfl ?_
      obtain ⟨h190, H⟩ := condG H
      refine L.append (xs := v185) (ys := ([r189.1] : List Int)) (e := eI) 4 Try.underlying39 info3 rfl rfl hF rfl rfl rfl rfl rfl rfl rfl rfl (fun _ => rfl) (fun _ _ h1 h2 => by cases h1; cases h2; rfl) ⟨_, Try.underlying39⟩ (of_decide_eq_true h190) rfl rfl ?_
      refine L.assign hF rfl rfl rfl (L.nil ?_)
      refine WpC.regionL ?_
      refine L.move hF rfl rfl rfl ?_
      refine L.move hF rfl rfl rfl ?_
      refine L.bin hF rfl rfl rfl rfl rfl rfl ?_
      refine L.assign hF rfl rfl rfl (L.nil ?_)
      refine WpC.regionL ?_
      refine L.move hF rfl rfl rfl ?_
      refine L.bin hF rfl rfl rfl rfl rfl rfl ?_
      refine L.assign hF rfl rfl rfl (L.nil ?_)
      exact ⟨k22, _, by omega, ⟨v182, (IntKind.i64.wrap (v183 + r189.2)), v184, (v185 ++ ([r189.1] : List Int)), (IntKind.i64.wrap (v186 + (1 : Int))), by omega, H, rfl⟩, Le.mk [(0, 4)] hm rfl (Sa4 (Sa1 trivial)) (Ra1 trivial) trivial⟩
   ·refine WpC.regionL ?_
    refine L.move hF rfl rfl rfl ?_
    refine L.bin hF rfl rfl rfl rfl rfl rfl ?_
    refine L.move hF rfl rfl rfl ?_
    refine L.split (fun hc => ?_) (fun hc => ?_)
    ·replace H := condT hc H
     refine L.off hF rfl rfl ?_
     refine L.off hF rfl rfl ?_
     refine L.off hF rfl rfl ?_
     refine L.off hF rfl rfl ?_
     refine L.pick hF rfl rfl rfl rfl (L.nil ?_)
     exact ⟨_, ⟨k22, v156, v157, v158, v159, v160, true, by omega, H, rfl⟩, Le.mk [(0, 0)] hm rfl (Sa4 (Sa2 trivial)) (Ra1 trivial) trivial⟩
    ·replace H := condF hc H
     refine L.move hF rfl rfl rfl ?_
     refine L.move hF rfl rfl rfl ?_
     refine L.lenS Try.underlying9 hF rfl rfl rfl ?_
     refine L.bin hF rfl rfl rfl rfl rfl rfl ?_
     refine L.pick hF rfl rfl rfl rfl (L.nil ?_)
     exact ⟨_, ⟨k22, v156, v157, v158, v159, v160, (decide (v157 > (v156.length : Int))), by omega, H, rfl⟩, Le.mk [(0, 0)] hm rfl (Sa4 (Sa2 trivial)) (Ra1 trivial) trivial⟩
  ·replace H := condF hc H
   refine WpC.exit (WpC.seq (WpC.regionL ?_))
   refine L.move hF rfl rfl rfl ?_
   refine L.move hF rfl rfl rfl ?_
   refine L.assign hF rfl rfl rfl ?_
   refine L.assign hF rfl rfl rfl (L.nil ?_)
   refine WpC.ret ?_
   cases H
   exact Leaves.ret rfl rfl rfl ⟨rfl, rfl⟩
/-! ### Fspec_ReadRules -/
def Fspec_ReadRules.j28 (cl24 : (List UInt8) → (List Timpl_Rule) → (List Int) → Int → Int → Option (List Timpl_Rule × Bool)) (k : Nat) (v322 : List UInt8) (v323 : List Timpl_Rule) (v324 : List Int) (v325 : Int) (v326 : List Int) (v327 : Int) (v328 : Bool) : Option (List Timpl_Rule × Bool) := cond v328 (some (([] : List Timpl_Rule), false)) ((at? v326 (2 : Int)).bind fun b329 => (Fspec_l17Vars k v322 v327 b329).bind fun r330 => cond (decide (r330.2 < (0 : Int))) (some (([] : List Timpl_Rule), false)) ((at? v326 (0 : Int)).bind fun b331 => (at? v326 (1 : Int)).bind fun b332 => cond (decide ((2 * (v323.length + ([(⟨b331, r330.1, b332⟩ : Timpl_Rule)] : List Timpl_Rule).length) + 192) * 40 ≤ 281474976710656)) (cl24 v322 (v323 ++ ([(⟨b331, r330.1, b332⟩ : Timpl_Rule)] : List Timpl_Rule)) v324 r330.2 (IntKind.i64.wrap (v325 + (1 : Int)))) none))
def Fspec_ReadRules.l24 : Nat → (List UInt8) → (List Timpl_Rule) → (List Int) → Int → Int → Option (List Timpl_Rule × Bool)
 | 0, _, _, _, _, _ => none
 | k24 + 1, v280, v281, v282, v283, v284 => (at? v282 (0 : Int)).bind fun b286 => cond (decide (v284 < b286)) ((Fspec_l17Vars k24 v280 v283 (3 : Int)).bind fun r311 => cond (decide (r311.2 < (0 : Int))) (Fspec_ReadRules.j28 (Fspec_ReadRules.l24 k24) k24 v280 v281 v282 v284 r311.1 r311.2 true) ((at? r311.1 (2 : Int)).bind fun b334 => Fspec_ReadRules.j28 (Fspec_ReadRules.l24 k24) k24 v280 v281 v282 v284 r311.1 r311.2 (decide (b334 > (31 : Int))))) ((Fspec_ShowRules k24 v281).bind fun r336 => cond (r336 != v280) (some (([] : List Timpl_Rule), false)) (some (v281, true)))
def Fspec_ReadRules.j2 (k : Nat) (v10 : List UInt8) (v11 : List Timpl_Rule) (v12 : List Int) (v13 : Int) (v14 : Bool) : Option (List Timpl_Rule × Bool) := cond v14 (some (v11, false)) (Fspec_ReadRules.l24 k v10 v11 v12 v13 (0 : Int))
def Fspec_ReadRules (k : Nat) (a0 : List UInt8) : Option (List Timpl_Rule × Bool) := (Fspec_l17Vars k a0 (0 : Int) (1 : Int)).bind fun r1 => cond (decide (r1.2 < (0 : Int))) (Fspec_ReadRules.j2 k a0 ([] : List Timpl_Rule) r1.1 r1.2 true) ((at? r1.1 (0 : Int)).bind fun b337 => Fspec_ReadRules.j2 k a0 ([] : List Timpl_Rule) r1.1 r1.2 (decide (b337 > (20 : Int))))
theorem ent16 : MG.Enters Try.prog 16 := ⟨Try.f16, Try.func16, rfl, by decide⟩
set_option maxHeartbeats 8000000 in
set_option maxRecDepth 100000 in
theorem Fspec_ReadRules_gives (k : Nat) (a0 : List UInt8) (r : List Timpl_Rule × Bool) (H : Fspec_ReadRules k a0 = some r) : Gives Try.prog 16 [V.one (cS a0)] [] [V.one (Cell.ow 3 (List.map eTimpl_Rule r.1)), V.one (cL r.2)] [] := by
 refine Gives.intro Try.func16 rfl rfl rfl rfl ?_
 intro F hF hm
 unfold Fspec_ReadRules at H
 obtain ⟨K, hK⟩ : ∃ K, k ≤ K := ⟨k, Nat.le_refl k⟩
 refine WpC.seq (WpC.regionL ?_)
 refine L.assign hF rfl rfl rfl ?_
 refine L.assign hF rfl rfl rfl (L.nil ?_)
 refine WpC.seq (WpC.regionL ?_)
 refine L.buildSliceN (e := eTimpl_Rule) 1 1 ([] : List Timpl_Rule) Try.underlying28 info96 rfl rfl rfl hF rfl rfl rfl rfl rfl rfl rfl rfl ?_
 refine L.assign hF rfl rfl rfl (L.nil ?_)
 refine WpC.seq (WpC.regionL ?_)
 refine L.move hF rfl rfl rfl ?_
 obtain ⟨r1, hr1, H⟩ := bindS H
 refine L.call [false, false, false] [] [] 2 hF rfl rfl rfl ent57 rfl rfl rfl rfl rfl (Fspec_l17Vars_gives k  a0 (0 : Int) (1 : Int) r1 hr1) rfl ?_
 refine L.move hF rfl rfl rfl ?_
 refine L.extract hF rfl rfl rfl rfl ?_
 refine L.extract hF rfl rfl rfl rfl ?_
 refine L.assign hF rfl rfl rfl ?_
 refine L.assign hF rfl rfl rfl (L.nil ?_)
 refine WpC.seq ?_
 refine WpC.join (fun σ => ∃ kj2 : Nat, ∃ v10 : List UInt8, ∃ v11 : List Timpl_Rule, ∃ v12 : List Int, ∃ v13 : Int, ∃ v14 : Bool, kj2 ≤ K ∧ Fspec_ReadRules.j2 kj2 v10 v11 v12 v13 v14 = some r ∧ σ = mkSt [(0, one (cS v10)), (4, one (Cell.own 0)), (5, one (Cell.own 1)), (6, one (cI v13)), (24, one (cL v14))] [(0, ⟨3, List.map eTimpl_Rule v11⟩), (1, ⟨1, List.map eI v12⟩)] [] 2) ?_ ?_
 ·rintro _ ⟨kj2, v10, v11, v12, v13, v14, hkj2, H, rfl⟩
  unfold Fspec_ReadRules.j2 at H
  refine WpC.cond rfl (fun hc => ?_) (fun hc => ?_)
  ·replace H := condT hc H
   refine WpC.seq (WpC.regionL ?_)
   refine L.move hF rfl rfl rfl ?_
   refine L.assign hF rfl rfl rfl ?_
   refine L.assign hF rfl rfl rfl (L.nil ?_)
   refine WpC.ret ?_
   cases H
   exact Leaves.ret rfl rfl rfl ⟨rfl, rfl⟩
  ·replace H := condF hc H
   refine WpC.skip (WpC.seq (WpC.seq (WpC.regionL ?_)))
   refine L.assign hF rfl rfl rfl (L.nil ?_)
   refine WpC.block ?_
   refine WpC.loopL (P := Try.prog) (fun n σ => ∃ v280 : List UInt8, ∃ v281 : List Timpl_Rule, ∃ v282 : List Int, ∃ v283 : Int, ∃ v284 : Int, n ≤ K ∧ Fspec_ReadRules.l24 n v280 v281 v282 v283 v284 = some r ∧ σ = mkSt [(0, one (cS v280)), (4, one (Cell.own 0)), (5, one (Cell.own 1)), (6, one (cI v283)), (7, one (cI v284))] [(0, ⟨3, List.map eTimpl_Rule v281⟩), (1, ⟨1, List.map eI v282⟩)] [] 2) kj2 ⟨_, ⟨v10, v11, v12, v13, (0 : Int), by omega, H, rfl⟩, Le.mk [(0, 0), (1, 1)] hm rfl (Sa4 (Sa1 trivial)) (Ra2 trivial) trivial⟩ ?_
   clear H
   rintro k24 _ ⟨v280, v281, v282, v283, v284, hk24, H, rfl⟩
   cases k24 with
   | zero => cases H
   | succ k24 =>
    rw [Fspec_ReadRules.l24] at H
    refine WpC.seq (WpC.seq (WpC.regionL ?_))
    refine L.move hF rfl rfl rfl ?_
    refine L.move hF rfl rfl rfl ?_
    obtain ⟨b286, hb286, H⟩ := bindS H
    refine L.idxR (xs := v282) (e := eI) Try.underlying39 info3 hF rfl rfl rfl rfl rfl hb286 rfl rfl ?_
    refine L.loadEp (xs := v282) (e := eI) shape3 hF rfl rfl rfl rfl (at?_get hb286).2 rfl rfl ?_
    refine L.bin hF rfl rfl rfl rfl rfl rfl (L.nil ?_)
    refine WpC.cond rfl (fun hc => ?_) (fun hc => ?_)
    ·replace H := condT hc H
     refine WpC.skip (WpC.seq (WpC.block (WpC.seq (WpC.regionL ?_))))
     refine L.move hF rfl rfl rfl ?_
     refine L.move hF rfl rfl rfl ?_
     obtain ⟨r311, hr311, H⟩ := bindS H
     refine L.call [false, false, false] [] [] 2 hF rfl rfl rfl ent57 rfl rfl rfl rfl rfl (Fspec_l17Vars_gives k24  v280 v283 (3 : Int) r311 hr311) rfl ?_
     refine L.move hF rfl rfl rfl ?_
     refine L.extract hF rfl rfl rfl rfl ?_
     refine L.extract hF rfl rfl rfl rfl ?_
     refine L.assign hF rfl rfl rfl ?_
     refine L.assign hF rfl rfl rfl (L.nil ?_)
     refine WpC.seq ?_
     refine WpC.join (fun σ => ∃ kj28 : Nat, ∃ v322 : List UInt8, ∃ v323 : List Timpl_Rule, ∃ v324 : List Int, ∃ v325 : Int, ∃ v326 : List Int, ∃ v327 : Int, ∃ v328 : Bool, kj28 ≤ K ∧ Fspec_ReadRules.j28 (Fspec_ReadRules.l24 k24) kj28 v322 v323 v324 v325 v326 v327 v328 = some r ∧ σ = mkSt [(0, one (cS v322)), (4, one (Cell.own 0)), (5, one (Cell.own 1)), (7, one (cI v325)), (8, one (Cell.own 2)), (9, one (cI v327)), (46, one (cL v328))] [(0, ⟨3, List.map eTimpl_Rule v323⟩), (1, ⟨1, List.map eI v324⟩), (2, ⟨1, List.map eI v326⟩)] [] 3) ?_ ?_
     ·rintro _ ⟨kj28, v322, v323, v324, v325, v326, v327, v328, hkj28, H, rfl⟩
      unfold Fspec_ReadRules.j28 at H
      refine WpC.cond rfl (fun hc => ?_) (fun hc => ?_)
      ·replace H := condT hc H
       refine WpC.seq (WpC.regionL ?_)
       refine L.buildSliceN (e := eTimpl_Rule) 1 3 ([] : List Timpl_Rule) Try.underlying28 info96 rfl rfl rfl hF rfl rfl rfl rfl rfl rfl rfl rfl ?_
       refine L.assign hF rfl rfl rfl ?_
       refine L.assign hF rfl rfl rfl (L.nil ?_)
       refine WpC.ret ?_
       cases H
       exact Leaves.ret rfl rfl rfl ⟨rfl, rfl⟩
      ·replace H := condF hc H
       refine WpC.skip (WpC.seq (WpC.regionL ?_))
       refine L.move hF rfl rfl rfl ?_
       refine L.move hF rfl rfl rfl ?_
       refine L.move hF rfl rfl rfl ?_
       obtain ⟨b329, hb329, H⟩ := bindS H
       refine L.idxR (xs := v326) (e := eI) Try.underlying39 info3 hF rfl rfl rfl rfl rfl hb329 rfl rfl ?_
       refine L.loadEp (xs := v326) (e := eI) shape3 hF rfl rfl rfl rfl (at?_get hb329).2 rfl rfl ?_
       obtain ⟨r330, hr330, H⟩ := bindS H
       refine L.call [false, false, false] [] [] 3 hF rfl rfl rfl ent57 rfl rfl rfl rfl rfl (Fspec_l17Vars_gives kj28  v322 v327 b329 r330 hr330) rfl ?_
       refine L.move hF rfl rfl rfl ?_
       refine L.extract hF rfl rfl rfl rfl ?_
       refine L.extract hF rfl rfl rfl rfl ?_
       refine L.assign hF rfl rfl rfl ?_
       refine L.assign hF rfl rfl rfl (L.nil ?_)
       refine WpC.seq (WpC.seq (WpC.regionL ?_))
       refine L.move hF rfl rfl rfl ?_
       refine L.bin hF rfl rfl rfl rfl rfl rfl (L.nil ?_)
       refine WpC.cond rfl (fun hc => ?_) (fun hc => ?_)
       ·replace H := condT hc H
        refine WpC.seq (WpC.regionL ?_)
        refine L.buildSliceN (e := eTimpl_Rule) 1 5 ([] : List Timpl_Rule) Try.underlying28 info96 rfl rfl rfl hF rfl rfl rfl rfl rfl rfl rfl rfl ?_
        refine L.assign hF rfl rfl rfl ?_
        refine L.assign hF rfl rfl rfl (L.nil ?_)
        refine WpC.ret ?_
        cases H
        exact Leaves.ret rfl rfl rfl ⟨rfl, rfl⟩
       ·replace H := condF hc H
        refine WpC.skip (WpC.seq ?_)
        obtain ⟨b331, hb331, H⟩ := bindS H
        obtain ⟨b332, hb332, H⟩ := bindS H
        obtain ⟨h333, H⟩ := condG H
        refine A.begin mixed rfl rfl ?_
        intro W hI hO
        have n255 : W 4 #[true, true, true, true, true, true, true, true, false, false, false, false] (mkSt [(0, one (cS v322)), (4, one (Cell.own 0)), (5, one (Cell.own 1)), (7, one (cI v325)), (9, one (cI r330.2)), (60, one (Cell.own 0)), (63, one (cI b331)), (66, one (cI b332)), (67, one (Cell.own 2))] [(0, ⟨3, List.map eTimpl_Rule v323⟩), (1, ⟨1, List.map eI v324⟩), (2, ⟨1, List.map eI r330.1⟩)] [] 3) := by
         refine hI _ _ _ ?_
         refine Atk 8 rfl (Ca.build rfl (by rw [built96]; rfl)) (fun Q0 k0 => L.buildF built96 hF rfl rfl rfl rfl (L.nil k0)) ?_
         refine A.all [9] (by kernel_rfl) rfl ⟨⟨_, rfl, ?_⟩, trivial⟩
         refine L.buildSliceN (e := eTimpl_Rule) 1 3 ([(⟨b331, r330.1, b332⟩ : Timpl_Rule)] : List Timpl_Rule) Try.underlying28 info96 rfl rfl rfl hF rfl rfl rfl rfl rfl rfl rfl rfl (L.nil ?_)
         refine A.all [10] (by kernel_rfl) rfl ⟨⟨_, rfl, ?_⟩, trivial⟩
         refine L.appendN (xs := v323) (ys := ([(⟨b331, r330.1, b332⟩ : Timpl_Rule)] : List Timpl_Rule)) (e := eTimpl_Rule) 4 Try.underlying28 info96 rfl rfl hF rfl rfl rfl rfl rfl rfl rfl rfl rfl (fun _ _ h1 h2 => by cases h1; cases h2; rfl) Try.underlying28 (of_decide_eq_true h333) rfl rfl (L.nil ?_)
         refine Atk 11 rfl (Ca.assign) (fun Q0 k0 => L.assign hF rfl rfl rfl (L.nil k0)) ?_
         refine A.le (τ := mkSt [(0, one (cS v322)), (4, one (Cell.own 0)), (5, one (Cell.own 1)), (7, one (cI v325)), (9, one (cI r330.2))] [(0, ⟨3, List.map eTimpl_Rule (v323 ++ ([(⟨b331, r330.1, b332⟩ : Timpl_Rule)] : List Timpl_Rule))⟩), (1, ⟨1, List.map eI v324⟩)] [] 2) (Le.mk [(0, 4), (1, 1)] hm rfl (Sa4 (Sa1 trivial)) (Ra2 trivial) trivial) ?_
         refine A.done (by kernel_rfl) ?_
         refine WpC.regionL ?_
         refine L.move hF rfl rfl rfl ?_
         refine L.assign hF rfl rfl rfl (L.nil ?_)
         refine WpC.regionL ?_
         refine L.move hF rfl rfl rfl ?_
         refine L.bin hF rfl rfl rfl rfl rfl rfl ?_
         refine L.assign hF rfl rfl rfl (L.nil ?_)
         exact ⟨k24, _, by omega, ⟨v322, (v323 ++ ([(⟨b331, r330.1, b332⟩ : Timpl_Rule)] : List Timpl_Rule)), v324, r330.2, (IntKind.i64.wrap (v325 + (1 : Int))), by omega, H, rfl⟩, Le.mk [(0, 0), (1, 1)] hm rfl (Sa4 (Sa1 trivial)) (Ra2 trivial) trivial⟩
        refine hI _ _ _ ?_
        refine Atk 0 rfl (Ca.move) (fun Q0 k0 => L.move hF rfl rfl rfl (L.nil k0)) ?_
        refine Atk 1 rfl (Ca.move) (fun Q0 k0 => L.move hF rfl rfl rfl (L.nil k0)) ?_
        refine Atk 2 rfl (Ca.indexAddr) (fun Q0 k0 => L.idxR (xs := v326) (e := eI) Try.underlying39 info3 hF rfl rfl rfl rfl rfl hb331 rfl rfl (L.nil k0)) ?_
        refine Atk 4 rfl (Ca.move) (fun Q0 k0 => L.move hF rfl rfl rfl (L.nil k0)) ?_
        refine Atk 5 rfl (Ca.indexAddr) (fun Q0 k0 => L.idxR (xs := v326) (e := eI) Try.underlying39 info3 hF rfl rfl rfl rfl rfl hb332 rfl rfl (L.nil k0)) ?_
        refine Atk 7 rfl (Ca.move) (fun Q0 k0 => L.move hF rfl rfl rfl (L.nil k0)) ?_
        refine A.all [3, 6] (by kernel_rfl) rfl ⟨⟨_, rfl, ?_⟩, ⟨_, rfl, ?_⟩, trivial⟩
        ·refine L.loadEp (xs := v326) (e := eI) shape3 hF rfl rfl rfl rfl (at?_get hb331).2 rfl rfl ?_
         refine L.nil ?_
         refine A.all [6] (by kernel_rfl) rfl ⟨⟨_, rfl, ?_⟩, trivial⟩
         refine L.loadEp (xs := v326) (e := eI) shape3 hF rfl rfl rfl rfl (at?_get hb332).2 rfl rfl ?_
         refine L.nil ?_
         exact A.on (hO _ _ _ n255) (Le.mk [(0, 0), (1, 1), (2, 3)] hm rfl (Sa8 (Sa1 trivial)) (Ra2 (Ra1 trivial)) trivial)
        ·refine L.loadEp (xs := v326) (e := eI) shape3 hF rfl rfl rfl rfl (at?_get hb332).2 rfl rfl ?_
         refine L.nil ?_
         refine A.all [3] (by kernel_rfl) rfl ⟨⟨_, rfl, ?_⟩, trivial⟩
         refine L.loadEp (xs := v326) (e := eI) shape3 hF rfl rfl rfl rfl (at?_get hb331).2 rfl rfl ?_
         refine L.nil ?_
         exact A.on (hO _ _ _ n255) (Le.mk [(0, 0), (1, 1), (2, 3)] hm rfl (Sa8 (Sa1 trivial)) (Ra2 (Ra1 trivial)) trivial)
     ·refine WpC.regionL ?_
      refine L.move hF rfl rfl rfl ?_
      refine L.bin hF rfl rfl rfl rfl rfl rfl ?_
      refine L.move hF rfl rfl rfl ?_
      refine L.split (fun hc => ?_) (fun hc => ?_)
      ·replace H := condT hc H
       refine L.off hF rfl rfl ?_
       refine L.off hF rfl rfl ?_
       refine L.off hF rfl rfl ?_
       refine L.off hF rfl rfl ?_
       refine L.pick hF rfl rfl rfl rfl (L.nil ?_)
       exact ⟨_, ⟨k24, v280, v281, v282, v284, r311.1, r311.2, true, by omega, H, rfl⟩, Le.mk [(0, 0), (1, 1), (2, 2)] hm rfl (Sa4 (Sa2 (Sa1 trivial))) (Ra2 (Ra1 trivial)) trivial⟩
      ·replace H := condF hc H
       refine L.move hF rfl rfl rfl ?_
       obtain ⟨b334, hb334, H⟩ := bindS H
       refine L.idxR (xs := r311.1) (e := eI) Try.underlying39 info3 hF rfl rfl rfl rfl rfl hb334 rfl rfl ?_
       refine L.loadEp (xs := r311.1) (e := eI) shape3 hF rfl rfl rfl rfl (at?_get hb334).2 rfl rfl ?_
       refine L.bin hF rfl rfl rfl rfl rfl rfl ?_
       refine L.pick hF rfl rfl rfl rfl (L.nil ?_)
       exact ⟨_, ⟨k24, v280, v281, v282, v284, r311.1, r311.2, (decide (b334 > (31 : Int))), by omega, H, rfl⟩, Le.mk [(0, 0), (1, 1), (2, 2)] hm rfl (Sa4 (Sa2 (Sa1 trivial))) (Ra2 (Ra1 trivial)) trivial⟩
    ·replace H := condF hc H
     refine WpC.exit (WpC.seq (WpC.seq (WpC.regionL ?_)))
     refine L.move hF rfl rfl rfl ?_
     obtain ⟨r336, hr336, H⟩ := bindS H
     refine L.call [false] [0] [] 2 hF rfl rfl rfl ent26 rfl rfl rfl rfl rfl (Fspec_ShowRules_gives k24 false v281 r336 hr336) rfl ?_
     refine L.move hF rfl rfl rfl ?_
     refine L.binS hF rfl rfl rfl rfl rfl (L.nil ?_)
     refine WpC.cond rfl (fun hc => ?_) (fun hc => ?_)
     ·replace H := condT hc H
      refine WpC.seq (WpC.regionL ?_)
      refine L.buildSliceN (e := eTimpl_Rule) 1 3 ([] : List Timpl_Rule) Try.underlying28 info96 rfl rfl rfl hF rfl rfl rfl rfl rfl rfl rfl rfl ?_
      refine L.assign hF rfl rfl rfl ?_
      refine L.assign hF rfl rfl rfl (L.nil ?_)
      refine WpC.ret ?_
      cases H
      exact Leaves.ret rfl rfl rfl ⟨rfl, rfl⟩
     ·replace H := condF hc H
      refine WpC.skip (WpC.seq (WpC.regionL ?_))
      refine L.move hF rfl rfl rfl ?_
      refine L.assign hF rfl rfl rfl ?_
      refine L.assign hF rfl rfl rfl (L.nil ?_)
      refine WpC.ret ?_
      cases H
      exact Leaves.ret rfl rfl rfl ⟨rfl, rfl⟩
 ·refine WpC.regionL ?_
  refine L.move hF rfl rfl rfl ?_
  refine L.bin hF rfl rfl rfl rfl rfl rfl ?_
  refine L.move hF rfl rfl rfl ?_
  refine L.split (fun hc => ?_) (fun hc => ?_)
  ·replace H := condT hc H
   refine L.off hF rfl rfl ?_
   refine L.off hF rfl rfl ?_
   refine L.off hF rfl rfl ?_
   refine L.off hF rfl rfl ?_
   refine L.pick hF rfl rfl rfl rfl (L.nil ?_)
   exact ⟨_, ⟨k, a0, ([] : List Timpl_Rule), r1.1, r1.2, true, by omega, H, rfl⟩, Le.mk [(0, 1), (1, 2)] hm rfl (Sa4 (Sa1 trivial)) (Ra2 trivial) trivial⟩
  ·replace H := condF hc H
   refine L.move hF rfl rfl rfl ?_
   obtain ⟨b337, hb337, H⟩ := bindS H
   refine L.idxR (xs := r1.1) (e := eI) Try.underlying39 info3 hF rfl rfl rfl rfl rfl hb337 rfl rfl ?_
   refine L.loadEp (xs := r1.1) (e := eI) shape3 hF rfl rfl rfl rfl (at?_get hb337).2 rfl rfl ?_
   refine L.bin hF rfl rfl rfl rfl rfl rfl ?_
   refine L.pick hF rfl rfl rfl rfl (L.nil ?_)
   exact ⟨_, ⟨k, a0, ([] : List Timpl_Rule), r1.1, r1.2, (decide (b337 > (20 : Int))), by omega, H, rfl⟩, Le.mk [(0, 1), (1, 2)] hm rfl (Sa4 (Sa1 trivial)) (Ra2 trivial) trivial⟩
/-! ### Flaws_FnRuleText -/
def Flaws_FnRuleText (k : Nat) (a0 : List UInt8) : Option Bool := (Flaws_big k a0).bind fun r2 => cond r2 (some true) ((Fspec_DrawShowRules k a0).bind fun r3 => (Fimpl_ShowRules k r3).bind fun r4 => (Fimpl_ReadRules k r4).bind fun r5 => (Fspec_DrawReadRules k a0).bind fun r6 => (Fimpl_ReadRules k r6).bind fun r7 => (Fspec_ReadRules k r6).bind fun r8 => (Fspec_RulesOk k r3).bind fun r14 => cond (r5.2 == r14) (cond (!r5.2) (cond (r7.2 == r8.2) (cond (!r7.2) (some true) ((Fimpl_ShowRules k r7.1).bind fun r15 => some (r15 == r6))) (some false)) (cond ((r5.1.length : Int) == (r3.length : Int)) ((Fspec_ShowRules k r5.1).bind fun r16 => (Fspec_ShowRules k r3).bind fun r17 => cond (r16 == r17) (cond (r7.2 == r8.2) (cond (!r7.2) (some true) ((Fimpl_ShowRules k r7.1).bind fun r18 => some (r18 == r6))) (some false)) (some false)) (some false))) (some false))
theorem ent5 : MG.Enters Try.prog 5 := ⟨Try.f5, Try.func5, rfl, by decide⟩
set_option maxHeartbeats 8000000 in
set_option maxRecDepth 100000 in
theorem Flaws_FnRuleText_gives (k : Nat) (a0 : List UInt8) (r : Bool) (H : Flaws_FnRuleText k a0 = some r) : Gives Try.prog 5 [V.one (Cell.sl true (List.map eB a0))] [] [V.one (cL r)] [] := by
 refine Gives.intro Try.func5 rfl rfl rfl rfl ?_
 intro F hF hm
 unfold Flaws_FnRuleText at H
 obtain ⟨K, hK⟩ : ∃ K, k ≤ K := ⟨k, Nat.le_refl k⟩
 refine WpC.seq (WpC.regionL ?_)
 refine L.assign hF rfl rfl rfl (L.nil ?_)
 refine WpC.seq (WpC.seq (WpC.regionL ?_))
 refine L.move hF rfl rfl rfl ?_
 obtain ⟨r2, hr2, H⟩ := bindS H
 refine L.call [false] [] [] 1 hF rfl rfl rfl ent21 rfl rfl rfl rfl rfl (Flaws_big_gives k true a0 r2 hr2) rfl (L.nil ?_)
 refine WpC.cond rfl (fun hc => ?_) (fun hc => ?_)
 ·replace H := condT hc H
  refine WpC.seq (WpC.regionL ?_)
  refine L.assign hF rfl rfl rfl (L.nil ?_)
  refine WpC.ret ?_
  cases H
  exact Leaves.ret rfl rfl rfl ⟨rfl, rfl⟩
 ·replace H := condF hc H
  refine WpC.skip (WpC.seq (WpC.regionL ?_))
  refine L.move hF rfl rfl rfl ?_
  obtain ⟨r3, hr3, H⟩ := bindS H
  refine L.call [false] [] [] 2 hF rfl rfl rfl ent22 rfl rfl rfl rfl rfl (Fspec_DrawShowRules_gives k  a0 r3 hr3) rfl ?_
  refine L.assign hF rfl rfl rfl (L.nil ?_)
  refine WpC.seq (WpC.regionL ?_)
  refine L.move hF rfl rfl rfl ?_
  obtain ⟨r4, hr4, H⟩ := bindS H
  refine L.call [false] [2] [] 3 hF rfl rfl rfl ent23 rfl rfl rfl rfl rfl (Fimpl_ShowRules_gives k false r3 r4 hr4) rfl ?_
  obtain ⟨r5, hr5, H⟩ := bindS H
  refine L.call [false] [] [] 4 hF rfl rfl rfl ent17 rfl rfl rfl rfl rfl (Fimpl_ReadRules_gives k  r4 r5 hr5) rfl ?_
  refine L.move hF rfl rfl rfl ?_
  refine L.extract hF rfl rfl rfl rfl ?_
  refine L.extract hF rfl rfl rfl rfl ?_
  refine L.assign hF rfl rfl rfl ?_
  refine L.assign hF rfl rfl rfl (L.nil ?_)
  refine WpC.seq (WpC.regionL ?_)
  refine L.move hF rfl rfl rfl ?_
  obtain ⟨r6, hr6, H⟩ := bindS H
  refine L.call [false] [] [] 6 hF rfl rfl rfl ent24 rfl rfl rfl rfl rfl (Fspec_DrawReadRules_gives k  a0 r6 hr6) rfl ?_
  refine L.assign hF rfl rfl rfl (L.nil ?_)
  refine WpC.seq (WpC.regionL ?_)
  refine L.move hF rfl rfl rfl ?_
  obtain ⟨r7, hr7, H⟩ := bindS H
  refine L.call [false] [] [] 7 hF rfl rfl rfl ent17 rfl rfl rfl rfl rfl (Fimpl_ReadRules_gives k  r6 r7 hr7) rfl ?_
  refine L.move hF rfl rfl rfl ?_
  refine L.extract hF rfl rfl rfl rfl ?_
  refine L.extract hF rfl rfl rfl rfl ?_
  refine L.assign hF rfl rfl rfl ?_
  refine L.assign hF rfl rfl rfl (L.nil ?_)
  refine WpC.seq (WpC.regionL ?_)
  refine L.move hF rfl rfl rfl ?_
  obtain ⟨r8, hr8, H⟩ := bindS H
  refine L.call [false] [] [] 9 hF rfl rfl rfl ent16 rfl rfl rfl rfl rfl (Fspec_ReadRules_gives k  r6 r8 hr8) rfl ?_
  refine L.move hF rfl rfl rfl ?_
  refine L.extract hF rfl rfl rfl rfl ?_
  refine L.extract hF rfl rfl rfl rfl ?_
  refine L.assign hF rfl rfl rfl ?_
  refine L.assign hF rfl rfl rfl (L.nil ?_)
  refine WpC.seq (WpC.regionL ?_)
  refine L.move hF rfl rfl rfl ?_
  refine L.move hF rfl rfl rfl ?_
  obtain ⟨r14, hr14, H⟩ := bindS H
  refine L.call [false] [2] [] 11 hF rfl rfl rfl ent25 rfl rfl rfl rfl rfl (Fspec_RulesOk_gives k false r3 r14 hr14) rfl ?_
  refine L.eqL Try.underlying4 hF rfl rfl rfl rfl ?_
  refine L.move hF rfl rfl rfl ?_
  refine L.split (fun hc => ?_) (fun hc => ?_)
  ·replace H := condT hc H
   refine L.move hF rfl rfl rfl ?_
   refine L.not hF rfl rfl rfl ?_
   refine L.move hF rfl rfl rfl ?_
   refine L.split (fun hc => ?_) (fun hc => ?_)
   ·replace H := condT hc H
    refine L.off hF rfl rfl ?_
    refine L.off hF rfl rfl ?_
    refine L.off hF rfl rfl ?_
    refine L.off hF rfl rfl ?_
    refine L.off hF rfl rfl ?_
    refine L.off hF rfl rfl ?_
    refine L.off hF rfl rfl ?_
    refine L.off hF rfl rfl ?_
    refine L.off hF rfl rfl ?_
    refine L.off hF rfl rfl ?_
    refine L.off hF rfl rfl ?_
    refine L.off hF rfl rfl ?_
    refine L.pick hF rfl rfl rfl rfl ?_
    refine L.pick hF rfl rfl rfl rfl ?_
    refine L.move hF rfl rfl rfl ?_
    refine L.move hF rfl rfl rfl ?_
    refine L.move hF rfl rfl rfl ?_
    refine L.eqL Try.underlying4 hF rfl rfl rfl rfl ?_
    refine L.pick hF rfl rfl rfl rfl ?_
    refine L.move hF rfl rfl rfl ?_
    refine L.split (fun hc => ?_) (fun hc => ?_)
    ·replace H := condT hc H
     refine L.move hF rfl rfl rfl ?_
     refine L.not hF rfl rfl rfl ?_
     refine L.move hF rfl rfl rfl ?_
     refine L.split (fun hc => ?_) (fun hc => ?_)
     ·replace H := condT hc H
      refine L.off hF rfl rfl ?_
      refine L.off hF rfl rfl ?_
      refine L.off hF rfl rfl ?_
      refine L.off hF rfl rfl ?_
      refine L.pick hF rfl rfl rfl rfl ?_
      refine L.pick hF rfl rfl rfl rfl ?_
      refine L.assign hF rfl rfl rfl (L.nil ?_)
      refine WpC.ret ?_
      cases H
      exact Leaves.ret rfl rfl rfl ⟨rfl, rfl⟩
     ·replace H := condF hc H
      refine L.move hF rfl rfl rfl ?_
      obtain ⟨r15, hr15, H⟩ := bindS H
      refine L.call [false] [7] [] 12 hF rfl rfl rfl ent23 rfl rfl rfl rfl rfl (Fimpl_ShowRules_gives k false r7.1 r15 hr15) rfl ?_
      refine L.move hF rfl rfl rfl ?_
      refine L.binS hF rfl rfl rfl rfl rfl ?_
      refine L.pick hF rfl rfl rfl rfl ?_
      refine L.pick hF rfl rfl rfl rfl ?_
      refine L.assign hF rfl rfl rfl (L.nil ?_)
      refine WpC.ret ?_
      cases H
      exact Leaves.ret rfl rfl rfl ⟨rfl, rfl⟩
    ·replace H := condF hc H
     refine L.off hF rfl rfl ?_
     refine L.off hF rfl rfl ?_
     refine L.off hF rfl rfl ?_
     refine L.off hF rfl rfl ?_
     refine L.off hF rfl rfl ?_
     refine L.off hF rfl rfl ?_
     refine L.off hF rfl rfl ?_
     refine L.off hF rfl rfl ?_
     refine L.pick hF rfl rfl rfl rfl ?_
     refine L.assign hF rfl rfl rfl (L.nil ?_)
     refine WpC.ret ?_
     cases H
     exact Leaves.ret rfl rfl rfl ⟨rfl, rfl⟩
   ·replace H := condF hc H
    refine L.move hF rfl rfl rfl ?_
    refine L.lenR (xs := r5.1) (e := eTimpl_Rule) Try.underlying28 hF rfl rfl rfl rfl ?_
    refine L.move hF rfl rfl rfl ?_
    refine L.lenR (xs := r3) (e := eTimpl_Rule) Try.underlying28 hF rfl rfl rfl rfl ?_
    refine L.bin hF rfl rfl rfl rfl rfl rfl ?_
    refine L.move hF rfl rfl rfl ?_
    refine L.split (fun hc => ?_) (fun hc => ?_)
    ·replace H := condT hc H
     refine L.move hF rfl rfl rfl ?_
     obtain ⟨r16, hr16, H⟩ := bindS H
     refine L.call [false] [4] [] 12 hF rfl rfl rfl ent26 rfl rfl rfl rfl rfl (Fspec_ShowRules_gives k false r5.1 r16 hr16) rfl ?_
     refine L.move hF rfl rfl rfl ?_
     obtain ⟨r17, hr17, H⟩ := bindS H
     refine L.call [false] [2] [] 13 hF rfl rfl rfl ent26 rfl rfl rfl rfl rfl (Fspec_ShowRules_gives k false r3 r17 hr17) rfl ?_
     refine L.binS hF rfl rfl rfl rfl rfl ?_
     refine L.pick hF rfl rfl rfl rfl ?_
     refine L.pick hF rfl rfl rfl rfl ?_
     refine L.pick hF rfl rfl rfl rfl ?_
     refine L.move hF rfl rfl rfl ?_
     refine L.split (fun hc => ?_) (fun hc => ?_)
     ·replace H := condT hc H
      refine L.move hF rfl rfl rfl ?_
      refine L.move hF rfl rfl rfl ?_
      refine L.eqL Try.underlying4 hF rfl rfl rfl rfl ?_
      refine L.pick hF rfl rfl rfl rfl ?_
      refine L.move hF rfl rfl rfl ?_
      refine L.split (fun hc => ?_) (fun hc => ?_)
      ·replace H := condT hc H
       refine L.move hF rfl rfl rfl ?_
       refine L.not hF rfl rfl rfl ?_
       refine L.move hF rfl rfl rfl ?_
       refine L.split (fun hc => ?_) (fun hc => ?_)
       ·replace H := condT hc H
        refine L.off hF rfl rfl ?_
        refine L.off hF rfl rfl ?_
        refine L.off hF rfl rfl ?_
        refine L.off hF rfl rfl ?_
        refine L.pick hF rfl rfl rfl rfl ?_
        refine L.pick hF rfl rfl rfl rfl ?_
        refine L.assign hF rfl rfl rfl (L.nil ?_)
        refine WpC.ret ?_
        cases H
        exact Leaves.ret rfl rfl rfl ⟨rfl, rfl⟩
       ·replace H := condF hc H
        refine L.move hF rfl rfl rfl ?_
        obtain ⟨r18, hr18, H⟩ := bindS H
        refine L.call [false] [7] [] 14 hF rfl rfl rfl ent23 rfl rfl rfl rfl rfl (Fimpl_ShowRules_gives k false r7.1 r18 hr18) rfl ?_
        refine L.move hF rfl rfl rfl ?_
        refine L.binS hF rfl rfl rfl rfl rfl ?_
        refine L.pick hF rfl rfl rfl rfl ?_
        refine L.pick hF rfl rfl rfl rfl ?_
        refine L.assign hF rfl rfl rfl (L.nil ?_)
        refine WpC.ret ?_
        cases H
        exact Leaves.ret rfl rfl rfl ⟨rfl, rfl⟩
      ·replace H := condF hc H
       refine L.off hF rfl rfl ?_
       refine L.off hF rfl rfl ?_
       refine L.off hF rfl rfl ?_
       refine L.off hF rfl rfl ?_
       refine L.off hF rfl rfl ?_
       refine L.off hF rfl rfl ?_
       refine L.off hF rfl rfl ?_
       refine L.off hF rfl rfl ?_
       refine L.pick hF rfl rfl rfl rfl ?_
       refine L.assign hF rfl rfl rfl (L.nil ?_)
       refine WpC.ret ?_
       cases H
       exact Leaves.ret rfl rfl rfl ⟨rfl, rfl⟩
     ·replace H := condF hc H
      refine L.off hF rfl rfl ?_
      refine L.off hF rfl rfl ?_
      refine L.off hF rfl rfl ?_
      refine L.pick hF rfl rfl rfl rfl ?_
      refine L.move hF rfl rfl rfl ?_
      refine L.off hF rfl rfl ?_
      refine L.off hF rfl rfl ?_
      refine L.off hF rfl rfl ?_
      refine L.off hF rfl rfl ?_
      refine L.off hF rfl rfl ?_
      refine L.off hF rfl rfl ?_
      refine L.off hF rfl rfl ?_
      refine L.off hF rfl rfl ?_
      refine L.pick hF rfl rfl rfl rfl ?_
      refine L.assign hF rfl rfl rfl (L.nil ?_)
      refine WpC.ret ?_
      cases H
      exact Leaves.ret rfl rfl rfl ⟨rfl, rfl⟩
    ·replace H := condF hc H
     refine L.off hF rfl rfl ?_
     refine L.off hF rfl rfl ?_
     refine L.off hF rfl rfl ?_
     refine L.off hF rfl rfl ?_
     refine L.off hF rfl rfl ?_
     refine L.pick hF rfl rfl rfl rfl ?_
     refine L.pick hF rfl rfl rfl rfl ?_
     refine L.pick hF rfl rfl rfl rfl ?_
     refine L.move hF rfl rfl rfl ?_
     refine L.off hF rfl rfl ?_
     refine L.off hF rfl rfl ?_
     refine L.off hF rfl rfl ?_
     refine L.pick hF rfl rfl rfl rfl ?_
     refine L.move hF rfl rfl rfl ?_
     refine L.off hF rfl rfl ?_
     refine L.off hF rfl rfl ?_
     refine L.off hF rfl rfl ?_
     refine L.off hF rfl rfl ?_
     refine L.off hF rfl rfl ?_
     refine L.off hF rfl rfl ?_
     refine L.off hF rfl rfl ?_
     refine L.off hF rfl rfl ?_
     refine L.pick hF rfl rfl rfl rfl ?_
     refine L.assign hF rfl rfl rfl (L.nil ?_)
     refine WpC.ret ?_
     cases H
     exact Leaves.ret rfl rfl rfl ⟨rfl, rfl⟩
  ·replace H := condF hc H
   refine L.off hF rfl rfl ?_
   refine L.off hF rfl rfl ?_
   refine L.off hF rfl rfl ?_
   refine L.off hF rfl rfl ?_
   refine L.off hF rfl rfl ?_
   refine L.off hF rfl rfl ?_
   refine L.off hF rfl rfl ?_
   refine L.off hF rfl rfl ?_
   refine L.off hF rfl rfl ?_
   refine L.off hF rfl rfl ?_
   refine L.off hF rfl rfl ?_
   refine L.off hF rfl rfl ?_
   refine L.off hF rfl rfl ?_
   refine L.off hF rfl rfl ?_
   refine L.off hF rfl rfl ?_
   refine L.off hF rfl rfl ?_
   refine L.pick hF rfl rfl rfl rfl ?_
   refine L.move hF rfl rfl rfl ?_
   refine L.off hF rfl rfl ?_
   refine L.off hF rfl rfl ?_
   refine L.off hF rfl rfl ?_
   refine L.pick hF rfl rfl rfl rfl ?_
   refine L.move hF rfl rfl rfl ?_
   refine L.off hF rfl rfl ?_
   refine L.off hF rfl rfl ?_
   refine L.off hF rfl rfl ?_
   refine L.off hF rfl rfl ?_
   refine L.off hF rfl rfl ?_
   refine L.off hF rfl rfl ?_
   refine L.off hF rfl rfl ?_
   refine L.off hF rfl rfl ?_
   refine L.pick hF rfl rfl rfl rfl ?_
   refine L.assign hF rfl rfl rfl (L.nil ?_)
   refine WpC.ret ?_
   cases H
   exact Leaves.ret rfl rfl rfl ⟨rfl, rfl⟩
theorem open33 : Go.MG.Opens Try.prog 33 (Go.MG.eR Go.MG.eB) (Go.MG.wfR (fun _ => True)) := Go.MG.Opens.slice Try.underlying33 (Go.MG.Opens.u8 Try.underlying5) (fun _ => (by kernel_rfl : Try.prog.cellsOf 5 = 1).symm) (fun _ => rfl) (fun _ => rfl) (by kernel_rfl)
end Go.Proofs.Ytgjbgakcfcomdaa.M
