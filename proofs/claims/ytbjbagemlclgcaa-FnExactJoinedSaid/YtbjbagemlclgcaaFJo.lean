import Derived.Test.YtbjbagemlclgcaaSh
import Derived.Test.YtbjbagemlclgcaaProg
namespace Go.Proofs.Ytbjbagemlclgcaa.M
open Go Go.MG Try
set_option linter.unusedVariables false
set_option linter.unusedSimpArgs false
set_option maxHeartbeats 8000000
set_option maxRecDepth 100000
structure Tlaws_Rule where
  Kind : Int
  Set : List Int
  N : Int
def eTlaws_Rule (x : Tlaws_Rule) : List Cell := [cI x.Kind, Cell.sl true (List.map eI x.Set), cI x.N]
def bTlaws_Rule (g0 : Bool) (x : Tlaws_Rule) : List Cell := [cI x.Kind, Cell.sl g0 (List.map eI x.Set), cI x.N]
structure Timpl_Rule where
  Kind : Int
  Set : List Int
  N : Int
def eTimpl_Rule (x : Timpl_Rule) : List Cell := [cI x.Kind, Cell.ow 1 (List.map eI x.Set), cI x.N]
def eTimpl_Rule_s (x : Timpl_Rule) : List Cell := [cI x.Kind, Cell.sl true (List.map eI x.Set), cI x.N]
theorem reeTimpl_Rule : ∀ x, ReCs (eTimpl_Rule x) (eTimpl_Rule_s x) := fun _ => .cons (.refl _) (.cons (.of _ _) (.cons (.refl _) (.nil)))
theorem reeTimpl_Rule_s : ∀ x, ReCs (eTimpl_Rule_s x) (eTimpl_Rule x) := fun _ => .cons (.refl _) (.cons (.to _ _ fun s hs => by obtain ⟨_, _, rfl⟩ := List.mem_map.1 hs; rfl) (.cons (.refl _) (.nil)))
def bTimpl_Rule (g0 : Bool) (x : Timpl_Rule) : List Cell := [cI x.Kind, Cell.sl g0 (List.map eI x.Set), cI x.N]
theorem mixed : Try.prog.follows .mixedOrders = true := by kernel_rfl
theorem shape3 : MG.shape Try.prog 3 = some (false, 1) := by kernel_rfl
theorem shape31 : MG.shape Try.prog 31 = some (false, 1) := by kernel_rfl
theorem shape33 : MG.shape Try.prog 33 = some (true, 3) := by kernel_rfl
theorem shape36 : MG.shape Try.prog 36 = some (true, 3) := by kernel_rfl
theorem info3 : Try.prog.info? 3 = some Try.t3 := by kernel_rfl
theorem info31 : Try.prog.info? 31 = some Try.t31 := by kernel_rfl
theorem info33 : Try.prog.info? 33 = some Try.t33 := by kernel_rfl
theorem info36 : Try.prog.info? 36 = some Try.t36 := by kernel_rfl
theorem built36 : builtA Try.prog 36 = fillA (fun x => ([(0, 1), (1, 1), (2, 1)] : List (Nat × Nat))[x]?) [cI (0 : Int), Cell.nil, cI (0 : Int)] := by kernel_rfl
abbrev bx (a b c d : Int) : List Cell := [cI a, cI b, cI c, cI d]
/-! ### Flaws_szIntS -/
def Flaws_szIntS (k : Nat) (a0 : List Int) (a1 : Int) : Option Int := cond (decide ((IntKind.i64.wrap (a1 - (a0.length : Int))) < 0)) (some (-1)) (some (IntKind.i64.wrap (a1 - (a0.length : Int))))
theorem ent20 : MG.Enters Try.prog 20 := ⟨Try.f20, func20, rfl, by decide⟩
theorem g20 (k : Nat) (g0 : Bool) (a0 : List Int) (a1 r : Int) (H : Flaws_szIntS k a0 a1 = some r) : Gives Try.prog 20 [V.one (Cell.sl g0 (List.map eI a0)), V.one (cI a1)] [] [V.one (cI r)] [] := by
 refine Gives.intro func20 rfl rfl rfl rfl ?_; refine fx fun w0 T S0 ob oh hm => ?_
 have hF := fxe w0 T S0 12 ob oh
 unfold Flaws_szIntS at H; obtain ⟨K, hK⟩ := leK k; refine sr ?_; refine ag (L.nil ?_); refine sr ?_; refine mv ?_; refine mv ?_; refine L.lenR (xs := a0) (e := eI) underlying31 hF rfl rfl rfl rfl ?_; refine bi ?_; refine ag (L.nil ?_); refine WpC.seq (sr ?_); refine mv ?_; refine bi (L.nil ?_); refine cd H (fun hc H => ?_) (fun hc H => ?_)
 ·refine sr ?_; refine ag (L.nil ?_); cases H; exact WpC.ret rt
 ·refine WpC.skip (sr ?_); refine mv ?_; refine ag (L.nil ?_); cases H; exact WpC.ret rt
/-! ### Flaws_szRule -/
def Flaws_szRule (k : Nat) (a0 : Tlaws_Rule) (a1 : Int) : Option Int := (Flaws_szIntS k a0.Set a1).bind fun r1 => cond (decide (r1 < 0)) (some (-1)) (some r1)
theorem ent11 : MG.Enters Try.prog 11 := ⟨Try.f11, func11, rfl, by decide⟩
theorem g11 (k : Nat) (g0 : Bool) (a0 : Tlaws_Rule) (a1 r : Int) (H : Flaws_szRule k a0 a1 = some r) : Gives Try.prog 11 [V.agg (bTlaws_Rule g0 a0), V.one (cI a1)] [] [V.one (cI r)] [] := by
 refine Gives.intro func11 rfl rfl rfl rfl ?_; refine fx fun w0 T S0 ob oh hm => ?_
 have hF := fxe w0 T S0 12 ob oh
 unfold Flaws_szRule at H; obtain ⟨K, hK⟩ := leK k; refine sr ?_; refine bo 4 ?_; refine ag (L.nil ?_); refine sr ?_; refine fa underlying33 info31 ?_; refine lp shape31 ?_; refine mv ?_; obtain ⟨r1, hr1, H⟩ := bindS H; refine c0 5 ent20 (g20 k g0 a0.Set a1 r1 hr1) ?_; refine ag (L.nil ?_); refine WpC.seq (sr ?_); refine mv ?_; refine bi (L.nil ?_); refine cd H (fun hc H => ?_) (fun hc H => ?_)
 ·refine sr ?_; refine ag (L.nil ?_); cases H; exact WpC.ret rt
 ·refine WpC.skip (sr ?_); refine mv ?_; refine ag (L.nil ?_); cases H; exact WpC.ret rt
/-! ### Flaws_szRuleS -/
def Flaws_szRuleS.l2 : Nat → (List Tlaws_Rule) → Int → Int → Option Int
 | 0, _, _, _ => none
 | k2 + 1, v34, v35, v36 => cond (decide (v36 < (v34.length : Int))) ((at? v34 v36).bind fun b39 => (Flaws_szRule k2 b39 v35).bind fun r40 => cond (decide (r40 < 0)) (some (-1)) ((Flaws_szRuleS.l2 k2) v34 r40 (IntKind.i64.wrap (v36 + 1)))) (some v35)
def Flaws_szRuleS (k : Nat) (a0 : List Tlaws_Rule) (a1 : Int) : Option Int := cond (decide ((IntKind.i64.wrap (a1 - (a0.length : Int))) < 0)) (some (-1)) (Flaws_szRuleS.l2 k a0 (IntKind.i64.wrap (a1 - (a0.length : Int))) 0)
theorem ent4 : MG.Enters Try.prog 4 := ⟨Try.f4, func4, rfl, by decide⟩
theorem g4 (k : Nat) (g0 : Bool) (a0 : List Tlaws_Rule) (a1 r : Int) (H : Flaws_szRuleS k a0 a1 = some r) : Gives Try.prog 4 [V.one (Cell.sl g0 (List.map eTlaws_Rule a0)), V.one (cI a1)] [] [V.one (cI r)] [] := by
 refine Gives.intro func4 rfl rfl rfl rfl ?_; refine fx fun w0 T S0 ob oh hm => ?_
 have hF := fxe w0 T S0 27 ob oh
 unfold Flaws_szRuleS at H; obtain ⟨K, hK⟩ := leK k; refine sr ?_; refine ag (L.nil ?_); refine sr ?_; refine mv ?_; refine mv ?_; refine L.lenR (xs := a0) (e := eTlaws_Rule) underlying22 hF rfl rfl rfl rfl ?_; refine bi ?_; refine ag (L.nil ?_); refine WpC.seq (sr ?_); refine mv ?_; refine bi (L.nil ?_); refine cd H (fun hc H => ?_) (fun hc H => ?_)
 ·refine sr ?_; refine ag (L.nil ?_); cases H; exact WpC.ret rt
 ·refine WpC.skip (WpC.seq (sr ?_)); refine ag (L.nil ?_); refine WpC.block ?_; refine WpC.loopL (P := Try.prog) (fun n σ => ∃ (v34 : List Tlaws_Rule) (v35 v36 : Int), n ≤ K ∧ Flaws_szRuleS.l2 n v34 v35 v36 = some r ∧ σ = mkSt [(0, MG.one (Cell.sl g0 (List.map eTlaws_Rule v34))), (1, oI v35), (5, oI v36)] [] [] 0) k ⟨_, ⟨a0, (IntKind.i64.wrap (a1 - (a0.length : Int))), 0, by omega, H, rfl⟩, lm [] hm⟩ ?_; clear H
  rintro k2 _ ⟨v34, v35, v36, hk2, H, rfl⟩
  cases k2 with
  | zero => cases H
  | succ k2 =>
   rw [Flaws_szRuleS.l2] at H
   refine WpC.seq (sr ?_); refine mv ?_; refine mv ?_; refine L.lenR (xs := v34) (e := eTlaws_Rule) underlying22 hF rfl rfl rfl rfl ?_; refine bi (L.nil ?_); refine cd H (fun hc H => ?_) (fun hc H => ?_)
   ·refine WpC.skip (WpC.seq (WpC.block (sr ?_))); refine mv ?_; refine mv ?_; obtain ⟨b39, hb39, H⟩ := bindS H; refine ix underlying22 info33 hb39 ?_; refine le shape33 ?_; refine mv ?_; obtain ⟨r40, hr40, H⟩ := bindS H; refine c0 0 ent11 (g11 k2 true b39 v35 r40 hr40) ?_; refine ag (L.nil ?_); refine sr ?_; refine mv ?_; refine bi (L.nil ?_); refine cd H (fun hc H => ?_) (fun hc H => ?_)
    ·refine sr ?_; refine ag (L.nil ?_); cases H; exact WpC.ret rt
    ·refine WpC.skip (WpC.regionL ?_); refine mv ?_; refine bi ?_; refine ag (L.nil ?_); exact ⟨k2, _, by omega, ⟨v34, r40, (IntKind.i64.wrap (v36 + 1)), by omega, H, rfl⟩, lm [] hm⟩
   ·refine WpC.exit (sr ?_); refine mv ?_; refine ag (L.nil ?_); cases H; exact WpC.ret rt
/-! ### Flaws_toIntS -/
def Flaws_toIntS.l2 : Nat → (List Int) → (List Int) → Int → Option (List Int)
 | 0, _, _, _ => none
 | k2 + 1, v35, v36, v37 => cond (decide (v37 < (v35.length : Int))) ((at? v35 v37).bind fun b40 => (at? v36 v37).bind fun b41 => (Flaws_toIntS.l2 k2) v35 (v36.set v37.toNat b40) (IntKind.i64.wrap (v37 + 1))) (some v36)
def Flaws_toIntS (k : Nat) (a0 : List Int) : Option (List Int) := cond (decide (0 ≤ (a0.length : Int) ∧ (a0.length : Int) ≤ (a0.length : Int) ∧ 8 * (a0.length : Int) ≤ 281474976710656 ∧ (a0.length : Int) ≤ 9223372036854775807)) (Flaws_toIntS.l2 k a0 (List.replicate (a0.length : Int).toNat 0) 0) none
theorem ent23 : MG.Enters Try.prog 23 := ⟨Try.f23, func23, rfl, by decide⟩
theorem g23 (k : Nat) (g0 : Bool) (a0 r : List Int) (H : Flaws_toIntS k a0 = some r) : Gives Try.prog 23 [V.one (Cell.sl g0 (List.map eI a0))] [] [V.one (Cell.ow 1 (List.map eI r))] [] := by
 refine Gives.intro func23 rfl rfl rfl rfl ?_; refine fx fun w0 T S0 ob oh hm => ?_
 have hF := fxe w0 T S0 22 ob oh
 unfold Flaws_toIntS at H; obtain ⟨K, hK⟩ := leK k; refine sr ?_; refine ag (L.nil ?_); refine sr ?_; refine mv ?_; refine L.lenR (xs := a0) (e := eI) underlying31 hF rfl rfl rfl rfl ?_; obtain ⟨h1, H⟩ := condG H; refine L.makeSlice (e := eI) 1 0 underlying31 info3 rfl rfl rfl hF rfl rfl rfl rfl (of_decide_eq_true h1) rfl rfl ?_; refine ag (L.nil ?_); refine WpC.seq (sr ?_); refine ag (L.nil ?_); refine WpC.block ?_; refine WpC.loopL (P := Try.prog) (fun n σ => ∃ (v35 v36 : List Int) (v37 : Int), n ≤ K ∧ Flaws_toIntS.l2 n v35 v36 v37 = some r ∧ σ = mkSt [(0, MG.one (Cell.sl g0 (List.map eI v35))), (3, MG.one (Cell.own 0)), (4, oI v37)] [(0, ⟨1, List.map eI v36⟩)] [] 1) k ⟨_, ⟨a0, (List.replicate (a0.length : Int).toNat 0), 0, by omega, H, rfl⟩, lm [(0, 1)] hm⟩ ?_; clear H
 rintro k2 _ ⟨v35, v36, v37, hk2, H, rfl⟩
 cases k2 with
 | zero => cases H
 | succ k2 =>
  rw [Flaws_toIntS.l2] at H
  refine WpC.seq (sr ?_); refine mv ?_; refine mv ?_; refine L.lenR (xs := v35) (e := eI) underlying31 hF rfl rfl rfl rfl ?_; refine bi (L.nil ?_); refine cd H (fun hc H => ?_) (fun hc H => ?_)
  ·refine WpC.skip (WpC.seq (WpC.block (WpC.regionL ?_))); refine mv ?_; refine mv ?_; refine mv ?_; refine mv ?_; obtain ⟨b40, hb40, H⟩ := bindS H; refine ix underlying31 info3 hb40 ?_; refine le shape3 ?_; obtain ⟨b41, hb41, H⟩ := bindS H; refine ix underlying31 info3 hb41 ?_; refine L.storeEp (xs := v36) (e := eI) (a' := b40) shape3 hF rfl rfl rfl rfl rfl rfl rfl (at?_get hb41).2 rfl rfl ?_; refine L.nil ?_; refine WpC.regionL ?_; refine mv ?_; refine bi ?_; refine ag (L.nil ?_); exact ⟨k2, _, by omega, ⟨v35, (v36.set v37.toNat b40), (IntKind.i64.wrap (v37 + 1)), by omega, H, rfl⟩, lm [(0, 0)] hm⟩
  ·refine WpC.exit (sr ?_); refine mv ?_; refine ag (L.nil ?_); cases H; exact WpC.ret rt
/-! ### Flaws_toRule -/
def Flaws_toRule (k : Nat) (a0 : Tlaws_Rule) : Option Timpl_Rule := (Flaws_toIntS k a0.Set).bind fun r1 => some (⟨a0.Kind, r1, a0.N⟩ : Timpl_Rule)
theorem ent14 : MG.Enters Try.prog 14 := ⟨Try.f14, func14, rfl, by decide⟩
theorem g14 (k : Nat) (g0 : Bool) (a0 : Tlaws_Rule) (r : Timpl_Rule) (H : Flaws_toRule k a0 = some r) : Gives Try.prog 14 [V.agg (bTlaws_Rule g0 a0)] [] [V.agg [cI r.Kind, Cell.ow 1 (List.map eI r.Set), cI r.N]] [] := by
 refine Gives.intro func14 rfl rfl rfl rfl ?_; refine fx fun w0 T S0 ob oh hm => ?_
 have hF := fxe w0 T S0 15 ob oh
 unfold Flaws_toRule at H; obtain ⟨K, hK⟩ := leK k; refine sr ?_; refine bo 3 ?_; refine alc 4 info36 (L.nil ?_); refine sr ?_; refine alc 5 info36 (L.nil ?_); refine sr ?_; refine fa underlying33 info3 ?_; refine lp shape3 ?_; refine fa underlying36 info3 ?_; refine sp shape3 (L.nil ?_); refine sr ?_; refine fa underlying33 info31 ?_; refine lp shape31 ?_; obtain ⟨r1, hr1, H⟩ := bindS H; refine c0 6 ent23 (g23 k g0 a0.Set r1 hr1) ?_; refine fa underlying36 info31 ?_; refine sp shape31 (L.nil ?_); refine sr ?_; refine fa underlying33 info3 ?_; refine lp shape3 ?_; refine fa underlying36 info3 ?_; refine sp shape3 (L.nil ?_); refine sr ?_; refine lp shape36 ?_; refine sp shape36 (L.nil ?_); cases H; exact WpC.ret rt
/-! ### Flaws_toRuleS -/
def Flaws_toRuleS.l2 : Nat → (List Tlaws_Rule) → (List Timpl_Rule) → Int → Option (List Timpl_Rule)
 | 0, _, _, _ => none
 | k2 + 1, v45, v46, v47 => cond (decide (v47 < (v45.length : Int))) ((at? v45 v47).bind fun b51 => (Flaws_toRule k2 b51).bind fun r52 => (at? v46 v47).bind fun b53 => (Flaws_toRuleS.l2 k2) v45 (v46.set v47.toNat r52) (IntKind.i64.wrap (v47 + 1))) (some v46)
def Flaws_toRuleS (k : Nat) (a0 : List Tlaws_Rule) : Option (List Timpl_Rule) := cond (decide (0 ≤ (a0.length : Int) ∧ (a0.length : Int) ≤ (a0.length : Int) ∧ 40 * (a0.length : Int) ≤ 281474976710656 ∧ (a0.length : Int) ≤ 9223372036854775807)) (Flaws_toRuleS.l2 k a0 (List.replicate (a0.length : Int).toNat (⟨0, [], 0⟩ : Timpl_Rule)) 0) none
theorem ent6 : MG.Enters Try.prog 6 := ⟨Try.f6, func6, rfl, by decide⟩
theorem g6 (k : Nat) (g0 : Bool) (a0 : List Tlaws_Rule) (r : List Timpl_Rule) (H : Flaws_toRuleS k a0 = some r) : Gives Try.prog 6 [V.one (Cell.sl g0 (List.map eTlaws_Rule a0))] [] [V.one (Cell.ow 3 (List.map eTimpl_Rule r))] [] := by
 refine Gives.intro func6 rfl rfl rfl rfl ?_; refine fx fun w0 T S0 ob oh hm => ?_
 have hF := fxe w0 T S0 23 ob oh
 unfold Flaws_toRuleS at H; obtain ⟨K, hK⟩ := leK k; refine sr ?_; refine ag (L.nil ?_); refine sr ?_; refine mv ?_; refine L.lenR (xs := a0) (e := eTlaws_Rule) underlying22 hF rfl rfl rfl rfl ?_; obtain ⟨h1, H⟩ := condG H; refine L.makeSliceN (e := eTimpl_Rule) 1 (⟨0, [], 0⟩ : Timpl_Rule) underlying24 info36 rfl rfl rfl hF rfl rfl rfl rfl (of_decide_eq_true h1) rfl rfl ⟨rfl, rfl⟩ ?_; refine ag (L.nil ?_); refine WpC.seq (sr ?_); refine ag (L.nil ?_); refine WpC.block ?_; refine WpC.loopL (P := Try.prog) (fun n σ => ∃ (v45 : List Tlaws_Rule) (v46 : List Timpl_Rule) (v47 : Int), n ≤ K ∧ Flaws_toRuleS.l2 n v45 v46 v47 = some r ∧ σ = mkSt [(0, MG.one (Cell.sl g0 (List.map eTlaws_Rule v45))), (3, MG.one (Cell.own 0)), (4, oI v47)] [(0, ⟨3, List.map eTimpl_Rule v46⟩)] [] 1) k ⟨_, ⟨a0, (List.replicate (a0.length : Int).toNat (⟨0, [], 0⟩ : Timpl_Rule)), 0, by omega, H, rfl⟩, lm [(0, 1)] hm⟩ ?_; clear H
 rintro k2 _ ⟨v45, v46, v47, hk2, H, rfl⟩
 cases k2 with
 | zero => cases H
 | succ k2 =>
  rw [Flaws_toRuleS.l2] at H
  refine WpC.seq (sr ?_); refine mv ?_; refine mv ?_; refine L.lenR (xs := v45) (e := eTlaws_Rule) underlying22 hF rfl rfl rfl rfl ?_; refine bi (L.nil ?_); refine cd H (fun hc H => ?_) (fun hc H => ?_)
  ·refine WpC.skip (WpC.seq (WpC.block (WpC.regionL ?_))); refine mv ?_; refine mv ?_; refine mv ?_; refine mv ?_; obtain ⟨b51, hb51, H⟩ := bindS H; refine ix underlying22 info33 hb51 ?_; refine le shape33 ?_; obtain ⟨r52, hr52, H⟩ := bindS H; refine c0 1 ent14 (g14 k2 true b51 r52 hr52) ?_; obtain ⟨b53, hb53, H⟩ := bindS H; refine ix underlying24 info36 hb53 ?_; refine L.storeEpN (xs := v46) (e := eTimpl_Rule) (a' := r52) 1 shape36 hF rfl rfl rfl rfl rfl rfl rfl (at?_get hb53).2 rfl rfl ?_; refine L.nil ?_; refine WpC.regionL ?_; refine mv ?_; refine bi ?_; refine ag (L.nil ?_); exact ⟨k2, _, by omega, ⟨v45, (v46.set v47.toNat r52), (IntKind.i64.wrap (v47 + 1)), by omega, H, rfl⟩, lm [(0, 0)] hm⟩
  ·refine WpC.exit (sr ?_); refine mv ?_; refine ag (L.nil ?_); cases H; exact WpC.ret rt
/-! ### Fspec_l1In -/
def Fspec_l1In (k : Nat) (a0 a1 a2 : Int) : Option Bool := cond (decide (a0 ≥ a1)) (some (decide (a0 ≤ a2))) (some false)
theorem ent30 : MG.Enters Try.prog 30 := ⟨Try.f30, func30, rfl, by decide⟩
theorem g30 (k : Nat) (a0 a1 a2 : Int) (r : Bool) (H : Fspec_l1In k a0 a1 a2 = some r) : Gives Try.prog 30 [V.one (cI a0), V.one (cI a1), V.one (cI a2)] [] [V.one (cL r)] [] := by
 refine Gives.intro func30 rfl rfl rfl rfl ?_; refine fx fun w0 T S0 ob oh hm => ?_
 have hF := fxe w0 T S0 15 ob oh
 unfold Fspec_l1In at H; obtain ⟨K, hK⟩ := leK k; refine sr ?_; refine ag (L.nil ?_); refine sr ?_; refine mv ?_; refine mv ?_; refine bi ?_; refine mv ?_; refine sH H (fun hc H => ?_) (fun hc H => ?_)
 ·refine mv ?_; refine mv ?_; refine bi ?_; refine pk ?_; refine ag (L.nil ?_); cases H; exact WpC.ret rt
 ·(repeat refine of ?_); refine pk ?_; refine ag (L.nil ?_); cases H; exact WpC.ret rt
/-! ### Fspec_l17Set -/
def Fspec_l17Set.j8 (cl7 : (List Int) → Int → Option Bool) (k : Nat) (v107 : List Int) (v108 : Int) : Option Bool := cl7 v107 (IntKind.i64.wrap (v108 + 1))
def Fspec_l17Set.l7 : Nat → (List Int) → Int → Option Bool
 | 0, _, _ => none
 | k7 + 1, v97, v98 => cond (decide (v98 < (v97.length : Int))) ((at? v97 v98).bind fun b113 => (Fspec_l1In k7 b113 0 30).bind fun r114 => cond (!r114) (some false) (cond (decide (v98 > 0)) ((at? v97 (IntKind.i64.wrap (v98 - 1))).bind fun b117 => (at? v97 v98).bind fun b118 => cond (decide (b117 ≥ b118)) (some false) (Fspec_l17Set.j8 (Fspec_l17Set.l7 k7) k7 v97 v98)) (Fspec_l17Set.j8 (Fspec_l17Set.l7 k7) k7 v97 v98))) (some true)
def Fspec_l17Set (k : Nat) (a0 : List Int) : Option Bool := Fspec_l17Set.l7 k a0 0
theorem ent31 : MG.Enters Try.prog 31 := ⟨Try.f31, func31, rfl, by decide⟩
theorem g31 (k : Nat) (g0 : Bool) (a0 : List Int) (r : Bool) (H : Fspec_l17Set k a0 = some r) : Gives Try.prog 31 [V.one (Cell.sl g0 (List.map eI a0))] [] [V.one (cL r)] [] := by
 refine Gives.intro func31 rfl rfl rfl rfl ?_; refine fx fun w0 T S0 ob oh hm => ?_
 have hF := fxe w0 T S0 32 ob oh
 unfold Fspec_l17Set at H; obtain ⟨K, hK⟩ := leK k; refine sr ?_; refine ag (L.nil ?_); refine WpC.seq (sr ?_); refine ag (L.nil ?_); refine WpC.block ?_; refine WpC.loopL (P := Try.prog) (fun n σ => ∃ (v97 : List Int) (v98 : Int), n ≤ K ∧ Fspec_l17Set.l7 n v97 v98 = some r ∧ σ = mkSt [(0, MG.one (Cell.sl g0 (List.map eI v97))), (3, oI v98)] [] [] 0) k ⟨_, ⟨a0, 0, by omega, H, rfl⟩, lm [] hm⟩ ?_; clear H
 rintro k7 _ ⟨v97, v98, hk7, H, rfl⟩
 cases k7 with
 | zero => cases H
 | succ k7 =>
  rw [Fspec_l17Set.l7] at H
  refine WpC.seq (sr ?_); refine mv ?_; refine mv ?_; refine L.lenR (xs := v97) (e := eI) underlying31 hF rfl rfl rfl rfl ?_; refine bi (L.nil ?_); refine cd H (fun hc H => ?_) (fun hc H => ?_)
  ·refine WpC.skip ?_; refine WpC.join (fun σ => ∃ (kj8 : Nat) (v107 : List Int) (v108 : Int), kj8 ≤ K ∧ Fspec_l17Set.j8 (Fspec_l17Set.l7 k7) kj8 v107 v108 = some r ∧ σ = mkSt [(0, MG.one (Cell.sl g0 (List.map eI v107))), (3, oI v108)] [] [] 0) ?_ ?_
   ·rintro _ ⟨kj8, v107, v108, hkj8, H, rfl⟩
    unfold Fspec_l17Set.j8 at H; refine WpC.regionL ?_; refine mv ?_; refine bi ?_; refine ag (L.nil ?_); exact ⟨k7, _, by omega, ⟨v107, (IntKind.i64.wrap (v108 + 1)), by omega, H, rfl⟩, lm [] hm⟩
   ·refine WpC.block (WpC.seq ?_); obtain ⟨b113, hb113, H⟩ := bindS H; obtain ⟨r114, hr114, H⟩ := bindS H
    rcases Bool.eq_false_or_eq_true ((!r114)) with hc115 | hc115
    ·replace H := condT hc115 H
     refine A.begin mixed rfl rfl ?_; intro W hI hO; refine hI _ _ _ ?_; refine tM 0 ?_; refine tM 1 ?_; refine Atk 2 rfl (Ca.indexAddr) (fun Q0 k0 => ix underlying31 info3 hb113 (L.nil k0)) ?_; refine A.all [3] (by kernel_rfl) rfl ⟨⟨_, rfl, ?_⟩, trivial⟩; refine le shape3 (L.nil ?_); refine A.all [4] (by kernel_rfl) rfl ⟨⟨_, rfl, ?_⟩, trivial⟩; refine c0 0 ent30 (g30 k7  b113 0 30 r114 hr114) (L.nil ?_); refine Atk 5 rfl (Ca.un rfl rfl) (fun Q0 k0 => nt (L.nil k0)) ?_; refine tM 6 ?_; refine A.le (τ := mkSt [(0, MG.one (Cell.sl g0 (List.map eI v97))), (3, oI v98), (16, oL true)] [] [] 0) (Le.mk [] hm rfl (Sa2 (Sa1 trivial rfl (congrArg (fun b => some (MG.one (cL b))) hc115))) trivial trivial) ?_; refine tO 7 ?_; refine tO 8 ?_; refine tO 9 ?_; refine tO 10 ?_; refine tO 11 ?_; refine tO 12 ?_; refine tO 13 ?_; refine tO 14 ?_; refine tO 15 ?_; refine tO 16 ?_; refine A.le (τ := mkSt [(0, MG.one (Cell.sl g0 (List.map eI v97))), (3, oI v98), (16, oL true), (19, Slot.tup []), (24, Slot.tup []), (25, Slot.tup []), (26, Slot.tup [])] [] [] 0) (lm [] hm) ?_; refine tO 17 ?_; refine tO 18 ?_; refine tO 19 ?_; refine tO 20 ?_
     refine tP 21 ?_; refine A.le (τ := mkSt [(0, MG.one (Cell.sl g0 (List.map eI v97))), (3, oI v98), (31, oL true)] [] [] 0) (lm [] hm) ?_; refine A.done (by kernel_rfl) ?_; refine cT ?_; refine sr ?_; refine ag (L.nil ?_); cases H; exact WpC.ret rt
    ·replace H := condF hc115 H
     rcases Bool.eq_false_or_eq_true ((decide (v98 > 0))) with hc116 | hc116
     ·replace H := condT hc116 H
      obtain ⟨b117, hb117, H⟩ := bindS H; obtain ⟨b118, hb118, H⟩ := bindS H; refine A.begin mixed rfl rfl ?_; intro W hI hO
      have n524287 : W 3 #[true, true, true, true, true, true, true, true, true, true, true, true, true, true, true, true, true, true, true, false, false, false] (mkSt [(0, MG.one (Cell.sl g0 (List.map eI v97))), (3, oI v98), (16, oL false), (19, oL true), (24, oI b117), (28, oI b118)] [] [] 0) := by
       refine hI _ _ _ ?_; refine Atk 19 rfl (Ca.bin rfl rfl (calm_int _ _ _ _ _ _ _ _)) (fun Q0 k0 => bi (L.nil k0)) ?_; refine tP 20 ?_; refine tP 21 ?_; refine A.le (τ := mkSt [(0, MG.one (Cell.sl g0 (List.map eI v97))), (3, oI v98), (31, MG.one (cL (decide (b117 ≥ b118))))] [] [] 0) (lm [] hm) ?_; refine A.done (by kernel_rfl) ?_; refine cd H (fun hc H => ?_) (fun hc H => ?_)
       ·refine sr ?_; refine ag (L.nil ?_); cases H; exact WpC.ret rt
       ·refine WpC.skip ?_; exact ⟨_, ⟨k7, v97, v98, by omega, H, rfl⟩, lm [] hm⟩
      refine hI _ _ _ ?_; refine tM 0 ?_; refine tM 1 ?_; refine Atk 2 rfl (Ca.indexAddr) (fun Q0 k0 => ix underlying31 info3 hb113 (L.nil k0)) ?_; refine A.all [3] (by kernel_rfl) rfl ⟨⟨_, rfl, ?_⟩, trivial⟩; refine le shape3 (L.nil ?_); refine A.all [4] (by kernel_rfl) rfl ⟨⟨_, rfl, ?_⟩, trivial⟩; refine c0 0 ent30 (g30 k7  b113 0 30 r114 hr114) (L.nil ?_); refine Atk 5 rfl (Ca.un rfl rfl) (fun Q0 k0 => nt (L.nil k0)) ?_; refine tM 6 ?_; refine A.le (τ := mkSt [(0, MG.one (Cell.sl g0 (List.map eI v97))), (3, oI v98), (16, oL false)] [] [] 0) (Le.mk [] hm rfl (Sa2 (Sa1 trivial rfl (congrArg (fun b => some (MG.one (cL b))) hc115))) trivial trivial) ?_; refine tM 7 ?_; refine Atk 8 rfl (Ca.bin rfl rfl (calm_int _ _ _ _ _ _ _ _)) (fun Q0 k0 => bi (L.nil k0)) ?_; refine tM 9 ?_; refine A.le (τ := mkSt [(0, MG.one (Cell.sl g0 (List.map eI v97))), (3, oI v98), (16, oL false), (19, oL true)] [] [] 0) (Le.mk [] hm rfl (Sa2 (Sa1 (Sa1 trivial rfl (congrArg (fun b => some (MG.one (cL b))) hc116)))) trivial trivial) ?_; refine tM 10 ?_; refine tM 11 ?_
      refine Atk 12 rfl (Ca.bin rfl rfl (calm_int _ _ _ _ _ _ _ _)) (fun Q0 k0 => bi (L.nil k0)) ?_; refine Atk 13 rfl (Ca.indexAddr) (fun Q0 k0 => ix underlying31 info3 hb117 (L.nil k0)) ?_; refine tM 15 ?_; refine tM 16 ?_; refine Atk 17 rfl (Ca.indexAddr) (fun Q0 k0 => ix underlying31 info3 hb118 (L.nil k0)) ?_; refine A.all [14, 18] (by kernel_rfl) rfl ⟨⟨_, rfl, ?_⟩, ⟨_, rfl, ?_⟩, trivial⟩
      ·refine le shape3 (L.nil ?_); refine A.all [18] (by kernel_rfl) rfl ⟨⟨_, rfl, ?_⟩, trivial⟩; refine le shape3 (L.nil ?_); exact A.on (hO _ _ _ n524287) (lm [] hm)
      ·refine le shape3 (L.nil ?_); refine A.all [14] (by kernel_rfl) rfl ⟨⟨_, rfl, ?_⟩, trivial⟩; refine le shape3 (L.nil ?_); exact A.on (hO _ _ _ n524287) (lm [] hm)
     ·replace H := condF hc116 H
      refine A.begin mixed rfl rfl ?_; intro W hI hO; refine hI _ _ _ ?_; refine tM 0 ?_; refine tM 1 ?_; refine Atk 2 rfl (Ca.indexAddr) (fun Q0 k0 => ix underlying31 info3 hb113 (L.nil k0)) ?_; refine A.all [3] (by kernel_rfl) rfl ⟨⟨_, rfl, ?_⟩, trivial⟩; refine le shape3 (L.nil ?_); refine A.all [4] (by kernel_rfl) rfl ⟨⟨_, rfl, ?_⟩, trivial⟩; refine c0 0 ent30 (g30 k7  b113 0 30 r114 hr114) (L.nil ?_); refine Atk 5 rfl (Ca.un rfl rfl) (fun Q0 k0 => nt (L.nil k0)) ?_; refine tM 6 ?_; refine A.le (τ := mkSt [(0, MG.one (Cell.sl g0 (List.map eI v97))), (3, oI v98), (16, oL false)] [] [] 0) (Le.mk [] hm rfl (Sa2 (Sa1 trivial rfl (congrArg (fun b => some (MG.one (cL b))) hc115))) trivial trivial) ?_; refine tM 7 ?_; refine Atk 8 rfl (Ca.bin rfl rfl (calm_int _ _ _ _ _ _ _ _)) (fun Q0 k0 => bi (L.nil k0)) ?_; refine tM 9 ?_; refine A.le (τ := mkSt [(0, MG.one (Cell.sl g0 (List.map eI v97))), (3, oI v98), (16, oL false), (19, oL false)] [] [] 0) (Le.mk [] hm rfl (Sa2 (Sa1 (Sa1 trivial rfl (congrArg (fun b => some (MG.one (cL b))) hc116)))) trivial trivial) ?_; refine tO 10 ?_; refine tO 11 ?_; refine tO 12 ?_; refine tO 13 ?_; refine tO 14 ?_; refine tO 15 ?_
      refine tO 16 ?_; refine tO 17 ?_; refine tO 18 ?_; refine tO 19 ?_; refine A.le (τ := mkSt [(0, MG.one (Cell.sl g0 (List.map eI v97))), (3, oI v98), (16, oL false), (19, oL false), (29, Slot.tup [])] [] [] 0) (lm [] hm) ?_; refine tP 20 ?_; refine tP 21 ?_; refine A.le (τ := mkSt [(0, MG.one (Cell.sl g0 (List.map eI v97))), (3, oI v98), (31, oL false)] [] [] 0) (lm [] hm) ?_; refine A.done (by kernel_rfl) ?_; refine cF ?_; refine WpC.skip ?_; exact ⟨_, ⟨k7, v97, v98, by omega, H, rfl⟩, lm [] hm⟩
  ·refine WpC.exit (sr ?_); refine ag (L.nil ?_); cases H; exact WpC.ret rt
/-! ### Fspec_l17Ok -/
def Fspec_l17Ok (k : Nat) (a0 : Timpl_Rule) : Option Bool := (Fspec_l1In k a0.Kind 1 3).bind fun r4 => cond r4 (cond (a0.N == 0) ((Fspec_l17Set k a0.Set).bind fun r6 => some r6) (some false)) ((Fspec_l1In k a0.Kind 4 5).bind fun r9 => cond r9 (cond ((a0.Set.length : Int) == 0) ((Fspec_l1In k a0.N 0 100000).bind fun r10 => some r10) (some false)) (some false))
theorem ent21 : MG.Enters Try.prog 21 := ⟨Try.f21, func21, rfl, by decide⟩
theorem g21 (k : Nat) (g0 : Bool) (a0 : Timpl_Rule) (r : Bool) (H : Fspec_l17Ok k a0 = some r) : Gives Try.prog 21 [V.agg (bTimpl_Rule g0 a0)] [] [V.one (cL r)] [] := by
 refine Gives.intro func21 rfl rfl rfl rfl ?_; refine fx fun w0 T S0 ob oh hm => ?_
 have hF := fxe w0 T S0 28 ob oh
 unfold Fspec_l17Ok at H; obtain ⟨K, hK⟩ := leK k; refine sr ?_; refine bo 3 ?_; refine ag (L.nil ?_); refine WpC.seq (sr ?_); refine fa underlying36 info3 ?_; refine lp shape3 ?_; obtain ⟨r4, hr4, H⟩ := bindS H; refine c0 4 ent30 (g30 k  a0.Kind 1 3 r4 hr4) (L.nil ?_); refine cd H (fun hc H => ?_) (fun hc H => ?_)
 ·refine sr ?_; refine fa underlying36 info3 ?_; refine lp shape3 ?_; refine bi ?_; refine mv ?_; refine sH H (fun hc H => ?_) (fun hc H => ?_)
  ·refine fa underlying36 info31 ?_; refine lp shape31 ?_; obtain ⟨r6, hr6, H⟩ := bindS H; refine c0 5 ent31 (g31 k g0 a0.Set r6 hr6) ?_; refine pk ?_; refine ag (L.nil ?_); cases H; exact WpC.ret rt
  ·(repeat refine of ?_); refine pk ?_; refine ag (L.nil ?_); cases H; exact WpC.ret rt
 ·refine WpC.skip (sr ?_); refine fa underlying36 info3 ?_; refine lp shape3 ?_; obtain ⟨r9, hr9, H⟩ := bindS H; refine c0 5 ent30 (g30 k  a0.Kind 4 5 r9 hr9) ?_; refine mv ?_; refine sH H (fun hc H => ?_) (fun hc H => ?_)
  ·refine fa underlying36 info31 ?_; refine lp shape31 ?_; refine L.lenR (xs := a0.Set) (e := eI) underlying31 hF rfl rfl rfl rfl ?_; refine bi ?_; refine pk ?_; refine mv ?_; refine sH H (fun hc H => ?_) (fun hc H => ?_)
   ·refine fa underlying36 info3 ?_; refine lp shape3 ?_; obtain ⟨r10, hr10, H⟩ := bindS H; refine c0 6 ent30 (g30 k  a0.N 0 100000 r10 hr10) ?_; refine pk ?_; refine ag (L.nil ?_); cases H; exact WpC.ret rt
   ·(repeat refine of ?_); refine pk ?_; refine ag (L.nil ?_); cases H; exact WpC.ret rt
  ·(repeat refine of ?_); refine pk ?_; refine mv ?_; (repeat refine of ?_); refine pk ?_; refine ag (L.nil ?_); cases H; exact WpC.ret rt
/-! ### Fspec_RulesOk -/
def Fspec_RulesOk.l2 : Nat → (List Timpl_Rule) → Int → Option Bool
 | 0, _, _ => none
 | k2 + 1, v29, v30 => cond (decide (v30 < (v29.length : Int))) ((at? v29 v30).bind fun b33 => (Fspec_l17Ok k2 b33).bind fun r34 => cond (!r34) (some false) ((Fspec_RulesOk.l2 k2) v29 (IntKind.i64.wrap (v30 + 1)))) (some true)
def Fspec_RulesOk (k : Nat) (a0 : List Timpl_Rule) : Option Bool := cond (decide ((a0.length : Int) > 20)) (some false) (Fspec_RulesOk.l2 k a0 0)
theorem ent12 : MG.Enters Try.prog 12 := ⟨Try.f12, func12, rfl, by decide⟩
theorem g12 (k : Nat) (g0 : Bool) (a0 : List Timpl_Rule) (r : Bool) (H : Fspec_RulesOk k a0 = some r) : Gives Try.prog 12 [V.one (Cell.sl g0 (List.map eTimpl_Rule a0))] [] [V.one (cL r)] [] := by
 refine Gives.intro func12 rfl rfl rfl rfl ?_; refine fx fun w0 T S0 ob oh hm => ?_
 have hF := fxe w0 T S0 19 ob oh
 unfold Fspec_RulesOk at H; obtain ⟨K, hK⟩ := leK k; refine sr ?_; refine ag (L.nil ?_); refine WpC.seq (sr ?_); refine mv ?_; refine L.lenR (xs := a0) (e := eTimpl_Rule) underlying24 hF rfl rfl rfl rfl ?_; refine bi (L.nil ?_); refine cd H (fun hc H => ?_) (fun hc H => ?_)
 ·refine sr ?_; refine ag (L.nil ?_); cases H; exact WpC.ret rt
 ·refine WpC.skip (WpC.seq (sr ?_)); refine ag (L.nil ?_); refine WpC.block ?_; refine WpC.loopL (P := Try.prog) (fun n σ => ∃ (v29 : List Timpl_Rule) (v30 : Int), n ≤ K ∧ Fspec_RulesOk.l2 n v29 v30 = some r ∧ σ = mkSt [(0, MG.one (Cell.sl g0 (List.map eTimpl_Rule v29))), (3, oI v30)] [] [] 0) k ⟨_, ⟨a0, 0, by omega, H, rfl⟩, lm [] hm⟩ ?_; clear H
  rintro k2 _ ⟨v29, v30, hk2, H, rfl⟩
  cases k2 with
  | zero => cases H
  | succ k2 =>
   rw [Fspec_RulesOk.l2] at H
   refine WpC.seq (sr ?_); refine mv ?_; refine mv ?_; refine L.lenR (xs := v29) (e := eTimpl_Rule) underlying24 hF rfl rfl rfl rfl ?_; refine bi (L.nil ?_); refine cd H (fun hc H => ?_) (fun hc H => ?_)
   ·refine WpC.skip (WpC.seq (WpC.block (sr ?_))); refine mv ?_; refine mv ?_; obtain ⟨b33, hb33, H⟩ := bindS H; refine ix underlying24 info36 hb33 ?_; refine le shape36 ?_; obtain ⟨r34, hr34, H⟩ := bindS H; refine c0 0 ent21 (g21 k2 g0 b33 r34 hr34) ?_; refine nt (L.nil ?_); refine cd H (fun hc H => ?_) (fun hc H => ?_)
    ·refine sr ?_; refine ag (L.nil ?_); cases H; exact WpC.ret rt
    ·refine WpC.skip (WpC.regionL ?_); refine mv ?_; refine bi ?_; refine ag (L.nil ?_); exact ⟨k2, _, by omega, ⟨v29, (IntKind.i64.wrap (v30 + 1)), by omega, H, rfl⟩, lm [] hm⟩
   ·refine WpC.exit (sr ?_); refine ag (L.nil ?_); cases H; exact WpC.ret rt
/-! ### Fspec_l16Least -/
def Fspec_l16Least (k : Nat) (a0 a1 : Int) : Option Int := cond (decide (a0 < a1)) (some a0) (some a1)
theorem ent38 : MG.Enters Try.prog 38 := ⟨Try.f38, func38, rfl, by decide⟩
theorem g38 (k : Nat) (a0 a1 r : Int) (H : Fspec_l16Least k a0 a1 = some r) : Gives Try.prog 38 [V.one (cI a0), V.one (cI a1)] [] [V.one (cI r)] [] := by
 refine Gives.intro func38 rfl rfl rfl rfl ?_; refine fx fun w0 T S0 ob oh hm => ?_
 have hF := fxe w0 T S0 10 ob oh
 unfold Fspec_l16Least at H; obtain ⟨K, hK⟩ := leK k; refine sr ?_; refine ag (L.nil ?_); refine WpC.seq (sr ?_); refine mv ?_; refine mv ?_; refine bi (L.nil ?_); refine cd H (fun hc H => ?_) (fun hc H => ?_)
 ·refine sr ?_; refine mv ?_; refine ag (L.nil ?_); cases H; exact WpC.ret rt
 ·refine WpC.skip (sr ?_); refine mv ?_; refine ag (L.nil ?_); cases H; exact WpC.ret rt
/-! ### Fspec_l3Has -/
def Fspec_l3Has.l2 : Nat → (List Int) → Int → Int → Option Bool
 | 0, _, _, _ => none
 | k2 + 1, v24, v25, v26 => cond (decide (v26 < (v24.length : Int))) ((at? v24 v26).bind fun b28 => cond (b28 == v25) (some true) ((Fspec_l3Has.l2 k2) v24 v25 (IntKind.i64.wrap (v26 + 1)))) (some false)
def Fspec_l3Has (k : Nat) (a0 : List Int) (a1 : Int) : Option Bool := Fspec_l3Has.l2 k a0 a1 0
theorem ent39 : MG.Enters Try.prog 39 := ⟨Try.f39, func39, rfl, by decide⟩
theorem g39 (k : Nat) (g0 : Bool) (a0 : List Int) (a1 : Int) (r : Bool) (H : Fspec_l3Has k a0 a1 = some r) : Gives Try.prog 39 [V.one (Cell.sl g0 (List.map eI a0)), V.one (cI a1)] [] [V.one (cL r)] [] := by
 refine Gives.intro func39 rfl rfl rfl rfl ?_; refine fx fun w0 T S0 ob oh hm => ?_
 have hF := fxe w0 T S0 18 ob oh
 unfold Fspec_l3Has at H; obtain ⟨K, hK⟩ := leK k; refine sr ?_; refine ag (L.nil ?_); refine WpC.seq (sr ?_); refine ag (L.nil ?_); refine WpC.block ?_; refine WpC.loopL (P := Try.prog) (fun n σ => ∃ (v24 : List Int) (v25 v26 : Int), n ≤ K ∧ Fspec_l3Has.l2 n v24 v25 v26 = some r ∧ σ = mkSt [(0, MG.one (Cell.sl g0 (List.map eI v24))), (1, oI v25), (5, oI v26)] [] [] 0) k ⟨_, ⟨a0, a1, 0, by omega, H, rfl⟩, lm [] hm⟩ ?_; clear H
 rintro k2 _ ⟨v24, v25, v26, hk2, H, rfl⟩
 cases k2 with
 | zero => cases H
 | succ k2 =>
  rw [Fspec_l3Has.l2] at H
  refine WpC.seq (sr ?_); refine mv ?_; refine mv ?_; refine L.lenR (xs := v24) (e := eI) underlying31 hF rfl rfl rfl rfl ?_; refine bi (L.nil ?_); refine cd H (fun hc H => ?_) (fun hc H => ?_)
  ·refine WpC.skip (WpC.seq (WpC.block (sr ?_))); refine mv ?_; refine mv ?_; obtain ⟨b28, hb28, H⟩ := bindS H; refine ix underlying31 info3 hb28 ?_; refine le shape3 ?_; refine mv ?_; refine bi (L.nil ?_); refine cd H (fun hc H => ?_) (fun hc H => ?_)
   ·refine sr ?_; refine ag (L.nil ?_); cases H; exact WpC.ret rt
   ·refine WpC.skip (WpC.regionL ?_); refine mv ?_; refine bi ?_; refine ag (L.nil ?_); exact ⟨k2, _, by omega, ⟨v24, v25, (IntKind.i64.wrap (v26 + 1)), by omega, H, rfl⟩, lm [] hm⟩
  ·refine WpC.exit (sr ?_); refine ag (L.nil ?_); cases H; exact WpC.ret rt
/-! ### Fspec_l17Meet -/
def Fspec_l17Meet.j19 (cl17 : Int → Timpl_Rule → Timpl_Rule → (List Int) → Option Timpl_Rule) (k : Nat) (v121 : Int) (v122 v123 : Timpl_Rule) (v124 : List Int) : Option Timpl_Rule := cl17 (IntKind.i64.wrap (v121 + 1)) v122 v123 v124
def Fspec_l17Meet.j20 (cl17 : Int → Timpl_Rule → Timpl_Rule → (List Int) → Option Timpl_Rule) (k : Nat) (v127 : Int) (v128 : Bool) (v129 v130 : Timpl_Rule) (v131 : List Int) : Option Timpl_Rule := cond v128 (cond (decide ((2 * (v131.length + ([v127] : List Int).length) + 192) * 8 ≤ 281474976710656)) (Fspec_l17Meet.j19 cl17 k v127 v129 v130 (v131 ++ ([v127] : List Int))) none) (Fspec_l17Meet.j19 cl17 k v127 v129 v130 v131)
def Fspec_l17Meet.l17 : Nat → Int → Timpl_Rule → Timpl_Rule → (List Int) → Option Timpl_Rule
 | 0, _, _, _, _ => none
 | k17 + 1, v109, v110, v111, v112 => cond (decide (v109 ≤ 30)) ((Fspec_l3Has k17 v110.Set v109).bind fun r125 => (Fspec_l3Has k17 v111.Set v109).bind fun r126 => cond r125 (cond r126 (Fspec_l17Meet.j20 (Fspec_l17Meet.l17 k17) k17 v109 true v110 v111 v112) (cond (v110.Kind == 3) (cond r125 (Fspec_l17Meet.j20 (Fspec_l17Meet.l17 k17) k17 v109 true v110 v111 v112) (Fspec_l17Meet.j20 (Fspec_l17Meet.l17 k17) k17 v109 r126 v110 v111 v112)) (Fspec_l17Meet.j20 (Fspec_l17Meet.l17 k17) k17 v109 false v110 v111 v112))) (cond (v110.Kind == 3) (cond r125 (Fspec_l17Meet.j20 (Fspec_l17Meet.l17 k17) k17 v109 true v110 v111 v112) (Fspec_l17Meet.j20 (Fspec_l17Meet.l17 k17) k17 v109 r126 v110 v111 v112)) (Fspec_l17Meet.j20 (Fspec_l17Meet.l17 k17) k17 v109 false v110 v111 v112))) (some (⟨v110.Kind, v112, 0⟩ : Timpl_Rule))
def Fspec_l17Meet (k : Nat) (a0 a1 : Timpl_Rule) : Option Timpl_Rule := cond (decide (a0.Kind ≥ 4)) ((Fspec_l16Least k a0.N a1.N).bind fun r2 => some (⟨a0.Kind, [], r2⟩ : Timpl_Rule)) (Fspec_l17Meet.l17 k 0 a0 a1 [])
theorem ent32 : MG.Enters Try.prog 32 := ⟨Try.f32, func32, rfl, by decide⟩
theorem g32 (k : Nat) (g0 g1 : Bool) (a0 a1 r : Timpl_Rule) (H : Fspec_l17Meet k a0 a1 = some r) : Gives Try.prog 32 [V.agg (bTimpl_Rule g0 a0), V.agg (bTimpl_Rule g1 a1)] [] [V.agg [cI r.Kind, Cell.ow 1 (List.map eI r.Set), cI r.N]] [] := by
 refine Gives.intro func32 rfl rfl rfl rfl ?_; refine fx fun w0 T S0 ob oh hm => ?_
 have hF := fxe w0 T S0 56 ob oh
 unfold Fspec_l17Meet at H; obtain ⟨K, hK⟩ := leK k; refine sr ?_; refine bo 6 ?_; refine bo 7 ?_; refine alc 8 info36 (L.nil ?_); refine sr ?_; refine fa underlying36 info3 ?_; refine lp shape3 ?_; refine bf built36 ?_; refine alc 9 info36 ?_; refine sp shape36 (L.nil ?_); refine WpC.seq (sr ?_); refine fa underlying36 info3 ?_; refine lp shape3 ?_; refine bi (L.nil ?_); refine cd H (fun hc H => ?_) (fun hc H => ?_)
 ·refine sr ?_; refine fa underlying36 info3 ?_; refine lp shape3 ?_; refine fa underlying36 info3 ?_; refine lp shape3 ?_; obtain ⟨r2, hr2, H⟩ := bindS H; refine c0 10 ent38 (g38 k  a0.N a1.N r2 hr2) ?_; refine fa underlying36 info3 ?_; refine sp shape3 (L.nil ?_); refine sr ?_; refine lp shape36 ?_; refine sp shape36 (L.nil ?_); refine WpC.le (Le.ownB 8 1 11 1 rfl rfl rfl) ?_; cases H; exact WpC.ret rt
 ·refine WpC.skip (WpC.seq (sr ?_)); refine ag (L.nil ?_); refine WpC.block ?_; refine WpC.loopL (P := Try.prog) (fun n σ => ∃ (v109 : Int) (v110 v111 : Timpl_Rule) (v112 : List Int), n ≤ K ∧ Fspec_l17Meet.l17 n v109 v110 v111 v112 = some r ∧ σ = mkSt [(2, oP 0 0), (3, oP 1 0), (4, oP 2 0), (5, oP 3 0), (6, oI v109)] [(4, ⟨1, List.map eI v112⟩)] [(0, (bTimpl_Rule g0 v110)), (1, (bTimpl_Rule g1 v111)), (2, [cI 0, Cell.nil, cI 0]), (3, [cI v110.Kind, Cell.own 4, cI 0])] 5) k ⟨_, ⟨0, a0, a1, [], by omega, H, rfl⟩, (Le.ownB 9 1 10 1 rfl rfl rfl).trans (lm [(0, 6), (1, 7), (2, 8), (3, 9), (4, 10)] hm)⟩ ?_; clear H
  rintro k17 _ ⟨v109, v110, v111, v112, hk17, H, rfl⟩
  cases k17 with
  | zero => cases H
  | succ k17 =>
   rw [Fspec_l17Meet.l17] at H
   refine WpC.seq (sr ?_); refine mv ?_; refine bi (L.nil ?_); refine cd H (fun hc H => ?_) (fun hc H => ?_)
   ·refine WpC.skip ?_; refine WpC.join (fun σ => ∃ (kj19 : Nat) (v121 : Int) (v122 v123 : Timpl_Rule) (v124 : List Int), kj19 ≤ K ∧ Fspec_l17Meet.j19 (Fspec_l17Meet.l17 k17) kj19 v121 v122 v123 v124 = some r ∧ σ = mkSt [(2, oP 0 0), (3, oP 1 0), (4, oP 2 0), (5, oP 3 0), (6, oI v121)] [(4, ⟨1, List.map eI v124⟩)] [(0, (bTimpl_Rule g0 v122)), (1, (bTimpl_Rule g1 v123)), (2, [cI 0, Cell.nil, cI 0]), (3, [cI v122.Kind, Cell.own 4, cI 0])] 5) ?_ ?_
    ·rintro _ ⟨kj19, v121, v122, v123, v124, hkj19, H, rfl⟩
     unfold Fspec_l17Meet.j19 at H; refine WpC.regionL ?_; refine mv ?_; refine bi ?_; refine ag (L.nil ?_); exact ⟨k17, _, by omega, ⟨(IntKind.i64.wrap (v121 + 1)), v122, v123, v124, by omega, H, rfl⟩, lm [(0, 0), (1, 1), (2, 2), (3, 3), (4, 4)] hm⟩
    ·refine WpC.block (sr ?_); refine fa underlying36 info31 ?_; refine lp shape31 ?_; refine mv ?_; obtain ⟨r125, hr125, H⟩ := bindS H; refine c0 5 ent39 (g39 k17 g0 v110.Set v109 r125 hr125) ?_; refine ag (L.nil ?_); refine sr ?_; refine fa underlying36 info31 ?_; refine lp shape31 ?_; refine mv ?_; obtain ⟨r126, hr126, H⟩ := bindS H; refine c0 6 ent39 (g39 k17 g1 v111.Set v109 r126 hr126) ?_; refine ag (L.nil ?_); refine WpC.join (fun σ => ∃ (kj20 : Nat) (v127 : Int) (v128 : Bool) (v129 v130 : Timpl_Rule) (v131 : List Int), kj20 ≤ K ∧ Fspec_l17Meet.j20 (Fspec_l17Meet.l17 k17) kj20 v127 v128 v129 v130 v131 = some r ∧ σ = mkSt [(2, oP 0 0), (3, oP 1 0), (4, oP 2 0), (5, oP 3 0), (6, oI v127), (48, oL v128)] [(4, ⟨1, List.map eI v131⟩)] [(0, (bTimpl_Rule g0 v129)), (1, (bTimpl_Rule g1 v130)), (2, [cI 0, Cell.nil, cI 0]), (3, [cI v129.Kind, Cell.own 4, cI 0])] 5) ?_ ?_
     ·rintro _ ⟨kj20, v127, v128, v129, v130, v131, hkj20, H, rfl⟩
      unfold Fspec_l17Meet.j20 at H; refine cd H (fun hc H => ?_) (fun hc H => ?_)
      ·refine WpC.regionL ?_; refine fa underlying36 info31 ?_; refine lp shape31 ?_; refine mv ?_; refine L.buildSlice (e := eI) 5 ([v127] : List Int) underlying31 info3 rfl rfl rfl hF rfl rfl rfl rfl rfl rfl rfl rfl ?_; obtain ⟨h132, H⟩ := condG H; refine L.append (xs := v131) (ys := ([v127] : List Int)) (e := eI) 6 underlying31 info3 rfl rfl hF rfl rfl rfl rfl rfl rfl rfl rfl (fun _ => rfl) (fun _ _ h1 h2 => by cases h1; cases h2; rfl) ⟨_, underlying31⟩ (of_decide_eq_true h132) rfl rfl ?_; refine fa underlying36 info31 ?_; refine sp shape31 (L.nil ?_); exact ⟨_, ⟨kj20, v127, v129, v130, (v131 ++ ([v127] : List Int)), by omega, H, rfl⟩, lm [(0, 0), (1, 1), (2, 2), (3, 3), (4, 6)] hm⟩
      ·refine WpC.skip ?_; exact ⟨_, ⟨kj20, v127, v129, v130, v131, by omega, H, rfl⟩, lm [(0, 0), (1, 1), (2, 2), (3, 3), (4, 4)] hm⟩
     ·refine WpC.regionL ?_; refine mv ?_; refine mv ?_; refine sH H (fun hc H => ?_) (fun hc H => ?_)
      ·refine mv ?_; refine pk ?_; refine mv ?_; refine sH H (fun hc H => ?_) (fun hc H => ?_)
       ·(repeat refine of ?_); refine pk (L.nil ?_); exact ⟨_, ⟨k17, v109, true, v110, v111, v112, by omega, H, rfl⟩, lm [(0, 0), (1, 1), (2, 2), (3, 3), (4, 4)] hm⟩
       ·refine fa underlying36 info3 ?_; refine lp shape3 ?_; refine bi ?_; refine mv ?_; refine sH H (fun hc H => ?_) (fun hc H => ?_)
        ·refine mv ?_; refine mv ?_; refine sH H (fun hc H => ?_) (fun hc H => ?_)
         ·refine of ?_; refine pk ?_; refine pk ?_; refine pk (L.nil ?_); exact ⟨_, ⟨k17, v109, true, v110, v111, v112, by omega, H, rfl⟩, lm [(0, 0), (1, 1), (2, 2), (3, 3), (4, 4)] hm⟩
         ·refine mv ?_; refine pk ?_; refine pk ?_; refine pk (L.nil ?_); exact ⟨_, ⟨k17, v109, r126, v110, v111, v112, by omega, H, rfl⟩, lm [(0, 0), (1, 1), (2, 2), (3, 3), (4, 4)] hm⟩
        ·(repeat refine of ?_); refine pk ?_; refine pk (L.nil ?_); exact ⟨_, ⟨k17, v109, false, v110, v111, v112, by omega, H, rfl⟩, lm [(0, 0), (1, 1), (2, 2), (3, 3), (4, 4)] hm⟩
      ·refine of ?_; refine pk ?_; refine mv ?_; refine fa underlying36 info3 ?_; refine lp shape3 ?_; refine bi ?_; refine mv ?_; refine sH H (fun hc H => ?_) (fun hc H => ?_)
       ·refine mv ?_; refine mv ?_; refine sH H (fun hc H => ?_) (fun hc H => ?_)
        ·refine of ?_; refine pk ?_; refine pk ?_; refine pk (L.nil ?_); exact ⟨_, ⟨k17, v109, true, v110, v111, v112, by omega, H, rfl⟩, lm [(0, 0), (1, 1), (2, 2), (3, 3), (4, 4)] hm⟩
        ·refine mv ?_; refine pk ?_; refine pk ?_; refine pk (L.nil ?_); exact ⟨_, ⟨k17, v109, r126, v110, v111, v112, by omega, H, rfl⟩, lm [(0, 0), (1, 1), (2, 2), (3, 3), (4, 4)] hm⟩
       ·(repeat refine of ?_); refine pk ?_; refine pk (L.nil ?_); exact ⟨_, ⟨k17, v109, false, v110, v111, v112, by omega, H, rfl⟩, lm [(0, 0), (1, 1), (2, 2), (3, 3), (4, 4)] hm⟩
   ·refine WpC.exit (sr ?_); refine lp shape36 ?_; refine sp shape36 (L.nil ?_); cases H; exact WpC.ret rt
/-! ### Fspec_l17Kind -/
def Fspec_l17Kind.j8 (cl7 : (List Timpl_Rule) → Int → Bool → Int → Int → (List Int) → Int → Option (Timpl_Rule × Bool)) (k : Nat) (v135 : List Timpl_Rule) (v136 : Int) (v137 : Bool) (v138 v139 : Int) (v140 : List Int) (v141 : Int) : Option (Timpl_Rule × Bool) := cl7 v135 v136 v137 (IntKind.i64.wrap (v138 + 1)) v139 v140 v141
def Fspec_l17Kind.l7 : Nat → (List Timpl_Rule) → Int → Bool → Int → Int → (List Int) → Int → Option (Timpl_Rule × Bool)
 | 0, _, _, _, _, _, _, _ => none
 | k7 + 1, v121, v122, v123, v124, v125, v126, v127 => cond (decide (v124 < (v121.length : Int))) ((at? v121 v124).bind fun b143 => cond (b143.Kind != v122) (Fspec_l17Kind.j8 (Fspec_l17Kind.l7 k7) k7 v121 v122 v123 v124 v125 v126 v127) (cond v123 ((at? v121 v124).bind fun b144 => (Fspec_l17Meet k7 (⟨v125, v126, v127⟩ : Timpl_Rule) b144).bind fun r145 => Fspec_l17Kind.j8 (Fspec_l17Kind.l7 k7) k7 v121 v122 v123 v124 r145.Kind r145.Set r145.N) ((at? v121 v124).bind fun b146 => cond (decide ((2 * (([] : List Int).length + b146.Set.length) + 192) * 8 ≤ 281474976710656)) ((at? v121 v124).bind fun b148 => Fspec_l17Kind.j8 (Fspec_l17Kind.l7 k7) k7 v121 v122 true v124 v122 (([] : List Int) ++ b146.Set) b148.N) none))) (some ((⟨v125, v126, v127⟩ : Timpl_Rule), v123))
def Fspec_l17Kind (k : Nat) (a0 : List Timpl_Rule) (a1 : Int) : Option (Timpl_Rule × Bool) := Fspec_l17Kind.l7 k a0 a1 false 0 0 [] 0
theorem ent22 : MG.Enters Try.prog 22 := ⟨Try.f22, func22, rfl, by decide⟩
theorem g22 (k : Nat) (g0 : Bool) (a0 : List Timpl_Rule) (a1 : Int) (r : Timpl_Rule × Bool) (H : Fspec_l17Kind k a0 a1 = some r) : Gives Try.prog 22 [V.one (Cell.sl g0 (List.map eTimpl_Rule a0)), V.one (cI a1)] [] [V.agg [cI r.1.Kind, Cell.ow 1 (List.map eI r.1.Set), cI r.1.N], V.one (cL r.2)] [] := by
 refine Gives.intro func22 rfl rfl rfl rfl ?_; refine fx fun w0 T S0 ob oh hm => ?_
 have hF := fxe w0 T S0 46 ob oh
 unfold Fspec_l17Kind at H; obtain ⟨K, hK⟩ := leK k; refine sr ?_; refine alc 2 info36 ?_; refine ag (L.nil ?_); refine sr ?_; refine bf built36 ?_; refine alc 3 info36 ?_; refine sp shape36 (L.nil ?_); refine sr ?_; refine ag (L.nil ?_); refine WpC.seq (sr ?_); refine ag (L.nil ?_); refine WpC.block ?_; refine WpC.loopL (P := Try.prog) (fun n σ => ∃ (v121 : List Timpl_Rule) (v122 : Int) (v123 : Bool) (v124 v125 : Int) (v126 : List Int) (v127 : Int), n ≤ K ∧ Fspec_l17Kind.l7 n v121 v122 v123 v124 v125 v126 v127 = some r ∧ σ = mkSt [(0, MG.one (Cell.sl g0 (List.map eTimpl_Rule v121))), (1, oI v122), (4, oP 0 0), (6, oP 1 0), (7, oL v123), (8, oI v124)] [(2, ⟨1, List.map eI v126⟩)] [(0, [cI 0, Cell.nil, cI 0]), (1, [cI v125, Cell.own 2, cI v127])] 3) k ⟨_, ⟨a0, a1, false, 0, 0, [], 0, by omega, H, rfl⟩, (Le.ownB 3 1 4 1 rfl rfl rfl).trans (lm [(0, 2), (1, 3), (2, 4)] hm)⟩ ?_; clear H
 rintro k7 _ ⟨v121, v122, v123, v124, v125, v126, v127, hk7, H, rfl⟩
 cases k7 with
 | zero => cases H
 | succ k7 =>
  rw [Fspec_l17Kind.l7] at H
  refine WpC.seq (sr ?_); refine mv ?_; refine mv ?_; refine L.lenR (xs := v121) (e := eTimpl_Rule) underlying24 hF rfl rfl rfl rfl ?_; refine bi (L.nil ?_); refine cd H (fun hc H => ?_) (fun hc H => ?_)
  ·refine WpC.skip ?_; refine WpC.join (fun σ => ∃ (kj8 : Nat) (v135 : List Timpl_Rule) (v136 : Int) (v137 : Bool) (v138 v139 : Int) (v140 : List Int) (v141 : Int), kj8 ≤ K ∧ Fspec_l17Kind.j8 (Fspec_l17Kind.l7 k7) kj8 v135 v136 v137 v138 v139 v140 v141 = some r ∧ σ = mkSt [(0, MG.one (Cell.sl g0 (List.map eTimpl_Rule v135))), (1, oI v136), (4, oP 0 0), (6, oP 1 0), (7, oL v137), (8, oI v138)] [(2, ⟨1, List.map eI v140⟩)] [(0, [cI 0, Cell.nil, cI 0]), (1, [cI v139, Cell.own 2, cI v141])] 3) ?_ ?_
   ·rintro _ ⟨kj8, v135, v136, v137, v138, v139, v140, v141, hkj8, H, rfl⟩
    unfold Fspec_l17Kind.j8 at H; refine WpC.regionL ?_; refine mv ?_; refine bi ?_; refine ag (L.nil ?_); exact ⟨k7, _, by omega, ⟨v135, v136, v137, (IntKind.i64.wrap (v138 + 1)), v139, v140, v141, by omega, H, rfl⟩, lm [(0, 0), (1, 1), (2, 2)] hm⟩
   ·refine WpC.block (WpC.seq (sr ?_)); refine mv ?_; refine mv ?_; obtain ⟨b143, hb143, H⟩ := bindS H; refine ix underlying24 info36 hb143 ?_; refine fa underlying36 info3 ?_; refine le shape3 ?_; refine mv ?_; refine bi (L.nil ?_); refine cd H (fun hc H => ?_) (fun hc H => ?_)
    ·refine WpC.exit ?_; exact ⟨_, ⟨k7, v121, v122, v123, v124, v125, v126, v127, by omega, H, rfl⟩, lm [(0, 0), (1, 1), (2, 2)] hm⟩
    ·refine WpC.skip (sr ?_); refine mv (L.nil ?_); refine cd H (fun hc H => ?_) (fun hc H => ?_)
     ·obtain ⟨b144, hb144, H⟩ := bindS H; obtain ⟨r145, hr145, H⟩ := bindS H; refine A.begin mixed rfl rfl ?_; intro W hI hO
      have n31 : W 2 #[true, true, true, true, true, false, false] (mkSt [(0, MG.one (Cell.sl g0 (List.map eTimpl_Rule v121))), (1, oI v122), (4, oP 0 0), (6, oP 1 0), (7, oL v123), (8, oI v124), (24, agg [cI v125, Cell.own 2, cI v127]), (28, agg (bTimpl_Rule g0 b144))] [(2, ⟨1, List.map eI v126⟩)] [(0, [cI 0, Cell.nil, cI 0]), (1, [cI v125, Cell.own 2, cI v127])] 3) := by
       refine hI _ _ _ ?_; refine A.all [5] (by kernel_rfl) rfl ⟨⟨_, rfl, ?_⟩, trivial⟩; refine ca [false, false] [2] [] 3 ent32 (g32 k7 false g0 (⟨v125, v126, v127⟩ : Timpl_Rule) b144 r145 hr145) (L.nil ?_); refine A.all [6] (by kernel_rfl) rfl ⟨⟨_, rfl, ?_⟩, trivial⟩; refine sp shape36 (L.nil ?_); refine A.le (τ := mkSt [(0, MG.one (Cell.sl g0 (List.map eTimpl_Rule v121))), (1, oI v122), (4, oP 0 0), (6, oP 1 0), (7, oL v123), (8, oI v124)] [(2, ⟨1, List.map eI r145.Set⟩)] [(0, [cI 0, Cell.nil, cI 0]), (1, [cI r145.Kind, Cell.own 2, cI r145.N])] 3) (lm [(0, 0), (1, 1), (2, 4)] hm) ?_; refine A.done (by kernel_rfl) ?_; exact ⟨_, ⟨k7, v121, v122, v123, v124, r145.Kind, r145.Set, r145.N, by omega, H, rfl⟩, lm [(0, 0), (1, 1), (2, 2)] hm⟩
      refine hI _ _ _ ?_; refine tM 1 ?_; refine tM 2 ?_; refine Atk 3 rfl (Ca.indexAddr) (fun Q0 k0 => ix underlying24 info36 hb144 (L.nil k0)) ?_; refine A.all [0, 4] (by kernel_rfl) rfl ⟨⟨_, rfl, ?_⟩, ⟨_, rfl, ?_⟩, trivial⟩
      ·refine lp shape36 (L.nil ?_); refine A.all [4] (by kernel_rfl) rfl ⟨⟨_, rfl, ?_⟩, trivial⟩; refine le shape36 (L.nil ?_); exact A.on (hO _ _ _ n31) (lm [(0, 0), (1, 1), (2, 2)] hm)
      ·refine le shape36 (L.nil ?_); refine A.all [0] (by kernel_rfl) rfl ⟨⟨_, rfl, ?_⟩, trivial⟩; refine lp shape36 (L.nil ?_); exact A.on (hO _ _ _ n31) (lm [(0, 0), (1, 1), (2, 2)] hm)
     ·refine WpC.seq ?_; obtain ⟨b146, hb146, H⟩ := bindS H; obtain ⟨h147, H⟩ := condG H; obtain ⟨b148, hb148, H⟩ := bindS H
      refine A.lin (fun β => mkStL [(0, ai (MG.one (Cell.sl g0 (List.map eTimpl_Rule v121)))), (1, iI v122), (4, iP 0 0), (6, iP 1 0), (8, iI v124), (30, lI (β 0) v122), (31, al (β 1) (MG.one (Cell.own 3))), (32, al (β 2) (MG.one (Cell.sl g0 (List.map eTimpl_Rule v121)))), (33, lI (β 3) v124), (34, al (β 4) (MG.one (Cell.pe g0 (eTimpl_Rule b146) 0))), (35, al (β 5) (MG.one (Cell.pe g0 (eTimpl_Rule b146) 1))), (36, al (β 6) (MG.one (Cell.sl g0 (List.map eI b146.Set)))), (37, al (β 7) (MG.one (Cell.own 4))), (38, al (β 8) (MG.one (Cell.sl g0 (List.map eTimpl_Rule v121)))), (39, lI (β 9) v124), (40, al (β 10) (MG.one (Cell.pe g0 (eTimpl_Rule b148) 0))), (41, al (β 11) (MG.one (Cell.pe g0 (eTimpl_Rule b148) 2))), (42, al (β 12) (MG.one (cI b148.N))), (43, al (β 13) (agg [cI v122, Cell.own 4, cI b148.N]))] [(2, ai (⟨1, List.map eI v126⟩)), (3, [(β 7, none), (β 1, some (⟨1, List.map eI ([] : List Int)⟩))]), (4, al (β 7) (⟨1, List.map eI (([] : List Int) ++ b146.Set)⟩))] [(0, ai ([cI 0, Cell.nil, cI 0])), (1, [(β 14, some ([cI v122, Cell.own 4, cI b148.N])), (true, some ([cI v125, Cell.own 2, cI v127]))])] 5) [([], [13, 14]), ([], [7, 13, 14]), ([], [4, 5, 6, 7, 13, 14]), ([], [4, 5, 6, 7, 13, 14]), ([2, 3], [5, 6, 7, 13, 14]), ([2, 3, 4], [6, 7, 13, 14]), ([2, 3, 4, 5], [7, 13, 14]), ([1, 2, 3, 4, 5, 6], [13, 14]), ([], [10, 11, 12, 13, 14]), ([], [10, 11, 12, 13, 14]), ([8, 9], [11, 12, 13, 14]), ([8, 9, 10], [12, 13, 14]), ([8, 9, 10, 11], [13, 14]), ([0, 1, 2, 3, 4, 5, 6, 7, 8, 9, 10, 11, 12], [14]), ([0, 1, 2, 3, 4, 5, 6, 7, 8, 9, 10, 11, 12, 13], [])] 15 mixed rfl (by kernel_rfl) ?_ ?_ ?_
      ·exact Le.lin [] hm rfl (sa (sa4 (kn2 (kn4 (kn8 kz))))) (ra (kn2 kz)) (ba (ba kz))
      ·repeat' (first | exact trivial | refine ⟨⟨_, rfl, fun β => ?_⟩, ?_⟩ | fail)
       ·refine mv ?_; exact lx [] hm
       ·refine L.buildSlice (e := eI) 5 ([] : List Int) underlying31 info3 rfl rfl rfl hF rfl rfl rfl rfl rfl rfl rfl rfl ?_; exact lx [(3, 5)] hm
       ·refine mv ?_; exact lx [] hm
       ·refine mv ?_; exact lx [] hm
       ·refine ix underlying24 info36 hb146 ?_; exact lx [] hm
       ·refine fa underlying36 info31 ?_; exact lx [] hm
       ·refine le shape31 ?_; exact lx [] hm
       ·refine L.append (xs := ([] : List Int)) (ys := b146.Set) (e := eI) 5 underlying31 info3 rfl rfl hF rfl rfl rfl rfl rfl rfl rfl rfl (fun _ => rfl) (fun _ _ h1 h2 => by cases h1; cases h2; rfl) ⟨_, underlying31⟩ (of_decide_eq_true h147) rfl rfl ?_; exact lx [(4, 5)] hm
       ·refine mv ?_; exact lx [] hm
       ·refine mv ?_; exact lx [] hm
       ·refine ix underlying24 info36 hb148 ?_; exact lx [] hm
       ·refine fa underlying36 info3 ?_; exact lx [] hm
       ·refine le shape3 ?_; exact lx [] hm
       ·refine bf built36 ?_; exact lx [] hm
       ·refine sp shape36 ?_; exact lx [] hm
      refine ⟨_, (lm [(0, 0), (1, 1), (2, 4)] hm : Le _ _ (mkSt [(0, MG.one (Cell.sl g0 (List.map eTimpl_Rule v121))), (1, oI v122), (4, oP 0 0), (6, oP 1 0), (8, oI v124)] [(2, ⟨1, List.map eI (([] : List Int) ++ b146.Set)⟩)] [(0, [cI 0, Cell.nil, cI 0]), (1, [cI v122, Cell.own 2, cI b148.N])] 3)), ?_⟩; refine WpC.regionL ?_; refine ag (L.nil ?_); exact ⟨_, ⟨k7, v121, v122, true, v124, v122, (([] : List Int) ++ b146.Set), b148.N, by omega, H, rfl⟩, lm [(0, 0), (1, 1), (2, 2)] hm⟩
  ·refine WpC.exit (sr ?_); refine lp shape36 ?_; refine mv ?_; refine sp shape36 ?_; refine ag (L.nil ?_); cases H; exact WpC.ret rt
/-! ### Fspec_Normal -/
def Fspec_Normal.j8 (cl7 : (List Timpl_Rule) → (List Timpl_Rule) → Int → Option (List Timpl_Rule)) (k : Nat) (v76 v77 : List Timpl_Rule) (v78 : Int) : Option (List Timpl_Rule) := cl7 v76 v77 (IntKind.i64.wrap (v78 + 1))
def Fspec_Normal.l7 : Nat → (List Timpl_Rule) → (List Timpl_Rule) → Int → Option (List Timpl_Rule)
 | 0, _, _, _ => none
 | k7 + 1, v67, v68, v69 => cond (decide (v69 ≤ 5)) ((Fspec_RulesOk k7 v67).bind fun r73 => cond r73 ((Fspec_l17Kind k7 v67 v69).bind fun r79 => cond r79.2 (cond (decide ((2 * (v68.length + ([r79.1] : List Timpl_Rule).length) + 192) * 40 ≤ 281474976710656)) (Fspec_Normal.j8 (Fspec_Normal.l7 k7) k7 v67 (v68 ++ ([r79.1] : List Timpl_Rule)) v69) none) (Fspec_Normal.j8 (Fspec_Normal.l7 k7) k7 v67 v68 v69)) (some v68)) (some v68)
def Fspec_Normal (k : Nat) (a0 : List Timpl_Rule) : Option (List Timpl_Rule) := Fspec_Normal.l7 k a0 ([] : List Timpl_Rule) 1
theorem ent13 : MG.Enters Try.prog 13 := ⟨Try.f13, func13, rfl, by decide⟩
theorem g13 (k : Nat) (g0 : Bool) (a0 r : List Timpl_Rule) (H : Fspec_Normal k a0 = some r) : Gives Try.prog 13 [V.one (Cell.sl g0 (List.map eTimpl_Rule a0))] [] [V.one (Cell.ow 3 (List.map eTimpl_Rule r))] [] := by
 refine Gives.intro func13 rfl rfl rfl rfl ?_; refine fx fun w0 T S0 ob oh hm => ?_
 have hF := fxe w0 T S0 28 ob oh
 unfold Fspec_Normal at H; obtain ⟨K, hK⟩ := leK k; refine sr ?_; refine ag (L.nil ?_); refine sr ?_; refine L.buildSliceN (e := eTimpl_Rule) 1 1 ([] : List Timpl_Rule) underlying24 info36 rfl rfl rfl hF rfl rfl rfl rfl rfl rfl rfl rfl ?_; refine ag (L.nil ?_); refine WpC.seq (sr ?_); refine ag (L.nil ?_); refine WpC.block ?_; refine WpC.loopL (P := Try.prog) (fun n σ => ∃ (v67 v68 : List Timpl_Rule) (v69 : Int), n ≤ K ∧ Fspec_Normal.l7 n v67 v68 v69 = some r ∧ σ = mkSt [(0, MG.one (Cell.sl g0 (List.map eTimpl_Rule v67))), (3, MG.one (Cell.own 0)), (4, oI v69)] [(0, ⟨3, List.map eTimpl_Rule v68⟩)] [] 1) k ⟨_, ⟨a0, ([] : List Timpl_Rule), 1, by omega, H, rfl⟩, lm [(0, 1)] hm⟩ ?_; clear H
 rintro k7 _ ⟨v67, v68, v69, hk7, H, rfl⟩
 cases k7 with
 | zero => cases H
 | succ k7 =>
  rw [Fspec_Normal.l7] at H
  refine WpC.seq (sr ?_); refine mv ?_; refine bi ?_; refine mv ?_; refine sH H (fun hc H => ?_) (fun hc H => ?_)
  ·refine mv ?_; obtain ⟨r73, hr73, H⟩ := bindS H; refine c0 1 ent12 (g12 k7 g0 v67 r73 hr73) ?_; refine pk (L.nil ?_); refine cd H (fun hc H => ?_) (fun hc H => ?_)
   ·refine WpC.skip ?_; refine WpC.join (fun σ => ∃ (kj8 : Nat) (v76 v77 : List Timpl_Rule) (v78 : Int), kj8 ≤ K ∧ Fspec_Normal.j8 (Fspec_Normal.l7 k7) kj8 v76 v77 v78 = some r ∧ σ = mkSt [(0, MG.one (Cell.sl g0 (List.map eTimpl_Rule v76))), (3, MG.one (Cell.own 0)), (4, oI v78)] [(0, ⟨3, List.map eTimpl_Rule v77⟩)] [] 1) ?_ ?_
    ·rintro _ ⟨kj8, v76, v77, v78, hkj8, H, rfl⟩
     unfold Fspec_Normal.j8 at H; refine WpC.regionL ?_; refine mv ?_; refine bi ?_; refine ag (L.nil ?_); exact ⟨k7, _, by omega, ⟨v76, v77, (IntKind.i64.wrap (v78 + 1)), by omega, H, rfl⟩, lm [(0, 0)] hm⟩
    ·refine WpC.block (sr ?_); refine mv ?_; refine mv ?_; obtain ⟨r79, hr79, H⟩ := bindS H; refine c0 2 ent22 (g22 k7 g0 v67 v69 r79 hr79) ?_; refine mv ?_; refine ex ?_; refine ex ?_; refine alc 6 info36 ?_; refine sp shape36 ?_; refine ag (L.nil ?_); refine sr ?_; refine mv (L.nil ?_); refine cd H (fun hc H => ?_) (fun hc H => ?_)
     ·refine WpC.regionL ?_; refine mv ?_; refine lp shape36 ?_; refine L.buildSliceN (e := eTimpl_Rule) 1 7 ([r79.1] : List Timpl_Rule) underlying24 info36 rfl rfl rfl hF rfl rfl rfl rfl rfl rfl rfl rfl ?_; obtain ⟨h80, H⟩ := condG H; refine L.appendN (xs := v68) (ys := ([r79.1] : List Timpl_Rule)) (e := eTimpl_Rule) 8 underlying24 info36 rfl rfl hF rfl rfl rfl rfl rfl rfl rfl rfl rfl (fun _ _ h1 h2 => by cases h1; cases h2; rfl) underlying24 (of_decide_eq_true h80) rfl rfl ?_; refine ag (L.nil ?_); exact ⟨_, ⟨k7, v67, (v68 ++ ([r79.1] : List Timpl_Rule)), v69, by omega, H, rfl⟩, lm [(0, 8)] hm⟩
     ·refine WpC.skip ?_; exact ⟨_, ⟨k7, v67, v68, v69, by omega, H, rfl⟩, lm [(0, 0)] hm⟩
   ·refine WpC.exit (sr ?_); refine mv ?_; refine ag (L.nil ?_); cases H; exact WpC.ret rt
  ·(repeat refine of ?_); refine pk (L.nil ?_); refine cF ?_; refine WpC.exit (sr ?_); refine mv ?_; refine ag (L.nil ?_); cases H; exact WpC.ret rt
/-! ### Fspec_Joined -/
def Fspec_Joined (k : Nat) (a0 a1 : List Timpl_Rule) : Option (List Timpl_Rule) := (Fspec_RulesOk k a0).bind fun r7 => cond (!r7) (some ([] : List Timpl_Rule)) ((Fspec_RulesOk k a1).bind fun r8 => cond (!r8) (some ([] : List Timpl_Rule)) (cond (decide ((IntKind.i64.wrap ((a0.length : Int) + (a1.length : Int))) > 20)) (some ([] : List Timpl_Rule)) (cond (decide ((2 * (([] : List Timpl_Rule).length + a0.length) + 192) * 40 ≤ 281474976710656)) (cond (decide ((2 * ((([] : List Timpl_Rule) ++ a0).length + a1.length) + 192) * 40 ≤ 281474976710656)) ((Fspec_Normal k ((([] : List Timpl_Rule) ++ a0) ++ a1)).bind fun r11 => some r11) none) none)))
theorem ent5 : MG.Enters Try.prog 5 := ⟨Try.f5, func5, rfl, by decide⟩
theorem g5 (k : Nat) (a0 a1 r : List Timpl_Rule) (H : Fspec_Joined k a0 a1 = some r) : Gives Try.prog 5 [V.one (Cell.sl true (List.map eTimpl_Rule a0)), V.one (Cell.sl true (List.map eTimpl_Rule a1))] [] [V.one (Cell.ow 3 (List.map eTimpl_Rule r))] [] := by
 refine Gives.intro func5 rfl rfl rfl rfl ?_; refine fx fun w0 T S0 ob oh hm => ?_
 have hF := fxe w0 T S0 30 ob oh
 unfold Fspec_Joined at H; obtain ⟨K, hK⟩ := leK k; refine sr ?_; refine ag (L.nil ?_); refine WpC.seq (sr ?_); refine mv ?_; obtain ⟨r7, hr7, H⟩ := bindS H; refine c0 2 ent12 (g12 k true a0 r7 hr7) ?_; refine nt ?_; refine mv ?_; refine sH H (fun hc H => ?_) (fun hc H => ?_)
 ·(repeat refine of ?_); refine pk ?_; refine mv ?_; (repeat refine of ?_); refine pk (L.nil ?_); refine cT ?_; refine sr ?_; refine L.buildSliceN (e := eTimpl_Rule) 1 3 ([] : List Timpl_Rule) underlying24 info36 rfl rfl rfl hF rfl rfl rfl rfl rfl rfl rfl rfl ?_; refine ag (L.nil ?_); cases H; exact WpC.ret rt
 ·refine mv ?_; obtain ⟨r8, hr8, H⟩ := bindS H; refine c0 3 ent12 (g12 k true a1 r8 hr8) ?_; refine nt ?_; refine pk ?_; refine mv ?_; refine sH H (fun hc H => ?_) (fun hc H => ?_)
  ·(repeat refine of ?_); refine pk (L.nil ?_); refine cT ?_; refine sr ?_; refine L.buildSliceN (e := eTimpl_Rule) 1 4 ([] : List Timpl_Rule) underlying24 info36 rfl rfl rfl hF rfl rfl rfl rfl rfl rfl rfl rfl ?_; refine ag (L.nil ?_); cases H; exact WpC.ret rt
  ·refine mv ?_; refine L.lenR (xs := a0) (e := eTimpl_Rule) underlying24 hF rfl rfl rfl rfl ?_; refine mv ?_; refine L.lenR (xs := a1) (e := eTimpl_Rule) underlying24 hF rfl rfl rfl rfl ?_; refine bi ?_; refine bi ?_; refine pk (L.nil ?_); refine cd H (fun hc H => ?_) (fun hc H => ?_)
   ·refine sr ?_; refine L.buildSliceN (e := eTimpl_Rule) 1 4 ([] : List Timpl_Rule) underlying24 info36 rfl rfl rfl hF rfl rfl rfl rfl rfl rfl rfl rfl ?_; refine ag (L.nil ?_); cases H; exact WpC.ret rt
   ·refine WpC.skip (sr ?_); refine L.buildSliceN (e := eTimpl_Rule) 1 4 ([] : List Timpl_Rule) underlying24 info36 rfl rfl rfl hF rfl rfl rfl rfl rfl rfl rfl rfl ?_; refine mv ?_; obtain ⟨h9, H⟩ := condG H; refine L.le (Le.reE 24 0 rfl rfl reeTimpl_Rule) ?_; refine L.append (xs := ([] : List Timpl_Rule)) (ys := a0) (e := eTimpl_Rule_s) 5 underlying24 info36 rfl rfl hF rfl rfl rfl rfl rfl rfl rfl rfl (fun _ => rfl) (fun _ _ h1 h2 => by cases h1; cases h2; rfl) ⟨_, underlying24⟩ (of_decide_eq_true h9) rfl rfl ?_; refine ag (L.nil ?_); refine sr ?_; refine mv ?_; refine mv ?_; obtain ⟨h10, H⟩ := condG H; refine L.le (Le.reE 27 0 rfl rfl reeTimpl_Rule) ?_; refine L.append (xs := (([] : List Timpl_Rule) ++ a0)) (ys := a1) (e := eTimpl_Rule_s) 6 underlying24 info36 rfl rfl hF rfl rfl rfl rfl rfl rfl rfl rfl (fun _ => rfl) (fun _ _ h1 h2 => by cases h1; cases h2; rfl) ⟨_, underlying24⟩ (of_decide_eq_true h10) rfl rfl ?_; refine L.le (Le.shareAll 6 rfl) ?_; refine L.le (Le.reE 28 0 rfl rfl reeTimpl_Rule_s) ?_; obtain ⟨r11, hr11, H⟩ := bindS H; refine c0 7 ent13 (g13 k true ((([] : List Timpl_Rule) ++ a0) ++ a1) r11 hr11) ?_; refine ag (L.nil ?_); cases H; exact WpC.ret rt
/-! ### Fimpl_rises -/
def Fimpl_rises.l2 : Nat → (List Int) → Int → Option Bool
 | 0, _, _ => none
 | k2 + 1, v29, v30 => cond (decide (v30 < (v29.length : Int))) ((at? v29 (IntKind.i64.wrap (v30 - 1))).bind fun b33 => (at? v29 v30).bind fun b34 => cond (decide (b33 ≥ b34)) (some false) ((Fimpl_rises.l2 k2) v29 (IntKind.i64.wrap (v30 + 1)))) (some true)
def Fimpl_rises (k : Nat) (a0 : List Int) : Option Bool := Fimpl_rises.l2 k a0 1
theorem ent40 : MG.Enters Try.prog 40 := ⟨Try.f40, func40, rfl, by decide⟩
theorem g40 (k : Nat) (g0 : Bool) (a0 : List Int) (r : Bool) (H : Fimpl_rises k a0 = some r) : Gives Try.prog 40 [V.one (Cell.sl g0 (List.map eI a0))] [] [V.one (cL r)] [] := by
 refine Gives.intro func40 rfl rfl rfl rfl ?_; refine fx fun w0 T S0 ob oh hm => ?_
 have hF := fxe w0 T S0 20 ob oh
 unfold Fimpl_rises at H; obtain ⟨K, hK⟩ := leK k; refine sr ?_; refine ag (L.nil ?_); refine WpC.seq (sr ?_); refine ag (L.nil ?_); refine WpC.block ?_; refine WpC.loopL (P := Try.prog) (fun n σ => ∃ (v29 : List Int) (v30 : Int), n ≤ K ∧ Fimpl_rises.l2 n v29 v30 = some r ∧ σ = mkSt [(0, MG.one (Cell.sl g0 (List.map eI v29))), (3, oI v30)] [] [] 0) k ⟨_, ⟨a0, 1, by omega, H, rfl⟩, lm [] hm⟩ ?_; clear H
 rintro k2 _ ⟨v29, v30, hk2, H, rfl⟩
 cases k2 with
 | zero => cases H
 | succ k2 =>
  rw [Fimpl_rises.l2] at H
  refine WpC.seq (sr ?_); refine mv ?_; refine mv ?_; refine L.lenR (xs := v29) (e := eI) underlying31 hF rfl rfl rfl rfl ?_; refine bi (L.nil ?_); refine cd H (fun hc H => ?_) (fun hc H => ?_)
  ·refine WpC.skip (WpC.seq (WpC.block (WpC.seq ?_))); refine S.begin mixed (by kernel_rfl) ?_; refine S.st 0 rfl rfl ((Ca.move).quiet) (fun Q0 k0 => mv (L.nil k0)) ?_; refine S.st 1 rfl rfl ((Ca.move).quiet) (fun Q0 k0 => mv (L.nil k0)) ?_; refine S.st 2 rfl rfl ((Ca.bin rfl rfl (calm_int _ _ _ _ _ _ _ _)).quiet) (fun Q0 k0 => bi (L.nil k0)) ?_; obtain ⟨b33, hb33, H⟩ := bindS H; refine S.st 3 rfl rfl ((Ca.indexAddr).quiet) (fun Q0 k0 => ix underlying31 info3 hb33 (L.nil k0)) ?_; refine S.st 4 rfl rfl (Qu.load) (fun Q0 k0 => le shape3 (L.nil k0)) ?_; refine S.st 5 rfl rfl ((Ca.move).quiet) (fun Q0 k0 => mv (L.nil k0)) ?_; refine S.st 6 rfl rfl ((Ca.move).quiet) (fun Q0 k0 => mv (L.nil k0)) ?_; obtain ⟨b34, hb34, H⟩ := bindS H; refine S.st 7 rfl rfl ((Ca.indexAddr).quiet) (fun Q0 k0 => ix underlying31 info3 hb34 (L.nil k0)) ?_; refine S.st 8 rfl rfl (Qu.load) (fun Q0 k0 => le shape3 (L.nil k0)) ?_; refine S.st 9 rfl rfl ((Ca.bin rfl rfl (calm_int _ _ _ _ _ _ _ _)).quiet) (fun Q0 k0 => bi (L.nil k0)) ?_; refine S.nil ?_; refine cd H (fun hc H => ?_) (fun hc H => ?_)
   ·refine sr ?_; refine ag (L.nil ?_); cases H; exact WpC.ret rt
   ·refine WpC.skip (WpC.regionL ?_); refine mv ?_; refine bi ?_; refine ag (L.nil ?_); exact ⟨k2, _, by omega, ⟨v29, (IntKind.i64.wrap (v30 + 1)), by omega, H, rfl⟩, lm [] hm⟩
  ·refine WpC.exit (sr ?_); refine ag (L.nil ?_); cases H; exact WpC.ret rt
/-! ### Fimpl_within -/
def Fimpl_within (k : Nat) (a0 a1 a2 : Int) : Option Bool := cond (decide (a0 ≥ a1)) (some (decide (a0 ≤ a2))) (some false)
theorem ent43 : MG.Enters Try.prog 43 := ⟨Try.f43, func43, rfl, by decide⟩
theorem g43 (k : Nat) (a0 a1 a2 : Int) (r : Bool) (H : Fimpl_within k a0 a1 a2 = some r) : Gives Try.prog 43 [V.one (cI a0), V.one (cI a1), V.one (cI a2)] [] [V.one (cL r)] [] := by
 refine Gives.intro func43 rfl rfl rfl rfl ?_; refine fx fun w0 T S0 ob oh hm => ?_
 have hF := fxe w0 T S0 15 ob oh
 unfold Fimpl_within at H; obtain ⟨K, hK⟩ := leK k; refine sr ?_; refine ag (L.nil ?_); refine sr ?_; refine mv ?_; refine mv ?_; refine bi ?_; refine mv ?_; refine sH H (fun hc H => ?_) (fun hc H => ?_)
 ·refine mv ?_; refine mv ?_; refine bi ?_; refine pk ?_; refine ag (L.nil ?_); cases H; exact WpC.ret rt
 ·(repeat refine of ?_); refine pk ?_; refine ag (L.nil ?_); cases H; exact WpC.ret rt
/-! ### Fimpl_areSet_1 -/
def Fimpl_areSet_1 (k : Nat) (a0 : Int) : Option Bool := (Fimpl_within k a0 0 30).bind fun r1 => some r1
theorem ent42 : MG.Enters Try.prog 42 := ⟨Try.f42, func42, rfl, by decide⟩
theorem g42 (k : Nat) (a0 : Int) (r : Bool) (H : Fimpl_areSet_1 k a0 = some r) : Gives Try.prog 42 [V.one (cI a0)] [] [V.one (cL r)] [] := by
 refine Gives.intro func42 rfl rfl rfl rfl ?_; refine fx fun w0 T S0 ob oh hm => ?_
 have hF := fxe w0 T S0 5 ob oh
 unfold Fimpl_areSet_1 at H; obtain ⟨K, hK⟩ := leK k; refine sr ?_; refine ag (L.nil ?_); refine sr ?_; refine mv ?_; obtain ⟨r1, hr1, H⟩ := bindS H; refine c0 1 ent43 (g43 k  a0 0 30 r1 hr1) ?_; refine ag (L.nil ?_); cases H; exact WpC.ret rt
/-! ### Fimpl_areAll__impl_areSet_1 -/
def Fimpl_areAll__impl_areSet_1.l2 : Nat → (List Int) → Int → Int → Int → Option Bool
 | 0, _, _, _, _ => none
 | k2 + 1, v39, v40, v41, v42 => cond (decide (v42 < v41)) ((at? v39 v42).bind fun b45 => (Fimpl_areSet_1 k2 b45).bind fun r46 => cond (!r46) (some false) ((Fimpl_areAll__impl_areSet_1.l2 k2) v39 v40 v41 (IntKind.i64.wrap (v42 + 1)))) (some (decide ((v39.length : Int) ≤ v40)))
def Fimpl_areAll__impl_areSet_1 (k : Nat) (a0 : List Int) (a1 : Int) : Option Bool := Fimpl_areAll__impl_areSet_1.l2 k a0 a1 (a0.length : Int) 0
theorem ent41 : MG.Enters Try.prog 41 := ⟨Try.f41, func41, rfl, by decide⟩
theorem g41 (k : Nat) (g0 : Bool) (a0 : List Int) (a1 : Int) (r : Bool) (H : Fimpl_areAll__impl_areSet_1 k a0 a1 = some r) : Gives Try.prog 41 [V.one (Cell.sl g0 (List.map eI a0)), V.one (cI a1), V.one (Cell.clo 42 [])] [] [V.one (cL r)] [] := by
 refine Gives.intro func41 rfl rfl rfl rfl ?_; refine fx fun w0 T S0 ob oh hm => ?_
 have hF := fxe w0 T S0 24 ob oh
 unfold Fimpl_areAll__impl_areSet_1 at H; obtain ⟨K, hK⟩ := leK k; refine sr ?_; refine ag (L.nil ?_); refine WpC.seq (sr ?_); refine mv ?_; refine L.lenR (xs := a0) (e := eI) underlying31 hF rfl rfl rfl rfl ?_; refine mv (L.nil ?_); refine WpC.block ?_; refine WpC.loopL (P := Try.prog) (fun n σ => ∃ (v39 : List Int) (v40 v41 v42 : Int), n ≤ K ∧ Fimpl_areAll__impl_areSet_1.l2 n v39 v40 v41 v42 = some r ∧ σ = mkSt [(0, MG.one (Cell.sl g0 (List.map eI v39))), (1, oI v40), (2, MG.one (Cell.clo 42 [])), (9, MG.one (Cell.sl g0 (List.map eI v39))), (10, oI v41), (11, oI v42)] [] [] 0) k ⟨_, ⟨a0, a1, (a0.length : Int), 0, by omega, H, rfl⟩, lm [] hm⟩ ?_; clear H
 rintro k2 _ ⟨v39, v40, v41, v42, hk2, H, rfl⟩
 cases k2 with
 | zero => cases H
 | succ k2 =>
  rw [Fimpl_areAll__impl_areSet_1.l2] at H
  refine sr ?_; refine bi (L.nil ?_); refine WpC.seq ?_; refine cd H (fun hc H => ?_) (fun hc H => ?_)
  ·refine WpC.skip (WpC.seq (WpC.block (sr ?_))); obtain ⟨b45, hb45, H⟩ := bindS H; refine ix underlying31 info3 hb45 ?_; refine le shape3 ?_; refine ag (L.nil ?_); refine sr ?_; refine mv ?_; refine mv ?_; obtain ⟨r46, hr46, H⟩ := bindS H; refine c0 0 ent42 (g42 k2  b45 r46 hr46) ?_; refine nt (L.nil ?_); refine cd H (fun hc H => ?_) (fun hc H => ?_)
   ·refine sr ?_; refine ag (L.nil ?_); cases H; exact WpC.ret rt
   ·refine WpC.skip (WpC.regionL ?_); refine bi ?_; refine mv (L.nil ?_); exact ⟨k2, _, by omega, ⟨v39, v40, v41, (IntKind.i64.wrap (v42 + 1)), by omega, H, rfl⟩, lm [] hm⟩
  ·refine WpC.exit (sr ?_); refine mv ?_; refine L.lenR (xs := v39) (e := eI) underlying31 hF rfl rfl rfl rfl ?_; refine mv ?_; refine bi ?_; refine ag (L.nil ?_); cases H; exact WpC.ret rt
/-! ### Fimpl_areSet -/
def Fimpl_areSet (k : Nat) (a0 : List Int) : Option Bool := (Fimpl_rises k a0).bind fun r3 => cond r3 ((Fimpl_areAll__impl_areSet_1 k a0 31).bind fun r4 => some r4) (some false)
theorem ent34 : MG.Enters Try.prog 34 := ⟨Try.f34, func34, rfl, by decide⟩
theorem g34 (k : Nat) (g0 : Bool) (a0 : List Int) (r : Bool) (H : Fimpl_areSet k a0 = some r) : Gives Try.prog 34 [V.one (Cell.sl g0 (List.map eI a0))] [] [V.one (cL r)] [] := by
 refine Gives.intro func34 rfl rfl rfl rfl ?_; refine fx fun w0 T S0 ob oh hm => ?_
 have hF := fxe w0 T S0 9 ob oh
 unfold Fimpl_areSet at H; obtain ⟨K, hK⟩ := leK k; refine sr ?_; refine ag (L.nil ?_); refine sr ?_; refine mv ?_; obtain ⟨r3, hr3, H⟩ := bindS H; refine c0 1 ent40 (g40 k g0 a0 r3 hr3) ?_; refine mv ?_; refine sH H (fun hc H => ?_) (fun hc H => ?_)
 ·refine mv ?_; obtain ⟨r4, hr4, H⟩ := bindS H; refine c0 2 ent41 (g41 k g0 a0 31 r4 hr4) ?_; refine pk ?_; refine ag (L.nil ?_); cases H; exact WpC.ret rt
 ·(repeat refine of ?_); refine pk ?_; refine ag (L.nil ?_); cases H; exact WpC.ret rt
/-! ### Fimpl_isTime -/
def Fimpl_isTime (k : Nat) (a0 : Int) : Option Bool := (Fimpl_within k a0 0 100000).bind fun r1 => some r1
theorem ent35 : MG.Enters Try.prog 35 := ⟨Try.f35, func35, rfl, by decide⟩
theorem g35 (k : Nat) (a0 : Int) (r : Bool) (H : Fimpl_isTime k a0 = some r) : Gives Try.prog 35 [V.one (cI a0)] [] [V.one (cL r)] [] := by
 refine Gives.intro func35 rfl rfl rfl rfl ?_; refine fx fun w0 T S0 ob oh hm => ?_
 have hF := fxe w0 T S0 5 ob oh
 unfold Fimpl_isTime at H; obtain ⟨K, hK⟩ := leK k; refine sr ?_; refine ag (L.nil ?_); refine sr ?_; refine mv ?_; obtain ⟨r1, hr1, H⟩ := bindS H; refine c0 1 ent43 (g43 k  a0 0 100000 r1 hr1) ?_; refine ag (L.nil ?_); cases H; exact WpC.ret rt
/-! ### Fimpl_ruleOk -/
def Fimpl_ruleOk.j4 (k : Nat) (v13 : Bool) (v14 : Timpl_Rule) : Option Bool := cond v13 ((Fimpl_isTime k v14.N).bind fun r16 => cond r16 (some ((v14.Set.length : Int) == 0)) (some false)) (some false)
def Fimpl_ruleOk.j3 (k : Nat) (v9 : Timpl_Rule) (v10 : Bool) : Option Bool := cond v10 ((Fimpl_areSet k v9.Set).bind fun r12 => cond r12 (some (v9.N == 0)) (some false)) (cond (v9.Kind == 4) (Fimpl_ruleOk.j4 k (v9.Kind == 4) v9) (Fimpl_ruleOk.j4 k (v9.Kind == 5) v9))
def Fimpl_ruleOk (k : Nat) (a0 : Timpl_Rule) : Option Bool := cond (a0.Kind == 1) (Fimpl_ruleOk.j3 k a0 (a0.Kind == 1)) (cond (a0.Kind == 2) (Fimpl_ruleOk.j3 k a0 (a0.Kind == 2)) (Fimpl_ruleOk.j3 k a0 (a0.Kind == 3)))
theorem ent26 : MG.Enters Try.prog 26 := ⟨Try.f26, func26, rfl, by decide⟩
theorem g26 (k : Nat) (g0 : Bool) (a0 : Timpl_Rule) (r : Bool) (H : Fimpl_ruleOk k a0 = some r) : Gives Try.prog 26 [V.agg (bTimpl_Rule g0 a0)] [] [V.one (cL r)] [] := by
 refine Gives.intro func26 rfl rfl rfl rfl ?_; refine fx fun w0 T S0 ob oh hm => ?_
 have hF := fxe w0 T S0 29 ob oh
 unfold Fimpl_ruleOk at H; obtain ⟨K, hK⟩ := leK k; refine sr ?_; refine bo 3 ?_; refine ag (L.nil ?_); refine WpC.seq (sr ?_); refine fa underlying36 info3 ?_; refine lp shape3 (L.nil ?_); refine WpC.block ?_; refine WpC.join (fun σ => ∃ (kj3 : Nat) (v9 : Timpl_Rule) (v10 : Bool), kj3 ≤ K ∧ Fimpl_ruleOk.j3 kj3 v9 v10 = some r ∧ σ = mkSt [(1, oP 0 0), (4, oI v9.Kind), (5, oL v10)] [] [(0, (bTimpl_Rule g0 v9))] 1) ?_ ?_
 ·rintro _ ⟨kj3, v9, v10, hkj3, H, rfl⟩
  unfold Fimpl_ruleOk.j3 at H; refine cd H (fun hc H => ?_) (fun hc H => ?_)
  ·refine sr ?_; refine fa underlying36 info31 ?_; refine lp shape31 ?_; obtain ⟨r12, hr12, H⟩ := bindS H; refine c0 1 ent34 (g34 kj3 g0 v9.Set r12 hr12) ?_; refine mv ?_; refine sH H (fun hc H => ?_) (fun hc H => ?_)
   ·refine fa underlying36 info3 ?_; refine lp shape3 ?_; refine bi ?_; refine pk ?_; refine ag (L.nil ?_); cases H; exact WpC.ret rt
   ·(repeat refine of ?_); refine pk ?_; refine ag (L.nil ?_); cases H; exact WpC.ret rt
  ·refine WpC.join (fun σ => ∃ (kj4 : Nat) (v13 : Bool) (v14 : Timpl_Rule), kj4 ≤ K ∧ Fimpl_ruleOk.j4 kj4 v13 v14 = some r ∧ σ = mkSt [(1, oP 0 0), (17, oL v13)] [] [(0, (bTimpl_Rule g0 v14))] 1) ?_ ?_
   ·rintro _ ⟨kj4, v13, v14, hkj4, H, rfl⟩
    unfold Fimpl_ruleOk.j4 at H; refine cd H (fun hc H => ?_) (fun hc H => ?_)
    ·refine sr ?_; refine fa underlying36 info3 ?_; refine lp shape3 ?_; obtain ⟨r16, hr16, H⟩ := bindS H; refine c0 1 ent35 (g35 kj4  v14.N r16 hr16) ?_; refine mv ?_; refine sH H (fun hc H => ?_) (fun hc H => ?_)
     ·refine fa underlying36 info31 ?_; refine lp shape31 ?_; refine L.lenR (xs := v14.Set) (e := eI) underlying31 hF rfl rfl rfl rfl ?_; refine bi ?_; refine pk ?_; refine ag (L.nil ?_); cases H; exact WpC.ret rt
     ·(repeat refine of ?_); refine pk ?_; refine ag (L.nil ?_); cases H; exact WpC.ret rt
    ·refine WpC.skip (sr ?_); refine ag (L.nil ?_); cases H; exact WpC.ret rt
   ·refine sr ?_; refine bi ?_; refine ag (L.nil ?_); refine cd H (fun hc H => ?_) (fun hc H => ?_)
    ·refine WpC.skip ?_; exact ⟨_, ⟨kj3, (v9.Kind == 4), v9, by omega, H, rfl⟩, lm [(0, 0)] hm⟩
    ·refine WpC.regionL ?_; refine bi ?_; refine ag (L.nil ?_); exact ⟨_, ⟨kj3, (v9.Kind == 5), v9, by omega, H, rfl⟩, lm [(0, 0)] hm⟩
 ·refine sr ?_; refine bi ?_; refine ag (L.nil ?_); refine cd H (fun hc H => ?_) (fun hc H => ?_)
  ·refine WpC.skip ?_; exact ⟨_, ⟨k, a0, (a0.Kind == 1), by omega, H, rfl⟩, lm [(0, 3)] hm⟩
  ·refine sr ?_; refine bi ?_; refine ag (L.nil ?_); refine cd H (fun hc H => ?_) (fun hc H => ?_)
   ·refine WpC.skip ?_; exact ⟨_, ⟨k, a0, (a0.Kind == 2), by omega, H, rfl⟩, lm [(0, 3)] hm⟩
   ·refine WpC.regionL ?_; refine bi ?_; refine ag (L.nil ?_); exact ⟨_, ⟨k, a0, (a0.Kind == 3), by omega, H, rfl⟩, lm [(0, 3)] hm⟩
/-! ### Fimpl_RulesOk_1 -/
def Fimpl_RulesOk_1 (k : Nat) (a0 : Timpl_Rule) : Option Bool := (Fimpl_ruleOk k a0).bind fun r1 => some (!r1)
theorem ent25 : MG.Enters Try.prog 25 := ⟨Try.f25, func25, rfl, by decide⟩
theorem g25 (k : Nat) (g0 : Bool) (a0 : Timpl_Rule) (r : Bool) (H : Fimpl_RulesOk_1 k a0 = some r) : Gives Try.prog 25 [V.agg (bTimpl_Rule g0 a0)] [] [V.one (cL r)] [] := by
 refine Gives.intro func25 rfl rfl rfl rfl ?_; refine fx fun w0 T S0 ob oh hm => ?_
 have hF := fxe w0 T S0 6 ob oh
 unfold Fimpl_RulesOk_1 at H; obtain ⟨K, hK⟩ := leK k; refine sr ?_; refine bo 3 ?_; refine ag (L.nil ?_); refine sr ?_; refine lp shape36 ?_; obtain ⟨r1, hr1, H⟩ := bindS H; refine c0 4 ent26 (g26 k g0 a0 r1 hr1) ?_; refine nt ?_; refine ag (L.nil ?_); cases H; exact WpC.ret rt
/-! ### Fslices_IndexFunc_Rule__impl_RulesOk_1 -/
def Fslices_IndexFunc_Rule__impl_RulesOk_1.l2 : Nat → (List Timpl_Rule) → Int → Int → Option Int
 | 0, _, _, _ => none
 | k2 + 1, v34, v35, v36 => cond (decide (v36 < v35)) ((at? v34 v36).bind fun b39 => (Fimpl_RulesOk_1 k2 b39).bind fun r40 => cond r40 (some v36) ((Fslices_IndexFunc_Rule__impl_RulesOk_1.l2 k2) v34 v35 (IntKind.i64.wrap (v36 + 1)))) (some (-1))
def Fslices_IndexFunc_Rule__impl_RulesOk_1 (k : Nat) (a0 : List Timpl_Rule) : Option Int := Fslices_IndexFunc_Rule__impl_RulesOk_1.l2 k a0 (a0.length : Int) 0
theorem ent33 : MG.Enters Try.prog 33 := ⟨Try.f33, func33, rfl, by decide⟩
theorem g33 (k : Nat) (g0 : Bool) (a0 : List Timpl_Rule) (r : Int) (H : Fslices_IndexFunc_Rule__impl_RulesOk_1 k a0 = some r) : Gives Try.prog 33 [V.one (Cell.sl g0 (List.map eTimpl_Rule a0)), V.one (Cell.clo 25 [])] [] [V.one (cI r)] [] := by
 refine Gives.intro func33 rfl rfl rfl rfl ?_; refine fx fun w0 T S0 ob oh hm => ?_
 have hF := fxe w0 T S0 19 ob oh
 unfold Fslices_IndexFunc_Rule__impl_RulesOk_1 at H; obtain ⟨K, hK⟩ := leK k; refine sr ?_; refine ag (L.nil ?_); refine WpC.seq (sr ?_); refine mv ?_; refine L.lenR (xs := a0) (e := eTimpl_Rule) underlying24 hF rfl rfl rfl rfl ?_; refine mv (L.nil ?_); refine WpC.block ?_; refine WpC.loopL (P := Try.prog) (fun n σ => ∃ (v34 : List Timpl_Rule) (v35 v36 : Int), n ≤ K ∧ Fslices_IndexFunc_Rule__impl_RulesOk_1.l2 n v34 v35 v36 = some r ∧ σ = mkSt [(0, MG.one (Cell.sl g0 (List.map eTimpl_Rule v34))), (1, MG.one (Cell.clo 25 [])), (7, oI v35), (8, oI v36)] [] [] 0) k ⟨_, ⟨a0, (a0.length : Int), 0, by omega, H, rfl⟩, lm [] hm⟩ ?_; clear H
 rintro k2 _ ⟨v34, v35, v36, hk2, H, rfl⟩
 cases k2 with
 | zero => cases H
 | succ k2 =>
  rw [Fslices_IndexFunc_Rule__impl_RulesOk_1.l2] at H
  refine sr ?_; refine bi (L.nil ?_); refine WpC.seq ?_; refine cd H (fun hc H => ?_) (fun hc H => ?_)
  ·refine WpC.skip (WpC.seq (WpC.block (sr ?_))); refine mv ?_; refine ag (L.nil ?_); refine sr ?_; refine mv ?_; refine mv ?_; refine mv ?_; obtain ⟨b39, hb39, H⟩ := bindS H; refine ix underlying24 info36 hb39 ?_; refine le shape36 ?_; obtain ⟨r40, hr40, H⟩ := bindS H; refine c0 0 ent25 (g25 k2 g0 b39 r40 hr40) (L.nil ?_); refine cd H (fun hc H => ?_) (fun hc H => ?_)
   ·refine sr ?_; refine mv ?_; refine ag (L.nil ?_); cases H; exact WpC.ret rt
   ·refine WpC.skip (WpC.regionL ?_); refine bi ?_; refine mv (L.nil ?_); exact ⟨k2, _, by omega, ⟨v34, v35, (IntKind.i64.wrap (v36 + 1)), by omega, H, rfl⟩, lm [] hm⟩
  ·refine WpC.exit (sr ?_); refine ag (L.nil ?_); cases H; exact WpC.ret rt
/-! ### Fslices_ContainsFunc_Rule__impl_RulesOk_1 -/
def Fslices_ContainsFunc_Rule__impl_RulesOk_1 (k : Nat) (a0 : List Timpl_Rule) : Option Bool := (Fslices_IndexFunc_Rule__impl_RulesOk_1 k a0).bind fun r1 => some (decide (r1 ≥ 0))
theorem ent24 : MG.Enters Try.prog 24 := ⟨Try.f24, func24, rfl, by decide⟩
theorem g24 (k : Nat) (g0 : Bool) (a0 : List Timpl_Rule) (r : Bool) (H : Fslices_ContainsFunc_Rule__impl_RulesOk_1 k a0 = some r) : Gives Try.prog 24 [V.one (Cell.sl g0 (List.map eTimpl_Rule a0)), V.one (Cell.clo 25 [])] [] [V.one (cL r)] [] := by
 refine Gives.intro func24 rfl rfl rfl rfl ?_; refine fx fun w0 T S0 ob oh hm => ?_
 have hF := fxe w0 T S0 9 ob oh
 unfold Fslices_ContainsFunc_Rule__impl_RulesOk_1 at H; obtain ⟨K, hK⟩ := leK k; refine sr ?_; refine ag (L.nil ?_); refine sr ?_; refine mv ?_; refine mv ?_; obtain ⟨r1, hr1, H⟩ := bindS H; refine c0 2 ent33 (g33 k g0 a0 r1 hr1) ?_; refine bi ?_; refine ag (L.nil ?_); cases H; exact WpC.ret rt
/-! ### Fimpl_RulesOk -/
def Fimpl_RulesOk (k : Nat) (a0 : List Timpl_Rule) : Option Bool := cond (decide ((a0.length : Int) ≤ 20)) ((Fslices_ContainsFunc_Rule__impl_RulesOk_1 k a0).bind fun r2 => some (!r2)) (some false)
theorem ent15 : MG.Enters Try.prog 15 := ⟨Try.f15, func15, rfl, by decide⟩
theorem g15 (k : Nat) (g0 : Bool) (a0 : List Timpl_Rule) (r : Bool) (H : Fimpl_RulesOk k a0 = some r) : Gives Try.prog 15 [V.one (Cell.sl g0 (List.map eTimpl_Rule a0))] [] [V.one (cL r)] [] := by
 refine Gives.intro func15 rfl rfl rfl rfl ?_; refine fx fun w0 T S0 ob oh hm => ?_
 have hF := fxe w0 T S0 11 ob oh
 unfold Fimpl_RulesOk at H; obtain ⟨K, hK⟩ := leK k; refine sr ?_; refine ag (L.nil ?_); refine sr ?_; refine mv ?_; refine L.lenR (xs := a0) (e := eTimpl_Rule) underlying24 hF rfl rfl rfl rfl ?_; refine bi ?_; refine mv ?_; refine sH H (fun hc H => ?_) (fun hc H => ?_)
 ·refine mv ?_; obtain ⟨r2, hr2, H⟩ := bindS H; refine c0 1 ent24 (g24 k g0 a0 r2 hr2) ?_; refine nt ?_; refine pk ?_; refine ag (L.nil ?_); cases H; exact WpC.ret rt
 ·(repeat refine of ?_); refine pk ?_; refine ag (L.nil ?_); cases H; exact WpC.ret rt
/-! ### Fimpl_copyInts -/
def Fimpl_copyInts (k : Nat) (a0 : List Int) : Option (List Int) := cond (decide ((2 * (([] : List Int).length + a0.length) + 192) * 8 ≤ 281474976710656)) (some (([] : List Int) ++ a0)) none
theorem ent28 : MG.Enters Try.prog 28 := ⟨Try.f28, func28, rfl, by decide⟩
theorem g28 (k : Nat) (g0 : Bool) (a0 r : List Int) (H : Fimpl_copyInts k a0 = some r) : Gives Try.prog 28 [V.one (Cell.sl g0 (List.map eI a0))] [] [V.one (Cell.ow 1 (List.map eI r))] [] := by
 refine Gives.intro func28 rfl rfl rfl rfl ?_; refine fx fun w0 T S0 ob oh hm => ?_
 have hF := fxe w0 T S0 5 ob oh
 unfold Fimpl_copyInts at H; obtain ⟨K, hK⟩ := leK k; refine sr ?_; refine ag (L.nil ?_); refine sr ?_; refine mv ?_; obtain ⟨h1, H⟩ := condG H; refine L.append (xs := ([] : List Int)) (ys := a0) (e := eI) 1 underlying31 info3 rfl rfl hF rfl rfl rfl rfl rfl rfl rfl rfl (fun _ => rfl) (fun _ _ h1 _ => by cases h1) ⟨_, underlying31⟩ (of_decide_eq_true h1) rfl rfl ?_; refine ag (L.nil ?_); cases H; exact WpC.ret rt
/-! ### Fslices_Sort_int (shelf) -/
theorem ent44 : MG.Enters Try.prog 44 := ⟨Try.f44, func44, rfl, by decide⟩
/-! ### Fslices_Compact_int (shelf) -/
theorem ent45 : MG.Enters Try.prog 45 := ⟨Try.f45, func45, rfl, by decide⟩
/-! ### Fimpl_risen -/
def Fimpl_risen (k : Nat) (a0 : List Int) : Option (List Int) := (Fslices_Sort_int k a0).bind fun r1 => (Fslices_Compact_int k r1).bind fun r2 => some r2
theorem ent36 : MG.Enters Try.prog 36 := ⟨Try.f36, func36, rfl, by decide⟩
theorem g36 (k : Nat) (a0 r : List Int) (H : Fimpl_risen k a0 = some r) : Gives Try.prog 36 [V.one (Cell.ow 1 (List.map eI a0))] [] [V.one (Cell.ow 1 (List.map eI r))] [] := by
 refine Gives.intro func36 rfl rfl rfl rfl ?_; refine fx fun w0 T S0 ob oh hm => ?_
 have hF := fxe w0 T S0 7 ob oh
 unfold Fimpl_risen at H; obtain ⟨K, hK⟩ := leK k; refine sr ?_; refine ag (L.nil ?_); refine sr ?_; refine mv ?_; obtain ⟨r1, hr1, H⟩ := bindS H; refine L.callB [true] [] [] 1 [0] hF rfl rfl rfl ent44 rfl rfl rfl rfl rfl (Fslices_Sort_int_gives k  a0 r1 hr1) rfl rfl rfl (L.nil ?_); refine sr ?_; refine mv ?_; obtain ⟨r2, hr2, H⟩ := bindS H; refine ca [true] [] [] 1 ent45 (Fslices_Compact_int_gives k  r1 r2 hr2) ?_; refine ag (L.nil ?_); cases H; exact WpC.ret rt
/-! ### Fslices_Index_int -/
def Fslices_Index_int.l2 : Nat → (List Int) → Int → Int → Int → Option Int
 | 0, _, _, _, _ => none
 | k2 + 1, v29, v30, v31, v32 => cond (decide (v32 < v31)) ((at? v29 v32).bind fun b34 => cond (v30 == b34) (some v32) ((Fslices_Index_int.l2 k2) v29 v30 v31 (IntKind.i64.wrap (v32 + 1)))) (some (-1))
def Fslices_Index_int (k : Nat) (a0 : List Int) (a1 : Int) : Option Int := Fslices_Index_int.l2 k a0 a1 (a0.length : Int) 0
theorem ent46 : MG.Enters Try.prog 46 := ⟨Try.f46, func46, rfl, by decide⟩
theorem g46 (k : Nat) (g0 : Bool) (a0 : List Int) (a1 r : Int) (H : Fslices_Index_int k a0 a1 = some r) : Gives Try.prog 46 [V.one (Cell.sl g0 (List.map eI a0)), V.one (cI a1)] [] [V.one (cI r)] [] := by
 refine Gives.intro func46 rfl rfl rfl rfl ?_; refine fx fun w0 T S0 ob oh hm => ?_
 have hF := fxe w0 T S0 19 ob oh
 unfold Fslices_Index_int at H; obtain ⟨K, hK⟩ := leK k; refine sr ?_; refine ag (L.nil ?_); refine WpC.seq (sr ?_); refine mv ?_; refine L.lenR (xs := a0) (e := eI) underlying31 hF rfl rfl rfl rfl ?_; refine mv (L.nil ?_); refine WpC.block ?_; refine WpC.loopL (P := Try.prog) (fun n σ => ∃ (v29 : List Int) (v30 v31 v32 : Int), n ≤ K ∧ Fslices_Index_int.l2 n v29 v30 v31 v32 = some r ∧ σ = mkSt [(0, MG.one (Cell.sl g0 (List.map eI v29))), (1, oI v30), (7, oI v31), (8, oI v32)] [] [] 0) k ⟨_, ⟨a0, a1, (a0.length : Int), 0, by omega, H, rfl⟩, lm [] hm⟩ ?_; clear H
 rintro k2 _ ⟨v29, v30, v31, v32, hk2, H, rfl⟩
 cases k2 with
 | zero => cases H
 | succ k2 =>
  rw [Fslices_Index_int.l2] at H
  refine sr ?_; refine bi (L.nil ?_); refine WpC.seq ?_; refine cd H (fun hc H => ?_) (fun hc H => ?_)
  ·refine WpC.skip (WpC.seq (WpC.block (sr ?_))); refine mv ?_; refine ag (L.nil ?_); refine sr ?_; refine mv ?_; refine mv ?_; refine mv ?_; obtain ⟨b34, hb34, H⟩ := bindS H; refine ix underlying31 info3 hb34 ?_; refine le shape3 ?_; refine bi (L.nil ?_); refine cd H (fun hc H => ?_) (fun hc H => ?_)
   ·refine sr ?_; refine mv ?_; refine ag (L.nil ?_); cases H; exact WpC.ret rt
   ·refine WpC.skip (WpC.regionL ?_); refine bi ?_; refine mv (L.nil ?_); exact ⟨k2, _, by omega, ⟨v29, v30, v31, (IntKind.i64.wrap (v32 + 1)), by omega, H, rfl⟩, lm [] hm⟩
  ·refine WpC.exit (sr ?_); refine ag (L.nil ?_); cases H; exact WpC.ret rt
/-! ### Fslices_Contains_int -/
def Fslices_Contains_int (k : Nat) (a0 : List Int) (a1 : Int) : Option Bool := (Fslices_Index_int k a0 a1).bind fun r1 => some (decide (r1 ≥ 0))
theorem ent37 : MG.Enters Try.prog 37 := ⟨Try.f37, func37, rfl, by decide⟩
theorem g37 (k : Nat) (g0 : Bool) (a0 : List Int) (a1 : Int) (r : Bool) (H : Fslices_Contains_int k a0 a1 = some r) : Gives Try.prog 37 [V.one (Cell.sl g0 (List.map eI a0)), V.one (cI a1)] [] [V.one (cL r)] [] := by
 refine Gives.intro func37 rfl rfl rfl rfl ?_; refine fx fun w0 T S0 ob oh hm => ?_
 have hF := fxe w0 T S0 9 ob oh
 unfold Fslices_Contains_int at H; obtain ⟨K, hK⟩ := leK k; refine sr ?_; refine ag (L.nil ?_); refine sr ?_; refine mv ?_; refine mv ?_; obtain ⟨r1, hr1, H⟩ := bindS H; refine c0 2 ent46 (g46 k g0 a0 a1 r1 hr1) ?_; refine bi ?_; refine ag (L.nil ?_); cases H; exact WpC.ret rt
/-! ### Fimpl_both -/
def Fimpl_both.j5 (k : Nat) (v55 : List Int) (v56 : Timpl_Rule) (v57 : Int) : Option Timpl_Rule := some (⟨v56.Kind, v55, v57⟩ : Timpl_Rule)
def Fimpl_both.j9 (cl8 : (List Int) → Timpl_Rule → Int → Int → Int → Timpl_Rule → Option Timpl_Rule) (k : Nat) (v103 : List Int) (v104 : Timpl_Rule) (v105 v106 v107 : Int) (v108 : Timpl_Rule) : Option Timpl_Rule := cl8 v103 v104 v105 (IntKind.i64.wrap (v106 + 1)) v107 v108
def Fimpl_both.l8 : Nat → (List Int) → Timpl_Rule → Int → Int → Int → Timpl_Rule → Option Timpl_Rule
 | 0, _, _, _, _, _, _ => none
 | k8 + 1, v94, v95, v96, v97, v98, v99 => cond (decide (v97 < v96)) ((at? v95.Set v97).bind fun b109 => (Fslices_Contains_int k8 v99.Set b109).bind fun r110 => cond r110 (cond (decide ((2 * (v94.length + ([b109] : List Int).length) + 192) * 8 ≤ 281474976710656)) (Fimpl_both.j9 (Fimpl_both.l8 k8) k8 (v94 ++ ([b109] : List Int)) v95 v96 v97 v98 v99) none) (Fimpl_both.j9 (Fimpl_both.l8 k8) k8 v94 v95 v96 v97 v98 v99)) (Fimpl_both.j5 k8 v94 v95 v98)
def Fimpl_both (k : Nat) (a0 a1 : Timpl_Rule) : Option Timpl_Rule := cond (a0.Kind == 3) ((Fimpl_copyInts k a0.Set).bind fun r58 => cond (decide ((2 * (r58.length + a1.Set.length) + 192) * 8 ≤ 281474976710656)) ((Fimpl_risen k (r58 ++ a1.Set)).bind fun r60 => Fimpl_both.j5 k r60 a0 (if a1.N < a0.N then a1.N else a0.N)) none) (Fimpl_both.l8 k ([] : List Int) a0 (a0.Set.length : Int) 0 (if a1.N < a0.N then a1.N else a0.N) a1)
theorem ent27 : MG.Enters Try.prog 27 := ⟨Try.f27, func27, rfl, by decide⟩
theorem g27 (k : Nat) (g0 g1 : Bool) (a0 a1 r : Timpl_Rule) (H : Fimpl_both k a0 a1 = some r) : Gives Try.prog 27 [V.agg (bTimpl_Rule g0 a0), V.agg (bTimpl_Rule g1 a1)] [] [V.agg [cI r.Kind, Cell.ow 1 (List.map eI r.Set), cI r.N]] [] := by
 refine Gives.intro func27 rfl rfl rfl rfl ?_; refine fx fun w0 T S0 ob oh hm => ?_
 have hF := fxe w0 T S0 44 ob oh
 unfold Fimpl_both at H; obtain ⟨K, hK⟩ := leK k; refine sr ?_; refine bo 6 ?_; refine bo 7 ?_; refine alc 8 info36 (L.nil ?_); refine sr ?_; refine fa underlying36 info3 ?_; refine lp shape3 ?_; refine fa underlying36 info3 ?_; refine lp shape3 ?_; refine L.minI hF rfl rfl rfl rfl ?_; refine fa underlying36 info3 ?_; refine sp shape3 (L.nil ?_); refine sr ?_; refine L.buildSlice (e := eI) 9 ([] : List Int) underlying31 info3 rfl rfl rfl hF rfl rfl rfl rfl rfl rfl rfl rfl ?_; refine ag (L.nil ?_); refine WpC.join (fun σ => ∃ (kj5 : Nat) (v55 : List Int) (v56 : Timpl_Rule) (v57 : Int), kj5 ≤ K ∧ Fimpl_both.j5 kj5 v55 v56 v57 = some r ∧ σ = mkSt [(2, oP 0 0), (4, oP 1 0), (5, MG.one (Cell.own 2))] [(2, ⟨1, List.map eI v55⟩)] [(0, [cI v56.Kind, Cell.sl g0 (List.map eI v56.Set), cI v57]), (1, [cI 0, Cell.nil, cI 0])] 3) ?_ ?_
 ·rintro _ ⟨kj5, v55, v56, v57, hkj5, H, rfl⟩
  unfold Fimpl_both.j5 at H; refine sr ?_; refine mv ?_; refine fa underlying36 info31 ?_; refine sp shape31 (L.nil ?_); refine sr ?_; refine lp shape36 ?_; refine sp shape36 (L.nil ?_); cases H; exact WpC.ret rt
 ·refine sr ?_; refine fa underlying36 info3 ?_; refine lp shape3 ?_; refine bi (L.nil ?_); refine cd H (fun hc H => ?_) (fun hc H => ?_)
  ·obtain ⟨r58, hr58, H⟩ := bindS H; obtain ⟨h59, H⟩ := condG H; obtain ⟨r60, hr60, H⟩ := bindS H; refine A.lin (fun β => mkStL [(2, iP 6 0), (3, iP 7 0), (4, iP 8 0), (5, [(β 7, some (MG.one (Cell.own 12))), (true, some (MG.one (Cell.own 9)))]), (18, lP (β 0) 6 1), (19, al (β 1) (MG.one (Cell.sl g0 (List.map eI a0.Set)))), (20, al (β 2) (MG.one (Cell.own 10))), (21, lP (β 3) 7 1), (22, al (β 4) (MG.one (Cell.sl g1 (List.map eI a1.Set)))), (23, al (β 5) (MG.one (Cell.own 11))), (24, al (β 6) (MG.one (Cell.own 12)))] [(9, ai (⟨1, List.map eI ([] : List Int)⟩)), (10, [(β 5, none), (β 2, some (⟨1, List.map eI r58⟩))]), (11, [(β 6, none), (β 5, some (⟨1, List.map eI (r58 ++ a1.Set)⟩))]), (12, al (β 6) (⟨1, List.map eI r60⟩))] [(6, ai ([cI a0.Kind, Cell.sl g0 (List.map eI a0.Set), cI (if a1.N < a0.N then a1.N else a0.N)])), (7, ai ((bTimpl_Rule g1 a1))), (8, ai ([cI 0, Cell.nil, cI 0]))] 13) [([], [1, 2, 5, 6, 7]), ([0], [2, 5, 6, 7]), ([0, 1], [5, 6, 7]), ([], [4, 5, 6, 7]), ([3], [5, 6, 7]), ([0, 1, 2, 3, 4], [6, 7]), ([0, 1, 2, 3, 4, 5], [7]), ([0, 1, 2, 3, 4, 5, 6], [])] 8 mixed rfl (by kernel_rfl) ?_ ?_ ?_
   ·exact Le.lin [] hm rfl (sa4 (kn (kn2 (kn4 kz)))) (ra (kn (kn2 kz))) (ba (ba (ba kz)))
   ·repeat' (first | exact trivial | refine ⟨⟨_, rfl, fun β => ?_⟩, ?_⟩ | fail)
    ·refine fa underlying36 info31 ?_; exact lx [] hm
    ·refine lp shape31 ?_; exact lx [] hm
    ·refine c0 13 ent28 (g28 k g0 a0.Set r58 hr58) ?_; exact lx [(10, 13)] hm
    ·refine fa underlying36 info31 ?_; exact lx [] hm
    ·refine lp shape31 ?_; exact lx [] hm
    ·refine L.append (xs := r58) (ys := a1.Set) (e := eI) 13 underlying31 info3 rfl rfl hF rfl rfl rfl rfl rfl rfl rfl rfl (fun _ => rfl) (fun _ _ h1 h2 => by cases h1; cases h2; rfl) ⟨_, underlying31⟩ (of_decide_eq_true h59) rfl rfl ?_; exact lx [(11, 13)] hm
    ·refine ca [true] [] [] 13 ent36 (g36 k  (r58 ++ a1.Set) r60 hr60) ?_; exact lx [(12, 13)] hm
    ·refine ag ?_; exact lx [] hm
   refine ⟨_, (lm [(0, 6), (1, 8), (2, 12)] hm : Le _ _ (mkSt [(2, oP 0 0), (4, oP 1 0), (5, MG.one (Cell.own 2))] [(2, ⟨1, List.map eI r60⟩)] [(0, [cI a0.Kind, Cell.sl g0 (List.map eI a0.Set), cI (if a1.N < a0.N then a1.N else a0.N)]), (1, [cI 0, Cell.nil, cI 0])] 3)), ?_⟩; exact ⟨_, ⟨k, r60, a0, (if a1.N < a0.N then a1.N else a0.N), by omega, H, rfl⟩, lm [(0, 0), (1, 1), (2, 2)] hm⟩
  ·refine sr ?_; refine fa underlying36 info31 ?_; refine lp shape31 ?_; refine L.lenR (xs := a0.Set) (e := eI) underlying31 hF rfl rfl rfl rfl ?_; refine mv (L.nil ?_); refine WpC.block ?_; refine WpC.loopL (P := Try.prog) (fun n σ => ∃ (v94 : List Int) (v95 : Timpl_Rule) (v96 v97 v98 : Int) (v99 : Timpl_Rule), n ≤ K ∧ Fimpl_both.l8 n v94 v95 v96 v97 v98 v99 = some r ∧ σ = mkSt [(2, oP 0 0), (3, oP 1 0), (4, oP 2 0), (5, MG.one (Cell.own 3)), (26, MG.one (Cell.sl g0 (List.map eI v95.Set))), (27, oI v96), (28, oI v97)] [(3, ⟨1, List.map eI v94⟩)] [(0, [cI v95.Kind, Cell.sl g0 (List.map eI v95.Set), cI v98]), (1, (bTimpl_Rule g1 v99)), (2, [cI 0, Cell.nil, cI 0])] 4) k ⟨_, ⟨([] : List Int), a0, (a0.Set.length : Int), 0, (if a1.N < a0.N then a1.N else a0.N), a1, by omega, H, rfl⟩, lm [(0, 6), (1, 7), (2, 8), (3, 9)] hm⟩ ?_; clear H
   rintro k8 _ ⟨v94, v95, v96, v97, v98, v99, hk8, H, rfl⟩
   cases k8 with
   | zero => cases H
   | succ k8 =>
    rw [Fimpl_both.l8] at H
    refine sr ?_; refine bi (L.nil ?_); refine WpC.seq ?_; refine cd H (fun hc H => ?_) (fun hc H => ?_)
    ·refine WpC.skip ?_; refine WpC.join (fun σ => ∃ (kj9 : Nat) (v103 : List Int) (v104 : Timpl_Rule) (v105 v106 v107 : Int) (v108 : Timpl_Rule), kj9 ≤ K ∧ Fimpl_both.j9 (Fimpl_both.l8 k8) kj9 v103 v104 v105 v106 v107 v108 = some r ∧ σ = mkSt [(2, oP 0 0), (3, oP 1 0), (4, oP 2 0), (5, MG.one (Cell.own 3)), (26, MG.one (Cell.sl g0 (List.map eI v104.Set))), (27, oI v105), (28, oI v106)] [(3, ⟨1, List.map eI v103⟩)] [(0, [cI v104.Kind, Cell.sl g0 (List.map eI v104.Set), cI v107]), (1, (bTimpl_Rule g1 v108)), (2, [cI 0, Cell.nil, cI 0])] 4) ?_ ?_
     ·rintro _ ⟨kj9, v103, v104, v105, v106, v107, v108, hkj9, H, rfl⟩
      unfold Fimpl_both.j9 at H; refine WpC.regionL ?_; refine bi ?_; refine mv (L.nil ?_); exact ⟨k8, _, by omega, ⟨v103, v104, v105, (IntKind.i64.wrap (v106 + 1)), v107, v108, by omega, H, rfl⟩, lm [(0, 0), (1, 1), (2, 2), (3, 3)] hm⟩
     ·refine WpC.block (sr ?_); obtain ⟨b109, hb109, H⟩ := bindS H; refine ix underlying31 info3 hb109 ?_; refine le shape3 ?_; refine ag (L.nil ?_); refine sr ?_; refine fa underlying36 info31 ?_; refine lp shape31 ?_; refine mv ?_; obtain ⟨r110, hr110, H⟩ := bindS H; refine c0 4 ent37 (g37 k8 g1 v99.Set b109 r110 hr110) (L.nil ?_); refine cd H (fun hc H => ?_) (fun hc H => ?_)
      ·refine WpC.regionL ?_; refine mv ?_; refine mv ?_; refine L.buildSlice (e := eI) 5 ([b109] : List Int) underlying31 info3 rfl rfl rfl hF rfl rfl rfl rfl rfl rfl rfl rfl ?_; obtain ⟨h111, H⟩ := condG H; refine L.append (xs := v94) (ys := ([b109] : List Int)) (e := eI) 6 underlying31 info3 rfl rfl hF rfl rfl rfl rfl rfl rfl rfl rfl (fun _ => rfl) (fun _ _ h1 h2 => by cases h1; cases h2; rfl) ⟨_, underlying31⟩ (of_decide_eq_true h111) rfl rfl ?_; refine ag (L.nil ?_); exact ⟨_, ⟨k8, (v94 ++ ([b109] : List Int)), v95, v96, v97, v98, v99, by omega, H, rfl⟩, lm [(0, 0), (1, 1), (2, 2), (3, 6)] hm⟩
      ·refine WpC.skip ?_; exact ⟨_, ⟨k8, v94, v95, v96, v97, v98, v99, by omega, H, rfl⟩, lm [(0, 0), (1, 1), (2, 2), (3, 3)] hm⟩
    ·refine WpC.exit ?_; exact ⟨_, ⟨k8, v94, v95, v98, by omega, H, rfl⟩, lm [(0, 0), (1, 2), (2, 3)] hm⟩
/-! ### Fimpl_normal -/
def Fimpl_normal.j50 (cl49 : (List Timpl_Rule) → (List Timpl_Rule) → Int → Bool → Int → Int → Option (List Timpl_Rule)) (k : Nat) (v737 v738 : List Timpl_Rule) (v739 : Int) (v740 : Bool) (v741 v742 : Int) : Option (List Timpl_Rule) := cl49 v737 v738 v739 v740 v741 (IntKind.i64.wrap (v742 + 1))
def Fimpl_normal.l49 (cl42 : (List Timpl_Rule) → (List Timpl_Rule) → Int → Option (List Timpl_Rule)) : Nat → (List Timpl_Rule) → (List Timpl_Rule) → Int → Bool → Int → Int → Option (List Timpl_Rule)
 | 0, _, _, _, _, _, _ => none
 | k49 + 1, v725, v726, v727, v728, v729, v730 => cond (decide (v730 < v729)) ((at? v725 v730).bind fun b743 => cond (b743.Kind != v727) (Fimpl_normal.j50 (Fimpl_normal.l49 cl42 k49) k49 v725 v726 v727 v728 v729 v730) (cond v728 ((at? v726 (IntKind.i64.wrap ((v726.length : Int) - 1))).bind fun b744 => (Fimpl_both k49 b744 b743).bind fun r745 => (at? v726 (IntKind.i64.wrap ((v726.length : Int) - 1))).bind fun b746 => Fimpl_normal.j50 (Fimpl_normal.l49 cl42 k49) k49 v725 (v726.set ((IntKind.i64.wrap ((v726.length : Int) - 1)).toNat) r745) v727 v728 v729 v730) ((Fimpl_copyInts k49 b743.Set).bind fun r747 => cond (decide ((2 * (v726.length + ([(⟨v727, r747, b743.N⟩ : Timpl_Rule)] : List Timpl_Rule).length) + 192) * 40 ≤ 281474976710656)) (Fimpl_normal.j50 (Fimpl_normal.l49 cl42 k49) k49 v725 (v726 ++ ([(⟨v727, r747, b743.N⟩ : Timpl_Rule)] : List Timpl_Rule)) v727 true v729 v730) none))) (cl42 v725 v726 (IntKind.i64.wrap (v727 + 1)))
def Fimpl_normal.l42 : Nat → (List Timpl_Rule) → (List Timpl_Rule) → Int → Option (List Timpl_Rule)
 | 0, _, _, _ => none
 | k42 + 1, v620, v621, v622 => cond (decide (v622 ≤ 5)) (Fimpl_normal.l49 (Fimpl_normal.l42 k42) k42 v620 v621 v622 false (v620.length : Int) 0) (some v621)
def Fimpl_normal (k : Nat) (a0 : List Timpl_Rule) : Option (List Timpl_Rule) := Fimpl_normal.l42 k a0 ([] : List Timpl_Rule) 1
theorem ent16 : MG.Enters Try.prog 16 := ⟨Try.f16, func16, rfl, by decide⟩
theorem g16 (k : Nat) (g0 : Bool) (a0 r : List Timpl_Rule) (H : Fimpl_normal k a0 = some r) : Gives Try.prog 16 [V.one (Cell.sl g0 (List.map eTimpl_Rule a0))] [] [V.one (Cell.ow 3 (List.map eTimpl_Rule r))] [] := by
 refine Gives.intro func16 rfl rfl rfl rfl ?_; refine fx fun w0 T S0 ob oh hm => ?_
 have hF := fxe w0 T S0 51 ob oh
 unfold Fimpl_normal at H; obtain ⟨K, hK⟩ := leK k; refine sr ?_; refine ag (L.nil ?_); refine sr ?_; refine L.buildSliceN (e := eTimpl_Rule) 1 1 ([] : List Timpl_Rule) underlying24 info36 rfl rfl rfl hF rfl rfl rfl rfl rfl rfl rfl rfl ?_; refine ag (L.nil ?_); refine WpC.seq (sr ?_); refine ag (L.nil ?_); refine WpC.block ?_; refine WpC.loopL (P := Try.prog) (fun n σ => ∃ (v620 v621 : List Timpl_Rule) (v622 : Int), n ≤ K ∧ Fimpl_normal.l42 n v620 v621 v622 = some r ∧ σ = mkSt [(0, MG.one (Cell.sl g0 (List.map eTimpl_Rule v620))), (3, MG.one (Cell.own 0)), (4, oI v622)] [(0, ⟨3, List.map eTimpl_Rule v621⟩)] [] 1) k ⟨_, ⟨a0, ([] : List Timpl_Rule), 1, by omega, H, rfl⟩, lm [(0, 1)] hm⟩ ?_; clear H
 rintro k42 _ ⟨v620, v621, v622, hk42, H, rfl⟩
 cases k42 with
 | zero => cases H
 | succ k42 =>
  rw [Fimpl_normal.l42] at H
  refine WpC.seq (sr ?_); refine mv ?_; refine bi (L.nil ?_); refine cd H (fun hc H => ?_) (fun hc H => ?_)
  ·refine WpC.skip (WpC.seq (WpC.block (sr ?_))); refine ag (L.nil ?_); refine sr ?_; refine mv ?_; refine L.lenR (xs := v620) (e := eTimpl_Rule) underlying24 hF rfl rfl rfl rfl ?_; refine mv (L.nil ?_); refine WpC.block ?_; refine WpC.loopL (P := Try.prog) (fun n σ => ∃ (v725 v726 : List Timpl_Rule) (v727 : Int) (v728 : Bool) (v729 v730 : Int), n ≤ K ∧ Fimpl_normal.l49 (Fimpl_normal.l42 k42) n v725 v726 v727 v728 v729 v730 = some r ∧ σ = mkSt [(0, MG.one (Cell.sl g0 (List.map eTimpl_Rule v725))), (3, MG.one (Cell.own 0)), (4, oI v727), (5, oL v728), (13, MG.one (Cell.sl g0 (List.map eTimpl_Rule v725))), (14, oI v729), (15, oI v730)] [(0, ⟨3, List.map eTimpl_Rule v726⟩)] [] 1) k42 ⟨_, ⟨v620, v621, v622, false, (v620.length : Int), 0, by omega, H, rfl⟩, lm [(0, 0)] hm⟩ ?_; clear H
   rintro k49 _ ⟨v725, v726, v727, v728, v729, v730, hk49, H, rfl⟩
   cases k49 with
   | zero => cases H
   | succ k49 =>
    rw [Fimpl_normal.l49] at H
    refine sr ?_; refine bi (L.nil ?_); refine WpC.seq ?_; refine cd H (fun hc H => ?_) (fun hc H => ?_)
    ·refine WpC.skip ?_; refine WpC.join (fun σ => ∃ (kj50 : Nat) (v737 v738 : List Timpl_Rule) (v739 : Int) (v740 : Bool) (v741 v742 : Int), kj50 ≤ K ∧ Fimpl_normal.j50 (Fimpl_normal.l49 (Fimpl_normal.l42 k42) k49) kj50 v737 v738 v739 v740 v741 v742 = some r ∧ σ = mkSt [(0, MG.one (Cell.sl g0 (List.map eTimpl_Rule v737))), (3, MG.one (Cell.own 0)), (4, oI v739), (5, oL v740), (13, MG.one (Cell.sl g0 (List.map eTimpl_Rule v737))), (14, oI v741), (15, oI v742)] [(0, ⟨3, List.map eTimpl_Rule v738⟩)] [] 1) ?_ ?_
     ·rintro _ ⟨kj50, v737, v738, v739, v740, v741, v742, hkj50, H, rfl⟩
      unfold Fimpl_normal.j50 at H; refine WpC.regionL ?_; refine bi ?_; refine mv (L.nil ?_); exact ⟨k49, _, by omega, ⟨v737, v738, v739, v740, v741, (IntKind.i64.wrap (v742 + 1)), by omega, H, rfl⟩, lm [(0, 0)] hm⟩
     ·refine WpC.block (sr ?_); obtain ⟨b743, hb743, H⟩ := bindS H; refine ix underlying24 info36 hb743 ?_; refine le shape36 ?_; refine alc 1 info36 ?_; refine sp shape36 (L.nil ?_); refine WpC.block (sr ?_); refine fa underlying36 info3 ?_; refine lp shape3 ?_; refine mv ?_; refine bi ?_; refine ag (L.nil ?_); refine cd H (fun hc H => ?_) (fun hc H => ?_)
      ·refine WpC.skip ?_; exact ⟨_, ⟨k49, v725, v726, v727, v728, v729, v730, by omega, H, rfl⟩, lm [(0, 0)] hm⟩
      ·refine sr ?_; refine mv ?_; refine ag (L.nil ?_); refine cd H (fun hc H => ?_) (fun hc H => ?_)
       ·obtain ⟨b744, hb744, H⟩ := bindS H; obtain ⟨r745, hr745, H⟩ := bindS H; obtain ⟨b746, hb746, H⟩ := bindS H; refine WpC.out (xs := v726) (e := eTimpl_Rule) (a := b744) 0 ((IntKind.i64.wrap ((v726.length : Int) - 1)).toNat) 1 2 rfl (at?_get hb744).2 rfl rfl (fun ub744 => ?_); refine A.begin mixed rfl rfl ?_; intro W hI hO
        have n2047 : W 3 #[true, true, true, true, true, true, true, true, true, true, true, false, false, false] (mkStH [(0, MG.one (Cell.sl g0 (List.map eTimpl_Rule v725))), (3, MG.one (Cell.own 0)), (4, oI v727), (5, oL v728), (13, MG.one (Cell.sl g0 (List.map eTimpl_Rule v725))), (14, oI v729), (15, oI v730), (36, MG.one (Cell.own 0)), (39, MG.one (cI (IntKind.i64.wrap ((v726.length : Int) - 1)))), (45, agg [cI b744.Kind, Cell.own 1, cI b744.N]), (46, agg (bTimpl_Rule g0 b743))] [(0, ⟨3, (List.map eTimpl_Rule v726).set ((IntKind.i64.wrap ((v726.length : Int) - 1)).toNat) ((eTimpl_Rule b744).set 1 (Cell.raw ub744))⟩), (1, ⟨1, List.map eI b744.Set⟩)] [] 2 [(1, ub744)]) := by
         refine hI _ _ _ ?_; refine A.all [11] (by kernel_rfl) rfl ⟨⟨_, rfl, ?_⟩, trivial⟩; refine ca [false, false] [1] [] 2 ent27 (g27 k49 false g0 b744 b743 r745 hr745) (L.nil ?_); refine Atk 12 rfl (Ca.indexAddr) (fun Q0 k0 => L.idxRH (xs := v726) (e := eTimpl_Rule) underlying24 info36 hF rfl rfl rfl rfl rfl hb746 rfl rfl (L.nil k0)) ?_; refine A.all [13] (by kernel_rfl) rfl ⟨⟨_, rfl, ?_⟩, trivial⟩; refine L.storeEpH (xs := v726) (e := eTimpl_Rule) (a' := r745) 1 shape36 hF rfl rfl rfl rfl rfl rfl rfl (at?_get hb744).2 rfl rfl ?_; refine L.nil ?_; refine A.le (τ := mkSt [(0, MG.one (Cell.sl g0 (List.map eTimpl_Rule v725))), (3, MG.one (Cell.own 0)), (4, oI v727), (5, oL v728), (13, MG.one (Cell.sl g0 (List.map eTimpl_Rule v725))), (14, oI v729), (15, oI v730)] [(0, ⟨3, List.map eTimpl_Rule (v726.set ((IntKind.i64.wrap ((v726.length : Int) - 1)).toNat) r745)⟩)] [] 1) (lm [(0, 0)] hm) ?_; refine A.done (by kernel_rfl) ?_; exact ⟨_, ⟨k49, v725, (v726.set ((IntKind.i64.wrap ((v726.length : Int) - 1)).toNat) r745), v727, v728, v729, v730, by omega, H, rfl⟩, lm [(0, 0)] hm⟩
        refine hI _ _ _ ?_; refine tM 0 ?_; refine tM 1 ?_; refine Atk 2 rfl (Ca.lenRH (xs := v726) (e := eTimpl_Rule) underlying24 rfl rfl) (fun Q0 k0 => L.lenRH (xs := v726) (e := eTimpl_Rule) underlying24 hF rfl rfl rfl rfl (L.nil k0)) ?_; refine Atk 3 rfl (Ca.bin rfl rfl (calm_int _ _ _ _ _ _ _ _)) (fun Q0 k0 => bi (L.nil k0)) ?_; refine tM 4 ?_; refine tM 5 ?_; refine Atk 6 rfl (Ca.lenRH (xs := v726) (e := eTimpl_Rule) underlying24 rfl rfl) (fun Q0 k0 => L.lenRH (xs := v726) (e := eTimpl_Rule) underlying24 hF rfl rfl rfl rfl (L.nil k0)) ?_; refine Atk 7 rfl (Ca.bin rfl rfl (calm_int _ _ _ _ _ _ _ _)) (fun Q0 k0 => bi (L.nil k0)) ?_; refine Atk 8 rfl (Ca.indexAddr) (fun Q0 k0 => L.idxRH (xs := v726) (e := eTimpl_Rule) underlying24 info36 hF rfl rfl rfl rfl rfl hb744 rfl rfl (L.nil k0)) ?_; refine A.all [9, 10] (by kernel_rfl) rfl ⟨⟨_, rfl, ?_⟩, ⟨_, rfl, ?_⟩, trivial⟩
        ·refine L.loadEpR (xs := v726) (e := eTimpl_Rule) 1 2 shape36 hF rfl rfl rfl rfl (at?_get hb744).2 rfl rfl rfl rfl rfl ?_; refine L.nil ?_; refine A.le (τ := mkStH [(0, MG.one (Cell.sl g0 (List.map eTimpl_Rule v725))), (3, MG.one (Cell.own 0)), (4, oI v727), (5, oL v728), (7, oP 1 0), (13, MG.one (Cell.sl g0 (List.map eTimpl_Rule v725))), (14, oI v729), (15, oI v730), (36, MG.one (Cell.own 0)), (39, MG.one (cI (IntKind.i64.wrap ((v726.length : Int) - 1)))), (45, agg [cI b744.Kind, Cell.own 2, cI b744.N])] [(0, ⟨3, (List.map eTimpl_Rule v726).set ((IntKind.i64.wrap ((v726.length : Int) - 1)).toNat) ((eTimpl_Rule b744).set 1 (Cell.raw ub744))⟩), (2, ⟨1, List.map eI b744.Set⟩)] [(1, (bTimpl_Rule g0 b743))] 3 [(2, ub744)]) (Le.mkH [(0, 0), (1, 1), (2, 2)] hm rfl (Sa8 (Sa2 (Sa1 trivial))) (Ra2 trivial) (Ba1 trivial) (hvOk1 rfl rfl)) ?_; refine A.all [10] (by kernel_rfl) rfl ⟨⟨_, rfl, ?_⟩, trivial⟩; refine lp shape36 (L.nil ?_); exact A.on (hO _ _ _ n2047) (Le.mkH [(0, 0), (1, 2)] hm rfl (Sa8 (Sa2 (Sa1 trivial))) (Ra2 trivial) trivial (hvOk1 rfl rfl))
        ·refine lp shape36 (L.nil ?_); refine A.le (τ := mkStH [(0, MG.one (Cell.sl g0 (List.map eTimpl_Rule v725))), (3, MG.one (Cell.own 0)), (4, oI v727), (5, oL v728), (13, MG.one (Cell.sl g0 (List.map eTimpl_Rule v725))), (14, oI v729), (15, oI v730), (36, MG.one (Cell.own 0)), (39, MG.one (cI (IntKind.i64.wrap ((v726.length : Int) - 1)))), (44, MG.one (Cell.ep 0 ((IntKind.i64.wrap ((v726.length : Int) - 1)).toNat) 0)), (46, agg (bTimpl_Rule g0 b743))] [(0, ⟨3, (List.map eTimpl_Rule v726).set ((IntKind.i64.wrap ((v726.length : Int) - 1)).toNat) ((eTimpl_Rule b744).set 1 (Cell.raw ub744))⟩), (1, ⟨1, List.map eI b744.Set⟩)] [] 2 [(1, ub744)]) (Le.mkH [(0, 0), (1, 2)] hm rfl (Sa8 (Sa2 (Sa1 trivial))) (Ra2 trivial) trivial (hvOk1 rfl rfl)) ?_; refine A.all [9] (by kernel_rfl) rfl ⟨⟨_, rfl, ?_⟩, trivial⟩; refine L.loadEpR (xs := v726) (e := eTimpl_Rule) 1 1 shape36 hF rfl rfl rfl rfl (at?_get hb744).2 rfl rfl rfl rfl rfl ?_; refine L.nil ?_; exact A.on (hO _ _ _ n2047) (Le.mkH [(0, 0), (1, 1)] hm rfl (Sa8 (Sa2 (Sa1 trivial))) (Ra2 trivial) trivial (hvOk1 rfl rfl))
       ·refine sr ?_; refine ag (L.nil ?_); obtain ⟨r747, hr747, H⟩ := bindS H; obtain ⟨h748, H⟩ := condG H
        refine A.lin (fun β => mkStL [(0, ai (MG.one (Cell.sl g0 (List.map eTimpl_Rule v725)))), (3, [(β 10, some (MG.one (Cell.own 4))), (true, some (MG.one (Cell.own 0)))]), (4, iI v727), (5, ai (MG.one (cL true))), (7, iP 1 0), (13, ai (MG.one (Cell.sl g0 (List.map eTimpl_Rule v725)))), (14, iI v729), (15, iI v730), (19, al (β 0) (MG.one (Cell.own 0))), (20, lI (β 1) v727), (21, lP (β 2) 1 1), (22, al (β 3) (MG.one (Cell.sl g0 (List.map eI b743.Set)))), (23, al (β 4) (MG.one (Cell.own 2))), (24, lP (β 5) 1 2), (25, al (β 6) (MG.one (cI b743.N))), (26, al (β 7) (agg [cI v727, Cell.own 2, cI b743.N])), (27, al (β 8) (MG.one (Cell.own 3))), (28, al (β 9) (MG.one (Cell.own 4)))] [(0, [(β 9, none), (true, some (⟨3, List.map eTimpl_Rule v726⟩))]), (2, [(β 8, none), (β 4, some (⟨1, List.map eI r747⟩))]), (3, [(β 9, none), (β 8, some (⟨3, List.map eTimpl_Rule ([(⟨v727, r747, b743.N⟩ : Timpl_Rule)] : List Timpl_Rule)⟩))]), (4, al (β 9) (⟨3, List.map eTimpl_Rule (v726 ++ ([(⟨v727, r747, b743.N⟩ : Timpl_Rule)] : List Timpl_Rule))⟩))] [(1, ai ((bTimpl_Rule g0 b743)))] 5) [([], [9, 10]), ([], [7, 8, 9, 10]), ([], [3, 4, 7, 8, 9, 10]), ([2], [4, 7, 8, 9, 10]), ([2, 3], [7, 8, 9, 10]), ([], [6, 7, 8, 9, 10]), ([5], [7, 8, 9, 10]), ([1, 2, 3, 4, 5, 6], [8, 9, 10]), ([1, 2, 3, 4, 5, 6, 7], [9, 10]), ([0, 1, 2, 3, 4, 5, 6, 7, 8], [10]), ([0, 1, 2, 3, 4, 5, 6, 7, 8, 9], [])] 11 mixed rfl (by kernel_rfl) ?_ ?_ ?_
        ·exact Le.lin [] hm rfl (sa8 (kn2 (kn8 kz))) (ra (kn (kn2 kz))) (ba kz)
        ·repeat' (first | exact trivial | refine ⟨⟨_, rfl, fun β => ?_⟩, ?_⟩ | fail)
         ·refine mv ?_; exact lx [] hm
         ·refine mv ?_; exact lx [] hm
         ·refine fa underlying36 info31 ?_; exact lx [] hm
         ·refine lp shape31 ?_; exact lx [] hm
         ·refine c0 5 ent28 (g28 k49 g0 b743.Set r747 hr747) ?_; exact lx [(2, 5)] hm
         ·refine fa underlying36 info3 ?_; exact lx [] hm
         ·refine lp shape3 ?_; exact lx [] hm
         ·refine bf built36 ?_; exact lx [] hm
         ·refine L.buildSliceN (e := eTimpl_Rule) 1 5 ([(⟨v727, r747, b743.N⟩ : Timpl_Rule)] : List Timpl_Rule) underlying24 info36 rfl rfl rfl hF rfl rfl rfl rfl rfl rfl rfl rfl ?_; exact lx [(3, 5)] hm
         ·refine L.appendN (xs := v726) (ys := ([(⟨v727, r747, b743.N⟩ : Timpl_Rule)] : List Timpl_Rule)) (e := eTimpl_Rule) 5 underlying24 info36 rfl rfl hF rfl rfl rfl rfl rfl rfl rfl rfl rfl (fun _ _ h1 h2 => by cases h1; cases h2; rfl) underlying24 (of_decide_eq_true h748) rfl rfl ?_; exact lx [(4, 5)] hm
         ·refine ag ?_; exact lx [] hm
        refine ⟨_, (lm [(0, 4)] hm : Le _ _ (mkSt [(0, MG.one (Cell.sl g0 (List.map eTimpl_Rule v725))), (3, MG.one (Cell.own 0)), (4, oI v727), (5, oL true), (13, MG.one (Cell.sl g0 (List.map eTimpl_Rule v725))), (14, oI v729), (15, oI v730)] [(0, ⟨3, List.map eTimpl_Rule (v726 ++ ([(⟨v727, r747, b743.N⟩ : Timpl_Rule)] : List Timpl_Rule))⟩)] [] 1)), ?_⟩; exact ⟨_, ⟨k49, v725, (v726 ++ ([(⟨v727, r747, b743.N⟩ : Timpl_Rule)] : List Timpl_Rule)), v727, true, v729, v730, by omega, H, rfl⟩, lm [(0, 0)] hm⟩
    ·refine WpC.exit (WpC.regionL ?_); refine mv ?_; refine bi ?_; refine ag (L.nil ?_); exact ⟨k42, _, by omega, ⟨v725, v726, (IntKind.i64.wrap (v727 + 1)), by omega, H, rfl⟩, lm [(0, 0)] hm⟩
  ·refine WpC.exit (sr ?_); refine mv ?_; refine ag (L.nil ?_); cases H; exact WpC.ret rt
/-! ### Fimpl_Joined -/
def Fimpl_Joined (k : Nat) (a0 a1 : List Timpl_Rule) : Option (List Timpl_Rule) := (Fimpl_RulesOk k a0).bind fun r7 => cond (!r7) (some ([] : List Timpl_Rule)) ((Fimpl_RulesOk k a1).bind fun r8 => cond (!r8) (some ([] : List Timpl_Rule)) (cond (decide ((IntKind.i64.wrap ((a0.length : Int) + (a1.length : Int))) > 20)) (some ([] : List Timpl_Rule)) (cond (decide ((2 * (([] : List Timpl_Rule).length + a0.length) + 192) * 40 ≤ 281474976710656)) (cond (decide ((2 * ((([] : List Timpl_Rule) ++ a0).length + a1.length) + 192) * 40 ≤ 281474976710656)) ((Fimpl_normal k ((([] : List Timpl_Rule) ++ a0) ++ a1)).bind fun r11 => some r11) none) none)))
theorem ent7 : MG.Enters Try.prog 7 := ⟨Try.f7, func7, rfl, by decide⟩
theorem Fimpl_Joined_t (k : Nat) (a0 a1 r : List Timpl_Rule) (H : Fimpl_Joined k a0 a1 = some r) : Gives Try.prog 7 [V.one (Cell.sl true (List.map eTimpl_Rule a0)), V.one (Cell.sl true (List.map eTimpl_Rule a1))] [] [V.one (Cell.ow 3 (List.map eTimpl_Rule r))] [] := by
 refine Gives.intro func7 rfl rfl rfl rfl ?_; refine fx fun w0 T S0 ob oh hm => ?_
 have hF := fxe w0 T S0 28 ob oh
 unfold Fimpl_Joined at H; obtain ⟨K, hK⟩ := leK k; refine sr ?_; refine ag (L.nil ?_); refine WpC.seq (sr ?_); refine mv ?_; obtain ⟨r7, hr7, H⟩ := bindS H; refine c0 2 ent15 (g15 k true a0 r7 hr7) ?_; refine nt ?_; refine mv ?_; refine sH H (fun hc H => ?_) (fun hc H => ?_)
 ·(repeat refine of ?_); refine pk ?_; refine mv ?_; (repeat refine of ?_); refine pk (L.nil ?_); refine cT ?_; refine sr ?_; refine L.buildSliceN (e := eTimpl_Rule) 1 3 ([] : List Timpl_Rule) underlying24 info36 rfl rfl rfl hF rfl rfl rfl rfl rfl rfl rfl rfl ?_; refine ag (L.nil ?_); cases H; exact WpC.ret rt
 ·refine mv ?_; obtain ⟨r8, hr8, H⟩ := bindS H; refine c0 3 ent15 (g15 k true a1 r8 hr8) ?_; refine nt ?_; refine pk ?_; refine mv ?_; refine sH H (fun hc H => ?_) (fun hc H => ?_)
  ·(repeat refine of ?_); refine pk (L.nil ?_); refine cT ?_; refine sr ?_; refine L.buildSliceN (e := eTimpl_Rule) 1 4 ([] : List Timpl_Rule) underlying24 info36 rfl rfl rfl hF rfl rfl rfl rfl rfl rfl rfl rfl ?_; refine ag (L.nil ?_); cases H; exact WpC.ret rt
  ·refine mv ?_; refine L.lenR (xs := a0) (e := eTimpl_Rule) underlying24 hF rfl rfl rfl rfl ?_; refine mv ?_; refine L.lenR (xs := a1) (e := eTimpl_Rule) underlying24 hF rfl rfl rfl rfl ?_; refine bi ?_; refine bi ?_; refine pk (L.nil ?_); refine cd H (fun hc H => ?_) (fun hc H => ?_)
   ·refine sr ?_; refine L.buildSliceN (e := eTimpl_Rule) 1 4 ([] : List Timpl_Rule) underlying24 info36 rfl rfl rfl hF rfl rfl rfl rfl rfl rfl rfl rfl ?_; refine ag (L.nil ?_); cases H; exact WpC.ret rt
   ·refine WpC.skip (sr ?_); refine L.buildSliceN (e := eTimpl_Rule) 1 4 ([] : List Timpl_Rule) underlying24 info36 rfl rfl rfl hF rfl rfl rfl rfl rfl rfl rfl rfl ?_; refine mv ?_; obtain ⟨h9, H⟩ := condG H; refine L.le (Le.reE 23 0 rfl rfl reeTimpl_Rule) ?_; refine L.append (xs := ([] : List Timpl_Rule)) (ys := a0) (e := eTimpl_Rule_s) 5 underlying24 info36 rfl rfl hF rfl rfl rfl rfl rfl rfl rfl rfl (fun _ => rfl) (fun _ _ h1 h2 => by cases h1; cases h2; rfl) ⟨_, underlying24⟩ (of_decide_eq_true h9) rfl rfl ?_; refine mv ?_; obtain ⟨h10, H⟩ := condG H; refine L.le (Le.reE 25 0 rfl rfl reeTimpl_Rule) ?_; refine L.append (xs := (([] : List Timpl_Rule) ++ a0)) (ys := a1) (e := eTimpl_Rule_s) 6 underlying24 info36 rfl rfl hF rfl rfl rfl rfl rfl rfl rfl rfl (fun _ => rfl) (fun _ _ h1 h2 => by cases h1; cases h2; rfl) ⟨_, underlying24⟩ (of_decide_eq_true h10) rfl rfl ?_; refine L.le (Le.shareAll 6 rfl) ?_; refine L.le (Le.reE 26 0 rfl rfl reeTimpl_Rule_s) ?_; obtain ⟨r11, hr11, H⟩ := bindS H; refine c0 7 ent16 (g16 k true ((([] : List Timpl_Rule) ++ a0) ++ a1) r11 hr11) ?_; refine ag (L.nil ?_); cases H; exact WpC.ret rt
theorem g7 (k : Nat) (l0 l1 : Bool) (a0 a1 r : List Timpl_Rule) (H : Fimpl_Joined k a0 a1 = some r) : Gives Try.prog 7 [V.one (Cell.sl l0 (List.map eTimpl_Rule a0)), V.one (Cell.sl l1 (List.map eTimpl_Rule a1))] [] [V.one (Cell.ow 3 (List.map eTimpl_Rule r))] [] :=
 Gives.lend (Fimpl_Joined_t k a0 a1 r H) rfl rfl (by simp [V.solid, Cell.solid, csolid, rsolid, rsolid_map, eTimpl_Rule, eI, cI, cL, cS, im])
/-! ### Flaws_eqIntS -/
def Flaws_eqIntS.l2 : Nat → (List Int) → (List Int) → Int → Option Bool
 | 0, _, _, _ => none
 | k2 + 1, v34, v35, v36 => cond (decide (v36 < (v34.length : Int))) ((at? v34 v36).bind fun b39 => (at? v35 v36).bind fun b40 => cond (b39 != b40) (some false) ((Flaws_eqIntS.l2 k2) v34 v35 (IntKind.i64.wrap (v36 + 1)))) (some true)
def Flaws_eqIntS (k : Nat) (a0 a1 : List Int) : Option Bool := cond ((a0.length : Int) != (a1.length : Int)) (some false) (Flaws_eqIntS.l2 k a0 a1 0)
theorem ent29 : MG.Enters Try.prog 29 := ⟨Try.f29, func29, rfl, by decide⟩
theorem g29 (k : Nat) (g0 g1 : Bool) (a0 a1 : List Int) (r : Bool) (H : Flaws_eqIntS k a0 a1 = some r) : Gives Try.prog 29 [V.one (Cell.sl g0 (List.map eI a0)), V.one (Cell.sl g1 (List.map eI a1))] [] [V.one (cL r)] [] := by
 refine Gives.intro func29 rfl rfl rfl rfl ?_; refine fx fun w0 T S0 ob oh hm => ?_
 have hF := fxe w0 T S0 26 ob oh
 unfold Flaws_eqIntS at H; obtain ⟨K, hK⟩ := leK k; refine sr ?_; refine ag (L.nil ?_); refine WpC.seq (sr ?_); refine mv ?_; refine L.lenR (xs := a0) (e := eI) underlying31 hF rfl rfl rfl rfl ?_; refine mv ?_; refine L.lenR (xs := a1) (e := eI) underlying31 hF rfl rfl rfl rfl ?_; refine bi (L.nil ?_); refine cd H (fun hc H => ?_) (fun hc H => ?_)
 ·refine sr ?_; refine ag (L.nil ?_); cases H; exact WpC.ret rt
 ·refine WpC.skip (WpC.seq (sr ?_)); refine ag (L.nil ?_); refine WpC.block ?_; refine WpC.loopL (P := Try.prog) (fun n σ => ∃ (v34 v35 : List Int) (v36 : Int), n ≤ K ∧ Flaws_eqIntS.l2 n v34 v35 v36 = some r ∧ σ = mkSt [(0, MG.one (Cell.sl g0 (List.map eI v34))), (1, MG.one (Cell.sl g1 (List.map eI v35))), (5, oI v36)] [] [] 0) k ⟨_, ⟨a0, a1, 0, by omega, H, rfl⟩, lm [] hm⟩ ?_; clear H
  rintro k2 _ ⟨v34, v35, v36, hk2, H, rfl⟩
  cases k2 with
  | zero => cases H
  | succ k2 =>
   rw [Flaws_eqIntS.l2] at H
   refine WpC.seq (sr ?_); refine mv ?_; refine mv ?_; refine L.lenR (xs := v34) (e := eI) underlying31 hF rfl rfl rfl rfl ?_; refine bi (L.nil ?_); refine cd H (fun hc H => ?_) (fun hc H => ?_)
   ·refine WpC.skip (WpC.seq (WpC.block (WpC.seq ?_))); refine S.begin mixed (by kernel_rfl) ?_; refine S.st 0 rfl rfl ((Ca.move).quiet) (fun Q0 k0 => mv (L.nil k0)) ?_; refine S.st 1 rfl rfl ((Ca.move).quiet) (fun Q0 k0 => mv (L.nil k0)) ?_; obtain ⟨b39, hb39, H⟩ := bindS H; refine S.st 2 rfl rfl ((Ca.indexAddr).quiet) (fun Q0 k0 => ix underlying31 info3 hb39 (L.nil k0)) ?_; refine S.st 3 rfl rfl (Qu.load) (fun Q0 k0 => le shape3 (L.nil k0)) ?_; refine S.st 4 rfl rfl ((Ca.move).quiet) (fun Q0 k0 => mv (L.nil k0)) ?_; refine S.st 5 rfl rfl ((Ca.move).quiet) (fun Q0 k0 => mv (L.nil k0)) ?_; obtain ⟨b40, hb40, H⟩ := bindS H; refine S.st 6 rfl rfl ((Ca.indexAddr).quiet) (fun Q0 k0 => ix underlying31 info3 hb40 (L.nil k0)) ?_; refine S.st 7 rfl rfl (Qu.load) (fun Q0 k0 => le shape3 (L.nil k0)) ?_; refine S.st 8 rfl rfl ((Ca.bin rfl rfl (calm_int _ _ _ _ _ _ _ _)).quiet) (fun Q0 k0 => bi (L.nil k0)) ?_; refine S.nil ?_; refine cd H (fun hc H => ?_) (fun hc H => ?_)
    ·refine sr ?_; refine ag (L.nil ?_); cases H; exact WpC.ret rt
    ·refine WpC.skip (WpC.regionL ?_); refine mv ?_; refine bi ?_; refine ag (L.nil ?_); exact ⟨k2, _, by omega, ⟨v34, v35, (IntKind.i64.wrap (v36 + 1)), by omega, H, rfl⟩, lm [] hm⟩
   ·refine WpC.exit (sr ?_); refine ag (L.nil ?_); cases H; exact WpC.ret rt
/-! ### Flaws_eqRule -/
def Flaws_eqRule (k : Nat) (a0 a1 : Timpl_Rule) : Option Bool := cond (a0.Kind != a1.Kind) (some false) ((Flaws_eqIntS k a0.Set a1.Set).bind fun r2 => cond (!r2) (some false) (cond (a0.N != a1.N) (some false) (some true)))
theorem ent17 : MG.Enters Try.prog 17 := ⟨Try.f17, func17, rfl, by decide⟩
theorem g17 (k : Nat) (g0 g1 : Bool) (a0 a1 : Timpl_Rule) (r : Bool) (H : Flaws_eqRule k a0 a1 = some r) : Gives Try.prog 17 [V.agg (bTimpl_Rule g0 a0), V.agg (bTimpl_Rule g1 a1)] [] [V.one (cL r)] [] := by
 refine Gives.intro func17 rfl rfl rfl rfl ?_; refine fx fun w0 T S0 ob oh hm => ?_
 have hF := fxe w0 T S0 21 ob oh
 unfold Flaws_eqRule at H; obtain ⟨K, hK⟩ := leK k; refine sr ?_; refine bo 6 ?_; refine bo 7 ?_; refine ag (L.nil ?_); refine WpC.seq (sr ?_); refine fa underlying36 info3 ?_; refine lp shape3 ?_; refine fa underlying36 info3 ?_; refine lp shape3 ?_; refine bi (L.nil ?_); refine cd H (fun hc H => ?_) (fun hc H => ?_)
 ·refine sr ?_; refine ag (L.nil ?_); cases H; exact WpC.ret rt
 ·refine WpC.skip (WpC.seq (sr ?_)); refine fa underlying36 info31 ?_; refine lp shape31 ?_; refine fa underlying36 info31 ?_; refine lp shape31 ?_; obtain ⟨r2, hr2, H⟩ := bindS H; refine c0 8 ent29 (g29 k g0 g1 a0.Set a1.Set r2 hr2) ?_; refine nt (L.nil ?_); refine cd H (fun hc H => ?_) (fun hc H => ?_)
  ·refine sr ?_; refine ag (L.nil ?_); cases H; exact WpC.ret rt
  ·refine WpC.skip (WpC.seq (sr ?_)); refine fa underlying36 info3 ?_; refine lp shape3 ?_; refine fa underlying36 info3 ?_; refine lp shape3 ?_; refine bi (L.nil ?_); refine cd H (fun hc H => ?_) (fun hc H => ?_)
   ·refine sr ?_; refine ag (L.nil ?_); cases H; exact WpC.ret rt
   ·refine WpC.skip (sr ?_); refine ag (L.nil ?_); cases H; exact WpC.ret rt
/-! ### Flaws_eqRuleS -/
def Flaws_eqRuleS.l2 : Nat → (List Timpl_Rule) → (List Timpl_Rule) → Int → Option Bool
 | 0, _, _, _ => none
 | k2 + 1, v44, v45, v46 => cond (decide (v46 < (v44.length : Int))) ((at? v44 v46).bind fun b50 => (at? v45 v46).bind fun b51 => (Flaws_eqRule k2 b50 b51).bind fun r52 => cond (!r52) (some false) ((Flaws_eqRuleS.l2 k2) v44 v45 (IntKind.i64.wrap (v46 + 1)))) (some true)
def Flaws_eqRuleS (k : Nat) (a0 a1 : List Timpl_Rule) : Option Bool := cond ((a0.length : Int) != (a1.length : Int)) (some false) (Flaws_eqRuleS.l2 k a0 a1 0)
theorem ent8 : MG.Enters Try.prog 8 := ⟨Try.f8, func8, rfl, by decide⟩
theorem g8 (k : Nat) (g0 g1 : Bool) (a0 a1 : List Timpl_Rule) (r : Bool) (H : Flaws_eqRuleS k a0 a1 = some r) : Gives Try.prog 8 [V.one (Cell.sl g0 (List.map eTimpl_Rule a0)), V.one (Cell.sl g1 (List.map eTimpl_Rule a1))] [] [V.one (cL r)] [] := by
 refine Gives.intro func8 rfl rfl rfl rfl ?_; refine fx fun w0 T S0 ob oh hm => ?_
 have hF := fxe w0 T S0 27 ob oh
 unfold Flaws_eqRuleS at H; obtain ⟨K, hK⟩ := leK k; refine sr ?_; refine ag (L.nil ?_); refine WpC.seq (sr ?_); refine mv ?_; refine L.lenR (xs := a0) (e := eTimpl_Rule) underlying24 hF rfl rfl rfl rfl ?_; refine mv ?_; refine L.lenR (xs := a1) (e := eTimpl_Rule) underlying24 hF rfl rfl rfl rfl ?_; refine bi (L.nil ?_); refine cd H (fun hc H => ?_) (fun hc H => ?_)
 ·refine sr ?_; refine ag (L.nil ?_); cases H; exact WpC.ret rt
 ·refine WpC.skip (WpC.seq (sr ?_)); refine ag (L.nil ?_); refine WpC.block ?_; refine WpC.loopL (P := Try.prog) (fun n σ => ∃ (v44 v45 : List Timpl_Rule) (v46 : Int), n ≤ K ∧ Flaws_eqRuleS.l2 n v44 v45 v46 = some r ∧ σ = mkSt [(0, MG.one (Cell.sl g0 (List.map eTimpl_Rule v44))), (1, MG.one (Cell.sl g1 (List.map eTimpl_Rule v45))), (5, oI v46)] [] [] 0) k ⟨_, ⟨a0, a1, 0, by omega, H, rfl⟩, lm [] hm⟩ ?_; clear H
  rintro k2 _ ⟨v44, v45, v46, hk2, H, rfl⟩
  cases k2 with
  | zero => cases H
  | succ k2 =>
   rw [Flaws_eqRuleS.l2] at H
   refine WpC.seq (sr ?_); refine mv ?_; refine mv ?_; refine L.lenR (xs := v44) (e := eTimpl_Rule) underlying24 hF rfl rfl rfl rfl ?_; refine bi (L.nil ?_); refine cd H (fun hc H => ?_) (fun hc H => ?_)
   ·refine WpC.skip (WpC.seq (WpC.block (WpC.seq ?_))); obtain ⟨b50, hb50, H⟩ := bindS H; obtain ⟨b51, hb51, H⟩ := bindS H; obtain ⟨r52, hr52, H⟩ := bindS H; refine A.begin mixed rfl rfl ?_; intro W hI hO
    have n255 : W 2 #[true, true, true, true, true, true, true, true, false, false] (mkSt [(0, MG.one (Cell.sl g0 (List.map eTimpl_Rule v44))), (1, MG.one (Cell.sl g1 (List.map eTimpl_Rule v45))), (5, oI v46), (20, agg (bTimpl_Rule g0 b50)), (24, agg (bTimpl_Rule g1 b51))] [] [] 0) := by
     refine hI _ _ _ ?_; refine A.all [8] (by kernel_rfl) rfl ⟨⟨_, rfl, ?_⟩, trivial⟩; refine c0 0 ent17 (g17 k2 g0 g1 b50 b51 r52 hr52) (L.nil ?_); refine Atk 9 rfl (Ca.un rfl rfl) (fun Q0 k0 => nt (L.nil k0)) ?_; refine A.le (τ := mkSt [(0, MG.one (Cell.sl g0 (List.map eTimpl_Rule v44))), (1, MG.one (Cell.sl g1 (List.map eTimpl_Rule v45))), (5, oI v46), (26, oL (!r52))] [] [] 0) (lm [] hm) ?_; refine A.done (by kernel_rfl) ?_; refine cd H (fun hc H => ?_) (fun hc H => ?_)
     ·refine sr ?_; refine ag (L.nil ?_); cases H; exact WpC.ret rt
     ·refine WpC.skip (WpC.regionL ?_); refine mv ?_; refine bi ?_; refine ag (L.nil ?_); exact ⟨k2, _, by omega, ⟨v44, v45, (IntKind.i64.wrap (v46 + 1)), by omega, H, rfl⟩, lm [] hm⟩
    refine hI _ _ _ ?_; refine tM 0 ?_; refine tM 1 ?_; refine Atk 2 rfl (Ca.indexAddr) (fun Q0 k0 => ix underlying24 info36 hb50 (L.nil k0)) ?_; refine tM 4 ?_; refine tM 5 ?_; refine Atk 6 rfl (Ca.indexAddr) (fun Q0 k0 => ix underlying24 info36 hb51 (L.nil k0)) ?_; refine A.all [3, 7] (by kernel_rfl) rfl ⟨⟨_, rfl, ?_⟩, ⟨_, rfl, ?_⟩, trivial⟩
    ·refine le shape36 (L.nil ?_); refine A.all [7] (by kernel_rfl) rfl ⟨⟨_, rfl, ?_⟩, trivial⟩; refine le shape36 (L.nil ?_); exact A.on (hO _ _ _ n255) (lm [] hm)
    ·refine le shape36 (L.nil ?_); refine A.all [3] (by kernel_rfl) rfl ⟨⟨_, rfl, ?_⟩, trivial⟩; refine le shape36 (L.nil ?_); exact A.on (hO _ _ _ n255) (lm [] hm)
   ·refine WpC.exit (sr ?_); refine ag (L.nil ?_); cases H; exact WpC.ret rt
/-! ### Flaws_markIntS -/
def Flaws_markIntS.l2 : Nat → (List Int) → Int → Int → Option (Int × List Int)
 | 0, _, _, _ => none
 | k2 + 1, v24, v25, v26 => cond (decide (v26 < (v24.length : Int))) ((at? v24 v26).bind fun b28 => (Flaws_markIntS.l2 k2) (v24.set v26.toNat v25) (IntKind.i64.wrap (v25 + 1)) (IntKind.i64.wrap (v26 + 1))) (some (v25, v24))
def Flaws_markIntS (k : Nat) (a0 : List Int) (a1 : Int) : Option (Int × List Int) := Flaws_markIntS.l2 k a0 a1 0
theorem ent18 : MG.Enters Try.prog 18 := ⟨Try.f18, func18, rfl, by decide⟩
theorem g18 (k : Nat) (a0 : List Int) (a1 : Int) (r : Int × List Int) (H : Flaws_markIntS k a0 a1 = some r) : GivesB Try.prog 18 [V.one (Cell.ow 1 (List.map eI a0)), V.one (cI a1)] [] [0] [V.one (cI r.1)] [] [V.one (Cell.ow 1 (List.map eI r.2))] := by
 refine GivesB.intro func18 rfl rfl rfl rfl rfl rfl ?_; refine fx fun w0 T S0 ob oh hm => ?_
 have hF := fxe w0 T S0 19 ob oh
 unfold Flaws_markIntS at H; obtain ⟨K, hK⟩ := leK k; refine sr ?_; refine ag (L.nil ?_); refine WpC.seq (sr ?_); refine ag (L.nil ?_); refine WpC.block ?_; refine WpC.loopL (P := Try.prog) (fun n σ => ∃ (v24 : List Int) (v25 v26 : Int), n ≤ K ∧ Flaws_markIntS.l2 n v24 v25 v26 = some r ∧ σ = mkSt [(0, MG.one (Cell.own 0)), (1, oI v25), (5, oI v26)] [(0, ⟨1, List.map eI v24⟩)] [] 2) k ⟨_, ⟨a0, a1, 0, by omega, H, rfl⟩, lm [(0, 0)] hm⟩ ?_; clear H
 rintro k2 _ ⟨v24, v25, v26, hk2, H, rfl⟩
 cases k2 with
 | zero => cases H
 | succ k2 =>
  rw [Flaws_markIntS.l2] at H
  refine WpC.seq (sr ?_); refine mv ?_; refine mv ?_; refine L.lenR (xs := v24) (e := eI) underlying31 hF rfl rfl rfl rfl ?_; refine bi (L.nil ?_); refine cd H (fun hc H => ?_) (fun hc H => ?_)
  ·refine WpC.skip (WpC.seq (WpC.block (sr ?_))); refine mv ?_; refine mv ?_; refine mv ?_; obtain ⟨b28, hb28, H⟩ := bindS H; refine ix underlying31 info3 hb28 ?_; refine L.storeEp (xs := v24) (e := eI) (a' := v25) shape3 hF rfl rfl rfl rfl rfl rfl rfl (at?_get hb28).2 rfl rfl ?_; refine L.nil ?_; refine WpC.regionL ?_; refine mv ?_; refine bi ?_; refine ag (L.nil ?_); refine WpC.regionL ?_; refine mv ?_; refine bi ?_; refine ag (L.nil ?_); exact ⟨k2, _, by omega, ⟨(v24.set v26.toNat v25), (IntKind.i64.wrap (v25 + 1)), (IntKind.i64.wrap (v26 + 1)), by omega, H, rfl⟩, lm [(0, 0)] hm⟩
  ·refine WpC.exit (sr ?_); refine mv ?_; refine ag (L.nil ?_); refine WpC.ret ?_; cases H; exact Leaves.retB rfl rfl rfl rfl ⟨rfl, rfl, rfl⟩
/-! ### Flaws_markRuleS -/
def Flaws_markRuleS.l2 : Nat → (List Timpl_Rule) → Int → Int → Option (Int × List Timpl_Rule)
 | 0, _, _, _ => none
 | k2 + 1, v54, v55, v56 => cond (decide (v56 < (v54.length : Int))) ((at? v54 v56).bind fun b61 => (at? (v54.set v56.toNat (⟨v55, b61.Set, b61.N⟩ : Timpl_Rule)) v56).bind fun b62 => (Flaws_markIntS k2 b62.Set (IntKind.i64.wrap (v55 + 1))).bind fun r63 => (at? (v54.set v56.toNat (⟨b62.Kind, r63.2, b62.N⟩ : Timpl_Rule)) v56).bind fun b64 => (Flaws_markRuleS.l2 k2) (v54.set v56.toNat (⟨b64.Kind, b64.Set, r63.1⟩ : Timpl_Rule)) (IntKind.i64.wrap (r63.1 + 1)) (IntKind.i64.wrap (v56 + 1))) (some (v55, v54))
def Flaws_markRuleS (k : Nat) (a0 : List Timpl_Rule) (a1 : Int) : Option (Int × List Timpl_Rule) := Flaws_markRuleS.l2 k a0 a1 0
theorem ent9 : MG.Enters Try.prog 9 := ⟨Try.f9, func9, rfl, by decide⟩
theorem g9 (k : Nat) (a0 : List Timpl_Rule) (a1 : Int) (r : Int × List Timpl_Rule) (H : Flaws_markRuleS k a0 a1 = some r) : GivesB Try.prog 9 [V.one (Cell.ow 3 (List.map eTimpl_Rule a0)), V.one (cI a1)] [] [0] [V.one (cI r.1)] [] [V.one (Cell.ow 3 (List.map eTimpl_Rule r.2))] := by
 refine GivesB.intro func9 rfl rfl rfl rfl rfl rfl ?_; refine fx fun w0 T S0 ob oh hm => ?_
 have hF := fxe w0 T S0 34 ob oh
 unfold Flaws_markRuleS at H; obtain ⟨K, hK⟩ := leK k; refine sr ?_; refine ag (L.nil ?_); refine WpC.seq (sr ?_); refine ag (L.nil ?_); refine WpC.block ?_; refine WpC.loopL (P := Try.prog) (fun n σ => ∃ (v54 : List Timpl_Rule) (v55 v56 : Int), n ≤ K ∧ Flaws_markRuleS.l2 n v54 v55 v56 = some r ∧ σ = mkSt [(0, MG.one (Cell.own 0)), (1, oI v55), (5, oI v56)] [(0, ⟨3, List.map eTimpl_Rule v54⟩)] [] 2) k ⟨_, ⟨a0, a1, 0, by omega, H, rfl⟩, lm [(0, 0)] hm⟩ ?_; clear H
 rintro k2 _ ⟨v54, v55, v56, hk2, H, rfl⟩
 cases k2 with
 | zero => cases H
 | succ k2 =>
  rw [Flaws_markRuleS.l2] at H
  refine WpC.seq (sr ?_); refine mv ?_; refine mv ?_; refine L.lenR (xs := v54) (e := eTimpl_Rule) underlying24 hF rfl rfl rfl rfl ?_; refine bi (L.nil ?_); refine cd H (fun hc H => ?_) (fun hc H => ?_)
  ·refine WpC.skip (WpC.seq (WpC.block (sr ?_))); refine mv ?_; refine mv ?_; refine mv ?_; obtain ⟨b61, hb61, H⟩ := bindS H; refine ix underlying24 info36 hb61 ?_; refine fa underlying36 info3 ?_; refine L.storeEp (xs := v54) (e := eTimpl_Rule) (a' := (⟨v55, b61.Set, b61.N⟩ : Timpl_Rule)) shape3 hF rfl rfl rfl rfl rfl rfl rfl (at?_get hb61).2 rfl rfl ?_; refine L.nil ?_; refine sr ?_; refine mv ?_; refine bi ?_; refine ag (L.nil ?_); refine sr ?_; refine mv ?_; refine mv ?_; obtain ⟨b62, hb62, H⟩ := bindS H; refine ix underlying24 info36 hb62 ?_; refine fa underlying36 info31 ?_; refine L.out (xs := (v54.set v56.toNat (⟨v55, b61.Set, b61.N⟩ : Timpl_Rule))) (e := eTimpl_Rule) (a := b62) 0 v56.toNat 1 2 rfl (at?_get hb62).2 rfl rfl (fun ub62 => ?_); refine L.loadEpR (xs := (v54.set v56.toNat (⟨v55, b61.Set, b61.N⟩ : Timpl_Rule))) (e := eTimpl_Rule) 1 2 shape31 hF rfl rfl rfl rfl (at?_get hb62).2 rfl rfl rfl rfl rfl ?_; refine mv ?_; obtain ⟨r63, hr63, H⟩ := bindS H; refine L.callB [true, false] [] [] 3 [0] hF rfl rfl rfl ent18 rfl rfl rfl rfl rfl (g18 k2  b62.Set (IntKind.i64.wrap (v55 + 1)) r63 hr63) rfl rfl rfl ?_; refine ag ?_; refine L.le ((Le.back (xs := (v54.set v56.toNat (⟨v55, b61.Set, b61.N⟩ : Timpl_Rule))) (e := eTimpl_Rule) (a' := (⟨b62.Kind, r63.2, b62.N⟩ : Timpl_Rule)) 0 v56.toNat 1 2 rfl (at?_get hb62).2 rfl rfl rfl rfl rfl).trans (Le.ss 0 rfl)) ?_; refine L.nil ?_
   refine sr ?_; refine mv ?_; refine mv ?_; refine mv ?_; obtain ⟨b64, hb64, H⟩ := bindS H; refine ix underlying24 info36 hb64 ?_; refine fa underlying36 info3 ?_; refine L.storeEp (xs := (v54.set v56.toNat (⟨b62.Kind, r63.2, b62.N⟩ : Timpl_Rule))) (e := eTimpl_Rule) (a' := (⟨b64.Kind, b64.Set, r63.1⟩ : Timpl_Rule)) shape3 hF rfl rfl rfl rfl rfl rfl rfl (at?_get hb64).2 rfl rfl ?_; refine L.le (Le.ss 0 rfl) (L.nil ?_); refine WpC.regionL ?_; refine mv ?_; refine bi ?_; refine ag (L.nil ?_); refine WpC.regionL ?_; refine mv ?_; refine bi ?_; refine ag (L.nil ?_); exact ⟨k2, _, by omega, ⟨(v54.set v56.toNat (⟨b64.Kind, b64.Set, r63.1⟩ : Timpl_Rule)), (IntKind.i64.wrap (r63.1 + 1)), (IntKind.i64.wrap (v56 + 1)), by omega, H, rfl⟩, lm [(0, 0)] hm⟩
  ·refine WpC.exit (sr ?_); refine mv ?_; refine ag (L.nil ?_); refine WpC.ret ?_; cases H; exact Leaves.retB rfl rfl rfl rfl ⟨rfl, rfl, rfl⟩
/-! ### Flaws_heldIntS -/
def Flaws_heldIntS.l2 : Nat → (List Int) → Int → Int → Option Int
 | 0, _, _, _ => none
 | k2 + 1, v34, v35, v36 => cond (decide (v36 < (v34.length : Int))) ((at? v34 v36).bind fun b40 => cond (b40 != v35) (some (-1)) ((Flaws_heldIntS.l2 k2) v34 (IntKind.i64.wrap (v35 + 1)) (IntKind.i64.wrap (v36 + 1)))) (some v35)
def Flaws_heldIntS (k : Nat) (a0 : List Int) (a1 : Int) : Option Int := Flaws_heldIntS.l2 k a0 a1 0
theorem ent19 : MG.Enters Try.prog 19 := ⟨Try.f19, func19, rfl, by decide⟩
theorem g19 (k : Nat) (g0 : Bool) (a0 : List Int) (a1 r : Int) (H : Flaws_heldIntS k a0 a1 = some r) : Gives Try.prog 19 [V.one (Cell.sl g0 (List.map eI a0)), V.one (cI a1)] [] [V.one (cI r)] [] := by
 refine Gives.intro func19 rfl rfl rfl rfl ?_; refine fx fun w0 T S0 ob oh hm => ?_
 have hF := fxe w0 T S0 21 ob oh
 unfold Flaws_heldIntS at H; obtain ⟨K, hK⟩ := leK k; refine sr ?_; refine ag (L.nil ?_); refine WpC.seq (sr ?_); refine ag (L.nil ?_); refine WpC.block ?_; refine WpC.loopL (P := Try.prog) (fun n σ => ∃ (v34 : List Int) (v35 v36 : Int), n ≤ K ∧ Flaws_heldIntS.l2 n v34 v35 v36 = some r ∧ σ = mkSt [(0, MG.one (Cell.sl g0 (List.map eI v34))), (1, oI v35), (5, oI v36)] [] [] 0) k ⟨_, ⟨a0, a1, 0, by omega, H, rfl⟩, lm [] hm⟩ ?_; clear H
 rintro k2 _ ⟨v34, v35, v36, hk2, H, rfl⟩
 cases k2 with
 | zero => cases H
 | succ k2 =>
  rw [Flaws_heldIntS.l2] at H
  refine WpC.seq (sr ?_); refine mv ?_; refine mv ?_; refine L.lenR (xs := v34) (e := eI) underlying31 hF rfl rfl rfl rfl ?_; refine bi (L.nil ?_); refine cd H (fun hc H => ?_) (fun hc H => ?_)
  ·refine WpC.skip (WpC.seq (WpC.block (WpC.seq (sr ?_)))); refine mv ?_; refine mv ?_; obtain ⟨b40, hb40, H⟩ := bindS H; refine ix underlying31 info3 hb40 ?_; refine le shape3 ?_; refine mv ?_; refine bi (L.nil ?_); refine cd H (fun hc H => ?_) (fun hc H => ?_)
   ·refine sr ?_; refine ag (L.nil ?_); cases H; exact WpC.ret rt
   ·refine WpC.skip (WpC.regionL ?_); refine mv ?_; refine bi ?_; refine ag (L.nil ?_); refine WpC.regionL ?_; refine mv ?_; refine bi ?_; refine ag (L.nil ?_); exact ⟨k2, _, by omega, ⟨v34, (IntKind.i64.wrap (v35 + 1)), (IntKind.i64.wrap (v36 + 1)), by omega, H, rfl⟩, lm [] hm⟩
  ·refine WpC.exit (sr ?_); refine mv ?_; refine ag (L.nil ?_); cases H; exact WpC.ret rt
/-! ### Flaws_heldRuleS -/
def Flaws_heldRuleS.l2 : Nat → (List Timpl_Rule) → Int → Int → Option Int
 | 0, _, _, _ => none
 | k2 + 1, v74, v75, v76 => cond (decide (v76 < (v74.length : Int))) ((at? v74 v76).bind fun b84 => cond (b84.Kind != v75) (some (-1)) ((at? v74 v76).bind fun b85 => (Flaws_heldIntS k2 b85.Set (IntKind.i64.wrap (v75 + 1))).bind fun r86 => cond (decide (r86 < 0)) (some (-1)) ((at? v74 v76).bind fun b88 => cond (b88.N != r86) (some (-1)) ((Flaws_heldRuleS.l2 k2) v74 (IntKind.i64.wrap (r86 + 1)) (IntKind.i64.wrap (v76 + 1)))))) (some v75)
def Flaws_heldRuleS (k : Nat) (a0 : List Timpl_Rule) (a1 : Int) : Option Int := Flaws_heldRuleS.l2 k a0 a1 0
theorem ent10 : MG.Enters Try.prog 10 := ⟨Try.f10, func10, rfl, by decide⟩
theorem g10 (k : Nat) (g0 : Bool) (a0 : List Timpl_Rule) (a1 r : Int) (H : Flaws_heldRuleS k a0 a1 = some r) : Gives Try.prog 10 [V.one (Cell.sl g0 (List.map eTimpl_Rule a0)), V.one (cI a1)] [] [V.one (cI r)] [] := by
 refine Gives.intro func10 rfl rfl rfl rfl ?_; refine fx fun w0 T S0 ob oh hm => ?_
 have hF := fxe w0 T S0 40 ob oh
 unfold Flaws_heldRuleS at H; obtain ⟨K, hK⟩ := leK k; refine sr ?_; refine ag (L.nil ?_); refine WpC.seq (sr ?_); refine ag (L.nil ?_); refine WpC.block ?_; refine WpC.loopL (P := Try.prog) (fun n σ => ∃ (v74 : List Timpl_Rule) (v75 v76 : Int), n ≤ K ∧ Flaws_heldRuleS.l2 n v74 v75 v76 = some r ∧ σ = mkSt [(0, MG.one (Cell.sl g0 (List.map eTimpl_Rule v74))), (1, oI v75), (5, oI v76)] [] [] 0) k ⟨_, ⟨a0, a1, 0, by omega, H, rfl⟩, lm [] hm⟩ ?_; clear H
 rintro k2 _ ⟨v74, v75, v76, hk2, H, rfl⟩
 cases k2 with
 | zero => cases H
 | succ k2 =>
  rw [Flaws_heldRuleS.l2] at H
  refine WpC.seq (sr ?_); refine mv ?_; refine mv ?_; refine L.lenR (xs := v74) (e := eTimpl_Rule) underlying24 hF rfl rfl rfl rfl ?_; refine bi (L.nil ?_); refine cd H (fun hc H => ?_) (fun hc H => ?_)
  ·refine WpC.skip (WpC.seq (WpC.block (WpC.seq (sr ?_)))); refine mv ?_; refine mv ?_; obtain ⟨b84, hb84, H⟩ := bindS H; refine ix underlying24 info36 hb84 ?_; refine fa underlying36 info3 ?_; refine le shape3 ?_; refine mv ?_; refine bi (L.nil ?_); refine cd H (fun hc H => ?_) (fun hc H => ?_)
   ·refine sr ?_; refine ag (L.nil ?_); cases H; exact WpC.ret rt
   ·refine WpC.skip (sr ?_); refine mv ?_; refine bi ?_; refine ag (L.nil ?_); refine sr ?_; refine mv ?_; refine mv ?_; obtain ⟨b85, hb85, H⟩ := bindS H; refine ix underlying24 info36 hb85 ?_; refine fa underlying36 info31 ?_; refine le shape31 ?_; refine mv ?_; obtain ⟨r86, hr86, H⟩ := bindS H; refine c0 0 ent19 (g19 k2 g0 b85.Set (IntKind.i64.wrap (v75 + 1)) r86 hr86) ?_; refine ag (L.nil ?_); refine WpC.seq (sr ?_); refine mv ?_; refine bi (L.nil ?_); refine cd H (fun hc H => ?_) (fun hc H => ?_)
    ·refine sr ?_; refine ag (L.nil ?_); cases H; exact WpC.ret rt
    ·refine WpC.skip (WpC.seq (sr ?_)); refine mv ?_; refine mv ?_; obtain ⟨b88, hb88, H⟩ := bindS H; refine ix underlying24 info36 hb88 ?_; refine fa underlying36 info3 ?_; refine le shape3 ?_; refine mv ?_; refine bi (L.nil ?_); refine cd H (fun hc H => ?_) (fun hc H => ?_)
     ·refine sr ?_; refine ag (L.nil ?_); cases H; exact WpC.ret rt
     ·refine WpC.skip (WpC.regionL ?_); refine mv ?_; refine bi ?_; refine ag (L.nil ?_); refine WpC.regionL ?_; refine mv ?_; refine bi ?_; refine ag (L.nil ?_); exact ⟨k2, _, by omega, ⟨v74, (IntKind.i64.wrap (r86 + 1)), (IntKind.i64.wrap (v76 + 1)), by omega, H, rfl⟩, lm [] hm⟩
  ·refine WpC.exit (sr ?_); refine mv ?_; refine ag (L.nil ?_); cases H; exact WpC.ret rt
/-! ### Flaws_FnExactJoined -/
def Flaws_FnExactJoined (k : Nat) (a0 a1 : List Tlaws_Rule) : Option Bool := (Flaws_szRuleS k a0 1048576).bind fun r1 => cond (decide (r1 < 0)) (some true) ((Flaws_szRuleS k a1 r1).bind fun r2 => cond (decide (r2 < 0)) (some true) ((Flaws_toRuleS k a0).bind fun r3 => (Flaws_toRuleS k a1).bind fun r4 => (Fspec_Joined k r3 r4).bind fun r5 => (Flaws_toRuleS k a0).bind fun r6 => (Flaws_toRuleS k a1).bind fun r7 => (Fimpl_Joined k r6 r7).bind fun r8 => (Flaws_eqRuleS k r8 r5).bind fun r10 => cond (!r10) (some false) ((Flaws_toRuleS k a0).bind fun r13 => (Flaws_eqRuleS k r6 r13).bind fun r14 => cond (!r14) (some false) ((Flaws_toRuleS k a1).bind fun r17 => (Flaws_eqRuleS k r7 r17).bind fun r18 => cond (!r18) (some false) ((Flaws_markRuleS k r6 1).bind fun r19 => (Flaws_markRuleS k r7 r19.1).bind fun r20 => cond (decide (r20.1 < 0)) (some false) ((Flaws_eqRuleS k r8 r5).bind fun r24 => cond (!r24) (some false) ((Flaws_markRuleS k r8 1).bind fun r25 => (Flaws_heldRuleS k r25.2 1).bind fun r26 => cond (decide (r26 < 0)) (some false) (cond (r26 != r25.1) (some false) ((Flaws_toRuleS k a0).bind fun r27 => (Flaws_toRuleS k a1).bind fun r28 => (Fimpl_Joined k r27 r28).bind fun r29 => (Flaws_eqRuleS k r29 r5).bind fun r31 => cond (!r31) (some false) ((Flaws_heldRuleS k r25.2 1).bind fun r32 => cond (decide (r32 < 0)) (some false) (cond (r32 != r25.1) (some false) (some true))))))))))))
theorem ent3 : MG.Enters Try.prog 3 := ⟨Try.f3, func3, rfl, by decide⟩
theorem g3 (k : Nat) (g0 g1 : Bool) (a0 a1 : List Tlaws_Rule) (r : Bool) (H : Flaws_FnExactJoined k a0 a1 = some r) : Gives Try.prog 3 [V.one (Cell.sl g0 (List.map eTlaws_Rule a0)), V.one (Cell.sl g1 (List.map eTlaws_Rule a1))] [] [V.one (cL r)] [] := by
 refine Gives.intro func3 rfl rfl rfl rfl ?_; refine fx fun w0 T S0 ob oh hm => ?_
 have hF := fxe w0 T S0 92 ob oh
 unfold Flaws_FnExactJoined at H; obtain ⟨K, hK⟩ := leK k; refine sr ?_; refine ag (L.nil ?_); refine sr ?_; refine ag (L.nil ?_); refine sr ?_; refine mv ?_; refine mv ?_; obtain ⟨r1, hr1, H⟩ := bindS H; refine c0 2 ent4 (g4 k g0 a0 1048576 r1 hr1) ?_; refine ag (L.nil ?_); refine WpC.seq (sr ?_); refine mv ?_; refine bi (L.nil ?_); refine cd H (fun hc H => ?_) (fun hc H => ?_)
 ·refine sr ?_; refine ag (L.nil ?_); cases H; exact WpC.ret rt
 ·refine WpC.skip (sr ?_); refine mv ?_; refine mv ?_; obtain ⟨r2, hr2, H⟩ := bindS H; refine c0 3 ent4 (g4 k g1 a1 r1 r2 hr2) ?_; refine ag (L.nil ?_); refine WpC.seq (sr ?_); refine mv ?_; refine bi (L.nil ?_); refine cd H (fun hc H => ?_) (fun hc H => ?_)
  ·refine sr ?_; refine ag (L.nil ?_); cases H; exact WpC.ret rt
  ·refine WpC.skip (sr ?_); refine mv ?_; obtain ⟨r3, hr3, H⟩ := bindS H; refine c0 4 ent6 (g6 k g0 a0 r3 hr3) ?_; refine mv ?_; obtain ⟨r4, hr4, H⟩ := bindS H; refine c0 5 ent6 (g6 k g1 a1 r4 hr4) ?_; refine L.le (Le.shareAll 4 rfl) ?_; refine L.le (Le.shareAll 5 rfl) ?_; obtain ⟨r5, hr5, H⟩ := bindS H; refine c0 6 ent5 (g5 k  r3 r4 r5 hr5) ?_; refine ag (L.nil ?_); refine sr ?_; refine mv ?_; obtain ⟨r6, hr6, H⟩ := bindS H; refine c0 7 ent6 (g6 k g0 a0 r6 hr6) ?_; refine ag (L.nil ?_); refine sr ?_; refine mv ?_; obtain ⟨r7, hr7, H⟩ := bindS H; refine c0 8 ent6 (g6 k g1 a1 r7 hr7) ?_; refine ag (L.nil ?_); refine sr ?_; refine mv ?_; refine mv ?_; obtain ⟨r8, hr8, H⟩ := bindS H; refine ca [false, false] [7, 8] [] 9 ent7 (g7 k false false r6 r7 r8 hr8) ?_; refine ag (L.nil ?_); refine WpC.seq (sr ?_); refine mv ?_; refine mv ?_; obtain ⟨r10, hr10, H⟩ := bindS H; refine ca [false, false] [9, 6] [] 10 ent8 (g8 k false false r8 r5 r10 hr10) ?_; refine nt (L.nil ?_); refine cd H (fun hc H => ?_) (fun hc H => ?_)
   ·refine sr ?_; refine ag (L.nil ?_); cases H; exact WpC.ret rt
   ·refine WpC.skip (WpC.seq (sr ?_)); refine mv ?_; refine mv ?_; obtain ⟨r13, hr13, H⟩ := bindS H; refine c0 11 ent6 (g6 k g0 a0 r13 hr13) ?_; obtain ⟨r14, hr14, H⟩ := bindS H; refine ca [false, false] [7, 11] [] 12 ent8 (g8 k false false r6 r13 r14 hr14) ?_; refine nt (L.nil ?_); refine cd H (fun hc H => ?_) (fun hc H => ?_)
    ·refine sr ?_; refine ag (L.nil ?_); cases H; exact WpC.ret rt
    ·refine WpC.skip (WpC.seq (sr ?_)); refine mv ?_; refine mv ?_; obtain ⟨r17, hr17, H⟩ := bindS H; refine c0 13 ent6 (g6 k g1 a1 r17 hr17) ?_; obtain ⟨r18, hr18, H⟩ := bindS H; refine ca [false, false] [8, 13] [] 14 ent8 (g8 k false false r7 r17 r18 hr18) ?_; refine nt (L.nil ?_); refine cd H (fun hc H => ?_) (fun hc H => ?_)
     ·refine sr ?_; refine ag (L.nil ?_); cases H; exact WpC.ret rt
     ·refine WpC.skip (sr ?_); refine ag (L.nil ?_); refine sr ?_; refine mv ?_; refine mv ?_; obtain ⟨r19, hr19, H⟩ := bindS H; refine L.callB [true, false] [] [] 15 [0] hF rfl rfl rfl ent9 rfl rfl rfl rfl rfl (g9 k  r6 1 r19 hr19) rfl rfl rfl ?_; refine ag (L.nil ?_); refine sr ?_; refine mv ?_; refine mv ?_; obtain ⟨r20, hr20, H⟩ := bindS H; refine L.callB [true, false] [] [] 16 [0] hF rfl rfl rfl ent9 rfl rfl rfl rfl rfl (g9 k  r7 r19.1 r20 hr20) rfl rfl rfl ?_; refine ag (L.nil ?_); refine WpC.seq (sr ?_); refine mv ?_; refine bi ?_; refine mv ?_; refine sH H (fun hc H => ?_) (fun hc H => ?_)
      ·(repeat refine of ?_); refine pk (L.nil ?_); refine cT ?_; refine sr ?_; refine ag (L.nil ?_); cases H; exact WpC.ret rt
      ·refine mv ?_; refine mv ?_; obtain ⟨r24, hr24, H⟩ := bindS H; refine ca [false, false] [9, 6] [] 17 ent8 (g8 k false false r8 r5 r24 hr24) ?_; refine nt ?_; refine pk (L.nil ?_); refine cd H (fun hc H => ?_) (fun hc H => ?_)
       ·refine sr ?_; refine ag (L.nil ?_); cases H; exact WpC.ret rt
       ·refine WpC.skip (sr ?_); refine ag (L.nil ?_); refine sr ?_; refine mv ?_; refine mv ?_; obtain ⟨r25, hr25, H⟩ := bindS H; refine L.callB [true, false] [] [] 18 [0] hF rfl rfl rfl ent9 rfl rfl rfl rfl rfl (g9 k  r8 1 r25 hr25) rfl rfl rfl ?_; refine ag (L.nil ?_); refine sr ?_; refine ag (L.nil ?_); refine sr ?_; refine mv ?_; refine mv ?_; obtain ⟨r26, hr26, H⟩ := bindS H; refine ca [false, false] [9] [] 19 ent10 (g10 k false r25.2 1 r26 hr26) ?_; refine ag (L.nil ?_); refine WpC.seq (sr ?_); refine mv ?_; refine bi (L.nil ?_); refine cd H (fun hc H => ?_) (fun hc H => ?_)
        ·refine sr ?_; refine ag (L.nil ?_); cases H; exact WpC.ret rt
        ·refine WpC.skip (WpC.seq (sr ?_)); refine mv ?_; refine mv ?_; refine bi (L.nil ?_); refine cd H (fun hc H => ?_) (fun hc H => ?_)
         ·refine sr ?_; refine ag (L.nil ?_); cases H; exact WpC.ret rt
         ·refine WpC.skip (sr ?_); refine mv ?_; obtain ⟨r27, hr27, H⟩ := bindS H; refine c0 20 ent6 (g6 k g0 a0 r27 hr27) ?_; refine mv ?_; obtain ⟨r28, hr28, H⟩ := bindS H; refine c0 21 ent6 (g6 k g1 a1 r28 hr28) ?_; obtain ⟨r29, hr29, H⟩ := bindS H; refine ca [false, false] [20, 21] [] 22 ent7 (g7 k false false r27 r28 r29 hr29) ?_; refine ag (L.nil ?_); refine WpC.seq (sr ?_); refine mv ?_; refine mv ?_; obtain ⟨r31, hr31, H⟩ := bindS H; refine ca [false, false] [22, 6] [] 23 ent8 (g8 k false false r29 r5 r31 hr31) ?_; refine nt (L.nil ?_); refine cd H (fun hc H => ?_) (fun hc H => ?_)
          ·refine sr ?_; refine ag (L.nil ?_); cases H; exact WpC.ret rt
          ·refine WpC.skip (sr ?_); refine ag (L.nil ?_); refine sr ?_; refine mv ?_; refine mv ?_; obtain ⟨r32, hr32, H⟩ := bindS H; refine ca [false, false] [9] [] 24 ent10 (g10 k false r25.2 1 r32 hr32) ?_; refine ag (L.nil ?_); refine WpC.seq (sr ?_); refine mv ?_; refine bi (L.nil ?_); refine cd H (fun hc H => ?_) (fun hc H => ?_)
           ·refine sr ?_; refine ag (L.nil ?_); cases H; exact WpC.ret rt
           ·refine WpC.skip (WpC.seq (sr ?_)); refine mv ?_; refine mv ?_; refine bi (L.nil ?_); refine cd H (fun hc H => ?_) (fun hc H => ?_)
            ·refine sr ?_; refine ag (L.nil ?_); cases H; exact WpC.ret rt
            ·refine WpC.skip (sr ?_); refine ag (L.nil ?_); cases H; exact WpC.ret rt
theorem open31 : Go.MG.Opens Try.prog 31 (Go.MG.eR Go.MG.eI) (Go.MG.wfR Go.MG.wfI) := Go.MG.Opens.slice Try.underlying31 (Go.MG.Opens.int Try.underlying3) (fun _ => (by kernel_rfl : Try.prog.cellsOf 3 = 1).symm) (fun _ => rfl) (fun _ => rfl) (by kernel_rfl)
def wfTlaws_Rule (x : Tlaws_Rule) : Prop := Go.MG.wfI x.Kind ∧ (Go.MG.wfR Go.MG.wfI) x.Set ∧ Go.MG.wfI x.N
theorem open33 : Go.MG.Opens Try.prog 33 eTlaws_Rule wfTlaws_Rule := by
  intro H enc W fuel cs x h
  obtain ⟨n, hp⟩ := Go.MG.struct_parts Try.underlying33 (by kernel_rfl : Try.prog.cellsOf 33 = 3) (by kernel_rfl) h
  obtain ⟨c0, k0, y0, rfl, h0, hp⟩ := hp
  obtain ⟨c1, k1, y1, rfl, h1, hp⟩ := hp
  obtain ⟨c2, k2, y2, rfl, h2, hp⟩ := hp
  obtain rfl := hp
  obtain ⟨a0, r0, w0⟩ := (Go.MG.Opens.int Try.underlying3) _ _ _ _ _ _ h0
  obtain ⟨a1, r1, w1⟩ := open31 _ _ _ _ _ _ h1
  obtain ⟨a2, r2, w2⟩ := (Go.MG.Opens.int Try.underlying3) _ _ _ _ _ _ h2
  exact ⟨⟨a0, a1, a2⟩, (r0.append (r1.append (r2.append (rfl : Go.MG.RCs _ [] [])))), w0, w1, w2⟩
theorem open22 : Go.MG.Opens Try.prog 22 (Go.MG.eR eTlaws_Rule) (Go.MG.wfR wfTlaws_Rule) := Go.MG.Opens.slice Try.underlying22 open33 (fun _ => (by kernel_rfl : Try.prog.cellsOf 33 = 3).symm) (fun _ => rfl) (fun _ => rfl) (by kernel_rfl)
end Go.Proofs.Ytbjbagemlclgcaa.M
