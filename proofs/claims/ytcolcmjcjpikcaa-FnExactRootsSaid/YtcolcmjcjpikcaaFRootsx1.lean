import Derived.Test.YtcolcmjcjpikcaaFRootsx0
import Derived.Test.YtcolcmjcjpikcaaProg
namespace Go.Proofs.Ytcolcmjcjpikcaa.M
open Go Go.MG
set_option linter.unusedVariables false
set_option linter.unusedSimpArgs false
/-! ### Fspec_Roots -/
def Fspec_Roots.j37 (cl32 : (List Timpl_Event) → Int → (List Int) → Int → Option (List Int)) (k : Nat) (v728 : List Timpl_Event) (v729 : List Int) (v730 : Int) (v731 : Int) (v732 : Int) (v733 : Int) (v734 : Int) (v735 : Int) (v736 : Int) (v737 : Int) (v738 : Int) (v739 : Int) (v740 : Int) (v741 : Int) (v742 : Int) : Option (List Int) := cond (v731 == (0 : Int)) (some ([] : List Int)) ((Fspec_l3Put k v729 v731).bind fun r743 => cl32 v728 v738 r743 (IntKind.i64.wrap (v730 + (1 : Int))))
def Fspec_Roots.j38 (cl32 : (List Timpl_Event) → Int → (List Int) → Int → Option (List Int)) (k : Nat) (v748 : List Timpl_Event) (v749 : List Int) (v750 : Int) (v751 : Int) (v752 : Bool) (v753 : Int) (v754 : Int) (v755 : Int) (v756 : Int) (v757 : Int) (v758 : Int) (v759 : Int) (v760 : Int) (v761 : Int) (v762 : Int) : Option (List Int) := cond v752 ((Fspec_l1In k v756 (0 : Int) (2 : Int)).bind fun r763 => cond r763 ((Fspec_PrincipalKey k (IntKind.i64.wrap ((3 : Int) + v756))).bind fun r764 => Fspec_Roots.j37 cl32 k v748 v749 v750 r764 v751 v753 v754 v755 v756 v757 v758 v759 v760 v761 v762) (Fspec_Roots.j37 cl32 k v748 v749 v750 (0 : Int) v751 v753 v754 v755 v756 v757 v758 v759 v760 v761 v762)) (cond (v751 == (3 : Int)) ((Fspec_l1In k v756 (10 : Int) (12 : Int)).bind fun r765 => cond r765 ((Fspec_LinkKey k v753 (IntKind.i64.wrap (v756 - (10 : Int)))).bind fun r766 => Fspec_Roots.j37 cl32 k v748 v749 v750 r766 v751 v753 v754 v755 v756 v757 v758 v759 v760 v761 v762) (Fspec_Roots.j37 cl32 k v748 v749 v750 (0 : Int) v751 v753 v754 v755 v756 v757 v758 v759 v760 v761 v762)) (Fspec_Roots.j37 cl32 k v748 v749 v750 (0 : Int) v751 v753 v754 v755 v756 v757 v758 v759 v760 v761 v762))
def Fspec_Roots.l32 : Nat → (List Timpl_Event) → Int → (List Int) → Int → Option (List Int)
  | 0, _, _, _, _ => none
  | k32 + 1, v635, v636, v637, v638 => cond (decide (v638 ≤ (v635.length : Int))) ((Fspec_Find k32 v635 v636).bind fun r703 => cond (decide (r703 < (0 : Int))) (some ([] : List Int)) ((at? v635 r703).bind fun b704 => cond (b704.Kind == (1 : Int)) ((Fspec_PrincipalKey k32 b704.By).bind fun r744 => (Fspec_CentreKey k32 b704.Realm).bind fun r745 => cond (r744 == (0 : Int)) (some ([] : List Int)) (cond (r745 == (0 : Int)) (some ([] : List Int)) ((Fspec_l3Put k32 v637 r744).bind fun r746 => (Fspec_l3Put k32 r746 r745).bind fun r747 => some r747))) (cond (b704.Kind == (2 : Int)) (Fspec_Roots.j38 (Fspec_Roots.l32 k32) k32 v635 v637 v638 b704.Kind (b704.Kind == (2 : Int)) b704.Realm b704.By b704.Client b704.Service b704.Key b704.Parent b704.Evid b704.Rest.Servers b704.Rest.Ops b704.Rest.End) (Fspec_Roots.j38 (Fspec_Roots.l32 k32) k32 v635 v637 v638 b704.Kind (b704.Kind == (4 : Int)) b704.Realm b704.By b704.Client b704.Service b704.Key b704.Parent b704.Evid b704.Rest.Servers b704.Rest.Ops b704.Rest.End)))) (some ([] : List Int))
def Fspec_Roots (k : Nat) (a0 : Timpl_Config) (a1 : List Timpl_Event) (a2 : Int) : Option (List Int) := (Fspec_ConfigOk k a0).bind fun r2 => cond (!r2) (some ([] : List Int)) (Fspec_Roots.l32 k a1 a2 ([] : List Int) (0 : Int))
theorem ent93 : MG.Enters Try.prog 93 := ⟨Try.f93, Try.func93, rfl, by decide⟩
set_option maxHeartbeats 8000000 in
set_option maxRecDepth 100000 in
theorem Fspec_Roots_gives (k : Nat) (g0 : Bool) (g1 : Bool) (g2 : Bool) (g3 : Bool) (g4 : Bool) (a0 : Timpl_Config) (a1 : List Timpl_Event) (a2 : Int) (r : List Int) (H : Fspec_Roots k a0 a1 a2 = some r) : Gives Try.prog 93 [V.agg [Cell.sl g0 (List.map eI a0.UserRealm), Cell.sl g1 (List.map eI a0.ServiceRealm), Cell.sl g2 (List.map eTimpl_Pair a0.Links), Cell.sl g3 (List.map eTimpl_Pair a0.Proxy), cI a0.Skew], V.one (Cell.sl g4 (List.map eTimpl_Event a1)), V.one (cI a2)] [] [V.one (Cell.sl true (List.map eI r))] [] := by
  refine Gives.intro Try.func93 rfl rfl rfl rfl ?_
  intro F hF hm
  unfold Fspec_Roots at H
  obtain ⟨K, hK⟩ : ∃ K, k ≤ K := ⟨k, Nat.le_refl k⟩
  refine WpC.seq ?_
  refine WpC.regionL ?_
  refine L.box 7 hF rfl rfl rfl rfl ?_
  refine L.assign hF rfl rfl rfl ?_
  refine L.nil ?_
  refine WpC.seq ?_
  refine WpC.regionL ?_
  refine L.buildSlice (e := eI) 8 ([] : List Int) Try.underlying24 info3 rfl rfl rfl hF rfl rfl rfl rfl rfl rfl rfl rfl ?_
  refine L.assign hF rfl rfl rfl ?_
  refine L.nil ?_
  refine WpC.seq ?_
  refine WpC.seq ?_
  refine WpC.regionL ?_
  refine L.loadPtr shape90 hF rfl rfl rfl rfl rfl rfl ?_
  obtain ⟨r2, hr2, H⟩ := bindS H
  refine L.call [false] [] [] 9 hF rfl rfl rfl ent150 rfl rfl rfl rfl rfl (Fspec_ConfigOk_gives k g0 g1 g2 g3 a0 r2 hr2) rfl ?_
  refine L.not hF rfl rfl rfl ?_
  refine L.nil ?_
  refine WpC.cond rfl (fun hc => ?_) (fun hc => ?_)
  · replace H := condT hc H
    refine WpC.seq ?_
    refine WpC.regionL ?_
    refine L.move hF rfl rfl rfl ?_
    refine L.assign hF rfl rfl rfl ?_
    refine L.nil ?_
    refine WpC.le (Le.shareAll 8 rfl) ?_
    refine WpC.ret ?_
    cases H
    exact Leaves.ret rfl rfl rfl ⟨rfl, rfl⟩
  · replace H := condF hc H
    refine WpC.skip ?_
    refine WpC.seq ?_
    refine WpC.seq ?_
    refine WpC.regionL ?_
    refine L.assign hF rfl rfl rfl ?_
    refine L.nil ?_
    refine WpC.block ?_
    refine WpC.loopL (P := Try.prog) (fun n σ => ∃ v635 : List Timpl_Event, ∃ v636 : Int, ∃ v637 : List Int, ∃ v638 : Int, n ≤ K ∧ Fspec_Roots.l32 n v635 v636 v637 v638 = some r ∧ σ = mkSt [(1, MG.one (Cell.sl g4 (List.map eTimpl_Event v635))), (2, MG.one (cI v636)), (7, MG.one (Cell.sl true (List.map eI v637))), (8, MG.one (cI v638))] [] [] 0) k ⟨_, ⟨a1, a2, ([] : List Int), (0 : Int), by omega, H, rfl⟩, (Le.shareAll 8 rfl).trans (Le.mk [] hm rfl ⟨⟨_, rfl, rfl⟩, ⟨_, rfl, rfl⟩, ⟨_, rfl, rfl⟩, ⟨_, rfl, rfl⟩, trivial⟩ trivial trivial)⟩ ?_
    clear H
    rintro k32 _ ⟨v635, v636, v637, v638, hk32, H, rfl⟩
    cases k32 with
    | zero => cases H
    | succ k32 =>
      rw [Fspec_Roots.l32] at H
      refine WpC.seq ?_
      refine WpC.seq ?_
      refine WpC.regionL ?_
      refine L.move hF rfl rfl rfl ?_
      refine L.move hF rfl rfl rfl ?_
      refine L.lenR (xs := v635) (e := eTimpl_Event) Try.underlying26 hF rfl rfl rfl rfl ?_
      refine L.bin hF rfl rfl rfl rfl rfl rfl ?_
      refine L.nil ?_
      refine WpC.cond rfl (fun hc => ?_) (fun hc => ?_)
      · replace H := condT hc H
        refine WpC.skip ?_
        refine WpC.seq ?_
        refine WpC.block ?_
        refine WpC.seq ?_
        refine WpC.regionL ?_
        refine L.move hF rfl rfl rfl ?_
        refine L.move hF rfl rfl rfl ?_
        obtain ⟨r703, hr703, H⟩ := bindS H
        refine L.call [false, false] [] [] 0 hF rfl rfl rfl ent100 rfl rfl rfl rfl rfl (Fspec_Find_gives k32 g4 v635 v636 r703 hr703) rfl ?_
        refine L.assign hF rfl rfl rfl ?_
        refine L.nil ?_
        refine WpC.seq ?_
        refine WpC.seq ?_
        refine WpC.regionL ?_
        refine L.move hF rfl rfl rfl ?_
        refine L.bin hF rfl rfl rfl rfl rfl rfl ?_
        refine L.nil ?_
        refine WpC.cond rfl (fun hc => ?_) (fun hc => ?_)
        · replace H := condT hc H
          refine WpC.seq ?_
          refine WpC.regionL ?_
          refine L.buildSlice (e := eI) 1 ([] : List Int) Try.underlying24 info3 rfl rfl rfl hF rfl rfl rfl rfl rfl rfl rfl rfl ?_
          refine L.assign hF rfl rfl rfl ?_
          refine L.nil ?_
          refine WpC.le (Le.shareAll 1 rfl) ?_
          refine WpC.ret ?_
          cases H
          exact Leaves.ret rfl rfl rfl ⟨rfl, rfl⟩
        · replace H := condF hc H
          refine WpC.skip ?_
          refine WpC.seq ?_
          refine WpC.regionL ?_
          refine L.move hF rfl rfl rfl ?_
          refine L.move hF rfl rfl rfl ?_
          obtain ⟨b704, hb704, H⟩ := bindS H
          refine L.idxR (xs := v635) (e := eTimpl_Event) Try.underlying26 info135 hF rfl rfl rfl rfl rfl hb704 rfl rfl ?_
          refine L.loadPe shape135 hF rfl rfl rfl rfl rfl ?_
          refine L.alloc 1 info135 rfl hF rfl rfl rfl rfl ?_
          refine L.storePtr shape135 hF rfl rfl rfl rfl rfl rfl rfl ?_
          refine L.nil ?_
          refine WpC.seq ?_
          refine WpC.regionL ?_
          refine L.assign hF rfl rfl rfl ?_
          refine L.nil ?_
          refine WpC.join (fun σ => ∃ kj37 : Nat, ∃ v728 : List Timpl_Event, ∃ v729 : List Int, ∃ v730 : Int, ∃ v731 : Int, ∃ v732 : Int, ∃ v733 : Int, ∃ v734 : Int, ∃ v735 : Int, ∃ v736 : Int, ∃ v737 : Int, ∃ v738 : Int, ∃ v739 : Int, ∃ v740 : Int, ∃ v741 : Int, ∃ v742 : Int, kj37 ≤ K ∧ Fspec_Roots.j37 (Fspec_Roots.l32 k32) kj37 v728 v729 v730 v731 v732 v733 v734 v735 v736 v737 v738 v739 v740 v741 v742 = some r ∧ σ = mkSt [(1, MG.one (Cell.sl g4 (List.map eTimpl_Event v728))), (7, MG.one (Cell.sl true (List.map eI v729))), (8, MG.one (cI v730)), (10, MG.one (Cell.ptr 0 0)), (11, MG.one (cI v731))] [] [(0, [cI v732, cI v733, cI v734, cI v735, cI v736, cI v737, cI v738, cI v739, cI v740, cI v741, cI v742])] 1) ?_ ?_
          · rintro _ ⟨kj37, v728, v729, v730, v731, v732, v733, v734, v735, v736, v737, v738, v739, v740, v741, v742, hkj37, H, rfl⟩
            unfold Fspec_Roots.j37 at H
            refine WpC.seq ?_
            refine WpC.seq ?_
            refine WpC.regionL ?_
            refine L.move hF rfl rfl rfl ?_
            refine L.bin hF rfl rfl rfl rfl rfl rfl ?_
            refine L.nil ?_
            refine WpC.cond rfl (fun hc => ?_) (fun hc => ?_)
            · replace H := condT hc H
              refine WpC.seq ?_
              refine WpC.regionL ?_
              refine L.buildSlice (e := eI) 1 ([] : List Int) Try.underlying24 info3 rfl rfl rfl hF rfl rfl rfl rfl rfl rfl rfl rfl ?_
              refine L.assign hF rfl rfl rfl ?_
              refine L.nil ?_
              refine WpC.le (Le.shareAll 1 rfl) ?_
              refine WpC.ret ?_
              cases H
              exact Leaves.ret rfl rfl rfl ⟨rfl, rfl⟩
            · replace H := condF hc H
              refine WpC.skip ?_
              refine WpC.seq ?_
              refine WpC.regionL ?_
              refine L.move hF rfl rfl rfl ?_
              refine L.move hF rfl rfl rfl ?_
              obtain ⟨r743, hr743, H⟩ := bindS H
              refine L.call [false, false] [] [] 1 hF rfl rfl rfl ent175 rfl rfl rfl rfl rfl (Fspec_l3Put_gives kj37  v729 v731 r743 hr743) rfl ?_
              refine L.assign hF rfl rfl rfl ?_
              refine L.nil ?_
              refine WpC.regionL ?_
              refine L.fieldAddr Try.underlying135 rfl info3 rfl hF rfl rfl rfl rfl rfl ?_
              refine L.loadPtr shape3 hF rfl rfl rfl rfl rfl rfl ?_
              refine L.assign hF rfl rfl rfl ?_
              refine L.nil ?_
              refine WpC.regionL ?_
              refine L.move hF rfl rfl rfl ?_
              refine L.bin hF rfl rfl rfl rfl rfl rfl ?_
              refine L.assign hF rfl rfl rfl ?_
              refine L.nil ?_
              exact ⟨k32, _, by omega, ⟨v728, v738, r743, (IntKind.i64.wrap (v730 + (1 : Int))), by omega, H, rfl⟩, Le.mk [] hm rfl ⟨⟨_, rfl, rfl⟩, ⟨_, rfl, rfl⟩, ⟨_, rfl, rfl⟩, ⟨_, rfl, rfl⟩, trivial⟩ trivial trivial⟩
          · refine WpC.seq ?_
            refine WpC.regionL ?_
            refine L.fieldAddr Try.underlying135 rfl info3 rfl hF rfl rfl rfl rfl rfl ?_
            refine L.loadPtr shape3 hF rfl rfl rfl rfl rfl rfl ?_
            refine L.nil ?_
            refine WpC.block ?_
            refine WpC.seq ?_
            refine WpC.regionL ?_
            refine L.bin hF rfl rfl rfl rfl rfl rfl ?_
            refine L.assign hF rfl rfl rfl ?_
            refine L.nil ?_
            refine WpC.cond rfl (fun hc => ?_) (fun hc => ?_)
            · replace H := condT hc H
              refine WpC.seq ?_
              refine WpC.regionL ?_
              refine L.fieldAddr Try.underlying135 rfl info3 rfl hF rfl rfl rfl rfl rfl ?_
              refine L.loadPtr shape3 hF rfl rfl rfl rfl rfl rfl ?_
              obtain ⟨r744, hr744, H⟩ := bindS H
              refine L.call [false] [] [] 2 hF rfl rfl rfl ent176 rfl rfl rfl rfl rfl (Fspec_PrincipalKey_gives k32  b704.By r744 hr744) rfl ?_
              refine L.assign hF rfl rfl rfl ?_
              refine L.nil ?_
              refine WpC.seq ?_
              refine WpC.regionL ?_
              refine L.fieldAddr Try.underlying135 rfl info3 rfl hF rfl rfl rfl rfl rfl ?_
              refine L.loadPtr shape3 hF rfl rfl rfl rfl rfl rfl ?_
              obtain ⟨r745, hr745, H⟩ := bindS H
              refine L.call [false] [] [] 3 hF rfl rfl rfl ent178 rfl rfl rfl rfl rfl (Fspec_CentreKey_gives k32  b704.Realm r745 hr745) rfl ?_
              refine L.assign hF rfl rfl rfl ?_
              refine L.nil ?_
              refine WpC.seq ?_
              refine WpC.seq ?_
              refine WpC.regionL ?_
              refine L.move hF rfl rfl rfl ?_
              refine L.bin hF rfl rfl rfl rfl rfl rfl ?_
              refine L.move hF rfl rfl rfl ?_
              refine L.split (fun hc => ?_) (fun hc => ?_)
              · replace H := condT hc H
                refine L.off hF rfl rfl ?_
                refine L.off hF rfl rfl ?_
                refine L.pick hF rfl rfl rfl rfl ?_
                refine L.nil ?_
                refine WpC.cond rfl (fun _ => ?_) (fun hc => by cases hc)
                refine WpC.seq ?_
                refine WpC.regionL ?_
                refine L.buildSlice (e := eI) 4 ([] : List Int) Try.underlying24 info3 rfl rfl rfl hF rfl rfl rfl rfl rfl rfl rfl rfl ?_
                refine L.assign hF rfl rfl rfl ?_
                refine L.nil ?_
                refine WpC.le (Le.shareAll 4 rfl) ?_
                refine WpC.ret ?_
                cases H
                exact Leaves.ret rfl rfl rfl ⟨rfl, rfl⟩
              · replace H := condF hc H
                refine L.move hF rfl rfl rfl ?_
                refine L.bin hF rfl rfl rfl rfl rfl rfl ?_
                refine L.pick hF rfl rfl rfl rfl ?_
                refine L.nil ?_
                refine WpC.cond rfl (fun hc => ?_) (fun hc => ?_)
                · replace H := condT hc H
                  refine WpC.seq ?_
                  refine WpC.regionL ?_
                  refine L.buildSlice (e := eI) 4 ([] : List Int) Try.underlying24 info3 rfl rfl rfl hF rfl rfl rfl rfl rfl rfl rfl rfl ?_
                  refine L.assign hF rfl rfl rfl ?_
                  refine L.nil ?_
                  refine WpC.le (Le.shareAll 4 rfl) ?_
                  refine WpC.ret ?_
                  cases H
                  exact Leaves.ret rfl rfl rfl ⟨rfl, rfl⟩
                · replace H := condF hc H
                  refine WpC.skip ?_
                  refine WpC.seq ?_
                  refine WpC.regionL ?_
                  refine L.move hF rfl rfl rfl ?_
                  refine L.move hF rfl rfl rfl ?_
                  obtain ⟨r746, hr746, H⟩ := bindS H
                  refine L.call [false, false] [] [] 4 hF rfl rfl rfl ent175 rfl rfl rfl rfl rfl (Fspec_l3Put_gives k32  v637 r744 r746 hr746) rfl ?_
                  refine L.move hF rfl rfl rfl ?_
                  obtain ⟨r747, hr747, H⟩ := bindS H
                  refine L.call [false, false] [] [] 5 hF rfl rfl rfl ent175 rfl rfl rfl rfl rfl (Fspec_l3Put_gives k32  r746 r745 r747 hr747) rfl ?_
                  refine L.assign hF rfl rfl rfl ?_
                  refine L.nil ?_
                  refine WpC.ret ?_
                  cases H
                  exact Leaves.ret rfl rfl rfl ⟨rfl, rfl⟩
            · replace H := condF hc H
              refine WpC.join (fun σ => ∃ kj38 : Nat, ∃ v748 : List Timpl_Event, ∃ v749 : List Int, ∃ v750 : Int, ∃ v751 : Int, ∃ v752 : Bool, ∃ v753 : Int, ∃ v754 : Int, ∃ v755 : Int, ∃ v756 : Int, ∃ v757 : Int, ∃ v758 : Int, ∃ v759 : Int, ∃ v760 : Int, ∃ v761 : Int, ∃ v762 : Int, kj38 ≤ K ∧ Fspec_Roots.j38 (Fspec_Roots.l32 k32) kj38 v748 v749 v750 v751 v752 v753 v754 v755 v756 v757 v758 v759 v760 v761 v762 = some r ∧ σ = mkSt [(1, MG.one (Cell.sl g4 (List.map eTimpl_Event v748))), (7, MG.one (Cell.sl true (List.map eI v749))), (8, MG.one (cI v750)), (10, MG.one (Cell.ptr 0 0)), (11, MG.one (cI (0 : Int))), (35, MG.one (cI v751)), (56, MG.one (cL v752))] [] [(0, [cI v751, cI v753, cI v754, cI v755, cI v756, cI v757, cI v758, cI v759, cI v760, cI v761, cI v762])] 1) ?_ ?_
              · rintro _ ⟨kj38, v748, v749, v750, v751, v752, v753, v754, v755, v756, v757, v758, v759, v760, v761, v762, hkj38, H, rfl⟩
                unfold Fspec_Roots.j38 at H
                refine WpC.cond rfl (fun hc => ?_) (fun hc => ?_)
                · replace H := condT hc H
                  refine WpC.seq ?_
                  refine WpC.regionL ?_
                  refine L.fieldAddr Try.underlying135 rfl info3 rfl hF rfl rfl rfl rfl rfl ?_
                  refine L.loadPtr shape3 hF rfl rfl rfl rfl rfl rfl ?_
                  obtain ⟨r763, hr763, H⟩ := bindS H
                  refine L.call [false, false, false] [] [] 1 hF rfl rfl rfl ent152 rfl rfl rfl rfl rfl (Fspec_l1In_gives kj38  v756 (0 : Int) (2 : Int) r763 hr763) rfl ?_
                  refine L.nil ?_
                  refine WpC.cond rfl (fun hc => ?_) (fun hc => ?_)
                  · replace H := condT hc H
                    refine WpC.regionL ?_
                    refine L.fieldAddr Try.underlying135 rfl info3 rfl hF rfl rfl rfl rfl rfl ?_
                    refine L.loadPtr shape3 hF rfl rfl rfl rfl rfl rfl ?_
                    refine L.bin hF rfl rfl rfl rfl rfl rfl ?_
                    obtain ⟨r764, hr764, H⟩ := bindS H
                    refine L.call [false] [] [] 2 hF rfl rfl rfl ent176 rfl rfl rfl rfl rfl (Fspec_PrincipalKey_gives kj38  (IntKind.i64.wrap ((3 : Int) + v756)) r764 hr764) rfl ?_
                    refine L.assign hF rfl rfl rfl ?_
                    refine L.nil ?_
                    exact ⟨_, ⟨kj38, v748, v749, v750, r764, v751, v753, v754, v755, v756, v757, v758, v759, v760, v761, v762, by omega, H, rfl⟩, Le.mk [(0, 0)] hm rfl ⟨⟨_, rfl, rfl⟩, ⟨_, rfl, rfl⟩, ⟨_, rfl, rfl⟩, ⟨_, rfl, rfl⟩, ⟨_, rfl, rfl⟩, trivial⟩ trivial ⟨⟨_, _, rfl, rfl, rfl⟩, trivial⟩⟩
                  · replace H := condF hc H
                    refine WpC.skip ?_
                    exact ⟨_, ⟨kj38, v748, v749, v750, (0 : Int), v751, v753, v754, v755, v756, v757, v758, v759, v760, v761, v762, by omega, H, rfl⟩, Le.mk [(0, 0)] hm rfl ⟨⟨_, rfl, rfl⟩, ⟨_, rfl, rfl⟩, ⟨_, rfl, rfl⟩, ⟨_, rfl, rfl⟩, ⟨_, rfl, rfl⟩, trivial⟩ trivial ⟨⟨_, _, rfl, rfl, rfl⟩, trivial⟩⟩
                · replace H := condF hc H
                  refine WpC.seq ?_
                  refine WpC.regionL ?_
                  refine L.bin hF rfl rfl rfl rfl rfl rfl ?_
                  refine L.assign hF rfl rfl rfl ?_
                  refine L.nil ?_
                  refine WpC.cond rfl (fun hc => ?_) (fun hc => ?_)
                  · replace H := condT hc H
                    refine WpC.seq ?_
                    refine WpC.regionL ?_
                    refine L.fieldAddr Try.underlying135 rfl info3 rfl hF rfl rfl rfl rfl rfl ?_
                    refine L.loadPtr shape3 hF rfl rfl rfl rfl rfl rfl ?_
                    obtain ⟨r765, hr765, H⟩ := bindS H
                    refine L.call [false, false, false] [] [] 1 hF rfl rfl rfl ent152 rfl rfl rfl rfl rfl (Fspec_l1In_gives kj38  v756 (10 : Int) (12 : Int) r765 hr765) rfl ?_
                    refine L.nil ?_
                    refine WpC.cond rfl (fun hc => ?_) (fun hc => ?_)
                    · replace H := condT hc H
                      refine WpC.regionL ?_
                      refine L.fieldAddr Try.underlying135 rfl info3 rfl hF rfl rfl rfl rfl rfl ?_
                      refine L.loadPtr shape3 hF rfl rfl rfl rfl rfl rfl ?_
                      refine L.fieldAddr Try.underlying135 rfl info3 rfl hF rfl rfl rfl rfl rfl ?_
                      refine L.loadPtr shape3 hF rfl rfl rfl rfl rfl rfl ?_
                      refine L.bin hF rfl rfl rfl rfl rfl rfl ?_
                      obtain ⟨r766, hr766, H⟩ := bindS H
                      refine L.call [false, false] [] [] 2 hF rfl rfl rfl ent179 rfl rfl rfl rfl rfl (Fspec_LinkKey_gives kj38  v753 (IntKind.i64.wrap (v756 - (10 : Int))) r766 hr766) rfl ?_
                      refine L.assign hF rfl rfl rfl ?_
                      refine L.nil ?_
                      exact ⟨_, ⟨kj38, v748, v749, v750, r766, v751, v753, v754, v755, v756, v757, v758, v759, v760, v761, v762, by omega, H, rfl⟩, Le.mk [(0, 0)] hm rfl ⟨⟨_, rfl, rfl⟩, ⟨_, rfl, rfl⟩, ⟨_, rfl, rfl⟩, ⟨_, rfl, rfl⟩, ⟨_, rfl, rfl⟩, trivial⟩ trivial ⟨⟨_, _, rfl, rfl, rfl⟩, trivial⟩⟩
                    · replace H := condF hc H
                      refine WpC.skip ?_
                      exact ⟨_, ⟨kj38, v748, v749, v750, (0 : Int), v751, v753, v754, v755, v756, v757, v758, v759, v760, v761, v762, by omega, H, rfl⟩, Le.mk [(0, 0)] hm rfl ⟨⟨_, rfl, rfl⟩, ⟨_, rfl, rfl⟩, ⟨_, rfl, rfl⟩, ⟨_, rfl, rfl⟩, ⟨_, rfl, rfl⟩, trivial⟩ trivial ⟨⟨_, _, rfl, rfl, rfl⟩, trivial⟩⟩
                  · replace H := condF hc H
                    refine WpC.skip ?_
                    exact ⟨_, ⟨kj38, v748, v749, v750, (0 : Int), v751, v753, v754, v755, v756, v757, v758, v759, v760, v761, v762, by omega, H, rfl⟩, Le.mk [(0, 0)] hm rfl ⟨⟨_, rfl, rfl⟩, ⟨_, rfl, rfl⟩, ⟨_, rfl, rfl⟩, ⟨_, rfl, rfl⟩, ⟨_, rfl, rfl⟩, trivial⟩ trivial ⟨⟨_, _, rfl, rfl, rfl⟩, trivial⟩⟩
              · refine WpC.seq ?_
                refine WpC.regionL ?_
                refine L.bin hF rfl rfl rfl rfl rfl rfl ?_
                refine L.assign hF rfl rfl rfl ?_
                refine L.nil ?_
                refine WpC.cond rfl (fun hc => ?_) (fun hc => ?_)
                · replace H := condT hc H
                  refine WpC.skip ?_
                  exact ⟨_, ⟨k32, v635, v637, v638, b704.Kind, (b704.Kind == (2 : Int)), b704.Realm, b704.By, b704.Client, b704.Service, b704.Key, b704.Parent, b704.Evid, b704.Rest.Servers, b704.Rest.Ops, b704.Rest.End, by omega, H, rfl⟩, Le.mk [(0, 1)] hm rfl ⟨⟨_, rfl, rfl⟩, ⟨_, rfl, rfl⟩, ⟨_, rfl, rfl⟩, ⟨_, rfl, rfl⟩, ⟨_, rfl, rfl⟩, ⟨_, rfl, rfl⟩, ⟨_, rfl, rfl⟩, trivial⟩ trivial ⟨⟨_, _, rfl, rfl, rfl⟩, trivial⟩⟩
                · replace H := condF hc H
                  refine WpC.regionL ?_
                  refine L.bin hF rfl rfl rfl rfl rfl rfl ?_
                  refine L.assign hF rfl rfl rfl ?_
                  refine L.nil ?_
                  exact ⟨_, ⟨k32, v635, v637, v638, b704.Kind, (b704.Kind == (4 : Int)), b704.Realm, b704.By, b704.Client, b704.Service, b704.Key, b704.Parent, b704.Evid, b704.Rest.Servers, b704.Rest.Ops, b704.Rest.End, by omega, H, rfl⟩, Le.mk [(0, 1)] hm rfl ⟨⟨_, rfl, rfl⟩, ⟨_, rfl, rfl⟩, ⟨_, rfl, rfl⟩, ⟨_, rfl, rfl⟩, ⟨_, rfl, rfl⟩, ⟨_, rfl, rfl⟩, ⟨_, rfl, rfl⟩, trivial⟩ trivial ⟨⟨_, _, rfl, rfl, rfl⟩, trivial⟩⟩
      · replace H := condF hc H
        refine WpC.exit ?_
        refine WpC.seq ?_
        refine WpC.regionL ?_
        refine L.buildSlice (e := eI) 0 ([] : List Int) Try.underlying24 info3 rfl rfl rfl hF rfl rfl rfl rfl rfl rfl rfl rfl ?_
        refine L.assign hF rfl rfl rfl ?_
        refine L.nil ?_
        refine WpC.le (Le.shareAll 0 rfl) ?_
        refine WpC.ret ?_
        cases H
        exact Leaves.ret rfl rfl rfl ⟨rfl, rfl⟩
/-! ### Fimpl_within -/
def Fimpl_within (k : Nat) (a0 : Int) (a1 : Int) (a2 : Int) : Option Bool := cond (decide (a0 ≥ a1)) (some (decide (a0 ≤ a2))) (some false)
theorem ent113 : MG.Enters Try.prog 113 := ⟨Try.f113, Try.func113, rfl, by decide⟩
set_option maxHeartbeats 8000000 in
set_option maxRecDepth 100000 in
theorem Fimpl_within_gives (k : Nat) (a0 : Int) (a1 : Int) (a2 : Int) (r : Bool) (H : Fimpl_within k a0 a1 a2 = some r) : Gives Try.prog 113 [V.one (cI a0), V.one (cI a1), V.one (cI a2)] [] [V.one (cL r)] [] := by
  refine Gives.intro Try.func113 rfl rfl rfl rfl ?_
  intro F hF hm
  unfold Fimpl_within at H
  obtain ⟨K, hK⟩ : ∃ K, k ≤ K := ⟨k, Nat.le_refl k⟩
  refine WpC.seq ?_
  refine WpC.regionL ?_
  refine L.assign hF rfl rfl rfl ?_
  refine L.nil ?_
  refine WpC.seq ?_
  refine WpC.regionL ?_
  refine L.move hF rfl rfl rfl ?_
  refine L.move hF rfl rfl rfl ?_
  refine L.bin hF rfl rfl rfl rfl rfl rfl ?_
  refine L.move hF rfl rfl rfl ?_
  refine L.split (fun hc => ?_) (fun hc => ?_)
  · replace H := condT hc H
    refine L.move hF rfl rfl rfl ?_
    refine L.move hF rfl rfl rfl ?_
    refine L.bin hF rfl rfl rfl rfl rfl rfl ?_
    refine L.pick hF rfl rfl rfl rfl ?_
    refine L.assign hF rfl rfl rfl ?_
    refine L.nil ?_
    refine WpC.ret ?_
    cases H
    exact Leaves.ret rfl rfl rfl ⟨rfl, rfl⟩
  · replace H := condF hc H
    refine L.off hF rfl rfl ?_
    refine L.off hF rfl rfl ?_
    refine L.off hF rfl rfl ?_
    refine L.pick hF rfl rfl rfl rfl ?_
    refine L.assign hF rfl rfl rfl ?_
    refine L.nil ?_
    refine WpC.ret ?_
    cases H
    exact Leaves.ret rfl rfl rfl ⟨rfl, rfl⟩
/-! ### Fimpl_isRealm -/
def Fimpl_isRealm (k : Nat) (a0 : Int) : Option Bool := (Fimpl_within k a0 (0 : Int) (2 : Int)).bind fun r1 => some r1
theorem ent184 : MG.Enters Try.prog 184 := ⟨Try.f184, Try.func184, rfl, by decide⟩
set_option maxHeartbeats 8000000 in
set_option maxRecDepth 100000 in
theorem Fimpl_isRealm_gives (k : Nat) (a0 : Int) (r : Bool) (H : Fimpl_isRealm k a0 = some r) : Gives Try.prog 184 [V.one (cI a0)] [] [V.one (cL r)] [] := by
  refine Gives.intro Try.func184 rfl rfl rfl rfl ?_
  intro F hF hm
  unfold Fimpl_isRealm at H
  obtain ⟨K, hK⟩ : ∃ K, k ≤ K := ⟨k, Nat.le_refl k⟩
  refine WpC.seq ?_
  refine WpC.regionL ?_
  refine L.assign hF rfl rfl rfl ?_
  refine L.nil ?_
  refine WpC.seq ?_
  refine WpC.regionL ?_
  refine L.move hF rfl rfl rfl ?_
  obtain ⟨r1, hr1, H⟩ := bindS H
  refine L.call [false, false, false] [] [] 1 hF rfl rfl rfl ent113 rfl rfl rfl rfl rfl (Fimpl_within_gives k  a0 (0 : Int) (2 : Int) r1 hr1) rfl ?_
  refine L.assign hF rfl rfl rfl ?_
  refine L.nil ?_
  refine WpC.ret ?_
  cases H
  exact Leaves.ret rfl rfl rfl ⟨rfl, rfl⟩
/-! ### Fimpl_ConfigOk_1 -/
def Fimpl_ConfigOk_1 (k : Nat) (a0 : Timpl_Pair) : Option Bool := (Fimpl_isRealm k a0.A).bind fun r3 => cond r3 ((Fimpl_isRealm k a0.B).bind fun r4 => cond r4 (some (a0.A != a0.B)) (some false)) (some false)
theorem ent247 : MG.Enters Try.prog 247 := ⟨Try.f247, Try.func247, rfl, by decide⟩
set_option maxHeartbeats 8000000 in
set_option maxRecDepth 100000 in
theorem Fimpl_ConfigOk_1_gives (k : Nat) (a0 : Timpl_Pair) (r : Bool) (H : Fimpl_ConfigOk_1 k a0 = some r) : Gives Try.prog 247 [V.agg [cI a0.A, cI a0.B]] [] [V.one (cL r)] [] := by
  refine Gives.intro Try.func247 rfl rfl rfl rfl ?_
  intro F hF hm
  unfold Fimpl_ConfigOk_1 at H
  obtain ⟨K, hK⟩ : ∃ K, k ≤ K := ⟨k, Nat.le_refl k⟩
  refine WpC.seq ?_
  refine WpC.regionL ?_
  refine L.box 2 hF rfl rfl rfl rfl ?_
  refine L.assign hF rfl rfl rfl ?_
  refine L.nil ?_
  refine WpC.seq ?_
  refine WpC.regionL ?_
  refine L.fieldAddr Try.underlying256 rfl info3 rfl hF rfl rfl rfl rfl rfl ?_
  refine L.loadPtr shape3 hF rfl rfl rfl rfl rfl rfl ?_
  obtain ⟨r3, hr3, H⟩ := bindS H
  refine L.call [false] [] [] 3 hF rfl rfl rfl ent184 rfl rfl rfl rfl rfl (Fimpl_isRealm_gives k  a0.A r3 hr3) rfl ?_
  refine L.move hF rfl rfl rfl ?_
  refine L.split (fun hc => ?_) (fun hc => ?_)
  · replace H := condT hc H
    refine L.fieldAddr Try.underlying256 rfl info3 rfl hF rfl rfl rfl rfl rfl ?_
    refine L.loadPtr shape3 hF rfl rfl rfl rfl rfl rfl ?_
    obtain ⟨r4, hr4, H⟩ := bindS H
    refine L.call [false] [] [] 4 hF rfl rfl rfl ent184 rfl rfl rfl rfl rfl (Fimpl_isRealm_gives k  a0.B r4 hr4) rfl ?_
    refine L.pick hF rfl rfl rfl rfl ?_
    refine L.move hF rfl rfl rfl ?_
    refine L.split (fun hc => ?_) (fun hc => ?_)
    · replace H := condT hc H
      refine L.fieldAddr Try.underlying256 rfl info3 rfl hF rfl rfl rfl rfl rfl ?_
      refine L.loadPtr shape3 hF rfl rfl rfl rfl rfl rfl ?_
      refine L.fieldAddr Try.underlying256 rfl info3 rfl hF rfl rfl rfl rfl rfl ?_
      refine L.loadPtr shape3 hF rfl rfl rfl rfl rfl rfl ?_
      refine L.bin hF rfl rfl rfl rfl rfl rfl ?_
      refine L.pick hF rfl rfl rfl rfl ?_
      refine L.assign hF rfl rfl rfl ?_
      refine L.nil ?_
      refine WpC.ret ?_
      cases H
      exact Leaves.ret rfl rfl rfl ⟨rfl, rfl⟩
    · replace H := condF hc H
      refine L.off hF rfl rfl ?_
      refine L.off hF rfl rfl ?_
      refine L.off hF rfl rfl ?_
      refine L.off hF rfl rfl ?_
      refine L.off hF rfl rfl ?_
      refine L.pick hF rfl rfl rfl rfl ?_
      refine L.assign hF rfl rfl rfl ?_
      refine L.nil ?_
      refine WpC.ret ?_
      cases H
      exact Leaves.ret rfl rfl rfl ⟨rfl, rfl⟩
  · replace H := condF hc H
    refine L.off hF rfl rfl ?_
    refine L.off hF rfl rfl ?_
    refine L.off hF rfl rfl ?_
    refine L.pick hF rfl rfl rfl rfl ?_
    refine L.move hF rfl rfl rfl ?_
    refine L.off hF rfl rfl ?_
    refine L.off hF rfl rfl ?_
    refine L.off hF rfl rfl ?_
    refine L.off hF rfl rfl ?_
    refine L.off hF rfl rfl ?_
    refine L.pick hF rfl rfl rfl rfl ?_
    refine L.assign hF rfl rfl rfl ?_
    refine L.nil ?_
    refine WpC.ret ?_
    cases H
    exact Leaves.ret rfl rfl rfl ⟨rfl, rfl⟩
/-! ### Fslices_Index_Pair -/
def Fslices_Index_Pair.l2 : Nat → (List Timpl_Pair) → Int → Int → Int → Int → Option Int
  | 0, _, _, _, _, _ => none
  | k2 + 1, v34, v35, v36, v37, v38 => cond (decide (v36 < v35)) ((at? v34 v36).bind fun b40 => cond ((v37 == b40.A) && ((v38 == b40.B) && true)) (some v36) ((Fslices_Index_Pair.l2 k2) v34 v35 (IntKind.i64.wrap (v36 + (1 : Int))) v37 v38)) (some (-1 : Int))
def Fslices_Index_Pair (k : Nat) (a0 : List Timpl_Pair) (a1 : Timpl_Pair) : Option Int := Fslices_Index_Pair.l2 k a0 (a0.length : Int) (0 : Int) a1.A a1.B
theorem ent283 : MG.Enters Try.prog 283 := ⟨Try.f283, Try.func283, rfl, by decide⟩
set_option maxHeartbeats 8000000 in
set_option maxRecDepth 100000 in
theorem Fslices_Index_Pair_gives (k : Nat) (g0 : Bool) (a0 : List Timpl_Pair) (a1 : Timpl_Pair) (r : Int) (H : Fslices_Index_Pair k a0 a1 = some r) : Gives Try.prog 283 [V.one (Cell.sl g0 (List.map eTimpl_Pair a0)), V.agg [cI a1.A, cI a1.B]] [] [V.one (cI r)] [] := by
  refine Gives.intro Try.func283 rfl rfl rfl rfl ?_
  intro F hF hm
  unfold Fslices_Index_Pair at H
  obtain ⟨K, hK⟩ : ∃ K, k ≤ K := ⟨k, Nat.le_refl k⟩
  refine WpC.seq ?_
  refine WpC.regionL ?_
  refine L.box 3 hF rfl rfl rfl rfl ?_
  refine L.assign hF rfl rfl rfl ?_
  refine L.nil ?_
  refine WpC.seq ?_
  refine WpC.seq ?_
  refine WpC.regionL ?_
  refine L.move hF rfl rfl rfl ?_
  refine L.lenR (xs := a0) (e := eTimpl_Pair) Try.underlying88 hF rfl rfl rfl rfl ?_
  refine L.move hF rfl rfl rfl ?_
  refine L.nil ?_
  refine WpC.block ?_
  refine WpC.loopL (P := Try.prog) (fun n σ => ∃ v34 : List Timpl_Pair, ∃ v35 : Int, ∃ v36 : Int, ∃ v37 : Int, ∃ v38 : Int, n ≤ K ∧ Fslices_Index_Pair.l2 n v34 v35 v36 v37 v38 = some r ∧ σ = mkSt [(0, MG.one (Cell.sl g0 (List.map eTimpl_Pair v34))), (3, MG.one (Cell.ptr 0 0)), (7, MG.one (cI v35)), (8, MG.one (cI v36))] [] [(0, [cI v37, cI v38])] 1) k ⟨_, ⟨a0, (a0.length : Int), (0 : Int), a1.A, a1.B, by omega, H, rfl⟩, Le.mk [(0, 3)] hm rfl ⟨⟨_, rfl, rfl⟩, ⟨_, rfl, rfl⟩, ⟨_, rfl, rfl⟩, ⟨_, rfl, rfl⟩, trivial⟩ trivial ⟨⟨_, _, rfl, rfl, rfl⟩, trivial⟩⟩ ?_
  clear H
  rintro k2 _ ⟨v34, v35, v36, v37, v38, hk2, H, rfl⟩
  cases k2 with
  | zero => cases H
  | succ k2 =>
    rw [Fslices_Index_Pair.l2] at H
    refine WpC.seq ?_
    refine WpC.regionL ?_
    refine L.bin hF rfl rfl rfl rfl rfl rfl ?_
    refine L.nil ?_
    refine WpC.seq ?_
    refine WpC.cond rfl (fun hc => ?_) (fun hc => ?_)
    · replace H := condT hc H
      refine WpC.skip ?_
      refine WpC.seq ?_
      refine WpC.block ?_
      refine WpC.seq ?_
      refine WpC.regionL ?_
      refine L.move hF rfl rfl rfl ?_
      refine L.assign hF rfl rfl rfl ?_
      refine L.nil ?_
      refine WpC.seq ?_
      refine S.begin mixed (by kernel_rfl) ?_
      refine S.st 0 rfl rfl (Qu.load) (fun Q0 k0 => L.loadPtr shape256 hF rfl rfl rfl rfl rfl rfl (L.nil k0)) ?_
      refine S.st 1 rfl rfl ((Ca.move).quiet) (fun Q0 k0 => L.move hF rfl rfl rfl (L.nil k0)) ?_
      refine S.st 2 rfl rfl ((Ca.move).quiet) (fun Q0 k0 => L.move hF rfl rfl rfl (L.nil k0)) ?_
      obtain ⟨b40, hb40, H⟩ := bindS H
      refine S.st 3 rfl rfl ((Ca.indexAddr).quiet) (fun Q0 k0 => L.idxR (xs := v34) (e := eTimpl_Pair) Try.underlying88 info256 hF rfl rfl rfl rfl rfl hb40 rfl rfl (L.nil k0)) ?_
      refine S.st 4 rfl rfl (Qu.load) (fun Q0 k0 => L.loadPe shape256 hF rfl rfl rfl rfl rfl (L.nil k0)) ?_
      refine S.st 5 rfl rfl ((Ca.eqA (r := ((v37 == b40.A) && ((v38 == b40.B) && true))) rfl rfl rfl rfl (by kernel_rfl) (by kernel_rfl)).quiet) (fun Q0 k0 => L.eqA (r := ((v37 == b40.A) && ((v38 == b40.B) && true))) hF rfl rfl rfl rfl rfl rfl (by kernel_rfl) (by kernel_rfl) (L.nil k0)) ?_
      refine S.nil ?_
      refine WpC.cond rfl (fun hc => ?_) (fun hc => ?_)
      · replace H := condT hc H
        refine WpC.seq ?_
        refine WpC.regionL ?_
        refine L.move hF rfl rfl rfl ?_
        refine L.assign hF rfl rfl rfl ?_
        refine L.nil ?_
        refine WpC.ret ?_
        cases H
        exact Leaves.ret rfl rfl rfl ⟨rfl, rfl⟩
      · replace H := condF hc H
        refine WpC.skip ?_
        refine WpC.regionL ?_
        refine L.bin hF rfl rfl rfl rfl rfl rfl ?_
        refine L.move hF rfl rfl rfl ?_
        refine L.nil ?_
        exact ⟨k2, _, by omega, ⟨v34, v35, (IntKind.i64.wrap (v36 + (1 : Int))), v37, v38, by omega, H, rfl⟩, Le.mk [(0, 0)] hm rfl ⟨⟨_, rfl, rfl⟩, ⟨_, rfl, rfl⟩, ⟨_, rfl, rfl⟩, ⟨_, rfl, rfl⟩, trivial⟩ trivial ⟨⟨_, _, rfl, rfl, rfl⟩, trivial⟩⟩
    · replace H := condF hc H
      refine WpC.exit ?_
      refine WpC.seq ?_
      refine WpC.regionL ?_
      refine L.assign hF rfl rfl rfl ?_
      refine L.nil ?_
      refine WpC.ret ?_
      cases H
      exact Leaves.ret rfl rfl rfl ⟨rfl, rfl⟩
/-! ### Fslices_Contains_Pair -/
def Fslices_Contains_Pair (k : Nat) (a0 : List Timpl_Pair) (a1 : Timpl_Pair) : Option Bool := (Fslices_Index_Pair k a0 a1).bind fun r1 => some (decide (r1 ≥ (0 : Int)))
theorem ent252 : MG.Enters Try.prog 252 := ⟨Try.f252, Try.func252, rfl, by decide⟩
set_option maxHeartbeats 8000000 in
set_option maxRecDepth 100000 in
theorem Fslices_Contains_Pair_gives (k : Nat) (g0 : Bool) (a0 : List Timpl_Pair) (a1 : Timpl_Pair) (r : Bool) (H : Fslices_Contains_Pair k a0 a1 = some r) : Gives Try.prog 252 [V.one (Cell.sl g0 (List.map eTimpl_Pair a0)), V.agg [cI a1.A, cI a1.B]] [] [V.one (cL r)] [] := by
  refine Gives.intro Try.func252 rfl rfl rfl rfl ?_
  intro F hF hm
  unfold Fslices_Contains_Pair at H
  obtain ⟨K, hK⟩ : ∃ K, k ≤ K := ⟨k, Nat.le_refl k⟩
  refine WpC.seq ?_
  refine WpC.regionL ?_
  refine L.box 3 hF rfl rfl rfl rfl ?_
  refine L.assign hF rfl rfl rfl ?_
  refine L.nil ?_
  refine WpC.seq ?_
  refine WpC.regionL ?_
  refine L.move hF rfl rfl rfl ?_
  refine L.loadPtr shape256 hF rfl rfl rfl rfl rfl rfl ?_
  obtain ⟨r1, hr1, H⟩ := bindS H
  refine L.call [false, false] [] [] 4 hF rfl rfl rfl ent283 rfl rfl rfl rfl rfl (Fslices_Index_Pair_gives k g0 a0 a1 r1 hr1) rfl ?_
  refine L.bin hF rfl rfl rfl rfl rfl rfl ?_
  refine L.assign hF rfl rfl rfl ?_
  refine L.nil ?_
  refine WpC.ret ?_
  cases H
  exact Leaves.ret rfl rfl rfl ⟨rfl, rfl⟩
/-! ### Fimpl_arePairs__impl_ConfigOk_1 -/
def Fimpl_arePairs__impl_ConfigOk_1.l2 : Nat → (List Timpl_Pair) → Int → Int → Option Bool
  | 0, _, _, _ => none
  | k2 + 1, v84, v85, v86 => cond (decide (v86 < v85)) ((at? v84 v86).bind fun b94 => (Fimpl_ConfigOk_1 k2 b94).bind fun r98 => cond (!r98) (some false) ((part? v84 (0 : Int) v86).bind fun b100 => (Fslices_Contains_Pair k2 b100 b94).bind fun r101 => cond r101 (some false) ((Fimpl_arePairs__impl_ConfigOk_1.l2 k2) v84 v85 (IntKind.i64.wrap (v86 + (1 : Int)))))) (some (decide ((v84.length : Int) ≤ (6 : Int))))
def Fimpl_arePairs__impl_ConfigOk_1 (k : Nat) (a0 : List Timpl_Pair) : Option Bool := Fimpl_arePairs__impl_ConfigOk_1.l2 k a0 (a0.length : Int) (0 : Int)
theorem ent246 : MG.Enters Try.prog 246 := ⟨Try.f246, Try.func246, rfl, by decide⟩
set_option maxHeartbeats 8000000 in
set_option maxRecDepth 100000 in
theorem Fimpl_arePairs__impl_ConfigOk_1_gives (k : Nat) (g0 : Bool) (a0 : List Timpl_Pair) (r : Bool) (H : Fimpl_arePairs__impl_ConfigOk_1 k a0 = some r) : Gives Try.prog 246 [V.one (Cell.sl g0 (List.map eTimpl_Pair a0)), V.one (Cell.clo 247 [])] [] [V.one (cL r)] [] := by
  refine Gives.intro Try.func246 rfl rfl rfl rfl ?_
  intro F hF hm
  unfold Fimpl_arePairs__impl_ConfigOk_1 at H
  obtain ⟨K, hK⟩ : ∃ K, k ≤ K := ⟨k, Nat.le_refl k⟩
  refine WpC.seq ?_
  refine WpC.regionL ?_
  refine L.assign hF rfl rfl rfl ?_
  refine L.nil ?_
  refine WpC.seq ?_
  refine WpC.seq ?_
  refine WpC.regionL ?_
  refine L.move hF rfl rfl rfl ?_
  refine L.lenR (xs := a0) (e := eTimpl_Pair) Try.underlying88 hF rfl rfl rfl rfl ?_
  refine L.move hF rfl rfl rfl ?_
  refine L.nil ?_
  refine WpC.block ?_
  refine WpC.loopL (P := Try.prog) (fun n σ => ∃ v84 : List Timpl_Pair, ∃ v85 : Int, ∃ v86 : Int, n ≤ K ∧ Fimpl_arePairs__impl_ConfigOk_1.l2 n v84 v85 v86 = some r ∧ σ = mkSt [(0, MG.one (Cell.sl g0 (List.map eTimpl_Pair v84))), (1, MG.one (Cell.clo 247 [])), (7, MG.one (Cell.sl g0 (List.map eTimpl_Pair v84))), (8, MG.one (cI v85)), (9, MG.one (cI v86))] [] [] 0) k ⟨_, ⟨a0, (a0.length : Int), (0 : Int), by omega, H, rfl⟩, Le.mk [] hm rfl ⟨⟨_, rfl, rfl⟩, ⟨_, rfl, rfl⟩, ⟨_, rfl, rfl⟩, ⟨_, rfl, rfl⟩, ⟨_, rfl, rfl⟩, trivial⟩ trivial trivial⟩ ?_
  clear H
  rintro k2 _ ⟨v84, v85, v86, hk2, H, rfl⟩
  cases k2 with
  | zero => cases H
  | succ k2 =>
    rw [Fimpl_arePairs__impl_ConfigOk_1.l2] at H
    refine WpC.seq ?_
    refine WpC.regionL ?_
    refine L.bin hF rfl rfl rfl rfl rfl rfl ?_
    refine L.nil ?_
    refine WpC.seq ?_
    refine WpC.cond rfl (fun hc => ?_) (fun hc => ?_)
    · replace H := condT hc H
      refine WpC.skip ?_
      refine WpC.seq ?_
      refine WpC.block ?_
      refine WpC.seq ?_
      refine WpC.regionL ?_
      refine L.move hF rfl rfl rfl ?_
      obtain ⟨b94, hb94, H⟩ := bindS H
      refine L.idxR (xs := v84) (e := eTimpl_Pair) Try.underlying88 info256 hF rfl rfl rfl rfl rfl hb94 rfl rfl ?_
      refine L.loadPe shape256 hF rfl rfl rfl rfl rfl ?_
      refine L.alloc 0 info256 rfl hF rfl rfl rfl rfl ?_
      refine L.assign hF rfl rfl rfl ?_
      refine L.storePtr shape256 hF rfl rfl rfl rfl rfl rfl rfl ?_
      refine L.nil ?_
      refine WpC.seq ?_
      obtain ⟨r98, hr98, H⟩ := bindS H
      rcases Bool.eq_false_or_eq_true ((!r98)) with hc99 | hc99
      · replace H := condT hc99 H
        refine A.begin mixed rfl rfl ?_
        intro W hI hO
        refine hI _ _ _ ?_
        refine A.take 0 rfl (by kernel_rfl) (by kernel_rfl) (by kernel_rfl) rfl (Ca.move) (fun Q0 k0 => L.move hF rfl rfl rfl (L.nil k0)) ?_
        refine A.all [1] (by kernel_rfl) rfl ⟨⟨_, rfl, ?_⟩, trivial⟩
        refine L.loadPtr shape256 hF rfl rfl rfl rfl rfl rfl ?_
        refine L.nil ?_
        refine A.all [2] (by kernel_rfl) rfl ⟨⟨_, rfl, ?_⟩, trivial⟩
        refine L.call [false] [] [] 1 hF rfl rfl rfl ent247 rfl rfl rfl rfl rfl (Fimpl_ConfigOk_1_gives k2  b94 r98 hr98) rfl ?_
        refine L.nil ?_
        refine A.take 3 rfl (by kernel_rfl) (by kernel_rfl) (by kernel_rfl) rfl (Ca.un rfl rfl) (fun Q0 k0 => L.not hF rfl rfl rfl (L.nil k0)) ?_
        refine A.take 4 rfl (by kernel_rfl) (by kernel_rfl) (by kernel_rfl) rfl (Ca.move) (fun Q0 k0 => L.move hF rfl rfl rfl (L.nil k0)) ?_
        refine A.le (τ := mkSt [(0, MG.one (Cell.sl g0 (List.map eTimpl_Pair v84))), (1, MG.one (Cell.clo 247 [])), (5, MG.one (cI v86)), (6, MG.one (Cell.ptr 0 0)), (7, MG.one (Cell.sl g0 (List.map eTimpl_Pair v84))), (8, MG.one (cI v85)), (9, MG.one (cI v86)), (18, MG.one (cL true))] [] [(0, [cI b94.A, cI b94.B])] 1) (Le.mk [(0, 0)] hm rfl ⟨⟨_, rfl, rfl⟩, ⟨_, rfl, rfl⟩, ⟨_, rfl, rfl⟩, ⟨_, rfl, rfl⟩, ⟨_, rfl, rfl⟩, ⟨_, rfl, rfl⟩, ⟨_, rfl, rfl⟩, ⟨_, rfl, congrArg (fun b => some (MG.one (cL b))) hc99⟩, trivial⟩ trivial ⟨⟨_, _, rfl, rfl, rfl⟩, trivial⟩) ?_
        refine A.off 5 rfl (by kernel_rfl) (by kernel_rfl) (by kernel_rfl) rfl hF rfl rfl ?_
        refine A.off 6 rfl (by kernel_rfl) (by kernel_rfl) (by kernel_rfl) rfl hF rfl rfl ?_
        refine A.off 7 rfl (by kernel_rfl) (by kernel_rfl) (by kernel_rfl) rfl hF rfl rfl ?_
        refine A.off 8 rfl (by kernel_rfl) (by kernel_rfl) (by kernel_rfl) rfl hF rfl rfl ?_
        refine A.all [9] (by kernel_rfl) rfl ⟨⟨_, rfl, ?_⟩, trivial⟩
        refine L.off hF rfl rfl ?_
        refine L.nil ?_
        refine A.take 10 rfl (by kernel_rfl) (by kernel_rfl) (by kernel_rfl) rfl (Ca.pick) (fun Q0 k0 => L.pick hF rfl rfl rfl rfl (L.nil k0)) ?_
        refine A.le (τ := mkSt [(0, MG.one (Cell.sl g0 (List.map eTimpl_Pair v84))), (1, MG.one (Cell.clo 247 [])), (7, MG.one (Cell.sl g0 (List.map eTimpl_Pair v84))), (8, MG.one (cI v85)), (9, MG.one (cI v86)), (19, Slot.tup []), (20, Slot.tup []), (21, Slot.tup []), (22, Slot.tup []), (23, Slot.tup []), (24, MG.one (cL true))] [] [] 0) (Le.mk [] hm rfl ⟨⟨_, rfl, rfl⟩, ⟨_, rfl, rfl⟩, ⟨_, rfl, rfl⟩, ⟨_, rfl, rfl⟩, ⟨_, rfl, rfl⟩, ⟨_, rfl, rfl⟩, ⟨_, rfl, rfl⟩, ⟨_, rfl, rfl⟩, ⟨_, rfl, rfl⟩, ⟨_, rfl, rfl⟩, ⟨_, rfl, rfl⟩, trivial⟩ trivial trivial) ?_
        refine A.done (by kernel_rfl) ?_
        refine WpC.cond rfl (fun _ => ?_) (fun hc => by cases hc)
        refine WpC.seq ?_
        refine WpC.regionL ?_
        refine L.assign hF rfl rfl rfl ?_
        refine L.nil ?_
        refine WpC.ret ?_
        cases H
        exact Leaves.ret rfl rfl rfl ⟨rfl, rfl⟩
      · replace H := condF hc99 H
        obtain ⟨b100, hb100, H⟩ := bindS H
        obtain ⟨r101, hr101, H⟩ := bindS H
        refine A.begin mixed rfl rfl ?_
        intro W hI hO
        refine hI _ _ _ ?_
        refine A.take 0 rfl (by kernel_rfl) (by kernel_rfl) (by kernel_rfl) rfl (Ca.move) (fun Q0 k0 => L.move hF rfl rfl rfl (L.nil k0)) ?_
        refine A.all [1] (by kernel_rfl) rfl ⟨⟨_, rfl, ?_⟩, trivial⟩
        refine L.loadPtr shape256 hF rfl rfl rfl rfl rfl rfl ?_
        refine L.nil ?_
        refine A.all [2] (by kernel_rfl) rfl ⟨⟨_, rfl, ?_⟩, trivial⟩
        refine L.call [false] [] [] 1 hF rfl rfl rfl ent247 rfl rfl rfl rfl rfl (Fimpl_ConfigOk_1_gives k2  b94 r98 hr98) rfl ?_
        refine L.nil ?_
        refine A.take 3 rfl (by kernel_rfl) (by kernel_rfl) (by kernel_rfl) rfl (Ca.un rfl rfl) (fun Q0 k0 => L.not hF rfl rfl rfl (L.nil k0)) ?_
        refine A.take 4 rfl (by kernel_rfl) (by kernel_rfl) (by kernel_rfl) rfl (Ca.move) (fun Q0 k0 => L.move hF rfl rfl rfl (L.nil k0)) ?_
        refine A.le (τ := mkSt [(0, MG.one (Cell.sl g0 (List.map eTimpl_Pair v84))), (1, MG.one (Cell.clo 247 [])), (5, MG.one (cI v86)), (6, MG.one (Cell.ptr 0 0)), (7, MG.one (Cell.sl g0 (List.map eTimpl_Pair v84))), (8, MG.one (cI v85)), (9, MG.one (cI v86)), (18, MG.one (cL false))] [] [(0, [cI b94.A, cI b94.B])] 1) (Le.mk [(0, 0)] hm rfl ⟨⟨_, rfl, rfl⟩, ⟨_, rfl, rfl⟩, ⟨_, rfl, rfl⟩, ⟨_, rfl, rfl⟩, ⟨_, rfl, rfl⟩, ⟨_, rfl, rfl⟩, ⟨_, rfl, rfl⟩, ⟨_, rfl, congrArg (fun b => some (MG.one (cL b))) hc99⟩, trivial⟩ trivial ⟨⟨_, _, rfl, rfl, rfl⟩, trivial⟩) ?_
        refine A.take 5 rfl (by kernel_rfl) (by kernel_rfl) (by kernel_rfl) rfl (Ca.move) (fun Q0 k0 => L.move hF rfl rfl rfl (L.nil k0)) ?_
        refine A.take 6 rfl (by kernel_rfl) (by kernel_rfl) (by kernel_rfl) rfl (Ca.move) (fun Q0 k0 => L.move hF rfl rfl rfl (L.nil k0)) ?_
        refine A.take 7 rfl (by kernel_rfl) (by kernel_rfl) (by kernel_rfl) rfl (Ca.slice) (fun Q0 k0 => L.cutR (xs := v84) (ys := b100) (e := eTimpl_Pair) Try.underlying88 info256 hF rfl rfl rfl rfl rfl hb100 (fun _ => rfl) (L.nil k0)) ?_
        refine A.all [8] (by kernel_rfl) rfl ⟨⟨_, rfl, ?_⟩, trivial⟩
        refine L.loadPtr shape256 hF rfl rfl rfl rfl rfl rfl ?_
        refine L.nil ?_
        refine A.all [9] (by kernel_rfl) rfl ⟨⟨_, rfl, ?_⟩, trivial⟩
        refine L.call [false, false] [] [] 1 hF rfl rfl rfl ent252 rfl rfl rfl rfl rfl (Fslices_Contains_Pair_gives k2 g0 b100 b94 r101 hr101) rfl ?_
        refine L.nil ?_
        refine A.take 10 rfl (by kernel_rfl) (by kernel_rfl) (by kernel_rfl) rfl (Ca.pick) (fun Q0 k0 => L.pick hF rfl rfl rfl rfl (L.nil k0)) ?_
        refine A.le (τ := mkSt [(0, MG.one (Cell.sl g0 (List.map eTimpl_Pair v84))), (1, MG.one (Cell.clo 247 [])), (7, MG.one (Cell.sl g0 (List.map eTimpl_Pair v84))), (8, MG.one (cI v85)), (9, MG.one (cI v86)), (19, MG.one (Cell.sl g0 (List.map eTimpl_Pair v84))), (20, MG.one (cI v86)), (21, MG.one (Cell.sl g0 (List.map eTimpl_Pair b100))), (22, agg [cI b94.A, cI b94.B]), (23, MG.one (cL r101)), (24, MG.one (cL r101))] [] [] 0) (Le.mk [] hm rfl ⟨⟨_, rfl, rfl⟩, ⟨_, rfl, rfl⟩, ⟨_, rfl, rfl⟩, ⟨_, rfl, rfl⟩, ⟨_, rfl, rfl⟩, ⟨_, rfl, rfl⟩, ⟨_, rfl, rfl⟩, ⟨_, rfl, rfl⟩, ⟨_, rfl, rfl⟩, ⟨_, rfl, rfl⟩, ⟨_, rfl, rfl⟩, trivial⟩ trivial trivial) ?_
        refine A.done (by kernel_rfl) ?_
        refine WpC.cond rfl (fun hc => ?_) (fun hc => ?_)
        · replace H := condT hc H
          refine WpC.seq ?_
          refine WpC.regionL ?_
          refine L.assign hF rfl rfl rfl ?_
          refine L.nil ?_
          refine WpC.ret ?_
          cases H
          exact Leaves.ret rfl rfl rfl ⟨rfl, rfl⟩
        · replace H := condF hc H
          refine WpC.skip ?_
          refine WpC.regionL ?_
          refine L.bin hF rfl rfl rfl rfl rfl rfl ?_
          refine L.move hF rfl rfl rfl ?_
          refine L.nil ?_
          exact ⟨k2, _, by omega, ⟨v84, v85, (IntKind.i64.wrap (v86 + (1 : Int))), by omega, H, rfl⟩, Le.mk [] hm rfl ⟨⟨_, rfl, rfl⟩, ⟨_, rfl, rfl⟩, ⟨_, rfl, rfl⟩, ⟨_, rfl, rfl⟩, ⟨_, rfl, rfl⟩, trivial⟩ trivial trivial⟩
    · replace H := condF hc H
      refine WpC.exit ?_
      refine WpC.seq ?_
      refine WpC.regionL ?_
      refine L.move hF rfl rfl rfl ?_
      refine L.lenR (xs := v84) (e := eTimpl_Pair) Try.underlying88 hF rfl rfl rfl rfl ?_
      refine L.bin hF rfl rfl rfl rfl rfl rfl ?_
      refine L.assign hF rfl rfl rfl ?_
      refine L.nil ?_
      refine WpC.ret ?_
      cases H
      exact Leaves.ret rfl rfl rfl ⟨rfl, rfl⟩
/-! ### Fimpl_isService -/
def Fimpl_isService (k : Nat) (a0 : Int) : Option Bool := (Fimpl_within k a0 (0 : Int) (2 : Int)).bind fun r1 => some r1
theorem ent157 : MG.Enters Try.prog 157 := ⟨Try.f157, Try.func157, rfl, by decide⟩
set_option maxHeartbeats 8000000 in
set_option maxRecDepth 100000 in
theorem Fimpl_isService_gives (k : Nat) (a0 : Int) (r : Bool) (H : Fimpl_isService k a0 = some r) : Gives Try.prog 157 [V.one (cI a0)] [] [V.one (cL r)] [] := by
  refine Gives.intro Try.func157 rfl rfl rfl rfl ?_
  intro F hF hm
  unfold Fimpl_isService at H
  obtain ⟨K, hK⟩ : ∃ K, k ≤ K := ⟨k, Nat.le_refl k⟩
  refine WpC.seq ?_
  refine WpC.regionL ?_
  refine L.assign hF rfl rfl rfl ?_
  refine L.nil ?_
  refine WpC.seq ?_
  refine WpC.regionL ?_
  refine L.move hF rfl rfl rfl ?_
  obtain ⟨r1, hr1, H⟩ := bindS H
  refine L.call [false, false, false] [] [] 1 hF rfl rfl rfl ent113 rfl rfl rfl rfl rfl (Fimpl_within_gives k  a0 (0 : Int) (2 : Int) r1 hr1) rfl ?_
  refine L.assign hF rfl rfl rfl ?_
  refine L.nil ?_
  refine WpC.ret ?_
  cases H
  exact Leaves.ret rfl rfl rfl ⟨rfl, rfl⟩
/-! ### Fimpl_ConfigOk_2 -/
def Fimpl_ConfigOk_2 (k : Nat) (a0 : Timpl_Pair) : Option Bool := (Fimpl_isService k a0.A).bind fun r3 => cond r3 ((Fimpl_isService k a0.B).bind fun r4 => some r4) (some false)
theorem ent248 : MG.Enters Try.prog 248 := ⟨Try.f248, Try.func248, rfl, by decide⟩
set_option maxHeartbeats 8000000 in
set_option maxRecDepth 100000 in
theorem Fimpl_ConfigOk_2_gives (k : Nat) (a0 : Timpl_Pair) (r : Bool) (H : Fimpl_ConfigOk_2 k a0 = some r) : Gives Try.prog 248 [V.agg [cI a0.A, cI a0.B]] [] [V.one (cL r)] [] := by
  refine Gives.intro Try.func248 rfl rfl rfl rfl ?_
  intro F hF hm
  unfold Fimpl_ConfigOk_2 at H
  obtain ⟨K, hK⟩ : ∃ K, k ≤ K := ⟨k, Nat.le_refl k⟩
  refine WpC.seq ?_
  refine WpC.regionL ?_
  refine L.box 2 hF rfl rfl rfl rfl ?_
  refine L.assign hF rfl rfl rfl ?_
  refine L.nil ?_
  refine WpC.seq ?_
  refine WpC.regionL ?_
  refine L.fieldAddr Try.underlying256 rfl info3 rfl hF rfl rfl rfl rfl rfl ?_
  refine L.loadPtr shape3 hF rfl rfl rfl rfl rfl rfl ?_
  obtain ⟨r3, hr3, H⟩ := bindS H
  refine L.call [false] [] [] 3 hF rfl rfl rfl ent157 rfl rfl rfl rfl rfl (Fimpl_isService_gives k  a0.A r3 hr3) rfl ?_
  refine L.move hF rfl rfl rfl ?_
  refine L.split (fun hc => ?_) (fun hc => ?_)
  · replace H := condT hc H
    refine L.fieldAddr Try.underlying256 rfl info3 rfl hF rfl rfl rfl rfl rfl ?_
    refine L.loadPtr shape3 hF rfl rfl rfl rfl rfl rfl ?_
    obtain ⟨r4, hr4, H⟩ := bindS H
    refine L.call [false] [] [] 4 hF rfl rfl rfl ent157 rfl rfl rfl rfl rfl (Fimpl_isService_gives k  a0.B r4 hr4) rfl ?_
    refine L.pick hF rfl rfl rfl rfl ?_
    refine L.assign hF rfl rfl rfl ?_
    refine L.nil ?_
    refine WpC.ret ?_
    cases H
    exact Leaves.ret rfl rfl rfl ⟨rfl, rfl⟩
  · replace H := condF hc H
    refine L.off hF rfl rfl ?_
    refine L.off hF rfl rfl ?_
    refine L.off hF rfl rfl ?_
    refine L.pick hF rfl rfl rfl rfl ?_
    refine L.assign hF rfl rfl rfl ?_
    refine L.nil ?_
    refine WpC.ret ?_
    cases H
    exact Leaves.ret rfl rfl rfl ⟨rfl, rfl⟩
/-! ### Fimpl_arePairs__impl_ConfigOk_2 -/
def Fimpl_arePairs__impl_ConfigOk_2.l2 : Nat → (List Timpl_Pair) → Int → Int → Option Bool
  | 0, _, _, _ => none
  | k2 + 1, v84, v85, v86 => cond (decide (v86 < v85)) ((at? v84 v86).bind fun b94 => (Fimpl_ConfigOk_2 k2 b94).bind fun r98 => cond (!r98) (some false) ((part? v84 (0 : Int) v86).bind fun b100 => (Fslices_Contains_Pair k2 b100 b94).bind fun r101 => cond r101 (some false) ((Fimpl_arePairs__impl_ConfigOk_2.l2 k2) v84 v85 (IntKind.i64.wrap (v86 + (1 : Int)))))) (some (decide ((v84.length : Int) ≤ (6 : Int))))
def Fimpl_arePairs__impl_ConfigOk_2 (k : Nat) (a0 : List Timpl_Pair) : Option Bool := Fimpl_arePairs__impl_ConfigOk_2.l2 k a0 (a0.length : Int) (0 : Int)
set_option maxHeartbeats 8000000 in
set_option maxRecDepth 100000 in
theorem Fimpl_arePairs__impl_ConfigOk_2_gives (k : Nat) (g0 : Bool) (a0 : List Timpl_Pair) (r : Bool) (H : Fimpl_arePairs__impl_ConfigOk_2 k a0 = some r) : Gives Try.prog 246 [V.one (Cell.sl g0 (List.map eTimpl_Pair a0)), V.one (Cell.clo 248 [])] [] [V.one (cL r)] [] := by
  refine Gives.intro Try.func246 rfl rfl rfl rfl ?_
  intro F hF hm
  unfold Fimpl_arePairs__impl_ConfigOk_2 at H
  obtain ⟨K, hK⟩ : ∃ K, k ≤ K := ⟨k, Nat.le_refl k⟩
  refine WpC.seq ?_
  refine WpC.regionL ?_
  refine L.assign hF rfl rfl rfl ?_
  refine L.nil ?_
  refine WpC.seq ?_
  refine WpC.seq ?_
  refine WpC.regionL ?_
  refine L.move hF rfl rfl rfl ?_
  refine L.lenR (xs := a0) (e := eTimpl_Pair) Try.underlying88 hF rfl rfl rfl rfl ?_
  refine L.move hF rfl rfl rfl ?_
  refine L.nil ?_
  refine WpC.block ?_
  refine WpC.loopL (P := Try.prog) (fun n σ => ∃ v84 : List Timpl_Pair, ∃ v85 : Int, ∃ v86 : Int, n ≤ K ∧ Fimpl_arePairs__impl_ConfigOk_2.l2 n v84 v85 v86 = some r ∧ σ = mkSt [(0, MG.one (Cell.sl g0 (List.map eTimpl_Pair v84))), (1, MG.one (Cell.clo 248 [])), (7, MG.one (Cell.sl g0 (List.map eTimpl_Pair v84))), (8, MG.one (cI v85)), (9, MG.one (cI v86))] [] [] 0) k ⟨_, ⟨a0, (a0.length : Int), (0 : Int), by omega, H, rfl⟩, Le.mk [] hm rfl ⟨⟨_, rfl, rfl⟩, ⟨_, rfl, rfl⟩, ⟨_, rfl, rfl⟩, ⟨_, rfl, rfl⟩, ⟨_, rfl, rfl⟩, trivial⟩ trivial trivial⟩ ?_
  clear H
  rintro k2 _ ⟨v84, v85, v86, hk2, H, rfl⟩
  cases k2 with
  | zero => cases H
  | succ k2 =>
    rw [Fimpl_arePairs__impl_ConfigOk_2.l2] at H
    refine WpC.seq ?_
    refine WpC.regionL ?_
    refine L.bin hF rfl rfl rfl rfl rfl rfl ?_
    refine L.nil ?_
    refine WpC.seq ?_
    refine WpC.cond rfl (fun hc => ?_) (fun hc => ?_)
    · replace H := condT hc H
      refine WpC.skip ?_
      refine WpC.seq ?_
      refine WpC.block ?_
      refine WpC.seq ?_
      refine WpC.regionL ?_
      refine L.move hF rfl rfl rfl ?_
      obtain ⟨b94, hb94, H⟩ := bindS H
      refine L.idxR (xs := v84) (e := eTimpl_Pair) Try.underlying88 info256 hF rfl rfl rfl rfl rfl hb94 rfl rfl ?_
      refine L.loadPe shape256 hF rfl rfl rfl rfl rfl ?_
      refine L.alloc 0 info256 rfl hF rfl rfl rfl rfl ?_
      refine L.assign hF rfl rfl rfl ?_
      refine L.storePtr shape256 hF rfl rfl rfl rfl rfl rfl rfl ?_
      refine L.nil ?_
      refine WpC.seq ?_
      obtain ⟨r98, hr98, H⟩ := bindS H
      rcases Bool.eq_false_or_eq_true ((!r98)) with hc99 | hc99
      · replace H := condT hc99 H
        refine A.begin mixed rfl rfl ?_
        intro W hI hO
        refine hI _ _ _ ?_
        refine A.take 0 rfl (by kernel_rfl) (by kernel_rfl) (by kernel_rfl) rfl (Ca.move) (fun Q0 k0 => L.move hF rfl rfl rfl (L.nil k0)) ?_
        refine A.all [1] (by kernel_rfl) rfl ⟨⟨_, rfl, ?_⟩, trivial⟩
        refine L.loadPtr shape256 hF rfl rfl rfl rfl rfl rfl ?_
        refine L.nil ?_
        refine A.all [2] (by kernel_rfl) rfl ⟨⟨_, rfl, ?_⟩, trivial⟩
        refine L.call [false] [] [] 1 hF rfl rfl rfl ent248 rfl rfl rfl rfl rfl (Fimpl_ConfigOk_2_gives k2  b94 r98 hr98) rfl ?_
        refine L.nil ?_
        refine A.take 3 rfl (by kernel_rfl) (by kernel_rfl) (by kernel_rfl) rfl (Ca.un rfl rfl) (fun Q0 k0 => L.not hF rfl rfl rfl (L.nil k0)) ?_
        refine A.take 4 rfl (by kernel_rfl) (by kernel_rfl) (by kernel_rfl) rfl (Ca.move) (fun Q0 k0 => L.move hF rfl rfl rfl (L.nil k0)) ?_
        refine A.le (τ := mkSt [(0, MG.one (Cell.sl g0 (List.map eTimpl_Pair v84))), (1, MG.one (Cell.clo 248 [])), (5, MG.one (cI v86)), (6, MG.one (Cell.ptr 0 0)), (7, MG.one (Cell.sl g0 (List.map eTimpl_Pair v84))), (8, MG.one (cI v85)), (9, MG.one (cI v86)), (18, MG.one (cL true))] [] [(0, [cI b94.A, cI b94.B])] 1) (Le.mk [(0, 0)] hm rfl ⟨⟨_, rfl, rfl⟩, ⟨_, rfl, rfl⟩, ⟨_, rfl, rfl⟩, ⟨_, rfl, rfl⟩, ⟨_, rfl, rfl⟩, ⟨_, rfl, rfl⟩, ⟨_, rfl, rfl⟩, ⟨_, rfl, congrArg (fun b => some (MG.one (cL b))) hc99⟩, trivial⟩ trivial ⟨⟨_, _, rfl, rfl, rfl⟩, trivial⟩) ?_
        refine A.off 5 rfl (by kernel_rfl) (by kernel_rfl) (by kernel_rfl) rfl hF rfl rfl ?_
        refine A.off 6 rfl (by kernel_rfl) (by kernel_rfl) (by kernel_rfl) rfl hF rfl rfl ?_
        refine A.off 7 rfl (by kernel_rfl) (by kernel_rfl) (by kernel_rfl) rfl hF rfl rfl ?_
        refine A.off 8 rfl (by kernel_rfl) (by kernel_rfl) (by kernel_rfl) rfl hF rfl rfl ?_
        refine A.all [9] (by kernel_rfl) rfl ⟨⟨_, rfl, ?_⟩, trivial⟩
        refine L.off hF rfl rfl ?_
        refine L.nil ?_
        refine A.take 10 rfl (by kernel_rfl) (by kernel_rfl) (by kernel_rfl) rfl (Ca.pick) (fun Q0 k0 => L.pick hF rfl rfl rfl rfl (L.nil k0)) ?_
        refine A.le (τ := mkSt [(0, MG.one (Cell.sl g0 (List.map eTimpl_Pair v84))), (1, MG.one (Cell.clo 248 [])), (7, MG.one (Cell.sl g0 (List.map eTimpl_Pair v84))), (8, MG.one (cI v85)), (9, MG.one (cI v86)), (19, Slot.tup []), (20, Slot.tup []), (21, Slot.tup []), (22, Slot.tup []), (23, Slot.tup []), (24, MG.one (cL true))] [] [] 0) (Le.mk [] hm rfl ⟨⟨_, rfl, rfl⟩, ⟨_, rfl, rfl⟩, ⟨_, rfl, rfl⟩, ⟨_, rfl, rfl⟩, ⟨_, rfl, rfl⟩, ⟨_, rfl, rfl⟩, ⟨_, rfl, rfl⟩, ⟨_, rfl, rfl⟩, ⟨_, rfl, rfl⟩, ⟨_, rfl, rfl⟩, ⟨_, rfl, rfl⟩, trivial⟩ trivial trivial) ?_
        refine A.done (by kernel_rfl) ?_
        refine WpC.cond rfl (fun _ => ?_) (fun hc => by cases hc)
        refine WpC.seq ?_
        refine WpC.regionL ?_
        refine L.assign hF rfl rfl rfl ?_
        refine L.nil ?_
        refine WpC.ret ?_
        cases H
        exact Leaves.ret rfl rfl rfl ⟨rfl, rfl⟩
      · replace H := condF hc99 H
        obtain ⟨b100, hb100, H⟩ := bindS H
        obtain ⟨r101, hr101, H⟩ := bindS H
        refine A.begin mixed rfl rfl ?_
        intro W hI hO
        refine hI _ _ _ ?_
        refine A.take 0 rfl (by kernel_rfl) (by kernel_rfl) (by kernel_rfl) rfl (Ca.move) (fun Q0 k0 => L.move hF rfl rfl rfl (L.nil k0)) ?_
        refine A.all [1] (by kernel_rfl) rfl ⟨⟨_, rfl, ?_⟩, trivial⟩
        refine L.loadPtr shape256 hF rfl rfl rfl rfl rfl rfl ?_
        refine L.nil ?_
        refine A.all [2] (by kernel_rfl) rfl ⟨⟨_, rfl, ?_⟩, trivial⟩
        refine L.call [false] [] [] 1 hF rfl rfl rfl ent248 rfl rfl rfl rfl rfl (Fimpl_ConfigOk_2_gives k2  b94 r98 hr98) rfl ?_
        refine L.nil ?_
        refine A.take 3 rfl (by kernel_rfl) (by kernel_rfl) (by kernel_rfl) rfl (Ca.un rfl rfl) (fun Q0 k0 => L.not hF rfl rfl rfl (L.nil k0)) ?_
        refine A.take 4 rfl (by kernel_rfl) (by kernel_rfl) (by kernel_rfl) rfl (Ca.move) (fun Q0 k0 => L.move hF rfl rfl rfl (L.nil k0)) ?_
        refine A.le (τ := mkSt [(0, MG.one (Cell.sl g0 (List.map eTimpl_Pair v84))), (1, MG.one (Cell.clo 248 [])), (5, MG.one (cI v86)), (6, MG.one (Cell.ptr 0 0)), (7, MG.one (Cell.sl g0 (List.map eTimpl_Pair v84))), (8, MG.one (cI v85)), (9, MG.one (cI v86)), (18, MG.one (cL false))] [] [(0, [cI b94.A, cI b94.B])] 1) (Le.mk [(0, 0)] hm rfl ⟨⟨_, rfl, rfl⟩, ⟨_, rfl, rfl⟩, ⟨_, rfl, rfl⟩, ⟨_, rfl, rfl⟩, ⟨_, rfl, rfl⟩, ⟨_, rfl, rfl⟩, ⟨_, rfl, rfl⟩, ⟨_, rfl, congrArg (fun b => some (MG.one (cL b))) hc99⟩, trivial⟩ trivial ⟨⟨_, _, rfl, rfl, rfl⟩, trivial⟩) ?_
        refine A.take 5 rfl (by kernel_rfl) (by kernel_rfl) (by kernel_rfl) rfl (Ca.move) (fun Q0 k0 => L.move hF rfl rfl rfl (L.nil k0)) ?_
        refine A.take 6 rfl (by kernel_rfl) (by kernel_rfl) (by kernel_rfl) rfl (Ca.move) (fun Q0 k0 => L.move hF rfl rfl rfl (L.nil k0)) ?_
        refine A.take 7 rfl (by kernel_rfl) (by kernel_rfl) (by kernel_rfl) rfl (Ca.slice) (fun Q0 k0 => L.cutR (xs := v84) (ys := b100) (e := eTimpl_Pair) Try.underlying88 info256 hF rfl rfl rfl rfl rfl hb100 (fun _ => rfl) (L.nil k0)) ?_
        refine A.all [8] (by kernel_rfl) rfl ⟨⟨_, rfl, ?_⟩, trivial⟩
        refine L.loadPtr shape256 hF rfl rfl rfl rfl rfl rfl ?_
        refine L.nil ?_
        refine A.all [9] (by kernel_rfl) rfl ⟨⟨_, rfl, ?_⟩, trivial⟩
        refine L.call [false, false] [] [] 1 hF rfl rfl rfl ent252 rfl rfl rfl rfl rfl (Fslices_Contains_Pair_gives k2 g0 b100 b94 r101 hr101) rfl ?_
        refine L.nil ?_
        refine A.take 10 rfl (by kernel_rfl) (by kernel_rfl) (by kernel_rfl) rfl (Ca.pick) (fun Q0 k0 => L.pick hF rfl rfl rfl rfl (L.nil k0)) ?_
        refine A.le (τ := mkSt [(0, MG.one (Cell.sl g0 (List.map eTimpl_Pair v84))), (1, MG.one (Cell.clo 248 [])), (7, MG.one (Cell.sl g0 (List.map eTimpl_Pair v84))), (8, MG.one (cI v85)), (9, MG.one (cI v86)), (19, MG.one (Cell.sl g0 (List.map eTimpl_Pair v84))), (20, MG.one (cI v86)), (21, MG.one (Cell.sl g0 (List.map eTimpl_Pair b100))), (22, agg [cI b94.A, cI b94.B]), (23, MG.one (cL r101)), (24, MG.one (cL r101))] [] [] 0) (Le.mk [] hm rfl ⟨⟨_, rfl, rfl⟩, ⟨_, rfl, rfl⟩, ⟨_, rfl, rfl⟩, ⟨_, rfl, rfl⟩, ⟨_, rfl, rfl⟩, ⟨_, rfl, rfl⟩, ⟨_, rfl, rfl⟩, ⟨_, rfl, rfl⟩, ⟨_, rfl, rfl⟩, ⟨_, rfl, rfl⟩, ⟨_, rfl, rfl⟩, trivial⟩ trivial trivial) ?_
        refine A.done (by kernel_rfl) ?_
        refine WpC.cond rfl (fun hc => ?_) (fun hc => ?_)
        · replace H := condT hc H
          refine WpC.seq ?_
          refine WpC.regionL ?_
          refine L.assign hF rfl rfl rfl ?_
          refine L.nil ?_
          refine WpC.ret ?_
          cases H
          exact Leaves.ret rfl rfl rfl ⟨rfl, rfl⟩
        · replace H := condF hc H
          refine WpC.skip ?_
          refine WpC.regionL ?_
          refine L.bin hF rfl rfl rfl rfl rfl rfl ?_
          refine L.move hF rfl rfl rfl ?_
          refine L.nil ?_
          exact ⟨k2, _, by omega, ⟨v84, v85, (IntKind.i64.wrap (v86 + (1 : Int))), by omega, H, rfl⟩, Le.mk [] hm rfl ⟨⟨_, rfl, rfl⟩, ⟨_, rfl, rfl⟩, ⟨_, rfl, rfl⟩, ⟨_, rfl, rfl⟩, ⟨_, rfl, rfl⟩, trivial⟩ trivial trivial⟩
    · replace H := condF hc H
      refine WpC.exit ?_
      refine WpC.seq ?_
      refine WpC.regionL ?_
      refine L.move hF rfl rfl rfl ?_
      refine L.lenR (xs := v84) (e := eTimpl_Pair) Try.underlying88 hF rfl rfl rfl rfl ?_
      refine L.bin hF rfl rfl rfl rfl rfl rfl ?_
      refine L.assign hF rfl rfl rfl ?_
      refine L.nil ?_
      refine WpC.ret ?_
      cases H
      exact Leaves.ret rfl rfl rfl ⟨rfl, rfl⟩
/-! ### Fimpl_areAll__impl_isRealm -/
def Fimpl_areAll__impl_isRealm.l2 : Nat → (List Int) → Int → Int → Int → Option Bool
  | 0, _, _, _, _ => none
  | k2 + 1, v39, v40, v41, v42 => cond (decide (v42 < v41)) ((at? v39 v42).bind fun b45 => (Fimpl_isRealm k2 b45).bind fun r46 => cond (!r46) (some false) ((Fimpl_areAll__impl_isRealm.l2 k2) v39 v40 v41 (IntKind.i64.wrap (v42 + (1 : Int))))) (some (decide ((v39.length : Int) ≤ v40)))
def Fimpl_areAll__impl_isRealm (k : Nat) (a0 : List Int) (a1 : Int) : Option Bool := Fimpl_areAll__impl_isRealm.l2 k a0 a1 (a0.length : Int) (0 : Int)
theorem ent249 : MG.Enters Try.prog 249 := ⟨Try.f249, Try.func249, rfl, by decide⟩
set_option maxHeartbeats 8000000 in
set_option maxRecDepth 100000 in
theorem Fimpl_areAll__impl_isRealm_gives (k : Nat) (g0 : Bool) (a0 : List Int) (a1 : Int) (r : Bool) (H : Fimpl_areAll__impl_isRealm k a0 a1 = some r) : Gives Try.prog 249 [V.one (Cell.sl g0 (List.map eI a0)), V.one (cI a1), V.one (Cell.clo 184 [])] [] [V.one (cL r)] [] := by
  refine Gives.intro Try.func249 rfl rfl rfl rfl ?_
  intro F hF hm
  unfold Fimpl_areAll__impl_isRealm at H
  obtain ⟨K, hK⟩ : ∃ K, k ≤ K := ⟨k, Nat.le_refl k⟩
  refine WpC.seq ?_
  refine WpC.regionL ?_
  refine L.assign hF rfl rfl rfl ?_
  refine L.nil ?_
  refine WpC.seq ?_
  refine WpC.seq ?_
  refine WpC.regionL ?_
  refine L.move hF rfl rfl rfl ?_
  refine L.lenR (xs := a0) (e := eI) Try.underlying24 hF rfl rfl rfl rfl ?_
  refine L.move hF rfl rfl rfl ?_
  refine L.nil ?_
  refine WpC.block ?_
  refine WpC.loopL (P := Try.prog) (fun n σ => ∃ v39 : List Int, ∃ v40 : Int, ∃ v41 : Int, ∃ v42 : Int, n ≤ K ∧ Fimpl_areAll__impl_isRealm.l2 n v39 v40 v41 v42 = some r ∧ σ = mkSt [(0, MG.one (Cell.sl g0 (List.map eI v39))), (1, MG.one (cI v40)), (2, MG.one (Cell.clo 184 [])), (9, MG.one (Cell.sl g0 (List.map eI v39))), (10, MG.one (cI v41)), (11, MG.one (cI v42))] [] [] 0) k ⟨_, ⟨a0, a1, (a0.length : Int), (0 : Int), by omega, H, rfl⟩, Le.mk [] hm rfl ⟨⟨_, rfl, rfl⟩, ⟨_, rfl, rfl⟩, ⟨_, rfl, rfl⟩, ⟨_, rfl, rfl⟩, ⟨_, rfl, rfl⟩, ⟨_, rfl, rfl⟩, trivial⟩ trivial trivial⟩ ?_
  clear H
  rintro k2 _ ⟨v39, v40, v41, v42, hk2, H, rfl⟩
  cases k2 with
  | zero => cases H
  | succ k2 =>
    rw [Fimpl_areAll__impl_isRealm.l2] at H
    refine WpC.seq ?_
    refine WpC.regionL ?_
    refine L.bin hF rfl rfl rfl rfl rfl rfl ?_
    refine L.nil ?_
    refine WpC.seq ?_
    refine WpC.cond rfl (fun hc => ?_) (fun hc => ?_)
    · replace H := condT hc H
      refine WpC.skip ?_
      refine WpC.seq ?_
      refine WpC.block ?_
      refine WpC.seq ?_
      refine WpC.regionL ?_
      obtain ⟨b45, hb45, H⟩ := bindS H
      refine L.idxR (xs := v39) (e := eI) Try.underlying24 info3 hF rfl rfl rfl rfl rfl hb45 rfl rfl ?_
      refine L.loadPe shape3 hF rfl rfl rfl rfl rfl ?_
      refine L.assign hF rfl rfl rfl ?_
      refine L.nil ?_
      refine WpC.seq ?_
      refine WpC.regionL ?_
      refine L.move hF rfl rfl rfl ?_
      refine L.move hF rfl rfl rfl ?_
      obtain ⟨r46, hr46, H⟩ := bindS H
      refine L.call [false] [] [] 0 hF rfl rfl rfl ent184 rfl rfl rfl rfl rfl (Fimpl_isRealm_gives k2  b45 r46 hr46) rfl ?_
      refine L.not hF rfl rfl rfl ?_
      refine L.nil ?_
      refine WpC.cond rfl (fun hc => ?_) (fun hc => ?_)
      · replace H := condT hc H
        refine WpC.seq ?_
        refine WpC.regionL ?_
        refine L.assign hF rfl rfl rfl ?_
        refine L.nil ?_
        refine WpC.ret ?_
        cases H
        exact Leaves.ret rfl rfl rfl ⟨rfl, rfl⟩
      · replace H := condF hc H
        refine WpC.skip ?_
        refine WpC.regionL ?_
        refine L.bin hF rfl rfl rfl rfl rfl rfl ?_
        refine L.move hF rfl rfl rfl ?_
        refine L.nil ?_
        exact ⟨k2, _, by omega, ⟨v39, v40, v41, (IntKind.i64.wrap (v42 + (1 : Int))), by omega, H, rfl⟩, Le.mk [] hm rfl ⟨⟨_, rfl, rfl⟩, ⟨_, rfl, rfl⟩, ⟨_, rfl, rfl⟩, ⟨_, rfl, rfl⟩, ⟨_, rfl, rfl⟩, ⟨_, rfl, rfl⟩, trivial⟩ trivial trivial⟩
    · replace H := condF hc H
      refine WpC.exit ?_
      refine WpC.seq ?_
      refine WpC.regionL ?_
      refine L.move hF rfl rfl rfl ?_
      refine L.lenR (xs := v39) (e := eI) Try.underlying24 hF rfl rfl rfl rfl ?_
      refine L.move hF rfl rfl rfl ?_
      refine L.bin hF rfl rfl rfl rfl rfl rfl ?_
      refine L.assign hF rfl rfl rfl ?_
      refine L.nil ?_
      refine WpC.ret ?_
      cases H
      exact Leaves.ret rfl rfl rfl ⟨rfl, rfl⟩
/-! ### Fimpl_ConfigOk -/
def Fimpl_ConfigOk (k : Nat) (a0 : Timpl_Config) : Option Bool := (Fimpl_arePairs__impl_ConfigOk_1 k a0.Links).bind fun r1 => (Fimpl_arePairs__impl_ConfigOk_2 k a0.Proxy).bind fun r2 => cond r1 (cond r2 (cond ((a0.UserRealm.length : Int) == (3 : Int)) ((Fimpl_areAll__impl_isRealm k a0.UserRealm (3 : Int)).bind fun r6 => cond r6 (cond ((a0.ServiceRealm.length : Int) == (3 : Int)) ((Fimpl_areAll__impl_isRealm k a0.ServiceRealm (3 : Int)).bind fun r7 => cond r7 ((Fimpl_within k a0.Skew (0 : Int) (20 : Int)).bind fun r8 => some r8) (some false)) (some false)) (some false)) (some false)) (some false)) (some false)
theorem ent156 : MG.Enters Try.prog 156 := ⟨Try.f156, Try.func156, rfl, by decide⟩
set_option maxHeartbeats 8000000 in
set_option maxRecDepth 100000 in
theorem Fimpl_ConfigOk_gives (k : Nat) (g0 : Bool) (g1 : Bool) (g2 : Bool) (g3 : Bool) (a0 : Timpl_Config) (r : Bool) (H : Fimpl_ConfigOk k a0 = some r) : Gives Try.prog 156 [V.agg [Cell.sl g0 (List.map eI a0.UserRealm), Cell.sl g1 (List.map eI a0.ServiceRealm), Cell.sl g2 (List.map eTimpl_Pair a0.Links), Cell.sl g3 (List.map eTimpl_Pair a0.Proxy), cI a0.Skew]] [] [V.one (cL r)] [] := by
  refine Gives.intro Try.func156 rfl rfl rfl rfl ?_
  intro F hF hm
  unfold Fimpl_ConfigOk at H
  obtain ⟨K, hK⟩ : ∃ K, k ≤ K := ⟨k, Nat.le_refl k⟩
  refine WpC.seq ?_
  refine WpC.regionL ?_
  refine L.box 5 hF rfl rfl rfl rfl ?_
  refine L.assign hF rfl rfl rfl ?_
  refine L.nil ?_
  refine WpC.seq ?_
  refine WpC.regionL ?_
  refine L.fieldAddr Try.underlying90 rfl info88 rfl hF rfl rfl rfl rfl rfl ?_
  refine L.loadPtr shape88 hF rfl rfl rfl rfl rfl rfl ?_
  obtain ⟨r1, hr1, H⟩ := bindS H
  refine L.call [false, false] [] [] 6 hF rfl rfl rfl ent246 rfl rfl rfl rfl rfl (Fimpl_arePairs__impl_ConfigOk_1_gives k g2 a0.Links r1 hr1) rfl ?_
  refine L.assign hF rfl rfl rfl ?_
  refine L.nil ?_
  refine WpC.seq ?_
  refine WpC.regionL ?_
  refine L.fieldAddr Try.underlying90 rfl info88 rfl hF rfl rfl rfl rfl rfl ?_
  refine L.loadPtr shape88 hF rfl rfl rfl rfl rfl rfl ?_
  obtain ⟨r2, hr2, H⟩ := bindS H
  refine L.call [false, false] [] [] 7 hF rfl rfl rfl ent246 rfl rfl rfl rfl rfl (Fimpl_arePairs__impl_ConfigOk_2_gives k g3 a0.Proxy r2 hr2) rfl ?_
  refine L.assign hF rfl rfl rfl ?_
  refine L.nil ?_
  refine WpC.seq ?_
  refine WpC.regionL ?_
  refine L.move hF rfl rfl rfl ?_
  refine L.move hF rfl rfl rfl ?_
  refine L.split (fun hc => ?_) (fun hc => ?_)
  · replace H := condT hc H
    refine L.move hF rfl rfl rfl ?_
    refine L.pick hF rfl rfl rfl rfl ?_
    refine L.move hF rfl rfl rfl ?_
    refine L.split (fun hc => ?_) (fun hc => ?_)
    · replace H := condT hc H
      refine L.fieldAddr Try.underlying90 rfl info24 rfl hF rfl rfl rfl rfl rfl ?_
      refine L.loadPtr shape24 hF rfl rfl rfl rfl rfl rfl ?_
      refine L.lenR (xs := a0.UserRealm) (e := eI) Try.underlying24 hF rfl rfl rfl rfl ?_
      refine L.bin hF rfl rfl rfl rfl rfl rfl ?_
      refine L.pick hF rfl rfl rfl rfl ?_
      refine L.move hF rfl rfl rfl ?_
      refine L.split (fun hc => ?_) (fun hc => ?_)
      · replace H := condT hc H
        refine L.fieldAddr Try.underlying90 rfl info24 rfl hF rfl rfl rfl rfl rfl ?_
        refine L.loadPtr shape24 hF rfl rfl rfl rfl rfl rfl ?_
        obtain ⟨r6, hr6, H⟩ := bindS H
        refine L.call [false, false, false] [] [] 8 hF rfl rfl rfl ent249 rfl rfl rfl rfl rfl (Fimpl_areAll__impl_isRealm_gives k g0 a0.UserRealm (3 : Int) r6 hr6) rfl ?_
        refine L.pick hF rfl rfl rfl rfl ?_
        refine L.move hF rfl rfl rfl ?_
        refine L.split (fun hc => ?_) (fun hc => ?_)
        · replace H := condT hc H
          refine L.fieldAddr Try.underlying90 rfl info24 rfl hF rfl rfl rfl rfl rfl ?_
          refine L.loadPtr shape24 hF rfl rfl rfl rfl rfl rfl ?_
          refine L.lenR (xs := a0.ServiceRealm) (e := eI) Try.underlying24 hF rfl rfl rfl rfl ?_
          refine L.bin hF rfl rfl rfl rfl rfl rfl ?_
          refine L.pick hF rfl rfl rfl rfl ?_
          refine L.move hF rfl rfl rfl ?_
          refine L.split (fun hc => ?_) (fun hc => ?_)
          · replace H := condT hc H
            refine L.fieldAddr Try.underlying90 rfl info24 rfl hF rfl rfl rfl rfl rfl ?_
            refine L.loadPtr shape24 hF rfl rfl rfl rfl rfl rfl ?_
            obtain ⟨r7, hr7, H⟩ := bindS H
            refine L.call [false, false, false] [] [] 9 hF rfl rfl rfl ent249 rfl rfl rfl rfl rfl (Fimpl_areAll__impl_isRealm_gives k g1 a0.ServiceRealm (3 : Int) r7 hr7) rfl ?_
            refine L.pick hF rfl rfl rfl rfl ?_
            refine L.move hF rfl rfl rfl ?_
            refine L.split (fun hc => ?_) (fun hc => ?_)
            · replace H := condT hc H
              refine L.fieldAddr Try.underlying90 rfl info3 rfl hF rfl rfl rfl rfl rfl ?_
              refine L.loadPtr shape3 hF rfl rfl rfl rfl rfl rfl ?_
              obtain ⟨r8, hr8, H⟩ := bindS H
              refine L.call [false, false, false] [] [] 10 hF rfl rfl rfl ent113 rfl rfl rfl rfl rfl (Fimpl_within_gives k  a0.Skew (0 : Int) (20 : Int) r8 hr8) rfl ?_
              refine L.pick hF rfl rfl rfl rfl ?_
              refine L.assign hF rfl rfl rfl ?_
              refine L.nil ?_
              refine WpC.ret ?_
              cases H
              exact Leaves.ret rfl rfl rfl ⟨rfl, rfl⟩
            · replace H := condF hc H
              refine L.off hF rfl rfl ?_
              refine L.off hF rfl rfl ?_
              refine L.off hF rfl rfl ?_
              refine L.pick hF rfl rfl rfl rfl ?_
              refine L.assign hF rfl rfl rfl ?_
              refine L.nil ?_
              refine WpC.ret ?_
              cases H
              exact Leaves.ret rfl rfl rfl ⟨rfl, rfl⟩
          · replace H := condF hc H
            refine L.off hF rfl rfl ?_
            refine L.off hF rfl rfl ?_
            refine L.off hF rfl rfl ?_
            refine L.pick hF rfl rfl rfl rfl ?_
            refine L.move hF rfl rfl rfl ?_
            refine L.off hF rfl rfl ?_
            refine L.off hF rfl rfl ?_
            refine L.off hF rfl rfl ?_
            refine L.pick hF rfl rfl rfl rfl ?_
            refine L.assign hF rfl rfl rfl ?_
            refine L.nil ?_
            refine WpC.ret ?_
            cases H
            exact Leaves.ret rfl rfl rfl ⟨rfl, rfl⟩
        · replace H := condF hc H
          refine L.off hF rfl rfl ?_
          refine L.off hF rfl rfl ?_
          refine L.off hF rfl rfl ?_
          refine L.off hF rfl rfl ?_
          refine L.pick hF rfl rfl rfl rfl ?_
          refine L.move hF rfl rfl rfl ?_
          refine L.off hF rfl rfl ?_
          refine L.off hF rfl rfl ?_
          refine L.off hF rfl rfl ?_
          refine L.pick hF rfl rfl rfl rfl ?_
          refine L.move hF rfl rfl rfl ?_
          refine L.off hF rfl rfl ?_
          refine L.off hF rfl rfl ?_
          refine L.off hF rfl rfl ?_
          refine L.pick hF rfl rfl rfl rfl ?_
          refine L.assign hF rfl rfl rfl ?_
          refine L.nil ?_
          refine WpC.ret ?_
          cases H
          exact Leaves.ret rfl rfl rfl ⟨rfl, rfl⟩
      · replace H := condF hc H
        refine L.off hF rfl rfl ?_
        refine L.off hF rfl rfl ?_
        refine L.off hF rfl rfl ?_
        refine L.pick hF rfl rfl rfl rfl ?_
        refine L.move hF rfl rfl rfl ?_
        refine L.off hF rfl rfl ?_
        refine L.off hF rfl rfl ?_
        refine L.off hF rfl rfl ?_
        refine L.off hF rfl rfl ?_
        refine L.pick hF rfl rfl rfl rfl ?_
        refine L.move hF rfl rfl rfl ?_
        refine L.off hF rfl rfl ?_
        refine L.off hF rfl rfl ?_
        refine L.off hF rfl rfl ?_
        refine L.pick hF rfl rfl rfl rfl ?_
        refine L.move hF rfl rfl rfl ?_
        refine L.off hF rfl rfl ?_
        refine L.off hF rfl rfl ?_
        refine L.off hF rfl rfl ?_
        refine L.pick hF rfl rfl rfl rfl ?_
        refine L.assign hF rfl rfl rfl ?_
        refine L.nil ?_
        refine WpC.ret ?_
        cases H
        exact Leaves.ret rfl rfl rfl ⟨rfl, rfl⟩
    · replace H := condF hc H
      refine L.off hF rfl rfl ?_
      refine L.off hF rfl rfl ?_
      refine L.off hF rfl rfl ?_
      refine L.off hF rfl rfl ?_
      refine L.pick hF rfl rfl rfl rfl ?_
      refine L.move hF rfl rfl rfl ?_
      refine L.off hF rfl rfl ?_
      refine L.off hF rfl rfl ?_
      refine L.off hF rfl rfl ?_
      refine L.pick hF rfl rfl rfl rfl ?_
      refine L.move hF rfl rfl rfl ?_
      refine L.off hF rfl rfl ?_
      refine L.off hF rfl rfl ?_
      refine L.off hF rfl rfl ?_
      refine L.off hF rfl rfl ?_
      refine L.pick hF rfl rfl rfl rfl ?_
      refine L.move hF rfl rfl rfl ?_
      refine L.off hF rfl rfl ?_
      refine L.off hF rfl rfl ?_
      refine L.off hF rfl rfl ?_
      refine L.pick hF rfl rfl rfl rfl ?_
      refine L.move hF rfl rfl rfl ?_
      refine L.off hF rfl rfl ?_
      refine L.off hF rfl rfl ?_
      refine L.off hF rfl rfl ?_
      refine L.pick hF rfl rfl rfl rfl ?_
      refine L.assign hF rfl rfl rfl ?_
      refine L.nil ?_
      refine WpC.ret ?_
      cases H
      exact Leaves.ret rfl rfl rfl ⟨rfl, rfl⟩
  · replace H := condF hc H
    refine L.off hF rfl rfl ?_
    refine L.pick hF rfl rfl rfl rfl ?_
    refine L.move hF rfl rfl rfl ?_
    refine L.off hF rfl rfl ?_
    refine L.off hF rfl rfl ?_
    refine L.off hF rfl rfl ?_
    refine L.off hF rfl rfl ?_
    refine L.pick hF rfl rfl rfl rfl ?_
    refine L.move hF rfl rfl rfl ?_
    refine L.off hF rfl rfl ?_
    refine L.off hF rfl rfl ?_
    refine L.off hF rfl rfl ?_
    refine L.pick hF rfl rfl rfl rfl ?_
    refine L.move hF rfl rfl rfl ?_
    refine L.off hF rfl rfl ?_
    refine L.off hF rfl rfl ?_
    refine L.off hF rfl rfl ?_
    refine L.off hF rfl rfl ?_
    refine L.pick hF rfl rfl rfl rfl ?_
    refine L.move hF rfl rfl rfl ?_
    refine L.off hF rfl rfl ?_
    refine L.off hF rfl rfl ?_
    refine L.off hF rfl rfl ?_
    refine L.pick hF rfl rfl rfl rfl ?_
    refine L.move hF rfl rfl rfl ?_
    refine L.off hF rfl rfl ?_
    refine L.off hF rfl rfl ?_
    refine L.off hF rfl rfl ?_
    refine L.pick hF rfl rfl rfl rfl ?_
    refine L.assign hF rfl rfl rfl ?_
    refine L.nil ?_
    refine WpC.ret ?_
    cases H
    exact Leaves.ret rfl rfl rfl ⟨rfl, rfl⟩
/-! ### Fimpl_Find_1 -/
def Fimpl_Find_1 (k : Nat) (a0 : Timpl_Event) (o0 : Int) : Option Bool := some (a0.Key == o0)
theorem ent215 : MG.Enters Try.prog 215 := ⟨Try.f215, Try.func215, rfl, by decide⟩
set_option maxHeartbeats 8000000 in
set_option maxRecDepth 100000 in
theorem Fimpl_Find_1_gives (k : Nat) (a0 : Timpl_Event) (o0 : Int) (r : Bool) (H : Fimpl_Find_1 k a0 o0 = some r) : Gives Try.prog 215 [V.agg [cI a0.Kind, cI a0.Realm, cI a0.By, cI a0.Client, cI a0.Service, cI a0.Key, cI a0.Parent, cI a0.Evid, cI a0.Rest.Servers, cI a0.Rest.Ops, cI a0.Rest.End], V.one (Cell.ptr 0 0)] [[cI o0]] [V.one (cL r)] [[cI o0]] := by
  refine Gives.intro Try.func215 rfl rfl rfl rfl ?_
  intro F hF hm
  unfold Fimpl_Find_1 at H
  obtain ⟨K, hK⟩ : ∃ K, k ≤ K := ⟨k, Nat.le_refl k⟩
  refine WpC.seq ?_
  refine WpC.regionL ?_
  refine L.box 14 hF rfl rfl rfl rfl ?_
  refine L.assign hF rfl rfl rfl ?_
  refine L.nil ?_
  refine WpC.seq ?_
  refine WpC.regionL ?_
  refine L.fieldAddr Try.underlying135 rfl info3 rfl hF rfl rfl rfl rfl rfl ?_
  refine L.loadPtr shape3 hF rfl rfl rfl rfl rfl rfl ?_
  refine L.loadPtr shape3 hF rfl rfl rfl rfl rfl rfl ?_
  refine L.bin hF rfl rfl rfl rfl rfl rfl ?_
  refine L.assign hF rfl rfl rfl ?_
  refine L.nil ?_
  refine WpC.ret ?_
  cases H
  exact Leaves.ret rfl rfl rfl ⟨rfl, rfl⟩
/-! ### Fslices_IndexFunc_Event__impl_Find_1 -/
def Fslices_IndexFunc_Event__impl_Find_1.l2 : Nat → (List Timpl_Event) → Int → Int → Int → Option (Int × Int)
  | 0, _, _, _, _ => none
  | k2 + 1, v39, v40, v41, v42 => cond (decide (v41 < v40)) ((at? v39 v41).bind fun b45 => (Fimpl_Find_1 k2 b45 v42).bind fun r46 => cond r46 (some (v41, v42)) ((Fslices_IndexFunc_Event__impl_Find_1.l2 k2) v39 v40 (IntKind.i64.wrap (v41 + (1 : Int))) v42)) (some ((-1 : Int), v42))
def Fslices_IndexFunc_Event__impl_Find_1 (k : Nat) (a0 : List Timpl_Event) (o0 : Int) : Option (Int × Int) := Fslices_IndexFunc_Event__impl_Find_1.l2 k a0 (a0.length : Int) (0 : Int) o0
theorem ent214 : MG.Enters Try.prog 214 := ⟨Try.f214, Try.func214, rfl, by decide⟩
set_option maxHeartbeats 8000000 in
set_option maxRecDepth 100000 in
theorem Fslices_IndexFunc_Event__impl_Find_1_gives (k : Nat) (g0 : Bool) (a0 : List Timpl_Event) (o0 : Int) (r : Int × Int) (H : Fslices_IndexFunc_Event__impl_Find_1 k a0 o0 = some r) : Gives Try.prog 214 [V.one (Cell.sl g0 (List.map eTimpl_Event a0)), V.one (Cell.clo 215 [Cell.ptr 0 0])] [[cI o0]] [V.one (cI r.1)] [[cI r.2]] := by
  refine Gives.intro Try.func214 rfl rfl rfl rfl ?_
  intro F hF hm
  unfold Fslices_IndexFunc_Event__impl_Find_1 at H
  obtain ⟨K, hK⟩ : ∃ K, k ≤ K := ⟨k, Nat.le_refl k⟩
  refine WpC.seq ?_
  refine WpC.regionL ?_
  refine L.assign hF rfl rfl rfl ?_
  refine L.nil ?_
  refine WpC.seq ?_
  refine WpC.seq ?_
  refine WpC.regionL ?_
  refine L.move hF rfl rfl rfl ?_
  refine L.lenR (xs := a0) (e := eTimpl_Event) Try.underlying26 hF rfl rfl rfl rfl ?_
  refine L.move hF rfl rfl rfl ?_
  refine L.nil ?_
  refine WpC.block ?_
  refine WpC.loopL (P := Try.prog) (fun n σ => ∃ v39 : List Timpl_Event, ∃ v40 : Int, ∃ v41 : Int, ∃ v42 : Int, n ≤ K ∧ Fslices_IndexFunc_Event__impl_Find_1.l2 n v39 v40 v41 v42 = some r ∧ σ = mkSt [(0, MG.one (Cell.sl g0 (List.map eTimpl_Event v39))), (1, MG.one (Cell.clo 215 [Cell.ptr 0 0])), (7, MG.one (cI v40)), (8, MG.one (cI v41))] [] [(0, [cI v42])] 1) k ⟨_, ⟨a0, (a0.length : Int), (0 : Int), o0, by omega, H, rfl⟩, Le.mk [(0, 0)] hm rfl ⟨⟨_, rfl, rfl⟩, ⟨_, rfl, rfl⟩, ⟨_, rfl, rfl⟩, ⟨_, rfl, rfl⟩, trivial⟩ trivial ⟨⟨_, _, rfl, rfl, rfl⟩, trivial⟩⟩ ?_
  clear H
  rintro k2 _ ⟨v39, v40, v41, v42, hk2, H, rfl⟩
  cases k2 with
  | zero => cases H
  | succ k2 =>
    rw [Fslices_IndexFunc_Event__impl_Find_1.l2] at H
    refine WpC.seq ?_
    refine WpC.regionL ?_
    refine L.bin hF rfl rfl rfl rfl rfl rfl ?_
    refine L.nil ?_
    refine WpC.seq ?_
    refine WpC.cond rfl (fun hc => ?_) (fun hc => ?_)
    · replace H := condT hc H
      refine WpC.skip ?_
      refine WpC.seq ?_
      refine WpC.block ?_
      refine WpC.seq ?_
      refine WpC.regionL ?_
      refine L.move hF rfl rfl rfl ?_
      refine L.assign hF rfl rfl rfl ?_
      refine L.nil ?_
      refine WpC.seq ?_
      refine WpC.regionL ?_
      refine L.move hF rfl rfl rfl ?_
      refine L.move hF rfl rfl rfl ?_
      refine L.move hF rfl rfl rfl ?_
      obtain ⟨b45, hb45, H⟩ := bindS H
      refine L.idxR (xs := v39) (e := eTimpl_Event) Try.underlying26 info135 hF rfl rfl rfl rfl rfl hb45 rfl rfl ?_
      refine L.loadPe shape135 hF rfl rfl rfl rfl rfl ?_
      obtain ⟨r46, hr46, H⟩ := bindS H
      refine L.call [false] [] [0] 1 hF rfl rfl rfl ent215 rfl rfl rfl rfl rfl (Fimpl_Find_1_gives k2  b45 v42 r46 hr46) rfl ?_
      refine L.nil ?_
      refine WpC.cond rfl (fun hc => ?_) (fun hc => ?_)
      · replace H := condT hc H
        refine WpC.seq ?_
        refine WpC.regionL ?_
        refine L.move hF rfl rfl rfl ?_
        refine L.assign hF rfl rfl rfl ?_
        refine L.nil ?_
        refine WpC.ret ?_
        cases H
        exact Leaves.ret rfl rfl rfl ⟨rfl, rfl⟩
      · replace H := condF hc H
        refine WpC.skip ?_
        refine WpC.regionL ?_
        refine L.bin hF rfl rfl rfl rfl rfl rfl ?_
        refine L.move hF rfl rfl rfl ?_
        refine L.nil ?_
        exact ⟨k2, _, by omega, ⟨v39, v40, (IntKind.i64.wrap (v41 + (1 : Int))), v42, by omega, H, rfl⟩, Le.mk [(0, 0)] hm rfl ⟨⟨_, rfl, rfl⟩, ⟨_, rfl, rfl⟩, ⟨_, rfl, rfl⟩, ⟨_, rfl, rfl⟩, trivial⟩ trivial ⟨⟨_, _, rfl, rfl, rfl⟩, trivial⟩⟩
    · replace H := condF hc H
      refine WpC.exit ?_
      refine WpC.seq ?_
      refine WpC.regionL ?_
      refine L.assign hF rfl rfl rfl ?_
      refine L.nil ?_
      refine WpC.ret ?_
      cases H
      exact Leaves.ret rfl rfl rfl ⟨rfl, rfl⟩
/-! ### Fimpl_Find -/
def Fimpl_Find (k : Nat) (a0 : List Timpl_Event) (a1 : Int) : Option Int := (Fslices_IndexFunc_Event__impl_Find_1 k a0 a1).bind fun r1 => some r1.1
theorem ent102 : MG.Enters Try.prog 102 := ⟨Try.f102, Try.func102, rfl, by decide⟩
set_option maxHeartbeats 8000000 in
set_option maxRecDepth 100000 in
theorem Fimpl_Find_gives (k : Nat) (g0 : Bool) (a0 : List Timpl_Event) (a1 : Int) (r : Int) (H : Fimpl_Find k a0 a1 = some r) : Gives Try.prog 102 [V.one (Cell.sl g0 (List.map eTimpl_Event a0)), V.one (cI a1)] [] [V.one (cI r)] [] := by
  refine Gives.intro Try.func102 rfl rfl rfl rfl ?_
  intro F hF hm
  unfold Fimpl_Find at H
  obtain ⟨K, hK⟩ : ∃ K, k ≤ K := ⟨k, Nat.le_refl k⟩
  refine WpC.seq ?_
  refine WpC.regionL ?_
  refine L.box 2 hF rfl rfl rfl rfl ?_
  refine L.assign hF rfl rfl rfl ?_
  refine L.nil ?_
  refine WpC.seq ?_
  refine WpC.regionL ?_
  refine L.move hF rfl rfl rfl ?_
  refine L.makeFunc hF rfl rfl rfl ?_
  obtain ⟨r1, hr1, H⟩ := bindS H
  refine L.call [false, false] [] [2] 3 hF rfl rfl rfl ent214 rfl rfl rfl rfl rfl (Fslices_IndexFunc_Event__impl_Find_1_gives k g0 a0 a1 r1 hr1) rfl ?_
  refine L.assign hF rfl rfl rfl ?_
  refine L.nil ?_
  refine WpC.ret ?_
  cases H
  exact Leaves.ret rfl rfl rfl ⟨rfl, rfl⟩
/-! ### Fimpl_isPrincipal -/
def Fimpl_isPrincipal (k : Nat) (a0 : Int) : Option Bool := (Fimpl_within k a0 (0 : Int) (5 : Int)).bind fun r1 => some r1
theorem ent145 : MG.Enters Try.prog 145 := ⟨Try.f145, Try.func145, rfl, by decide⟩
set_option maxHeartbeats 8000000 in
set_option maxRecDepth 100000 in
theorem Fimpl_isPrincipal_gives (k : Nat) (a0 : Int) (r : Bool) (H : Fimpl_isPrincipal k a0 = some r) : Gives Try.prog 145 [V.one (cI a0)] [] [V.one (cL r)] [] := by
  refine Gives.intro Try.func145 rfl rfl rfl rfl ?_
  intro F hF hm
  unfold Fimpl_isPrincipal at H
  obtain ⟨K, hK⟩ : ∃ K, k ≤ K := ⟨k, Nat.le_refl k⟩
  refine WpC.seq ?_
  refine WpC.regionL ?_
  refine L.assign hF rfl rfl rfl ?_
  refine L.nil ?_
  refine WpC.seq ?_
  refine WpC.regionL ?_
  refine L.move hF rfl rfl rfl ?_
  obtain ⟨r1, hr1, H⟩ := bindS H
  refine L.call [false, false, false] [] [] 1 hF rfl rfl rfl ent113 rfl rfl rfl rfl rfl (Fimpl_within_gives k  a0 (0 : Int) (5 : Int) r1 hr1) rfl ?_
  refine L.assign hF rfl rfl rfl ?_
  refine L.nil ?_
  refine WpC.ret ?_
  cases H
  exact Leaves.ret rfl rfl rfl ⟨rfl, rfl⟩
/-! ### Fimpl_rooted -/
def Fimpl_rooted.j2 (k : Nat) (v26 : Int) (v27 : Bool) (v28 : Int) (v29 : Int) (v30 : Int) (v31 : Int) (v32 : Int) (v33 : Int) (v34 : Int) (v35 : Int) (v36 : Int) (v37 : Int) : Option Bool := cond v27 ((Fimpl_isService k v31).bind fun r38 => some r38) (cond (v26 == (3 : Int)) ((Fimpl_isRealm k v28).bind fun r41 => cond r41 ((Fimpl_within k v31 (10 : Int) (12 : Int)).bind fun r42 => some r42) (some false)) (some false))
def Fimpl_rooted (k : Nat) (a0 : Timpl_Event) : Option Bool := cond (a0.Kind == (1 : Int)) ((Fimpl_isPrincipal k a0.By).bind fun r24 => cond r24 ((Fimpl_isRealm k a0.Realm).bind fun r25 => some r25) (some false)) (cond (a0.Kind == (2 : Int)) (Fimpl_rooted.j2 k a0.Kind (a0.Kind == (2 : Int)) a0.Realm a0.By a0.Client a0.Service a0.Key a0.Parent a0.Evid a0.Rest.Servers a0.Rest.Ops a0.Rest.End) (Fimpl_rooted.j2 k a0.Kind (a0.Kind == (4 : Int)) a0.Realm a0.By a0.Client a0.Service a0.Key a0.Parent a0.Evid a0.Rest.Servers a0.Rest.Ops a0.Rest.End))
theorem ent189 : MG.Enters Try.prog 189 := ⟨Try.f189, Try.func189, rfl, by decide⟩
set_option maxHeartbeats 8000000 in
set_option maxRecDepth 100000 in
theorem Fimpl_rooted_gives (k : Nat) (a0 : Timpl_Event) (r : Bool) (H : Fimpl_rooted k a0 = some r) : Gives Try.prog 189 [V.agg [cI a0.Kind, cI a0.Realm, cI a0.By, cI a0.Client, cI a0.Service, cI a0.Key, cI a0.Parent, cI a0.Evid, cI a0.Rest.Servers, cI a0.Rest.Ops, cI a0.Rest.End]] [] [V.one (cL r)] [] := by
  refine Gives.intro Try.func189 rfl rfl rfl rfl ?_
  intro F hF hm
  unfold Fimpl_rooted at H
  obtain ⟨K, hK⟩ : ∃ K, k ≤ K := ⟨k, Nat.le_refl k⟩
  refine WpC.seq ?_
  refine WpC.regionL ?_
  refine L.box 11 hF rfl rfl rfl rfl ?_
  refine L.assign hF rfl rfl rfl ?_
  refine L.nil ?_
  refine WpC.seq ?_
  refine WpC.seq ?_
  refine WpC.regionL ?_
  refine L.fieldAddr Try.underlying135 rfl info3 rfl hF rfl rfl rfl rfl rfl ?_
  refine L.loadPtr shape3 hF rfl rfl rfl rfl rfl rfl ?_
  refine L.nil ?_
  refine WpC.block ?_
  refine WpC.seq ?_
  refine WpC.regionL ?_
  refine L.bin hF rfl rfl rfl rfl rfl rfl ?_
  refine L.assign hF rfl rfl rfl ?_
  refine L.nil ?_
  refine WpC.cond rfl (fun hc => ?_) (fun hc => ?_)
  · replace H := condT hc H
    refine WpC.seq ?_
    refine WpC.regionL ?_
    refine L.fieldAddr Try.underlying135 rfl info3 rfl hF rfl rfl rfl rfl rfl ?_
    refine L.loadPtr shape3 hF rfl rfl rfl rfl rfl rfl ?_
    obtain ⟨r24, hr24, H⟩ := bindS H
    refine L.call [false] [] [] 12 hF rfl rfl rfl ent145 rfl rfl rfl rfl rfl (Fimpl_isPrincipal_gives k  a0.By r24 hr24) rfl ?_
    refine L.move hF rfl rfl rfl ?_
    refine L.split (fun hc => ?_) (fun hc => ?_)
    · replace H := condT hc H
      refine L.fieldAddr Try.underlying135 rfl info3 rfl hF rfl rfl rfl rfl rfl ?_
      refine L.loadPtr shape3 hF rfl rfl rfl rfl rfl rfl ?_
      obtain ⟨r25, hr25, H⟩ := bindS H
      refine L.call [false] [] [] 13 hF rfl rfl rfl ent184 rfl rfl rfl rfl rfl (Fimpl_isRealm_gives k  a0.Realm r25 hr25) rfl ?_
      refine L.pick hF rfl rfl rfl rfl ?_
      refine L.assign hF rfl rfl rfl ?_
      refine L.nil ?_
      refine WpC.ret ?_
      cases H
      exact Leaves.ret rfl rfl rfl ⟨rfl, rfl⟩
    · replace H := condF hc H
      refine L.off hF rfl rfl ?_
      refine L.off hF rfl rfl ?_
      refine L.off hF rfl rfl ?_
      refine L.pick hF rfl rfl rfl rfl ?_
      refine L.assign hF rfl rfl rfl ?_
      refine L.nil ?_
      refine WpC.ret ?_
      cases H
      exact Leaves.ret rfl rfl rfl ⟨rfl, rfl⟩
  · replace H := condF hc H
    refine WpC.join (fun σ => ∃ kj2 : Nat, ∃ v26 : Int, ∃ v27 : Bool, ∃ v28 : Int, ∃ v29 : Int, ∃ v30 : Int, ∃ v31 : Int, ∃ v32 : Int, ∃ v33 : Int, ∃ v34 : Int, ∃ v35 : Int, ∃ v36 : Int, ∃ v37 : Int, kj2 ≤ K ∧ Fimpl_rooted.j2 kj2 v26 v27 v28 v29 v30 v31 v32 v33 v34 v35 v36 v37 = some r ∧ σ = mkSt [(1, MG.one (Cell.ptr 0 0)), (4, MG.one (cI v26)), (15, MG.one (cL v27))] [] [(0, [cI v26, cI v28, cI v29, cI v30, cI v31, cI v32, cI v33, cI v34, cI v35, cI v36, cI v37])] 1) ?_ ?_
    · rintro _ ⟨kj2, v26, v27, v28, v29, v30, v31, v32, v33, v34, v35, v36, v37, hkj2, H, rfl⟩
      unfold Fimpl_rooted.j2 at H
      refine WpC.cond rfl (fun hc => ?_) (fun hc => ?_)
      · replace H := condT hc H
        refine WpC.seq ?_
        refine WpC.regionL ?_
        refine L.fieldAddr Try.underlying135 rfl info3 rfl hF rfl rfl rfl rfl rfl ?_
        refine L.loadPtr shape3 hF rfl rfl rfl rfl rfl rfl ?_
        obtain ⟨r38, hr38, H⟩ := bindS H
        refine L.call [false] [] [] 1 hF rfl rfl rfl ent157 rfl rfl rfl rfl rfl (Fimpl_isService_gives kj2  v31 r38 hr38) rfl ?_
        refine L.assign hF rfl rfl rfl ?_
        refine L.nil ?_
        refine WpC.ret ?_
        cases H
        exact Leaves.ret rfl rfl rfl ⟨rfl, rfl⟩
      · replace H := condF hc H
        refine WpC.seq ?_
        refine WpC.regionL ?_
        refine L.bin hF rfl rfl rfl rfl rfl rfl ?_
        refine L.assign hF rfl rfl rfl ?_
        refine L.nil ?_
        refine WpC.cond rfl (fun hc => ?_) (fun hc => ?_)
        · replace H := condT hc H
          refine WpC.seq ?_
          refine WpC.regionL ?_
          refine L.fieldAddr Try.underlying135 rfl info3 rfl hF rfl rfl rfl rfl rfl ?_
          refine L.loadPtr shape3 hF rfl rfl rfl rfl rfl rfl ?_
          obtain ⟨r41, hr41, H⟩ := bindS H
          refine L.call [false] [] [] 1 hF rfl rfl rfl ent184 rfl rfl rfl rfl rfl (Fimpl_isRealm_gives kj2  v28 r41 hr41) rfl ?_
          refine L.move hF rfl rfl rfl ?_
          refine L.split (fun hc => ?_) (fun hc => ?_)
          · replace H := condT hc H
            refine L.fieldAddr Try.underlying135 rfl info3 rfl hF rfl rfl rfl rfl rfl ?_
            refine L.loadPtr shape3 hF rfl rfl rfl rfl rfl rfl ?_
            obtain ⟨r42, hr42, H⟩ := bindS H
            refine L.call [false, false, false] [] [] 2 hF rfl rfl rfl ent113 rfl rfl rfl rfl rfl (Fimpl_within_gives kj2  v31 (10 : Int) (12 : Int) r42 hr42) rfl ?_
            refine L.pick hF rfl rfl rfl rfl ?_
            refine L.assign hF rfl rfl rfl ?_
            refine L.nil ?_
            refine WpC.ret ?_
            cases H
            exact Leaves.ret rfl rfl rfl ⟨rfl, rfl⟩
          · replace H := condF hc H
            refine L.off hF rfl rfl ?_
            refine L.off hF rfl rfl ?_
            refine L.off hF rfl rfl ?_
            refine L.pick hF rfl rfl rfl rfl ?_
            refine L.assign hF rfl rfl rfl ?_
            refine L.nil ?_
            refine WpC.ret ?_
            cases H
            exact Leaves.ret rfl rfl rfl ⟨rfl, rfl⟩
        · replace H := condF hc H
          refine WpC.skip ?_
          refine WpC.seq ?_
          refine WpC.regionL ?_
          refine L.assign hF rfl rfl rfl ?_
          refine L.nil ?_
          refine WpC.ret ?_
          cases H
          exact Leaves.ret rfl rfl rfl ⟨rfl, rfl⟩
    · refine WpC.seq ?_
      refine WpC.regionL ?_
      refine L.bin hF rfl rfl rfl rfl rfl rfl ?_
      refine L.assign hF rfl rfl rfl ?_
      refine L.nil ?_
      refine WpC.cond rfl (fun hc => ?_) (fun hc => ?_)
      · replace H := condT hc H
        refine WpC.skip ?_
        exact ⟨_, ⟨k, a0.Kind, (a0.Kind == (2 : Int)), a0.Realm, a0.By, a0.Client, a0.Service, a0.Key, a0.Parent, a0.Evid, a0.Rest.Servers, a0.Rest.Ops, a0.Rest.End, by omega, H, rfl⟩, Le.mk [(0, 11)] hm rfl ⟨⟨_, rfl, rfl⟩, ⟨_, rfl, rfl⟩, ⟨_, rfl, rfl⟩, trivial⟩ trivial ⟨⟨_, _, rfl, rfl, rfl⟩, trivial⟩⟩
      · replace H := condF hc H
        refine WpC.regionL ?_
        refine L.bin hF rfl rfl rfl rfl rfl rfl ?_
        refine L.assign hF rfl rfl rfl ?_
        refine L.nil ?_
        exact ⟨_, ⟨k, a0.Kind, (a0.Kind == (4 : Int)), a0.Realm, a0.By, a0.Client, a0.Service, a0.Key, a0.Parent, a0.Evid, a0.Rest.Servers, a0.Rest.Ops, a0.Rest.End, by omega, H, rfl⟩, Le.mk [(0, 11)] hm rfl ⟨⟨_, rfl, rfl⟩, ⟨_, rfl, rfl⟩, ⟨_, rfl, rfl⟩, trivial⟩ trivial ⟨⟨_, _, rfl, rfl, rfl⟩, trivial⟩⟩
/-! ### Fimpl_PrincipalKey -/
def Fimpl_PrincipalKey (k : Nat) (a0 : Int) : Option Int := (Fimpl_within k a0 (0 : Int) (2 : Int)).bind fun r3 => cond r3 (some (IntKind.i64.wrap ((1 : Int) + a0))) ((Fimpl_isPrincipal k a0).bind fun r4 => cond r4 (some (IntKind.i64.wrap ((IntKind.i64.wrap ((11 : Int) + a0)) - (3 : Int)))) (some (0 : Int)))
theorem ent181 : MG.Enters Try.prog 181 := ⟨Try.f181, Try.func181, rfl, by decide⟩
set_option maxHeartbeats 8000000 in
set_option maxRecDepth 100000 in
theorem Fimpl_PrincipalKey_gives (k : Nat) (a0 : Int) (r : Int) (H : Fimpl_PrincipalKey k a0 = some r) : Gives Try.prog 181 [V.one (cI a0)] [] [V.one (cI r)] [] := by
  refine Gives.intro Try.func181 rfl rfl rfl rfl ?_
  intro F hF hm
  unfold Fimpl_PrincipalKey at H
  obtain ⟨K, hK⟩ : ∃ K, k ≤ K := ⟨k, Nat.le_refl k⟩
  refine WpC.seq ?_
  refine WpC.regionL ?_
  refine L.assign hF rfl rfl rfl ?_
  refine L.nil ?_
  refine WpC.seq ?_
  refine WpC.block ?_
  refine WpC.seq ?_
  refine WpC.regionL ?_
  refine L.move hF rfl rfl rfl ?_
  obtain ⟨r3, hr3, H⟩ := bindS H
  refine L.call [false, false, false] [] [] 1 hF rfl rfl rfl ent113 rfl rfl rfl rfl rfl (Fimpl_within_gives k  a0 (0 : Int) (2 : Int) r3 hr3) rfl ?_
  refine L.assign hF rfl rfl rfl ?_
  refine L.nil ?_
  refine WpC.cond rfl (fun hc => ?_) (fun hc => ?_)
  · replace H := condT hc H
    refine WpC.seq ?_
    refine WpC.regionL ?_
    refine L.move hF rfl rfl rfl ?_
    refine L.bin hF rfl rfl rfl rfl rfl rfl ?_
    refine L.assign hF rfl rfl rfl ?_
    refine L.nil ?_
    refine WpC.ret ?_
    cases H
    exact Leaves.ret rfl rfl rfl ⟨rfl, rfl⟩
  · replace H := condF hc H
    refine WpC.seq ?_
    refine WpC.regionL ?_
    refine L.move hF rfl rfl rfl ?_
    obtain ⟨r4, hr4, H⟩ := bindS H
    refine L.call [false] [] [] 2 hF rfl rfl rfl ent145 rfl rfl rfl rfl rfl (Fimpl_isPrincipal_gives k  a0 r4 hr4) rfl ?_
    refine L.assign hF rfl rfl rfl ?_
    refine L.nil ?_
    refine WpC.cond rfl (fun hc => ?_) (fun hc => ?_)
    · replace H := condT hc H
      refine WpC.seq ?_
      refine WpC.regionL ?_
      refine L.move hF rfl rfl rfl ?_
      refine L.bin hF rfl rfl rfl rfl rfl rfl ?_
      refine L.bin hF rfl rfl rfl rfl rfl rfl ?_
      refine L.assign hF rfl rfl rfl ?_
      refine L.nil ?_
      refine WpC.ret ?_
      cases H
      exact Leaves.ret rfl rfl rfl ⟨rfl, rfl⟩
    · replace H := condF hc H
      refine WpC.skip ?_
      refine WpC.seq ?_
      refine WpC.regionL ?_
      refine L.assign hF rfl rfl rfl ?_
      refine L.nil ?_
      refine WpC.ret ?_
      cases H
      exact Leaves.ret rfl rfl rfl ⟨rfl, rfl⟩
/-! ### Fimpl_CentreKey -/
def Fimpl_CentreKey (k : Nat) (a0 : Int) : Option Int := (Fimpl_isRealm k a0).bind fun r2 => cond (!r2) (some (0 : Int)) (some (IntKind.i64.wrap ((21 : Int) + a0)))
theorem ent185 : MG.Enters Try.prog 185 := ⟨Try.f185, Try.func185, rfl, by decide⟩
set_option maxHeartbeats 8000000 in
set_option maxRecDepth 100000 in
theorem Fimpl_CentreKey_gives (k : Nat) (a0 : Int) (r : Int) (H : Fimpl_CentreKey k a0 = some r) : Gives Try.prog 185 [V.one (cI a0)] [] [V.one (cI r)] [] := by
  refine Gives.intro Try.func185 rfl rfl rfl rfl ?_
  intro F hF hm
  unfold Fimpl_CentreKey at H
  obtain ⟨K, hK⟩ : ∃ K, k ≤ K := ⟨k, Nat.le_refl k⟩
  refine WpC.seq ?_
  refine WpC.regionL ?_
  refine L.assign hF rfl rfl rfl ?_
  refine L.nil ?_
  refine WpC.seq ?_
  refine WpC.seq ?_
  refine WpC.regionL ?_
  refine L.move hF rfl rfl rfl ?_
  obtain ⟨r2, hr2, H⟩ := bindS H
  refine L.call [false] [] [] 1 hF rfl rfl rfl ent184 rfl rfl rfl rfl rfl (Fimpl_isRealm_gives k  a0 r2 hr2) rfl ?_
  refine L.not hF rfl rfl rfl ?_
  refine L.nil ?_
  refine WpC.cond rfl (fun hc => ?_) (fun hc => ?_)
  · replace H := condT hc H
    refine WpC.seq ?_
    refine WpC.regionL ?_
    refine L.assign hF rfl rfl rfl ?_
    refine L.nil ?_
    refine WpC.ret ?_
    cases H
    exact Leaves.ret rfl rfl rfl ⟨rfl, rfl⟩
  · replace H := condF hc H
    refine WpC.skip ?_
    refine WpC.seq ?_
    refine WpC.regionL ?_
    refine L.move hF rfl rfl rfl ?_
    refine L.bin hF rfl rfl rfl rfl rfl rfl ?_
    refine L.assign hF rfl rfl rfl ?_
    refine L.nil ?_
    refine WpC.ret ?_
    cases H
    exact Leaves.ret rfl rfl rfl ⟨rfl, rfl⟩
/-! ### Fslices_Sort_int (shelf) -/
theorem ent261 : MG.Enters Try.prog 261 := ⟨Try.f261, Try.func261, rfl, by decide⟩
/-! ### Fslices_Compact_int (shelf) -/
theorem ent262 : MG.Enters Try.prog 262 := ⟨Try.f262, Try.func262, rfl, by decide⟩
/-! ### Fimpl_risen -/
def Fimpl_risen (k : Nat) (a0 : List Int) : Option (List Int) := (Fslices_Sort_int k a0).bind fun r1 => (Fslices_Compact_int k r1).bind fun r2 => some r2
theorem ent187 : MG.Enters Try.prog 187 := ⟨Try.f187, Try.func187, rfl, by decide⟩
set_option maxHeartbeats 8000000 in
set_option maxRecDepth 100000 in
theorem Fimpl_risen_gives (k : Nat) (a0 : List Int) (r : List Int) (H : Fimpl_risen k a0 = some r) : Gives Try.prog 187 [V.one (Cell.ow 1 (List.map eI a0))] [] [V.one (Cell.ow 1 (List.map eI r))] [] := by
  refine Gives.intro Try.func187 rfl rfl rfl rfl ?_
  intro F hF hm
  unfold Fimpl_risen at H
  obtain ⟨K, hK⟩ : ∃ K, k ≤ K := ⟨k, Nat.le_refl k⟩
  refine WpC.seq ?_
  refine WpC.regionL ?_
  refine L.assign hF rfl rfl rfl ?_
  refine L.nil ?_
  refine WpC.seq ?_
  refine WpC.regionL ?_
  refine L.move hF rfl rfl rfl ?_
  obtain ⟨r1, hr1, H⟩ := bindS H
  refine L.callB [true] [] [] 1 [0] hF rfl rfl rfl ent261 rfl rfl rfl rfl rfl (Fslices_Sort_int_gives k  a0 r1 hr1) rfl rfl rfl ?_
  refine L.nil ?_
  refine WpC.seq ?_
  refine WpC.regionL ?_
  refine L.move hF rfl rfl rfl ?_
  obtain ⟨r2, hr2, H⟩ := bindS H
  refine L.call [true] [] [] 1 hF rfl rfl rfl ent262 rfl rfl rfl rfl rfl (Fslices_Compact_int_gives k  r1 r2 hr2) rfl ?_
  refine L.assign hF rfl rfl rfl ?_
  refine L.nil ?_
  refine WpC.ret ?_
  cases H
  exact Leaves.ret rfl rfl rfl ⟨rfl, rfl⟩
/-! ### Fimpl_LinkKey -/
def Fimpl_LinkKey (k : Nat) (a0 : Int) (a1 : Int) : Option Int := (Fimpl_isRealm k a0).bind fun r7 => cond (!r7) (some (0 : Int)) ((Fimpl_isRealm k a1).bind fun r8 => cond (!r8) (some (0 : Int)) (some (IntKind.i64.wrap ((IntKind.i64.wrap ((31 : Int) + (IntKind.i64.wrap ((3 : Int) * a0)))) + a1))))
theorem ent186 : MG.Enters Try.prog 186 := ⟨Try.f186, Try.func186, rfl, by decide⟩
set_option maxHeartbeats 8000000 in
set_option maxRecDepth 100000 in
theorem Fimpl_LinkKey_gives (k : Nat) (a0 : Int) (a1 : Int) (r : Int) (H : Fimpl_LinkKey k a0 a1 = some r) : Gives Try.prog 186 [V.one (cI a0), V.one (cI a1)] [] [V.one (cI r)] [] := by
  refine Gives.intro Try.func186 rfl rfl rfl rfl ?_
  intro F hF hm
  unfold Fimpl_LinkKey at H
  obtain ⟨K, hK⟩ : ∃ K, k ≤ K := ⟨k, Nat.le_refl k⟩
  refine WpC.seq ?_
  refine WpC.regionL ?_
  refine L.assign hF rfl rfl rfl ?_
  refine L.nil ?_
  refine WpC.seq ?_
  refine WpC.seq ?_
  refine WpC.regionL ?_
  refine L.move hF rfl rfl rfl ?_
  obtain ⟨r7, hr7, H⟩ := bindS H
  refine L.call [false] [] [] 2 hF rfl rfl rfl ent184 rfl rfl rfl rfl rfl (Fimpl_isRealm_gives k  a0 r7 hr7) rfl ?_
  refine L.not hF rfl rfl rfl ?_
  refine L.move hF rfl rfl rfl ?_
  refine L.split (fun hc => ?_) (fun hc => ?_)
  · replace H := condT hc H
    refine L.off hF rfl rfl ?_
    refine L.off hF rfl rfl ?_
    refine L.off hF rfl rfl ?_
    refine L.pick hF rfl rfl rfl rfl ?_
    refine L.nil ?_
    refine WpC.cond rfl (fun _ => ?_) (fun hc => by cases hc)
    refine WpC.seq ?_
    refine WpC.regionL ?_
    refine L.assign hF rfl rfl rfl ?_
    refine L.nil ?_
    refine WpC.ret ?_
    cases H
    exact Leaves.ret rfl rfl rfl ⟨rfl, rfl⟩
  · replace H := condF hc H
    refine L.move hF rfl rfl rfl ?_
    obtain ⟨r8, hr8, H⟩ := bindS H
    refine L.call [false] [] [] 3 hF rfl rfl rfl ent184 rfl rfl rfl rfl rfl (Fimpl_isRealm_gives k  a1 r8 hr8) rfl ?_
    refine L.not hF rfl rfl rfl ?_
    refine L.pick hF rfl rfl rfl rfl ?_
    refine L.nil ?_
    refine WpC.cond rfl (fun hc => ?_) (fun hc => ?_)
    · replace H := condT hc H
      refine WpC.seq ?_
      refine WpC.regionL ?_
      refine L.assign hF rfl rfl rfl ?_
      refine L.nil ?_
      refine WpC.ret ?_
      cases H
      exact Leaves.ret rfl rfl rfl ⟨rfl, rfl⟩
    · replace H := condF hc H
      refine WpC.skip ?_
      refine WpC.seq ?_
      refine WpC.regionL ?_
      refine L.move hF rfl rfl rfl ?_
      refine L.bin hF rfl rfl rfl rfl rfl rfl ?_
      refine L.bin hF rfl rfl rfl rfl rfl rfl ?_
      refine L.move hF rfl rfl rfl ?_
      refine L.bin hF rfl rfl rfl rfl rfl rfl ?_
      refine L.assign hF rfl rfl rfl ?_
      refine L.nil ?_
      refine WpC.ret ?_
      cases H
      exact Leaves.ret rfl rfl rfl ⟨rfl, rfl⟩
/-! ### Fimpl_Roots -/
def Fimpl_Roots.j19 (cl17 : (List Timpl_Event) → Int → (List Int) → Int → Int → Option (List Int)) (k : Nat) (v352 : List Timpl_Event) (v353 : Int) (v354 : List Int) (v355 : Int) (v356 : Int) : Option (List Int) := cl17 v352 v353 v354 v355 (IntKind.i64.wrap (v356 + (1 : Int)))
def Fimpl_Roots.j20 (cl17 : (List Timpl_Event) → Int → (List Int) → Int → Int → Option (List Int)) (k : Nat) (v365 : List Timpl_Event) (v366 : Int) (v367 : List Int) (v368 : Int) (v369 : Int) (v370 : Int) (v371 : Bool) (v372 : Int) (v373 : Int) (v374 : Int) (v375 : Int) (v376 : Int) (v377 : Int) (v378 : Int) (v379 : Int) (v380 : Int) : Option (List Int) := cond v371 ((Fimpl_PrincipalKey k (IntKind.i64.wrap ((3 : Int) + v375))).bind fun r381 => cond (decide ((2 * (v367.length + ([r381] : List Int).length) + 192) * 8 ≤ 281474976710656)) (Fimpl_Roots.j19 cl17 k v365 v366 (v367 ++ ([r381] : List Int)) v368 v369) none) (cond (v370 == (3 : Int)) ((Fimpl_LinkKey k v372 (IntKind.i64.wrap (v375 - (10 : Int)))).bind fun r383 => cond (decide ((2 * (v367.length + ([r383] : List Int).length) + 192) * 8 ≤ 281474976710656)) (Fimpl_Roots.j19 cl17 k v365 v366 (v367 ++ ([r383] : List Int)) v368 v369) none) (some ([] : List Int)))
def Fimpl_Roots.l17 : Nat → (List Timpl_Event) → Int → (List Int) → Int → Int → Option (List Int)
  | 0, _, _, _, _, _ => none
  | k17 + 1, v319, v320, v321, v322, v323 => cond (decide (v323 < v322)) ((Fimpl_Find k17 v319 v320).bind fun r357 => cond (decide (r357 < (0 : Int))) (some ([] : List Int)) ((at? v319 r357).bind fun b358 => (Fimpl_rooted k17 b358).bind fun r360 => cond (!r360) (some ([] : List Int)) (cond (b358.Kind == (1 : Int)) ((Fimpl_PrincipalKey k17 b358.By).bind fun r361 => (Fimpl_CentreKey k17 b358.Realm).bind fun r362 => cond (decide ((2 * (v321.length + ([r361, r362] : List Int).length) + 192) * 8 ≤ 281474976710656)) ((Fimpl_risen k17 (v321 ++ ([r361, r362] : List Int))).bind fun r364 => some r364) none) (cond (b358.Kind == (2 : Int)) (Fimpl_Roots.j20 (Fimpl_Roots.l17 k17) k17 v319 b358.Parent v321 v322 v323 b358.Kind (b358.Kind == (2 : Int)) b358.Realm b358.By b358.Client b358.Service b358.Key b358.Evid b358.Rest.Servers b358.Rest.Ops b358.Rest.End) (Fimpl_Roots.j20 (Fimpl_Roots.l17 k17) k17 v319 b358.Parent v321 v322 v323 b358.Kind (b358.Kind == (4 : Int)) b358.Realm b358.By b358.Client b358.Service b358.Key b358.Evid b358.Rest.Servers b358.Rest.Ops b358.Rest.End))))) (some ([] : List Int))
def Fimpl_Roots (k : Nat) (a0 : Timpl_Config) (a1 : List Timpl_Event) (a2 : Int) : Option (List Int) := (Fimpl_ConfigOk k a0).bind fun r2 => cond (!r2) (some ([] : List Int)) (Fimpl_Roots.l17 k a1 a2 ([] : List Int) (a1.length : Int) (0 : Int))
theorem ent94 : MG.Enters Try.prog 94 := ⟨Try.f94, Try.func94, rfl, by decide⟩
set_option maxHeartbeats 8000000 in
set_option maxRecDepth 100000 in
theorem Fimpl_Roots_gives (k : Nat) (g0 : Bool) (g1 : Bool) (g2 : Bool) (g3 : Bool) (g4 : Bool) (a0 : Timpl_Config) (a1 : List Timpl_Event) (a2 : Int) (r : List Int) (H : Fimpl_Roots k a0 a1 a2 = some r) : Gives Try.prog 94 [V.agg [Cell.sl g0 (List.map eI a0.UserRealm), Cell.sl g1 (List.map eI a0.ServiceRealm), Cell.sl g2 (List.map eTimpl_Pair a0.Links), Cell.sl g3 (List.map eTimpl_Pair a0.Proxy), cI a0.Skew], V.one (Cell.sl g4 (List.map eTimpl_Event a1)), V.one (cI a2)] [] [V.one (Cell.ow 1 (List.map eI r))] [] := by
  refine Gives.intro Try.func94 rfl rfl rfl rfl ?_
  intro F hF hm
  unfold Fimpl_Roots at H
  obtain ⟨K, hK⟩ : ∃ K, k ≤ K := ⟨k, Nat.le_refl k⟩
  refine WpC.seq ?_
  refine WpC.regionL ?_
  refine L.box 7 hF rfl rfl rfl rfl ?_
  refine L.assign hF rfl rfl rfl ?_
  refine L.nil ?_
  refine WpC.seq ?_
  refine WpC.regionL ?_
  refine L.buildSlice (e := eI) 8 ([] : List Int) Try.underlying24 info3 rfl rfl rfl hF rfl rfl rfl rfl rfl rfl rfl rfl ?_
  refine L.assign hF rfl rfl rfl ?_
  refine L.nil ?_
  refine WpC.seq ?_
  refine WpC.seq ?_
  refine WpC.regionL ?_
  refine L.loadPtr shape90 hF rfl rfl rfl rfl rfl rfl ?_
  obtain ⟨r2, hr2, H⟩ := bindS H
  refine L.call [false] [] [] 9 hF rfl rfl rfl ent156 rfl rfl rfl rfl rfl (Fimpl_ConfigOk_gives k g0 g1 g2 g3 a0 r2 hr2) rfl ?_
  refine L.not hF rfl rfl rfl ?_
  refine L.nil ?_
  refine WpC.cond rfl (fun hc => ?_) (fun hc => ?_)
  · replace H := condT hc H
    refine WpC.seq ?_
    refine WpC.regionL ?_
    refine L.move hF rfl rfl rfl ?_
    refine L.assign hF rfl rfl rfl ?_
    refine L.nil ?_
    refine WpC.ret ?_
    cases H
    exact Leaves.ret rfl rfl rfl ⟨rfl, rfl⟩
  · replace H := condF hc H
    refine WpC.skip ?_
    refine WpC.seq ?_
    refine WpC.seq ?_
    refine WpC.regionL ?_
    refine L.move hF rfl rfl rfl ?_
    refine L.lenR (xs := a1) (e := eTimpl_Event) Try.underlying26 hF rfl rfl rfl rfl ?_
    refine L.move hF rfl rfl rfl ?_
    refine L.nil ?_
    refine WpC.block ?_
    refine WpC.loopL (P := Try.prog) (fun n σ => ∃ v319 : List Timpl_Event, ∃ v320 : Int, ∃ v321 : List Int, ∃ v322 : Int, ∃ v323 : Int, n ≤ K ∧ Fimpl_Roots.l17 n v319 v320 v321 v322 v323 = some r ∧ σ = mkSt [(1, MG.one (Cell.sl g4 (List.map eTimpl_Event v319))), (2, MG.one (cI v320)), (7, MG.one (Cell.own 0)), (16, MG.one (cI v322)), (17, MG.one (cI v323))] [(0, ⟨1, List.map eI v321⟩)] [] 1) k ⟨_, ⟨a1, a2, ([] : List Int), (a1.length : Int), (0 : Int), by omega, H, rfl⟩, Le.mk [(0, 8)] hm rfl ⟨⟨_, rfl, rfl⟩, ⟨_, rfl, rfl⟩, ⟨_, rfl, rfl⟩, ⟨_, rfl, rfl⟩, ⟨_, rfl, rfl⟩, trivial⟩ ⟨⟨_, rfl, rfl⟩, trivial⟩ trivial⟩ ?_
    clear H
    rintro k17 _ ⟨v319, v320, v321, v322, v323, hk17, H, rfl⟩
    cases k17 with
    | zero => cases H
    | succ k17 =>
      rw [Fimpl_Roots.l17] at H
      refine WpC.seq ?_
      refine WpC.regionL ?_
      refine L.bin hF rfl rfl rfl rfl rfl rfl ?_
      refine L.nil ?_
      refine WpC.seq ?_
      refine WpC.cond rfl (fun hc => ?_) (fun hc => ?_)
      · replace H := condT hc H
        refine WpC.skip ?_
        refine WpC.join (fun σ => ∃ kj19 : Nat, ∃ v352 : List Timpl_Event, ∃ v353 : Int, ∃ v354 : List Int, ∃ v355 : Int, ∃ v356 : Int, kj19 ≤ K ∧ Fimpl_Roots.j19 (Fimpl_Roots.l17 k17) kj19 v352 v353 v354 v355 v356 = some r ∧ σ = mkSt [(1, MG.one (Cell.sl g4 (List.map eTimpl_Event v352))), (2, MG.one (cI v353)), (7, MG.one (Cell.own 0)), (16, MG.one (cI v355)), (17, MG.one (cI v356))] [(0, ⟨1, List.map eI v354⟩)] [] 1) ?_ ?_
        · rintro _ ⟨kj19, v352, v353, v354, v355, v356, hkj19, H, rfl⟩
          unfold Fimpl_Roots.j19 at H
          refine WpC.regionL ?_
          refine L.bin hF rfl rfl rfl rfl rfl rfl ?_
          refine L.move hF rfl rfl rfl ?_
          refine L.nil ?_
          exact ⟨k17, _, by omega, ⟨v352, v353, v354, v355, (IntKind.i64.wrap (v356 + (1 : Int))), by omega, H, rfl⟩, Le.mk [(0, 0)] hm rfl ⟨⟨_, rfl, rfl⟩, ⟨_, rfl, rfl⟩, ⟨_, rfl, rfl⟩, ⟨_, rfl, rfl⟩, ⟨_, rfl, rfl⟩, trivial⟩ ⟨⟨_, rfl, rfl⟩, trivial⟩ trivial⟩
        · refine WpC.block ?_
          refine WpC.seq ?_
          refine WpC.regionL ?_
          refine L.move hF rfl rfl rfl ?_
          refine L.move hF rfl rfl rfl ?_
          obtain ⟨r357, hr357, H⟩ := bindS H
          refine L.call [false, false] [] [] 1 hF rfl rfl rfl ent102 rfl rfl rfl rfl rfl (Fimpl_Find_gives k17 g4 v319 v320 r357 hr357) rfl ?_
          refine L.assign hF rfl rfl rfl ?_
          refine L.nil ?_
          refine WpC.seq ?_
          refine WpC.seq ?_
          refine WpC.regionL ?_
          refine L.move hF rfl rfl rfl ?_
          refine L.bin hF rfl rfl rfl rfl rfl rfl ?_
          refine L.nil ?_
          refine WpC.cond rfl (fun hc => ?_) (fun hc => ?_)
          · replace H := condT hc H
            refine WpC.exit ?_
            refine WpC.seq ?_
            refine WpC.regionL ?_
            refine L.buildSlice (e := eI) 2 ([] : List Int) Try.underlying24 info3 rfl rfl rfl hF rfl rfl rfl rfl rfl rfl rfl rfl ?_
            refine L.assign hF rfl rfl rfl ?_
            refine L.nil ?_
            refine WpC.ret ?_
            cases H
            exact Leaves.ret rfl rfl rfl ⟨rfl, rfl⟩
          · replace H := condF hc H
            refine WpC.skip ?_
            refine WpC.seq ?_
            refine WpC.regionL ?_
            refine L.move hF rfl rfl rfl ?_
            refine L.move hF rfl rfl rfl ?_
            obtain ⟨b358, hb358, H⟩ := bindS H
            refine L.idxR (xs := v319) (e := eTimpl_Event) Try.underlying26 info135 hF rfl rfl rfl rfl rfl hb358 rfl rfl ?_
            refine L.loadPe shape135 hF rfl rfl rfl rfl rfl ?_
            refine L.alloc 2 info135 rfl hF rfl rfl rfl rfl ?_
            refine L.storePtr shape135 hF rfl rfl rfl rfl rfl rfl rfl ?_
            refine L.nil ?_
            refine WpC.seq ?_
            refine WpC.regionL ?_
            refine L.fieldAddr Try.underlying135 rfl info3 rfl hF rfl rfl rfl rfl rfl ?_
            refine L.loadPtr shape3 hF rfl rfl rfl rfl rfl rfl ?_
            refine L.assign hF rfl rfl rfl ?_
            refine L.nil ?_
            refine WpC.seq ?_
            refine WpC.seq ?_
            refine WpC.regionL ?_
            refine L.loadPtr shape135 hF rfl rfl rfl rfl rfl rfl ?_
            obtain ⟨r360, hr360, H⟩ := bindS H
            refine L.call [false] [] [] 3 hF rfl rfl rfl ent189 rfl rfl rfl rfl rfl (Fimpl_rooted_gives k17  b358 r360 hr360) rfl ?_
            refine L.not hF rfl rfl rfl ?_
            refine L.nil ?_
            refine WpC.cond rfl (fun hc => ?_) (fun hc => ?_)
            · replace H := condT hc H
              refine WpC.seq ?_
              refine WpC.regionL ?_
              refine L.buildSlice (e := eI) 4 ([] : List Int) Try.underlying24 info3 rfl rfl rfl hF rfl rfl rfl rfl rfl rfl rfl rfl ?_
              refine L.assign hF rfl rfl rfl ?_
              refine L.nil ?_
              refine WpC.ret ?_
              cases H
              exact Leaves.ret rfl rfl rfl ⟨rfl, rfl⟩
            · replace H := condF hc H
              refine WpC.skip ?_
              refine WpC.seq ?_
              refine WpC.regionL ?_
              refine L.fieldAddr Try.underlying135 rfl info3 rfl hF rfl rfl rfl rfl rfl ?_
              refine L.loadPtr shape3 hF rfl rfl rfl rfl rfl rfl ?_
              refine L.nil ?_
              refine WpC.block ?_
              refine WpC.seq ?_
              refine WpC.regionL ?_
              refine L.bin hF rfl rfl rfl rfl rfl rfl ?_
              refine L.assign hF rfl rfl rfl ?_
              refine L.nil ?_
              refine WpC.cond rfl (fun hc => ?_) (fun hc => ?_)
              · replace H := condT hc H
                refine WpC.seq ?_
                obtain ⟨r361, hr361, H⟩ := bindS H
                obtain ⟨r362, hr362, H⟩ := bindS H
                obtain ⟨h363, H⟩ := condG H
                obtain ⟨r364, hr364, H⟩ := bindS H
                refine A.begin mixed rfl rfl ?_
                intro W hI hO
                have n63 : W 5 #[true, true, true, true, true, true, false, false, false, false, false] (mkSt [(39, MG.one (Cell.own 0)), (42, MG.one (cI r361)), (44, MG.one (cI b358.Realm))] [(0, ⟨1, List.map eI v321⟩)] [] 1) := by
                  refine hI _ _ _ ?_
                  refine A.all [6] (by kernel_rfl) rfl ⟨⟨_, rfl, ?_⟩, trivial⟩
                  refine L.call [false] [] [] 1 hF rfl rfl rfl ent185 rfl rfl rfl rfl rfl (Fimpl_CentreKey_gives k17  b358.Realm r362 hr362) rfl ?_
                  refine L.nil ?_
                  refine A.all [7] (by kernel_rfl) rfl ⟨⟨_, rfl, ?_⟩, trivial⟩
                  refine L.buildSlice (e := eI) 2 ([r361, r362] : List Int) Try.underlying24 info3 rfl rfl rfl hF rfl rfl rfl rfl rfl rfl rfl rfl ?_
                  refine L.nil ?_
                  refine A.all [8] (by kernel_rfl) rfl ⟨⟨_, rfl, ?_⟩, trivial⟩
                  refine L.append (xs := v321) (ys := ([r361, r362] : List Int)) (e := eI) 3 Try.underlying24 info3 rfl rfl hF rfl rfl rfl rfl rfl rfl rfl rfl (fun _ => rfl) (fun _ _ h1 h2 => by cases h1; cases h2; rfl) ⟨_, Try.underlying24⟩ (of_decide_eq_true h363) rfl rfl ?_
                  refine L.nil ?_
                  refine A.all [9] (by kernel_rfl) rfl ⟨⟨_, rfl, ?_⟩, trivial⟩
                  refine L.call [true] [] [] 4 hF rfl rfl rfl ent187 rfl rfl rfl rfl rfl (Fimpl_risen_gives k17  (v321 ++ ([r361, r362] : List Int)) r364 hr364) rfl ?_
                  refine L.nil ?_
                  refine A.take 10 rfl (by kernel_rfl) (by kernel_rfl) (by kernel_rfl) rfl (Ca.assign) (fun Q0 k0 => L.assign hF rfl rfl rfl (L.nil k0)) ?_
                  refine A.le (τ := mkSt [(6, MG.one (Cell.own 0))] [(0, ⟨1, List.map eI r364⟩)] [] 1) (Le.mk [(0, 4)] hm rfl ⟨⟨_, rfl, rfl⟩, trivial⟩ ⟨⟨_, rfl, rfl⟩, trivial⟩ trivial) ?_
                  refine A.done (by kernel_rfl) ?_
                  refine WpC.ret ?_
                  cases H
                  exact Leaves.ret rfl rfl rfl ⟨rfl, rfl⟩
                have n55 : W 6 #[true, true, true, false, true, true, false, false, false, false, false] (mkSt [(39, MG.one (Cell.own 0)), (41, MG.one (cI b358.By)), (44, MG.one (cI b358.Realm))] [(0, ⟨1, List.map eI v321⟩)] [] 1) := by
                  refine hI _ _ _ ?_
                  refine A.all [3] (by kernel_rfl) rfl ⟨⟨_, rfl, ?_⟩, trivial⟩
                  refine L.call [false] [] [] 1 hF rfl rfl rfl ent181 rfl rfl rfl rfl rfl (Fimpl_PrincipalKey_gives k17  b358.By r361 hr361) rfl ?_
                  refine L.nil ?_
                  exact A.on (hO _ _ _ n63) (Le.mk [(0, 0)] hm rfl ⟨⟨_, rfl, rfl⟩, ⟨_, rfl, rfl⟩, ⟨_, rfl, rfl⟩, trivial⟩ ⟨⟨_, rfl, rfl⟩, trivial⟩ trivial)
                refine hI _ _ _ ?_
                refine A.take 0 rfl (by kernel_rfl) (by kernel_rfl) (by kernel_rfl) rfl (Ca.move) (fun Q0 k0 => L.move hF rfl rfl rfl (L.nil k0)) ?_
                refine A.take 1 rfl (by kernel_rfl) (by kernel_rfl) (by kernel_rfl) rfl (Ca.fieldAddr Try.underlying135 rfl info3 rfl) (fun Q0 k0 => L.fieldAddr Try.underlying135 rfl info3 rfl hF rfl rfl rfl rfl rfl (L.nil k0)) ?_
                refine A.take 4 rfl (by kernel_rfl) (by kernel_rfl) (by kernel_rfl) rfl (Ca.fieldAddr Try.underlying135 rfl info3 rfl) (fun Q0 k0 => L.fieldAddr Try.underlying135 rfl info3 rfl hF rfl rfl rfl rfl rfl (L.nil k0)) ?_
                refine A.all [2, 5] (by kernel_rfl) rfl ⟨⟨_, rfl, ?_⟩, ⟨_, rfl, ?_⟩, trivial⟩
                · refine L.loadPtr shape3 hF rfl rfl rfl rfl rfl rfl ?_
                  refine L.nil ?_
                  refine A.all [3, 5] (by kernel_rfl) rfl ⟨⟨_, rfl, ?_⟩, ⟨_, rfl, ?_⟩, trivial⟩
                  · refine L.call [false] [] [] 4 hF rfl rfl rfl ent181 rfl rfl rfl rfl rfl (Fimpl_PrincipalKey_gives k17  b358.By r361 hr361) rfl ?_
                    refine L.nil ?_
                    refine A.all [5] (by kernel_rfl) rfl ⟨⟨_, rfl, ?_⟩, trivial⟩
                    refine L.loadPtr shape3 hF rfl rfl rfl rfl rfl rfl ?_
                    refine L.nil ?_
                    exact A.on (hO _ _ _ n63) (Le.mk [(0, 0)] hm rfl ⟨⟨_, rfl, rfl⟩, ⟨_, rfl, rfl⟩, ⟨_, rfl, rfl⟩, trivial⟩ ⟨⟨_, rfl, rfl⟩, trivial⟩ trivial)
                  · refine L.loadPtr shape3 hF rfl rfl rfl rfl rfl rfl ?_
                    refine L.nil ?_
                    exact A.on (hO _ _ _ n55) (Le.mk [(0, 0)] hm rfl ⟨⟨_, rfl, rfl⟩, ⟨_, rfl, rfl⟩, ⟨_, rfl, rfl⟩, trivial⟩ ⟨⟨_, rfl, rfl⟩, trivial⟩ trivial)
                · refine L.loadPtr shape3 hF rfl rfl rfl rfl rfl rfl ?_
                  refine L.nil ?_
                  refine A.all [2] (by kernel_rfl) rfl ⟨⟨_, rfl, ?_⟩, trivial⟩
                  refine L.loadPtr shape3 hF rfl rfl rfl rfl rfl rfl ?_
                  refine L.nil ?_
                  exact A.on (hO _ _ _ n55) (Le.mk [(0, 0)] hm rfl ⟨⟨_, rfl, rfl⟩, ⟨_, rfl, rfl⟩, ⟨_, rfl, rfl⟩, trivial⟩ ⟨⟨_, rfl, rfl⟩, trivial⟩ trivial)
              · replace H := condF hc H
                refine WpC.join (fun σ => ∃ kj20 : Nat, ∃ v365 : List Timpl_Event, ∃ v366 : Int, ∃ v367 : List Int, ∃ v368 : Int, ∃ v369 : Int, ∃ v370 : Int, ∃ v371 : Bool, ∃ v372 : Int, ∃ v373 : Int, ∃ v374 : Int, ∃ v375 : Int, ∃ v376 : Int, ∃ v377 : Int, ∃ v378 : Int, ∃ v379 : Int, ∃ v380 : Int, kj20 ≤ K ∧ Fimpl_Roots.j20 (Fimpl_Roots.l17 k17) kj20 v365 v366 v367 v368 v369 v370 v371 v372 v373 v374 v375 v376 v377 v378 v379 v380 = some r ∧ σ = mkSt [(1, MG.one (Cell.sl g4 (List.map eTimpl_Event v365))), (2, MG.one (cI v366)), (7, MG.one (Cell.own 0)), (9, MG.one (Cell.ptr 1 0)), (16, MG.one (cI v368)), (17, MG.one (cI v369)), (35, MG.one (cI v370)), (49, MG.one (cL v371))] [(0, ⟨1, List.map eI v367⟩)] [(1, [cI v370, cI v372, cI v373, cI v374, cI v375, cI v376, cI v366, cI v377, cI v378, cI v379, cI v380])] 2) ?_ ?_
                · rintro _ ⟨kj20, v365, v366, v367, v368, v369, v370, v371, v372, v373, v374, v375, v376, v377, v378, v379, v380, hkj20, H, rfl⟩
                  unfold Fimpl_Roots.j20 at H
                  refine WpC.cond rfl (fun hc => ?_) (fun hc => ?_)
                  · replace H := condT hc H
                    refine WpC.regionL ?_
                    refine L.move hF rfl rfl rfl ?_
                    refine L.fieldAddr Try.underlying135 rfl info3 rfl hF rfl rfl rfl rfl rfl ?_
                    refine L.loadPtr shape3 hF rfl rfl rfl rfl rfl rfl ?_
                    refine L.bin hF rfl rfl rfl rfl rfl rfl ?_
                    obtain ⟨r381, hr381, H⟩ := bindS H
                    refine L.call [false] [] [] 2 hF rfl rfl rfl ent181 rfl rfl rfl rfl rfl (Fimpl_PrincipalKey_gives kj20  (IntKind.i64.wrap ((3 : Int) + v375)) r381 hr381) rfl ?_
                    refine L.buildSlice (e := eI) 3 ([r381] : List Int) Try.underlying24 info3 rfl rfl rfl hF rfl rfl rfl rfl rfl rfl rfl rfl ?_
                    obtain ⟨h382, H⟩ := condG H
                    refine L.append (xs := v367) (ys := ([r381] : List Int)) (e := eI) 4 Try.underlying24 info3 rfl rfl hF rfl rfl rfl rfl rfl rfl rfl rfl (fun _ => rfl) (fun _ _ h1 h2 => by cases h1; cases h2; rfl) ⟨_, Try.underlying24⟩ (of_decide_eq_true h382) rfl rfl ?_
                    refine L.assign hF rfl rfl rfl ?_
                    refine L.nil ?_
                    exact ⟨_, ⟨kj20, v365, v366, (v367 ++ ([r381] : List Int)), v368, v369, by omega, H, rfl⟩, Le.mk [(0, 4)] hm rfl ⟨⟨_, rfl, rfl⟩, ⟨_, rfl, rfl⟩, ⟨_, rfl, rfl⟩, ⟨_, rfl, rfl⟩, ⟨_, rfl, rfl⟩, trivial⟩ ⟨⟨_, rfl, rfl⟩, trivial⟩ trivial⟩
                  · replace H := condF hc H
                    refine WpC.seq ?_
                    refine WpC.regionL ?_
                    refine L.bin hF rfl rfl rfl rfl rfl rfl ?_
                    refine L.assign hF rfl rfl rfl ?_
                    refine L.nil ?_
                    refine WpC.cond rfl (fun hc => ?_) (fun hc => ?_)
                    · replace H := condT hc H
                      refine WpC.regionL ?_
                      refine L.move hF rfl rfl rfl ?_
                      refine L.fieldAddr Try.underlying135 rfl info3 rfl hF rfl rfl rfl rfl rfl ?_
                      refine L.loadPtr shape3 hF rfl rfl rfl rfl rfl rfl ?_
                      refine L.fieldAddr Try.underlying135 rfl info3 rfl hF rfl rfl rfl rfl rfl ?_
                      refine L.loadPtr shape3 hF rfl rfl rfl rfl rfl rfl ?_
                      refine L.bin hF rfl rfl rfl rfl rfl rfl ?_
                      obtain ⟨r383, hr383, H⟩ := bindS H
                      refine L.call [false, false] [] [] 2 hF rfl rfl rfl ent186 rfl rfl rfl rfl rfl (Fimpl_LinkKey_gives kj20  v372 (IntKind.i64.wrap (v375 - (10 : Int))) r383 hr383) rfl ?_
                      refine L.buildSlice (e := eI) 3 ([r383] : List Int) Try.underlying24 info3 rfl rfl rfl hF rfl rfl rfl rfl rfl rfl rfl rfl ?_
                      obtain ⟨h384, H⟩ := condG H
                      refine L.append (xs := v367) (ys := ([r383] : List Int)) (e := eI) 4 Try.underlying24 info3 rfl rfl hF rfl rfl rfl rfl rfl rfl rfl rfl (fun _ => rfl) (fun _ _ h1 h2 => by cases h1; cases h2; rfl) ⟨_, Try.underlying24⟩ (of_decide_eq_true h384) rfl rfl ?_
                      refine L.assign hF rfl rfl rfl ?_
                      refine L.nil ?_
                      exact ⟨_, ⟨kj20, v365, v366, (v367 ++ ([r383] : List Int)), v368, v369, by omega, H, rfl⟩, Le.mk [(0, 4)] hm rfl ⟨⟨_, rfl, rfl⟩, ⟨_, rfl, rfl⟩, ⟨_, rfl, rfl⟩, ⟨_, rfl, rfl⟩, ⟨_, rfl, rfl⟩, trivial⟩ ⟨⟨_, rfl, rfl⟩, trivial⟩ trivial⟩
                    · replace H := condF hc H
                      refine WpC.seq ?_
                      refine WpC.regionL ?_
                      refine L.buildSlice (e := eI) 2 ([] : List Int) Try.underlying24 info3 rfl rfl rfl hF rfl rfl rfl rfl rfl rfl rfl rfl ?_
                      refine L.assign hF rfl rfl rfl ?_
                      refine L.nil ?_
                      refine WpC.ret ?_
                      cases H
                      exact Leaves.ret rfl rfl rfl ⟨rfl, rfl⟩
                · refine WpC.seq ?_
                  refine WpC.regionL ?_
                  refine L.bin hF rfl rfl rfl rfl rfl rfl ?_
                  refine L.assign hF rfl rfl rfl ?_
                  refine L.nil ?_
                  refine WpC.cond rfl (fun hc => ?_) (fun hc => ?_)
                  · replace H := condT hc H
                    refine WpC.skip ?_
                    exact ⟨_, ⟨k17, v319, b358.Parent, v321, v322, v323, b358.Kind, (b358.Kind == (2 : Int)), b358.Realm, b358.By, b358.Client, b358.Service, b358.Key, b358.Evid, b358.Rest.Servers, b358.Rest.Ops, b358.Rest.End, by omega, H, rfl⟩, Le.mk [(0, 0), (1, 2)] hm rfl ⟨⟨_, rfl, rfl⟩, ⟨_, rfl, rfl⟩, ⟨_, rfl, rfl⟩, ⟨_, rfl, rfl⟩, ⟨_, rfl, rfl⟩, ⟨_, rfl, rfl⟩, ⟨_, rfl, rfl⟩, ⟨_, rfl, rfl⟩, trivial⟩ ⟨⟨_, rfl, rfl⟩, trivial⟩ ⟨⟨_, _, rfl, rfl, rfl⟩, trivial⟩⟩
                  · replace H := condF hc H
                    refine WpC.regionL ?_
                    refine L.bin hF rfl rfl rfl rfl rfl rfl ?_
                    refine L.assign hF rfl rfl rfl ?_
                    refine L.nil ?_
                    exact ⟨_, ⟨k17, v319, b358.Parent, v321, v322, v323, b358.Kind, (b358.Kind == (4 : Int)), b358.Realm, b358.By, b358.Client, b358.Service, b358.Key, b358.Evid, b358.Rest.Servers, b358.Rest.Ops, b358.Rest.End, by omega, H, rfl⟩, Le.mk [(0, 0), (1, 2)] hm rfl ⟨⟨_, rfl, rfl⟩, ⟨_, rfl, rfl⟩, ⟨_, rfl, rfl⟩, ⟨_, rfl, rfl⟩, ⟨_, rfl, rfl⟩, ⟨_, rfl, rfl⟩, ⟨_, rfl, rfl⟩, ⟨_, rfl, rfl⟩, trivial⟩ ⟨⟨_, rfl, rfl⟩, trivial⟩ ⟨⟨_, _, rfl, rfl, rfl⟩, trivial⟩⟩
      · replace H := condF hc H
        refine WpC.exit ?_
        refine WpC.seq ?_
        refine WpC.regionL ?_
        refine L.buildSlice (e := eI) 1 ([] : List Int) Try.underlying24 info3 rfl rfl rfl hF rfl rfl rfl rfl rfl rfl rfl rfl ?_
        refine L.assign hF rfl rfl rfl ?_
        refine L.nil ?_
        refine WpC.ret ?_
        cases H
        exact Leaves.ret rfl rfl rfl ⟨rfl, rfl⟩
/-! ### Flaws_eqIntS -/
def Flaws_eqIntS.l2 : Nat → (List Int) → (List Int) → Int → Option Bool
  | 0, _, _, _ => none
  | k2 + 1, v34, v35, v36 => cond (decide (v36 < (v34.length : Int))) ((at? v34 v36).bind fun b39 => (at? v35 v36).bind fun b40 => cond (b39 != b40) (some false) ((Flaws_eqIntS.l2 k2) v34 v35 (IntKind.i64.wrap (v36 + (1 : Int))))) (some true)
def Flaws_eqIntS (k : Nat) (a0 : List Int) (a1 : List Int) : Option Bool := cond ((a0.length : Int) != (a1.length : Int)) (some false) (Flaws_eqIntS.l2 k a0 a1 (0 : Int))
theorem ent26 : MG.Enters Try.prog 26 := ⟨Try.f26, Try.func26, rfl, by decide⟩
set_option maxHeartbeats 8000000 in
set_option maxRecDepth 100000 in
theorem Flaws_eqIntS_gives (k : Nat) (g0 : Bool) (g1 : Bool) (a0 : List Int) (a1 : List Int) (r : Bool) (H : Flaws_eqIntS k a0 a1 = some r) : Gives Try.prog 26 [V.one (Cell.sl g0 (List.map eI a0)), V.one (Cell.sl g1 (List.map eI a1))] [] [V.one (cL r)] [] := by
  refine Gives.intro Try.func26 rfl rfl rfl rfl ?_
  intro F hF hm
  unfold Flaws_eqIntS at H
  obtain ⟨K, hK⟩ : ∃ K, k ≤ K := ⟨k, Nat.le_refl k⟩
  refine WpC.seq ?_
  refine WpC.regionL ?_
  refine L.assign hF rfl rfl rfl ?_
  refine L.nil ?_
  refine WpC.seq ?_
  refine WpC.seq ?_
  refine WpC.regionL ?_
  refine L.move hF rfl rfl rfl ?_
  refine L.lenR (xs := a0) (e := eI) Try.underlying24 hF rfl rfl rfl rfl ?_
  refine L.move hF rfl rfl rfl ?_
  refine L.lenR (xs := a1) (e := eI) Try.underlying24 hF rfl rfl rfl rfl ?_
  refine L.bin hF rfl rfl rfl rfl rfl rfl ?_
  refine L.nil ?_
  refine WpC.cond rfl (fun hc => ?_) (fun hc => ?_)
  · replace H := condT hc H
    refine WpC.seq ?_
    refine WpC.regionL ?_
    refine L.assign hF rfl rfl rfl ?_
    refine L.nil ?_
    refine WpC.ret ?_
    cases H
    exact Leaves.ret rfl rfl rfl ⟨rfl, rfl⟩
  · replace H := condF hc H
    refine WpC.skip ?_
    refine WpC.seq ?_
    refine WpC.seq ?_
    refine WpC.regionL ?_
    refine L.assign hF rfl rfl rfl ?_
    refine L.nil ?_
    refine WpC.block ?_
    refine WpC.loopL (P := Try.prog) (fun n σ => ∃ v34 : List Int, ∃ v35 : List Int, ∃ v36 : Int, n ≤ K ∧ Flaws_eqIntS.l2 n v34 v35 v36 = some r ∧ σ = mkSt [(0, MG.one (Cell.sl g0 (List.map eI v34))), (1, MG.one (Cell.sl g1 (List.map eI v35))), (5, MG.one (cI v36))] [] [] 0) k ⟨_, ⟨a0, a1, (0 : Int), by omega, H, rfl⟩, Le.mk [] hm rfl ⟨⟨_, rfl, rfl⟩, ⟨_, rfl, rfl⟩, ⟨_, rfl, rfl⟩, trivial⟩ trivial trivial⟩ ?_
    clear H
    rintro k2 _ ⟨v34, v35, v36, hk2, H, rfl⟩
    cases k2 with
    | zero => cases H
    | succ k2 =>
      rw [Flaws_eqIntS.l2] at H
      refine WpC.seq ?_
      refine WpC.seq ?_
      refine WpC.regionL ?_
      refine L.move hF rfl rfl rfl ?_
      refine L.move hF rfl rfl rfl ?_
      refine L.lenR (xs := v34) (e := eI) Try.underlying24 hF rfl rfl rfl rfl ?_
      refine L.bin hF rfl rfl rfl rfl rfl rfl ?_
      refine L.nil ?_
      refine WpC.cond rfl (fun hc => ?_) (fun hc => ?_)
      · replace H := condT hc H
        refine WpC.skip ?_
        refine WpC.seq ?_
        refine WpC.block ?_
        refine WpC.seq ?_
        refine S.begin mixed (by kernel_rfl) ?_
        refine S.st 0 rfl rfl ((Ca.move).quiet) (fun Q0 k0 => L.move hF rfl rfl rfl (L.nil k0)) ?_
        refine S.st 1 rfl rfl ((Ca.move).quiet) (fun Q0 k0 => L.move hF rfl rfl rfl (L.nil k0)) ?_
        obtain ⟨b39, hb39, H⟩ := bindS H
        refine S.st 2 rfl rfl ((Ca.indexAddr).quiet) (fun Q0 k0 => L.idxR (xs := v34) (e := eI) Try.underlying24 info3 hF rfl rfl rfl rfl rfl hb39 rfl rfl (L.nil k0)) ?_
        refine S.st 3 rfl rfl (Qu.load) (fun Q0 k0 => L.loadPe shape3 hF rfl rfl rfl rfl rfl (L.nil k0)) ?_
        refine S.st 4 rfl rfl ((Ca.move).quiet) (fun Q0 k0 => L.move hF rfl rfl rfl (L.nil k0)) ?_
        refine S.st 5 rfl rfl ((Ca.move).quiet) (fun Q0 k0 => L.move hF rfl rfl rfl (L.nil k0)) ?_
        obtain ⟨b40, hb40, H⟩ := bindS H
        refine S.st 6 rfl rfl ((Ca.indexAddr).quiet) (fun Q0 k0 => L.idxR (xs := v35) (e := eI) Try.underlying24 info3 hF rfl rfl rfl rfl rfl hb40 rfl rfl (L.nil k0)) ?_
        refine S.st 7 rfl rfl (Qu.load) (fun Q0 k0 => L.loadPe shape3 hF rfl rfl rfl rfl rfl (L.nil k0)) ?_
        refine S.st 8 rfl rfl ((Ca.bin rfl rfl (calm_int _ _ _ _ _ _ _ _)).quiet) (fun Q0 k0 => L.bin hF rfl rfl rfl rfl rfl rfl (L.nil k0)) ?_
        refine S.nil ?_
        refine WpC.cond rfl (fun hc => ?_) (fun hc => ?_)
        · replace H := condT hc H
          refine WpC.seq ?_
          refine WpC.regionL ?_
          refine L.assign hF rfl rfl rfl ?_
          refine L.nil ?_
          refine WpC.ret ?_
          cases H
          exact Leaves.ret rfl rfl rfl ⟨rfl, rfl⟩
        · replace H := condF hc H
          refine WpC.skip ?_
          refine WpC.regionL ?_
          refine L.move hF rfl rfl rfl ?_
          refine L.bin hF rfl rfl rfl rfl rfl rfl ?_
          refine L.assign hF rfl rfl rfl ?_
          refine L.nil ?_
          exact ⟨k2, _, by omega, ⟨v34, v35, (IntKind.i64.wrap (v36 + (1 : Int))), by omega, H, rfl⟩, Le.mk [] hm rfl ⟨⟨_, rfl, rfl⟩, ⟨_, rfl, rfl⟩, ⟨_, rfl, rfl⟩, trivial⟩ trivial trivial⟩
      · replace H := condF hc H
        refine WpC.exit ?_
        refine WpC.seq ?_
        refine WpC.regionL ?_
        refine L.assign hF rfl rfl rfl ?_
        refine L.nil ?_
        refine WpC.ret ?_
        cases H
        exact Leaves.ret rfl rfl rfl ⟨rfl, rfl⟩
/-! ### Flaws_eqPair -/
def Flaws_eqPair (k : Nat) (a0 : Timpl_Pair) (a1 : Timpl_Pair) : Option Bool := cond (a0.A != a1.A) (some false) (cond (a0.B != a1.B) (some false) (some true))
theorem ent253 : MG.Enters Try.prog 253 := ⟨Try.f253, Try.func253, rfl, by decide⟩
set_option maxHeartbeats 8000000 in
set_option maxRecDepth 100000 in
theorem Flaws_eqPair_gives (k : Nat) (a0 : Timpl_Pair) (a1 : Timpl_Pair) (r : Bool) (H : Flaws_eqPair k a0 a1 = some r) : Gives Try.prog 253 [V.agg [cI a0.A, cI a0.B], V.agg [cI a1.A, cI a1.B]] [] [V.one (cL r)] [] := by
  refine Gives.intro Try.func253 rfl rfl rfl rfl ?_
  intro F hF hm
  unfold Flaws_eqPair at H
  obtain ⟨K, hK⟩ : ∃ K, k ≤ K := ⟨k, Nat.le_refl k⟩
  refine WpC.seq ?_
  refine WpC.regionL ?_
  refine L.box 4 hF rfl rfl rfl rfl ?_
  refine L.box 5 hF rfl rfl rfl rfl ?_
  refine L.assign hF rfl rfl rfl ?_
  refine L.nil ?_
  refine WpC.seq ?_
  refine WpC.seq ?_
  refine WpC.regionL ?_
  refine L.fieldAddr Try.underlying256 rfl info3 rfl hF rfl rfl rfl rfl rfl ?_
  refine L.loadPtr shape3 hF rfl rfl rfl rfl rfl rfl ?_
  refine L.fieldAddr Try.underlying256 rfl info3 rfl hF rfl rfl rfl rfl rfl ?_
  refine L.loadPtr shape3 hF rfl rfl rfl rfl rfl rfl ?_
  refine L.bin hF rfl rfl rfl rfl rfl rfl ?_
  refine L.nil ?_
  refine WpC.cond rfl (fun hc => ?_) (fun hc => ?_)
  · replace H := condT hc H
    refine WpC.seq ?_
    refine WpC.regionL ?_
    refine L.assign hF rfl rfl rfl ?_
    refine L.nil ?_
    refine WpC.ret ?_
    cases H
    exact Leaves.ret rfl rfl rfl ⟨rfl, rfl⟩
  · replace H := condF hc H
    refine WpC.skip ?_
    refine WpC.seq ?_
    refine WpC.seq ?_
    refine WpC.regionL ?_
    refine L.fieldAddr Try.underlying256 rfl info3 rfl hF rfl rfl rfl rfl rfl ?_
    refine L.loadPtr shape3 hF rfl rfl rfl rfl rfl rfl ?_
    refine L.fieldAddr Try.underlying256 rfl info3 rfl hF rfl rfl rfl rfl rfl ?_
    refine L.loadPtr shape3 hF rfl rfl rfl rfl rfl rfl ?_
    refine L.bin hF rfl rfl rfl rfl rfl rfl ?_
    refine L.nil ?_
    refine WpC.cond rfl (fun hc => ?_) (fun hc => ?_)
    · replace H := condT hc H
      refine WpC.seq ?_
      refine WpC.regionL ?_
      refine L.assign hF rfl rfl rfl ?_
      refine L.nil ?_
      refine WpC.ret ?_
      cases H
      exact Leaves.ret rfl rfl rfl ⟨rfl, rfl⟩
    · replace H := condF hc H
      refine WpC.skip ?_
      refine WpC.seq ?_
      refine WpC.regionL ?_
      refine L.assign hF rfl rfl rfl ?_
      refine L.nil ?_
      refine WpC.ret ?_
      cases H
      exact Leaves.ret rfl rfl rfl ⟨rfl, rfl⟩
/-! ### Flaws_eqPairS -/
def Flaws_eqPairS.l2 : Nat → (List Timpl_Pair) → (List Timpl_Pair) → Int → Option Bool
  | 0, _, _, _ => none
  | k2 + 1, v44, v45, v46 => cond (decide (v46 < (v44.length : Int))) ((at? v44 v46).bind fun b50 => (at? v45 v46).bind fun b51 => (Flaws_eqPair k2 b50 b51).bind fun r52 => cond (!r52) (some false) ((Flaws_eqPairS.l2 k2) v44 v45 (IntKind.i64.wrap (v46 + (1 : Int))))) (some true)
def Flaws_eqPairS (k : Nat) (a0 : List Timpl_Pair) (a1 : List Timpl_Pair) : Option Bool := cond ((a0.length : Int) != (a1.length : Int)) (some false) (Flaws_eqPairS.l2 k a0 a1 (0 : Int))
theorem ent162 : MG.Enters Try.prog 162 := ⟨Try.f162, Try.func162, rfl, by decide⟩
set_option maxHeartbeats 8000000 in
set_option maxRecDepth 100000 in
theorem Flaws_eqPairS_gives (k : Nat) (g0 : Bool) (g1 : Bool) (a0 : List Timpl_Pair) (a1 : List Timpl_Pair) (r : Bool) (H : Flaws_eqPairS k a0 a1 = some r) : Gives Try.prog 162 [V.one (Cell.sl g0 (List.map eTimpl_Pair a0)), V.one (Cell.sl g1 (List.map eTimpl_Pair a1))] [] [V.one (cL r)] [] := by
  refine Gives.intro Try.func162 rfl rfl rfl rfl ?_
  intro F hF hm
  unfold Flaws_eqPairS at H
  obtain ⟨K, hK⟩ : ∃ K, k ≤ K := ⟨k, Nat.le_refl k⟩
  refine WpC.seq ?_
  refine WpC.regionL ?_
  refine L.assign hF rfl rfl rfl ?_
  refine L.nil ?_
  refine WpC.seq ?_
  refine WpC.seq ?_
  refine WpC.regionL ?_
  refine L.move hF rfl rfl rfl ?_
  refine L.lenR (xs := a0) (e := eTimpl_Pair) Try.underlying88 hF rfl rfl rfl rfl ?_
  refine L.move hF rfl rfl rfl ?_
  refine L.lenR (xs := a1) (e := eTimpl_Pair) Try.underlying88 hF rfl rfl rfl rfl ?_
  refine L.bin hF rfl rfl rfl rfl rfl rfl ?_
  refine L.nil ?_
  refine WpC.cond rfl (fun hc => ?_) (fun hc => ?_)
  · replace H := condT hc H
    refine WpC.seq ?_
    refine WpC.regionL ?_
    refine L.assign hF rfl rfl rfl ?_
    refine L.nil ?_
    refine WpC.ret ?_
    cases H
    exact Leaves.ret rfl rfl rfl ⟨rfl, rfl⟩
  · replace H := condF hc H
    refine WpC.skip ?_
    refine WpC.seq ?_
    refine WpC.seq ?_
    refine WpC.regionL ?_
    refine L.assign hF rfl rfl rfl ?_
    refine L.nil ?_
    refine WpC.block ?_
    refine WpC.loopL (P := Try.prog) (fun n σ => ∃ v44 : List Timpl_Pair, ∃ v45 : List Timpl_Pair, ∃ v46 : Int, n ≤ K ∧ Flaws_eqPairS.l2 n v44 v45 v46 = some r ∧ σ = mkSt [(0, MG.one (Cell.sl g0 (List.map eTimpl_Pair v44))), (1, MG.one (Cell.sl g1 (List.map eTimpl_Pair v45))), (5, MG.one (cI v46))] [] [] 0) k ⟨_, ⟨a0, a1, (0 : Int), by omega, H, rfl⟩, Le.mk [] hm rfl ⟨⟨_, rfl, rfl⟩, ⟨_, rfl, rfl⟩, ⟨_, rfl, rfl⟩, trivial⟩ trivial trivial⟩ ?_
    clear H
    rintro k2 _ ⟨v44, v45, v46, hk2, H, rfl⟩
    cases k2 with
    | zero => cases H
    | succ k2 =>
      rw [Flaws_eqPairS.l2] at H
      refine WpC.seq ?_
      refine WpC.seq ?_
      refine WpC.regionL ?_
      refine L.move hF rfl rfl rfl ?_
      refine L.move hF rfl rfl rfl ?_
      refine L.lenR (xs := v44) (e := eTimpl_Pair) Try.underlying88 hF rfl rfl rfl rfl ?_
      refine L.bin hF rfl rfl rfl rfl rfl rfl ?_
      refine L.nil ?_
      refine WpC.cond rfl (fun hc => ?_) (fun hc => ?_)
      · replace H := condT hc H
        refine WpC.skip ?_
        refine WpC.seq ?_
        refine WpC.block ?_
        refine WpC.seq ?_
        obtain ⟨b50, hb50, H⟩ := bindS H
        obtain ⟨b51, hb51, H⟩ := bindS H
        obtain ⟨r52, hr52, H⟩ := bindS H
        refine A.begin mixed rfl rfl ?_
        intro W hI hO
        have n255 : W 2 #[true, true, true, true, true, true, true, true, false, false] (mkSt [(0, MG.one (Cell.sl g0 (List.map eTimpl_Pair v44))), (1, MG.one (Cell.sl g1 (List.map eTimpl_Pair v45))), (5, MG.one (cI v46)), (20, agg [cI b50.A, cI b50.B]), (24, agg [cI b51.A, cI b51.B])] [] [] 0) := by
          refine hI _ _ _ ?_
          refine A.all [8] (by kernel_rfl) rfl ⟨⟨_, rfl, ?_⟩, trivial⟩
          refine L.call [false, false] [] [] 0 hF rfl rfl rfl ent253 rfl rfl rfl rfl rfl (Flaws_eqPair_gives k2  b50 b51 r52 hr52) rfl ?_
          refine L.nil ?_
          refine A.take 9 rfl (by kernel_rfl) (by kernel_rfl) (by kernel_rfl) rfl (Ca.un rfl rfl) (fun Q0 k0 => L.not hF rfl rfl rfl (L.nil k0)) ?_
          refine A.le (τ := mkSt [(0, MG.one (Cell.sl g0 (List.map eTimpl_Pair v44))), (1, MG.one (Cell.sl g1 (List.map eTimpl_Pair v45))), (5, MG.one (cI v46)), (26, MG.one (cL (!r52)))] [] [] 0) (Le.mk [] hm rfl ⟨⟨_, rfl, rfl⟩, ⟨_, rfl, rfl⟩, ⟨_, rfl, rfl⟩, ⟨_, rfl, rfl⟩, trivial⟩ trivial trivial) ?_
          refine A.done (by kernel_rfl) ?_
          refine WpC.cond rfl (fun hc => ?_) (fun hc => ?_)
          · replace H := condT hc H
            refine WpC.seq ?_
            refine WpC.regionL ?_
            refine L.assign hF rfl rfl rfl ?_
            refine L.nil ?_
            refine WpC.ret ?_
            cases H
            exact Leaves.ret rfl rfl rfl ⟨rfl, rfl⟩
          · replace H := condF hc H
            refine WpC.skip ?_
            refine WpC.regionL ?_
            refine L.move hF rfl rfl rfl ?_
            refine L.bin hF rfl rfl rfl rfl rfl rfl ?_
            refine L.assign hF rfl rfl rfl ?_
            refine L.nil ?_
            exact ⟨k2, _, by omega, ⟨v44, v45, (IntKind.i64.wrap (v46 + (1 : Int))), by omega, H, rfl⟩, Le.mk [] hm rfl ⟨⟨_, rfl, rfl⟩, ⟨_, rfl, rfl⟩, ⟨_, rfl, rfl⟩, trivial⟩ trivial trivial⟩
        refine hI _ _ _ ?_
        refine A.take 0 rfl (by kernel_rfl) (by kernel_rfl) (by kernel_rfl) rfl (Ca.move) (fun Q0 k0 => L.move hF rfl rfl rfl (L.nil k0)) ?_
        refine A.take 1 rfl (by kernel_rfl) (by kernel_rfl) (by kernel_rfl) rfl (Ca.move) (fun Q0 k0 => L.move hF rfl rfl rfl (L.nil k0)) ?_
        refine A.take 2 rfl (by kernel_rfl) (by kernel_rfl) (by kernel_rfl) rfl (Ca.indexAddr) (fun Q0 k0 => L.idxR (xs := v44) (e := eTimpl_Pair) Try.underlying88 info256 hF rfl rfl rfl rfl rfl hb50 rfl rfl (L.nil k0)) ?_
        refine A.take 4 rfl (by kernel_rfl) (by kernel_rfl) (by kernel_rfl) rfl (Ca.move) (fun Q0 k0 => L.move hF rfl rfl rfl (L.nil k0)) ?_
        refine A.take 5 rfl (by kernel_rfl) (by kernel_rfl) (by kernel_rfl) rfl (Ca.move) (fun Q0 k0 => L.move hF rfl rfl rfl (L.nil k0)) ?_
        refine A.take 6 rfl (by kernel_rfl) (by kernel_rfl) (by kernel_rfl) rfl (Ca.indexAddr) (fun Q0 k0 => L.idxR (xs := v45) (e := eTimpl_Pair) Try.underlying88 info256 hF rfl rfl rfl rfl rfl hb51 rfl rfl (L.nil k0)) ?_
        refine A.all [3, 7] (by kernel_rfl) rfl ⟨⟨_, rfl, ?_⟩, ⟨_, rfl, ?_⟩, trivial⟩
        · refine L.loadPe shape256 hF rfl rfl rfl rfl rfl ?_
          refine L.nil ?_
          refine A.all [7] (by kernel_rfl) rfl ⟨⟨_, rfl, ?_⟩, trivial⟩
          refine L.loadPe shape256 hF rfl rfl rfl rfl rfl ?_
          refine L.nil ?_
          exact A.on (hO _ _ _ n255) (Le.mk [] hm rfl ⟨⟨_, rfl, rfl⟩, ⟨_, rfl, rfl⟩, ⟨_, rfl, rfl⟩, ⟨_, rfl, rfl⟩, ⟨_, rfl, rfl⟩, trivial⟩ trivial trivial)
        · refine L.loadPe shape256 hF rfl rfl rfl rfl rfl ?_
          refine L.nil ?_
          refine A.all [3] (by kernel_rfl) rfl ⟨⟨_, rfl, ?_⟩, trivial⟩
          refine L.loadPe shape256 hF rfl rfl rfl rfl rfl ?_
          refine L.nil ?_
          exact A.on (hO _ _ _ n255) (Le.mk [] hm rfl ⟨⟨_, rfl, rfl⟩, ⟨_, rfl, rfl⟩, ⟨_, rfl, rfl⟩, ⟨_, rfl, rfl⟩, ⟨_, rfl, rfl⟩, trivial⟩ trivial trivial)
      · replace H := condF hc H
        refine WpC.exit ?_
        refine WpC.seq ?_
        refine WpC.regionL ?_
        refine L.assign hF rfl rfl rfl ?_
        refine L.nil ?_
        refine WpC.ret ?_
        cases H
        exact Leaves.ret rfl rfl rfl ⟨rfl, rfl⟩
/-! ### Flaws_eqConfig -/
def Flaws_eqConfig (k : Nat) (a0 : Timpl_Config) (a1 : Timpl_Config) : Option Bool := (Flaws_eqIntS k a0.UserRealm a1.UserRealm).bind fun r2 => cond (!r2) (some false) ((Flaws_eqIntS k a0.ServiceRealm a1.ServiceRealm).bind fun r4 => cond (!r4) (some false) ((Flaws_eqPairS k a0.Links a1.Links).bind fun r6 => cond (!r6) (some false) ((Flaws_eqPairS k a0.Proxy a1.Proxy).bind fun r8 => cond (!r8) (some false) (cond (a0.Skew != a1.Skew) (some false) (some true)))))
theorem ent75 : MG.Enters Try.prog 75 := ⟨Try.f75, Try.func75, rfl, by decide⟩
set_option maxHeartbeats 8000000 in
set_option maxRecDepth 100000 in
theorem Flaws_eqConfig_gives (k : Nat) (g0 : Bool) (g1 : Bool) (g2 : Bool) (g3 : Bool) (g4 : Bool) (g5 : Bool) (g6 : Bool) (g7 : Bool) (a0 : Timpl_Config) (a1 : Timpl_Config) (r : Bool) (H : Flaws_eqConfig k a0 a1 = some r) : Gives Try.prog 75 [V.agg [Cell.sl g0 (List.map eI a0.UserRealm), Cell.sl g1 (List.map eI a0.ServiceRealm), Cell.sl g2 (List.map eTimpl_Pair a0.Links), Cell.sl g3 (List.map eTimpl_Pair a0.Proxy), cI a0.Skew], V.agg [Cell.sl g4 (List.map eI a1.UserRealm), Cell.sl g5 (List.map eI a1.ServiceRealm), Cell.sl g6 (List.map eTimpl_Pair a1.Links), Cell.sl g7 (List.map eTimpl_Pair a1.Proxy), cI a1.Skew]] [] [V.one (cL r)] [] := by
  refine Gives.intro Try.func75 rfl rfl rfl rfl ?_
  intro F hF hm
  unfold Flaws_eqConfig at H
  obtain ⟨K, hK⟩ : ∃ K, k ≤ K := ⟨k, Nat.le_refl k⟩
  refine WpC.seq ?_
  refine WpC.regionL ?_
  refine L.box 10 hF rfl rfl rfl rfl ?_
  refine L.box 11 hF rfl rfl rfl rfl ?_
  refine L.assign hF rfl rfl rfl ?_
  refine L.nil ?_
  refine WpC.seq ?_
  refine WpC.seq ?_
  refine WpC.regionL ?_
  refine L.fieldAddr Try.underlying90 rfl info24 rfl hF rfl rfl rfl rfl rfl ?_
  refine L.loadPtr shape24 hF rfl rfl rfl rfl rfl rfl ?_
  refine L.fieldAddr Try.underlying90 rfl info24 rfl hF rfl rfl rfl rfl rfl ?_
  refine L.loadPtr shape24 hF rfl rfl rfl rfl rfl rfl ?_
  obtain ⟨r2, hr2, H⟩ := bindS H
  refine L.call [false, false] [] [] 12 hF rfl rfl rfl ent26 rfl rfl rfl rfl rfl (Flaws_eqIntS_gives k g0 g4 a0.UserRealm a1.UserRealm r2 hr2) rfl ?_
  refine L.not hF rfl rfl rfl ?_
  refine L.nil ?_
  refine WpC.cond rfl (fun hc => ?_) (fun hc => ?_)
  · replace H := condT hc H
    refine WpC.seq ?_
    refine WpC.regionL ?_
    refine L.assign hF rfl rfl rfl ?_
    refine L.nil ?_
    refine WpC.ret ?_
    cases H
    exact Leaves.ret rfl rfl rfl ⟨rfl, rfl⟩
  · replace H := condF hc H
    refine WpC.skip ?_
    refine WpC.seq ?_
    refine WpC.seq ?_
    refine WpC.regionL ?_
    refine L.fieldAddr Try.underlying90 rfl info24 rfl hF rfl rfl rfl rfl rfl ?_
    refine L.loadPtr shape24 hF rfl rfl rfl rfl rfl rfl ?_
    refine L.fieldAddr Try.underlying90 rfl info24 rfl hF rfl rfl rfl rfl rfl ?_
    refine L.loadPtr shape24 hF rfl rfl rfl rfl rfl rfl ?_
    obtain ⟨r4, hr4, H⟩ := bindS H
    refine L.call [false, false] [] [] 13 hF rfl rfl rfl ent26 rfl rfl rfl rfl rfl (Flaws_eqIntS_gives k g1 g5 a0.ServiceRealm a1.ServiceRealm r4 hr4) rfl ?_
    refine L.not hF rfl rfl rfl ?_
    refine L.nil ?_
    refine WpC.cond rfl (fun hc => ?_) (fun hc => ?_)
    · replace H := condT hc H
      refine WpC.seq ?_
      refine WpC.regionL ?_
      refine L.assign hF rfl rfl rfl ?_
      refine L.nil ?_
      refine WpC.ret ?_
      cases H
      exact Leaves.ret rfl rfl rfl ⟨rfl, rfl⟩
    · replace H := condF hc H
      refine WpC.skip ?_
      refine WpC.seq ?_
      refine WpC.seq ?_
      refine WpC.regionL ?_
      refine L.fieldAddr Try.underlying90 rfl info88 rfl hF rfl rfl rfl rfl rfl ?_
      refine L.loadPtr shape88 hF rfl rfl rfl rfl rfl rfl ?_
      refine L.fieldAddr Try.underlying90 rfl info88 rfl hF rfl rfl rfl rfl rfl ?_
      refine L.loadPtr shape88 hF rfl rfl rfl rfl rfl rfl ?_
      obtain ⟨r6, hr6, H⟩ := bindS H
      refine L.call [false, false] [] [] 14 hF rfl rfl rfl ent162 rfl rfl rfl rfl rfl (Flaws_eqPairS_gives k g2 g6 a0.Links a1.Links r6 hr6) rfl ?_
      refine L.not hF rfl rfl rfl ?_
      refine L.nil ?_
      refine WpC.cond rfl (fun hc => ?_) (fun hc => ?_)
      · replace H := condT hc H
        refine WpC.seq ?_
        refine WpC.regionL ?_
        refine L.assign hF rfl rfl rfl ?_
        refine L.nil ?_
        refine WpC.ret ?_
        cases H
        exact Leaves.ret rfl rfl rfl ⟨rfl, rfl⟩
      · replace H := condF hc H
        refine WpC.skip ?_
        refine WpC.seq ?_
        refine WpC.seq ?_
        refine WpC.regionL ?_
        refine L.fieldAddr Try.underlying90 rfl info88 rfl hF rfl rfl rfl rfl rfl ?_
        refine L.loadPtr shape88 hF rfl rfl rfl rfl rfl rfl ?_
        refine L.fieldAddr Try.underlying90 rfl info88 rfl hF rfl rfl rfl rfl rfl ?_
        refine L.loadPtr shape88 hF rfl rfl rfl rfl rfl rfl ?_
        obtain ⟨r8, hr8, H⟩ := bindS H
        refine L.call [false, false] [] [] 15 hF rfl rfl rfl ent162 rfl rfl rfl rfl rfl (Flaws_eqPairS_gives k g3 g7 a0.Proxy a1.Proxy r8 hr8) rfl ?_
        refine L.not hF rfl rfl rfl ?_
        refine L.nil ?_
        refine WpC.cond rfl (fun hc => ?_) (fun hc => ?_)
        · replace H := condT hc H
          refine WpC.seq ?_
          refine WpC.regionL ?_
          refine L.assign hF rfl rfl rfl ?_
          refine L.nil ?_
          refine WpC.ret ?_
          cases H
          exact Leaves.ret rfl rfl rfl ⟨rfl, rfl⟩
        · replace H := condF hc H
          refine WpC.skip ?_
          refine WpC.seq ?_
          refine WpC.seq ?_
          refine WpC.regionL ?_
          refine L.fieldAddr Try.underlying90 rfl info3 rfl hF rfl rfl rfl rfl rfl ?_
          refine L.loadPtr shape3 hF rfl rfl rfl rfl rfl rfl ?_
          refine L.fieldAddr Try.underlying90 rfl info3 rfl hF rfl rfl rfl rfl rfl ?_
          refine L.loadPtr shape3 hF rfl rfl rfl rfl rfl rfl ?_
          refine L.bin hF rfl rfl rfl rfl rfl rfl ?_
          refine L.nil ?_
          refine WpC.cond rfl (fun hc => ?_) (fun hc => ?_)
          · replace H := condT hc H
            refine WpC.seq ?_
            refine WpC.regionL ?_
            refine L.assign hF rfl rfl rfl ?_
            refine L.nil ?_
            refine WpC.ret ?_
            cases H
            exact Leaves.ret rfl rfl rfl ⟨rfl, rfl⟩
          · replace H := condF hc H
            refine WpC.skip ?_
            refine WpC.seq ?_
            refine WpC.regionL ?_
            refine L.assign hF rfl rfl rfl ?_
            refine L.nil ?_
            refine WpC.ret ?_
            cases H
            exact Leaves.ret rfl rfl rfl ⟨rfl, rfl⟩
/-! ### Flaws_eqRest -/
def Flaws_eqRest (k : Nat) (a0 : Timpl_Rest) (a1 : Timpl_Rest) : Option Bool := cond (a0.Servers != a1.Servers) (some false) (cond (a0.Ops != a1.Ops) (some false) (cond (a0.End != a1.End) (some false) (some true)))
theorem ent147 : MG.Enters Try.prog 147 := ⟨Try.f147, Try.func147, rfl, by decide⟩
set_option maxHeartbeats 8000000 in
set_option maxRecDepth 100000 in
theorem Flaws_eqRest_gives (k : Nat) (a0 : Timpl_Rest) (a1 : Timpl_Rest) (r : Bool) (H : Flaws_eqRest k a0 a1 = some r) : Gives Try.prog 147 [V.agg [cI a0.Servers, cI a0.Ops, cI a0.End], V.agg [cI a1.Servers, cI a1.Ops, cI a1.End]] [] [V.one (cL r)] [] := by
  refine Gives.intro Try.func147 rfl rfl rfl rfl ?_
  intro F hF hm
  unfold Flaws_eqRest at H
  obtain ⟨K, hK⟩ : ∃ K, k ≤ K := ⟨k, Nat.le_refl k⟩
  refine WpC.seq ?_
  refine WpC.regionL ?_
  refine L.box 6 hF rfl rfl rfl rfl ?_
  refine L.box 7 hF rfl rfl rfl rfl ?_
  refine L.assign hF rfl rfl rfl ?_
  refine L.nil ?_
  refine WpC.seq ?_
  refine WpC.seq ?_
  refine WpC.regionL ?_
  refine L.fieldAddr Try.underlying74 rfl info3 rfl hF rfl rfl rfl rfl rfl ?_
  refine L.loadPtr shape3 hF rfl rfl rfl rfl rfl rfl ?_
  refine L.fieldAddr Try.underlying74 rfl info3 rfl hF rfl rfl rfl rfl rfl ?_
  refine L.loadPtr shape3 hF rfl rfl rfl rfl rfl rfl ?_
  refine L.bin hF rfl rfl rfl rfl rfl rfl ?_
  refine L.nil ?_
  refine WpC.cond rfl (fun hc => ?_) (fun hc => ?_)
  · replace H := condT hc H
    refine WpC.seq ?_
    refine WpC.regionL ?_
    refine L.assign hF rfl rfl rfl ?_
    refine L.nil ?_
    refine WpC.ret ?_
    cases H
    exact Leaves.ret rfl rfl rfl ⟨rfl, rfl⟩
  · replace H := condF hc H
    refine WpC.skip ?_
    refine WpC.seq ?_
    refine WpC.seq ?_
    refine WpC.regionL ?_
    refine L.fieldAddr Try.underlying74 rfl info3 rfl hF rfl rfl rfl rfl rfl ?_
    refine L.loadPtr shape3 hF rfl rfl rfl rfl rfl rfl ?_
    refine L.fieldAddr Try.underlying74 rfl info3 rfl hF rfl rfl rfl rfl rfl ?_
    refine L.loadPtr shape3 hF rfl rfl rfl rfl rfl rfl ?_
    refine L.bin hF rfl rfl rfl rfl rfl rfl ?_
    refine L.nil ?_
    refine WpC.cond rfl (fun hc => ?_) (fun hc => ?_)
    · replace H := condT hc H
      refine WpC.seq ?_
      refine WpC.regionL ?_
      refine L.assign hF rfl rfl rfl ?_
      refine L.nil ?_
      refine WpC.ret ?_
      cases H
      exact Leaves.ret rfl rfl rfl ⟨rfl, rfl⟩
    · replace H := condF hc H
      refine WpC.skip ?_
      refine WpC.seq ?_
      refine WpC.seq ?_
      refine WpC.regionL ?_
      refine L.fieldAddr Try.underlying74 rfl info3 rfl hF rfl rfl rfl rfl rfl ?_
      refine L.loadPtr shape3 hF rfl rfl rfl rfl rfl rfl ?_
      refine L.fieldAddr Try.underlying74 rfl info3 rfl hF rfl rfl rfl rfl rfl ?_
      refine L.loadPtr shape3 hF rfl rfl rfl rfl rfl rfl ?_
      refine L.bin hF rfl rfl rfl rfl rfl rfl ?_
      refine L.nil ?_
      refine WpC.cond rfl (fun hc => ?_) (fun hc => ?_)
      · replace H := condT hc H
        refine WpC.seq ?_
        refine WpC.regionL ?_
        refine L.assign hF rfl rfl rfl ?_
        refine L.nil ?_
        refine WpC.ret ?_
        cases H
        exact Leaves.ret rfl rfl rfl ⟨rfl, rfl⟩
      · replace H := condF hc H
        refine WpC.skip ?_
        refine WpC.seq ?_
        refine WpC.regionL ?_
        refine L.assign hF rfl rfl rfl ?_
        refine L.nil ?_
        refine WpC.ret ?_
        cases H
        exact Leaves.ret rfl rfl rfl ⟨rfl, rfl⟩
/-! ### Flaws_eqEvent -/
def Flaws_eqEvent (k : Nat) (a0 : Timpl_Event) (a1 : Timpl_Event) : Option Bool := cond (a0.Kind != a1.Kind) (some false) (cond (a0.Realm != a1.Realm) (some false) (cond (a0.By != a1.By) (some false) (cond (a0.Client != a1.Client) (some false) (cond (a0.Service != a1.Service) (some false) (cond (a0.Key != a1.Key) (some false) (cond (a0.Parent != a1.Parent) (some false) (cond (a0.Evid != a1.Evid) (some false) ((Flaws_eqRest k (⟨a0.Rest.Servers, a0.Rest.Ops, a0.Rest.End⟩ : Timpl_Rest) (⟨a1.Rest.Servers, a1.Rest.Ops, a1.Rest.End⟩ : Timpl_Rest)).bind fun r2 => cond (!r2) (some false) (some true)))))))))
theorem ent103 : MG.Enters Try.prog 103 := ⟨Try.f103, Try.func103, rfl, by decide⟩
set_option maxHeartbeats 8000000 in
set_option maxRecDepth 100000 in
theorem Flaws_eqEvent_gives (k : Nat) (a0 : Timpl_Event) (a1 : Timpl_Event) (r : Bool) (H : Flaws_eqEvent k a0 a1 = some r) : Gives Try.prog 103 [V.agg [cI a0.Kind, cI a0.Realm, cI a0.By, cI a0.Client, cI a0.Service, cI a0.Key, cI a0.Parent, cI a0.Evid, cI a0.Rest.Servers, cI a0.Rest.Ops, cI a0.Rest.End], V.agg [cI a1.Kind, cI a1.Realm, cI a1.By, cI a1.Client, cI a1.Service, cI a1.Key, cI a1.Parent, cI a1.Evid, cI a1.Rest.Servers, cI a1.Rest.Ops, cI a1.Rest.End]] [] [V.one (cL r)] [] := by
  refine Gives.intro Try.func103 rfl rfl rfl rfl ?_
  intro F hF hm
  unfold Flaws_eqEvent at H
  obtain ⟨K, hK⟩ : ∃ K, k ≤ K := ⟨k, Nat.le_refl k⟩
  refine WpC.seq ?_
  refine WpC.regionL ?_
  refine L.box 22 hF rfl rfl rfl rfl ?_
  refine L.box 23 hF rfl rfl rfl rfl ?_
  refine L.assign hF rfl rfl rfl ?_
  refine L.nil ?_
  refine WpC.seq ?_
  refine WpC.seq ?_
  refine WpC.regionL ?_
  refine L.fieldAddr Try.underlying135 rfl info3 rfl hF rfl rfl rfl rfl rfl ?_
  refine L.loadPtr shape3 hF rfl rfl rfl rfl rfl rfl ?_
  refine L.fieldAddr Try.underlying135 rfl info3 rfl hF rfl rfl rfl rfl rfl ?_
  refine L.loadPtr shape3 hF rfl rfl rfl rfl rfl rfl ?_
  refine L.bin hF rfl rfl rfl rfl rfl rfl ?_
  refine L.nil ?_
  refine WpC.cond rfl (fun hc => ?_) (fun hc => ?_)
  · replace H := condT hc H
    refine WpC.seq ?_
    refine WpC.regionL ?_
    refine L.assign hF rfl rfl rfl ?_
    refine L.nil ?_
    refine WpC.ret ?_
    cases H
    exact Leaves.ret rfl rfl rfl ⟨rfl, rfl⟩
  · replace H := condF hc H
    refine WpC.skip ?_
    refine WpC.seq ?_
    refine WpC.seq ?_
    refine WpC.regionL ?_
    refine L.fieldAddr Try.underlying135 rfl info3 rfl hF rfl rfl rfl rfl rfl ?_
    refine L.loadPtr shape3 hF rfl rfl rfl rfl rfl rfl ?_
    refine L.fieldAddr Try.underlying135 rfl info3 rfl hF rfl rfl rfl rfl rfl ?_
    refine L.loadPtr shape3 hF rfl rfl rfl rfl rfl rfl ?_
    refine L.bin hF rfl rfl rfl rfl rfl rfl ?_
    refine L.nil ?_
    refine WpC.cond rfl (fun hc => ?_) (fun hc => ?_)
    · replace H := condT hc H
      refine WpC.seq ?_
      refine WpC.regionL ?_
      refine L.assign hF rfl rfl rfl ?_
      refine L.nil ?_
      refine WpC.ret ?_
      cases H
      exact Leaves.ret rfl rfl rfl ⟨rfl, rfl⟩
    · replace H := condF hc H
      refine WpC.skip ?_
      refine WpC.seq ?_
      refine WpC.seq ?_
      refine WpC.regionL ?_
      refine L.fieldAddr Try.underlying135 rfl info3 rfl hF rfl rfl rfl rfl rfl ?_
      refine L.loadPtr shape3 hF rfl rfl rfl rfl rfl rfl ?_
      refine L.fieldAddr Try.underlying135 rfl info3 rfl hF rfl rfl rfl rfl rfl ?_
      refine L.loadPtr shape3 hF rfl rfl rfl rfl rfl rfl ?_
      refine L.bin hF rfl rfl rfl rfl rfl rfl ?_
      refine L.nil ?_
      refine WpC.cond rfl (fun hc => ?_) (fun hc => ?_)
      · replace H := condT hc H
        refine WpC.seq ?_
        refine WpC.regionL ?_
        refine L.assign hF rfl rfl rfl ?_
        refine L.nil ?_
        refine WpC.ret ?_
        cases H
        exact Leaves.ret rfl rfl rfl ⟨rfl, rfl⟩
      · replace H := condF hc H
        refine WpC.skip ?_
        refine WpC.seq ?_
        refine WpC.seq ?_
        refine WpC.regionL ?_
        refine L.fieldAddr Try.underlying135 rfl info3 rfl hF rfl rfl rfl rfl rfl ?_
        refine L.loadPtr shape3 hF rfl rfl rfl rfl rfl rfl ?_
        refine L.fieldAddr Try.underlying135 rfl info3 rfl hF rfl rfl rfl rfl rfl ?_
        refine L.loadPtr shape3 hF rfl rfl rfl rfl rfl rfl ?_
        refine L.bin hF rfl rfl rfl rfl rfl rfl ?_
        refine L.nil ?_
        refine WpC.cond rfl (fun hc => ?_) (fun hc => ?_)
        · replace H := condT hc H
          refine WpC.seq ?_
          refine WpC.regionL ?_
          refine L.assign hF rfl rfl rfl ?_
          refine L.nil ?_
          refine WpC.ret ?_
          cases H
          exact Leaves.ret rfl rfl rfl ⟨rfl, rfl⟩
        · replace H := condF hc H
          refine WpC.skip ?_
          refine WpC.seq ?_
          refine WpC.seq ?_
          refine WpC.regionL ?_
          refine L.fieldAddr Try.underlying135 rfl info3 rfl hF rfl rfl rfl rfl rfl ?_
          refine L.loadPtr shape3 hF rfl rfl rfl rfl rfl rfl ?_
          refine L.fieldAddr Try.underlying135 rfl info3 rfl hF rfl rfl rfl rfl rfl ?_
          refine L.loadPtr shape3 hF rfl rfl rfl rfl rfl rfl ?_
          refine L.bin hF rfl rfl rfl rfl rfl rfl ?_
          refine L.nil ?_
          refine WpC.cond rfl (fun hc => ?_) (fun hc => ?_)
          · replace H := condT hc H
            refine WpC.seq ?_
            refine WpC.regionL ?_
            refine L.assign hF rfl rfl rfl ?_
            refine L.nil ?_
            refine WpC.ret ?_
            cases H
            exact Leaves.ret rfl rfl rfl ⟨rfl, rfl⟩
          · replace H := condF hc H
            refine WpC.skip ?_
            refine WpC.seq ?_
            refine WpC.seq ?_
            refine WpC.regionL ?_
            refine L.fieldAddr Try.underlying135 rfl info3 rfl hF rfl rfl rfl rfl rfl ?_
            refine L.loadPtr shape3 hF rfl rfl rfl rfl rfl rfl ?_
            refine L.fieldAddr Try.underlying135 rfl info3 rfl hF rfl rfl rfl rfl rfl ?_
            refine L.loadPtr shape3 hF rfl rfl rfl rfl rfl rfl ?_
            refine L.bin hF rfl rfl rfl rfl rfl rfl ?_
            refine L.nil ?_
            refine WpC.cond rfl (fun hc => ?_) (fun hc => ?_)
            · replace H := condT hc H
              refine WpC.seq ?_
              refine WpC.regionL ?_
              refine L.assign hF rfl rfl rfl ?_
              refine L.nil ?_
              refine WpC.ret ?_
              cases H
              exact Leaves.ret rfl rfl rfl ⟨rfl, rfl⟩
            · replace H := condF hc H
              refine WpC.skip ?_
              refine WpC.seq ?_
              refine WpC.seq ?_
              refine WpC.regionL ?_
              refine L.fieldAddr Try.underlying135 rfl info3 rfl hF rfl rfl rfl rfl rfl ?_
              refine L.loadPtr shape3 hF rfl rfl rfl rfl rfl rfl ?_
              refine L.fieldAddr Try.underlying135 rfl info3 rfl hF rfl rfl rfl rfl rfl ?_
              refine L.loadPtr shape3 hF rfl rfl rfl rfl rfl rfl ?_
              refine L.bin hF rfl rfl rfl rfl rfl rfl ?_
              refine L.nil ?_
              refine WpC.cond rfl (fun hc => ?_) (fun hc => ?_)
              · replace H := condT hc H
                refine WpC.seq ?_
                refine WpC.regionL ?_
                refine L.assign hF rfl rfl rfl ?_
                refine L.nil ?_
                refine WpC.ret ?_
                cases H
                exact Leaves.ret rfl rfl rfl ⟨rfl, rfl⟩
              · replace H := condF hc H
                refine WpC.skip ?_
                refine WpC.seq ?_
                refine WpC.seq ?_
                refine WpC.regionL ?_
                refine L.fieldAddr Try.underlying135 rfl info3 rfl hF rfl rfl rfl rfl rfl ?_
                refine L.loadPtr shape3 hF rfl rfl rfl rfl rfl rfl ?_
                refine L.fieldAddr Try.underlying135 rfl info3 rfl hF rfl rfl rfl rfl rfl ?_
                refine L.loadPtr shape3 hF rfl rfl rfl rfl rfl rfl ?_
                refine L.bin hF rfl rfl rfl rfl rfl rfl ?_
                refine L.nil ?_
                refine WpC.cond rfl (fun hc => ?_) (fun hc => ?_)
                · replace H := condT hc H
                  refine WpC.seq ?_
                  refine WpC.regionL ?_
                  refine L.assign hF rfl rfl rfl ?_
                  refine L.nil ?_
                  refine WpC.ret ?_
                  cases H
                  exact Leaves.ret rfl rfl rfl ⟨rfl, rfl⟩
                · replace H := condF hc H
                  refine WpC.skip ?_
                  refine WpC.seq ?_
                  refine WpC.seq ?_
                  refine WpC.regionL ?_
                  refine L.fieldAddr Try.underlying135 rfl info74 rfl hF rfl rfl rfl rfl rfl ?_
                  refine L.loadPtr shape74 hF rfl rfl rfl rfl rfl rfl ?_
                  refine L.fieldAddr Try.underlying135 rfl info74 rfl hF rfl rfl rfl rfl rfl ?_
                  refine L.loadPtr shape74 hF rfl rfl rfl rfl rfl rfl ?_
                  obtain ⟨r2, hr2, H⟩ := bindS H
                  refine L.call [false, false] [] [] 24 hF rfl rfl rfl ent147 rfl rfl rfl rfl rfl (Flaws_eqRest_gives k  (⟨a0.Rest.Servers, a0.Rest.Ops, a0.Rest.End⟩ : Timpl_Rest) (⟨a1.Rest.Servers, a1.Rest.Ops, a1.Rest.End⟩ : Timpl_Rest) r2 hr2) rfl ?_
                  refine L.not hF rfl rfl rfl ?_
                  refine L.nil ?_
                  refine WpC.cond rfl (fun hc => ?_) (fun hc => ?_)
                  · replace H := condT hc H
                    refine WpC.seq ?_
                    refine WpC.regionL ?_
                    refine L.assign hF rfl rfl rfl ?_
                    refine L.nil ?_
                    refine WpC.ret ?_
                    cases H
                    exact Leaves.ret rfl rfl rfl ⟨rfl, rfl⟩
                  · replace H := condF hc H
                    refine WpC.skip ?_
                    refine WpC.seq ?_
                    refine WpC.regionL ?_
                    refine L.assign hF rfl rfl rfl ?_
                    refine L.nil ?_
                    refine WpC.ret ?_
                    cases H
                    exact Leaves.ret rfl rfl rfl ⟨rfl, rfl⟩
/-! ### Flaws_eqEventS -/
def Flaws_eqEventS.l2 : Nat → (List Timpl_Event) → (List Timpl_Event) → Int → Option Bool
  | 0, _, _, _ => none
  | k2 + 1, v44, v45, v46 => cond (decide (v46 < (v44.length : Int))) ((at? v44 v46).bind fun b50 => (at? v45 v46).bind fun b51 => (Flaws_eqEvent k2 b50 b51).bind fun r52 => cond (!r52) (some false) ((Flaws_eqEventS.l2 k2) v44 v45 (IntKind.i64.wrap (v46 + (1 : Int))))) (some true)
def Flaws_eqEventS (k : Nat) (a0 : List Timpl_Event) (a1 : List Timpl_Event) : Option Bool := cond ((a0.length : Int) != (a1.length : Int)) (some false) (Flaws_eqEventS.l2 k a0 a1 (0 : Int))
theorem ent27 : MG.Enters Try.prog 27 := ⟨Try.f27, Try.func27, rfl, by decide⟩
set_option maxHeartbeats 8000000 in
set_option maxRecDepth 100000 in
theorem Flaws_eqEventS_gives (k : Nat) (g0 : Bool) (g1 : Bool) (a0 : List Timpl_Event) (a1 : List Timpl_Event) (r : Bool) (H : Flaws_eqEventS k a0 a1 = some r) : Gives Try.prog 27 [V.one (Cell.sl g0 (List.map eTimpl_Event a0)), V.one (Cell.sl g1 (List.map eTimpl_Event a1))] [] [V.one (cL r)] [] := by
  refine Gives.intro Try.func27 rfl rfl rfl rfl ?_
  intro F hF hm
  unfold Flaws_eqEventS at H
  obtain ⟨K, hK⟩ : ∃ K, k ≤ K := ⟨k, Nat.le_refl k⟩
  refine WpC.seq ?_
  refine WpC.regionL ?_
  refine L.assign hF rfl rfl rfl ?_
  refine L.nil ?_
  refine WpC.seq ?_
  refine WpC.seq ?_
  refine WpC.regionL ?_
  refine L.move hF rfl rfl rfl ?_
  refine L.lenR (xs := a0) (e := eTimpl_Event) Try.underlying26 hF rfl rfl rfl rfl ?_
  refine L.move hF rfl rfl rfl ?_
  refine L.lenR (xs := a1) (e := eTimpl_Event) Try.underlying26 hF rfl rfl rfl rfl ?_
  refine L.bin hF rfl rfl rfl rfl rfl rfl ?_
  refine L.nil ?_
  refine WpC.cond rfl (fun hc => ?_) (fun hc => ?_)
  · replace H := condT hc H
    refine WpC.seq ?_
    refine WpC.regionL ?_
    refine L.assign hF rfl rfl rfl ?_
    refine L.nil ?_
    refine WpC.ret ?_
    cases H
    exact Leaves.ret rfl rfl rfl ⟨rfl, rfl⟩
  · replace H := condF hc H
    refine WpC.skip ?_
    refine WpC.seq ?_
    refine WpC.seq ?_
    refine WpC.regionL ?_
    refine L.assign hF rfl rfl rfl ?_
    refine L.nil ?_
    refine WpC.block ?_
    refine WpC.loopL (P := Try.prog) (fun n σ => ∃ v44 : List Timpl_Event, ∃ v45 : List Timpl_Event, ∃ v46 : Int, n ≤ K ∧ Flaws_eqEventS.l2 n v44 v45 v46 = some r ∧ σ = mkSt [(0, MG.one (Cell.sl g0 (List.map eTimpl_Event v44))), (1, MG.one (Cell.sl g1 (List.map eTimpl_Event v45))), (5, MG.one (cI v46))] [] [] 0) k ⟨_, ⟨a0, a1, (0 : Int), by omega, H, rfl⟩, Le.mk [] hm rfl ⟨⟨_, rfl, rfl⟩, ⟨_, rfl, rfl⟩, ⟨_, rfl, rfl⟩, trivial⟩ trivial trivial⟩ ?_
    clear H
    rintro k2 _ ⟨v44, v45, v46, hk2, H, rfl⟩
    cases k2 with
    | zero => cases H
    | succ k2 =>
      rw [Flaws_eqEventS.l2] at H
      refine WpC.seq ?_
      refine WpC.seq ?_
      refine WpC.regionL ?_
      refine L.move hF rfl rfl rfl ?_
      refine L.move hF rfl rfl rfl ?_
      refine L.lenR (xs := v44) (e := eTimpl_Event) Try.underlying26 hF rfl rfl rfl rfl ?_
      refine L.bin hF rfl rfl rfl rfl rfl rfl ?_
      refine L.nil ?_
      refine WpC.cond rfl (fun hc => ?_) (fun hc => ?_)
      · replace H := condT hc H
        refine WpC.skip ?_
        refine WpC.seq ?_
        refine WpC.block ?_
        refine WpC.seq ?_
        obtain ⟨b50, hb50, H⟩ := bindS H
        obtain ⟨b51, hb51, H⟩ := bindS H
        obtain ⟨r52, hr52, H⟩ := bindS H
        refine A.begin mixed rfl rfl ?_
        intro W hI hO
        have n255 : W 2 #[true, true, true, true, true, true, true, true, false, false] (mkSt [(0, MG.one (Cell.sl g0 (List.map eTimpl_Event v44))), (1, MG.one (Cell.sl g1 (List.map eTimpl_Event v45))), (5, MG.one (cI v46)), (20, agg [cI b50.Kind, cI b50.Realm, cI b50.By, cI b50.Client, cI b50.Service, cI b50.Key, cI b50.Parent, cI b50.Evid, cI b50.Rest.Servers, cI b50.Rest.Ops, cI b50.Rest.End]), (24, agg [cI b51.Kind, cI b51.Realm, cI b51.By, cI b51.Client, cI b51.Service, cI b51.Key, cI b51.Parent, cI b51.Evid, cI b51.Rest.Servers, cI b51.Rest.Ops, cI b51.Rest.End])] [] [] 0) := by
          refine hI _ _ _ ?_
          refine A.all [8] (by kernel_rfl) rfl ⟨⟨_, rfl, ?_⟩, trivial⟩
          refine L.call [false, false] [] [] 0 hF rfl rfl rfl ent103 rfl rfl rfl rfl rfl (Flaws_eqEvent_gives k2  b50 b51 r52 hr52) rfl ?_
          refine L.nil ?_
          refine A.take 9 rfl (by kernel_rfl) (by kernel_rfl) (by kernel_rfl) rfl (Ca.un rfl rfl) (fun Q0 k0 => L.not hF rfl rfl rfl (L.nil k0)) ?_
          refine A.le (τ := mkSt [(0, MG.one (Cell.sl g0 (List.map eTimpl_Event v44))), (1, MG.one (Cell.sl g1 (List.map eTimpl_Event v45))), (5, MG.one (cI v46)), (26, MG.one (cL (!r52)))] [] [] 0) (Le.mk [] hm rfl ⟨⟨_, rfl, rfl⟩, ⟨_, rfl, rfl⟩, ⟨_, rfl, rfl⟩, ⟨_, rfl, rfl⟩, trivial⟩ trivial trivial) ?_
          refine A.done (by kernel_rfl) ?_
          refine WpC.cond rfl (fun hc => ?_) (fun hc => ?_)
          · replace H := condT hc H
            refine WpC.seq ?_
            refine WpC.regionL ?_
            refine L.assign hF rfl rfl rfl ?_
            refine L.nil ?_
            refine WpC.ret ?_
            cases H
            exact Leaves.ret rfl rfl rfl ⟨rfl, rfl⟩
          · replace H := condF hc H
            refine WpC.skip ?_
            refine WpC.regionL ?_
            refine L.move hF rfl rfl rfl ?_
            refine L.bin hF rfl rfl rfl rfl rfl rfl ?_
            refine L.assign hF rfl rfl rfl ?_
            refine L.nil ?_
            exact ⟨k2, _, by omega, ⟨v44, v45, (IntKind.i64.wrap (v46 + (1 : Int))), by omega, H, rfl⟩, Le.mk [] hm rfl ⟨⟨_, rfl, rfl⟩, ⟨_, rfl, rfl⟩, ⟨_, rfl, rfl⟩, trivial⟩ trivial trivial⟩
        refine hI _ _ _ ?_
        refine A.take 0 rfl (by kernel_rfl) (by kernel_rfl) (by kernel_rfl) rfl (Ca.move) (fun Q0 k0 => L.move hF rfl rfl rfl (L.nil k0)) ?_
        refine A.take 1 rfl (by kernel_rfl) (by kernel_rfl) (by kernel_rfl) rfl (Ca.move) (fun Q0 k0 => L.move hF rfl rfl rfl (L.nil k0)) ?_
        refine A.take 2 rfl (by kernel_rfl) (by kernel_rfl) (by kernel_rfl) rfl (Ca.indexAddr) (fun Q0 k0 => L.idxR (xs := v44) (e := eTimpl_Event) Try.underlying26 info135 hF rfl rfl rfl rfl rfl hb50 rfl rfl (L.nil k0)) ?_
        refine A.take 4 rfl (by kernel_rfl) (by kernel_rfl) (by kernel_rfl) rfl (Ca.move) (fun Q0 k0 => L.move hF rfl rfl rfl (L.nil k0)) ?_
        refine A.take 5 rfl (by kernel_rfl) (by kernel_rfl) (by kernel_rfl) rfl (Ca.move) (fun Q0 k0 => L.move hF rfl rfl rfl (L.nil k0)) ?_
        refine A.take 6 rfl (by kernel_rfl) (by kernel_rfl) (by kernel_rfl) rfl (Ca.indexAddr) (fun Q0 k0 => L.idxR (xs := v45) (e := eTimpl_Event) Try.underlying26 info135 hF rfl rfl rfl rfl rfl hb51 rfl rfl (L.nil k0)) ?_
        refine A.all [3, 7] (by kernel_rfl) rfl ⟨⟨_, rfl, ?_⟩, ⟨_, rfl, ?_⟩, trivial⟩
        · refine L.loadPe shape135 hF rfl rfl rfl rfl rfl ?_
          refine L.nil ?_
          refine A.all [7] (by kernel_rfl) rfl ⟨⟨_, rfl, ?_⟩, trivial⟩
          refine L.loadPe shape135 hF rfl rfl rfl rfl rfl ?_
          refine L.nil ?_
          exact A.on (hO _ _ _ n255) (Le.mk [] hm rfl ⟨⟨_, rfl, rfl⟩, ⟨_, rfl, rfl⟩, ⟨_, rfl, rfl⟩, ⟨_, rfl, rfl⟩, ⟨_, rfl, rfl⟩, trivial⟩ trivial trivial)
        · refine L.loadPe shape135 hF rfl rfl rfl rfl rfl ?_
          refine L.nil ?_
          refine A.all [3] (by kernel_rfl) rfl ⟨⟨_, rfl, ?_⟩, trivial⟩
          refine L.loadPe shape135 hF rfl rfl rfl rfl rfl ?_
          refine L.nil ?_
          exact A.on (hO _ _ _ n255) (Le.mk [] hm rfl ⟨⟨_, rfl, rfl⟩, ⟨_, rfl, rfl⟩, ⟨_, rfl, rfl⟩, ⟨_, rfl, rfl⟩, ⟨_, rfl, rfl⟩, trivial⟩ trivial trivial)
      · replace H := condF hc H
        refine WpC.exit ?_
        refine WpC.seq ?_
        refine WpC.regionL ?_
        refine L.assign hF rfl rfl rfl ?_
        refine L.nil ?_
        refine WpC.ret ?_
        cases H
        exact Leaves.ret rfl rfl rfl ⟨rfl, rfl⟩
/-! ### Flaws_markIntS -/
def Flaws_markIntS.l2 : Nat → (List Int) → Int → Int → Option (Int × List Int)
  | 0, _, _, _ => none
  | k2 + 1, v24, v25, v26 => cond (decide (v26 < (v24.length : Int))) ((at? v24 v26).bind fun b28 => (Flaws_markIntS.l2 k2) (v24.set v26.toNat v25) (IntKind.i64.wrap (v25 + (1 : Int))) (IntKind.i64.wrap (v26 + (1 : Int)))) (some (v25, v24))
def Flaws_markIntS (k : Nat) (a0 : List Int) (a1 : Int) : Option (Int × List Int) := Flaws_markIntS.l2 k a0 a1 (0 : Int)
theorem ent29 : MG.Enters Try.prog 29 := ⟨Try.f29, Try.func29, rfl, by decide⟩
set_option maxHeartbeats 8000000 in
set_option maxRecDepth 100000 in
theorem Flaws_markIntS_gives (k : Nat) (a0 : List Int) (a1 : Int) (r : Int × List Int) (H : Flaws_markIntS k a0 a1 = some r) : GivesB Try.prog 29 [V.one (Cell.ow 1 (List.map eI a0)), V.one (cI a1)] [] [0] [V.one (cI r.1)] [] [V.one (Cell.ow 1 (List.map eI r.2))] := by
  refine GivesB.intro Try.func29 rfl rfl rfl rfl rfl rfl ?_
  intro F hF hm
  unfold Flaws_markIntS at H
  obtain ⟨K, hK⟩ : ∃ K, k ≤ K := ⟨k, Nat.le_refl k⟩
  refine WpC.seq ?_
  refine WpC.regionL ?_
  refine L.assign hF rfl rfl rfl ?_
  refine L.nil ?_
  refine WpC.seq ?_
  refine WpC.seq ?_
  refine WpC.regionL ?_
  refine L.assign hF rfl rfl rfl ?_
  refine L.nil ?_
  refine WpC.block ?_
  refine WpC.loopL (P := Try.prog) (fun n σ => ∃ v24 : List Int, ∃ v25 : Int, ∃ v26 : Int, n ≤ K ∧ Flaws_markIntS.l2 n v24 v25 v26 = some r ∧ σ = mkSt [(0, MG.one (Cell.own 0)), (1, MG.one (cI v25)), (5, MG.one (cI v26))] [(0, ⟨1, List.map eI v24⟩)] [] 2) k ⟨_, ⟨a0, a1, (0 : Int), by omega, H, rfl⟩, Le.mk [(0, 0)] hm rfl ⟨⟨_, rfl, rfl⟩, ⟨_, rfl, rfl⟩, ⟨_, rfl, rfl⟩, trivial⟩ ⟨⟨_, rfl, rfl⟩, trivial⟩ trivial⟩ ?_
  clear H
  rintro k2 _ ⟨v24, v25, v26, hk2, H, rfl⟩
  cases k2 with
  | zero => cases H
  | succ k2 =>
    rw [Flaws_markIntS.l2] at H
    refine WpC.seq ?_
    refine WpC.seq ?_
    refine WpC.regionL ?_
    refine L.move hF rfl rfl rfl ?_
    refine L.move hF rfl rfl rfl ?_
    refine L.lenR (xs := v24) (e := eI) Try.underlying24 hF rfl rfl rfl rfl ?_
    refine L.bin hF rfl rfl rfl rfl rfl rfl ?_
    refine L.nil ?_
    refine WpC.cond rfl (fun hc => ?_) (fun hc => ?_)
    · replace H := condT hc H
      refine WpC.skip ?_
      refine WpC.seq ?_
      refine WpC.block ?_
      refine WpC.seq ?_
      refine WpC.regionL ?_
      refine L.move hF rfl rfl rfl ?_
      refine L.move hF rfl rfl rfl ?_
      refine L.move hF rfl rfl rfl ?_
      obtain ⟨b28, hb28, H⟩ := bindS H
      refine L.idxR (xs := v24) (e := eI) Try.underlying24 info3 hF rfl rfl rfl rfl rfl hb28 rfl rfl ?_
      refine L.storeEp (xs := v24) (e := eI) (a' := v25) shape3 hF rfl rfl rfl rfl rfl rfl rfl (at?_get hb28).2 rfl rfl ?_
      refine L.nil ?_
      refine WpC.regionL ?_
      refine L.move hF rfl rfl rfl ?_
      refine L.bin hF rfl rfl rfl rfl rfl rfl ?_
      refine L.assign hF rfl rfl rfl ?_
      refine L.nil ?_
      refine WpC.regionL ?_
      refine L.move hF rfl rfl rfl ?_
      refine L.bin hF rfl rfl rfl rfl rfl rfl ?_
      refine L.assign hF rfl rfl rfl ?_
      refine L.nil ?_
      exact ⟨k2, _, by omega, ⟨(v24.set v26.toNat v25), (IntKind.i64.wrap (v25 + (1 : Int))), (IntKind.i64.wrap (v26 + (1 : Int))), by omega, H, rfl⟩, Le.mk [(0, 0)] hm rfl ⟨⟨_, rfl, rfl⟩, ⟨_, rfl, rfl⟩, ⟨_, rfl, rfl⟩, trivial⟩ ⟨⟨_, rfl, rfl⟩, trivial⟩ trivial⟩
    · replace H := condF hc H
      refine WpC.exit ?_
      refine WpC.seq ?_
      refine WpC.regionL ?_
      refine L.move hF rfl rfl rfl ?_
      refine L.assign hF rfl rfl rfl ?_
      refine L.nil ?_
      refine WpC.ret ?_
      cases H
      exact Leaves.retB rfl rfl rfl rfl ⟨rfl, rfl, rfl⟩
/-! ### Flaws_markPairS -/
def Flaws_markPairS.l2 : Nat → (List Timpl_Pair) → Int → Int → Option (Int × List Timpl_Pair)
  | 0, _, _, _ => none
  | k2 + 1, v34, v35, v36 => cond (decide (v36 < (v34.length : Int))) ((at? v34 v36).bind fun b39 => (at? (v34.set v36.toNat (⟨v35, b39.B⟩ : Timpl_Pair)) v36).bind fun b40 => (Flaws_markPairS.l2 k2) ((v34.set v36.toNat (⟨v35, b39.B⟩ : Timpl_Pair)).set v36.toNat (⟨b40.A, (IntKind.i64.wrap (v35 + (1 : Int)))⟩ : Timpl_Pair)) (IntKind.i64.wrap ((IntKind.i64.wrap (v35 + (1 : Int))) + (1 : Int))) (IntKind.i64.wrap (v36 + (1 : Int)))) (some (v35, v34))
def Flaws_markPairS (k : Nat) (a0 : List Timpl_Pair) (a1 : Int) : Option (Int × List Timpl_Pair) := Flaws_markPairS.l2 k a0 a1 (0 : Int)
theorem ent163 : MG.Enters Try.prog 163 := ⟨Try.f163, Try.func163, rfl, by decide⟩
set_option maxHeartbeats 8000000 in
set_option maxRecDepth 100000 in
theorem Flaws_markPairS_gives (k : Nat) (a0 : List Timpl_Pair) (a1 : Int) (r : Int × List Timpl_Pair) (H : Flaws_markPairS k a0 a1 = some r) : GivesB Try.prog 163 [V.one (Cell.ow 2 (List.map eTimpl_Pair a0)), V.one (cI a1)] [] [0] [V.one (cI r.1)] [] [V.one (Cell.ow 2 (List.map eTimpl_Pair r.2))] := by
  refine GivesB.intro Try.func163 rfl rfl rfl rfl rfl rfl ?_
  intro F hF hm
  unfold Flaws_markPairS at H
  obtain ⟨K, hK⟩ : ∃ K, k ≤ K := ⟨k, Nat.le_refl k⟩
  refine WpC.seq ?_
  refine WpC.regionL ?_
  refine L.assign hF rfl rfl rfl ?_
  refine L.nil ?_
  refine WpC.seq ?_
  refine WpC.seq ?_
  refine WpC.regionL ?_
  refine L.assign hF rfl rfl rfl ?_
  refine L.nil ?_
  refine WpC.block ?_
  refine WpC.loopL (P := Try.prog) (fun n σ => ∃ v34 : List Timpl_Pair, ∃ v35 : Int, ∃ v36 : Int, n ≤ K ∧ Flaws_markPairS.l2 n v34 v35 v36 = some r ∧ σ = mkSt [(0, MG.one (Cell.own 0)), (1, MG.one (cI v35)), (5, MG.one (cI v36))] [(0, ⟨2, List.map eTimpl_Pair v34⟩)] [] 2) k ⟨_, ⟨a0, a1, (0 : Int), by omega, H, rfl⟩, Le.mk [(0, 0)] hm rfl ⟨⟨_, rfl, rfl⟩, ⟨_, rfl, rfl⟩, ⟨_, rfl, rfl⟩, trivial⟩ ⟨⟨_, rfl, rfl⟩, trivial⟩ trivial⟩ ?_
  clear H
  rintro k2 _ ⟨v34, v35, v36, hk2, H, rfl⟩
  cases k2 with
  | zero => cases H
  | succ k2 =>
    rw [Flaws_markPairS.l2] at H
    refine WpC.seq ?_
    refine WpC.seq ?_
    refine WpC.regionL ?_
    refine L.move hF rfl rfl rfl ?_
    refine L.move hF rfl rfl rfl ?_
    refine L.lenR (xs := v34) (e := eTimpl_Pair) Try.underlying88 hF rfl rfl rfl rfl ?_
    refine L.bin hF rfl rfl rfl rfl rfl rfl ?_
    refine L.nil ?_
    refine WpC.cond rfl (fun hc => ?_) (fun hc => ?_)
    · replace H := condT hc H
      refine WpC.skip ?_
      refine WpC.seq ?_
      refine WpC.block ?_
      refine WpC.seq ?_
      refine WpC.regionL ?_
      refine L.move hF rfl rfl rfl ?_
      refine L.move hF rfl rfl rfl ?_
      refine L.move hF rfl rfl rfl ?_
      obtain ⟨b39, hb39, H⟩ := bindS H
      refine L.idxR (xs := v34) (e := eTimpl_Pair) Try.underlying88 info256 hF rfl rfl rfl rfl rfl hb39 rfl rfl ?_
      refine L.fieldAddr Try.underlying256 rfl info3 rfl hF rfl rfl rfl rfl rfl ?_
      refine L.storeEp (xs := v34) (e := eTimpl_Pair) (a' := (⟨v35, b39.B⟩ : Timpl_Pair)) shape3 hF rfl rfl rfl rfl rfl rfl rfl (at?_get hb39).2 rfl rfl ?_
      refine L.nil ?_
      refine WpC.seq ?_
      refine WpC.regionL ?_
      refine L.move hF rfl rfl rfl ?_
      refine L.bin hF rfl rfl rfl rfl rfl rfl ?_
      refine L.assign hF rfl rfl rfl ?_
      refine L.nil ?_
      refine WpC.seq ?_
      refine WpC.regionL ?_
      refine L.move hF rfl rfl rfl ?_
      refine L.move hF rfl rfl rfl ?_
      refine L.move hF rfl rfl rfl ?_
      obtain ⟨b40, hb40, H⟩ := bindS H
      refine L.idxR (xs := (v34.set v36.toNat (⟨v35, b39.B⟩ : Timpl_Pair))) (e := eTimpl_Pair) Try.underlying88 info256 hF rfl rfl rfl rfl rfl hb40 rfl rfl ?_
      refine L.fieldAddr Try.underlying256 rfl info3 rfl hF rfl rfl rfl rfl rfl ?_
      refine L.storeEp (xs := (v34.set v36.toNat (⟨v35, b39.B⟩ : Timpl_Pair))) (e := eTimpl_Pair) (a' := (⟨b40.A, (IntKind.i64.wrap (v35 + (1 : Int)))⟩ : Timpl_Pair)) shape3 hF rfl rfl rfl rfl rfl rfl rfl (at?_get hb40).2 rfl rfl ?_
      refine L.nil ?_
      refine WpC.regionL ?_
      refine L.move hF rfl rfl rfl ?_
      refine L.bin hF rfl rfl rfl rfl rfl rfl ?_
      refine L.assign hF rfl rfl rfl ?_
      refine L.nil ?_
      refine WpC.regionL ?_
      refine L.move hF rfl rfl rfl ?_
      refine L.bin hF rfl rfl rfl rfl rfl rfl ?_
      refine L.assign hF rfl rfl rfl ?_
      refine L.nil ?_
      exact ⟨k2, _, by omega, ⟨((v34.set v36.toNat (⟨v35, b39.B⟩ : Timpl_Pair)).set v36.toNat (⟨b40.A, (IntKind.i64.wrap (v35 + (1 : Int)))⟩ : Timpl_Pair)), (IntKind.i64.wrap ((IntKind.i64.wrap (v35 + (1 : Int))) + (1 : Int))), (IntKind.i64.wrap (v36 + (1 : Int))), by omega, H, rfl⟩, Le.mk [(0, 0)] hm rfl ⟨⟨_, rfl, rfl⟩, ⟨_, rfl, rfl⟩, ⟨_, rfl, rfl⟩, trivial⟩ ⟨⟨_, rfl, rfl⟩, trivial⟩ trivial⟩
    · replace H := condF hc H
      refine WpC.exit ?_
      refine WpC.seq ?_
      refine WpC.regionL ?_
      refine L.move hF rfl rfl rfl ?_
      refine L.assign hF rfl rfl rfl ?_
      refine L.nil ?_
      refine WpC.ret ?_
      cases H
      exact Leaves.retB rfl rfl rfl rfl ⟨rfl, rfl, rfl⟩
/-! ### Flaws_markConfig -/
def Flaws_markConfig (k : Nat) (a0 : Timpl_Config) (a1 : Int) : Option (Int × List Int × List Int × List Timpl_Pair × List Timpl_Pair) := (Flaws_markIntS k a0.UserRealm a1).bind fun r1 => (Flaws_markIntS k a0.ServiceRealm r1.1).bind fun r2 => (Flaws_markPairS k a0.Links r2.1).bind fun r3 => (Flaws_markPairS k a0.Proxy r3.1).bind fun r4 => some (r4.1, r1.2, r2.2, r3.2, r4.2)
theorem ent76 : MG.Enters Try.prog 76 := ⟨Try.f76, Try.func76, rfl, by decide⟩
set_option maxHeartbeats 8000000 in
set_option maxRecDepth 100000 in
theorem Flaws_markConfig_gives (k : Nat) (a0 : Timpl_Config) (a1 : Int) (r : Int × List Int × List Int × List Timpl_Pair × List Timpl_Pair) (H : Flaws_markConfig k a0 a1 = some r) : GivesB Try.prog 76 [V.agg [Cell.ow 1 (List.map eI a0.UserRealm), Cell.ow 1 (List.map eI a0.ServiceRealm), Cell.ow 2 (List.map eTimpl_Pair a0.Links), Cell.ow 2 (List.map eTimpl_Pair a0.Proxy), cI a0.Skew], V.one (cI a1)] [] [0] [V.one (cI r.1)] [] [V.agg [Cell.ow 1 (List.map eI r.2.1), Cell.ow 1 (List.map eI r.2.2.1), Cell.ow 2 (List.map eTimpl_Pair r.2.2.2.1), Cell.ow 2 (List.map eTimpl_Pair r.2.2.2.2), cI a0.Skew]] := by
  refine GivesB.intro Try.func76 rfl rfl rfl rfl rfl rfl ?_
  intro F hF hm
  unfold Flaws_markConfig at H
  obtain ⟨K, hK⟩ : ∃ K, k ≤ K := ⟨k, Nat.le_refl k⟩
  refine WpC.seq ?_
  refine WpC.regionL ?_
  refine L.box 6 hF rfl rfl rfl rfl ?_
  refine L.assign hF rfl rfl rfl ?_
  refine L.nil ?_
  refine WpC.seq ?_
  refine WpC.regionL ?_
  refine L.fieldAddr Try.underlying90 rfl info24 rfl hF rfl rfl rfl rfl rfl ?_
  refine L.loadPtr shape24 hF rfl rfl rfl rfl rfl rfl ?_
  refine L.move hF rfl rfl rfl ?_
  obtain ⟨r1, hr1, H⟩ := bindS H
  refine L.callB [true, false] [] [] 7 [0] hF rfl rfl rfl ent29 rfl rfl rfl rfl rfl (Flaws_markIntS_gives k  a0.UserRealm a1 r1 hr1) rfl rfl rfl ?_
  refine L.assign hF rfl rfl rfl ?_
  refine L.nil ?_
  refine WpC.seq ?_
  refine WpC.regionL ?_
  refine L.fieldAddr Try.underlying90 rfl info24 rfl hF rfl rfl rfl rfl rfl ?_
  refine L.loadPtr shape24 hF rfl rfl rfl rfl rfl rfl ?_
  refine L.move hF rfl rfl rfl ?_
  obtain ⟨r2, hr2, H⟩ := bindS H
  refine L.callB [true, false] [] [] 8 [0] hF rfl rfl rfl ent29 rfl rfl rfl rfl rfl (Flaws_markIntS_gives k  a0.ServiceRealm r1.1 r2 hr2) rfl rfl rfl ?_
  refine L.assign hF rfl rfl rfl ?_
  refine L.nil ?_
  refine WpC.seq ?_
  refine WpC.regionL ?_
  refine L.fieldAddr Try.underlying90 rfl info88 rfl hF rfl rfl rfl rfl rfl ?_
  refine L.loadPtr shape88 hF rfl rfl rfl rfl rfl rfl ?_
  refine L.move hF rfl rfl rfl ?_
  obtain ⟨r3, hr3, H⟩ := bindS H
  refine L.callB [true, false] [] [] 9 [0] hF rfl rfl rfl ent163 rfl rfl rfl rfl rfl (Flaws_markPairS_gives k  a0.Links r2.1 r3 hr3) rfl rfl rfl ?_
  refine L.assign hF rfl rfl rfl ?_
  refine L.nil ?_
  refine WpC.seq ?_
  refine WpC.regionL ?_
  refine L.fieldAddr Try.underlying90 rfl info88 rfl hF rfl rfl rfl rfl rfl ?_
  refine L.loadPtr shape88 hF rfl rfl rfl rfl rfl rfl ?_
  refine L.move hF rfl rfl rfl ?_
  obtain ⟨r4, hr4, H⟩ := bindS H
  refine L.callB [true, false] [] [] 10 [0] hF rfl rfl rfl ent163 rfl rfl rfl rfl rfl (Flaws_markPairS_gives k  a0.Proxy r3.1 r4 hr4) rfl rfl rfl ?_
  refine L.assign hF rfl rfl rfl ?_
  refine L.nil ?_
  refine WpC.seq ?_
  refine WpC.regionL ?_
  refine L.move hF rfl rfl rfl ?_
  refine L.assign hF rfl rfl rfl ?_
  refine L.nil ?_
  refine WpC.ret ?_
  cases H
  exact Leaves.retB rfl rfl rfl rfl ⟨rfl, rfl, rfl⟩
end Go.Proofs.Ytcolcmjcjpikcaa.M
