import Derived.Test.YtcolcmjcjpikcaaFTakeReplyx1
import Derived.Test.YtcolcmjcjpikcaaProg
namespace Go.Proofs.Ytcolcmjcjpikcaa.M
open Go Go.MG
set_option linter.unusedVariables false
set_option linter.unusedSimpArgs false
/-! ### Fimpl_TakeReply -/
def Fimpl_TakeReply.j4 (k : Nat) (v40 : Int) (v41 : Int) (v42 : List (List UInt8)) (v43 : Bool) (v44 : Int) (v45 : Int) (v46 : Int) (v47 : Int) (v48 : Int) (v49 : Int) : Option (Timpl_Cred × Bool) := cond v43 (some ((⟨(0 : Int), (0 : Int), (0 : Int), (0 : Int), (⟨(0 : Int), (0 : Int), (0 : Int)⟩ : Timpl_Rest), ([] : List UInt8)⟩ : Timpl_Cred), false)) ((at? v42 (1 : Int)).bind fun b50 => some ((⟨v40, v41, v45, v44, (⟨v47, v48, v49⟩ : Timpl_Rest), b50⟩ : Timpl_Cred), true))
def Fimpl_TakeReply.j2 (k : Nat) (v14 : Int) (v15 : Int) (v16 : Int) (v17 : Int) (v18 : List (List UInt8)) (v19 : Bool) : Option (Timpl_Cred × Bool) := cond v19 (some ((⟨(0 : Int), (0 : Int), (0 : Int), (0 : Int), (⟨(0 : Int), (0 : Int), (0 : Int)⟩ : Timpl_Rest), ([] : List UInt8)⟩ : Timpl_Cred), false)) ((at? v18 (0 : Int)).bind fun b20 => (Fimpl_ReadNums k b20).bind fun r21 => (at? v18 (2 : Int)).bind fun b22 => (Fimpl_ReadGrant k b22 v16).bind fun r23 => cond ((r21.1.length : Int) != (2 : Int)) (Fimpl_TakeReply.j4 k v14 v15 v18 true r23.1.Key r23.1.Service r23.1.Nonce r23.1.Rest.Servers r23.1.Rest.Ops r23.1.Rest.End) ((at? r21.1 (0 : Int)).bind fun b51 => cond (b51 != (3 : Int)) (Fimpl_TakeReply.j4 k v14 v15 v18 true r23.1.Key r23.1.Service r23.1.Nonce r23.1.Rest.Servers r23.1.Rest.Ops r23.1.Rest.End) ((at? r21.1 (1 : Int)).bind fun b52 => cond (b52 != v17) (Fimpl_TakeReply.j4 k v14 v15 v18 true r23.1.Key r23.1.Service r23.1.Nonce r23.1.Rest.Servers r23.1.Rest.Ops r23.1.Rest.End) (cond (!r23.2) (Fimpl_TakeReply.j4 k v14 v15 v18 true r23.1.Key r23.1.Service r23.1.Nonce r23.1.Rest.Servers r23.1.Rest.Ops r23.1.Rest.End) (Fimpl_TakeReply.j4 k v14 v15 v18 (r23.1.Nonce != v17) r23.1.Key r23.1.Service r23.1.Nonce r23.1.Rest.Servers r23.1.Rest.Ops r23.1.Rest.End)))))
def Fimpl_TakeReply (k : Nat) (a0 : Int) (a1 : Int) (a2 : Int) (a3 : Int) (a4 : List UInt8) : Option (Timpl_Cred × Bool) := (Fimpl_Parts k a4).bind fun r1 => (Fimpl_isPrincipal k a0).bind fun r53 => cond (!r53) (Fimpl_TakeReply.j2 k a0 a1 a2 a3 r1.1 true) ((Fimpl_isPrincipal k a1).bind fun r54 => cond (!r54) (Fimpl_TakeReply.j2 k a0 a1 a2 a3 r1.1 true) (Fimpl_TakeReply.j2 k a0 a1 a2 a3 r1.1 ((r1.1.length : Int) != (3 : Int))))
theorem ent67 : Enters Try.prog 67 := ⟨Try.f67, Try.func67, rfl, by decide⟩
set_option maxHeartbeats 8000000 in
set_option maxRecDepth 100000 in
theorem Fimpl_TakeReply_gives (k : Nat) (a0 : Int) (a1 : Int) (a2 : Int) (a3 : Int) (a4 : List UInt8) (r : Timpl_Cred × Bool) (H : Fimpl_TakeReply k a0 a1 a2 a3 a4 = some r) : Gives Try.prog 67 [V.one (cI a0), V.one (cI a1), V.one (cI a2), V.one (cI a3), V.one (cS a4)] [] [V.agg [cI r.1.Owner, cI r.1.Client, cI r.1.Service, cI r.1.Key, cI r.1.Rest.Servers, cI r.1.Rest.Ops, cI r.1.Rest.End, cS r.1.Ticket], V.one (cL r.2)] [] := by
  refine Gives.intro Try.func67 rfl rfl rfl rfl ?_
  intro F hF hm
  unfold Fimpl_TakeReply at H
  obtain ⟨K, hK⟩ : ∃ K, k ≤ K := ⟨k, Nat.le_refl k⟩
  refine WpC.seq ?_
  refine WpC.regionL ?_
  refine L.alloc 5 info76 rfl hF rfl rfl rfl rfl ?_
  refine L.assign hF rfl rfl rfl ?_
  refine L.nil ?_
  refine WpC.seq ?_
  refine WpC.regionL ?_
  refine L.move hF rfl rfl rfl ?_
  obtain ⟨r1, hr1, H⟩ := bindS H
  refine L.call [false] [] [] 6 hF rfl rfl rfl ent144 rfl rfl rfl rfl rfl (Fimpl_Parts_gives k  a4 r1 hr1) rfl ?_
  refine L.move hF rfl rfl rfl ?_
  refine L.extract hF rfl rfl rfl rfl ?_
  refine L.extract hF rfl rfl rfl rfl ?_
  refine L.assign hF rfl rfl rfl ?_
  refine L.assign hF rfl rfl rfl ?_
  refine L.nil ?_
  refine WpC.seq ?_
  refine WpC.join (fun σ => ∃ kj2 : Nat, ∃ v14 : Int, ∃ v15 : Int, ∃ v16 : Int, ∃ v17 : Int, ∃ v18 : List (List UInt8), ∃ v19 : Bool, kj2 ≤ K ∧ Fimpl_TakeReply.j2 kj2 v14 v15 v16 v17 v18 v19 = some r ∧ σ = mkSt [(0, one (cI v14)), (1, one (cI v15)), (2, one (cI v16)), (3, one (cI v17)), (10, one (Cell.ptr 0 0)), (12, one (Cell.own 1)), (35, one (cL v19))] [(1, ⟨1, List.map eS v18⟩)] [(0, [cI (0 : Int), cI (0 : Int), cI (0 : Int), cI (0 : Int), cI (0 : Int), cI (0 : Int), cI (0 : Int), cS ([] : List UInt8)])] 2) ?_ ?_
  · rintro _ ⟨kj2, v14, v15, v16, v17, v18, v19, hkj2, H, rfl⟩
    unfold Fimpl_TakeReply.j2 at H
    refine WpC.cond rfl (fun hc => ?_) (fun hc => ?_)
    · replace H := condT hc H
      refine WpC.seq ?_
      refine WpC.regionL ?_
      refine L.buildF built76 hF rfl rfl rfl rfl ?_
      refine L.storePtr shape76 hF rfl rfl rfl rfl rfl rfl rfl ?_
      refine L.assign hF rfl rfl rfl ?_
      refine L.nil ?_
      refine WpC.ret ?_
      cases H
      exact Leaves.ret rfl rfl rfl ⟨rfl, rfl⟩
    · replace H := condF hc H
      refine WpC.skip ?_
      refine WpC.seq ?_
      refine WpC.regionL ?_
      refine L.move hF rfl rfl rfl ?_
      obtain ⟨b20, hb20, H⟩ := bindS H
      refine L.idxR (xs := v18) (e := eS) Try.underlying120 info9 hF rfl rfl rfl rfl rfl hb20 rfl rfl ?_
      refine L.loadEp (xs := v18) (e := eS) shape9 hF rfl rfl rfl rfl (at?_get hb20).2 rfl rfl ?_
      obtain ⟨r21, hr21, H⟩ := bindS H
      refine L.call [false] [] [] 2 hF rfl rfl rfl ent136 rfl rfl rfl rfl rfl (Fimpl_ReadNums_gives kj2  b20 r21 hr21) rfl ?_
      refine L.move hF rfl rfl rfl ?_
      refine L.extract hF rfl rfl rfl rfl ?_
      refine L.extract hF rfl rfl rfl rfl ?_
      refine L.assign hF rfl rfl rfl ?_
      refine L.assign hF rfl rfl rfl ?_
      refine L.nil ?_
      refine WpC.seq ?_
      refine WpC.regionL ?_
      refine L.move hF rfl rfl rfl ?_
      obtain ⟨b22, hb22, H⟩ := bindS H
      refine L.idxR (xs := v18) (e := eS) Try.underlying120 info9 hF rfl rfl rfl rfl rfl hb22 rfl rfl ?_
      refine L.loadEp (xs := v18) (e := eS) shape9 hF rfl rfl rfl rfl (at?_get hb22).2 rfl rfl ?_
      refine L.move hF rfl rfl rfl ?_
      obtain ⟨r23, hr23, H⟩ := bindS H
      refine L.call [false, false] [] [] 4 hF rfl rfl rfl ent146 rfl rfl rfl rfl rfl (Fimpl_ReadGrant_gives kj2  b22 v16 r23 hr23) rfl ?_
      refine L.move hF rfl rfl rfl ?_
      refine L.extract hF rfl rfl rfl rfl ?_
      refine L.extract hF rfl rfl rfl rfl ?_
      refine L.alloc 11 info187 rfl hF rfl rfl rfl rfl ?_
      refine L.storePtr shape187 hF rfl rfl rfl rfl rfl rfl rfl ?_
      refine L.assign hF rfl rfl rfl ?_
      refine L.nil ?_
      refine WpC.seq ?_
      refine WpC.join (fun σ => ∃ kj4 : Nat, ∃ v40 : Int, ∃ v41 : Int, ∃ v42 : List (List UInt8), ∃ v43 : Bool, ∃ v44 : Int, ∃ v45 : Int, ∃ v46 : Int, ∃ v47 : Int, ∃ v48 : Int, ∃ v49 : Int, kj4 ≤ K ∧ Fimpl_TakeReply.j4 kj4 v40 v41 v42 v43 v44 v45 v46 v47 v48 v49 = some r ∧ σ = mkSt [(0, one (cI v40)), (1, one (cI v41)), (10, one (Cell.ptr 0 0)), (12, one (Cell.own 1)), (16, one (Cell.ptr 2 0)), (77, one (cL v43))] [(1, ⟨1, List.map eS v42⟩)] [(0, [cI (0 : Int), cI (0 : Int), cI (0 : Int), cI (0 : Int), cI (0 : Int), cI (0 : Int), cI (0 : Int), cS ([] : List UInt8)]), (2, [cI v44, cI v45, cI v46, cI v47, cI v48, cI v49])] 3) ?_ ?_
      · rintro _ ⟨kj4, v40, v41, v42, v43, v44, v45, v46, v47, v48, v49, hkj4, H, rfl⟩
        unfold Fimpl_TakeReply.j4 at H
        refine WpC.cond rfl (fun hc => ?_) (fun hc => ?_)
        · replace H := condT hc H
          refine WpC.seq ?_
          refine WpC.regionL ?_
          refine L.buildF built76 hF rfl rfl rfl rfl ?_
          refine L.storePtr shape76 hF rfl rfl rfl rfl rfl rfl rfl ?_
          refine L.assign hF rfl rfl rfl ?_
          refine L.nil ?_
          refine WpC.ret ?_
          cases H
          exact Leaves.ret rfl rfl rfl ⟨rfl, rfl⟩
        · replace H := condF hc H
          refine WpC.skip ?_
          refine WpC.seq ?_
          obtain ⟨b50, hb50, H⟩ := bindS H
          refine A.begin mixed rfl rfl ?_
          intro W hI hO
          have n16383 : W 0 #[true, true, true, true, true, true, true, true, true, true, true, true, true, true] (mkSt [(10, one (Cell.ptr 0 0)), (11, one (cL true))] [] [(0, [cI v40, cI v41, cI v45, cI v44, cI v47, cI v48, cI v49, cS b50])] 1) := by
            refine hI _ _ _ (A.done (by kernel_rfl) ?_)
            refine WpC.ret ?_
            cases H
            exact Leaves.ret rfl rfl rfl ⟨rfl, rfl⟩
          have n8191 : W 1 #[true, true, true, true, true, true, true, true, true, true, true, true, true, false] (mkSt [(10, one (Cell.ptr 0 0))] [] [(0, [cI v40, cI v41, cI v45, cI v44, cI v47, cI v48, cI v49, cS b50])] 1) := by
            refine hI _ _ _ ?_
            refine A.take 13 rfl (by kernel_rfl) (by kernel_rfl) (by kernel_rfl) rfl (Ca.assign) (fun Q0 k0 => L.assign hF rfl rfl rfl (L.nil k0)) ?_
            exact A.on (hO _ _ _ n16383) (Le.mk [(0, 0)] hm rfl ⟨⟨_, rfl, rfl⟩, ⟨_, rfl, rfl⟩, trivial⟩ trivial ⟨⟨_, _, rfl, rfl, rfl⟩, trivial⟩)
          have n4095 : W 2 #[true, true, true, true, true, true, true, true, true, true, true, true, false, false] (mkSt [(10, one (Cell.ptr 0 0)), (90, agg [cI v40, cI v41, cI v45, cI v44, cI v47, cI v48, cI v49, cS b50])] [] [(0, [cI (0 : Int), cI (0 : Int), cI (0 : Int), cI (0 : Int), cI (0 : Int), cI (0 : Int), cI (0 : Int), cS ([] : List UInt8)])] 1) := by
            refine hI _ _ _ ?_
            refine A.all [12] (by kernel_rfl) rfl ⟨⟨_, rfl, ?_⟩, trivial⟩
            · refine L.storePtr shape76 hF rfl rfl rfl rfl rfl rfl rfl ?_
              refine L.nil ?_
              exact A.on (hO _ _ _ n8191) (Le.mk [(0, 0)] hm rfl ⟨⟨_, rfl, rfl⟩, trivial⟩ trivial ⟨⟨_, _, rfl, rfl, rfl⟩, trivial⟩)
          have n2047 : W 3 #[true, true, true, true, true, true, true, true, true, true, true, false, false, false] (mkSt [(10, one (Cell.ptr 0 0)), (79, one (cI v40)), (80, one (cI v41)), (82, one (cI v45)), (84, one (cI v44)), (86, agg [cI v47, cI v48, cI v49]), (89, one (cS b50))] [] [(0, [cI (0 : Int), cI (0 : Int), cI (0 : Int), cI (0 : Int), cI (0 : Int), cI (0 : Int), cI (0 : Int), cS ([] : List UInt8)])] 1) := by
            refine hI _ _ _ ?_
            refine A.take 11 rfl (by kernel_rfl) (by kernel_rfl) (by kernel_rfl) rfl (Ca.build rfl (by rw [built76]; rfl)) (fun Q0 k0 => L.buildF built76 hF rfl rfl rfl rfl (L.nil k0)) ?_
            exact A.on (hO _ _ _ n4095) (Le.mk [(0, 0)] hm rfl ⟨⟨_, rfl, rfl⟩, ⟨_, rfl, rfl⟩, trivial⟩ trivial ⟨⟨_, _, rfl, rfl, rfl⟩, trivial⟩)
          have n2039 : W 4 #[true, true, true, false, true, true, true, true, true, true, true, false, false, false] (mkSt [(10, one (Cell.ptr 0 0)), (79, one (cI v40)), (80, one (cI v41)), (81, one (Cell.ptr 1 1)), (84, one (cI v44)), (86, agg [cI v47, cI v48, cI v49]), (89, one (cS b50))] [] [(0, [cI (0 : Int), cI (0 : Int), cI (0 : Int), cI (0 : Int), cI (0 : Int), cI (0 : Int), cI (0 : Int), cS ([] : List UInt8)]), (1, [cI v44, cI v45, cI v46, cI v47, cI v48, cI v49])] 2) := by
            refine hI _ _ _ ?_
            refine A.all [3] (by kernel_rfl) rfl ⟨⟨_, rfl, ?_⟩, trivial⟩
            · refine L.loadPtr shape3 hF rfl rfl rfl rfl rfl rfl ?_
              refine L.nil ?_
              exact A.on (hO _ _ _ n2047) (Le.mk [(0, 0)] hm rfl ⟨⟨_, rfl, rfl⟩, ⟨_, rfl, rfl⟩, ⟨_, rfl, rfl⟩, ⟨_, rfl, rfl⟩, ⟨_, rfl, rfl⟩, ⟨_, rfl, rfl⟩, ⟨_, rfl, rfl⟩, trivial⟩ trivial ⟨⟨_, _, rfl, rfl, rfl⟩, trivial⟩)
          have n1919 : W 4 #[true, true, true, true, true, true, true, false, true, true, true, false, false, false] (mkSt [(10, one (Cell.ptr 0 0)), (79, one (cI v40)), (80, one (cI v41)), (82, one (cI v45)), (84, one (cI v44)), (85, one (Cell.ptr 1 3)), (89, one (cS b50))] [] [(0, [cI (0 : Int), cI (0 : Int), cI (0 : Int), cI (0 : Int), cI (0 : Int), cI (0 : Int), cI (0 : Int), cS ([] : List UInt8)]), (1, [cI v44, cI v45, cI v46, cI v47, cI v48, cI v49])] 2) := by
            refine hI _ _ _ ?_
            refine A.all [7] (by kernel_rfl) rfl ⟨⟨_, rfl, ?_⟩, trivial⟩
            · refine L.loadPtr shape74 hF rfl rfl rfl rfl rfl rfl ?_
              refine L.nil ?_
              exact A.on (hO _ _ _ n2047) (Le.mk [(0, 0)] hm rfl ⟨⟨_, rfl, rfl⟩, ⟨_, rfl, rfl⟩, ⟨_, rfl, rfl⟩, ⟨_, rfl, rfl⟩, ⟨_, rfl, rfl⟩, ⟨_, rfl, rfl⟩, ⟨_, rfl, rfl⟩, trivial⟩ trivial ⟨⟨_, _, rfl, rfl, rfl⟩, trivial⟩)
          have n1023 : W 4 #[true, true, true, true, true, true, true, true, true, true, false, false, false, false] (mkSt [(10, one (Cell.ptr 0 0)), (79, one (cI v40)), (80, one (cI v41)), (82, one (cI v45)), (84, one (cI v44)), (86, agg [cI v47, cI v48, cI v49]), (88, one (Cell.ep 1 ((1 : Int).toNat) 0))] [(1, ⟨1, List.map eS v42⟩)] [(0, [cI (0 : Int), cI (0 : Int), cI (0 : Int), cI (0 : Int), cI (0 : Int), cI (0 : Int), cI (0 : Int), cS ([] : List UInt8)])] 2) := by
            refine hI _ _ _ ?_
            refine A.all [10] (by kernel_rfl) rfl ⟨⟨_, rfl, ?_⟩, trivial⟩
            · refine L.loadEp (xs := v42) (e := eS) shape9 hF rfl rfl rfl rfl (at?_get hb50).2 rfl rfl ?_
              refine L.nil ?_
              exact A.on (hO _ _ _ n2047) (Le.mk [(0, 0)] hm rfl ⟨⟨_, rfl, rfl⟩, ⟨_, rfl, rfl⟩, ⟨_, rfl, rfl⟩, ⟨_, rfl, rfl⟩, ⟨_, rfl, rfl⟩, ⟨_, rfl, rfl⟩, ⟨_, rfl, rfl⟩, trivial⟩ trivial ⟨⟨_, _, rfl, rfl, rfl⟩, trivial⟩)
          have n2015 : W 4 #[true, true, true, true, true, false, true, true, true, true, true, false, false, false] (mkSt [(10, one (Cell.ptr 0 0)), (79, one (cI v40)), (80, one (cI v41)), (82, one (cI v45)), (83, one (Cell.ptr 1 0)), (86, agg [cI v47, cI v48, cI v49]), (89, one (cS b50))] [] [(0, [cI (0 : Int), cI (0 : Int), cI (0 : Int), cI (0 : Int), cI (0 : Int), cI (0 : Int), cI (0 : Int), cS ([] : List UInt8)]), (1, [cI v44, cI v45, cI v46, cI v47, cI v48, cI v49])] 2) := by
            refine hI _ _ _ ?_
            refine A.all [5] (by kernel_rfl) rfl ⟨⟨_, rfl, ?_⟩, trivial⟩
            · refine L.loadPtr shape3 hF rfl rfl rfl rfl rfl rfl ?_
              refine L.nil ?_
              exact A.on (hO _ _ _ n2047) (Le.mk [(0, 0)] hm rfl ⟨⟨_, rfl, rfl⟩, ⟨_, rfl, rfl⟩, ⟨_, rfl, rfl⟩, ⟨_, rfl, rfl⟩, ⟨_, rfl, rfl⟩, ⟨_, rfl, rfl⟩, ⟨_, rfl, rfl⟩, trivial⟩ trivial ⟨⟨_, _, rfl, rfl, rfl⟩, trivial⟩)
          have n2007 : W 5 #[true, true, true, false, true, false, true, true, true, true, true, false, false, false] (mkSt [(10, one (Cell.ptr 0 0)), (79, one (cI v40)), (80, one (cI v41)), (81, one (Cell.ptr 1 1)), (83, one (Cell.ptr 1 0)), (86, agg [cI v47, cI v48, cI v49]), (89, one (cS b50))] [] [(0, [cI (0 : Int), cI (0 : Int), cI (0 : Int), cI (0 : Int), cI (0 : Int), cI (0 : Int), cI (0 : Int), cS ([] : List UInt8)]), (1, [cI v44, cI v45, cI v46, cI v47, cI v48, cI v49])] 2) := by
            refine hI _ _ _ ?_
            refine A.all [3, 5] (by kernel_rfl) rfl ⟨⟨_, rfl, ?_⟩, ⟨_, rfl, ?_⟩, trivial⟩
            · refine L.loadPtr shape3 hF rfl rfl rfl rfl rfl rfl ?_
              refine L.nil ?_
              exact A.on (hO _ _ _ n2015) (Le.mk [(0, 0), (1, 1)] hm rfl ⟨⟨_, rfl, rfl⟩, ⟨_, rfl, rfl⟩, ⟨_, rfl, rfl⟩, ⟨_, rfl, rfl⟩, ⟨_, rfl, rfl⟩, ⟨_, rfl, rfl⟩, ⟨_, rfl, rfl⟩, trivial⟩ trivial ⟨⟨_, _, rfl, rfl, rfl⟩, ⟨_, _, rfl, rfl, rfl⟩, trivial⟩)
            · refine L.loadPtr shape3 hF rfl rfl rfl rfl rfl rfl ?_
              refine L.nil ?_
              exact A.on (hO _ _ _ n2039) (Le.mk [(0, 0), (1, 1)] hm rfl ⟨⟨_, rfl, rfl⟩, ⟨_, rfl, rfl⟩, ⟨_, rfl, rfl⟩, ⟨_, rfl, rfl⟩, ⟨_, rfl, rfl⟩, ⟨_, rfl, rfl⟩, ⟨_, rfl, rfl⟩, trivial⟩ trivial ⟨⟨_, _, rfl, rfl, rfl⟩, ⟨_, _, rfl, rfl, rfl⟩, trivial⟩)
          have n1887 : W 5 #[true, true, true, true, true, false, true, false, true, true, true, false, false, false] (mkSt [(10, one (Cell.ptr 0 0)), (79, one (cI v40)), (80, one (cI v41)), (82, one (cI v45)), (83, one (Cell.ptr 1 0)), (85, one (Cell.ptr 1 3)), (89, one (cS b50))] [] [(0, [cI (0 : Int), cI (0 : Int), cI (0 : Int), cI (0 : Int), cI (0 : Int), cI (0 : Int), cI (0 : Int), cS ([] : List UInt8)]), (1, [cI v44, cI v45, cI v46, cI v47, cI v48, cI v49])] 2) := by
            refine hI _ _ _ ?_
            refine A.all [5, 7] (by kernel_rfl) rfl ⟨⟨_, rfl, ?_⟩, ⟨_, rfl, ?_⟩, trivial⟩
            · refine L.loadPtr shape3 hF rfl rfl rfl rfl rfl rfl ?_
              refine L.nil ?_
              exact A.on (hO _ _ _ n1919) (Le.mk [(0, 0), (1, 1)] hm rfl ⟨⟨_, rfl, rfl⟩, ⟨_, rfl, rfl⟩, ⟨_, rfl, rfl⟩, ⟨_, rfl, rfl⟩, ⟨_, rfl, rfl⟩, ⟨_, rfl, rfl⟩, ⟨_, rfl, rfl⟩, trivial⟩ trivial ⟨⟨_, _, rfl, rfl, rfl⟩, ⟨_, _, rfl, rfl, rfl⟩, trivial⟩)
            · refine L.loadPtr shape74 hF rfl rfl rfl rfl rfl rfl ?_
              refine L.nil ?_
              exact A.on (hO _ _ _ n2015) (Le.mk [(0, 0), (1, 1)] hm rfl ⟨⟨_, rfl, rfl⟩, ⟨_, rfl, rfl⟩, ⟨_, rfl, rfl⟩, ⟨_, rfl, rfl⟩, ⟨_, rfl, rfl⟩, ⟨_, rfl, rfl⟩, ⟨_, rfl, rfl⟩, trivial⟩ trivial ⟨⟨_, _, rfl, rfl, rfl⟩, ⟨_, _, rfl, rfl, rfl⟩, trivial⟩)
          have n991 : W 5 #[true, true, true, true, true, false, true, true, true, true, false, false, false, false] (mkSt [(10, one (Cell.ptr 0 0)), (79, one (cI v40)), (80, one (cI v41)), (82, one (cI v45)), (83, one (Cell.ptr 1 0)), (86, agg [cI v47, cI v48, cI v49]), (88, one (Cell.ep 2 ((1 : Int).toNat) 0))] [(2, ⟨1, List.map eS v42⟩)] [(0, [cI (0 : Int), cI (0 : Int), cI (0 : Int), cI (0 : Int), cI (0 : Int), cI (0 : Int), cI (0 : Int), cS ([] : List UInt8)]), (1, [cI v44, cI v45, cI v46, cI v47, cI v48, cI v49])] 3) := by
            refine hI _ _ _ ?_
            refine A.all [5, 10] (by kernel_rfl) rfl ⟨⟨_, rfl, ?_⟩, ⟨_, rfl, ?_⟩, trivial⟩
            · refine L.loadPtr shape3 hF rfl rfl rfl rfl rfl rfl ?_
              refine L.nil ?_
              exact A.on (hO _ _ _ n1023) (Le.mk [(0, 0), (1, 2)] hm rfl ⟨⟨_, rfl, rfl⟩, ⟨_, rfl, rfl⟩, ⟨_, rfl, rfl⟩, ⟨_, rfl, rfl⟩, ⟨_, rfl, rfl⟩, ⟨_, rfl, rfl⟩, ⟨_, rfl, rfl⟩, trivial⟩ ⟨⟨_, rfl, rfl⟩, trivial⟩ ⟨⟨_, _, rfl, rfl, rfl⟩, trivial⟩)
            · refine L.loadEp (xs := v42) (e := eS) shape9 hF rfl rfl rfl rfl (at?_get hb50).2 rfl rfl ?_
              refine L.nil ?_
              exact A.on (hO _ _ _ n2015) (Le.mk [(0, 0), (1, 1)] hm rfl ⟨⟨_, rfl, rfl⟩, ⟨_, rfl, rfl⟩, ⟨_, rfl, rfl⟩, ⟨_, rfl, rfl⟩, ⟨_, rfl, rfl⟩, ⟨_, rfl, rfl⟩, ⟨_, rfl, rfl⟩, trivial⟩ trivial ⟨⟨_, _, rfl, rfl, rfl⟩, ⟨_, _, rfl, rfl, rfl⟩, trivial⟩)
          have n1015 : W 5 #[true, true, true, false, true, true, true, true, true, true, false, false, false, false] (mkSt [(10, one (Cell.ptr 0 0)), (79, one (cI v40)), (80, one (cI v41)), (81, one (Cell.ptr 1 1)), (84, one (cI v44)), (86, agg [cI v47, cI v48, cI v49]), (88, one (Cell.ep 2 ((1 : Int).toNat) 0))] [(2, ⟨1, List.map eS v42⟩)] [(0, [cI (0 : Int), cI (0 : Int), cI (0 : Int), cI (0 : Int), cI (0 : Int), cI (0 : Int), cI (0 : Int), cS ([] : List UInt8)]), (1, [cI v44, cI v45, cI v46, cI v47, cI v48, cI v49])] 3) := by
            refine hI _ _ _ ?_
            refine A.all [3, 10] (by kernel_rfl) rfl ⟨⟨_, rfl, ?_⟩, ⟨_, rfl, ?_⟩, trivial⟩
            · refine L.loadPtr shape3 hF rfl rfl rfl rfl rfl rfl ?_
              refine L.nil ?_
              exact A.on (hO _ _ _ n1023) (Le.mk [(0, 0), (1, 2)] hm rfl ⟨⟨_, rfl, rfl⟩, ⟨_, rfl, rfl⟩, ⟨_, rfl, rfl⟩, ⟨_, rfl, rfl⟩, ⟨_, rfl, rfl⟩, ⟨_, rfl, rfl⟩, ⟨_, rfl, rfl⟩, trivial⟩ ⟨⟨_, rfl, rfl⟩, trivial⟩ ⟨⟨_, _, rfl, rfl, rfl⟩, trivial⟩)
            · refine L.loadEp (xs := v42) (e := eS) shape9 hF rfl rfl rfl rfl (at?_get hb50).2 rfl rfl ?_
              refine L.nil ?_
              exact A.on (hO _ _ _ n2039) (Le.mk [(0, 0), (1, 1)] hm rfl ⟨⟨_, rfl, rfl⟩, ⟨_, rfl, rfl⟩, ⟨_, rfl, rfl⟩, ⟨_, rfl, rfl⟩, ⟨_, rfl, rfl⟩, ⟨_, rfl, rfl⟩, ⟨_, rfl, rfl⟩, trivial⟩ trivial ⟨⟨_, _, rfl, rfl, rfl⟩, ⟨_, _, rfl, rfl, rfl⟩, trivial⟩)
          have n1911 : W 5 #[true, true, true, false, true, true, true, false, true, true, true, false, false, false] (mkSt [(10, one (Cell.ptr 0 0)), (79, one (cI v40)), (80, one (cI v41)), (81, one (Cell.ptr 1 1)), (84, one (cI v44)), (85, one (Cell.ptr 1 3)), (89, one (cS b50))] [] [(0, [cI (0 : Int), cI (0 : Int), cI (0 : Int), cI (0 : Int), cI (0 : Int), cI (0 : Int), cI (0 : Int), cS ([] : List UInt8)]), (1, [cI v44, cI v45, cI v46, cI v47, cI v48, cI v49])] 2) := by
            refine hI _ _ _ ?_
            refine A.all [3, 7] (by kernel_rfl) rfl ⟨⟨_, rfl, ?_⟩, ⟨_, rfl, ?_⟩, trivial⟩
            · refine L.loadPtr shape3 hF rfl rfl rfl rfl rfl rfl ?_
              refine L.nil ?_
              exact A.on (hO _ _ _ n1919) (Le.mk [(0, 0), (1, 1)] hm rfl ⟨⟨_, rfl, rfl⟩, ⟨_, rfl, rfl⟩, ⟨_, rfl, rfl⟩, ⟨_, rfl, rfl⟩, ⟨_, rfl, rfl⟩, ⟨_, rfl, rfl⟩, ⟨_, rfl, rfl⟩, trivial⟩ trivial ⟨⟨_, _, rfl, rfl, rfl⟩, ⟨_, _, rfl, rfl, rfl⟩, trivial⟩)
            · refine L.loadPtr shape74 hF rfl rfl rfl rfl rfl rfl ?_
              refine L.nil ?_
              exact A.on (hO _ _ _ n2039) (Le.mk [(0, 0), (1, 1)] hm rfl ⟨⟨_, rfl, rfl⟩, ⟨_, rfl, rfl⟩, ⟨_, rfl, rfl⟩, ⟨_, rfl, rfl⟩, ⟨_, rfl, rfl⟩, ⟨_, rfl, rfl⟩, ⟨_, rfl, rfl⟩, trivial⟩ trivial ⟨⟨_, _, rfl, rfl, rfl⟩, ⟨_, _, rfl, rfl, rfl⟩, trivial⟩)
          have n895 : W 5 #[true, true, true, true, true, true, true, false, true, true, false, false, false, false] (mkSt [(10, one (Cell.ptr 0 0)), (79, one (cI v40)), (80, one (cI v41)), (82, one (cI v45)), (84, one (cI v44)), (85, one (Cell.ptr 1 3)), (88, one (Cell.ep 2 ((1 : Int).toNat) 0))] [(2, ⟨1, List.map eS v42⟩)] [(0, [cI (0 : Int), cI (0 : Int), cI (0 : Int), cI (0 : Int), cI (0 : Int), cI (0 : Int), cI (0 : Int), cS ([] : List UInt8)]), (1, [cI v44, cI v45, cI v46, cI v47, cI v48, cI v49])] 3) := by
            refine hI _ _ _ ?_
            refine A.all [7, 10] (by kernel_rfl) rfl ⟨⟨_, rfl, ?_⟩, ⟨_, rfl, ?_⟩, trivial⟩
            · refine L.loadPtr shape74 hF rfl rfl rfl rfl rfl rfl ?_
              refine L.nil ?_
              exact A.on (hO _ _ _ n1023) (Le.mk [(0, 0), (1, 2)] hm rfl ⟨⟨_, rfl, rfl⟩, ⟨_, rfl, rfl⟩, ⟨_, rfl, rfl⟩, ⟨_, rfl, rfl⟩, ⟨_, rfl, rfl⟩, ⟨_, rfl, rfl⟩, ⟨_, rfl, rfl⟩, trivial⟩ ⟨⟨_, rfl, rfl⟩, trivial⟩ ⟨⟨_, _, rfl, rfl, rfl⟩, trivial⟩)
            · refine L.loadEp (xs := v42) (e := eS) shape9 hF rfl rfl rfl rfl (at?_get hb50).2 rfl rfl ?_
              refine L.nil ?_
              exact A.on (hO _ _ _ n1919) (Le.mk [(0, 0), (1, 1)] hm rfl ⟨⟨_, rfl, rfl⟩, ⟨_, rfl, rfl⟩, ⟨_, rfl, rfl⟩, ⟨_, rfl, rfl⟩, ⟨_, rfl, rfl⟩, ⟨_, rfl, rfl⟩, ⟨_, rfl, rfl⟩, trivial⟩ trivial ⟨⟨_, _, rfl, rfl, rfl⟩, ⟨_, _, rfl, rfl, rfl⟩, trivial⟩)
          have n1879 : W 6 #[true, true, true, false, true, false, true, false, true, true, true, false, false, false] (mkSt [(10, one (Cell.ptr 0 0)), (79, one (cI v40)), (80, one (cI v41)), (81, one (Cell.ptr 1 1)), (83, one (Cell.ptr 1 0)), (85, one (Cell.ptr 1 3)), (89, one (cS b50))] [] [(0, [cI (0 : Int), cI (0 : Int), cI (0 : Int), cI (0 : Int), cI (0 : Int), cI (0 : Int), cI (0 : Int), cS ([] : List UInt8)]), (1, [cI v44, cI v45, cI v46, cI v47, cI v48, cI v49])] 2) := by
            refine hI _ _ _ ?_
            refine A.all [3, 5, 7] (by kernel_rfl) rfl ⟨⟨_, rfl, ?_⟩, ⟨_, rfl, ?_⟩, ⟨_, rfl, ?_⟩, trivial⟩
            · refine L.loadPtr shape3 hF rfl rfl rfl rfl rfl rfl ?_
              refine L.nil ?_
              exact A.on (hO _ _ _ n1887) (Le.mk [(0, 0), (1, 1)] hm rfl ⟨⟨_, rfl, rfl⟩, ⟨_, rfl, rfl⟩, ⟨_, rfl, rfl⟩, ⟨_, rfl, rfl⟩, ⟨_, rfl, rfl⟩, ⟨_, rfl, rfl⟩, ⟨_, rfl, rfl⟩, trivial⟩ trivial ⟨⟨_, _, rfl, rfl, rfl⟩, ⟨_, _, rfl, rfl, rfl⟩, trivial⟩)
            · refine L.loadPtr shape3 hF rfl rfl rfl rfl rfl rfl ?_
              refine L.nil ?_
              exact A.on (hO _ _ _ n1911) (Le.mk [(0, 0), (1, 1)] hm rfl ⟨⟨_, rfl, rfl⟩, ⟨_, rfl, rfl⟩, ⟨_, rfl, rfl⟩, ⟨_, rfl, rfl⟩, ⟨_, rfl, rfl⟩, ⟨_, rfl, rfl⟩, ⟨_, rfl, rfl⟩, trivial⟩ trivial ⟨⟨_, _, rfl, rfl, rfl⟩, ⟨_, _, rfl, rfl, rfl⟩, trivial⟩)
            · refine L.loadPtr shape74 hF rfl rfl rfl rfl rfl rfl ?_
              refine L.nil ?_
              exact A.on (hO _ _ _ n2007) (Le.mk [(0, 0), (1, 1)] hm rfl ⟨⟨_, rfl, rfl⟩, ⟨_, rfl, rfl⟩, ⟨_, rfl, rfl⟩, ⟨_, rfl, rfl⟩, ⟨_, rfl, rfl⟩, ⟨_, rfl, rfl⟩, ⟨_, rfl, rfl⟩, trivial⟩ trivial ⟨⟨_, _, rfl, rfl, rfl⟩, ⟨_, _, rfl, rfl, rfl⟩, trivial⟩)
          have n983 : W 6 #[true, true, true, false, true, false, true, true, true, true, false, false, false, false] (mkSt [(10, one (Cell.ptr 0 0)), (79, one (cI v40)), (80, one (cI v41)), (81, one (Cell.ptr 1 1)), (83, one (Cell.ptr 1 0)), (86, agg [cI v47, cI v48, cI v49]), (88, one (Cell.ep 2 ((1 : Int).toNat) 0))] [(2, ⟨1, List.map eS v42⟩)] [(0, [cI (0 : Int), cI (0 : Int), cI (0 : Int), cI (0 : Int), cI (0 : Int), cI (0 : Int), cI (0 : Int), cS ([] : List UInt8)]), (1, [cI v44, cI v45, cI v46, cI v47, cI v48, cI v49])] 3) := by
            refine hI _ _ _ ?_
            refine A.all [3, 5, 10] (by kernel_rfl) rfl ⟨⟨_, rfl, ?_⟩, ⟨_, rfl, ?_⟩, ⟨_, rfl, ?_⟩, trivial⟩
            · refine L.loadPtr shape3 hF rfl rfl rfl rfl rfl rfl ?_
              refine L.nil ?_
              exact A.on (hO _ _ _ n991) (Le.mk [(0, 0), (1, 1), (2, 2)] hm rfl ⟨⟨_, rfl, rfl⟩, ⟨_, rfl, rfl⟩, ⟨_, rfl, rfl⟩, ⟨_, rfl, rfl⟩, ⟨_, rfl, rfl⟩, ⟨_, rfl, rfl⟩, ⟨_, rfl, rfl⟩, trivial⟩ ⟨⟨_, rfl, rfl⟩, trivial⟩ ⟨⟨_, _, rfl, rfl, rfl⟩, ⟨_, _, rfl, rfl, rfl⟩, trivial⟩)
            · refine L.loadPtr shape3 hF rfl rfl rfl rfl rfl rfl ?_
              refine L.nil ?_
              exact A.on (hO _ _ _ n1015) (Le.mk [(0, 0), (1, 1), (2, 2)] hm rfl ⟨⟨_, rfl, rfl⟩, ⟨_, rfl, rfl⟩, ⟨_, rfl, rfl⟩, ⟨_, rfl, rfl⟩, ⟨_, rfl, rfl⟩, ⟨_, rfl, rfl⟩, ⟨_, rfl, rfl⟩, trivial⟩ ⟨⟨_, rfl, rfl⟩, trivial⟩ ⟨⟨_, _, rfl, rfl, rfl⟩, ⟨_, _, rfl, rfl, rfl⟩, trivial⟩)
            · refine L.loadEp (xs := v42) (e := eS) shape9 hF rfl rfl rfl rfl (at?_get hb50).2 rfl rfl ?_
              refine L.nil ?_
              exact A.on (hO _ _ _ n2007) (Le.mk [(0, 0), (1, 1)] hm rfl ⟨⟨_, rfl, rfl⟩, ⟨_, rfl, rfl⟩, ⟨_, rfl, rfl⟩, ⟨_, rfl, rfl⟩, ⟨_, rfl, rfl⟩, ⟨_, rfl, rfl⟩, ⟨_, rfl, rfl⟩, trivial⟩ trivial ⟨⟨_, _, rfl, rfl, rfl⟩, ⟨_, _, rfl, rfl, rfl⟩, trivial⟩)
          have n863 : W 6 #[true, true, true, true, true, false, true, false, true, true, false, false, false, false] (mkSt [(10, one (Cell.ptr 0 0)), (79, one (cI v40)), (80, one (cI v41)), (82, one (cI v45)), (83, one (Cell.ptr 1 0)), (85, one (Cell.ptr 1 3)), (88, one (Cell.ep 2 ((1 : Int).toNat) 0))] [(2, ⟨1, List.map eS v42⟩)] [(0, [cI (0 : Int), cI (0 : Int), cI (0 : Int), cI (0 : Int), cI (0 : Int), cI (0 : Int), cI (0 : Int), cS ([] : List UInt8)]), (1, [cI v44, cI v45, cI v46, cI v47, cI v48, cI v49])] 3) := by
            refine hI _ _ _ ?_
            refine A.all [5, 7, 10] (by kernel_rfl) rfl ⟨⟨_, rfl, ?_⟩, ⟨_, rfl, ?_⟩, ⟨_, rfl, ?_⟩, trivial⟩
            · refine L.loadPtr shape3 hF rfl rfl rfl rfl rfl rfl ?_
              refine L.nil ?_
              exact A.on (hO _ _ _ n895) (Le.mk [(0, 0), (1, 1), (2, 2)] hm rfl ⟨⟨_, rfl, rfl⟩, ⟨_, rfl, rfl⟩, ⟨_, rfl, rfl⟩, ⟨_, rfl, rfl⟩, ⟨_, rfl, rfl⟩, ⟨_, rfl, rfl⟩, ⟨_, rfl, rfl⟩, trivial⟩ ⟨⟨_, rfl, rfl⟩, trivial⟩ ⟨⟨_, _, rfl, rfl, rfl⟩, ⟨_, _, rfl, rfl, rfl⟩, trivial⟩)
            · refine L.loadPtr shape74 hF rfl rfl rfl rfl rfl rfl ?_
              refine L.nil ?_
              exact A.on (hO _ _ _ n991) (Le.mk [(0, 0), (1, 1), (2, 2)] hm rfl ⟨⟨_, rfl, rfl⟩, ⟨_, rfl, rfl⟩, ⟨_, rfl, rfl⟩, ⟨_, rfl, rfl⟩, ⟨_, rfl, rfl⟩, ⟨_, rfl, rfl⟩, ⟨_, rfl, rfl⟩, trivial⟩ ⟨⟨_, rfl, rfl⟩, trivial⟩ ⟨⟨_, _, rfl, rfl, rfl⟩, ⟨_, _, rfl, rfl, rfl⟩, trivial⟩)
            · refine L.loadEp (xs := v42) (e := eS) shape9 hF rfl rfl rfl rfl (at?_get hb50).2 rfl rfl ?_
              refine L.nil ?_
              exact A.on (hO _ _ _ n1887) (Le.mk [(0, 0), (1, 1)] hm rfl ⟨⟨_, rfl, rfl⟩, ⟨_, rfl, rfl⟩, ⟨_, rfl, rfl⟩, ⟨_, rfl, rfl⟩, ⟨_, rfl, rfl⟩, ⟨_, rfl, rfl⟩, ⟨_, rfl, rfl⟩, trivial⟩ trivial ⟨⟨_, _, rfl, rfl, rfl⟩, ⟨_, _, rfl, rfl, rfl⟩, trivial⟩)
          have n887 : W 6 #[true, true, true, false, true, true, true, false, true, true, false, false, false, false] (mkSt [(10, one (Cell.ptr 0 0)), (79, one (cI v40)), (80, one (cI v41)), (81, one (Cell.ptr 1 1)), (84, one (cI v44)), (85, one (Cell.ptr 1 3)), (88, one (Cell.ep 2 ((1 : Int).toNat) 0))] [(2, ⟨1, List.map eS v42⟩)] [(0, [cI (0 : Int), cI (0 : Int), cI (0 : Int), cI (0 : Int), cI (0 : Int), cI (0 : Int), cI (0 : Int), cS ([] : List UInt8)]), (1, [cI v44, cI v45, cI v46, cI v47, cI v48, cI v49])] 3) := by
            refine hI _ _ _ ?_
            refine A.all [3, 7, 10] (by kernel_rfl) rfl ⟨⟨_, rfl, ?_⟩, ⟨_, rfl, ?_⟩, ⟨_, rfl, ?_⟩, trivial⟩
            · refine L.loadPtr shape3 hF rfl rfl rfl rfl rfl rfl ?_
              refine L.nil ?_
              exact A.on (hO _ _ _ n895) (Le.mk [(0, 0), (1, 1), (2, 2)] hm rfl ⟨⟨_, rfl, rfl⟩, ⟨_, rfl, rfl⟩, ⟨_, rfl, rfl⟩, ⟨_, rfl, rfl⟩, ⟨_, rfl, rfl⟩, ⟨_, rfl, rfl⟩, ⟨_, rfl, rfl⟩, trivial⟩ ⟨⟨_, rfl, rfl⟩, trivial⟩ ⟨⟨_, _, rfl, rfl, rfl⟩, ⟨_, _, rfl, rfl, rfl⟩, trivial⟩)
            · refine L.loadPtr shape74 hF rfl rfl rfl rfl rfl rfl ?_
              refine L.nil ?_
              exact A.on (hO _ _ _ n1015) (Le.mk [(0, 0), (1, 1), (2, 2)] hm rfl ⟨⟨_, rfl, rfl⟩, ⟨_, rfl, rfl⟩, ⟨_, rfl, rfl⟩, ⟨_, rfl, rfl⟩, ⟨_, rfl, rfl⟩, ⟨_, rfl, rfl⟩, ⟨_, rfl, rfl⟩, trivial⟩ ⟨⟨_, rfl, rfl⟩, trivial⟩ ⟨⟨_, _, rfl, rfl, rfl⟩, ⟨_, _, rfl, rfl, rfl⟩, trivial⟩)
            · refine L.loadEp (xs := v42) (e := eS) shape9 hF rfl rfl rfl rfl (at?_get hb50).2 rfl rfl ?_
              refine L.nil ?_
              exact A.on (hO _ _ _ n1911) (Le.mk [(0, 0), (1, 1)] hm rfl ⟨⟨_, rfl, rfl⟩, ⟨_, rfl, rfl⟩, ⟨_, rfl, rfl⟩, ⟨_, rfl, rfl⟩, ⟨_, rfl, rfl⟩, ⟨_, rfl, rfl⟩, ⟨_, rfl, rfl⟩, trivial⟩ trivial ⟨⟨_, _, rfl, rfl, rfl⟩, ⟨_, _, rfl, rfl, rfl⟩, trivial⟩)
          have n855 : W 7 #[true, true, true, false, true, false, true, false, true, true, false, false, false, false] (mkSt [(10, one (Cell.ptr 0 0)), (79, one (cI v40)), (80, one (cI v41)), (81, one (Cell.ptr 1 1)), (83, one (Cell.ptr 1 0)), (85, one (Cell.ptr 1 3)), (88, one (Cell.ep 2 ((1 : Int).toNat) 0))] [(2, ⟨1, List.map eS v42⟩)] [(0, [cI (0 : Int), cI (0 : Int), cI (0 : Int), cI (0 : Int), cI (0 : Int), cI (0 : Int), cI (0 : Int), cS ([] : List UInt8)]), (1, [cI v44, cI v45, cI v46, cI v47, cI v48, cI v49])] 3) := by
            refine hI _ _ _ ?_
            refine A.all [3, 5, 7, 10] (by kernel_rfl) rfl ⟨⟨_, rfl, ?_⟩, ⟨_, rfl, ?_⟩, ⟨_, rfl, ?_⟩, ⟨_, rfl, ?_⟩, trivial⟩
            · refine L.loadPtr shape3 hF rfl rfl rfl rfl rfl rfl ?_
              refine L.nil ?_
              exact A.on (hO _ _ _ n863) (Le.mk [(0, 0), (1, 1), (2, 2)] hm rfl ⟨⟨_, rfl, rfl⟩, ⟨_, rfl, rfl⟩, ⟨_, rfl, rfl⟩, ⟨_, rfl, rfl⟩, ⟨_, rfl, rfl⟩, ⟨_, rfl, rfl⟩, ⟨_, rfl, rfl⟩, trivial⟩ ⟨⟨_, rfl, rfl⟩, trivial⟩ ⟨⟨_, _, rfl, rfl, rfl⟩, ⟨_, _, rfl, rfl, rfl⟩, trivial⟩)
            · refine L.loadPtr shape3 hF rfl rfl rfl rfl rfl rfl ?_
              refine L.nil ?_
              exact A.on (hO _ _ _ n887) (Le.mk [(0, 0), (1, 1), (2, 2)] hm rfl ⟨⟨_, rfl, rfl⟩, ⟨_, rfl, rfl⟩, ⟨_, rfl, rfl⟩, ⟨_, rfl, rfl⟩, ⟨_, rfl, rfl⟩, ⟨_, rfl, rfl⟩, ⟨_, rfl, rfl⟩, trivial⟩ ⟨⟨_, rfl, rfl⟩, trivial⟩ ⟨⟨_, _, rfl, rfl, rfl⟩, ⟨_, _, rfl, rfl, rfl⟩, trivial⟩)
            · refine L.loadPtr shape74 hF rfl rfl rfl rfl rfl rfl ?_
              refine L.nil ?_
              exact A.on (hO _ _ _ n983) (Le.mk [(0, 0), (1, 1), (2, 2)] hm rfl ⟨⟨_, rfl, rfl⟩, ⟨_, rfl, rfl⟩, ⟨_, rfl, rfl⟩, ⟨_, rfl, rfl⟩, ⟨_, rfl, rfl⟩, ⟨_, rfl, rfl⟩, ⟨_, rfl, rfl⟩, trivial⟩ ⟨⟨_, rfl, rfl⟩, trivial⟩ ⟨⟨_, _, rfl, rfl, rfl⟩, ⟨_, _, rfl, rfl, rfl⟩, trivial⟩)
            · refine L.loadEp (xs := v42) (e := eS) shape9 hF rfl rfl rfl rfl (at?_get hb50).2 rfl rfl ?_
              refine L.nil ?_
              exact A.on (hO _ _ _ n1879) (Le.mk [(0, 0), (1, 1)] hm rfl ⟨⟨_, rfl, rfl⟩, ⟨_, rfl, rfl⟩, ⟨_, rfl, rfl⟩, ⟨_, rfl, rfl⟩, ⟨_, rfl, rfl⟩, ⟨_, rfl, rfl⟩, ⟨_, rfl, rfl⟩, trivial⟩ trivial ⟨⟨_, _, rfl, rfl, rfl⟩, ⟨_, _, rfl, rfl, rfl⟩, trivial⟩)
          have n343 : W 8 #[true, true, true, false, true, false, true, false, true, false, false, false, false, false] (mkSt [(10, one (Cell.ptr 0 0)), (79, one (cI v40)), (80, one (cI v41)), (81, one (Cell.ptr 1 1)), (83, one (Cell.ptr 1 0)), (85, one (Cell.ptr 1 3)), (87, one (Cell.own 2))] [(2, ⟨1, List.map eS v42⟩)] [(0, [cI (0 : Int), cI (0 : Int), cI (0 : Int), cI (0 : Int), cI (0 : Int), cI (0 : Int), cI (0 : Int), cS ([] : List UInt8)]), (1, [cI v44, cI v45, cI v46, cI v47, cI v48, cI v49])] 3) := by
            refine hI _ _ _ ?_
            refine A.take 9 rfl (by kernel_rfl) (by kernel_rfl) (by kernel_rfl) rfl (Ca.indexAddr) (fun Q0 k0 => L.idxR (xs := v42) (e := eS) Try.underlying120 info9 hF rfl rfl rfl rfl rfl hb50 rfl rfl (L.nil k0)) ?_
            exact A.on (hO _ _ _ n855) (Le.mk [(0, 0), (1, 1), (2, 2)] hm rfl ⟨⟨_, rfl, rfl⟩, ⟨_, rfl, rfl⟩, ⟨_, rfl, rfl⟩, ⟨_, rfl, rfl⟩, ⟨_, rfl, rfl⟩, ⟨_, rfl, rfl⟩, ⟨_, rfl, rfl⟩, trivial⟩ ⟨⟨_, rfl, rfl⟩, trivial⟩ ⟨⟨_, _, rfl, rfl, rfl⟩, ⟨_, _, rfl, rfl, rfl⟩, trivial⟩)
          have n87 : W 9 #[true, true, true, false, true, false, true, false, false, false, false, false, false, false] (mkSt [(10, one (Cell.ptr 0 0)), (12, one (Cell.own 1)), (79, one (cI v40)), (80, one (cI v41)), (81, one (Cell.ptr 2 1)), (83, one (Cell.ptr 2 0)), (85, one (Cell.ptr 2 3))] [(1, ⟨1, List.map eS v42⟩)] [(0, [cI (0 : Int), cI (0 : Int), cI (0 : Int), cI (0 : Int), cI (0 : Int), cI (0 : Int), cI (0 : Int), cS ([] : List UInt8)]), (2, [cI v44, cI v45, cI v46, cI v47, cI v48, cI v49])] 3) := by
            refine hI _ _ _ ?_
            refine A.take 8 rfl (by kernel_rfl) (by kernel_rfl) (by kernel_rfl) rfl (Ca.move) (fun Q0 k0 => L.move hF rfl rfl rfl (L.nil k0)) ?_
            exact A.on (hO _ _ _ n343) (Le.mk [(0, 0), (1, 2), (2, 1)] hm rfl ⟨⟨_, rfl, rfl⟩, ⟨_, rfl, rfl⟩, ⟨_, rfl, rfl⟩, ⟨_, rfl, rfl⟩, ⟨_, rfl, rfl⟩, ⟨_, rfl, rfl⟩, ⟨_, rfl, rfl⟩, trivial⟩ ⟨⟨_, rfl, rfl⟩, trivial⟩ ⟨⟨_, _, rfl, rfl, rfl⟩, ⟨_, _, rfl, rfl, rfl⟩, trivial⟩)
          have n23 : W 10 #[true, true, true, false, true, false, false, false, false, false, false, false, false, false] (mkSt [(10, one (Cell.ptr 0 0)), (12, one (Cell.own 1)), (16, one (Cell.ptr 2 0)), (79, one (cI v40)), (80, one (cI v41)), (81, one (Cell.ptr 2 1)), (83, one (Cell.ptr 2 0))] [(1, ⟨1, List.map eS v42⟩)] [(0, [cI (0 : Int), cI (0 : Int), cI (0 : Int), cI (0 : Int), cI (0 : Int), cI (0 : Int), cI (0 : Int), cS ([] : List UInt8)]), (2, [cI v44, cI v45, cI v46, cI v47, cI v48, cI v49])] 3) := by
            refine hI _ _ _ ?_
            refine A.take 6 rfl (by kernel_rfl) (by kernel_rfl) (by kernel_rfl) rfl (Ca.fieldAddr Try.underlying187 rfl info74 rfl) (fun Q0 k0 => L.fieldAddr Try.underlying187 rfl info74 rfl hF rfl rfl rfl rfl rfl (L.nil k0)) ?_
            exact A.on (hO _ _ _ n87) (Le.mk [(0, 0), (1, 1), (2, 2)] hm rfl ⟨⟨_, rfl, rfl⟩, ⟨_, rfl, rfl⟩, ⟨_, rfl, rfl⟩, ⟨_, rfl, rfl⟩, ⟨_, rfl, rfl⟩, ⟨_, rfl, rfl⟩, ⟨_, rfl, rfl⟩, trivial⟩ ⟨⟨_, rfl, rfl⟩, trivial⟩ ⟨⟨_, _, rfl, rfl, rfl⟩, ⟨_, _, rfl, rfl, rfl⟩, trivial⟩)
          have n7 : W 11 #[true, true, true, false, false, false, false, false, false, false, false, false, false, false] (mkSt [(10, one (Cell.ptr 0 0)), (12, one (Cell.own 1)), (16, one (Cell.ptr 2 0)), (79, one (cI v40)), (80, one (cI v41)), (81, one (Cell.ptr 2 1))] [(1, ⟨1, List.map eS v42⟩)] [(0, [cI (0 : Int), cI (0 : Int), cI (0 : Int), cI (0 : Int), cI (0 : Int), cI (0 : Int), cI (0 : Int), cS ([] : List UInt8)]), (2, [cI v44, cI v45, cI v46, cI v47, cI v48, cI v49])] 3) := by
            refine hI _ _ _ ?_
            refine A.take 4 rfl (by kernel_rfl) (by kernel_rfl) (by kernel_rfl) rfl (Ca.fieldAddr Try.underlying187 rfl info3 rfl) (fun Q0 k0 => L.fieldAddr Try.underlying187 rfl info3 rfl hF rfl rfl rfl rfl rfl (L.nil k0)) ?_
            exact A.on (hO _ _ _ n23) (Le.mk [(0, 0), (1, 1), (2, 2)] hm rfl ⟨⟨_, rfl, rfl⟩, ⟨_, rfl, rfl⟩, ⟨_, rfl, rfl⟩, ⟨_, rfl, rfl⟩, ⟨_, rfl, rfl⟩, ⟨_, rfl, rfl⟩, ⟨_, rfl, rfl⟩, trivial⟩ ⟨⟨_, rfl, rfl⟩, trivial⟩ ⟨⟨_, _, rfl, rfl, rfl⟩, ⟨_, _, rfl, rfl, rfl⟩, trivial⟩)
          have n3 : W 12 #[true, true, false, false, false, false, false, false, false, false, false, false, false, false] (mkSt [(10, one (Cell.ptr 0 0)), (12, one (Cell.own 1)), (16, one (Cell.ptr 2 0)), (79, one (cI v40)), (80, one (cI v41))] [(1, ⟨1, List.map eS v42⟩)] [(0, [cI (0 : Int), cI (0 : Int), cI (0 : Int), cI (0 : Int), cI (0 : Int), cI (0 : Int), cI (0 : Int), cS ([] : List UInt8)]), (2, [cI v44, cI v45, cI v46, cI v47, cI v48, cI v49])] 3) := by
            refine hI _ _ _ ?_
            refine A.take 2 rfl (by kernel_rfl) (by kernel_rfl) (by kernel_rfl) rfl (Ca.fieldAddr Try.underlying187 rfl info3 rfl) (fun Q0 k0 => L.fieldAddr Try.underlying187 rfl info3 rfl hF rfl rfl rfl rfl rfl (L.nil k0)) ?_
            exact A.on (hO _ _ _ n7) (Le.mk [(0, 0), (1, 1), (2, 2)] hm rfl ⟨⟨_, rfl, rfl⟩, ⟨_, rfl, rfl⟩, ⟨_, rfl, rfl⟩, ⟨_, rfl, rfl⟩, ⟨_, rfl, rfl⟩, ⟨_, rfl, rfl⟩, trivial⟩ ⟨⟨_, rfl, rfl⟩, trivial⟩ ⟨⟨_, _, rfl, rfl, rfl⟩, ⟨_, _, rfl, rfl, rfl⟩, trivial⟩)
          have n1 : W 13 #[true, false, false, false, false, false, false, false, false, false, false, false, false, false] (mkSt [(1, one (cI v41)), (10, one (Cell.ptr 0 0)), (12, one (Cell.own 1)), (16, one (Cell.ptr 2 0)), (79, one (cI v40))] [(1, ⟨1, List.map eS v42⟩)] [(0, [cI (0 : Int), cI (0 : Int), cI (0 : Int), cI (0 : Int), cI (0 : Int), cI (0 : Int), cI (0 : Int), cS ([] : List UInt8)]), (2, [cI v44, cI v45, cI v46, cI v47, cI v48, cI v49])] 3) := by
            refine hI _ _ _ ?_
            refine A.take 1 rfl (by kernel_rfl) (by kernel_rfl) (by kernel_rfl) rfl (Ca.move) (fun Q0 k0 => L.move hF rfl rfl rfl (L.nil k0)) ?_
            exact A.on (hO _ _ _ n3) (Le.mk [(0, 0), (1, 1), (2, 2)] hm rfl ⟨⟨_, rfl, rfl⟩, ⟨_, rfl, rfl⟩, ⟨_, rfl, rfl⟩, ⟨_, rfl, rfl⟩, ⟨_, rfl, rfl⟩, trivial⟩ ⟨⟨_, rfl, rfl⟩, trivial⟩ ⟨⟨_, _, rfl, rfl, rfl⟩, ⟨_, _, rfl, rfl, rfl⟩, trivial⟩)
          have n0 : W 14 #[false, false, false, false, false, false, false, false, false, false, false, false, false, false] (mkSt [(0, one (cI v40)), (1, one (cI v41)), (10, one (Cell.ptr 0 0)), (12, one (Cell.own 1)), (16, one (Cell.ptr 2 0))] [(1, ⟨1, List.map eS v42⟩)] [(0, [cI (0 : Int), cI (0 : Int), cI (0 : Int), cI (0 : Int), cI (0 : Int), cI (0 : Int), cI (0 : Int), cS ([] : List UInt8)]), (2, [cI v44, cI v45, cI v46, cI v47, cI v48, cI v49])] 3) := by
            refine hI _ _ _ ?_
            refine A.take 0 rfl (by kernel_rfl) (by kernel_rfl) (by kernel_rfl) rfl (Ca.move) (fun Q0 k0 => L.move hF rfl rfl rfl (L.nil k0)) ?_
            exact A.on (hO _ _ _ n1) (Le.mk [(0, 0), (1, 1), (2, 2)] hm rfl ⟨⟨_, rfl, rfl⟩, ⟨_, rfl, rfl⟩, ⟨_, rfl, rfl⟩, ⟨_, rfl, rfl⟩, ⟨_, rfl, rfl⟩, trivial⟩ ⟨⟨_, rfl, rfl⟩, trivial⟩ ⟨⟨_, _, rfl, rfl, rfl⟩, ⟨_, _, rfl, rfl, rfl⟩, trivial⟩)
          exact hI _ _ _ (A.on (hO _ _ _ n0) (Le.mk [(0, 0), (1, 1), (2, 2)] hm rfl ⟨⟨_, rfl, rfl⟩, ⟨_, rfl, rfl⟩, ⟨_, rfl, rfl⟩, ⟨_, rfl, rfl⟩, ⟨_, rfl, rfl⟩, trivial⟩ ⟨⟨_, rfl, rfl⟩, trivial⟩ ⟨⟨_, _, rfl, rfl, rfl⟩, ⟨_, _, rfl, rfl, rfl⟩, trivial⟩))
      · refine WpC.regionL ?_
        refine L.move hF rfl rfl rfl ?_
        refine L.lenR (xs := r21.1) (e := eI) Try.underlying24 hF rfl rfl rfl rfl ?_
        refine L.bin hF rfl rfl rfl rfl rfl rfl ?_
        refine L.move hF rfl rfl rfl ?_
        refine L.split (fun hc => ?_) (fun hc => ?_)
        · replace H := condT hc H
          refine L.off hF rfl rfl ?_
          refine L.off hF rfl rfl ?_
          refine L.off hF rfl rfl ?_
          refine L.off hF rfl rfl ?_
          refine L.pick hF rfl rfl rfl rfl ?_
          refine L.move hF rfl rfl rfl ?_
          refine L.off hF rfl rfl ?_
          refine L.off hF rfl rfl ?_
          refine L.off hF rfl rfl ?_
          refine L.off hF rfl rfl ?_
          refine L.off hF rfl rfl ?_
          refine L.pick hF rfl rfl rfl rfl ?_
          refine L.move hF rfl rfl rfl ?_
          refine L.off hF rfl rfl ?_
          refine L.off hF rfl rfl ?_
          refine L.pick hF rfl rfl rfl rfl ?_
          refine L.move hF rfl rfl rfl ?_
          refine L.off hF rfl rfl ?_
          refine L.off hF rfl rfl ?_
          refine L.off hF rfl rfl ?_
          refine L.off hF rfl rfl ?_
          refine L.pick hF rfl rfl rfl rfl ?_
          refine L.nil ?_
          exact ⟨_, ⟨kj2, v14, v15, v18, true, r23.1.Key, r23.1.Service, r23.1.Nonce, r23.1.Rest.Servers, r23.1.Rest.Ops, r23.1.Rest.End, by omega, H, rfl⟩, Le.mk [(0, 0), (1, 1), (2, 11)] hm rfl ⟨⟨_, rfl, rfl⟩, ⟨_, rfl, rfl⟩, ⟨_, rfl, rfl⟩, ⟨_, rfl, rfl⟩, ⟨_, rfl, rfl⟩, ⟨_, rfl, rfl⟩, trivial⟩ ⟨⟨_, rfl, rfl⟩, trivial⟩ ⟨⟨_, _, rfl, rfl, rfl⟩, ⟨_, _, rfl, rfl, rfl⟩, trivial⟩⟩
        · replace H := condF hc H
          refine L.move hF rfl rfl rfl ?_
          obtain ⟨b51, hb51, H⟩ := bindS H
          refine L.idxR (xs := r21.1) (e := eI) Try.underlying24 info3 hF rfl rfl rfl rfl rfl hb51 rfl rfl ?_
          refine L.loadEp (xs := r21.1) (e := eI) shape3 hF rfl rfl rfl rfl (at?_get hb51).2 rfl rfl ?_
          refine L.bin hF rfl rfl rfl rfl rfl rfl ?_
          refine L.pick hF rfl rfl rfl rfl ?_
          refine L.move hF rfl rfl rfl ?_
          refine L.split (fun hc => ?_) (fun hc => ?_)
          · replace H := condT hc H
            refine L.off hF rfl rfl ?_
            refine L.off hF rfl rfl ?_
            refine L.off hF rfl rfl ?_
            refine L.off hF rfl rfl ?_
            refine L.off hF rfl rfl ?_
            refine L.pick hF rfl rfl rfl rfl ?_
            refine L.move hF rfl rfl rfl ?_
            refine L.off hF rfl rfl ?_
            refine L.off hF rfl rfl ?_
            refine L.pick hF rfl rfl rfl rfl ?_
            refine L.move hF rfl rfl rfl ?_
            refine L.off hF rfl rfl ?_
            refine L.off hF rfl rfl ?_
            refine L.off hF rfl rfl ?_
            refine L.off hF rfl rfl ?_
            refine L.pick hF rfl rfl rfl rfl ?_
            refine L.nil ?_
            exact ⟨_, ⟨kj2, v14, v15, v18, true, r23.1.Key, r23.1.Service, r23.1.Nonce, r23.1.Rest.Servers, r23.1.Rest.Ops, r23.1.Rest.End, by omega, H, rfl⟩, Le.mk [(0, 0), (1, 1), (2, 11)] hm rfl ⟨⟨_, rfl, rfl⟩, ⟨_, rfl, rfl⟩, ⟨_, rfl, rfl⟩, ⟨_, rfl, rfl⟩, ⟨_, rfl, rfl⟩, ⟨_, rfl, rfl⟩, trivial⟩ ⟨⟨_, rfl, rfl⟩, trivial⟩ ⟨⟨_, _, rfl, rfl, rfl⟩, ⟨_, _, rfl, rfl, rfl⟩, trivial⟩⟩
          · replace H := condF hc H
            refine L.move hF rfl rfl rfl ?_
            obtain ⟨b52, hb52, H⟩ := bindS H
            refine L.idxR (xs := r21.1) (e := eI) Try.underlying24 info3 hF rfl rfl rfl rfl rfl hb52 rfl rfl ?_
            refine L.loadEp (xs := r21.1) (e := eI) shape3 hF rfl rfl rfl rfl (at?_get hb52).2 rfl rfl ?_
            refine L.move hF rfl rfl rfl ?_
            refine L.bin hF rfl rfl rfl rfl rfl rfl ?_
            refine L.pick hF rfl rfl rfl rfl ?_
            refine L.move hF rfl rfl rfl ?_
            refine L.split (fun hc => ?_) (fun hc => ?_)
            · replace H := condT hc H
              refine L.off hF rfl rfl ?_
              refine L.off hF rfl rfl ?_
              refine L.pick hF rfl rfl rfl rfl ?_
              refine L.move hF rfl rfl rfl ?_
              refine L.off hF rfl rfl ?_
              refine L.off hF rfl rfl ?_
              refine L.off hF rfl rfl ?_
              refine L.off hF rfl rfl ?_
              refine L.pick hF rfl rfl rfl rfl ?_
              refine L.nil ?_
              exact ⟨_, ⟨kj2, v14, v15, v18, true, r23.1.Key, r23.1.Service, r23.1.Nonce, r23.1.Rest.Servers, r23.1.Rest.Ops, r23.1.Rest.End, by omega, H, rfl⟩, Le.mk [(0, 0), (1, 1), (2, 11)] hm rfl ⟨⟨_, rfl, rfl⟩, ⟨_, rfl, rfl⟩, ⟨_, rfl, rfl⟩, ⟨_, rfl, rfl⟩, ⟨_, rfl, rfl⟩, ⟨_, rfl, rfl⟩, trivial⟩ ⟨⟨_, rfl, rfl⟩, trivial⟩ ⟨⟨_, _, rfl, rfl, rfl⟩, ⟨_, _, rfl, rfl, rfl⟩, trivial⟩⟩
            · replace H := condF hc H
              refine L.move hF rfl rfl rfl ?_
              refine L.not hF rfl rfl rfl ?_
              refine L.pick hF rfl rfl rfl rfl ?_
              refine L.move hF rfl rfl rfl ?_
              refine L.split (fun hc => ?_) (fun hc => ?_)
              · replace H := condT hc H
                refine L.off hF rfl rfl ?_
                refine L.off hF rfl rfl ?_
                refine L.off hF rfl rfl ?_
                refine L.off hF rfl rfl ?_
                refine L.pick hF rfl rfl rfl rfl ?_
                refine L.nil ?_
                exact ⟨_, ⟨kj2, v14, v15, v18, true, r23.1.Key, r23.1.Service, r23.1.Nonce, r23.1.Rest.Servers, r23.1.Rest.Ops, r23.1.Rest.End, by omega, H, rfl⟩, Le.mk [(0, 0), (1, 1), (2, 11)] hm rfl ⟨⟨_, rfl, rfl⟩, ⟨_, rfl, rfl⟩, ⟨_, rfl, rfl⟩, ⟨_, rfl, rfl⟩, ⟨_, rfl, rfl⟩, ⟨_, rfl, rfl⟩, trivial⟩ ⟨⟨_, rfl, rfl⟩, trivial⟩ ⟨⟨_, _, rfl, rfl, rfl⟩, ⟨_, _, rfl, rfl, rfl⟩, trivial⟩⟩
              · replace H := condF hc H
                refine L.fieldAddr Try.underlying187 rfl info3 rfl hF rfl rfl rfl rfl rfl ?_
                refine L.loadPtr shape3 hF rfl rfl rfl rfl rfl rfl ?_
                refine L.move hF rfl rfl rfl ?_
                refine L.bin hF rfl rfl rfl rfl rfl rfl ?_
                refine L.pick hF rfl rfl rfl rfl ?_
                refine L.nil ?_
                exact ⟨_, ⟨kj2, v14, v15, v18, (r23.1.Nonce != v17), r23.1.Key, r23.1.Service, r23.1.Nonce, r23.1.Rest.Servers, r23.1.Rest.Ops, r23.1.Rest.End, by omega, H, rfl⟩, Le.mk [(0, 0), (1, 1), (2, 11)] hm rfl ⟨⟨_, rfl, rfl⟩, ⟨_, rfl, rfl⟩, ⟨_, rfl, rfl⟩, ⟨_, rfl, rfl⟩, ⟨_, rfl, rfl⟩, ⟨_, rfl, rfl⟩, trivial⟩ ⟨⟨_, rfl, rfl⟩, trivial⟩ ⟨⟨_, _, rfl, rfl, rfl⟩, ⟨_, _, rfl, rfl, rfl⟩, trivial⟩⟩
  · refine WpC.regionL ?_
    refine L.move hF rfl rfl rfl ?_
    obtain ⟨r53, hr53, H⟩ := bindS H
    refine L.call [false] [] [] 8 hF rfl rfl rfl ent145 rfl rfl rfl rfl rfl (Fimpl_isPrincipal_gives k  a0 r53 hr53) rfl ?_
    refine L.not hF rfl rfl rfl ?_
    refine L.move hF rfl rfl rfl ?_
    refine L.split (fun hc => ?_) (fun hc => ?_)
    · replace H := condT hc H
      refine L.off hF rfl rfl ?_
      refine L.off hF rfl rfl ?_
      refine L.off hF rfl rfl ?_
      refine L.pick hF rfl rfl rfl rfl ?_
      refine L.move hF rfl rfl rfl ?_
      refine L.off hF rfl rfl ?_
      refine L.off hF rfl rfl ?_
      refine L.off hF rfl rfl ?_
      refine L.pick hF rfl rfl rfl rfl ?_
      refine L.nil ?_
      exact ⟨_, ⟨k, a0, a1, a2, a3, r1.1, true, by omega, H, rfl⟩, Le.mk [(0, 5), (1, 6)] hm rfl ⟨⟨_, rfl, rfl⟩, ⟨_, rfl, rfl⟩, ⟨_, rfl, rfl⟩, ⟨_, rfl, rfl⟩, ⟨_, rfl, rfl⟩, ⟨_, rfl, rfl⟩, ⟨_, rfl, rfl⟩, trivial⟩ ⟨⟨_, rfl, rfl⟩, trivial⟩ ⟨⟨_, _, rfl, rfl, rfl⟩, trivial⟩⟩
    · replace H := condF hc H
      refine L.move hF rfl rfl rfl ?_
      obtain ⟨r54, hr54, H⟩ := bindS H
      refine L.call [false] [] [] 9 hF rfl rfl rfl ent145 rfl rfl rfl rfl rfl (Fimpl_isPrincipal_gives k  a1 r54 hr54) rfl ?_
      refine L.not hF rfl rfl rfl ?_
      refine L.pick hF rfl rfl rfl rfl ?_
      refine L.move hF rfl rfl rfl ?_
      refine L.split (fun hc => ?_) (fun hc => ?_)
      · replace H := condT hc H
        refine L.off hF rfl rfl ?_
        refine L.off hF rfl rfl ?_
        refine L.off hF rfl rfl ?_
        refine L.pick hF rfl rfl rfl rfl ?_
        refine L.nil ?_
        exact ⟨_, ⟨k, a0, a1, a2, a3, r1.1, true, by omega, H, rfl⟩, Le.mk [(0, 5), (1, 6)] hm rfl ⟨⟨_, rfl, rfl⟩, ⟨_, rfl, rfl⟩, ⟨_, rfl, rfl⟩, ⟨_, rfl, rfl⟩, ⟨_, rfl, rfl⟩, ⟨_, rfl, rfl⟩, ⟨_, rfl, rfl⟩, trivial⟩ ⟨⟨_, rfl, rfl⟩, trivial⟩ ⟨⟨_, _, rfl, rfl, rfl⟩, trivial⟩⟩
      · replace H := condF hc H
        refine L.move hF rfl rfl rfl ?_
        refine L.lenR (xs := r1.1) (e := eS) Try.underlying120 hF rfl rfl rfl rfl ?_
        refine L.bin hF rfl rfl rfl rfl rfl rfl ?_
        refine L.pick hF rfl rfl rfl rfl ?_
        refine L.nil ?_
        exact ⟨_, ⟨k, a0, a1, a2, a3, r1.1, ((r1.1.length : Int) != (3 : Int)), by omega, H, rfl⟩, Le.mk [(0, 5), (1, 6)] hm rfl ⟨⟨_, rfl, rfl⟩, ⟨_, rfl, rfl⟩, ⟨_, rfl, rfl⟩, ⟨_, rfl, rfl⟩, ⟨_, rfl, rfl⟩, ⟨_, rfl, rfl⟩, ⟨_, rfl, rfl⟩, trivial⟩ ⟨⟨_, rfl, rfl⟩, trivial⟩ ⟨⟨_, _, rfl, rfl, rfl⟩, trivial⟩⟩
/-! ### Flaws_eqRest -/
def Flaws_eqRest (k : Nat) (a0 : Timpl_Rest) (a1 : Timpl_Rest) : Option Bool := cond (a0.Servers != a1.Servers) (some false) (cond (a0.Ops != a1.Ops) (some false) (cond (a0.End != a1.End) (some false) (some true)))
theorem ent147 : Enters Try.prog 147 := ⟨Try.f147, Try.func147, rfl, by decide⟩
set_option maxHeartbeats 8000000 in
set_option maxRecDepth 100000 in
theorem Flaws_eqRest_gives (k : Nat) (a0 : Timpl_Rest) (a1 : Timpl_Rest) (r : Bool) (H : Flaws_eqRest k a0 a1 = some r) : Gives Try.prog 147 [V.agg [cI a0.Servers, cI a0.Ops, cI a0.End], V.agg [cI a1.Servers, cI a1.Ops, cI a1.End]] [] [V.one (cL r)] [] := by
  refine Gives.intro Try.func147 rfl rfl rfl rfl ?_
  intro F hF hm
  unfold Flaws_eqRest at H
  obtain ⟨K, hK⟩ : ∃ K, k ≤ K := ⟨k, Nat.le_refl k⟩
  refine WpC.seq ?_
  refine WpC.regionL ?_
  refine L.box 6 hF rfl rfl rfl rfl ?_
  refine L.box 7 hF rfl rfl rfl rfl ?_
  refine L.assign hF rfl rfl rfl ?_
  refine L.nil ?_
  refine WpC.seq ?_
  refine WpC.seq ?_
  refine WpC.regionL ?_
  refine L.fieldAddr Try.underlying74 rfl info3 rfl hF rfl rfl rfl rfl rfl ?_
  refine L.loadPtr shape3 hF rfl rfl rfl rfl rfl rfl ?_
  refine L.fieldAddr Try.underlying74 rfl info3 rfl hF rfl rfl rfl rfl rfl ?_
  refine L.loadPtr shape3 hF rfl rfl rfl rfl rfl rfl ?_
  refine L.bin hF rfl rfl rfl rfl rfl rfl ?_
  refine L.nil ?_
  refine WpC.cond rfl (fun hc => ?_) (fun hc => ?_)
  · replace H := condT hc H
    refine WpC.seq ?_
    refine WpC.regionL ?_
    refine L.assign hF rfl rfl rfl ?_
    refine L.nil ?_
    refine WpC.ret ?_
    cases H
    exact Leaves.ret rfl rfl rfl ⟨rfl, rfl⟩
  · replace H := condF hc H
    refine WpC.skip ?_
    refine WpC.seq ?_
    refine WpC.seq ?_
    refine WpC.regionL ?_
    refine L.fieldAddr Try.underlying74 rfl info3 rfl hF rfl rfl rfl rfl rfl ?_
    refine L.loadPtr shape3 hF rfl rfl rfl rfl rfl rfl ?_
    refine L.fieldAddr Try.underlying74 rfl info3 rfl hF rfl rfl rfl rfl rfl ?_
    refine L.loadPtr shape3 hF rfl rfl rfl rfl rfl rfl ?_
    refine L.bin hF rfl rfl rfl rfl rfl rfl ?_
    refine L.nil ?_
    refine WpC.cond rfl (fun hc => ?_) (fun hc => ?_)
    · replace H := condT hc H
      refine WpC.seq ?_
      refine WpC.regionL ?_
      refine L.assign hF rfl rfl rfl ?_
      refine L.nil ?_
      refine WpC.ret ?_
      cases H
      exact Leaves.ret rfl rfl rfl ⟨rfl, rfl⟩
    · replace H := condF hc H
      refine WpC.skip ?_
      refine WpC.seq ?_
      refine WpC.seq ?_
      refine WpC.regionL ?_
      refine L.fieldAddr Try.underlying74 rfl info3 rfl hF rfl rfl rfl rfl rfl ?_
      refine L.loadPtr shape3 hF rfl rfl rfl rfl rfl rfl ?_
      refine L.fieldAddr Try.underlying74 rfl info3 rfl hF rfl rfl rfl rfl rfl ?_
      refine L.loadPtr shape3 hF rfl rfl rfl rfl rfl rfl ?_
      refine L.bin hF rfl rfl rfl rfl rfl rfl ?_
      refine L.nil ?_
      refine WpC.cond rfl (fun hc => ?_) (fun hc => ?_)
      · replace H := condT hc H
        refine WpC.seq ?_
        refine WpC.regionL ?_
        refine L.assign hF rfl rfl rfl ?_
        refine L.nil ?_
        refine WpC.ret ?_
        cases H
        exact Leaves.ret rfl rfl rfl ⟨rfl, rfl⟩
      · replace H := condF hc H
        refine WpC.skip ?_
        refine WpC.seq ?_
        refine WpC.regionL ?_
        refine L.assign hF rfl rfl rfl ?_
        refine L.nil ?_
        refine WpC.ret ?_
        cases H
        exact Leaves.ret rfl rfl rfl ⟨rfl, rfl⟩
/-! ### Flaws_eqCred -/
def Flaws_eqCred (k : Nat) (a0 : Timpl_Cred) (a1 : Timpl_Cred) : Option Bool := cond (a0.Owner != a1.Owner) (some false) (cond (a0.Client != a1.Client) (some false) (cond (a0.Service != a1.Service) (some false) (cond (a0.Key != a1.Key) (some false) ((Flaws_eqRest k (⟨a0.Rest.Servers, a0.Rest.Ops, a0.Rest.End⟩ : Timpl_Rest) (⟨a1.Rest.Servers, a1.Rest.Ops, a1.Rest.End⟩ : Timpl_Rest)).bind fun r2 => cond (!r2) (some false) (cond (a0.Ticket != a1.Ticket) (some false) (some true))))))
theorem ent68 : Enters Try.prog 68 := ⟨Try.f68, Try.func68, rfl, by decide⟩
set_option maxHeartbeats 8000000 in
set_option maxRecDepth 100000 in
theorem Flaws_eqCred_gives (k : Nat) (a0 : Timpl_Cred) (a1 : Timpl_Cred) (r : Bool) (H : Flaws_eqCred k a0 a1 = some r) : Gives Try.prog 68 [V.agg [cI a0.Owner, cI a0.Client, cI a0.Service, cI a0.Key, cI a0.Rest.Servers, cI a0.Rest.Ops, cI a0.Rest.End, cS a0.Ticket], V.agg [cI a1.Owner, cI a1.Client, cI a1.Service, cI a1.Key, cI a1.Rest.Servers, cI a1.Rest.Ops, cI a1.Rest.End, cS a1.Ticket]] [] [V.one (cL r)] [] := by
  refine Gives.intro Try.func68 rfl rfl rfl rfl ?_
  intro F hF hm
  unfold Flaws_eqCred at H
  obtain ⟨K, hK⟩ : ∃ K, k ≤ K := ⟨k, Nat.le_refl k⟩
  refine WpC.seq ?_
  refine WpC.regionL ?_
  refine L.box 16 hF rfl rfl rfl rfl ?_
  refine L.box 17 hF rfl rfl rfl rfl ?_
  refine L.assign hF rfl rfl rfl ?_
  refine L.nil ?_
  refine WpC.seq ?_
  refine WpC.seq ?_
  refine WpC.regionL ?_
  refine L.fieldAddr Try.underlying76 rfl info3 rfl hF rfl rfl rfl rfl rfl ?_
  refine L.loadPtr shape3 hF rfl rfl rfl rfl rfl rfl ?_
  refine L.fieldAddr Try.underlying76 rfl info3 rfl hF rfl rfl rfl rfl rfl ?_
  refine L.loadPtr shape3 hF rfl rfl rfl rfl rfl rfl ?_
  refine L.bin hF rfl rfl rfl rfl rfl rfl ?_
  refine L.nil ?_
  refine WpC.cond rfl (fun hc => ?_) (fun hc => ?_)
  · replace H := condT hc H
    refine WpC.seq ?_
    refine WpC.regionL ?_
    refine L.assign hF rfl rfl rfl ?_
    refine L.nil ?_
    refine WpC.ret ?_
    cases H
    exact Leaves.ret rfl rfl rfl ⟨rfl, rfl⟩
  · replace H := condF hc H
    refine WpC.skip ?_
    refine WpC.seq ?_
    refine WpC.seq ?_
    refine WpC.regionL ?_
    refine L.fieldAddr Try.underlying76 rfl info3 rfl hF rfl rfl rfl rfl rfl ?_
    refine L.loadPtr shape3 hF rfl rfl rfl rfl rfl rfl ?_
    refine L.fieldAddr Try.underlying76 rfl info3 rfl hF rfl rfl rfl rfl rfl ?_
    refine L.loadPtr shape3 hF rfl rfl rfl rfl rfl rfl ?_
    refine L.bin hF rfl rfl rfl rfl rfl rfl ?_
    refine L.nil ?_
    refine WpC.cond rfl (fun hc => ?_) (fun hc => ?_)
    · replace H := condT hc H
      refine WpC.seq ?_
      refine WpC.regionL ?_
      refine L.assign hF rfl rfl rfl ?_
      refine L.nil ?_
      refine WpC.ret ?_
      cases H
      exact Leaves.ret rfl rfl rfl ⟨rfl, rfl⟩
    · replace H := condF hc H
      refine WpC.skip ?_
      refine WpC.seq ?_
      refine WpC.seq ?_
      refine WpC.regionL ?_
      refine L.fieldAddr Try.underlying76 rfl info3 rfl hF rfl rfl rfl rfl rfl ?_
      refine L.loadPtr shape3 hF rfl rfl rfl rfl rfl rfl ?_
      refine L.fieldAddr Try.underlying76 rfl info3 rfl hF rfl rfl rfl rfl rfl ?_
      refine L.loadPtr shape3 hF rfl rfl rfl rfl rfl rfl ?_
      refine L.bin hF rfl rfl rfl rfl rfl rfl ?_
      refine L.nil ?_
      refine WpC.cond rfl (fun hc => ?_) (fun hc => ?_)
      · replace H := condT hc H
        refine WpC.seq ?_
        refine WpC.regionL ?_
        refine L.assign hF rfl rfl rfl ?_
        refine L.nil ?_
        refine WpC.ret ?_
        cases H
        exact Leaves.ret rfl rfl rfl ⟨rfl, rfl⟩
      · replace H := condF hc H
        refine WpC.skip ?_
        refine WpC.seq ?_
        refine WpC.seq ?_
        refine WpC.regionL ?_
        refine L.fieldAddr Try.underlying76 rfl info3 rfl hF rfl rfl rfl rfl rfl ?_
        refine L.loadPtr shape3 hF rfl rfl rfl rfl rfl rfl ?_
        refine L.fieldAddr Try.underlying76 rfl info3 rfl hF rfl rfl rfl rfl rfl ?_
        refine L.loadPtr shape3 hF rfl rfl rfl rfl rfl rfl ?_
        refine L.bin hF rfl rfl rfl rfl rfl rfl ?_
        refine L.nil ?_
        refine WpC.cond rfl (fun hc => ?_) (fun hc => ?_)
        · replace H := condT hc H
          refine WpC.seq ?_
          refine WpC.regionL ?_
          refine L.assign hF rfl rfl rfl ?_
          refine L.nil ?_
          refine WpC.ret ?_
          cases H
          exact Leaves.ret rfl rfl rfl ⟨rfl, rfl⟩
        · replace H := condF hc H
          refine WpC.skip ?_
          refine WpC.seq ?_
          refine WpC.seq ?_
          refine WpC.regionL ?_
          refine L.fieldAddr Try.underlying76 rfl info74 rfl hF rfl rfl rfl rfl rfl ?_
          refine L.loadPtr shape74 hF rfl rfl rfl rfl rfl rfl ?_
          refine L.fieldAddr Try.underlying76 rfl info74 rfl hF rfl rfl rfl rfl rfl ?_
          refine L.loadPtr shape74 hF rfl rfl rfl rfl rfl rfl ?_
          obtain ⟨r2, hr2, H⟩ := bindS H
          refine L.call [false, false] [] [] 18 hF rfl rfl rfl ent147 rfl rfl rfl rfl rfl (Flaws_eqRest_gives k  (⟨a0.Rest.Servers, a0.Rest.Ops, a0.Rest.End⟩ : Timpl_Rest) (⟨a1.Rest.Servers, a1.Rest.Ops, a1.Rest.End⟩ : Timpl_Rest) r2 hr2) rfl ?_
          refine L.not hF rfl rfl rfl ?_
          refine L.nil ?_
          refine WpC.cond rfl (fun hc => ?_) (fun hc => ?_)
          · replace H := condT hc H
            refine WpC.seq ?_
            refine WpC.regionL ?_
            refine L.assign hF rfl rfl rfl ?_
            refine L.nil ?_
            refine WpC.ret ?_
            cases H
            exact Leaves.ret rfl rfl rfl ⟨rfl, rfl⟩
          · replace H := condF hc H
            refine WpC.skip ?_
            refine WpC.seq ?_
            refine WpC.seq ?_
            refine WpC.regionL ?_
            refine L.fieldAddr Try.underlying76 rfl info9 rfl hF rfl rfl rfl rfl rfl ?_
            refine L.loadPtr shape9 hF rfl rfl rfl rfl rfl rfl ?_
            refine L.fieldAddr Try.underlying76 rfl info9 rfl hF rfl rfl rfl rfl rfl ?_
            refine L.loadPtr shape9 hF rfl rfl rfl rfl rfl rfl ?_
            refine L.binS hF rfl rfl rfl rfl rfl ?_
            refine L.nil ?_
            refine WpC.cond rfl (fun hc => ?_) (fun hc => ?_)
            · replace H := condT hc H
              refine WpC.seq ?_
              refine WpC.regionL ?_
              refine L.assign hF rfl rfl rfl ?_
              refine L.nil ?_
              refine WpC.ret ?_
              cases H
              exact Leaves.ret rfl rfl rfl ⟨rfl, rfl⟩
            · replace H := condF hc H
              refine WpC.skip ?_
              refine WpC.seq ?_
              refine WpC.regionL ?_
              refine L.assign hF rfl rfl rfl ?_
              refine L.nil ?_
              refine WpC.ret ?_
              cases H
              exact Leaves.ret rfl rfl rfl ⟨rfl, rfl⟩
/-! ### Flaws_FnExactTakeReply -/
def Flaws_FnExactTakeReply (k : Nat) (a0 : Int) (a1 : Int) (a2 : Int) (a3 : Int) (a4 : List UInt8) : Option Bool := cond (decide ((a4.length : Int) > (1048576 : Int))) (some true) ((Fspec_TakeReply k a0 a1 a2 a3 a4).bind fun r1 => (Fimpl_TakeReply k a0 a1 a2 a3 a4).bind fun r2 => (Flaws_eqCred k r2.1 r1.1).bind fun r6 => cond (!r6) (some false) (cond (r2.2 != r1.2) (some false) (some true)))
theorem ent14 : Enters Try.prog 14 := ⟨Try.f14, Try.func14, rfl, by decide⟩
set_option maxHeartbeats 8000000 in
set_option maxRecDepth 100000 in
theorem Flaws_FnExactTakeReply_gives (k : Nat) (a0 : Int) (a1 : Int) (a2 : Int) (a3 : Int) (a4 : List UInt8) (r : Bool) (H : Flaws_FnExactTakeReply k a0 a1 a2 a3 a4 = some r) : Gives Try.prog 14 [V.one (cI a0), V.one (cI a1), V.one (cI a2), V.one (cI a3), V.one (cS a4)] [] [V.one (cL r)] [] := by
  refine Gives.intro Try.func14 rfl rfl rfl rfl ?_
  intro F hF hm
  unfold Flaws_FnExactTakeReply at H
  obtain ⟨K, hK⟩ : ∃ K, k ≤ K := ⟨k, Nat.le_refl k⟩
  refine WpC.seq ?_
  refine WpC.regionL ?_
  refine L.assign hF rfl rfl rfl ?_
  refine L.nil ?_
  refine WpC.seq ?_
  refine WpC.seq ?_
  refine WpC.regionL ?_
  refine L.move hF rfl rfl rfl ?_
  refine L.lenS Try.underlying9 hF rfl rfl rfl ?_
  refine L.bin hF rfl rfl rfl rfl rfl rfl ?_
  refine L.nil ?_
  refine WpC.cond rfl (fun hc => ?_) (fun hc => ?_)
  · replace H := condT hc H
    refine WpC.seq ?_
    refine WpC.regionL ?_
    refine L.assign hF rfl rfl rfl ?_
    refine L.nil ?_
    refine WpC.ret ?_
    cases H
    exact Leaves.ret rfl rfl rfl ⟨rfl, rfl⟩
  · replace H := condF hc H
    refine WpC.skip ?_
    refine WpC.seq ?_
    refine WpC.regionL ?_
    refine L.move hF rfl rfl rfl ?_
    refine L.move hF rfl rfl rfl ?_
    refine L.move hF rfl rfl rfl ?_
    refine L.move hF rfl rfl rfl ?_
    refine L.move hF rfl rfl rfl ?_
    obtain ⟨r1, hr1, H⟩ := bindS H
    refine L.call [false, false, false, false, false] [] [] 5 hF rfl rfl rfl ent66 rfl rfl rfl rfl rfl (Fspec_TakeReply_gives k  a0 a1 a2 a3 a4 r1 hr1) rfl ?_
    refine L.move hF rfl rfl rfl ?_
    refine L.extract hF rfl rfl rfl rfl ?_
    refine L.extract hF rfl rfl rfl rfl ?_
    refine L.alloc 14 info76 rfl hF rfl rfl rfl rfl ?_
    refine L.storePtr shape76 hF rfl rfl rfl rfl rfl rfl rfl ?_
    refine L.assign hF rfl rfl rfl ?_
    refine L.nil ?_
    refine WpC.seq ?_
    refine WpC.regionL ?_
    refine L.move hF rfl rfl rfl ?_
    refine L.move hF rfl rfl rfl ?_
    refine L.move hF rfl rfl rfl ?_
    refine L.move hF rfl rfl rfl ?_
    refine L.move hF rfl rfl rfl ?_
    obtain ⟨r2, hr2, H⟩ := bindS H
    refine L.call [false, false, false, false, false] [] [] 15 hF rfl rfl rfl ent67 rfl rfl rfl rfl rfl (Fimpl_TakeReply_gives k  a0 a1 a2 a3 a4 r2 hr2) rfl ?_
    refine L.move hF rfl rfl rfl ?_
    refine L.extract hF rfl rfl rfl rfl ?_
    refine L.extract hF rfl rfl rfl rfl ?_
    refine L.alloc 24 info76 rfl hF rfl rfl rfl rfl ?_
    refine L.storePtr shape76 hF rfl rfl rfl rfl rfl rfl rfl ?_
    refine L.assign hF rfl rfl rfl ?_
    refine L.nil ?_
    refine WpC.seq ?_
    refine WpC.seq ?_
    refine WpC.regionL ?_
    refine L.loadPtr shape76 hF rfl rfl rfl rfl rfl rfl ?_
    refine L.loadPtr shape76 hF rfl rfl rfl rfl rfl rfl ?_
    obtain ⟨r6, hr6, H⟩ := bindS H
    refine L.call [false, false] [] [] 25 hF rfl rfl rfl ent68 rfl rfl rfl rfl rfl (Flaws_eqCred_gives k  r2.1 r1.1 r6 hr6) rfl ?_
    refine L.not hF rfl rfl rfl ?_
    refine L.move hF rfl rfl rfl ?_
    refine L.split (fun hc => ?_) (fun hc => ?_)
    · replace H := condT hc H
      refine L.off hF rfl rfl ?_
      refine L.off hF rfl rfl ?_
      refine L.off hF rfl rfl ?_
      refine L.pick hF rfl rfl rfl rfl ?_
      refine L.nil ?_
      refine WpC.cond rfl (fun _ => ?_) (fun hc => by cases hc)
      refine WpC.seq ?_
      refine WpC.regionL ?_
      refine L.assign hF rfl rfl rfl ?_
      refine L.nil ?_
      refine WpC.ret ?_
      cases H
      exact Leaves.ret rfl rfl rfl ⟨rfl, rfl⟩
    · replace H := condF hc H
      refine L.move hF rfl rfl rfl ?_
      refine L.move hF rfl rfl rfl ?_
      refine L.neL Try.underlying4 hF rfl rfl rfl rfl ?_
      refine L.pick hF rfl rfl rfl rfl ?_
      refine L.nil ?_
      refine WpC.cond rfl (fun hc => ?_) (fun hc => ?_)
      · replace H := condT hc H
        refine WpC.seq ?_
        refine WpC.regionL ?_
        refine L.assign hF rfl rfl rfl ?_
        refine L.nil ?_
        refine WpC.ret ?_
        cases H
        exact Leaves.ret rfl rfl rfl ⟨rfl, rfl⟩
      · replace H := condF hc H
        refine WpC.skip ?_
        refine WpC.seq ?_
        refine WpC.regionL ?_
        refine L.assign hF rfl rfl rfl ?_
        refine L.nil ?_
        refine WpC.ret ?_
        cases H
        exact Leaves.ret rfl rfl rfl ⟨rfl, rfl⟩
end Go.Proofs.Ytcolcmjcjpikcaa.M
