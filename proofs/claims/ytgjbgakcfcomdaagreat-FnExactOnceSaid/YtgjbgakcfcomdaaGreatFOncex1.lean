import Derived.Test.YtgjbgakcfcomdaaGreatFOncex0
import Derived.Test.YtgjbgakcfcomdaaGreatProg
namespace Go.Proofs.YtgjbgakcfcomdaaGreat.M
open Go Go.MG
set_option linter.unusedVariables false
set_option linter.unusedSimpArgs false
/-! ### Fspec_l6Pairs -/
def Fspec_l6Pairs.j8 (cl7 : (List Timpl_Pair) → Int → Bool → Int → Option Bool) (k : Nat) (v140 : List Timpl_Pair) (v141 : Int) (v142 : Bool) (v143 : Int) : Option Bool := cl7 v140 v141 v142 (IntKind.i64.wrap (v143 + (1 : Int)))
def Fspec_l6Pairs.l7 : Nat → (List Timpl_Pair) → Int → Bool → Int → Option Bool
 | 0, _, _, _, _ => none
 | k7 + 1, v127, v128, v129, v130 => cond (decide (v130 < (v127.length : Int))) ((at? v127 v130).bind fun b144 => cond (decide (b144.A < (0 : Int))) (some false) (cond (decide (b144.A ≥ v128)) (some false) (cond (decide (b144.B < (0 : Int))) (some false) (cond (decide (b144.B ≥ v128)) (some false) (cond v129 (cond (b144.A == b144.B) (some false) ((part? v127 (0 : Int) v130).bind fun b155 => (Fspec_l6Has k7 b155 b144).bind fun r156 => cond r156 (some false) (Fspec_l6Pairs.j8 (Fspec_l6Pairs.l7 k7) k7 v127 v128 v129 v130))) ((part? v127 (0 : Int) v130).bind fun b157 => (Fspec_l6Has k7 b157 b144).bind fun r158 => cond r158 (some false) (Fspec_l6Pairs.j8 (Fspec_l6Pairs.l7 k7) k7 v127 v128 v129 v130))))))) (some true)
def Fspec_l6Pairs (k : Nat) (a0 : List Timpl_Pair) (a1 : Int) (a2 : Bool) : Option Bool := cond (decide ((a0.length : Int) > (6 : Int))) (some false) (Fspec_l6Pairs.l7 k a0 a1 a2 (0 : Int))
theorem ent149 : MG.Enters Tryz.prog 149 := ⟨Tryz.f149, Tryz.func149, rfl, by decide⟩
set_option maxHeartbeats 8000000 in
set_option maxRecDepth 100000 in
theorem Fspec_l6Pairs_gives (k : Nat) (g0 : Bool) (a0 : List Timpl_Pair) (a1 : Int) (a2 : Bool) (r : Bool) (H : Fspec_l6Pairs k a0 a1 a2 = some r) : Gives Tryz.prog 149 [V.one (Cell.sl g0 (List.map eTimpl_Pair a0)), V.one (cI a1), V.one (cL a2)] [] [V.one (cL r)] [] := by
 refine Gives.intro Tryz.func149 rfl rfl rfl rfl ?_
 intro F hF hm
 unfold Fspec_l6Pairs at H
 obtain ⟨K, hK⟩ : ∃ K, k ≤ K := ⟨k, Nat.le_refl k⟩
 refine WpC.seq (WpC.regionL ?_)
 refine L.assign hF rfl rfl rfl (L.nil ?_)
 refine WpC.seq (WpC.seq (WpC.regionL ?_))
 refine L.move hF rfl rfl rfl ?_
 refine L.lenR (xs := a0) (e := eTimpl_Pair) Tryz.underlying42 hF rfl rfl rfl rfl ?_
 refine L.bin hF rfl rfl rfl rfl rfl rfl (L.nil ?_)
 refine WpC.cond rfl (fun hc => ?_) (fun hc => ?_)
 ·replace H := condT hc H
  refine WpC.seq (WpC.regionL ?_)
  refine L.assign hF rfl rfl rfl (L.nil ?_)
  refine WpC.ret ?_
  cases H
  exact Leaves.ret rfl rfl rfl ⟨rfl, rfl⟩
 ·replace H := condF hc H
  refine WpC.skip (WpC.seq (WpC.seq (WpC.regionL ?_)))
  refine L.assign hF rfl rfl rfl (L.nil ?_)
  refine WpC.block ?_
  refine WpC.loopL (P := Tryz.prog) (fun n σ => ∃ v127 : List Timpl_Pair, ∃ v128 : Int, ∃ v129 : Bool, ∃ v130 : Int, n ≤ K ∧ Fspec_l6Pairs.l7 n v127 v128 v129 v130 = some r ∧ σ = mkSt [(0, one (Cell.sl g0 (List.map eTimpl_Pair v127))), (1, one (cI v128)), (2, one (cL v129)), (7, one (cI v130))] [] [] 0) k ⟨_, ⟨a0, a1, a2, (0 : Int), by omega, H, rfl⟩, Le.mk [] hm rfl (Sa4 trivial) trivial trivial⟩ ?_
  clear H
  rintro k7 _ ⟨v127, v128, v129, v130, hk7, H, rfl⟩
  cases k7 with
  | zero => cases H
  | succ k7 =>
   rw [Fspec_l6Pairs.l7] at H
   refine WpC.seq (WpC.seq (WpC.regionL ?_))
   refine L.move hF rfl rfl rfl ?_
   refine L.move hF rfl rfl rfl ?_
   refine L.lenR (xs := v127) (e := eTimpl_Pair) Tryz.underlying42 hF rfl rfl rfl rfl ?_
   refine L.bin hF rfl rfl rfl rfl rfl rfl (L.nil ?_)
   refine WpC.cond rfl (fun hc => ?_) (fun hc => ?_)
   ·replace H := condT hc H
    refine WpC.skip ?_
    refine WpC.join (fun σ => ∃ kj8 : Nat, ∃ v140 : List Timpl_Pair, ∃ v141 : Int, ∃ v142 : Bool, ∃ v143 : Int, kj8 ≤ K ∧ Fspec_l6Pairs.j8 (Fspec_l6Pairs.l7 k7) kj8 v140 v141 v142 v143 = some r ∧ σ = mkSt [(0, one (Cell.sl g0 (List.map eTimpl_Pair v140))), (1, one (cI v141)), (2, one (cL v142)), (7, one (cI v143))] [] [] 0) ?_ ?_
    ·rintro _ ⟨kj8, v140, v141, v142, v143, hkj8, H, rfl⟩
     unfold Fspec_l6Pairs.j8 at H
     refine WpC.regionL ?_
     refine L.move hF rfl rfl rfl ?_
     refine L.bin hF rfl rfl rfl rfl rfl rfl ?_
     refine L.assign hF rfl rfl rfl (L.nil ?_)
     exact ⟨k7, _, by omega, ⟨v140, v141, v142, (IntKind.i64.wrap (v143 + (1 : Int))), by omega, H, rfl⟩, Le.mk [] hm rfl (Sa4 trivial) trivial trivial⟩
    ·refine WpC.block (WpC.seq (WpC.regionL ?_))
     refine L.move hF rfl rfl rfl ?_
     refine L.move hF rfl rfl rfl ?_
     obtain ⟨b144, hb144, H⟩ := bindS H
     refine L.idxR (xs := v127) (e := eTimpl_Pair) Tryz.underlying42 info199 hF rfl rfl rfl rfl rfl hb144 rfl rfl ?_
     refine L.loadPe shape199 hF rfl rfl rfl rfl rfl ?_
     refine L.alloc 0 info199 rfl hF rfl rfl rfl rfl ?_
     refine L.storePtr shape199 hF rfl rfl rfl rfl rfl rfl rfl (L.nil ?_)
     refine WpC.seq ?_
     rcases Bool.eq_false_or_eq_true ((decide (b144.A < (0 : Int)))) with hc149 | hc149
     ·replace H := condT hc149 H
      refine A.begin mixed rfl rfl ?_
      intro W hI hO
      refine hI _ _ _ ?_
      refine Atk 0 rfl (Ca.fieldAddr Tryz.underlying199 rfl info3 rfl) (fun Q0 k0 => L.fieldAddr Tryz.underlying199 rfl info3 rfl hF rfl rfl rfl rfl rfl (L.nil k0)) ?_
      refine A.all [1] (by kernel_rfl) rfl ⟨⟨_, rfl, ?_⟩, trivial⟩
      refine L.loadPtr shape3 hF rfl rfl rfl rfl rfl rfl (L.nil ?_)
      refine Atk 2 rfl (Ca.bin rfl rfl (calm_int _ _ _ _ _ _ _ _)) (fun Q0 k0 => L.bin hF rfl rfl rfl rfl rfl rfl (L.nil k0)) ?_
      refine Atk 3 rfl (Ca.move) (fun Q0 k0 => L.move hF rfl rfl rfl (L.nil k0)) ?_
      refine A.le (τ := mkSt [(0, one (Cell.sl g0 (List.map eTimpl_Pair v127))), (1, one (cI v128)), (2, one (cL v129)), (7, one (cI v130)), (8, one (Cell.ptr 0 0)), (25, one (cL true))] [] [(0, [cI b144.A, cI b144.B])] 1) (Le.mk [(0, 0)] hm rfl (Sa4 (Sa1 (Sa1 trivial rfl (congrArg (fun b => some (one (cL b))) hc149)))) trivial (Ba1 trivial)) ?_
      refine Aof 4 rfl hF ?_
      refine Aof 5 rfl hF ?_
      refine Aof 6 rfl hF ?_
      refine Aof 7 rfl hF ?_
      refine Atk 8 rfl (Ca.pick) (fun Q0 k0 => L.pick hF rfl rfl rfl rfl (L.nil k0)) ?_
      refine Atk 9 rfl (Ca.move) (fun Q0 k0 => L.move hF rfl rfl rfl (L.nil k0)) ?_
      refine Aof 10 rfl hF ?_
      refine Aof 11 rfl hF ?_
      refine Aof 12 rfl hF ?_
      refine Atk 13 rfl (Ca.pick) (fun Q0 k0 => L.pick hF rfl rfl rfl rfl (L.nil k0)) ?_
      refine A.le (τ := mkSt [(0, one (Cell.sl g0 (List.map eTimpl_Pair v127))), (1, one (cI v128)), (2, one (cL v129)), (7, one (cI v130)), (8, one (Cell.ptr 0 0)), (35, one (cL true))] [] [(0, [cI b144.A, cI b144.B])] 1) (Le.mk [(0, 0)] hm rfl (Sa4 (Sa2 trivial)) trivial (Ba1 trivial)) ?_
      refine Atk 14 rfl (Ca.move) (fun Q0 k0 => L.move hF rfl rfl rfl (L.nil k0)) ?_
      refine Aof 15 rfl hF ?_
      refine Aof 16 rfl hF ?_
      refine Aof 17 rfl hF ?_
      refine Aof 18 rfl hF ?_
      refine Atk 19 rfl (Ca.pick) (fun Q0 k0 => L.pick hF rfl rfl rfl rfl (L.nil k0)) ?_
      refine Atk 20 rfl (Ca.move) (fun Q0 k0 => L.move hF rfl rfl rfl (L.nil k0)) ?_
      refine Aof 21 rfl hF ?_
      refine Aof 22 rfl hF ?_
      refine Aof 23 rfl hF ?_
      refine A.le (τ := mkSt [(0, one (Cell.sl g0 (List.map eTimpl_Pair v127))), (1, one (cI v128)), (2, one (cL v129)), (7, one (cI v130)), (8, one (Cell.ptr 0 0)), (42, one (cL true)), (44, Slot.tup []), (45, Slot.tup [])] [] [(0, [cI b144.A, cI b144.B])] 1) (Le.mk [(0, 0)] hm rfl (Sa8 trivial) trivial (Ba1 trivial)) ?_
      refine Aof 24 rfl hF ?_
      refine Aof 25 rfl hF ?_
      refine Aof 26 rfl hF ?_
      refine Aof 27 rfl hF ?_
      refine Aof 28 rfl hF ?_
      refine Atk 29 rfl (Ca.pick) (fun Q0 k0 => L.pick hF rfl rfl rfl rfl (L.nil k0)) ?_
      refine Atk 30 rfl (Ca.move) (fun Q0 k0 => L.move hF rfl rfl rfl (L.nil k0)) ?_
      refine Aof 31 rfl hF ?_
      refine Aof 32 rfl hF ?_
      refine Aof 33 rfl hF ?_
      refine A.le (τ := mkSt [(0, one (Cell.sl g0 (List.map eTimpl_Pair v127))), (1, one (cI v128)), (2, one (cL v129)), (7, one (cI v130)), (8, one (Cell.ptr 0 0)), (52, one (cL true)), (55, Slot.tup [])] [] [(0, [cI b144.A, cI b144.B])] 1) (Le.mk [(0, 0)] hm rfl (Sa4 (Sa2 (Sa1 trivial))) trivial (Ba1 trivial)) ?_
      refine Aof 34 rfl hF ?_
      refine A.all [35] (by kernel_rfl) rfl ⟨⟨_, rfl, ?_⟩, trivial⟩
      refine L.off hF rfl rfl (L.nil ?_)
      refine Atk 36 rfl (Ca.pick) (fun Q0 k0 => L.pick hF rfl rfl rfl rfl (L.nil k0)) ?_
      refine A.le (τ := mkSt [(0, one (Cell.sl g0 (List.map eTimpl_Pair v127))), (1, one (cI v128)), (2, one (cL v129)), (7, one (cI v130)), (58, one (cL true))] [] [] 0) (Le.mk [] hm rfl (Sa4 (Sa1 trivial)) trivial trivial) ?_
      refine A.done (by kernel_rfl) ?_
      refine WpC.cond rfl (fun _ => ?_) (fun hc => by cases hc)
      refine WpC.seq (WpC.regionL ?_)
      refine L.assign hF rfl rfl rfl (L.nil ?_)
      refine WpC.ret ?_
      cases H
      exact Leaves.ret rfl rfl rfl ⟨rfl, rfl⟩
     ·replace H := condF hc149 H
      rcases Bool.eq_false_or_eq_true ((decide (b144.A ≥ v128))) with hc150 | hc150
      ·replace H := condT hc150 H
       refine A.begin mixed rfl rfl ?_
       intro W hI hO
       refine hI _ _ _ ?_
       refine Atk 0 rfl (Ca.fieldAddr Tryz.underlying199 rfl info3 rfl) (fun Q0 k0 => L.fieldAddr Tryz.underlying199 rfl info3 rfl hF rfl rfl rfl rfl rfl (L.nil k0)) ?_
       refine A.all [1] (by kernel_rfl) rfl ⟨⟨_, rfl, ?_⟩, trivial⟩
       refine L.loadPtr shape3 hF rfl rfl rfl rfl rfl rfl (L.nil ?_)
       refine Atk 2 rfl (Ca.bin rfl rfl (calm_int _ _ _ _ _ _ _ _)) (fun Q0 k0 => L.bin hF rfl rfl rfl rfl rfl rfl (L.nil k0)) ?_
       refine Atk 3 rfl (Ca.move) (fun Q0 k0 => L.move hF rfl rfl rfl (L.nil k0)) ?_
       refine A.le (τ := mkSt [(0, one (Cell.sl g0 (List.map eTimpl_Pair v127))), (1, one (cI v128)), (2, one (cL v129)), (7, one (cI v130)), (8, one (Cell.ptr 0 0)), (25, one (cL false))] [] [(0, [cI b144.A, cI b144.B])] 1) (Le.mk [(0, 0)] hm rfl (Sa4 (Sa1 (Sa1 trivial rfl (congrArg (fun b => some (one (cL b))) hc149)))) trivial (Ba1 trivial)) ?_
       refine Atk 4 rfl (Ca.fieldAddr Tryz.underlying199 rfl info3 rfl) (fun Q0 k0 => L.fieldAddr Tryz.underlying199 rfl info3 rfl hF rfl rfl rfl rfl rfl (L.nil k0)) ?_
       refine Atk 6 rfl (Ca.move) (fun Q0 k0 => L.move hF rfl rfl rfl (L.nil k0)) ?_
       refine A.all [5] (by kernel_rfl) rfl ⟨⟨_, rfl, ?_⟩, trivial⟩
       refine L.loadPtr shape3 hF rfl rfl rfl rfl rfl rfl (L.nil ?_)
       refine Atk 7 rfl (Ca.bin rfl rfl (calm_int _ _ _ _ _ _ _ _)) (fun Q0 k0 => L.bin hF rfl rfl rfl rfl rfl rfl (L.nil k0)) ?_
       refine Atk 8 rfl (Ca.pick) (fun Q0 k0 => L.pick hF rfl rfl rfl rfl (L.nil k0)) ?_
       refine Atk 9 rfl (Ca.move) (fun Q0 k0 => L.move hF rfl rfl rfl (L.nil k0)) ?_
       refine A.le (τ := mkSt [(0, one (Cell.sl g0 (List.map eTimpl_Pair v127))), (1, one (cI v128)), (2, one (cL v129)), (7, one (cI v130)), (8, one (Cell.ptr 0 0)), (31, one (cL true))] [] [(0, [cI b144.A, cI b144.B])] 1) (Le.mk [(0, 0)] hm rfl (Sa4 (Sa1 (Sa1 trivial rfl (congrArg (fun b => some (one (cL b))) hc150)))) trivial (Ba1 trivial)) ?_
       refine Aof 10 rfl hF ?_
       refine Aof 11 rfl hF ?_
       refine Aof 12 rfl hF ?_
       refine Atk 13 rfl (Ca.pick) (fun Q0 k0 => L.pick hF rfl rfl rfl rfl (L.nil k0)) ?_
       refine Atk 14 rfl (Ca.move) (fun Q0 k0 => L.move hF rfl rfl rfl (L.nil k0)) ?_
       refine Aof 15 rfl hF ?_
       refine Aof 16 rfl hF ?_
       refine Aof 17 rfl hF ?_
       refine Aof 18 rfl hF ?_
       refine Atk 19 rfl (Ca.pick) (fun Q0 k0 => L.pick hF rfl rfl rfl rfl (L.nil k0)) ?_
       refine A.le (τ := mkSt [(0, one (Cell.sl g0 (List.map eTimpl_Pair v127))), (1, one (cI v128)), (2, one (cL v129)), (7, one (cI v130)), (8, one (Cell.ptr 0 0)), (41, one (cL true))] [] [(0, [cI b144.A, cI b144.B])] 1) (Le.mk [(0, 0)] hm rfl (Sa4 (Sa2 trivial)) trivial (Ba1 trivial)) ?_
       refine Atk 20 rfl (Ca.move) (fun Q0 k0 => L.move hF rfl rfl rfl (L.nil k0)) ?_
       refine Aof 21 rfl hF ?_
       refine Aof 22 rfl hF ?_
       refine Aof 23 rfl hF ?_
       refine Aof 24 rfl hF ?_
       refine Aof 25 rfl hF ?_
       refine Aof 26 rfl hF ?_
       refine Aof 27 rfl hF ?_
       refine Aof 28 rfl hF ?_
       refine Atk 29 rfl (Ca.pick) (fun Q0 k0 => L.pick hF rfl rfl rfl rfl (L.nil k0)) ?_
       refine A.le (τ := mkSt [(0, one (Cell.sl g0 (List.map eTimpl_Pair v127))), (1, one (cI v128)), (2, one (cL v129)), (7, one (cI v130)), (8, one (Cell.ptr 0 0)), (51, one (cL true))] [] [(0, [cI b144.A, cI b144.B])] 1) (Le.mk [(0, 0)] hm rfl (Sa4 (Sa2 trivial)) trivial (Ba1 trivial)) ?_
       refine Atk 30 rfl (Ca.move) (fun Q0 k0 => L.move hF rfl rfl rfl (L.nil k0)) ?_
       refine Aof 31 rfl hF ?_
       refine Aof 32 rfl hF ?_
       refine Aof 33 rfl hF ?_
       refine Aof 34 rfl hF ?_
       refine A.all [35] (by kernel_rfl) rfl ⟨⟨_, rfl, ?_⟩, trivial⟩
       refine L.off hF rfl rfl (L.nil ?_)
       refine Atk 36 rfl (Ca.pick) (fun Q0 k0 => L.pick hF rfl rfl rfl rfl (L.nil k0)) ?_
       refine A.le (τ := mkSt [(0, one (Cell.sl g0 (List.map eTimpl_Pair v127))), (1, one (cI v128)), (2, one (cL v129)), (7, one (cI v130)), (58, one (cL true))] [] [] 0) (Le.mk [] hm rfl (Sa4 (Sa1 trivial)) trivial trivial) ?_
       refine A.done (by kernel_rfl) ?_
       refine WpC.cond rfl (fun _ => ?_) (fun hc => by cases hc)
       refine WpC.seq (WpC.regionL ?_)
       refine L.assign hF rfl rfl rfl (L.nil ?_)
       refine WpC.ret ?_
       cases H
       exact Leaves.ret rfl rfl rfl ⟨rfl, rfl⟩
      ·replace H := condF hc150 H
       rcases Bool.eq_false_or_eq_true ((decide (b144.B < (0 : Int)))) with hc151 | hc151
       ·replace H := condT hc151 H
        refine A.begin mixed rfl rfl ?_
        intro W hI hO
        refine hI _ _ _ ?_
        refine Atk 0 rfl (Ca.fieldAddr Tryz.underlying199 rfl info3 rfl) (fun Q0 k0 => L.fieldAddr Tryz.underlying199 rfl info3 rfl hF rfl rfl rfl rfl rfl (L.nil k0)) ?_
        refine A.all [1] (by kernel_rfl) rfl ⟨⟨_, rfl, ?_⟩, trivial⟩
        refine L.loadPtr shape3 hF rfl rfl rfl rfl rfl rfl (L.nil ?_)
        refine Atk 2 rfl (Ca.bin rfl rfl (calm_int _ _ _ _ _ _ _ _)) (fun Q0 k0 => L.bin hF rfl rfl rfl rfl rfl rfl (L.nil k0)) ?_
        refine Atk 3 rfl (Ca.move) (fun Q0 k0 => L.move hF rfl rfl rfl (L.nil k0)) ?_
        refine A.le (τ := mkSt [(0, one (Cell.sl g0 (List.map eTimpl_Pair v127))), (1, one (cI v128)), (2, one (cL v129)), (7, one (cI v130)), (8, one (Cell.ptr 0 0)), (25, one (cL false))] [] [(0, [cI b144.A, cI b144.B])] 1) (Le.mk [(0, 0)] hm rfl (Sa4 (Sa1 (Sa1 trivial rfl (congrArg (fun b => some (one (cL b))) hc149)))) trivial (Ba1 trivial)) ?_
        refine Atk 4 rfl (Ca.fieldAddr Tryz.underlying199 rfl info3 rfl) (fun Q0 k0 => L.fieldAddr Tryz.underlying199 rfl info3 rfl hF rfl rfl rfl rfl rfl (L.nil k0)) ?_
        refine Atk 6 rfl (Ca.move) (fun Q0 k0 => L.move hF rfl rfl rfl (L.nil k0)) ?_
        refine A.all [5] (by kernel_rfl) rfl ⟨⟨_, rfl, ?_⟩, trivial⟩
        refine L.loadPtr shape3 hF rfl rfl rfl rfl rfl rfl (L.nil ?_)
        refine Atk 7 rfl (Ca.bin rfl rfl (calm_int _ _ _ _ _ _ _ _)) (fun Q0 k0 => L.bin hF rfl rfl rfl rfl rfl rfl (L.nil k0)) ?_
        refine Atk 8 rfl (Ca.pick) (fun Q0 k0 => L.pick hF rfl rfl rfl rfl (L.nil k0)) ?_
        refine Atk 9 rfl (Ca.move) (fun Q0 k0 => L.move hF rfl rfl rfl (L.nil k0)) ?_
        refine A.le (τ := mkSt [(0, one (Cell.sl g0 (List.map eTimpl_Pair v127))), (1, one (cI v128)), (2, one (cL v129)), (7, one (cI v130)), (8, one (Cell.ptr 0 0)), (31, one (cL false))] [] [(0, [cI b144.A, cI b144.B])] 1) (Le.mk [(0, 0)] hm rfl (Sa4 (Sa1 (Sa1 trivial rfl (congrArg (fun b => some (one (cL b))) hc150)))) trivial (Ba1 trivial)) ?_
        refine Atk 10 rfl (Ca.fieldAddr Tryz.underlying199 rfl info3 rfl) (fun Q0 k0 => L.fieldAddr Tryz.underlying199 rfl info3 rfl hF rfl rfl rfl rfl rfl (L.nil k0)) ?_
        refine A.all [11] (by kernel_rfl) rfl ⟨⟨_, rfl, ?_⟩, trivial⟩
        refine L.loadPtr shape3 hF rfl rfl rfl rfl rfl rfl (L.nil ?_)
        refine Atk 12 rfl (Ca.bin rfl rfl (calm_int _ _ _ _ _ _ _ _)) (fun Q0 k0 => L.bin hF rfl rfl rfl rfl rfl rfl (L.nil k0)) ?_
        refine Atk 13 rfl (Ca.pick) (fun Q0 k0 => L.pick hF rfl rfl rfl rfl (L.nil k0)) ?_
        refine Atk 14 rfl (Ca.move) (fun Q0 k0 => L.move hF rfl rfl rfl (L.nil k0)) ?_
        refine A.le (τ := mkSt [(0, one (Cell.sl g0 (List.map eTimpl_Pair v127))), (1, one (cI v128)), (2, one (cL v129)), (7, one (cI v130)), (8, one (Cell.ptr 0 0)), (36, one (cL true))] [] [(0, [cI b144.A, cI b144.B])] 1) (Le.mk [(0, 0)] hm rfl (Sa4 (Sa1 (Sa1 trivial rfl (congrArg (fun b => some (one (cL b))) hc151)))) trivial (Ba1 trivial)) ?_
        refine Aof 15 rfl hF ?_
        refine Aof 16 rfl hF ?_
        refine Aof 17 rfl hF ?_
        refine Aof 18 rfl hF ?_
        refine Atk 19 rfl (Ca.pick) (fun Q0 k0 => L.pick hF rfl rfl rfl rfl (L.nil k0)) ?_
        refine Atk 20 rfl (Ca.move) (fun Q0 k0 => L.move hF rfl rfl rfl (L.nil k0)) ?_
        refine Aof 21 rfl hF ?_
        refine Aof 22 rfl hF ?_
        refine Aof 23 rfl hF ?_
        refine Aof 24 rfl hF ?_
        refine A.le (τ := mkSt [(0, one (Cell.sl g0 (List.map eTimpl_Pair v127))), (1, one (cI v128)), (2, one (cL v129)), (7, one (cI v130)), (8, one (Cell.ptr 0 0)), (42, one (cL true)), (44, Slot.tup []), (46, Slot.tup [])] [] [(0, [cI b144.A, cI b144.B])] 1) (Le.mk [(0, 0)] hm rfl (Sa8 trivial) trivial (Ba1 trivial)) ?_
        refine Aof 25 rfl hF ?_
        refine Aof 26 rfl hF ?_
        refine Aof 27 rfl hF ?_
        refine Aof 28 rfl hF ?_
        refine Atk 29 rfl (Ca.pick) (fun Q0 k0 => L.pick hF rfl rfl rfl rfl (L.nil k0)) ?_
        refine Atk 30 rfl (Ca.move) (fun Q0 k0 => L.move hF rfl rfl rfl (L.nil k0)) ?_
        refine Aof 31 rfl hF ?_
        refine Aof 32 rfl hF ?_
        refine Aof 33 rfl hF ?_
        refine Aof 34 rfl hF ?_
        refine A.le (τ := mkSt [(0, one (Cell.sl g0 (List.map eTimpl_Pair v127))), (1, one (cI v128)), (2, one (cL v129)), (7, one (cI v130)), (52, one (cL true)), (55, Slot.tup []), (56, Slot.tup [])] [] [] 0) (Le.mk [] hm rfl (Sa4 (Sa2 (Sa1 trivial))) trivial trivial) ?_
        refine A.all [35] (by kernel_rfl) rfl ⟨⟨_, rfl, ?_⟩, trivial⟩
        refine L.off hF rfl rfl (L.nil ?_)
        refine Atk 36 rfl (Ca.pick) (fun Q0 k0 => L.pick hF rfl rfl rfl rfl (L.nil k0)) ?_
        refine A.le (τ := mkSt [(0, one (Cell.sl g0 (List.map eTimpl_Pair v127))), (1, one (cI v128)), (2, one (cL v129)), (7, one (cI v130)), (58, one (cL true))] [] [] 0) (Le.mk [] hm rfl (Sa4 (Sa1 trivial)) trivial trivial) ?_
        refine A.done (by kernel_rfl) ?_
        refine WpC.cond rfl (fun _ => ?_) (fun hc => by cases hc)
        refine WpC.seq (WpC.regionL ?_)
        refine L.assign hF rfl rfl rfl (L.nil ?_)
        refine WpC.ret ?_
        cases H
        exact Leaves.ret rfl rfl rfl ⟨rfl, rfl⟩
       ·replace H := condF hc151 H
        rcases Bool.eq_false_or_eq_true ((decide (b144.B ≥ v128))) with hc152 | hc152
        ·replace H := condT hc152 H
         refine A.begin mixed rfl rfl ?_
         intro W hI hO
         refine hI _ _ _ ?_
         refine Atk 0 rfl (Ca.fieldAddr Tryz.underlying199 rfl info3 rfl) (fun Q0 k0 => L.fieldAddr Tryz.underlying199 rfl info3 rfl hF rfl rfl rfl rfl rfl (L.nil k0)) ?_
         refine A.all [1] (by kernel_rfl) rfl ⟨⟨_, rfl, ?_⟩, trivial⟩
         refine L.loadPtr shape3 hF rfl rfl rfl rfl rfl rfl (L.nil ?_)
         refine Atk 2 rfl (Ca.bin rfl rfl (calm_int _ _ _ _ _ _ _ _)) (fun Q0 k0 => L.bin hF rfl rfl rfl rfl rfl rfl (L.nil k0)) ?_
         refine Atk 3 rfl (Ca.move) (fun Q0 k0 => L.move hF rfl rfl rfl (L.nil k0)) ?_
         refine A.le (τ := mkSt [(0, one (Cell.sl g0 (List.map eTimpl_Pair v127))), (1, one (cI v128)), (2, one (cL v129)), (7, one (cI v130)), (8, one (Cell.ptr 0 0)), (25, one (cL false))] [] [(0, [cI b144.A, cI b144.B])] 1) (Le.mk [(0, 0)] hm rfl (Sa4 (Sa1 (Sa1 trivial rfl (congrArg (fun b => some (one (cL b))) hc149)))) trivial (Ba1 trivial)) ?_
         refine Atk 4 rfl (Ca.fieldAddr Tryz.underlying199 rfl info3 rfl) (fun Q0 k0 => L.fieldAddr Tryz.underlying199 rfl info3 rfl hF rfl rfl rfl rfl rfl (L.nil k0)) ?_
         refine Atk 6 rfl (Ca.move) (fun Q0 k0 => L.move hF rfl rfl rfl (L.nil k0)) ?_
         refine A.all [5] (by kernel_rfl) rfl ⟨⟨_, rfl, ?_⟩, trivial⟩
         refine L.loadPtr shape3 hF rfl rfl rfl rfl rfl rfl (L.nil ?_)
         refine Atk 7 rfl (Ca.bin rfl rfl (calm_int _ _ _ _ _ _ _ _)) (fun Q0 k0 => L.bin hF rfl rfl rfl rfl rfl rfl (L.nil k0)) ?_
         refine Atk 8 rfl (Ca.pick) (fun Q0 k0 => L.pick hF rfl rfl rfl rfl (L.nil k0)) ?_
         refine Atk 9 rfl (Ca.move) (fun Q0 k0 => L.move hF rfl rfl rfl (L.nil k0)) ?_
         refine A.le (τ := mkSt [(0, one (Cell.sl g0 (List.map eTimpl_Pair v127))), (1, one (cI v128)), (2, one (cL v129)), (7, one (cI v130)), (8, one (Cell.ptr 0 0)), (31, one (cL false))] [] [(0, [cI b144.A, cI b144.B])] 1) (Le.mk [(0, 0)] hm rfl (Sa4 (Sa1 (Sa1 trivial rfl (congrArg (fun b => some (one (cL b))) hc150)))) trivial (Ba1 trivial)) ?_
         refine Atk 10 rfl (Ca.fieldAddr Tryz.underlying199 rfl info3 rfl) (fun Q0 k0 => L.fieldAddr Tryz.underlying199 rfl info3 rfl hF rfl rfl rfl rfl rfl (L.nil k0)) ?_
         refine A.all [11] (by kernel_rfl) rfl ⟨⟨_, rfl, ?_⟩, trivial⟩
         refine L.loadPtr shape3 hF rfl rfl rfl rfl rfl rfl (L.nil ?_)
         refine Atk 12 rfl (Ca.bin rfl rfl (calm_int _ _ _ _ _ _ _ _)) (fun Q0 k0 => L.bin hF rfl rfl rfl rfl rfl rfl (L.nil k0)) ?_
         refine Atk 13 rfl (Ca.pick) (fun Q0 k0 => L.pick hF rfl rfl rfl rfl (L.nil k0)) ?_
         refine Atk 14 rfl (Ca.move) (fun Q0 k0 => L.move hF rfl rfl rfl (L.nil k0)) ?_
         refine A.le (τ := mkSt [(0, one (Cell.sl g0 (List.map eTimpl_Pair v127))), (1, one (cI v128)), (2, one (cL v129)), (7, one (cI v130)), (8, one (Cell.ptr 0 0)), (36, one (cL false))] [] [(0, [cI b144.A, cI b144.B])] 1) (Le.mk [(0, 0)] hm rfl (Sa4 (Sa1 (Sa1 trivial rfl (congrArg (fun b => some (one (cL b))) hc151)))) trivial (Ba1 trivial)) ?_
         refine Atk 15 rfl (Ca.fieldAddr Tryz.underlying199 rfl info3 rfl) (fun Q0 k0 => L.fieldAddr Tryz.underlying199 rfl info3 rfl hF rfl rfl rfl rfl rfl (L.nil k0)) ?_
         refine Atk 17 rfl (Ca.move) (fun Q0 k0 => L.move hF rfl rfl rfl (L.nil k0)) ?_
         refine A.all [16] (by kernel_rfl) rfl ⟨⟨_, rfl, ?_⟩, trivial⟩
         refine L.loadPtr shape3 hF rfl rfl rfl rfl rfl rfl (L.nil ?_)
         refine Atk 18 rfl (Ca.bin rfl rfl (calm_int _ _ _ _ _ _ _ _)) (fun Q0 k0 => L.bin hF rfl rfl rfl rfl rfl rfl (L.nil k0)) ?_
         refine Atk 19 rfl (Ca.pick) (fun Q0 k0 => L.pick hF rfl rfl rfl rfl (L.nil k0)) ?_
         refine Atk 20 rfl (Ca.move) (fun Q0 k0 => L.move hF rfl rfl rfl (L.nil k0)) ?_
         refine A.le (τ := mkSt [(0, one (Cell.sl g0 (List.map eTimpl_Pair v127))), (1, one (cI v128)), (2, one (cL v129)), (7, one (cI v130)), (8, one (Cell.ptr 0 0)), (42, one (cL true))] [] [(0, [cI b144.A, cI b144.B])] 1) (Le.mk [(0, 0)] hm rfl (Sa4 (Sa1 (Sa1 trivial rfl (congrArg (fun b => some (one (cL b))) hc152)))) trivial (Ba1 trivial)) ?_
         refine Aof 21 rfl hF ?_
         refine Aof 22 rfl hF ?_
         refine Aof 23 rfl hF ?_
         refine Aof 24 rfl hF ?_
         refine Aof 25 rfl hF ?_
         refine Aof 26 rfl hF ?_
         refine Aof 27 rfl hF ?_
         refine Aof 28 rfl hF ?_
         refine Atk 29 rfl (Ca.pick) (fun Q0 k0 => L.pick hF rfl rfl rfl rfl (L.nil k0)) ?_
         refine Atk 30 rfl (Ca.move) (fun Q0 k0 => L.move hF rfl rfl rfl (L.nil k0)) ?_
         refine A.le (τ := mkSt [(0, one (Cell.sl g0 (List.map eTimpl_Pair v127))), (1, one (cI v128)), (2, one (cL v129)), (7, one (cI v130)), (8, one (Cell.ptr 0 0)), (52, one (cL true))] [] [(0, [cI b144.A, cI b144.B])] 1) (Le.mk [(0, 0)] hm rfl (Sa4 (Sa2 trivial)) trivial (Ba1 trivial)) ?_
         refine Aof 31 rfl hF ?_
         refine Aof 32 rfl hF ?_
         refine Aof 33 rfl hF ?_
         refine Aof 34 rfl hF ?_
         refine A.all [35] (by kernel_rfl) rfl ⟨⟨_, rfl, ?_⟩, trivial⟩
         refine L.off hF rfl rfl (L.nil ?_)
         refine Atk 36 rfl (Ca.pick) (fun Q0 k0 => L.pick hF rfl rfl rfl rfl (L.nil k0)) ?_
         refine A.le (τ := mkSt [(0, one (Cell.sl g0 (List.map eTimpl_Pair v127))), (1, one (cI v128)), (2, one (cL v129)), (7, one (cI v130)), (58, one (cL true))] [] [] 0) (Le.mk [] hm rfl (Sa4 (Sa1 trivial)) trivial trivial) ?_
         refine A.done (by kernel_rfl) ?_
         refine WpC.cond rfl (fun _ => ?_) (fun hc => by cases hc)
         refine WpC.seq (WpC.regionL ?_)
         refine L.assign hF rfl rfl rfl (L.nil ?_)
         refine WpC.ret ?_
         cases H
         exact Leaves.ret rfl rfl rfl ⟨rfl, rfl⟩
        ·replace H := condF hc152 H
         rcases Bool.eq_false_or_eq_true (v129) with hc153 | hc153
         ·replace H := condT hc153 H
          rcases Bool.eq_false_or_eq_true ((b144.A == b144.B)) with hc154 | hc154
          ·replace H := condT hc154 H
           refine A.begin mixed rfl rfl ?_
           intro W hI hO
           have n134217727 : W 10 #[true, true, true, true, true, true, true, true, true, true, true, true, true, true, true, true, true, true, true, true, true, true, true, true, true, true, true, false, false, false, false, false, false, false, false, false, false] (mkSt [(0, one (Cell.sl g0 (List.map eTimpl_Pair v127))), (1, one (cI v128)), (2, one (cL v129)), (7, one (cI v130)), (8, one (Cell.ptr 0 0)), (42, one (cL false)), (44, one (cL true)), (46, one (cI b144.A)), (48, one (cI b144.B))] [] [(0, [cI b144.A, cI b144.B])] 1) := by
            refine hI _ _ _ ?_
            refine Atk 27 rfl (Ca.bin rfl rfl (calm_int _ _ _ _ _ _ _ _)) (fun Q0 k0 => L.bin hF rfl rfl rfl rfl rfl rfl (L.nil k0)) ?_
            refine Atk 28 rfl (Ca.pick) (fun Q0 k0 => L.pick hF rfl rfl rfl rfl (L.nil k0)) ?_
            refine Atk 29 rfl (Ca.pick) (fun Q0 k0 => L.pick hF rfl rfl rfl rfl (L.nil k0)) ?_
            refine Atk 30 rfl (Ca.move) (fun Q0 k0 => L.move hF rfl rfl rfl (L.nil k0)) ?_
            refine A.le (τ := mkSt [(0, one (Cell.sl g0 (List.map eTimpl_Pair v127))), (1, one (cI v128)), (2, one (cL v129)), (7, one (cI v130)), (8, one (Cell.ptr 0 0)), (52, one (cL true))] [] [(0, [cI b144.A, cI b144.B])] 1) (Le.mk [(0, 0)] hm rfl (Sa4 (Sa1 (Sa1 trivial rfl (congrArg (fun b => some (one (cL b))) hc154)))) trivial (Ba1 trivial)) ?_
            refine Aof 31 rfl hF ?_
            refine Aof 32 rfl hF ?_
            refine Aof 33 rfl hF ?_
            refine Aof 34 rfl hF ?_
            refine A.all [35] (by kernel_rfl) rfl ⟨⟨_, rfl, ?_⟩, trivial⟩
            refine L.off hF rfl rfl (L.nil ?_)
            refine Atk 36 rfl (Ca.pick) (fun Q0 k0 => L.pick hF rfl rfl rfl rfl (L.nil k0)) ?_
            refine A.le (τ := mkSt [(0, one (Cell.sl g0 (List.map eTimpl_Pair v127))), (1, one (cI v128)), (2, one (cL v129)), (7, one (cI v130)), (58, one (cL true))] [] [] 0) (Le.mk [] hm rfl (Sa4 (Sa1 trivial)) trivial trivial) ?_
            refine A.done (by kernel_rfl) ?_
            refine WpC.cond rfl (fun _ => ?_) (fun hc => by cases hc)
            refine WpC.seq (WpC.regionL ?_)
            refine L.assign hF rfl rfl rfl (L.nil ?_)
            refine WpC.ret ?_
            cases H
            exact Leaves.ret rfl rfl rfl ⟨rfl, rfl⟩
           refine hI _ _ _ ?_
           refine Atk 0 rfl (Ca.fieldAddr Tryz.underlying199 rfl info3 rfl) (fun Q0 k0 => L.fieldAddr Tryz.underlying199 rfl info3 rfl hF rfl rfl rfl rfl rfl (L.nil k0)) ?_
           refine A.all [1] (by kernel_rfl) rfl ⟨⟨_, rfl, ?_⟩, trivial⟩
           refine L.loadPtr shape3 hF rfl rfl rfl rfl rfl rfl (L.nil ?_)
           refine Atk 2 rfl (Ca.bin rfl rfl (calm_int _ _ _ _ _ _ _ _)) (fun Q0 k0 => L.bin hF rfl rfl rfl rfl rfl rfl (L.nil k0)) ?_
           refine Atk 3 rfl (Ca.move) (fun Q0 k0 => L.move hF rfl rfl rfl (L.nil k0)) ?_
           refine A.le (τ := mkSt [(0, one (Cell.sl g0 (List.map eTimpl_Pair v127))), (1, one (cI v128)), (2, one (cL v129)), (7, one (cI v130)), (8, one (Cell.ptr 0 0)), (25, one (cL false))] [] [(0, [cI b144.A, cI b144.B])] 1) (Le.mk [(0, 0)] hm rfl (Sa4 (Sa1 (Sa1 trivial rfl (congrArg (fun b => some (one (cL b))) hc149)))) trivial (Ba1 trivial)) ?_
           refine Atk 4 rfl (Ca.fieldAddr Tryz.underlying199 rfl info3 rfl) (fun Q0 k0 => L.fieldAddr Tryz.underlying199 rfl info3 rfl hF rfl rfl rfl rfl rfl (L.nil k0)) ?_
           refine Atk 6 rfl (Ca.move) (fun Q0 k0 => L.move hF rfl rfl rfl (L.nil k0)) ?_
           refine A.all [5] (by kernel_rfl) rfl ⟨⟨_, rfl, ?_⟩, trivial⟩
           refine L.loadPtr shape3 hF rfl rfl rfl rfl rfl rfl (L.nil ?_)
           refine Atk 7 rfl (Ca.bin rfl rfl (calm_int _ _ _ _ _ _ _ _)) (fun Q0 k0 => L.bin hF rfl rfl rfl rfl rfl rfl (L.nil k0)) ?_
           refine Atk 8 rfl (Ca.pick) (fun Q0 k0 => L.pick hF rfl rfl rfl rfl (L.nil k0)) ?_
           refine Atk 9 rfl (Ca.move) (fun Q0 k0 => L.move hF rfl rfl rfl (L.nil k0)) ?_
           refine A.le (τ := mkSt [(0, one (Cell.sl g0 (List.map eTimpl_Pair v127))), (1, one (cI v128)), (2, one (cL v129)), (7, one (cI v130)), (8, one (Cell.ptr 0 0)), (31, one (cL false))] [] [(0, [cI b144.A, cI b144.B])] 1) (Le.mk [(0, 0)] hm rfl (Sa4 (Sa1 (Sa1 trivial rfl (congrArg (fun b => some (one (cL b))) hc150)))) trivial (Ba1 trivial)) ?_
           refine Atk 10 rfl (Ca.fieldAddr Tryz.underlying199 rfl info3 rfl) (fun Q0 k0 => L.fieldAddr Tryz.underlying199 rfl info3 rfl hF rfl rfl rfl rfl rfl (L.nil k0)) ?_
           refine A.all [11] (by kernel_rfl) rfl ⟨⟨_, rfl, ?_⟩, trivial⟩
           refine L.loadPtr shape3 hF rfl rfl rfl rfl rfl rfl (L.nil ?_)
           refine Atk 12 rfl (Ca.bin rfl rfl (calm_int _ _ _ _ _ _ _ _)) (fun Q0 k0 => L.bin hF rfl rfl rfl rfl rfl rfl (L.nil k0)) ?_
           refine Atk 13 rfl (Ca.pick) (fun Q0 k0 => L.pick hF rfl rfl rfl rfl (L.nil k0)) ?_
           refine Atk 14 rfl (Ca.move) (fun Q0 k0 => L.move hF rfl rfl rfl (L.nil k0)) ?_
           refine A.le (τ := mkSt [(0, one (Cell.sl g0 (List.map eTimpl_Pair v127))), (1, one (cI v128)), (2, one (cL v129)), (7, one (cI v130)), (8, one (Cell.ptr 0 0)), (36, one (cL false))] [] [(0, [cI b144.A, cI b144.B])] 1) (Le.mk [(0, 0)] hm rfl (Sa4 (Sa1 (Sa1 trivial rfl (congrArg (fun b => some (one (cL b))) hc151)))) trivial (Ba1 trivial)) ?_
           refine Atk 15 rfl (Ca.fieldAddr Tryz.underlying199 rfl info3 rfl) (fun Q0 k0 => L.fieldAddr Tryz.underlying199 rfl info3 rfl hF rfl rfl rfl rfl rfl (L.nil k0)) ?_
           refine Atk 17 rfl (Ca.move) (fun Q0 k0 => L.move hF rfl rfl rfl (L.nil k0)) ?_
           refine A.all [16] (by kernel_rfl) rfl ⟨⟨_, rfl, ?_⟩, trivial⟩
           refine L.loadPtr shape3 hF rfl rfl rfl rfl rfl rfl (L.nil ?_)
           refine Atk 18 rfl (Ca.bin rfl rfl (calm_int _ _ _ _ _ _ _ _)) (fun Q0 k0 => L.bin hF rfl rfl rfl rfl rfl rfl (L.nil k0)) ?_
           refine Atk 19 rfl (Ca.pick) (fun Q0 k0 => L.pick hF rfl rfl rfl rfl (L.nil k0)) ?_
           refine Atk 20 rfl (Ca.move) (fun Q0 k0 => L.move hF rfl rfl rfl (L.nil k0)) ?_
           refine A.le (τ := mkSt [(0, one (Cell.sl g0 (List.map eTimpl_Pair v127))), (1, one (cI v128)), (2, one (cL v129)), (7, one (cI v130)), (8, one (Cell.ptr 0 0)), (42, one (cL false))] [] [(0, [cI b144.A, cI b144.B])] 1) (Le.mk [(0, 0)] hm rfl (Sa4 (Sa1 (Sa1 trivial rfl (congrArg (fun b => some (one (cL b))) hc152)))) trivial (Ba1 trivial)) ?_
           refine Atk 21 rfl (Ca.move) (fun Q0 k0 => L.move hF rfl rfl rfl (L.nil k0)) ?_
           refine Atk 22 rfl (Ca.move) (fun Q0 k0 => L.move hF rfl rfl rfl (L.nil k0)) ?_
           refine A.le (τ := mkSt [(0, one (Cell.sl g0 (List.map eTimpl_Pair v127))), (1, one (cI v128)), (2, one (cL v129)), (7, one (cI v130)), (8, one (Cell.ptr 0 0)), (42, one (cL false)), (44, one (cL true))] [] [(0, [cI b144.A, cI b144.B])] 1) (Le.mk [(0, 0)] hm rfl (Sa4 (Sa2 (Sa1 trivial rfl (congrArg (fun b => some (one (cL b))) hc153)))) trivial (Ba1 trivial)) ?_
           refine Atk 23 rfl (Ca.fieldAddr Tryz.underlying199 rfl info3 rfl) (fun Q0 k0 => L.fieldAddr Tryz.underlying199 rfl info3 rfl hF rfl rfl rfl rfl rfl (L.nil k0)) ?_
           refine Atk 25 rfl (Ca.fieldAddr Tryz.underlying199 rfl info3 rfl) (fun Q0 k0 => L.fieldAddr Tryz.underlying199 rfl info3 rfl hF rfl rfl rfl rfl rfl (L.nil k0)) ?_
           refine A.all [24, 26] (by kernel_rfl) rfl ⟨⟨_, rfl, ?_⟩, ⟨_, rfl, ?_⟩, trivial⟩
           ·refine L.loadPtr shape3 hF rfl rfl rfl rfl rfl rfl (L.nil ?_)
            refine A.all [26] (by kernel_rfl) rfl ⟨⟨_, rfl, ?_⟩, trivial⟩
            refine L.loadPtr shape3 hF rfl rfl rfl rfl rfl rfl (L.nil ?_)
            exact A.on (hO _ _ _ n134217727) (Le.mk [(0, 0)] hm rfl (Sa8 (Sa1 trivial)) trivial (Ba1 trivial))
           ·refine L.loadPtr shape3 hF rfl rfl rfl rfl rfl rfl (L.nil ?_)
            refine A.all [24] (by kernel_rfl) rfl ⟨⟨_, rfl, ?_⟩, trivial⟩
            refine L.loadPtr shape3 hF rfl rfl rfl rfl rfl rfl (L.nil ?_)
            exact A.on (hO _ _ _ n134217727) (Le.mk [(0, 0)] hm rfl (Sa8 (Sa1 trivial)) trivial (Ba1 trivial))
          ·replace H := condF hc154 H
           obtain ⟨b155, hb155, H⟩ := bindS H
           obtain ⟨r156, hr156, H⟩ := bindS H
           refine A.begin mixed rfl rfl ?_
           intro W hI hO
           have n134217727 : W 10 #[true, true, true, true, true, true, true, true, true, true, true, true, true, true, true, true, true, true, true, true, true, true, true, true, true, true, true, false, false, false, false, false, false, false, false, false, false] (mkSt [(0, one (Cell.sl g0 (List.map eTimpl_Pair v127))), (1, one (cI v128)), (2, one (cL v129)), (7, one (cI v130)), (8, one (Cell.ptr 0 0)), (42, one (cL false)), (44, one (cL true)), (46, one (cI b144.A)), (48, one (cI b144.B))] [] [(0, [cI b144.A, cI b144.B])] 1) := by
            refine hI _ _ _ ?_
            refine Atk 27 rfl (Ca.bin rfl rfl (calm_int _ _ _ _ _ _ _ _)) (fun Q0 k0 => L.bin hF rfl rfl rfl rfl rfl rfl (L.nil k0)) ?_
            refine Atk 28 rfl (Ca.pick) (fun Q0 k0 => L.pick hF rfl rfl rfl rfl (L.nil k0)) ?_
            refine Atk 29 rfl (Ca.pick) (fun Q0 k0 => L.pick hF rfl rfl rfl rfl (L.nil k0)) ?_
            refine Atk 30 rfl (Ca.move) (fun Q0 k0 => L.move hF rfl rfl rfl (L.nil k0)) ?_
            refine A.le (τ := mkSt [(0, one (Cell.sl g0 (List.map eTimpl_Pair v127))), (1, one (cI v128)), (2, one (cL v129)), (7, one (cI v130)), (8, one (Cell.ptr 0 0)), (52, one (cL false))] [] [(0, [cI b144.A, cI b144.B])] 1) (Le.mk [(0, 0)] hm rfl (Sa4 (Sa1 (Sa1 trivial rfl (congrArg (fun b => some (one (cL b))) hc154)))) trivial (Ba1 trivial)) ?_
            refine Atk 31 rfl (Ca.move) (fun Q0 k0 => L.move hF rfl rfl rfl (L.nil k0)) ?_
            refine Atk 32 rfl (Ca.move) (fun Q0 k0 => L.move hF rfl rfl rfl (L.nil k0)) ?_
            refine Atk 33 rfl (Ca.slice) (fun Q0 k0 => L.cutR (xs := v127) (ys := b155) (e := eTimpl_Pair) Tryz.underlying42 info199 hF rfl rfl rfl rfl rfl hb155 (fun _ => rfl) (L.nil k0)) ?_
            refine A.all [34] (by kernel_rfl) rfl ⟨⟨_, rfl, ?_⟩, trivial⟩
            refine L.loadPtr shape199 hF rfl rfl rfl rfl rfl rfl (L.nil ?_)
            refine A.all [35] (by kernel_rfl) rfl ⟨⟨_, rfl, ?_⟩, trivial⟩
            refine L.call [false, false] [] [] 1 hF rfl rfl rfl ent225 rfl rfl rfl rfl rfl (Fspec_l6Has_gives k7 g0 b155 b144 r156 hr156) rfl (L.nil ?_)
            refine Atk 36 rfl (Ca.pick) (fun Q0 k0 => L.pick hF rfl rfl rfl rfl (L.nil k0)) ?_
            refine A.le (τ := mkSt [(0, one (Cell.sl g0 (List.map eTimpl_Pair v127))), (1, one (cI v128)), (2, one (cL v129)), (7, one (cI v130)), (58, one (cL r156))] [] [] 0) (Le.mk [] hm rfl (Sa4 (Sa1 trivial)) trivial trivial) ?_
            refine A.done (by kernel_rfl) ?_
            refine WpC.cond rfl (fun hc => ?_) (fun hc => ?_)
            ·replace H := condT hc H
             refine WpC.seq (WpC.regionL ?_)
             refine L.assign hF rfl rfl rfl (L.nil ?_)
             refine WpC.ret ?_
             cases H
             exact Leaves.ret rfl rfl rfl ⟨rfl, rfl⟩
            ·replace H := condF hc H
             refine WpC.skip ?_
             exact ⟨_, ⟨k7, v127, v128, v129, v130, by omega, H, rfl⟩, Le.mk [] hm rfl (Sa4 trivial) trivial trivial⟩
           refine hI _ _ _ ?_
           refine Atk 0 rfl (Ca.fieldAddr Tryz.underlying199 rfl info3 rfl) (fun Q0 k0 => L.fieldAddr Tryz.underlying199 rfl info3 rfl hF rfl rfl rfl rfl rfl (L.nil k0)) ?_
           refine A.all [1] (by kernel_rfl) rfl ⟨⟨_, rfl, ?_⟩, trivial⟩
           refine L.loadPtr shape3 hF rfl rfl rfl rfl rfl rfl (L.nil ?_)
           refine Atk 2 rfl (Ca.bin rfl rfl (calm_int _ _ _ _ _ _ _ _)) (fun Q0 k0 => L.bin hF rfl rfl rfl rfl rfl rfl (L.nil k0)) ?_
           refine Atk 3 rfl (Ca.move) (fun Q0 k0 => L.move hF rfl rfl rfl (L.nil k0)) ?_
           refine A.le (τ := mkSt [(0, one (Cell.sl g0 (List.map eTimpl_Pair v127))), (1, one (cI v128)), (2, one (cL v129)), (7, one (cI v130)), (8, one (Cell.ptr 0 0)), (25, one (cL false))] [] [(0, [cI b144.A, cI b144.B])] 1) (Le.mk [(0, 0)] hm rfl (Sa4 (Sa1 (Sa1 trivial rfl (congrArg (fun b => some (one (cL b))) hc149)))) trivial (Ba1 trivial)) ?_
           refine Atk 4 rfl (Ca.fieldAddr Tryz.underlying199 rfl info3 rfl) (fun Q0 k0 => L.fieldAddr Tryz.underlying199 rfl info3 rfl hF rfl rfl rfl rfl rfl (L.nil k0)) ?_
           refine Atk 6 rfl (Ca.move) (fun Q0 k0 => L.move hF rfl rfl rfl (L.nil k0)) ?_
           refine A.all [5] (by kernel_rfl) rfl ⟨⟨_, rfl, ?_⟩, trivial⟩
           refine L.loadPtr shape3 hF rfl rfl rfl rfl rfl rfl (L.nil ?_)
           refine Atk 7 rfl (Ca.bin rfl rfl (calm_int _ _ _ _ _ _ _ _)) (fun Q0 k0 => L.bin hF rfl rfl rfl rfl rfl rfl (L.nil k0)) ?_
           refine Atk 8 rfl (Ca.pick) (fun Q0 k0 => L.pick hF rfl rfl rfl rfl (L.nil k0)) ?_
           refine Atk 9 rfl (Ca.move) (fun Q0 k0 => L.move hF rfl rfl rfl (L.nil k0)) ?_
           refine A.le (τ := mkSt [(0, one (Cell.sl g0 (List.map eTimpl_Pair v127))), (1, one (cI v128)), (2, one (cL v129)), (7, one (cI v130)), (8, one (Cell.ptr 0 0)), (31, one (cL false))] [] [(0, [cI b144.A, cI b144.B])] 1) (Le.mk [(0, 0)] hm rfl (Sa4 (Sa1 (Sa1 trivial rfl (congrArg (fun b => some (one (cL b))) hc150)))) trivial (Ba1 trivial)) ?_
           refine Atk 10 rfl (Ca.fieldAddr Tryz.underlying199 rfl info3 rfl) (fun Q0 k0 => L.fieldAddr Tryz.underlying199 rfl info3 rfl hF rfl rfl rfl rfl rfl (L.nil k0)) ?_
           refine A.all [11] (by kernel_rfl) rfl ⟨⟨_, rfl, ?_⟩, trivial⟩
           refine L.loadPtr shape3 hF rfl rfl rfl rfl rfl rfl (L.nil ?_)
           refine Atk 12 rfl (Ca.bin rfl rfl (calm_int _ _ _ _ _ _ _ _)) (fun Q0 k0 => L.bin hF rfl rfl rfl rfl rfl rfl (L.nil k0)) ?_
           refine Atk 13 rfl (Ca.pick) (fun Q0 k0 => L.pick hF rfl rfl rfl rfl (L.nil k0)) ?_
           refine Atk 14 rfl (Ca.move) (fun Q0 k0 => L.move hF rfl rfl rfl (L.nil k0)) ?_
           refine A.le (τ := mkSt [(0, one (Cell.sl g0 (List.map eTimpl_Pair v127))), (1, one (cI v128)), (2, one (cL v129)), (7, one (cI v130)), (8, one (Cell.ptr 0 0)), (36, one (cL false))] [] [(0, [cI b144.A, cI b144.B])] 1) (Le.mk [(0, 0)] hm rfl (Sa4 (Sa1 (Sa1 trivial rfl (congrArg (fun b => some (one (cL b))) hc151)))) trivial (Ba1 trivial)) ?_
           refine Atk 15 rfl (Ca.fieldAddr Tryz.underlying199 rfl info3 rfl) (fun Q0 k0 => L.fieldAddr Tryz.underlying199 rfl info3 rfl hF rfl rfl rfl rfl rfl (L.nil k0)) ?_
           refine Atk 17 rfl (Ca.move) (fun Q0 k0 => L.move hF rfl rfl rfl (L.nil k0)) ?_
           refine A.all [16] (by kernel_rfl) rfl ⟨⟨_, rfl, ?_⟩, trivial⟩
           refine L.loadPtr shape3 hF rfl rfl rfl rfl rfl rfl (L.nil ?_)
           refine Atk 18 rfl (Ca.bin rfl rfl (calm_int _ _ _ _ _ _ _ _)) (fun Q0 k0 => L.bin hF rfl rfl rfl rfl rfl rfl (L.nil k0)) ?_
           refine Atk 19 rfl (Ca.pick) (fun Q0 k0 => L.pick hF rfl rfl rfl rfl (L.nil k0)) ?_
           refine Atk 20 rfl (Ca.move) (fun Q0 k0 => L.move hF rfl rfl rfl (L.nil k0)) ?_
           refine A.le (τ := mkSt [(0, one (Cell.sl g0 (List.map eTimpl_Pair v127))), (1, one (cI v128)), (2, one (cL v129)), (7, one (cI v130)), (8, one (Cell.ptr 0 0)), (42, one (cL false))] [] [(0, [cI b144.A, cI b144.B])] 1) (Le.mk [(0, 0)] hm rfl (Sa4 (Sa1 (Sa1 trivial rfl (congrArg (fun b => some (one (cL b))) hc152)))) trivial (Ba1 trivial)) ?_
           refine Atk 21 rfl (Ca.move) (fun Q0 k0 => L.move hF rfl rfl rfl (L.nil k0)) ?_
           refine Atk 22 rfl (Ca.move) (fun Q0 k0 => L.move hF rfl rfl rfl (L.nil k0)) ?_
           refine A.le (τ := mkSt [(0, one (Cell.sl g0 (List.map eTimpl_Pair v127))), (1, one (cI v128)), (2, one (cL v129)), (7, one (cI v130)), (8, one (Cell.ptr 0 0)), (42, one (cL false)), (44, one (cL true))] [] [(0, [cI b144.A, cI b144.B])] 1) (Le.mk [(0, 0)] hm rfl (Sa4 (Sa2 (Sa1 trivial rfl (congrArg (fun b => some (one (cL b))) hc153)))) trivial (Ba1 trivial)) ?_
           refine Atk 23 rfl (Ca.fieldAddr Tryz.underlying199 rfl info3 rfl) (fun Q0 k0 => L.fieldAddr Tryz.underlying199 rfl info3 rfl hF rfl rfl rfl rfl rfl (L.nil k0)) ?_
           refine Atk 25 rfl (Ca.fieldAddr Tryz.underlying199 rfl info3 rfl) (fun Q0 k0 => L.fieldAddr Tryz.underlying199 rfl info3 rfl hF rfl rfl rfl rfl rfl (L.nil k0)) ?_
           refine A.all [24, 26] (by kernel_rfl) rfl ⟨⟨_, rfl, ?_⟩, ⟨_, rfl, ?_⟩, trivial⟩
           ·refine L.loadPtr shape3 hF rfl rfl rfl rfl rfl rfl (L.nil ?_)
            refine A.all [26] (by kernel_rfl) rfl ⟨⟨_, rfl, ?_⟩, trivial⟩
            refine L.loadPtr shape3 hF rfl rfl rfl rfl rfl rfl (L.nil ?_)
            exact A.on (hO _ _ _ n134217727) (Le.mk [(0, 0)] hm rfl (Sa8 (Sa1 trivial)) trivial (Ba1 trivial))
           ·refine L.loadPtr shape3 hF rfl rfl rfl rfl rfl rfl (L.nil ?_)
            refine A.all [24] (by kernel_rfl) rfl ⟨⟨_, rfl, ?_⟩, trivial⟩
            refine L.loadPtr shape3 hF rfl rfl rfl rfl rfl rfl (L.nil ?_)
            exact A.on (hO _ _ _ n134217727) (Le.mk [(0, 0)] hm rfl (Sa8 (Sa1 trivial)) trivial (Ba1 trivial))
         ·replace H := condF hc153 H
          obtain ⟨b157, hb157, H⟩ := bindS H
          obtain ⟨r158, hr158, H⟩ := bindS H
          refine A.begin mixed rfl rfl ?_
          intro W hI hO
          refine hI _ _ _ ?_
          refine Atk 0 rfl (Ca.fieldAddr Tryz.underlying199 rfl info3 rfl) (fun Q0 k0 => L.fieldAddr Tryz.underlying199 rfl info3 rfl hF rfl rfl rfl rfl rfl (L.nil k0)) ?_
          refine A.all [1] (by kernel_rfl) rfl ⟨⟨_, rfl, ?_⟩, trivial⟩
          refine L.loadPtr shape3 hF rfl rfl rfl rfl rfl rfl (L.nil ?_)
          refine Atk 2 rfl (Ca.bin rfl rfl (calm_int _ _ _ _ _ _ _ _)) (fun Q0 k0 => L.bin hF rfl rfl rfl rfl rfl rfl (L.nil k0)) ?_
          refine Atk 3 rfl (Ca.move) (fun Q0 k0 => L.move hF rfl rfl rfl (L.nil k0)) ?_
          refine A.le (τ := mkSt [(0, one (Cell.sl g0 (List.map eTimpl_Pair v127))), (1, one (cI v128)), (2, one (cL v129)), (7, one (cI v130)), (8, one (Cell.ptr 0 0)), (25, one (cL false))] [] [(0, [cI b144.A, cI b144.B])] 1) (Le.mk [(0, 0)] hm rfl (Sa4 (Sa1 (Sa1 trivial rfl (congrArg (fun b => some (one (cL b))) hc149)))) trivial (Ba1 trivial)) ?_
          refine Atk 4 rfl (Ca.fieldAddr Tryz.underlying199 rfl info3 rfl) (fun Q0 k0 => L.fieldAddr Tryz.underlying199 rfl info3 rfl hF rfl rfl rfl rfl rfl (L.nil k0)) ?_
          refine Atk 6 rfl (Ca.move) (fun Q0 k0 => L.move hF rfl rfl rfl (L.nil k0)) ?_
          refine A.all [5] (by kernel_rfl) rfl ⟨⟨_, rfl, ?_⟩, trivial⟩
          refine L.loadPtr shape3 hF rfl rfl rfl rfl rfl rfl (L.nil ?_)
          refine Atk 7 rfl (Ca.bin rfl rfl (calm_int _ _ _ _ _ _ _ _)) (fun Q0 k0 => L.bin hF rfl rfl rfl rfl rfl rfl (L.nil k0)) ?_
          refine Atk 8 rfl (Ca.pick) (fun Q0 k0 => L.pick hF rfl rfl rfl rfl (L.nil k0)) ?_
          refine Atk 9 rfl (Ca.move) (fun Q0 k0 => L.move hF rfl rfl rfl (L.nil k0)) ?_
          refine A.le (τ := mkSt [(0, one (Cell.sl g0 (List.map eTimpl_Pair v127))), (1, one (cI v128)), (2, one (cL v129)), (7, one (cI v130)), (8, one (Cell.ptr 0 0)), (31, one (cL false))] [] [(0, [cI b144.A, cI b144.B])] 1) (Le.mk [(0, 0)] hm rfl (Sa4 (Sa1 (Sa1 trivial rfl (congrArg (fun b => some (one (cL b))) hc150)))) trivial (Ba1 trivial)) ?_
          refine Atk 10 rfl (Ca.fieldAddr Tryz.underlying199 rfl info3 rfl) (fun Q0 k0 => L.fieldAddr Tryz.underlying199 rfl info3 rfl hF rfl rfl rfl rfl rfl (L.nil k0)) ?_
          refine A.all [11] (by kernel_rfl) rfl ⟨⟨_, rfl, ?_⟩, trivial⟩
          refine L.loadPtr shape3 hF rfl rfl rfl rfl rfl rfl (L.nil ?_)
          refine Atk 12 rfl (Ca.bin rfl rfl (calm_int _ _ _ _ _ _ _ _)) (fun Q0 k0 => L.bin hF rfl rfl rfl rfl rfl rfl (L.nil k0)) ?_
          refine Atk 13 rfl (Ca.pick) (fun Q0 k0 => L.pick hF rfl rfl rfl rfl (L.nil k0)) ?_
          refine Atk 14 rfl (Ca.move) (fun Q0 k0 => L.move hF rfl rfl rfl (L.nil k0)) ?_
          refine A.le (τ := mkSt [(0, one (Cell.sl g0 (List.map eTimpl_Pair v127))), (1, one (cI v128)), (2, one (cL v129)), (7, one (cI v130)), (8, one (Cell.ptr 0 0)), (36, one (cL false))] [] [(0, [cI b144.A, cI b144.B])] 1) (Le.mk [(0, 0)] hm rfl (Sa4 (Sa1 (Sa1 trivial rfl (congrArg (fun b => some (one (cL b))) hc151)))) trivial (Ba1 trivial)) ?_
          refine Atk 15 rfl (Ca.fieldAddr Tryz.underlying199 rfl info3 rfl) (fun Q0 k0 => L.fieldAddr Tryz.underlying199 rfl info3 rfl hF rfl rfl rfl rfl rfl (L.nil k0)) ?_
          refine Atk 17 rfl (Ca.move) (fun Q0 k0 => L.move hF rfl rfl rfl (L.nil k0)) ?_
          refine A.all [16] (by kernel_rfl) rfl ⟨⟨_, rfl, ?_⟩, trivial⟩
          refine L.loadPtr shape3 hF rfl rfl rfl rfl rfl rfl (L.nil ?_)
          refine Atk 18 rfl (Ca.bin rfl rfl (calm_int _ _ _ _ _ _ _ _)) (fun Q0 k0 => L.bin hF rfl rfl rfl rfl rfl rfl (L.nil k0)) ?_
          refine Atk 19 rfl (Ca.pick) (fun Q0 k0 => L.pick hF rfl rfl rfl rfl (L.nil k0)) ?_
          refine Atk 20 rfl (Ca.move) (fun Q0 k0 => L.move hF rfl rfl rfl (L.nil k0)) ?_
          refine A.le (τ := mkSt [(0, one (Cell.sl g0 (List.map eTimpl_Pair v127))), (1, one (cI v128)), (2, one (cL v129)), (7, one (cI v130)), (8, one (Cell.ptr 0 0)), (42, one (cL false))] [] [(0, [cI b144.A, cI b144.B])] 1) (Le.mk [(0, 0)] hm rfl (Sa4 (Sa1 (Sa1 trivial rfl (congrArg (fun b => some (one (cL b))) hc152)))) trivial (Ba1 trivial)) ?_
          refine Atk 21 rfl (Ca.move) (fun Q0 k0 => L.move hF rfl rfl rfl (L.nil k0)) ?_
          refine Atk 22 rfl (Ca.move) (fun Q0 k0 => L.move hF rfl rfl rfl (L.nil k0)) ?_
          refine A.le (τ := mkSt [(0, one (Cell.sl g0 (List.map eTimpl_Pair v127))), (1, one (cI v128)), (2, one (cL v129)), (7, one (cI v130)), (8, one (Cell.ptr 0 0)), (42, one (cL false)), (44, one (cL false))] [] [(0, [cI b144.A, cI b144.B])] 1) (Le.mk [(0, 0)] hm rfl (Sa4 (Sa2 (Sa1 trivial rfl (congrArg (fun b => some (one (cL b))) hc153)))) trivial (Ba1 trivial)) ?_
          refine Aof 23 rfl hF ?_
          refine Aof 24 rfl hF ?_
          refine Aof 25 rfl hF ?_
          refine Aof 26 rfl hF ?_
          refine Aof 27 rfl hF ?_
          refine Atk 28 rfl (Ca.pick) (fun Q0 k0 => L.pick hF rfl rfl rfl rfl (L.nil k0)) ?_
          refine Atk 29 rfl (Ca.pick) (fun Q0 k0 => L.pick hF rfl rfl rfl rfl (L.nil k0)) ?_
          refine Atk 30 rfl (Ca.move) (fun Q0 k0 => L.move hF rfl rfl rfl (L.nil k0)) ?_
          refine Atk 31 rfl (Ca.move) (fun Q0 k0 => L.move hF rfl rfl rfl (L.nil k0)) ?_
          refine Atk 32 rfl (Ca.move) (fun Q0 k0 => L.move hF rfl rfl rfl (L.nil k0)) ?_
          refine A.le (τ := mkSt [(0, one (Cell.sl g0 (List.map eTimpl_Pair v127))), (1, one (cI v128)), (2, one (cL v129)), (7, one (cI v130)), (8, one (Cell.ptr 0 0)), (52, one (cL false)), (53, one (Cell.sl g0 (List.map eTimpl_Pair v127))), (54, one (cI v130))] [] [(0, [cI b144.A, cI b144.B])] 1) (Le.mk [(0, 0)] hm rfl (Sa8 trivial) trivial (Ba1 trivial)) ?_
          refine Atk 33 rfl (Ca.slice) (fun Q0 k0 => L.cutR (xs := v127) (ys := b157) (e := eTimpl_Pair) Tryz.underlying42 info199 hF rfl rfl rfl rfl rfl hb157 (fun _ => rfl) (L.nil k0)) ?_
          refine A.all [34] (by kernel_rfl) rfl ⟨⟨_, rfl, ?_⟩, trivial⟩
          refine L.loadPtr shape199 hF rfl rfl rfl rfl rfl rfl (L.nil ?_)
          refine A.all [35] (by kernel_rfl) rfl ⟨⟨_, rfl, ?_⟩, trivial⟩
          refine L.call [false, false] [] [] 1 hF rfl rfl rfl ent225 rfl rfl rfl rfl rfl (Fspec_l6Has_gives k7 g0 b157 b144 r158 hr158) rfl (L.nil ?_)
          refine Atk 36 rfl (Ca.pick) (fun Q0 k0 => L.pick hF rfl rfl rfl rfl (L.nil k0)) ?_
          refine A.le (τ := mkSt [(0, one (Cell.sl g0 (List.map eTimpl_Pair v127))), (1, one (cI v128)), (2, one (cL v129)), (7, one (cI v130)), (58, one (cL r158))] [] [] 0) (Le.mk [] hm rfl (Sa4 (Sa1 trivial)) trivial trivial) ?_
          refine A.done (by kernel_rfl) ?_
          refine WpC.cond rfl (fun hc => ?_) (fun hc => ?_)
          ·replace H := condT hc H
           refine WpC.seq (WpC.regionL ?_)
           refine L.assign hF rfl rfl rfl (L.nil ?_)
           refine WpC.ret ?_
           cases H
           exact Leaves.ret rfl rfl rfl ⟨rfl, rfl⟩
          ·replace H := condF hc H
           refine WpC.skip ?_
           exact ⟨_, ⟨k7, v127, v128, v129, v130, by omega, H, rfl⟩, Le.mk [] hm rfl (Sa4 trivial) trivial trivial⟩
   ·replace H := condF hc H
    refine WpC.exit (WpC.seq (WpC.regionL ?_))
    refine L.assign hF rfl rfl rfl (L.nil ?_)
    refine WpC.ret ?_
    cases H
    exact Leaves.ret rfl rfl rfl ⟨rfl, rfl⟩
/-! ### Fspec_l1In -/
def Fspec_l1In (k : Nat) (a0 : Int) (a1 : Int) (a2 : Int) : Option Bool := cond (decide (a0 ≥ a1)) (some (decide (a0 ≤ a2))) (some false)
theorem ent52 : MG.Enters Tryz.prog 52 := ⟨Tryz.f52, Tryz.func52, rfl, by decide⟩
set_option maxHeartbeats 8000000 in
set_option maxRecDepth 100000 in
theorem Fspec_l1In_gives (k : Nat) (a0 : Int) (a1 : Int) (a2 : Int) (r : Bool) (H : Fspec_l1In k a0 a1 a2 = some r) : Gives Tryz.prog 52 [V.one (cI a0), V.one (cI a1), V.one (cI a2)] [] [V.one (cL r)] [] := by
 refine Gives.intro Tryz.func52 rfl rfl rfl rfl ?_
 intro F hF hm
 unfold Fspec_l1In at H
 obtain ⟨K, hK⟩ : ∃ K, k ≤ K := ⟨k, Nat.le_refl k⟩
 refine WpC.seq (WpC.regionL ?_)
 refine L.assign hF rfl rfl rfl (L.nil ?_)
 refine WpC.seq (WpC.regionL ?_)
 refine L.move hF rfl rfl rfl ?_
 refine L.move hF rfl rfl rfl ?_
 refine L.bin hF rfl rfl rfl rfl rfl rfl ?_
 refine L.move hF rfl rfl rfl ?_
 refine L.split (fun hc => ?_) (fun hc => ?_)
 ·replace H := condT hc H
  refine L.move hF rfl rfl rfl ?_
  refine L.move hF rfl rfl rfl ?_
  refine L.bin hF rfl rfl rfl rfl rfl rfl ?_
  refine L.pick hF rfl rfl rfl rfl ?_
  refine L.assign hF rfl rfl rfl (L.nil ?_)
  refine WpC.ret ?_
  cases H
  exact Leaves.ret rfl rfl rfl ⟨rfl, rfl⟩
 ·replace H := condF hc H
  refine L.off hF rfl rfl ?_
  refine L.off hF rfl rfl ?_
  refine L.off hF rfl rfl ?_
  refine L.pick hF rfl rfl rfl rfl ?_
  refine L.assign hF rfl rfl rfl (L.nil ?_)
  refine WpC.ret ?_
  cases H
  exact Leaves.ret rfl rfl rfl ⟨rfl, rfl⟩
/-! ### Fspec_ConfigOk -/
def Fspec_ConfigOk (k : Nat) (a0 : Timpl_Config) : Option Bool := cond ((a0.UserRealm.length : Int) == (3 : Int)) ((Fspec_l5All k a0.UserRealm (3 : Int) (3 : Int)).bind fun r6 => cond r6 (cond ((a0.ServiceRealm.length : Int) == (3 : Int)) ((Fspec_l5All k a0.ServiceRealm (3 : Int) (3 : Int)).bind fun r7 => cond r7 ((Fspec_l6Pairs k a0.Links (3 : Int) true).bind fun r8 => cond r8 ((Fspec_l6Pairs k a0.Proxy (3 : Int) false).bind fun r9 => cond r9 ((Fspec_l1In k a0.Skew (0 : Int) (20 : Int)).bind fun r10 => some r10) (some false)) (some false)) (some false)) (some false)) (some false)) (some false)
theorem ent51 : MG.Enters Tryz.prog 51 := ⟨Tryz.f51, Tryz.func51, rfl, by decide⟩
set_option maxHeartbeats 8000000 in
set_option maxRecDepth 100000 in
theorem Fspec_ConfigOk_gives (k : Nat) (g0 : Bool) (g1 : Bool) (g2 : Bool) (g3 : Bool) (a0 : Timpl_Config) (r : Bool) (H : Fspec_ConfigOk k a0 = some r) : Gives Tryz.prog 51 [V.agg [Cell.sl g0 (List.map eI a0.UserRealm), Cell.sl g1 (List.map eI a0.ServiceRealm), Cell.sl g2 (List.map eTimpl_Pair a0.Links), Cell.sl g3 (List.map eTimpl_Pair a0.Proxy), cI a0.Skew]] [] [V.one (cL r)] [] := by
 refine Gives.intro Tryz.func51 rfl rfl rfl rfl ?_
 intro F hF hm
 unfold Fspec_ConfigOk at H
 obtain ⟨K, hK⟩ : ∃ K, k ≤ K := ⟨k, Nat.le_refl k⟩
 refine WpC.seq (WpC.regionL ?_)
 refine L.box 5 hF rfl rfl rfl rfl ?_
 refine L.assign hF rfl rfl rfl (L.nil ?_)
 refine WpC.seq (WpC.regionL ?_)
 refine L.fieldAddr Tryz.underlying44 rfl info22 rfl hF rfl rfl rfl rfl rfl ?_
 refine L.loadPtr shape22 hF rfl rfl rfl rfl rfl rfl ?_
 refine L.lenR (xs := a0.UserRealm) (e := eI) Tryz.underlying22 hF rfl rfl rfl rfl ?_
 refine L.bin hF rfl rfl rfl rfl rfl rfl ?_
 refine L.move hF rfl rfl rfl ?_
 refine L.split (fun hc => ?_) (fun hc => ?_)
 ·replace H := condT hc H
  refine L.fieldAddr Tryz.underlying44 rfl info22 rfl hF rfl rfl rfl rfl rfl ?_
  refine L.loadPtr shape22 hF rfl rfl rfl rfl rfl rfl ?_
  obtain ⟨r6, hr6, H⟩ := bindS H
  refine L.call [false, false, false] [] [] 6 hF rfl rfl rfl ent104 rfl rfl rfl rfl rfl (Fspec_l5All_gives k g0 a0.UserRealm (3 : Int) (3 : Int) r6 hr6) rfl ?_
  refine L.pick hF rfl rfl rfl rfl ?_
  refine L.move hF rfl rfl rfl ?_
  refine L.split (fun hc => ?_) (fun hc => ?_)
  ·replace H := condT hc H
   refine L.fieldAddr Tryz.underlying44 rfl info22 rfl hF rfl rfl rfl rfl rfl ?_
   refine L.loadPtr shape22 hF rfl rfl rfl rfl rfl rfl ?_
   refine L.lenR (xs := a0.ServiceRealm) (e := eI) Tryz.underlying22 hF rfl rfl rfl rfl ?_
   refine L.bin hF rfl rfl rfl rfl rfl rfl ?_
   refine L.pick hF rfl rfl rfl rfl ?_
   refine L.move hF rfl rfl rfl ?_
   refine L.split (fun hc => ?_) (fun hc => ?_)
   ·replace H := condT hc H
    refine L.fieldAddr Tryz.underlying44 rfl info22 rfl hF rfl rfl rfl rfl rfl ?_
    refine L.loadPtr shape22 hF rfl rfl rfl rfl rfl rfl ?_
    obtain ⟨r7, hr7, H⟩ := bindS H
    refine L.call [false, false, false] [] [] 7 hF rfl rfl rfl ent104 rfl rfl rfl rfl rfl (Fspec_l5All_gives k g1 a0.ServiceRealm (3 : Int) (3 : Int) r7 hr7) rfl ?_
    refine L.pick hF rfl rfl rfl rfl ?_
    refine L.move hF rfl rfl rfl ?_
    refine L.split (fun hc => ?_) (fun hc => ?_)
    ·replace H := condT hc H
     refine L.fieldAddr Tryz.underlying44 rfl info42 rfl hF rfl rfl rfl rfl rfl ?_
     refine L.loadPtr shape42 hF rfl rfl rfl rfl rfl rfl ?_
     obtain ⟨r8, hr8, H⟩ := bindS H
     refine L.call [false, false, false] [] [] 8 hF rfl rfl rfl ent149 rfl rfl rfl rfl rfl (Fspec_l6Pairs_gives k g2 a0.Links (3 : Int) true r8 hr8) rfl ?_
     refine L.pick hF rfl rfl rfl rfl ?_
     refine L.move hF rfl rfl rfl ?_
     refine L.split (fun hc => ?_) (fun hc => ?_)
     ·replace H := condT hc H
      refine L.fieldAddr Tryz.underlying44 rfl info42 rfl hF rfl rfl rfl rfl rfl ?_
      refine L.loadPtr shape42 hF rfl rfl rfl rfl rfl rfl ?_
      obtain ⟨r9, hr9, H⟩ := bindS H
      refine L.call [false, false, false] [] [] 9 hF rfl rfl rfl ent149 rfl rfl rfl rfl rfl (Fspec_l6Pairs_gives k g3 a0.Proxy (3 : Int) false r9 hr9) rfl ?_
      refine L.pick hF rfl rfl rfl rfl ?_
      refine L.move hF rfl rfl rfl ?_
      refine L.split (fun hc => ?_) (fun hc => ?_)
      ·replace H := condT hc H
       refine L.fieldAddr Tryz.underlying44 rfl info3 rfl hF rfl rfl rfl rfl rfl ?_
       refine L.loadPtr shape3 hF rfl rfl rfl rfl rfl rfl ?_
       obtain ⟨r10, hr10, H⟩ := bindS H
       refine L.call [false, false, false] [] [] 10 hF rfl rfl rfl ent52 rfl rfl rfl rfl rfl (Fspec_l1In_gives k  a0.Skew (0 : Int) (20 : Int) r10 hr10) rfl ?_
       refine L.pick hF rfl rfl rfl rfl ?_
       refine L.assign hF rfl rfl rfl (L.nil ?_)
       refine WpC.ret ?_
       cases H
       exact Leaves.ret rfl rfl rfl ⟨rfl, rfl⟩
      ·replace H := condF hc H
       refine L.off hF rfl rfl ?_
       refine L.off hF rfl rfl ?_
       refine L.off hF rfl rfl ?_
       refine L.pick hF rfl rfl rfl rfl ?_
       refine L.assign hF rfl rfl rfl (L.nil ?_)
       refine WpC.ret ?_
       cases H
       exact Leaves.ret rfl rfl rfl ⟨rfl, rfl⟩
     ·replace H := condF hc H
      refine L.off hF rfl rfl ?_
      refine L.off hF rfl rfl ?_
      refine L.off hF rfl rfl ?_
      refine L.pick hF rfl rfl rfl rfl ?_
      refine L.move hF rfl rfl rfl ?_
      refine L.off hF rfl rfl ?_
      refine L.off hF rfl rfl ?_
      refine L.off hF rfl rfl ?_
      refine L.pick hF rfl rfl rfl rfl ?_
      refine L.assign hF rfl rfl rfl (L.nil ?_)
      refine WpC.ret ?_
      cases H
      exact Leaves.ret rfl rfl rfl ⟨rfl, rfl⟩
    ·replace H := condF hc H
     refine L.off hF rfl rfl ?_
     refine L.off hF rfl rfl ?_
     refine L.off hF rfl rfl ?_
     refine L.pick hF rfl rfl rfl rfl ?_
     refine L.move hF rfl rfl rfl ?_
     refine L.off hF rfl rfl ?_
     refine L.off hF rfl rfl ?_
     refine L.off hF rfl rfl ?_
     refine L.pick hF rfl rfl rfl rfl ?_
     refine L.move hF rfl rfl rfl ?_
     refine L.off hF rfl rfl ?_
     refine L.off hF rfl rfl ?_
     refine L.off hF rfl rfl ?_
     refine L.pick hF rfl rfl rfl rfl ?_
     refine L.assign hF rfl rfl rfl (L.nil ?_)
     refine WpC.ret ?_
     cases H
     exact Leaves.ret rfl rfl rfl ⟨rfl, rfl⟩
   ·replace H := condF hc H
    refine L.off hF rfl rfl ?_
    refine L.off hF rfl rfl ?_
    refine L.off hF rfl rfl ?_
    refine L.pick hF rfl rfl rfl rfl ?_
    refine L.move hF rfl rfl rfl ?_
    refine L.off hF rfl rfl ?_
    refine L.off hF rfl rfl ?_
    refine L.off hF rfl rfl ?_
    refine L.pick hF rfl rfl rfl rfl ?_
    refine L.move hF rfl rfl rfl ?_
    refine L.off hF rfl rfl ?_
    refine L.off hF rfl rfl ?_
    refine L.off hF rfl rfl ?_
    refine L.pick hF rfl rfl rfl rfl ?_
    refine L.move hF rfl rfl rfl ?_
    refine L.off hF rfl rfl ?_
    refine L.off hF rfl rfl ?_
    refine L.off hF rfl rfl ?_
    refine L.pick hF rfl rfl rfl rfl ?_
    refine L.assign hF rfl rfl rfl (L.nil ?_)
    refine WpC.ret ?_
    cases H
    exact Leaves.ret rfl rfl rfl ⟨rfl, rfl⟩
  ·replace H := condF hc H
   refine L.off hF rfl rfl ?_
   refine L.off hF rfl rfl ?_
   refine L.off hF rfl rfl ?_
   refine L.off hF rfl rfl ?_
   refine L.pick hF rfl rfl rfl rfl ?_
   refine L.move hF rfl rfl rfl ?_
   refine L.off hF rfl rfl ?_
   refine L.off hF rfl rfl ?_
   refine L.off hF rfl rfl ?_
   refine L.pick hF rfl rfl rfl rfl ?_
   refine L.move hF rfl rfl rfl ?_
   refine L.off hF rfl rfl ?_
   refine L.off hF rfl rfl ?_
   refine L.off hF rfl rfl ?_
   refine L.pick hF rfl rfl rfl rfl ?_
   refine L.move hF rfl rfl rfl ?_
   refine L.off hF rfl rfl ?_
   refine L.off hF rfl rfl ?_
   refine L.off hF rfl rfl ?_
   refine L.pick hF rfl rfl rfl rfl ?_
   refine L.move hF rfl rfl rfl ?_
   refine L.off hF rfl rfl ?_
   refine L.off hF rfl rfl ?_
   refine L.off hF rfl rfl ?_
   refine L.pick hF rfl rfl rfl rfl ?_
   refine L.assign hF rfl rfl rfl (L.nil ?_)
   refine WpC.ret ?_
   cases H
   exact Leaves.ret rfl rfl rfl ⟨rfl, rfl⟩
 ·replace H := condF hc H
  refine L.off hF rfl rfl ?_
  refine L.off hF rfl rfl ?_
  refine L.off hF rfl rfl ?_
  refine L.pick hF rfl rfl rfl rfl ?_
  refine L.move hF rfl rfl rfl ?_
  refine L.off hF rfl rfl ?_
  refine L.off hF rfl rfl ?_
  refine L.off hF rfl rfl ?_
  refine L.off hF rfl rfl ?_
  refine L.pick hF rfl rfl rfl rfl ?_
  refine L.move hF rfl rfl rfl ?_
  refine L.off hF rfl rfl ?_
  refine L.off hF rfl rfl ?_
  refine L.off hF rfl rfl ?_
  refine L.pick hF rfl rfl rfl rfl ?_
  refine L.move hF rfl rfl rfl ?_
  refine L.off hF rfl rfl ?_
  refine L.off hF rfl rfl ?_
  refine L.off hF rfl rfl ?_
  refine L.pick hF rfl rfl rfl rfl ?_
  refine L.move hF rfl rfl rfl ?_
  refine L.off hF rfl rfl ?_
  refine L.off hF rfl rfl ?_
  refine L.off hF rfl rfl ?_
  refine L.pick hF rfl rfl rfl rfl ?_
  refine L.move hF rfl rfl rfl ?_
  refine L.off hF rfl rfl ?_
  refine L.off hF rfl rfl ?_
  refine L.off hF rfl rfl ?_
  refine L.pick hF rfl rfl rfl rfl ?_
  refine L.assign hF rfl rfl rfl (L.nil ?_)
  refine WpC.ret ?_
  cases H
  exact Leaves.ret rfl rfl rfl ⟨rfl, rfl⟩
/-! ### Fspec_Var -/
def Fspec_Var.l2 : Nat → Int → (List UInt8) → Option (List UInt8)
 | 0, _, _ => none
 | k2 + 1, v16, v17 => cond (decide (v16 ≥ (128 : Int))) (cond (decide ((2 * (v17.length + ([(ofI (IntKind.i64.wrap ((128 : Int) + (Int.tmod v16 (128 : Int)))))] : List UInt8).length) + 192) * 1 ≤ 281474976710656)) ((Fspec_Var.l2 k2) (IntKind.i64.wrap (Int.tdiv v16 (128 : Int))) (v17 ++ ([(ofI (IntKind.i64.wrap ((128 : Int) + (Int.tmod v16 (128 : Int)))))] : List UInt8))) none) (cond (decide ((2 * (v17.length + ([(ofI v16)] : List UInt8).length) + 192) * 1 ≤ 281474976710656)) (some (v17 ++ ([(ofI v16)] : List UInt8))) none)
def Fspec_Var (k : Nat) (a0 : Int) : Option (List UInt8) := (Fspec_l1In k a0 (0 : Int) (562949953421311 : Int)).bind fun r2 => cond (!r2) (some ([] : List UInt8)) (Fspec_Var.l2 k a0 ([] : List UInt8))
theorem ent224 : MG.Enters Tryz.prog 224 := ⟨Tryz.f224, Tryz.func224, rfl, by decide⟩
set_option maxHeartbeats 8000000 in
set_option maxRecDepth 100000 in
theorem Fspec_Var_gives (k : Nat) (a0 : Int) (r : List UInt8) (H : Fspec_Var k a0 = some r) : Gives Tryz.prog 224 [V.one (cI a0)] [] [V.one (cS r)] [] := by
 refine Gives.intro Tryz.func224 rfl rfl rfl rfl ?_
 intro F hF hm
 unfold Fspec_Var at H
 obtain ⟨K, hK⟩ : ∃ K, k ≤ K := ⟨k, Nat.le_refl k⟩
 refine WpC.seq (WpC.regionL ?_)
 refine L.assign hF rfl rfl rfl (L.nil ?_)
 refine WpC.seq (WpC.seq (WpC.regionL ?_))
 refine L.move hF rfl rfl rfl ?_
 obtain ⟨r2, hr2, H⟩ := bindS H
 refine L.call [false, false, false] [] [] 1 hF rfl rfl rfl ent52 rfl rfl rfl rfl rfl (Fspec_l1In_gives k  a0 (0 : Int) (562949953421311 : Int) r2 hr2) rfl ?_
 refine L.not hF rfl rfl rfl (L.nil ?_)
 refine WpC.cond rfl (fun hc => ?_) (fun hc => ?_)
 ·replace H := condT hc H
  refine WpC.seq (WpC.regionL ?_)
  refine L.assign hF rfl rfl rfl (L.nil ?_)
  refine WpC.ret ?_
  cases H
  exact Leaves.ret rfl rfl rfl ⟨rfl, rfl⟩
 ·replace H := condF hc H
  refine WpC.skip (WpC.seq (WpC.regionL ?_))
  refine L.buildSlice (e := eB) 2 ([] : List UInt8) Tryz.underlying54 info5 rfl rfl rfl hF rfl rfl rfl rfl rfl rfl rfl rfl ?_
  refine L.assign hF rfl rfl rfl (L.nil ?_)
  refine WpC.seq (WpC.block ?_)
  refine WpC.loopL (P := Tryz.prog) (fun n σ => ∃ v16 : Int, ∃ v17 : List UInt8, n ≤ K ∧ Fspec_Var.l2 n v16 v17 = some r ∧ σ = mkSt [(0, one (cI v16)), (3, one (Cell.own 0))] [(0, ⟨1, List.map eB v17⟩)] [] 1) k ⟨_, ⟨a0, ([] : List UInt8), by omega, H, rfl⟩, Le.mk [(0, 2)] hm rfl (Sa2 trivial) (Ra1 trivial) trivial⟩ ?_
  clear H
  rintro k2 _ ⟨v16, v17, hk2, H, rfl⟩
  cases k2 with
  | zero => cases H
  | succ k2 =>
   rw [Fspec_Var.l2] at H
   refine WpC.seq (WpC.seq (WpC.regionL ?_))
   refine L.move hF rfl rfl rfl ?_
   refine L.bin hF rfl rfl rfl rfl rfl rfl (L.nil ?_)
   refine WpC.cond rfl (fun hc => ?_) (fun hc => ?_)
   ·replace H := condT hc H
    refine WpC.skip (WpC.block (WpC.seq (WpC.regionL ?_)))
    refine L.move hF rfl rfl rfl ?_
    refine L.move hF rfl rfl rfl ?_
    refine L.rem hF rfl rfl rfl rfl (by decide) ?_
    refine L.bin hF rfl rfl rfl rfl rfl rfl ?_
    refine L.toB Tryz.underlying3 Tryz.underlying5 hF rfl rfl rfl ?_
    refine L.buildSlice (e := eB) 1 ([(ofI (IntKind.i64.wrap ((128 : Int) + (Int.tmod v16 (128 : Int)))))] : List UInt8) Tryz.underlying54 info5 rfl rfl rfl hF rfl rfl rfl rfl rfl rfl rfl rfl ?_
    obtain ⟨h18, H⟩ := condG H
    refine L.append (xs := v17) (ys := ([(ofI (IntKind.i64.wrap ((128 : Int) + (Int.tmod v16 (128 : Int)))))] : List UInt8)) (e := eB) 2 Tryz.underlying54 info5 rfl rfl hF rfl rfl rfl rfl rfl rfl rfl rfl (fun _ => rfl) (fun _ _ h1 h2 => by cases h1; cases h2; rfl) ⟨_, Tryz.underlying54⟩ (of_decide_eq_true h18) rfl rfl ?_
    refine L.assign hF rfl rfl rfl (L.nil ?_)
    refine WpC.regionL ?_
    refine L.move hF rfl rfl rfl ?_
    refine L.quo hF rfl rfl rfl rfl (by decide) ?_
    refine L.assign hF rfl rfl rfl (L.nil ?_)
    exact ⟨k2, _, by omega, ⟨(IntKind.i64.wrap (Int.tdiv v16 (128 : Int))), (v17 ++ ([(ofI (IntKind.i64.wrap ((128 : Int) + (Int.tmod v16 (128 : Int)))))] : List UInt8)), by omega, H, rfl⟩, Le.mk [(0, 2)] hm rfl (Sa2 trivial) (Ra1 trivial) trivial⟩
   ·replace H := condF hc H
    refine WpC.exit (WpC.seq (WpC.regionL ?_))
    refine L.move hF rfl rfl rfl ?_
    refine L.move hF rfl rfl rfl ?_
    refine L.toB Tryz.underlying3 Tryz.underlying5 hF rfl rfl rfl ?_
    refine L.buildSlice (e := eB) 1 ([(ofI v16)] : List UInt8) Tryz.underlying54 info5 rfl rfl rfl hF rfl rfl rfl rfl rfl rfl rfl rfl ?_
    obtain ⟨h19, H⟩ := condG H
    refine L.append (xs := v17) (ys := ([(ofI v16)] : List UInt8)) (e := eB) 2 Tryz.underlying54 info5 rfl rfl hF rfl rfl rfl rfl rfl rfl rfl rfl (fun _ => rfl) (fun _ _ h1 h2 => by cases h1; cases h2; rfl) ⟨_, Tryz.underlying54⟩ (of_decide_eq_true h19) rfl rfl ?_
    refine L.b2s (xs := (v17 ++ ([(ofI v16)] : List UInt8))) Tryz.underlying54 Tryz.underlying5 Tryz.underlying9 hF rfl rfl rfl rfl ?_
    refine L.assign hF rfl rfl rfl (L.nil ?_)
    refine WpC.ret ?_
    cases H
    exact Leaves.ret rfl rfl rfl ⟨rfl, rfl⟩
/-! ### Fspec_ReadVar -/
def Fspec_ReadVar.l26 (cl22 : (List UInt8) → Int → Option (Int × Int)) : Nat → (List UInt8) → Int → Int → Int → Option (Int × Int)
 | 0, _, _, _, _ => none
 | k26 + 1, v411, v412, v413, v414 => cond (decide (v414 ≥ (0 : Int))) ((at? v411 v414).bind fun b416 => (Fspec_ReadVar.l26 cl22 k26) v411 v412 (IntKind.i64.wrap ((IntKind.i64.wrap (v413 * (128 : Int))) + (Int.tmod (b416.toNat : Int) (128 : Int)))) (IntKind.i64.wrap (v414 - (1 : Int)))) ((Fspec_Var k26 v413).bind fun r417 => (cut? v411 (0 : Int) v412).bind fun b418 => cond (r417 == b418) (some (v413, v412)) (cl22 v411 (IntKind.i64.wrap (v412 + (1 : Int)))))
def Fspec_ReadVar.l22 : Nat → (List UInt8) → Int → Option (Int × Int)
 | 0, _, _ => none
 | k22 + 1, v345, v346 => cond (decide (v346 ≤ (7 : Int))) (cond (decide (v346 ≤ (v345.length : Int))) (Fspec_ReadVar.l26 (Fspec_ReadVar.l22 k22) k22 v345 v346 (0 : Int) (IntKind.i64.wrap (v346 - (1 : Int)))) (some ((0 : Int), (0 : Int)))) (some ((0 : Int), (0 : Int)))
def Fspec_ReadVar (k : Nat) (a0 : List UInt8) : Option (Int × Int) := Fspec_ReadVar.l22 k a0 (1 : Int)
theorem ent143 : MG.Enters Tryz.prog 143 := ⟨Tryz.f143, Tryz.func143, rfl, by decide⟩
set_option maxHeartbeats 8000000 in
set_option maxRecDepth 100000 in
theorem Fspec_ReadVar_gives (k : Nat) (a0 : List UInt8) (r : Int × Int) (H : Fspec_ReadVar k a0 = some r) : Gives Tryz.prog 143 [V.one (cS a0)] [] [V.one (cI r.1), V.one (cI r.2)] [] := by
 refine Gives.intro Tryz.func143 rfl rfl rfl rfl ?_
 intro F hF hm
 unfold Fspec_ReadVar at H
 obtain ⟨K, hK⟩ : ∃ K, k ≤ K := ⟨k, Nat.le_refl k⟩
 refine WpC.seq (WpC.regionL ?_)
 refine L.assign hF rfl rfl rfl ?_
 refine L.assign hF rfl rfl rfl (L.nil ?_)
 refine WpC.seq (WpC.seq (WpC.regionL ?_))
 refine L.assign hF rfl rfl rfl (L.nil ?_)
 refine WpC.block ?_
 refine WpC.loopL (P := Tryz.prog) (fun n σ => ∃ v345 : List UInt8, ∃ v346 : Int, n ≤ K ∧ Fspec_ReadVar.l22 n v345 v346 = some r ∧ σ = mkSt [(0, one (cS v345)), (4, one (cI v346))] [] [] 0) k ⟨_, ⟨a0, (1 : Int), by omega, H, rfl⟩, Le.mk [] hm rfl (Sa2 trivial) trivial trivial⟩ ?_
 clear H
 rintro k22 _ ⟨v345, v346, hk22, H, rfl⟩
 cases k22 with
 | zero => cases H
 | succ k22 =>
  rw [Fspec_ReadVar.l22] at H
  refine WpC.seq (WpC.seq (WpC.regionL ?_))
  refine L.move hF rfl rfl rfl ?_
  refine L.bin hF rfl rfl rfl rfl rfl rfl ?_
  refine L.move hF rfl rfl rfl ?_
  refine L.split (fun hc => ?_) (fun hc => ?_)
  ·replace H := condT hc H
   refine L.move hF rfl rfl rfl ?_
   refine L.move hF rfl rfl rfl ?_
   refine L.lenS Tryz.underlying9 hF rfl rfl rfl ?_
   refine L.bin hF rfl rfl rfl rfl rfl rfl ?_
   refine L.pick hF rfl rfl rfl rfl (L.nil ?_)
   refine WpC.cond rfl (fun hc => ?_) (fun hc => ?_)
   ·replace H := condT hc H
    refine WpC.skip (WpC.seq (WpC.block (WpC.seq (WpC.regionL ?_))))
    refine L.assign hF rfl rfl rfl (L.nil ?_)
    refine WpC.seq (WpC.seq (WpC.regionL ?_))
    refine L.move hF rfl rfl rfl ?_
    refine L.bin hF rfl rfl rfl rfl rfl rfl ?_
    refine L.assign hF rfl rfl rfl (L.nil ?_)
    refine WpC.block ?_
    refine WpC.loopL (P := Tryz.prog) (fun n σ => ∃ v411 : List UInt8, ∃ v412 : Int, ∃ v413 : Int, ∃ v414 : Int, n ≤ K ∧ Fspec_ReadVar.l26 (Fspec_ReadVar.l22 k22) n v411 v412 v413 v414 = some r ∧ σ = mkSt [(0, one (cS v411)), (4, one (cI v412)), (5, one (cI v413)), (6, one (cI v414))] [] [] 0) k22 ⟨_, ⟨v345, v346, (0 : Int), (IntKind.i64.wrap (v346 - (1 : Int))), by omega, H, rfl⟩, Le.mk [] hm rfl (Sa4 trivial) trivial trivial⟩ ?_
    clear H
    rintro k26 _ ⟨v411, v412, v413, v414, hk26, H, rfl⟩
    cases k26 with
    | zero => cases H
    | succ k26 =>
     rw [Fspec_ReadVar.l26] at H
     refine WpC.seq (WpC.seq (WpC.regionL ?_))
     refine L.move hF rfl rfl rfl ?_
     refine L.bin hF rfl rfl rfl rfl rfl rfl (L.nil ?_)
     refine WpC.cond rfl (fun hc => ?_) (fun hc => ?_)
     ·replace H := condT hc H
      refine WpC.skip (WpC.seq (WpC.block (WpC.regionL ?_)))
      refine L.move hF rfl rfl rfl ?_
      refine L.bin hF rfl rfl rfl rfl rfl rfl ?_
      refine L.move hF rfl rfl rfl ?_
      refine L.move hF rfl rfl rfl ?_
      obtain ⟨b416, hb416, H⟩ := bindS H
      refine L.idxS Tryz.underlying9 hF rfl rfl rfl rfl hb416 ?_
      refine L.ofB Tryz.underlying5 Tryz.underlying3 hF rfl rfl rfl ?_
      refine L.rem hF rfl rfl rfl rfl (by decide) ?_
      refine L.bin hF rfl rfl rfl rfl rfl rfl ?_
      refine L.assign hF rfl rfl rfl (L.nil ?_)
      refine WpC.regionL ?_
      refine L.move hF rfl rfl rfl ?_
      refine L.bin hF rfl rfl rfl rfl rfl rfl ?_
      refine L.assign hF rfl rfl rfl (L.nil ?_)
      exact ⟨k26, _, by omega, ⟨v411, v412, (IntKind.i64.wrap ((IntKind.i64.wrap (v413 * (128 : Int))) + (Int.tmod (b416.toNat : Int) (128 : Int)))), (IntKind.i64.wrap (v414 - (1 : Int))), by omega, H, rfl⟩, Le.mk [] hm rfl (Sa4 trivial) trivial trivial⟩
     ·replace H := condF hc H
      refine WpC.exit (WpC.seq ?_)
      obtain ⟨r417, hr417, H⟩ := bindS H
      obtain ⟨b418, hb418, H⟩ := bindS H
      refine A.begin mixed rfl rfl ?_
      intro W hI hO
      refine hI _ _ _ ?_
      refine Atk 0 rfl (Ca.move) (fun Q0 k0 => L.move hF rfl rfl rfl (L.nil k0)) ?_
      refine Atk 2 rfl (Ca.move) (fun Q0 k0 => L.move hF rfl rfl rfl (L.nil k0)) ?_
      refine Atk 3 rfl (Ca.move) (fun Q0 k0 => L.move hF rfl rfl rfl (L.nil k0)) ?_
      refine Atk 4 rfl (Ca.slice) (fun Q0 k0 => L.cutS Tryz.underlying9 hF rfl rfl rfl rfl rfl hb418 (L.nil k0)) ?_
      refine A.all [1] (by kernel_rfl) rfl ⟨⟨_, rfl, ?_⟩, trivial⟩
      refine L.call [false] [] [] 0 hF rfl rfl rfl ent224 rfl rfl rfl rfl rfl (Fspec_Var_gives k26  v413 r417 hr417) rfl (L.nil ?_)
      refine Atk 5 rfl (Ca.bin rfl rfl (calm_str _ _ _ _ _ _)) (fun Q0 k0 => L.binS hF rfl rfl rfl rfl rfl (L.nil k0)) ?_
      refine A.le (τ := mkSt [(0, one (cS v411)), (4, one (cI v412)), (5, one (cI v413)), (36, one (cL (r417 == b418)))] [] [] 0) (Le.mk [] hm rfl (Sa4 trivial) trivial trivial) ?_
      refine A.done (by kernel_rfl) ?_
      refine WpC.cond rfl (fun hc => ?_) (fun hc => ?_)
      ·replace H := condT hc H
       refine WpC.seq (WpC.regionL ?_)
       refine L.move hF rfl rfl rfl ?_
       refine L.move hF rfl rfl rfl ?_
       refine L.assign hF rfl rfl rfl ?_
       refine L.assign hF rfl rfl rfl (L.nil ?_)
       refine WpC.ret ?_
       cases H
       exact Leaves.ret rfl rfl rfl ⟨rfl, rfl⟩
      ·replace H := condF hc H
       refine WpC.skip (WpC.regionL ?_)
       refine L.move hF rfl rfl rfl ?_
       refine L.bin hF rfl rfl rfl rfl rfl rfl ?_
       refine L.assign hF rfl rfl rfl (L.nil ?_)
       exact ⟨k22, _, by omega, ⟨v411, (IntKind.i64.wrap (v412 + (1 : Int))), by omega, H, rfl⟩, Le.mk [] hm rfl (Sa2 trivial) trivial trivial⟩
   ·replace H := condF hc H
    refine WpC.exit (WpC.seq (WpC.regionL ?_))
    refine L.assign hF rfl rfl rfl ?_
    refine L.assign hF rfl rfl rfl (L.nil ?_)
    refine WpC.ret ?_
    cases H
    exact Leaves.ret rfl rfl rfl ⟨rfl, rfl⟩
  ·replace H := condF hc H
   refine L.off hF rfl rfl ?_
   refine L.off hF rfl rfl ?_
   refine L.off hF rfl rfl ?_
   refine L.off hF rfl rfl ?_
   refine L.pick hF rfl rfl rfl rfl (L.nil ?_)
   refine WpC.cond rfl (fun hc => by cases hc) (fun _ => ?_)
   refine WpC.exit (WpC.seq (WpC.regionL ?_))
   refine L.assign hF rfl rfl rfl ?_
   refine L.assign hF rfl rfl rfl (L.nil ?_)
   refine WpC.ret ?_
   cases H
   exact Leaves.ret rfl rfl rfl ⟨rfl, rfl⟩
/-! ### Fspec_l2Term -/
def Fspec_l2Term.j16 (cl15 : (List UInt8) → Int → Int → Int → Int → Int → Int → Option (Int × Int)) (k : Nat) (v191 : List UInt8) (v192 : Int) (v193 : Int) (v194 : Int) (v195 : Int) (v196 : Int) (v197 : Int) : Option (Int × Int) := cl15 v191 v192 v193 v194 v195 v196 (IntKind.i64.wrap (v197 + (1 : Int)))
def Fspec_l2Term.l15 (cREC : (List UInt8) → Int → Int → Option (Int × Int)) : Nat → (List UInt8) → Int → Int → Int → Int → Int → Int → Option (Int × Int)
 | 0, _, _, _, _, _, _, _ => none
 | k15 + 1, v183, v184, v185, v186, v187, v188, v189 => cond (decide (v189 < v186)) ((cREC v183 v187 (IntKind.i64.wrap (v185 - (1 : Int)))).bind fun r198 => cond (r198.1 == (0 : Int)) (some ((0 : Int), (0 : Int))) (cond (decide (r198.2 > v188)) (Fspec_l2Term.j16 (Fspec_l2Term.l15 cREC k15) k15 v183 v184 v185 v186 (IntKind.i64.wrap (v187 + r198.1)) r198.2 v189) (Fspec_l2Term.j16 (Fspec_l2Term.l15 cREC k15) k15 v183 v184 v185 v186 (IntKind.i64.wrap (v187 + r198.1)) v188 v189))) (some ((IntKind.i64.wrap (v187 - v184)), (IntKind.i64.wrap ((1 : Int) + v188))))
def Fspec_l2Term : Nat → (List UInt8) → Int → Int → Option (Int × Int)
 | 0, _, _, _ => none
 | k + 1, a0, a1, a2 => cond (decide (a1 ≥ (a0.length : Int))) (some ((0 : Int), (0 : Int))) (cond (decide (a2 < (1 : Int))) (some ((0 : Int), (0 : Int))) ((cut? a0 (IntKind.i64.wrap (a1 + (1 : Int))) (a0.length : Int)).bind fun b1 => (Fspec_ReadVar k b1).bind fun r2 => cond (r2.2 == (0 : Int)) (some ((0 : Int), (0 : Int))) ((at? a0 a1).bind fun b101 => cond (b101 == (97 : UInt8)) (cond (decide (r2.1 > (40 : Int))) (some ((0 : Int), (0 : Int))) (cond (decide (r2.1 > (IntKind.i64.wrap ((a0.length : Int) - (IntKind.i64.wrap ((IntKind.i64.wrap (a1 + (1 : Int))) + r2.2)))))) (some ((0 : Int), (0 : Int))) (some ((IntKind.i64.wrap ((IntKind.i64.wrap ((1 : Int) + r2.2)) + r2.1)), (1 : Int))))) (cond (b101 == (107 : UInt8)) ((Fspec_l1In k r2.1 (1 : Int) (1000000 : Int)).bind fun r103 => cond (!r103) (some ((0 : Int), (0 : Int))) (some ((IntKind.i64.wrap ((1 : Int) + r2.2)), (1 : Int)))) (cond (b101 == (115 : UInt8)) (((Fspec_l2Term k) a0 (IntKind.i64.wrap ((IntKind.i64.wrap (a1 + (1 : Int))) + r2.2)) (IntKind.i64.wrap (a2 - (1 : Int)))).bind fun r104 => cond (r104.1 == (0 : Int)) (some ((0 : Int), (0 : Int))) ((Fspec_l1In k r2.1 (1 : Int) (1000000 : Int)).bind fun r108 => cond (!r108) (some ((0 : Int), (0 : Int))) (some ((IntKind.i64.wrap ((IntKind.i64.wrap ((1 : Int) + r2.2)) + r104.1)), (IntKind.i64.wrap ((1 : Int) + r104.2)))))) (cond (b101 == (108 : UInt8)) (cond (decide (r2.1 > (12 : Int))) (some ((0 : Int), (0 : Int))) (Fspec_l2Term.l15 (Fspec_l2Term k) k a0 a1 a2 r2.1 (IntKind.i64.wrap ((IntKind.i64.wrap (a1 + (1 : Int))) + r2.2)) (0 : Int) (0 : Int))) (some ((0 : Int), (0 : Int)))))))))
theorem ent144 : MG.Enters Tryz.prog 144 := ⟨Tryz.f144, Tryz.func144, rfl, by decide⟩
set_option maxHeartbeats 8000000 in
set_option maxRecDepth 100000 in
theorem Fspec_l2Term_gives : ∀ (k : Nat) (a0 : List UInt8) (a1 : Int) (a2 : Int) (r : Int × Int) (H : Fspec_l2Term k a0 a1 a2 = some r), Gives Tryz.prog 144 [V.one (cS a0), V.one (cI a1), V.one (cI a2)] [] [V.one (cI r.1), V.one (cI r.2)] [] := by
 intro k
 induction k with
 | zero => intros; rename_i H; cases H
 | succ k ih =>
  intro a0 a1 a2 r H
  refine Gives.intro Tryz.func144 rfl rfl rfl rfl ?_
  intro F hF hm
  rw [Fspec_l2Term] at H
  obtain ⟨K, hK⟩ : ∃ K, k ≤ K := ⟨k, Nat.le_refl k⟩
  refine WpC.seq (WpC.regionL ?_)
  refine L.assign hF rfl rfl rfl ?_
  refine L.assign hF rfl rfl rfl (L.nil ?_)
  refine WpC.seq (WpC.seq (WpC.regionL ?_))
  refine L.move hF rfl rfl rfl ?_
  refine L.move hF rfl rfl rfl ?_
  refine L.lenS Tryz.underlying9 hF rfl rfl rfl ?_
  refine L.bin hF rfl rfl rfl rfl rfl rfl ?_
  refine L.move hF rfl rfl rfl ?_
  refine L.split (fun hc => ?_) (fun hc => ?_)
  ·replace H := condT hc H
   refine L.off hF rfl rfl ?_
   refine L.off hF rfl rfl ?_
   refine L.pick hF rfl rfl rfl rfl (L.nil ?_)
   refine WpC.cond rfl (fun _ => ?_) (fun hc => by cases hc)
   refine WpC.seq (WpC.regionL ?_)
   refine L.assign hF rfl rfl rfl ?_
   refine L.assign hF rfl rfl rfl (L.nil ?_)
   refine WpC.ret ?_
   cases H
   exact Leaves.ret rfl rfl rfl ⟨rfl, rfl⟩
  ·replace H := condF hc H
   refine L.move hF rfl rfl rfl ?_
   refine L.bin hF rfl rfl rfl rfl rfl rfl ?_
   refine L.pick hF rfl rfl rfl rfl (L.nil ?_)
   refine WpC.cond rfl (fun hc => ?_) (fun hc => ?_)
   ·replace H := condT hc H
    refine WpC.seq (WpC.regionL ?_)
    refine L.assign hF rfl rfl rfl ?_
    refine L.assign hF rfl rfl rfl (L.nil ?_)
    refine WpC.ret ?_
    cases H
    exact Leaves.ret rfl rfl rfl ⟨rfl, rfl⟩
   ·replace H := condF hc H
    refine WpC.skip (WpC.seq (WpC.regionL ?_))
    refine L.move hF rfl rfl rfl ?_
    refine L.move hF rfl rfl rfl ?_
    refine L.bin hF rfl rfl rfl rfl rfl rfl ?_
    obtain ⟨b1, hb1, H⟩ := bindS H
    refine L.cutS Tryz.underlying9 hF rfl rfl rfl rfl rfl hb1 ?_
    obtain ⟨r2, hr2, H⟩ := bindS H
    refine L.call [false] [] [] 3 hF rfl rfl rfl ent143 rfl rfl rfl rfl rfl (Fspec_ReadVar_gives k  b1 r2 hr2) rfl ?_
    refine L.move hF rfl rfl rfl ?_
    refine L.extract hF rfl rfl rfl rfl ?_
    refine L.extract hF rfl rfl rfl rfl ?_
    refine L.assign hF rfl rfl rfl ?_
    refine L.assign hF rfl rfl rfl (L.nil ?_)
    refine WpC.seq (WpC.seq (WpC.regionL ?_))
    refine L.move hF rfl rfl rfl ?_
    refine L.bin hF rfl rfl rfl rfl rfl rfl (L.nil ?_)
    refine WpC.cond rfl (fun hc => ?_) (fun hc => ?_)
    ·replace H := condT hc H
     refine WpC.seq (WpC.regionL ?_)
     refine L.assign hF rfl rfl rfl ?_
     refine L.assign hF rfl rfl rfl (L.nil ?_)
     refine WpC.ret ?_
     cases H
     exact Leaves.ret rfl rfl rfl ⟨rfl, rfl⟩
    ·replace H := condF hc H
     refine WpC.skip (WpC.seq (WpC.regionL ?_))
     refine L.move hF rfl rfl rfl ?_
     refine L.bin hF rfl rfl rfl rfl rfl rfl ?_
     refine L.move hF rfl rfl rfl ?_
     refine L.bin hF rfl rfl rfl rfl rfl rfl ?_
     refine L.assign hF rfl rfl rfl (L.nil ?_)
     refine WpC.seq (WpC.seq (WpC.regionL ?_))
     refine L.move hF rfl rfl rfl ?_
     refine L.move hF rfl rfl rfl ?_
     obtain ⟨b101, hb101, H⟩ := bindS H
     refine L.idxS Tryz.underlying9 hF rfl rfl rfl rfl hb101 (L.nil ?_)
     refine WpC.block (WpC.seq (WpC.regionL ?_))
     refine L.binB (a := b101) (b := (97 : UInt8)) hF rfl rfl rfl rfl rfl ?_
     refine L.assign hF rfl rfl rfl (L.nil ?_)
     refine WpC.cond rfl (fun hc => ?_) (fun hc => ?_)
     ·replace H := condT hc H
      refine WpC.seq (WpC.seq (WpC.regionL ?_))
      refine L.move hF rfl rfl rfl ?_
      refine L.bin hF rfl rfl rfl rfl rfl rfl ?_
      refine L.move hF rfl rfl rfl ?_
      refine L.split (fun hc => ?_) (fun hc => ?_)
      ·replace H := condT hc H
       refine L.off hF rfl rfl ?_
       refine L.off hF rfl rfl ?_
       refine L.off hF rfl rfl ?_
       refine L.off hF rfl rfl ?_
       refine L.off hF rfl rfl ?_
       refine L.off hF rfl rfl ?_
       refine L.pick hF rfl rfl rfl rfl (L.nil ?_)
       refine WpC.cond rfl (fun _ => ?_) (fun hc => by cases hc)
       refine WpC.seq (WpC.regionL ?_)
       refine L.assign hF rfl rfl rfl ?_
       refine L.assign hF rfl rfl rfl (L.nil ?_)
       refine WpC.ret ?_
       cases H
       exact Leaves.ret rfl rfl rfl ⟨rfl, rfl⟩
      ·replace H := condF hc H
       refine L.move hF rfl rfl rfl ?_
       refine L.move hF rfl rfl rfl ?_
       refine L.lenS Tryz.underlying9 hF rfl rfl rfl ?_
       refine L.move hF rfl rfl rfl ?_
       refine L.bin hF rfl rfl rfl rfl rfl rfl ?_
       refine L.bin hF rfl rfl rfl rfl rfl rfl ?_
       refine L.pick hF rfl rfl rfl rfl (L.nil ?_)
       refine WpC.cond rfl (fun hc => ?_) (fun hc => ?_)
       ·replace H := condT hc H
        refine WpC.seq (WpC.regionL ?_)
        refine L.assign hF rfl rfl rfl ?_
        refine L.assign hF rfl rfl rfl (L.nil ?_)
        refine WpC.ret ?_
        cases H
        exact Leaves.ret rfl rfl rfl ⟨rfl, rfl⟩
       ·replace H := condF hc H
        refine WpC.skip (WpC.seq (WpC.regionL ?_))
        refine L.move hF rfl rfl rfl ?_
        refine L.bin hF rfl rfl rfl rfl rfl rfl ?_
        refine L.move hF rfl rfl rfl ?_
        refine L.bin hF rfl rfl rfl rfl rfl rfl ?_
        refine L.assign hF rfl rfl rfl ?_
        refine L.assign hF rfl rfl rfl (L.nil ?_)
        refine WpC.ret ?_
        cases H
        exact Leaves.ret rfl rfl rfl ⟨rfl, rfl⟩
     ·replace H := condF hc H
      refine WpC.seq (WpC.regionL ?_)
      refine L.binB (a := b101) (b := (107 : UInt8)) hF rfl rfl rfl rfl rfl ?_
      refine L.assign hF rfl rfl rfl (L.nil ?_)
      refine WpC.cond rfl (fun hc => ?_) (fun hc => ?_)
      ·replace H := condT hc H
       refine WpC.seq (WpC.seq (WpC.regionL ?_))
       refine L.move hF rfl rfl rfl ?_
       obtain ⟨r103, hr103, H⟩ := bindS H
       refine L.call [false, false, false] [] [] 5 hF rfl rfl rfl ent52 rfl rfl rfl rfl rfl (Fspec_l1In_gives k  r2.1 (1 : Int) (1000000 : Int) r103 hr103) rfl ?_
       refine L.not hF rfl rfl rfl (L.nil ?_)
       refine WpC.cond rfl (fun hc => ?_) (fun hc => ?_)
       ·replace H := condT hc H
        refine WpC.seq (WpC.regionL ?_)
        refine L.assign hF rfl rfl rfl ?_
        refine L.assign hF rfl rfl rfl (L.nil ?_)
        refine WpC.ret ?_
        cases H
        exact Leaves.ret rfl rfl rfl ⟨rfl, rfl⟩
       ·replace H := condF hc H
        refine WpC.skip (WpC.seq (WpC.regionL ?_))
        refine L.move hF rfl rfl rfl ?_
        refine L.bin hF rfl rfl rfl rfl rfl rfl ?_
        refine L.assign hF rfl rfl rfl ?_
        refine L.assign hF rfl rfl rfl (L.nil ?_)
        refine WpC.ret ?_
        cases H
        exact Leaves.ret rfl rfl rfl ⟨rfl, rfl⟩
      ·replace H := condF hc H
       refine WpC.seq (WpC.regionL ?_)
       refine L.binB (a := b101) (b := (115 : UInt8)) hF rfl rfl rfl rfl rfl ?_
       refine L.assign hF rfl rfl rfl (L.nil ?_)
       refine WpC.cond rfl (fun hc => ?_) (fun hc => ?_)
       ·replace H := condT hc H
        refine WpC.seq (WpC.regionL ?_)
        refine L.move hF rfl rfl rfl ?_
        refine L.move hF rfl rfl rfl ?_
        refine L.move hF rfl rfl rfl ?_
        refine L.bin hF rfl rfl rfl rfl rfl rfl ?_
        obtain ⟨r104, hr104, H⟩ := bindS H
        refine L.call [false, false, false] [] [] 5 hF rfl rfl rfl ent144 rfl rfl rfl rfl rfl (ih  a0 (IntKind.i64.wrap ((IntKind.i64.wrap (a1 + (1 : Int))) + r2.2)) (IntKind.i64.wrap (a2 - (1 : Int))) r104 hr104) rfl ?_
        refine L.move hF rfl rfl rfl ?_
        refine L.extract hF rfl rfl rfl rfl ?_
        refine L.extract hF rfl rfl rfl rfl ?_
        refine L.assign hF rfl rfl rfl ?_
        refine L.assign hF rfl rfl rfl (L.nil ?_)
        refine WpC.seq (WpC.seq (WpC.regionL ?_))
        refine L.move hF rfl rfl rfl ?_
        refine L.bin hF rfl rfl rfl rfl rfl rfl ?_
        refine L.move hF rfl rfl rfl ?_
        refine L.split (fun hc => ?_) (fun hc => ?_)
        ·replace H := condT hc H
         refine L.off hF rfl rfl ?_
         refine L.off hF rfl rfl ?_
         refine L.off hF rfl rfl ?_
         refine L.pick hF rfl rfl rfl rfl (L.nil ?_)
         refine WpC.cond rfl (fun _ => ?_) (fun hc => by cases hc)
         refine WpC.seq (WpC.regionL ?_)
         refine L.assign hF rfl rfl rfl ?_
         refine L.assign hF rfl rfl rfl (L.nil ?_)
         refine WpC.ret ?_
         cases H
         exact Leaves.ret rfl rfl rfl ⟨rfl, rfl⟩
        ·replace H := condF hc H
         refine L.move hF rfl rfl rfl ?_
         obtain ⟨r108, hr108, H⟩ := bindS H
         refine L.call [false, false, false] [] [] 7 hF rfl rfl rfl ent52 rfl rfl rfl rfl rfl (Fspec_l1In_gives k  r2.1 (1 : Int) (1000000 : Int) r108 hr108) rfl ?_
         refine L.not hF rfl rfl rfl ?_
         refine L.pick hF rfl rfl rfl rfl (L.nil ?_)
         refine WpC.cond rfl (fun hc => ?_) (fun hc => ?_)
         ·replace H := condT hc H
          refine WpC.seq (WpC.regionL ?_)
          refine L.assign hF rfl rfl rfl ?_
          refine L.assign hF rfl rfl rfl (L.nil ?_)
          refine WpC.ret ?_
          cases H
          exact Leaves.ret rfl rfl rfl ⟨rfl, rfl⟩
         ·replace H := condF hc H
          refine WpC.skip (WpC.seq (WpC.regionL ?_))
          refine L.move hF rfl rfl rfl ?_
          refine L.bin hF rfl rfl rfl rfl rfl rfl ?_
          refine L.move hF rfl rfl rfl ?_
          refine L.bin hF rfl rfl rfl rfl rfl rfl ?_
          refine L.move hF rfl rfl rfl ?_
          refine L.bin hF rfl rfl rfl rfl rfl rfl ?_
          refine L.assign hF rfl rfl rfl ?_
          refine L.assign hF rfl rfl rfl (L.nil ?_)
          refine WpC.ret ?_
          cases H
          exact Leaves.ret rfl rfl rfl ⟨rfl, rfl⟩
       ·replace H := condF hc H
        refine WpC.seq (WpC.regionL ?_)
        refine L.binB (a := b101) (b := (108 : UInt8)) hF rfl rfl rfl rfl rfl ?_
        refine L.assign hF rfl rfl rfl (L.nil ?_)
        refine WpC.cond rfl (fun hc => ?_) (fun hc => ?_)
        ·replace H := condT hc H
         refine WpC.seq (WpC.seq (WpC.regionL ?_))
         refine L.move hF rfl rfl rfl ?_
         refine L.bin hF rfl rfl rfl rfl rfl rfl (L.nil ?_)
         refine WpC.cond rfl (fun hc => ?_) (fun hc => ?_)
         ·replace H := condT hc H
          refine WpC.seq (WpC.regionL ?_)
          refine L.assign hF rfl rfl rfl ?_
          refine L.assign hF rfl rfl rfl (L.nil ?_)
          refine WpC.ret ?_
          cases H
          exact Leaves.ret rfl rfl rfl ⟨rfl, rfl⟩
         ·replace H := condF hc H
          refine WpC.skip (WpC.seq (WpC.regionL ?_))
          refine L.assign hF rfl rfl rfl (L.nil ?_)
          refine WpC.seq (WpC.seq (WpC.regionL ?_))
          refine L.assign hF rfl rfl rfl (L.nil ?_)
          refine WpC.block ?_
          refine WpC.loopL (P := Tryz.prog) (fun n σ => ∃ v183 : List UInt8, ∃ v184 : Int, ∃ v185 : Int, ∃ v186 : Int, ∃ v187 : Int, ∃ v188 : Int, ∃ v189 : Int, n ≤ K ∧ Fspec_l2Term.l15 (Fspec_l2Term k) n v183 v184 v185 v186 v187 v188 v189 = some r ∧ σ = mkSt [(0, one (cS v183)), (1, one (cI v184)), (2, one (cI v185)), (8, one (cI v186)), (10, one (cI v187)), (13, one (cI v188)), (14, one (cI v189))] [] [] 0) k ⟨_, ⟨a0, a1, a2, r2.1, (IntKind.i64.wrap ((IntKind.i64.wrap (a1 + (1 : Int))) + r2.2)), (0 : Int), (0 : Int), by omega, H, rfl⟩, Le.mk [] hm rfl (Sa4 (Sa2 (Sa1 trivial))) trivial trivial⟩ ?_
          clear H
          rintro k15 _ ⟨v183, v184, v185, v186, v187, v188, v189, hk15, H, rfl⟩
          cases k15 with
          | zero => cases H
          | succ k15 =>
           rw [Fspec_l2Term.l15] at H
           refine WpC.seq (WpC.seq (WpC.regionL ?_))
           refine L.move hF rfl rfl rfl ?_
           refine L.move hF rfl rfl rfl ?_
           refine L.bin hF rfl rfl rfl rfl rfl rfl (L.nil ?_)
           refine WpC.cond rfl (fun hc => ?_) (fun hc => ?_)
           ·replace H := condT hc H
            refine WpC.skip ?_
            refine WpC.join (fun σ => ∃ kj16 : Nat, ∃ v191 : List UInt8, ∃ v192 : Int, ∃ v193 : Int, ∃ v194 : Int, ∃ v195 : Int, ∃ v196 : Int, ∃ v197 : Int, kj16 ≤ K ∧ Fspec_l2Term.j16 (Fspec_l2Term.l15 (Fspec_l2Term k) k15) kj16 v191 v192 v193 v194 v195 v196 v197 = some r ∧ σ = mkSt [(0, one (cS v191)), (1, one (cI v192)), (2, one (cI v193)), (8, one (cI v194)), (10, one (cI v195)), (13, one (cI v196)), (14, one (cI v197))] [] [] 0) ?_ ?_
            ·rintro _ ⟨kj16, v191, v192, v193, v194, v195, v196, v197, hkj16, H, rfl⟩
             unfold Fspec_l2Term.j16 at H
             refine WpC.regionL ?_
             refine L.move hF rfl rfl rfl ?_
             refine L.bin hF rfl rfl rfl rfl rfl rfl ?_
             refine L.assign hF rfl rfl rfl (L.nil ?_)
             exact ⟨k15, _, by omega, ⟨v191, v192, v193, v194, v195, v196, (IntKind.i64.wrap (v197 + (1 : Int))), by omega, H, rfl⟩, Le.mk [] hm rfl (Sa4 (Sa2 (Sa1 trivial))) trivial trivial⟩
            ·refine WpC.block (WpC.seq (WpC.regionL ?_))
             refine L.move hF rfl rfl rfl ?_
             refine L.move hF rfl rfl rfl ?_
             refine L.move hF rfl rfl rfl ?_
             refine L.bin hF rfl rfl rfl rfl rfl rfl ?_
             obtain ⟨r198, hr198, H⟩ := bindS H
             refine L.call [false, false, false] [] [] 0 hF rfl rfl rfl ent144 rfl rfl rfl rfl rfl (ih  v183 v187 (IntKind.i64.wrap (v185 - (1 : Int))) r198 hr198) rfl ?_
             refine L.move hF rfl rfl rfl ?_
             refine L.extract hF rfl rfl rfl rfl ?_
             refine L.extract hF rfl rfl rfl rfl ?_
             refine L.assign hF rfl rfl rfl ?_
             refine L.assign hF rfl rfl rfl (L.nil ?_)
             refine WpC.seq (WpC.seq (WpC.regionL ?_))
             refine L.move hF rfl rfl rfl ?_
             refine L.bin hF rfl rfl rfl rfl rfl rfl (L.nil ?_)
             refine WpC.cond rfl (fun hc => ?_) (fun hc => ?_)
             ·replace H := condT hc H
              refine WpC.seq (WpC.regionL ?_)
              refine L.assign hF rfl rfl rfl ?_
              refine L.assign hF rfl rfl rfl (L.nil ?_)
              refine WpC.ret ?_
              cases H
              exact Leaves.ret rfl rfl rfl ⟨rfl, rfl⟩
             ·replace H := condF hc H
              refine WpC.skip (WpC.seq (WpC.regionL ?_))
              refine L.move hF rfl rfl rfl ?_
              refine L.move hF rfl rfl rfl ?_
              refine L.bin hF rfl rfl rfl rfl rfl rfl ?_
              refine L.assign hF rfl rfl rfl (L.nil ?_)
              refine WpC.seq (WpC.regionL ?_)
              refine L.move hF rfl rfl rfl ?_
              refine L.move hF rfl rfl rfl ?_
              refine L.bin hF rfl rfl rfl rfl rfl rfl (L.nil ?_)
              refine WpC.cond rfl (fun hc => ?_) (fun hc => ?_)
              ·replace H := condT hc H
               refine WpC.regionL ?_
               refine L.move hF rfl rfl rfl ?_
               refine L.assign hF rfl rfl rfl (L.nil ?_)
               exact ⟨_, ⟨k15, v183, v184, v185, v186, (IntKind.i64.wrap (v187 + r198.1)), r198.2, v189, by omega, H, rfl⟩, Le.mk [] hm rfl (Sa4 (Sa2 (Sa1 trivial))) trivial trivial⟩
              ·replace H := condF hc H
               refine WpC.skip ?_
               exact ⟨_, ⟨k15, v183, v184, v185, v186, (IntKind.i64.wrap (v187 + r198.1)), v188, v189, by omega, H, rfl⟩, Le.mk [] hm rfl (Sa4 (Sa2 (Sa1 trivial))) trivial trivial⟩
           ·replace H := condF hc H
            refine WpC.exit (WpC.seq (WpC.regionL ?_))
            refine L.move hF rfl rfl rfl ?_
            refine L.move hF rfl rfl rfl ?_
            refine L.bin hF rfl rfl rfl rfl rfl rfl ?_
            refine L.move hF rfl rfl rfl ?_
            refine L.bin hF rfl rfl rfl rfl rfl rfl ?_
            refine L.assign hF rfl rfl rfl ?_
            refine L.assign hF rfl rfl rfl (L.nil ?_)
            refine WpC.ret ?_
            cases H
            exact Leaves.ret rfl rfl rfl ⟨rfl, rfl⟩
        ·replace H := condF hc H
         refine WpC.skip (WpC.seq (WpC.regionL ?_))
         refine L.assign hF rfl rfl rfl ?_
         refine L.assign hF rfl rfl rfl (L.nil ?_)
         refine WpC.ret ?_
         cases H
         exact Leaves.ret rfl rfl rfl ⟨rfl, rfl⟩
/-! ### Fspec_TermOk -/
def Fspec_TermOk (k : Nat) (a0 : List UInt8) : Option Bool := (Fspec_l2Term k a0 (0 : Int) (8 : Int)).bind fun r1 => cond (decide (r1.1 > (0 : Int))) (cond (r1.1 == (a0.length : Int)) (some (decide (r1.1 ≤ (900 : Int)))) (some false)) (some false)
theorem ent100 : MG.Enters Tryz.prog 100 := ⟨Tryz.f100, Tryz.func100, rfl, by decide⟩
set_option maxHeartbeats 8000000 in
set_option maxRecDepth 100000 in
theorem Fspec_TermOk_gives (k : Nat) (a0 : List UInt8) (r : Bool) (H : Fspec_TermOk k a0 = some r) : Gives Tryz.prog 100 [V.one (cS a0)] [] [V.one (cL r)] [] := by
 refine Gives.intro Tryz.func100 rfl rfl rfl rfl ?_
 intro F hF hm
 unfold Fspec_TermOk at H
 obtain ⟨K, hK⟩ : ∃ K, k ≤ K := ⟨k, Nat.le_refl k⟩
 refine WpC.seq (WpC.regionL ?_)
 refine L.assign hF rfl rfl rfl (L.nil ?_)
 refine WpC.seq (WpC.regionL ?_)
 refine L.move hF rfl rfl rfl ?_
 obtain ⟨r1, hr1, H⟩ := bindS H
 refine L.call [false, false, false] [] [] 1 hF rfl rfl rfl ent144 rfl rfl rfl rfl rfl (Fspec_l2Term_gives k  a0 (0 : Int) (8 : Int) r1 hr1) rfl ?_
 refine L.move hF rfl rfl rfl ?_
 refine L.extract hF rfl rfl rfl rfl ?_
 refine L.extract hF rfl rfl rfl rfl ?_
 refine L.assign hF rfl rfl rfl ?_
 refine L.assign hF rfl rfl rfl (L.nil ?_)
 refine WpC.seq (WpC.regionL ?_)
 refine L.move hF rfl rfl rfl ?_
 refine L.bin hF rfl rfl rfl rfl rfl rfl ?_
 refine L.move hF rfl rfl rfl ?_
 refine L.split (fun hc => ?_) (fun hc => ?_)
 ·replace H := condT hc H
  refine L.move hF rfl rfl rfl ?_
  refine L.move hF rfl rfl rfl ?_
  refine L.lenS Tryz.underlying9 hF rfl rfl rfl ?_
  refine L.bin hF rfl rfl rfl rfl rfl rfl ?_
  refine L.pick hF rfl rfl rfl rfl ?_
  refine L.move hF rfl rfl rfl ?_
  refine L.split (fun hc => ?_) (fun hc => ?_)
  ·replace H := condT hc H
   refine L.move hF rfl rfl rfl ?_
   refine L.bin hF rfl rfl rfl rfl rfl rfl ?_
   refine L.pick hF rfl rfl rfl rfl ?_
   refine L.assign hF rfl rfl rfl (L.nil ?_)
   refine WpC.ret ?_
   cases H
   exact Leaves.ret rfl rfl rfl ⟨rfl, rfl⟩
  ·replace H := condF hc H
   refine L.off hF rfl rfl ?_
   refine L.off hF rfl rfl ?_
   refine L.pick hF rfl rfl rfl rfl ?_
   refine L.assign hF rfl rfl rfl (L.nil ?_)
   refine WpC.ret ?_
   cases H
   exact Leaves.ret rfl rfl rfl ⟨rfl, rfl⟩
 ·replace H := condF hc H
  refine L.off hF rfl rfl ?_
  refine L.off hF rfl rfl ?_
  refine L.off hF rfl rfl ?_
  refine L.off hF rfl rfl ?_
  refine L.pick hF rfl rfl rfl rfl ?_
  refine L.move hF rfl rfl rfl ?_
  refine L.off hF rfl rfl ?_
  refine L.off hF rfl rfl ?_
  refine L.pick hF rfl rfl rfl rfl ?_
  refine L.assign hF rfl rfl rfl (L.nil ?_)
  refine WpC.ret ?_
  cases H
  exact Leaves.ret rfl rfl rfl ⟨rfl, rfl⟩
/-! ### Fspec_l3In -/
def Fspec_l3In.l2 : Nat → (List (List UInt8)) → (List UInt8) → Int → Option Bool
 | 0, _, _, _ => none
 | k2 + 1, v24, v25, v26 => cond (decide (v26 < (v24.length : Int))) ((at? v24 v26).bind fun b28 => cond (b28 == v25) (some true) ((Fspec_l3In.l2 k2) v24 v25 (IntKind.i64.wrap (v26 + (1 : Int))))) (some false)
def Fspec_l3In (k : Nat) (a0 : List (List UInt8)) (a1 : List UInt8) : Option Bool := Fspec_l3In.l2 k a0 a1 (0 : Int)
theorem ent183 : MG.Enters Tryz.prog 183 := ⟨Tryz.f183, Tryz.func183, rfl, by decide⟩
set_option maxHeartbeats 8000000 in
set_option maxRecDepth 100000 in
theorem Fspec_l3In_gives (k : Nat) (g0 : Bool) (a0 : List (List UInt8)) (a1 : List UInt8) (r : Bool) (H : Fspec_l3In k a0 a1 = some r) : Gives Tryz.prog 183 [V.one (Cell.sl g0 (List.map eS a0)), V.one (cS a1)] [] [V.one (cL r)] [] := by
 refine Gives.intro Tryz.func183 rfl rfl rfl rfl ?_
 intro F hF hm
 unfold Fspec_l3In at H
 obtain ⟨K, hK⟩ : ∃ K, k ≤ K := ⟨k, Nat.le_refl k⟩
 refine WpC.seq (WpC.regionL ?_)
 refine L.assign hF rfl rfl rfl (L.nil ?_)
 refine WpC.seq (WpC.seq (WpC.regionL ?_))
 refine L.assign hF rfl rfl rfl (L.nil ?_)
 refine WpC.block ?_
 refine WpC.loopL (P := Tryz.prog) (fun n σ => ∃ v24 : List (List UInt8), ∃ v25 : List UInt8, ∃ v26 : Int, n ≤ K ∧ Fspec_l3In.l2 n v24 v25 v26 = some r ∧ σ = mkSt [(0, one (Cell.sl g0 (List.map eS v24))), (1, one (cS v25)), (5, one (cI v26))] [] [] 0) k ⟨_, ⟨a0, a1, (0 : Int), by omega, H, rfl⟩, Le.mk [] hm rfl (Sa2 (Sa1 trivial)) trivial trivial⟩ ?_
 clear H
 rintro k2 _ ⟨v24, v25, v26, hk2, H, rfl⟩
 cases k2 with
 | zero => cases H
 | succ k2 =>
  rw [Fspec_l3In.l2] at H
  refine WpC.seq (WpC.seq (WpC.regionL ?_))
  refine L.move hF rfl rfl rfl ?_
  refine L.move hF rfl rfl rfl ?_
  refine L.lenR (xs := v24) (e := eS) Tryz.underlying61 hF rfl rfl rfl rfl ?_
  refine L.bin hF rfl rfl rfl rfl rfl rfl (L.nil ?_)
  refine WpC.cond rfl (fun hc => ?_) (fun hc => ?_)
  ·replace H := condT hc H
   refine WpC.skip (WpC.seq (WpC.block (WpC.seq (WpC.regionL ?_))))
   refine L.move hF rfl rfl rfl ?_
   refine L.move hF rfl rfl rfl ?_
   obtain ⟨b28, hb28, H⟩ := bindS H
   refine L.idxR (xs := v24) (e := eS) Tryz.underlying61 info9 hF rfl rfl rfl rfl rfl hb28 rfl rfl ?_
   refine L.loadPe shape9 hF rfl rfl rfl rfl rfl ?_
   refine L.move hF rfl rfl rfl ?_
   refine L.binS hF rfl rfl rfl rfl rfl (L.nil ?_)
   refine WpC.cond rfl (fun hc => ?_) (fun hc => ?_)
   ·replace H := condT hc H
    refine WpC.seq (WpC.regionL ?_)
    refine L.assign hF rfl rfl rfl (L.nil ?_)
    refine WpC.ret ?_
    cases H
    exact Leaves.ret rfl rfl rfl ⟨rfl, rfl⟩
   ·replace H := condF hc H
    refine WpC.skip (WpC.regionL ?_)
    refine L.move hF rfl rfl rfl ?_
    refine L.bin hF rfl rfl rfl rfl rfl rfl ?_
    refine L.assign hF rfl rfl rfl (L.nil ?_)
    exact ⟨k2, _, by omega, ⟨v24, v25, (IntKind.i64.wrap (v26 + (1 : Int))), by omega, H, rfl⟩, Le.mk [] hm rfl (Sa2 (Sa1 trivial)) trivial trivial⟩
  ·replace H := condF hc H
   refine WpC.exit (WpC.seq (WpC.regionL ?_))
   refine L.assign hF rfl rfl rfl (L.nil ?_)
   refine WpC.ret ?_
   cases H
   exact Leaves.ret rfl rfl rfl ⟨rfl, rfl⟩
/-! ### Fspec_KnownOk -/
def Fspec_KnownOk.j10 (cl9 : Int → Timpl_Known → Option Bool) (k : Nat) (v238 : Int) (v239 : Timpl_Known) : Option Bool := cl9 (IntKind.i64.wrap (v238 + (1 : Int))) v239
def Fspec_KnownOk.l9 : Nat → Int → Timpl_Known → Option Bool
 | 0, _, _ => none
 | k9 + 1, v228, v229 => cond (decide (v228 < (v229.Keys.length : Int))) ((at? v229.Keys v228).bind fun b244 => (Fspec_l1In k9 b244 (1 : Int) (1000000 : Int)).bind fun r245 => cond (!r245) (some false) (cond (decide (v228 > (0 : Int))) ((at? v229.Keys (IntKind.i64.wrap (v228 - (1 : Int)))).bind fun b248 => (at? v229.Keys v228).bind fun b249 => cond (decide (b248 ≥ b249)) (some false) (Fspec_KnownOk.j10 (Fspec_KnownOk.l9 k9) k9 v228 v229)) (Fspec_KnownOk.j10 (Fspec_KnownOk.l9 k9) k9 v228 v229))) (some true)
def Fspec_KnownOk.l2 : Nat → Int → Timpl_Known → Option Bool
 | 0, _, _ => none
 | k2 + 1, v109, v110 => cond (decide (v109 < (v110.Terms.length : Int))) ((at? v110.Terms v109).bind fun b126 => (Fspec_TermOk k2 b126).bind fun r127 => cond (!r127) (some false) ((part? v110.Terms (0 : Int) v109).bind fun b129 => (at? v110.Terms v109).bind fun b130 => (Fspec_l3In k2 b129 b130).bind fun r131 => cond r131 (some false) ((Fspec_KnownOk.l2 k2) (IntKind.i64.wrap (v109 + (1 : Int))) v110))) (Fspec_KnownOk.l9 k2 (0 : Int) v110)
def Fspec_KnownOk (k : Nat) (a0 : Timpl_Known) : Option Bool := cond (decide ((a0.Terms.length : Int) > (60 : Int))) (some false) (cond (decide ((a0.Keys.length : Int) > (40 : Int))) (some false) (Fspec_KnownOk.l2 k (0 : Int) a0))
theorem ent99 : MG.Enters Tryz.prog 99 := ⟨Tryz.f99, Tryz.func99, rfl, by decide⟩
set_option maxHeartbeats 8000000 in
set_option maxRecDepth 100000 in
theorem Fspec_KnownOk_gives (k : Nat) (g0 : Bool) (g1 : Bool) (a0 : Timpl_Known) (r : Bool) (H : Fspec_KnownOk k a0 = some r) : Gives Tryz.prog 99 [V.agg [Cell.sl g0 (List.map eS a0.Terms), Cell.sl g1 (List.map eI a0.Keys)]] [] [V.one (cL r)] [] := by
 refine Gives.intro Tryz.func99 rfl rfl rfl rfl ?_
 intro F hF hm
 unfold Fspec_KnownOk at H
 obtain ⟨K, hK⟩ : ∃ K, k ≤ K := ⟨k, Nat.le_refl k⟩
 refine WpC.seq (WpC.regionL ?_)
 refine L.box 2 hF rfl rfl rfl rfl ?_
 refine L.assign hF rfl rfl rfl (L.nil ?_)
 refine WpC.seq (WpC.seq (WpC.regionL ?_))
 refine L.fieldAddr Tryz.underlying73 rfl info61 rfl hF rfl rfl rfl rfl rfl ?_
 refine L.loadPtr shape61 hF rfl rfl rfl rfl rfl rfl ?_
 refine L.lenR (xs := a0.Terms) (e := eS) Tryz.underlying61 hF rfl rfl rfl rfl ?_
 refine L.bin hF rfl rfl rfl rfl rfl rfl ?_
 refine L.move hF rfl rfl rfl ?_
 refine L.split (fun hc => ?_) (fun hc => ?_)
 ·replace H := condT hc H
  refine L.off hF rfl rfl ?_
  refine L.off hF rfl rfl ?_
  refine L.off hF rfl rfl ?_
  refine L.off hF rfl rfl ?_
  refine L.pick hF rfl rfl rfl rfl (L.nil ?_)
  refine WpC.cond rfl (fun _ => ?_) (fun hc => by cases hc)
  refine WpC.seq (WpC.regionL ?_)
  refine L.assign hF rfl rfl rfl (L.nil ?_)
  refine WpC.ret ?_
  cases H
  exact Leaves.ret rfl rfl rfl ⟨rfl, rfl⟩
 ·replace H := condF hc H
  refine L.fieldAddr Tryz.underlying73 rfl info22 rfl hF rfl rfl rfl rfl rfl ?_
  refine L.loadPtr shape22 hF rfl rfl rfl rfl rfl rfl ?_
  refine L.lenR (xs := a0.Keys) (e := eI) Tryz.underlying22 hF rfl rfl rfl rfl ?_
  refine L.bin hF rfl rfl rfl rfl rfl rfl ?_
  refine L.pick hF rfl rfl rfl rfl (L.nil ?_)
  refine WpC.cond rfl (fun hc => ?_) (fun hc => ?_)
  ·replace H := condT hc H
   refine WpC.seq (WpC.regionL ?_)
   refine L.assign hF rfl rfl rfl (L.nil ?_)
   refine WpC.ret ?_
   cases H
   exact Leaves.ret rfl rfl rfl ⟨rfl, rfl⟩
  ·replace H := condF hc H
   refine WpC.skip (WpC.seq (WpC.seq (WpC.regionL ?_)))
   refine L.assign hF rfl rfl rfl (L.nil ?_)
   refine WpC.block ?_
   refine WpC.loopL (P := Tryz.prog) (fun n σ => ∃ v109 : Int, ∃ v110 : Timpl_Known, n ≤ K ∧ Fspec_KnownOk.l2 n v109 v110 = some r ∧ σ = mkSt [(1, one (Cell.ptr 0 0)), (3, one (cI v109))] [] [(0, [Cell.sl g0 (List.map eS v110.Terms), Cell.sl g1 (List.map eI v110.Keys)])] 1) k ⟨_, ⟨(0 : Int), a0, by omega, H, rfl⟩, Le.mk [(0, 2)] hm rfl (Sa2 trivial) trivial (Ba1 trivial)⟩ ?_
   clear H
   rintro k2 _ ⟨v109, v110, hk2, H, rfl⟩
   cases k2 with
   | zero => cases H
   | succ k2 =>
    rw [Fspec_KnownOk.l2] at H
    refine WpC.seq (WpC.seq (WpC.regionL ?_))
    refine L.move hF rfl rfl rfl ?_
    refine L.fieldAddr Tryz.underlying73 rfl info61 rfl hF rfl rfl rfl rfl rfl ?_
    refine L.loadPtr shape61 hF rfl rfl rfl rfl rfl rfl ?_
    refine L.lenR (xs := v110.Terms) (e := eS) Tryz.underlying61 hF rfl rfl rfl rfl ?_
    refine L.bin hF rfl rfl rfl rfl rfl rfl (L.nil ?_)
    refine WpC.cond rfl (fun hc => ?_) (fun hc => ?_)
    ·replace H := condT hc H
     refine WpC.skip (WpC.seq (WpC.block (WpC.seq ?_)))
     obtain ⟨b126, hb126, H⟩ := bindS H
     obtain ⟨r127, hr127, H⟩ := bindS H
     rcases Bool.eq_false_or_eq_true ((!r127)) with hc128 | hc128
     ·replace H := condT hc128 H
      refine A.begin mixed rfl rfl ?_
      intro W hI hO
      refine hI _ _ _ ?_
      refine Atk 0 rfl (Ca.fieldAddr Tryz.underlying73 rfl info61 rfl) (fun Q0 k0 => L.fieldAddr Tryz.underlying73 rfl info61 rfl hF rfl rfl rfl rfl rfl (L.nil k0)) ?_
      refine Atk 2 rfl (Ca.move) (fun Q0 k0 => L.move hF rfl rfl rfl (L.nil k0)) ?_
      refine A.all [1] (by kernel_rfl) rfl ⟨⟨_, rfl, ?_⟩, trivial⟩
      refine L.loadPtr shape61 hF rfl rfl rfl rfl rfl rfl (L.nil ?_)
      refine Atk 3 rfl (Ca.indexAddr) (fun Q0 k0 => L.idxR (xs := v110.Terms) (e := eS) Tryz.underlying61 info9 hF rfl rfl rfl rfl rfl hb126 rfl rfl (L.nil k0)) ?_
      refine A.all [4] (by kernel_rfl) rfl ⟨⟨_, rfl, ?_⟩, trivial⟩
      refine L.loadPe shape9 hF rfl rfl rfl rfl rfl (L.nil ?_)
      refine A.all [5] (by kernel_rfl) rfl ⟨⟨_, rfl, ?_⟩, trivial⟩
      refine L.call [false] [] [] 1 hF rfl rfl rfl ent100 rfl rfl rfl rfl rfl (Fspec_TermOk_gives k2  b126 r127 hr127) rfl (L.nil ?_)
      refine Atk 6 rfl (Ca.un rfl rfl) (fun Q0 k0 => L.not hF rfl rfl rfl (L.nil k0)) ?_
      refine Atk 7 rfl (Ca.move) (fun Q0 k0 => L.move hF rfl rfl rfl (L.nil k0)) ?_
      refine A.le (τ := mkSt [(1, one (Cell.ptr 0 0)), (3, one (cI v109)), (29, one (cL true))] [] [(0, [Cell.sl g0 (List.map eS v110.Terms), Cell.sl g1 (List.map eI v110.Keys)])] 1) (Le.mk [(0, 0)] hm rfl (Sa2 (Sa1 trivial rfl (congrArg (fun b => some (one (cL b))) hc128))) trivial (Ba1 trivial)) ?_
      refine Aof 8 rfl hF ?_
      refine Aof 9 rfl hF ?_
      refine Aof 10 rfl hF ?_
      refine Aof 11 rfl hF ?_
      refine Aof 12 rfl hF ?_
      refine Aof 13 rfl hF ?_
      refine Aof 14 rfl hF ?_
      refine Aof 15 rfl hF ?_
      refine Aof 16 rfl hF ?_
      refine A.all [17] (by kernel_rfl) rfl ⟨⟨_, rfl, ?_⟩, trivial⟩
      refine L.off hF rfl rfl (L.nil ?_)
      refine A.le (τ := mkSt [(1, one (Cell.ptr 0 0)), (3, one (cI v109)), (29, one (cL true)), (39, Slot.tup [])] [] [(0, [Cell.sl g0 (List.map eS v110.Terms), Cell.sl g1 (List.map eI v110.Keys)])] 1) (Le.mk [(0, 0)] hm rfl (Sa4 trivial) trivial (Ba1 trivial)) ?_
      refine Atk 18 rfl (Ca.pick) (fun Q0 k0 => L.pick hF rfl rfl rfl rfl (L.nil k0)) ?_
      refine A.le (τ := mkSt [(1, one (Cell.ptr 0 0)), (3, one (cI v109)), (40, one (cL true))] [] [(0, [Cell.sl g0 (List.map eS v110.Terms), Cell.sl g1 (List.map eI v110.Keys)])] 1) (Le.mk [(0, 0)] hm rfl (Sa2 (Sa1 trivial)) trivial (Ba1 trivial)) ?_
      refine A.done (by kernel_rfl) ?_
      refine WpC.cond rfl (fun _ => ?_) (fun hc => by cases hc)
      refine WpC.seq (WpC.regionL ?_)
      refine L.assign hF rfl rfl rfl (L.nil ?_)
      refine WpC.ret ?_
      cases H
      exact Leaves.ret rfl rfl rfl ⟨rfl, rfl⟩
     ·replace H := condF hc128 H
      obtain ⟨b129, hb129, H⟩ := bindS H
      obtain ⟨b130, hb130, H⟩ := bindS H
      obtain ⟨r131, hr131, H⟩ := bindS H
      refine A.begin mixed rfl rfl ?_
      intro W hI hO
      have n131071 : W 2 #[true, true, true, true, true, true, true, true, true, true, true, true, true, true, true, true, true, false, false] (mkSt [(1, one (Cell.ptr 0 0)), (3, one (cI v109)), (29, one (cL false)), (33, one (Cell.sl g0 (List.map eS b129))), (38, one (cS b130))] [] [(0, [Cell.sl g0 (List.map eS v110.Terms), Cell.sl g1 (List.map eI v110.Keys)])] 1) := by
       refine hI _ _ _ ?_
       refine A.all [17] (by kernel_rfl) rfl ⟨⟨_, rfl, ?_⟩, trivial⟩
       refine L.call [false, false] [] [] 1 hF rfl rfl rfl ent183 rfl rfl rfl rfl rfl (Fspec_l3In_gives k2 g0 b129 b130 r131 hr131) rfl (L.nil ?_)
       refine Atk 18 rfl (Ca.pick) (fun Q0 k0 => L.pick hF rfl rfl rfl rfl (L.nil k0)) ?_
       refine A.le (τ := mkSt [(1, one (Cell.ptr 0 0)), (3, one (cI v109)), (40, one (cL r131))] [] [(0, [Cell.sl g0 (List.map eS v110.Terms), Cell.sl g1 (List.map eI v110.Keys)])] 1) (Le.mk [(0, 0)] hm rfl (Sa2 (Sa1 trivial)) trivial (Ba1 trivial)) ?_
       refine A.done (by kernel_rfl) ?_
       refine WpC.cond rfl (fun hc => ?_) (fun hc => ?_)
       ·replace H := condT hc H
        refine WpC.seq (WpC.regionL ?_)
        refine L.assign hF rfl rfl rfl (L.nil ?_)
        refine WpC.ret ?_
        cases H
        exact Leaves.ret rfl rfl rfl ⟨rfl, rfl⟩
       ·replace H := condF hc H
        refine WpC.skip (WpC.regionL ?_)
        refine L.move hF rfl rfl rfl ?_
        refine L.bin hF rfl rfl rfl rfl rfl rfl ?_
        refine L.assign hF rfl rfl rfl (L.nil ?_)
        exact ⟨k2, _, by omega, ⟨(IntKind.i64.wrap (v109 + (1 : Int))), v110, by omega, H, rfl⟩, Le.mk [(0, 0)] hm rfl (Sa2 trivial) trivial (Ba1 trivial)⟩
      have n65535 : W 3 #[true, true, true, true, true, true, true, true, true, true, true, true, true, true, true, true, false, false, false] (mkSt [(1, one (Cell.ptr 0 0)), (3, one (cI v109)), (29, one (cL false)), (33, one (Cell.sl g0 (List.map eS b129))), (37, one (Cell.pe g0 (eS b130) 0))] [] [(0, [Cell.sl g0 (List.map eS v110.Terms), Cell.sl g1 (List.map eI v110.Keys)])] 1) := by
       refine hI _ _ _ ?_
       refine A.all [16] (by kernel_rfl) rfl ⟨⟨_, rfl, ?_⟩, trivial⟩
       refine L.loadPe shape9 hF rfl rfl rfl rfl rfl (L.nil ?_)
       exact A.on (hO _ _ _ n131071) (Le.mk [(0, 0)] hm rfl (Sa4 (Sa1 trivial)) trivial (Ba1 trivial))
      refine hI _ _ _ ?_
      refine Atk 0 rfl (Ca.fieldAddr Tryz.underlying73 rfl info61 rfl) (fun Q0 k0 => L.fieldAddr Tryz.underlying73 rfl info61 rfl hF rfl rfl rfl rfl rfl (L.nil k0)) ?_
      refine Atk 2 rfl (Ca.move) (fun Q0 k0 => L.move hF rfl rfl rfl (L.nil k0)) ?_
      refine A.all [1] (by kernel_rfl) rfl ⟨⟨_, rfl, ?_⟩, trivial⟩
      refine L.loadPtr shape61 hF rfl rfl rfl rfl rfl rfl (L.nil ?_)
      refine Atk 3 rfl (Ca.indexAddr) (fun Q0 k0 => L.idxR (xs := v110.Terms) (e := eS) Tryz.underlying61 info9 hF rfl rfl rfl rfl rfl hb126 rfl rfl (L.nil k0)) ?_
      refine A.all [4] (by kernel_rfl) rfl ⟨⟨_, rfl, ?_⟩, trivial⟩
      refine L.loadPe shape9 hF rfl rfl rfl rfl rfl (L.nil ?_)
      refine A.all [5] (by kernel_rfl) rfl ⟨⟨_, rfl, ?_⟩, trivial⟩
      refine L.call [false] [] [] 1 hF rfl rfl rfl ent100 rfl rfl rfl rfl rfl (Fspec_TermOk_gives k2  b126 r127 hr127) rfl (L.nil ?_)
      refine Atk 6 rfl (Ca.un rfl rfl) (fun Q0 k0 => L.not hF rfl rfl rfl (L.nil k0)) ?_
      refine Atk 7 rfl (Ca.move) (fun Q0 k0 => L.move hF rfl rfl rfl (L.nil k0)) ?_
      refine A.le (τ := mkSt [(1, one (Cell.ptr 0 0)), (3, one (cI v109)), (29, one (cL false))] [] [(0, [Cell.sl g0 (List.map eS v110.Terms), Cell.sl g1 (List.map eI v110.Keys)])] 1) (Le.mk [(0, 0)] hm rfl (Sa2 (Sa1 trivial rfl (congrArg (fun b => some (one (cL b))) hc128))) trivial (Ba1 trivial)) ?_
      refine Atk 8 rfl (Ca.fieldAddr Tryz.underlying73 rfl info61 rfl) (fun Q0 k0 => L.fieldAddr Tryz.underlying73 rfl info61 rfl hF rfl rfl rfl rfl rfl (L.nil k0)) ?_
      refine Atk 10 rfl (Ca.move) (fun Q0 k0 => L.move hF rfl rfl rfl (L.nil k0)) ?_
      refine Atk 12 rfl (Ca.fieldAddr Tryz.underlying73 rfl info61 rfl) (fun Q0 k0 => L.fieldAddr Tryz.underlying73 rfl info61 rfl hF rfl rfl rfl rfl rfl (L.nil k0)) ?_
      refine Atk 14 rfl (Ca.move) (fun Q0 k0 => L.move hF rfl rfl rfl (L.nil k0)) ?_
      refine A.all [9, 13] (by kernel_rfl) rfl ⟨⟨_, rfl, ?_⟩, ⟨_, rfl, ?_⟩, trivial⟩
      ·refine L.loadPtr shape61 hF rfl rfl rfl rfl rfl rfl (L.nil ?_)
       refine Atk 11 rfl (Ca.slice) (fun Q0 k0 => L.cutR (xs := v110.Terms) (ys := b129) (e := eS) Tryz.underlying61 info9 hF rfl rfl rfl rfl rfl hb129 (fun _ => rfl) (L.nil k0)) ?_
       refine A.all [13] (by kernel_rfl) rfl ⟨⟨_, rfl, ?_⟩, trivial⟩
       refine L.loadPtr shape61 hF rfl rfl rfl rfl rfl rfl (L.nil ?_)
       refine Atk 15 rfl (Ca.indexAddr) (fun Q0 k0 => L.idxR (xs := v110.Terms) (e := eS) Tryz.underlying61 info9 hF rfl rfl rfl rfl rfl hb130 rfl rfl (L.nil k0)) ?_
       exact A.on (hO _ _ _ n65535) (Le.mk [(0, 0)] hm rfl (Sa4 (Sa1 trivial)) trivial (Ba1 trivial))
      ·refine L.loadPtr shape61 hF rfl rfl rfl rfl rfl rfl (L.nil ?_)
       refine Atk 15 rfl (Ca.indexAddr) (fun Q0 k0 => L.idxR (xs := v110.Terms) (e := eS) Tryz.underlying61 info9 hF rfl rfl rfl rfl rfl hb130 rfl rfl (L.nil k0)) ?_
       refine A.all [9, 16] (by kernel_rfl) rfl ⟨⟨_, rfl, ?_⟩, ⟨_, rfl, ?_⟩, trivial⟩
       ·refine L.loadPtr shape61 hF rfl rfl rfl rfl rfl rfl (L.nil ?_)
        refine Atk 11 rfl (Ca.slice) (fun Q0 k0 => L.cutR (xs := v110.Terms) (ys := b129) (e := eS) Tryz.underlying61 info9 hF rfl rfl rfl rfl rfl hb129 (fun _ => rfl) (L.nil k0)) ?_
        exact A.on (hO _ _ _ n65535) (Le.mk [(0, 0)] hm rfl (Sa4 (Sa1 trivial)) trivial (Ba1 trivial))
       ·refine L.loadPe shape9 hF rfl rfl rfl rfl rfl (L.nil ?_)
        refine A.all [9] (by kernel_rfl) rfl ⟨⟨_, rfl, ?_⟩, trivial⟩
        refine L.loadPtr shape61 hF rfl rfl rfl rfl rfl rfl (L.nil ?_)
        refine Atk 11 rfl (Ca.slice) (fun Q0 k0 => L.cutR (xs := v110.Terms) (ys := b129) (e := eS) Tryz.underlying61 info9 hF rfl rfl rfl rfl rfl hb129 (fun _ => rfl) (L.nil k0)) ?_
        exact A.on (hO _ _ _ n131071) (Le.mk [(0, 0)] hm rfl (Sa4 (Sa1 trivial)) trivial (Ba1 trivial))
    ·replace H := condF hc H
     refine WpC.exit (WpC.seq (WpC.seq (WpC.regionL ?_)))
     refine L.assign hF rfl rfl rfl (L.nil ?_)
     refine WpC.block ?_
     refine WpC.loopL (P := Tryz.prog) (fun n σ => ∃ v228 : Int, ∃ v229 : Timpl_Known, n ≤ K ∧ Fspec_KnownOk.l9 n v228 v229 = some r ∧ σ = mkSt [(1, one (Cell.ptr 0 0)), (4, one (cI v228))] [] [(0, [Cell.sl g0 (List.map eS v229.Terms), Cell.sl g1 (List.map eI v229.Keys)])] 1) k2 ⟨_, ⟨(0 : Int), v110, by omega, H, rfl⟩, Le.mk [(0, 0)] hm rfl (Sa2 trivial) trivial (Ba1 trivial)⟩ ?_
     clear H
     rintro k9 _ ⟨v228, v229, hk9, H, rfl⟩
     cases k9 with
     | zero => cases H
     | succ k9 =>
      rw [Fspec_KnownOk.l9] at H
      refine WpC.seq (WpC.seq (WpC.regionL ?_))
      refine L.move hF rfl rfl rfl ?_
      refine L.fieldAddr Tryz.underlying73 rfl info22 rfl hF rfl rfl rfl rfl rfl ?_
      refine L.loadPtr shape22 hF rfl rfl rfl rfl rfl rfl ?_
      refine L.lenR (xs := v229.Keys) (e := eI) Tryz.underlying22 hF rfl rfl rfl rfl ?_
      refine L.bin hF rfl rfl rfl rfl rfl rfl (L.nil ?_)
      refine WpC.cond rfl (fun hc => ?_) (fun hc => ?_)
      ·replace H := condT hc H
       refine WpC.skip ?_
       refine WpC.join (fun σ => ∃ kj10 : Nat, ∃ v238 : Int, ∃ v239 : Timpl_Known, kj10 ≤ K ∧ Fspec_KnownOk.j10 (Fspec_KnownOk.l9 k9) kj10 v238 v239 = some r ∧ σ = mkSt [(1, one (Cell.ptr 0 0)), (4, one (cI v238))] [] [(0, [Cell.sl g0 (List.map eS v239.Terms), Cell.sl g1 (List.map eI v239.Keys)])] 1) ?_ ?_
       ·rintro _ ⟨kj10, v238, v239, hkj10, H, rfl⟩
        unfold Fspec_KnownOk.j10 at H
        refine WpC.regionL ?_
        refine L.move hF rfl rfl rfl ?_
        refine L.bin hF rfl rfl rfl rfl rfl rfl ?_
        refine L.assign hF rfl rfl rfl (L.nil ?_)
        exact ⟨k9, _, by omega, ⟨(IntKind.i64.wrap (v238 + (1 : Int))), v239, by omega, H, rfl⟩, Le.mk [(0, 0)] hm rfl (Sa2 trivial) trivial (Ba1 trivial)⟩
       ·refine WpC.block (WpC.seq ?_)
        obtain ⟨b244, hb244, H⟩ := bindS H
        obtain ⟨r245, hr245, H⟩ := bindS H
        rcases Bool.eq_false_or_eq_true ((!r245)) with hc246 | hc246
        ·replace H := condT hc246 H
         refine A.begin mixed rfl rfl ?_
         intro W hI hO
         refine hI _ _ _ ?_
         refine Atk 0 rfl (Ca.fieldAddr Tryz.underlying73 rfl info22 rfl) (fun Q0 k0 => L.fieldAddr Tryz.underlying73 rfl info22 rfl hF rfl rfl rfl rfl rfl (L.nil k0)) ?_
         refine Atk 2 rfl (Ca.move) (fun Q0 k0 => L.move hF rfl rfl rfl (L.nil k0)) ?_
         refine A.all [1] (by kernel_rfl) rfl ⟨⟨_, rfl, ?_⟩, trivial⟩
         refine L.loadPtr shape22 hF rfl rfl rfl rfl rfl rfl (L.nil ?_)
         refine Atk 3 rfl (Ca.indexAddr) (fun Q0 k0 => L.idxR (xs := v229.Keys) (e := eI) Tryz.underlying22 info3 hF rfl rfl rfl rfl rfl hb244 rfl rfl (L.nil k0)) ?_
         refine A.all [4] (by kernel_rfl) rfl ⟨⟨_, rfl, ?_⟩, trivial⟩
         refine L.loadPe shape3 hF rfl rfl rfl rfl rfl (L.nil ?_)
         refine A.all [5] (by kernel_rfl) rfl ⟨⟨_, rfl, ?_⟩, trivial⟩
         refine L.call [false, false, false] [] [] 1 hF rfl rfl rfl ent52 rfl rfl rfl rfl rfl (Fspec_l1In_gives k9  b244 (1 : Int) (1000000 : Int) r245 hr245) rfl (L.nil ?_)
         refine Atk 6 rfl (Ca.un rfl rfl) (fun Q0 k0 => L.not hF rfl rfl rfl (L.nil k0)) ?_
         refine Atk 7 rfl (Ca.move) (fun Q0 k0 => L.move hF rfl rfl rfl (L.nil k0)) ?_
         refine A.le (τ := mkSt [(1, one (Cell.ptr 0 0)), (4, one (cI v228)), (55, one (cL true))] [] [(0, [Cell.sl g0 (List.map eS v229.Terms), Cell.sl g1 (List.map eI v229.Keys)])] 1) (Le.mk [(0, 0)] hm rfl (Sa2 (Sa1 trivial rfl (congrArg (fun b => some (one (cL b))) hc246))) trivial (Ba1 trivial)) ?_
         refine Aof 8 rfl hF ?_
         refine Aof 9 rfl hF ?_
         refine Aof 10 rfl hF ?_
         refine Aof 11 rfl hF ?_
         refine Aof 12 rfl hF ?_
         refine Aof 13 rfl hF ?_
         refine Aof 14 rfl hF ?_
         refine Aof 15 rfl hF ?_
         refine Aof 16 rfl hF ?_
         refine Aof 17 rfl hF ?_
         refine A.le (τ := mkSt [(1, one (Cell.ptr 0 0)), (4, one (cI v228)), (55, one (cL true)), (58, Slot.tup []), (64, Slot.tup []), (65, Slot.tup [])] [] [(0, [Cell.sl g0 (List.map eS v229.Terms), Cell.sl g1 (List.map eI v229.Keys)])] 1) (Le.mk [(0, 0)] hm rfl (Sa4 (Sa2 trivial)) trivial (Ba1 trivial)) ?_
         refine Aof 18 rfl hF ?_
         refine Aof 19 rfl hF ?_
         refine Aof 20 rfl hF ?_
         refine Aof 21 rfl hF ?_
         refine Aof 22 rfl hF ?_
         refine Aof 23 rfl hF ?_
         refine Atk 24 rfl (Ca.pick) (fun Q0 k0 => L.pick hF rfl rfl rfl rfl (L.nil k0)) ?_
         refine A.le (τ := mkSt [(1, one (Cell.ptr 0 0)), (4, one (cI v228)), (72, one (cL true))] [] [(0, [Cell.sl g0 (List.map eS v229.Terms), Cell.sl g1 (List.map eI v229.Keys)])] 1) (Le.mk [(0, 0)] hm rfl (Sa2 (Sa1 trivial)) trivial (Ba1 trivial)) ?_
         refine A.done (by kernel_rfl) ?_
         refine WpC.cond rfl (fun _ => ?_) (fun hc => by cases hc)
         refine WpC.seq (WpC.regionL ?_)
         refine L.assign hF rfl rfl rfl (L.nil ?_)
         refine WpC.ret ?_
         cases H
         exact Leaves.ret rfl rfl rfl ⟨rfl, rfl⟩
        ·replace H := condF hc246 H
         rcases Bool.eq_false_or_eq_true ((decide (v228 > (0 : Int)))) with hc247 | hc247
         ·replace H := condT hc247 H
          obtain ⟨b248, hb248, H⟩ := bindS H
          obtain ⟨b249, hb249, H⟩ := bindS H
          refine A.begin mixed rfl rfl ?_
          intro W hI hO
          have n4194303 : W 3 #[true, true, true, true, true, true, true, true, true, true, true, true, true, true, true, true, true, true, true, true, true, true, false, false, false] (mkSt [(1, one (Cell.ptr 0 0)), (4, one (cI v228)), (55, one (cL false)), (58, one (cL true)), (64, one (cI b248)), (69, one (cI b249))] [] [(0, [Cell.sl g0 (List.map eS v229.Terms), Cell.sl g1 (List.map eI v229.Keys)])] 1) := by
           refine hI _ _ _ ?_
           refine Atk 22 rfl (Ca.bin rfl rfl (calm_int _ _ _ _ _ _ _ _)) (fun Q0 k0 => L.bin hF rfl rfl rfl rfl rfl rfl (L.nil k0)) ?_
           refine Atk 23 rfl (Ca.pick) (fun Q0 k0 => L.pick hF rfl rfl rfl rfl (L.nil k0)) ?_
           refine Atk 24 rfl (Ca.pick) (fun Q0 k0 => L.pick hF rfl rfl rfl rfl (L.nil k0)) ?_
           refine A.le (τ := mkSt [(1, one (Cell.ptr 0 0)), (4, one (cI v228)), (72, one (cL (decide (b248 ≥ b249))))] [] [(0, [Cell.sl g0 (List.map eS v229.Terms), Cell.sl g1 (List.map eI v229.Keys)])] 1) (Le.mk [(0, 0)] hm rfl (Sa2 (Sa1 trivial)) trivial (Ba1 trivial)) ?_
           refine A.done (by kernel_rfl) ?_
           refine WpC.cond rfl (fun hc => ?_) (fun hc => ?_)
           ·replace H := condT hc H
            refine WpC.seq (WpC.regionL ?_)
            refine L.assign hF rfl rfl rfl (L.nil ?_)
            refine WpC.ret ?_
            cases H
            exact Leaves.ret rfl rfl rfl ⟨rfl, rfl⟩
           ·replace H := condF hc H
            refine WpC.skip ?_
            exact ⟨_, ⟨k9, v228, v229, by omega, H, rfl⟩, Le.mk [(0, 0)] hm rfl (Sa2 trivial) trivial (Ba1 trivial)⟩
          have n4128767 : W 4 #[true, true, true, true, true, true, true, true, true, true, true, true, true, true, true, true, false, true, true, true, true, true, false, false, false] (mkSt [(1, one (Cell.ptr 0 0)), (4, one (cI v228)), (55, one (cL false)), (58, one (cL true)), (63, one (Cell.pe g1 (eI b248) 0)), (69, one (cI b249))] [] [(0, [Cell.sl g0 (List.map eS v229.Terms), Cell.sl g1 (List.map eI v229.Keys)])] 1) := by
           refine hI _ _ _ ?_
           refine A.all [16] (by kernel_rfl) rfl ⟨⟨_, rfl, ?_⟩, trivial⟩
           refine L.loadPe shape3 hF rfl rfl rfl rfl rfl (L.nil ?_)
           exact A.on (hO _ _ _ n4194303) (Le.mk [(0, 0)] hm rfl (Sa4 (Sa2 trivial)) trivial (Ba1 trivial))
          have n2097151 : W 4 #[true, true, true, true, true, true, true, true, true, true, true, true, true, true, true, true, true, true, true, true, true, false, false, false, false] (mkSt [(1, one (Cell.ptr 0 0)), (4, one (cI v228)), (55, one (cL false)), (58, one (cL true)), (64, one (cI b248)), (68, one (Cell.pe g1 (eI b249) 0))] [] [(0, [Cell.sl g0 (List.map eS v229.Terms), Cell.sl g1 (List.map eI v229.Keys)])] 1) := by
           refine hI _ _ _ ?_
           refine A.all [21] (by kernel_rfl) rfl ⟨⟨_, rfl, ?_⟩, trivial⟩
           refine L.loadPe shape3 hF rfl rfl rfl rfl rfl (L.nil ?_)
           exact A.on (hO _ _ _ n4194303) (Le.mk [(0, 0)] hm rfl (Sa4 (Sa2 trivial)) trivial (Ba1 trivial))
          have n2031615 : W 5 #[true, true, true, true, true, true, true, true, true, true, true, true, true, true, true, true, false, true, true, true, true, false, false, false, false] (mkSt [(1, one (Cell.ptr 0 0)), (4, one (cI v228)), (55, one (cL false)), (58, one (cL true)), (63, one (Cell.pe g1 (eI b248) 0)), (68, one (Cell.pe g1 (eI b249) 0))] [] [(0, [Cell.sl g0 (List.map eS v229.Terms), Cell.sl g1 (List.map eI v229.Keys)])] 1) := by
           refine hI _ _ _ ?_
           refine A.all [16, 21] (by kernel_rfl) rfl ⟨⟨_, rfl, ?_⟩, ⟨_, rfl, ?_⟩, trivial⟩
           ·refine L.loadPe shape3 hF rfl rfl rfl rfl rfl (L.nil ?_)
            exact A.on (hO _ _ _ n2097151) (Le.mk [(0, 0)] hm rfl (Sa4 (Sa2 trivial)) trivial (Ba1 trivial))
           ·refine L.loadPe shape3 hF rfl rfl rfl rfl rfl (L.nil ?_)
            exact A.on (hO _ _ _ n4128767) (Le.mk [(0, 0)] hm rfl (Sa4 (Sa2 trivial)) trivial (Ba1 trivial))
          refine hI _ _ _ ?_
          refine Atk 0 rfl (Ca.fieldAddr Tryz.underlying73 rfl info22 rfl) (fun Q0 k0 => L.fieldAddr Tryz.underlying73 rfl info22 rfl hF rfl rfl rfl rfl rfl (L.nil k0)) ?_
          refine Atk 2 rfl (Ca.move) (fun Q0 k0 => L.move hF rfl rfl rfl (L.nil k0)) ?_
          refine A.all [1] (by kernel_rfl) rfl ⟨⟨_, rfl, ?_⟩, trivial⟩
          refine L.loadPtr shape22 hF rfl rfl rfl rfl rfl rfl (L.nil ?_)
          refine Atk 3 rfl (Ca.indexAddr) (fun Q0 k0 => L.idxR (xs := v229.Keys) (e := eI) Tryz.underlying22 info3 hF rfl rfl rfl rfl rfl hb244 rfl rfl (L.nil k0)) ?_
          refine A.all [4] (by kernel_rfl) rfl ⟨⟨_, rfl, ?_⟩, trivial⟩
          refine L.loadPe shape3 hF rfl rfl rfl rfl rfl (L.nil ?_)
          refine A.all [5] (by kernel_rfl) rfl ⟨⟨_, rfl, ?_⟩, trivial⟩
          refine L.call [false, false, false] [] [] 1 hF rfl rfl rfl ent52 rfl rfl rfl rfl rfl (Fspec_l1In_gives k9  b244 (1 : Int) (1000000 : Int) r245 hr245) rfl (L.nil ?_)
          refine Atk 6 rfl (Ca.un rfl rfl) (fun Q0 k0 => L.not hF rfl rfl rfl (L.nil k0)) ?_
          refine Atk 7 rfl (Ca.move) (fun Q0 k0 => L.move hF rfl rfl rfl (L.nil k0)) ?_
          refine A.le (τ := mkSt [(1, one (Cell.ptr 0 0)), (4, one (cI v228)), (55, one (cL false))] [] [(0, [Cell.sl g0 (List.map eS v229.Terms), Cell.sl g1 (List.map eI v229.Keys)])] 1) (Le.mk [(0, 0)] hm rfl (Sa2 (Sa1 trivial rfl (congrArg (fun b => some (one (cL b))) hc246))) trivial (Ba1 trivial)) ?_
          refine Atk 8 rfl (Ca.move) (fun Q0 k0 => L.move hF rfl rfl rfl (L.nil k0)) ?_
          refine Atk 9 rfl (Ca.bin rfl rfl (calm_int _ _ _ _ _ _ _ _)) (fun Q0 k0 => L.bin hF rfl rfl rfl rfl rfl rfl (L.nil k0)) ?_
          refine Atk 10 rfl (Ca.move) (fun Q0 k0 => L.move hF rfl rfl rfl (L.nil k0)) ?_
          refine A.le (τ := mkSt [(1, one (Cell.ptr 0 0)), (4, one (cI v228)), (55, one (cL false)), (58, one (cL true))] [] [(0, [Cell.sl g0 (List.map eS v229.Terms), Cell.sl g1 (List.map eI v229.Keys)])] 1) (Le.mk [(0, 0)] hm rfl (Sa2 (Sa1 (Sa1 trivial rfl (congrArg (fun b => some (one (cL b))) hc247)))) trivial (Ba1 trivial)) ?_
          refine Atk 11 rfl (Ca.fieldAddr Tryz.underlying73 rfl info22 rfl) (fun Q0 k0 => L.fieldAddr Tryz.underlying73 rfl info22 rfl hF rfl rfl rfl rfl rfl (L.nil k0)) ?_
          refine Atk 13 rfl (Ca.move) (fun Q0 k0 => L.move hF rfl rfl rfl (L.nil k0)) ?_
          refine Atk 14 rfl (Ca.bin rfl rfl (calm_int _ _ _ _ _ _ _ _)) (fun Q0 k0 => L.bin hF rfl rfl rfl rfl rfl rfl (L.nil k0)) ?_
          refine Atk 17 rfl (Ca.fieldAddr Tryz.underlying73 rfl info22 rfl) (fun Q0 k0 => L.fieldAddr Tryz.underlying73 rfl info22 rfl hF rfl rfl rfl rfl rfl (L.nil k0)) ?_
          refine Atk 19 rfl (Ca.move) (fun Q0 k0 => L.move hF rfl rfl rfl (L.nil k0)) ?_
          refine A.all [12, 18] (by kernel_rfl) rfl ⟨⟨_, rfl, ?_⟩, ⟨_, rfl, ?_⟩, trivial⟩
          ·refine L.loadPtr shape22 hF rfl rfl rfl rfl rfl rfl (L.nil ?_)
           refine Atk 15 rfl (Ca.indexAddr) (fun Q0 k0 => L.idxR (xs := v229.Keys) (e := eI) Tryz.underlying22 info3 hF rfl rfl rfl rfl rfl hb248 rfl rfl (L.nil k0)) ?_
           refine A.all [16, 18] (by kernel_rfl) rfl ⟨⟨_, rfl, ?_⟩, ⟨_, rfl, ?_⟩, trivial⟩
           ·refine L.loadPe shape3 hF rfl rfl rfl rfl rfl (L.nil ?_)
            refine A.all [18] (by kernel_rfl) rfl ⟨⟨_, rfl, ?_⟩, trivial⟩
            refine L.loadPtr shape22 hF rfl rfl rfl rfl rfl rfl (L.nil ?_)
            refine Atk 20 rfl (Ca.indexAddr) (fun Q0 k0 => L.idxR (xs := v229.Keys) (e := eI) Tryz.underlying22 info3 hF rfl rfl rfl rfl rfl hb249 rfl rfl (L.nil k0)) ?_
            exact A.on (hO _ _ _ n2097151) (Le.mk [(0, 0)] hm rfl (Sa4 (Sa2 trivial)) trivial (Ba1 trivial))
           ·refine L.loadPtr shape22 hF rfl rfl rfl rfl rfl rfl (L.nil ?_)
            refine Atk 20 rfl (Ca.indexAddr) (fun Q0 k0 => L.idxR (xs := v229.Keys) (e := eI) Tryz.underlying22 info3 hF rfl rfl rfl rfl rfl hb249 rfl rfl (L.nil k0)) ?_
            exact A.on (hO _ _ _ n2031615) (Le.mk [(0, 0)] hm rfl (Sa4 (Sa2 trivial)) trivial (Ba1 trivial))
          ·refine L.loadPtr shape22 hF rfl rfl rfl rfl rfl rfl (L.nil ?_)
           refine Atk 20 rfl (Ca.indexAddr) (fun Q0 k0 => L.idxR (xs := v229.Keys) (e := eI) Tryz.underlying22 info3 hF rfl rfl rfl rfl rfl hb249 rfl rfl (L.nil k0)) ?_
           refine A.all [12, 21] (by kernel_rfl) rfl ⟨⟨_, rfl, ?_⟩, ⟨_, rfl, ?_⟩, trivial⟩
           ·refine L.loadPtr shape22 hF rfl rfl rfl rfl rfl rfl (L.nil ?_)
            refine Atk 15 rfl (Ca.indexAddr) (fun Q0 k0 => L.idxR (xs := v229.Keys) (e := eI) Tryz.underlying22 info3 hF rfl rfl rfl rfl rfl hb248 rfl rfl (L.nil k0)) ?_
            exact A.on (hO _ _ _ n2031615) (Le.mk [(0, 0)] hm rfl (Sa4 (Sa2 trivial)) trivial (Ba1 trivial))
           ·refine L.loadPe shape3 hF rfl rfl rfl rfl rfl (L.nil ?_)
            refine A.all [12] (by kernel_rfl) rfl ⟨⟨_, rfl, ?_⟩, trivial⟩
            refine L.loadPtr shape22 hF rfl rfl rfl rfl rfl rfl (L.nil ?_)
            refine Atk 15 rfl (Ca.indexAddr) (fun Q0 k0 => L.idxR (xs := v229.Keys) (e := eI) Tryz.underlying22 info3 hF rfl rfl rfl rfl rfl hb248 rfl rfl (L.nil k0)) ?_
            exact A.on (hO _ _ _ n4128767) (Le.mk [(0, 0)] hm rfl (Sa4 (Sa2 trivial)) trivial (Ba1 trivial))
         ·replace H := condF hc247 H
          refine A.begin mixed rfl rfl ?_
          intro W hI hO
          refine hI _ _ _ ?_
          refine Atk 0 rfl (Ca.fieldAddr Tryz.underlying73 rfl info22 rfl) (fun Q0 k0 => L.fieldAddr Tryz.underlying73 rfl info22 rfl hF rfl rfl rfl rfl rfl (L.nil k0)) ?_
          refine Atk 2 rfl (Ca.move) (fun Q0 k0 => L.move hF rfl rfl rfl (L.nil k0)) ?_
          refine A.all [1] (by kernel_rfl) rfl ⟨⟨_, rfl, ?_⟩, trivial⟩
          refine L.loadPtr shape22 hF rfl rfl rfl rfl rfl rfl (L.nil ?_)
          refine Atk 3 rfl (Ca.indexAddr) (fun Q0 k0 => L.idxR (xs := v229.Keys) (e := eI) Tryz.underlying22 info3 hF rfl rfl rfl rfl rfl hb244 rfl rfl (L.nil k0)) ?_
          refine A.all [4] (by kernel_rfl) rfl ⟨⟨_, rfl, ?_⟩, trivial⟩
          refine L.loadPe shape3 hF rfl rfl rfl rfl rfl (L.nil ?_)
          refine A.all [5] (by kernel_rfl) rfl ⟨⟨_, rfl, ?_⟩, trivial⟩
          refine L.call [false, false, false] [] [] 1 hF rfl rfl rfl ent52 rfl rfl rfl rfl rfl (Fspec_l1In_gives k9  b244 (1 : Int) (1000000 : Int) r245 hr245) rfl (L.nil ?_)
          refine Atk 6 rfl (Ca.un rfl rfl) (fun Q0 k0 => L.not hF rfl rfl rfl (L.nil k0)) ?_
          refine Atk 7 rfl (Ca.move) (fun Q0 k0 => L.move hF rfl rfl rfl (L.nil k0)) ?_
          refine A.le (τ := mkSt [(1, one (Cell.ptr 0 0)), (4, one (cI v228)), (55, one (cL false))] [] [(0, [Cell.sl g0 (List.map eS v229.Terms), Cell.sl g1 (List.map eI v229.Keys)])] 1) (Le.mk [(0, 0)] hm rfl (Sa2 (Sa1 trivial rfl (congrArg (fun b => some (one (cL b))) hc246))) trivial (Ba1 trivial)) ?_
          refine Atk 8 rfl (Ca.move) (fun Q0 k0 => L.move hF rfl rfl rfl (L.nil k0)) ?_
          refine Atk 9 rfl (Ca.bin rfl rfl (calm_int _ _ _ _ _ _ _ _)) (fun Q0 k0 => L.bin hF rfl rfl rfl rfl rfl rfl (L.nil k0)) ?_
          refine Atk 10 rfl (Ca.move) (fun Q0 k0 => L.move hF rfl rfl rfl (L.nil k0)) ?_
          refine A.le (τ := mkSt [(1, one (Cell.ptr 0 0)), (4, one (cI v228)), (55, one (cL false)), (58, one (cL false))] [] [(0, [Cell.sl g0 (List.map eS v229.Terms), Cell.sl g1 (List.map eI v229.Keys)])] 1) (Le.mk [(0, 0)] hm rfl (Sa2 (Sa1 (Sa1 trivial rfl (congrArg (fun b => some (one (cL b))) hc247)))) trivial (Ba1 trivial)) ?_
          refine Aof 11 rfl hF ?_
          refine Aof 12 rfl hF ?_
          refine Aof 13 rfl hF ?_
          refine Aof 14 rfl hF ?_
          refine Aof 15 rfl hF ?_
          refine Aof 16 rfl hF ?_
          refine Aof 17 rfl hF ?_
          refine Aof 18 rfl hF ?_
          refine Aof 19 rfl hF ?_
          refine Aof 20 rfl hF ?_
          refine A.le (τ := mkSt [(1, one (Cell.ptr 0 0)), (4, one (cI v228)), (55, one (cL false)), (58, one (cL false)), (64, Slot.tup []), (68, Slot.tup [])] [] [(0, [Cell.sl g0 (List.map eS v229.Terms), Cell.sl g1 (List.map eI v229.Keys)])] 1) (Le.mk [(0, 0)] hm rfl (Sa4 (Sa2 trivial)) trivial (Ba1 trivial)) ?_
          refine Aof 21 rfl hF ?_
          refine Aof 22 rfl hF ?_
          refine Atk 23 rfl (Ca.pick) (fun Q0 k0 => L.pick hF rfl rfl rfl rfl (L.nil k0)) ?_
          refine Atk 24 rfl (Ca.pick) (fun Q0 k0 => L.pick hF rfl rfl rfl rfl (L.nil k0)) ?_
          refine A.le (τ := mkSt [(1, one (Cell.ptr 0 0)), (4, one (cI v228)), (72, one (cL false))] [] [(0, [Cell.sl g0 (List.map eS v229.Terms), Cell.sl g1 (List.map eI v229.Keys)])] 1) (Le.mk [(0, 0)] hm rfl (Sa2 (Sa1 trivial)) trivial (Ba1 trivial)) ?_
          refine A.done (by kernel_rfl) ?_
          refine WpC.cond rfl (fun hc => by cases hc) (fun _ => ?_)
          refine WpC.skip ?_
          exact ⟨_, ⟨k9, v228, v229, by omega, H, rfl⟩, Le.mk [(0, 0)] hm rfl (Sa2 trivial) trivial (Ba1 trivial)⟩
      ·replace H := condF hc H
       refine WpC.exit (WpC.seq (WpC.regionL ?_))
       refine L.assign hF rfl rfl rfl (L.nil ?_)
       refine WpC.ret ?_
       cases H
       exact Leaves.ret rfl rfl rfl ⟨rfl, rfl⟩
/-! ### Fspec_l5Principal -/
def Fspec_l5Principal (k : Nat) (a0 : Int) : Option Bool := cond (decide (a0 ≥ (0 : Int))) (some (decide (a0 < (6 : Int)))) (some false)
theorem ent103 : MG.Enters Tryz.prog 103 := ⟨Tryz.f103, Tryz.func103, rfl, by decide⟩
set_option maxHeartbeats 8000000 in
set_option maxRecDepth 100000 in
theorem Fspec_l5Principal_gives (k : Nat) (a0 : Int) (r : Bool) (H : Fspec_l5Principal k a0 = some r) : Gives Tryz.prog 103 [V.one (cI a0)] [] [V.one (cL r)] [] := by
 refine Gives.intro Tryz.func103 rfl rfl rfl rfl ?_
 intro F hF hm
 unfold Fspec_l5Principal at H
 obtain ⟨K, hK⟩ : ∃ K, k ≤ K := ⟨k, Nat.le_refl k⟩
 refine WpC.seq (WpC.regionL ?_)
 refine L.assign hF rfl rfl rfl (L.nil ?_)
 refine WpC.seq (WpC.regionL ?_)
 refine L.move hF rfl rfl rfl ?_
 refine L.bin hF rfl rfl rfl rfl rfl rfl ?_
 refine L.move hF rfl rfl rfl ?_
 refine L.split (fun hc => ?_) (fun hc => ?_)
 ·replace H := condT hc H
  refine L.move hF rfl rfl rfl ?_
  refine L.bin hF rfl rfl rfl rfl rfl rfl ?_
  refine L.pick hF rfl rfl rfl rfl ?_
  refine L.assign hF rfl rfl rfl (L.nil ?_)
  refine WpC.ret ?_
  cases H
  exact Leaves.ret rfl rfl rfl ⟨rfl, rfl⟩
 ·replace H := condF hc H
  refine L.off hF rfl rfl ?_
  refine L.off hF rfl rfl ?_
  refine L.pick hF rfl rfl rfl rfl ?_
  refine L.assign hF rfl rfl rfl (L.nil ?_)
  refine WpC.ret ?_
  cases H
  exact Leaves.ret rfl rfl rfl ⟨rfl, rfl⟩
/-! ### Fspec_l10WaitOk -/
def Fspec_l10WaitOk (k : Nat) (a0 : Timpl_Wait) : Option Bool := cond (!a0.On) (some ((a0.On == false) && ((a0.Nonce == (0 : Int)) && ((a0.Key == (0 : Int)) && ((a0.Client == (0 : Int)) && true))))) ((Fspec_l1In k a0.Nonce (0 : Int) (1000000 : Int)).bind fun r4 => cond r4 ((Fspec_l1In k a0.Key (1 : Int) (1000000 : Int)).bind fun r5 => cond r5 ((Fspec_l5Principal k a0.Client).bind fun r6 => some r6) (some false)) (some false))
theorem ent101 : MG.Enters Tryz.prog 101 := ⟨Tryz.f101, Tryz.func101, rfl, by decide⟩
set_option maxHeartbeats 8000000 in
set_option maxRecDepth 100000 in
theorem Fspec_l10WaitOk_gives (k : Nat) (a0 : Timpl_Wait) (r : Bool) (H : Fspec_l10WaitOk k a0 = some r) : Gives Tryz.prog 101 [V.agg [cL a0.On, cI a0.Nonce, cI a0.Key, cI a0.Client]] [] [V.one (cL r)] [] := by
 refine Gives.intro Tryz.func101 rfl rfl rfl rfl ?_
 intro F hF hm
 unfold Fspec_l10WaitOk at H
 obtain ⟨K, hK⟩ : ∃ K, k ≤ K := ⟨k, Nat.le_refl k⟩
 refine WpC.seq (WpC.regionL ?_)
 refine L.box 4 hF rfl rfl rfl rfl ?_
 refine L.assign hF rfl rfl rfl (L.nil ?_)
 refine WpC.seq (WpC.seq (WpC.regionL ?_))
 refine L.fieldAddr Tryz.underlying159 rfl info4 rfl hF rfl rfl rfl rfl rfl ?_
 refine L.loadPtr shape4 hF rfl rfl rfl rfl rfl rfl ?_
 refine L.not hF rfl rfl rfl (L.nil ?_)
 refine WpC.cond rfl (fun hc => ?_) (fun hc => ?_)
 ·replace H := condT hc H
  refine WpC.seq (WpC.regionL ?_)
  refine L.loadPtr shape159 hF rfl rfl rfl rfl rfl rfl ?_
  refine L.buildF built159 hF rfl rfl rfl rfl ?_
  refine L.eqA (r := ((a0.On == false) && ((a0.Nonce == (0 : Int)) && ((a0.Key == (0 : Int)) && ((a0.Client == (0 : Int)) && true))))) hF rfl rfl rfl rfl rfl rfl (by kernel_rfl) (by kernel_rfl) ?_
  refine L.assign hF rfl rfl rfl (L.nil ?_)
  refine WpC.ret ?_
  cases H
  exact Leaves.ret rfl rfl rfl ⟨rfl, rfl⟩
 ·replace H := condF hc H
  refine WpC.skip (WpC.seq (WpC.regionL ?_))
  refine L.fieldAddr Tryz.underlying159 rfl info3 rfl hF rfl rfl rfl rfl rfl ?_
  refine L.loadPtr shape3 hF rfl rfl rfl rfl rfl rfl ?_
  obtain ⟨r4, hr4, H⟩ := bindS H
  refine L.call [false, false, false] [] [] 5 hF rfl rfl rfl ent52 rfl rfl rfl rfl rfl (Fspec_l1In_gives k  a0.Nonce (0 : Int) (1000000 : Int) r4 hr4) rfl ?_
  refine L.move hF rfl rfl rfl ?_
  refine L.split (fun hc => ?_) (fun hc => ?_)
  ·replace H := condT hc H
   refine L.fieldAddr Tryz.underlying159 rfl info3 rfl hF rfl rfl rfl rfl rfl ?_
   refine L.loadPtr shape3 hF rfl rfl rfl rfl rfl rfl ?_
   obtain ⟨r5, hr5, H⟩ := bindS H
   refine L.call [false, false, false] [] [] 6 hF rfl rfl rfl ent52 rfl rfl rfl rfl rfl (Fspec_l1In_gives k  a0.Key (1 : Int) (1000000 : Int) r5 hr5) rfl ?_
   refine L.pick hF rfl rfl rfl rfl ?_
   refine L.move hF rfl rfl rfl ?_
   refine L.split (fun hc => ?_) (fun hc => ?_)
   ·replace H := condT hc H
    refine L.fieldAddr Tryz.underlying159 rfl info3 rfl hF rfl rfl rfl rfl rfl ?_
    refine L.loadPtr shape3 hF rfl rfl rfl rfl rfl rfl ?_
    obtain ⟨r6, hr6, H⟩ := bindS H
    refine L.call [false] [] [] 7 hF rfl rfl rfl ent103 rfl rfl rfl rfl rfl (Fspec_l5Principal_gives k  a0.Client r6 hr6) rfl ?_
    refine L.pick hF rfl rfl rfl rfl ?_
    refine L.assign hF rfl rfl rfl (L.nil ?_)
    refine WpC.ret ?_
    cases H
    exact Leaves.ret rfl rfl rfl ⟨rfl, rfl⟩
   ·replace H := condF hc H
    refine L.off hF rfl rfl ?_
    refine L.off hF rfl rfl ?_
    refine L.off hF rfl rfl ?_
    refine L.pick hF rfl rfl rfl rfl ?_
    refine L.assign hF rfl rfl rfl (L.nil ?_)
    refine WpC.ret ?_
    cases H
    exact Leaves.ret rfl rfl rfl ⟨rfl, rfl⟩
  ·replace H := condF hc H
   refine L.off hF rfl rfl ?_
   refine L.off hF rfl rfl ?_
   refine L.off hF rfl rfl ?_
   refine L.pick hF rfl rfl rfl rfl ?_
   refine L.move hF rfl rfl rfl ?_
   refine L.off hF rfl rfl ?_
   refine L.off hF rfl rfl ?_
   refine L.off hF rfl rfl ?_
   refine L.pick hF rfl rfl rfl rfl ?_
   refine L.assign hF rfl rfl rfl (L.nil ?_)
   refine WpC.ret ?_
   cases H
   exact Leaves.ret rfl rfl rfl ⟨rfl, rfl⟩
/-! ### Fspec_l5Service -/
def Fspec_l5Service (k : Nat) (a0 : Int) : Option Bool := (Fspec_l1In k a0 (0 : Int) (2 : Int)).bind fun r3 => cond r3 (some true) ((Fspec_l1In k a0 (10 : Int) (12 : Int)).bind fun r4 => some r4)
theorem ent184 : MG.Enters Tryz.prog 184 := ⟨Tryz.f184, Tryz.func184, rfl, by decide⟩
set_option maxHeartbeats 8000000 in
set_option maxRecDepth 100000 in
theorem Fspec_l5Service_gives (k : Nat) (a0 : Int) (r : Bool) (H : Fspec_l5Service k a0 = some r) : Gives Tryz.prog 184 [V.one (cI a0)] [] [V.one (cL r)] [] := by
 refine Gives.intro Tryz.func184 rfl rfl rfl rfl ?_
 intro F hF hm
 unfold Fspec_l5Service at H
 obtain ⟨K, hK⟩ : ∃ K, k ≤ K := ⟨k, Nat.le_refl k⟩
 refine WpC.seq (WpC.regionL ?_)
 refine L.assign hF rfl rfl rfl (L.nil ?_)
 refine WpC.seq (WpC.regionL ?_)
 refine L.move hF rfl rfl rfl ?_
 obtain ⟨r3, hr3, H⟩ := bindS H
 refine L.call [false, false, false] [] [] 1 hF rfl rfl rfl ent52 rfl rfl rfl rfl rfl (Fspec_l1In_gives k  a0 (0 : Int) (2 : Int) r3 hr3) rfl ?_
 refine L.move hF rfl rfl rfl ?_
 refine L.split (fun hc => ?_) (fun hc => ?_)
 ·replace H := condT hc H
  refine L.off hF rfl rfl ?_
  refine L.off hF rfl rfl ?_
  refine L.pick hF rfl rfl rfl rfl ?_
  refine L.assign hF rfl rfl rfl (L.nil ?_)
  refine WpC.ret ?_
  cases H
  exact Leaves.ret rfl rfl rfl ⟨rfl, rfl⟩
 ·replace H := condF hc H
  refine L.move hF rfl rfl rfl ?_
  obtain ⟨r4, hr4, H⟩ := bindS H
  refine L.call [false, false, false] [] [] 2 hF rfl rfl rfl ent52 rfl rfl rfl rfl rfl (Fspec_l1In_gives k  a0 (10 : Int) (12 : Int) r4 hr4) rfl ?_
  refine L.pick hF rfl rfl rfl rfl ?_
  refine L.assign hF rfl rfl rfl (L.nil ?_)
  refine WpC.ret ?_
  cases H
  exact Leaves.ret rfl rfl rfl ⟨rfl, rfl⟩
/-! ### Fspec_RestOk -/
def Fspec_RestOk (k : Nat) (a0 : Timpl_Rest) : Option Bool := (Fspec_l1In k a0.Servers (0 : Int) (7 : Int)).bind fun r4 => cond r4 ((Fspec_l1In k a0.Ops (0 : Int) (255 : Int)).bind fun r5 => cond r5 ((Fspec_l1In k a0.End (0 : Int) (100000 : Int)).bind fun r6 => some r6) (some false)) (some false)
theorem ent90 : MG.Enters Tryz.prog 90 := ⟨Tryz.f90, Tryz.func90, rfl, by decide⟩
set_option maxHeartbeats 8000000 in
set_option maxRecDepth 100000 in
theorem Fspec_RestOk_gives (k : Nat) (a0 : Timpl_Rest) (r : Bool) (H : Fspec_RestOk k a0 = some r) : Gives Tryz.prog 90 [V.agg [cI a0.Servers, cI a0.Ops, cI a0.End]] [] [V.one (cL r)] [] := by
 refine Gives.intro Tryz.func90 rfl rfl rfl rfl ?_
 intro F hF hm
 unfold Fspec_RestOk at H
 obtain ⟨K, hK⟩ : ∃ K, k ≤ K := ⟨k, Nat.le_refl k⟩
 refine WpC.seq (WpC.regionL ?_)
 refine L.box 3 hF rfl rfl rfl rfl ?_
 refine L.assign hF rfl rfl rfl (L.nil ?_)
 refine WpC.seq (WpC.regionL ?_)
 refine L.fieldAddr Tryz.underlying37 rfl info3 rfl hF rfl rfl rfl rfl rfl ?_
 refine L.loadPtr shape3 hF rfl rfl rfl rfl rfl rfl ?_
 obtain ⟨r4, hr4, H⟩ := bindS H
 refine L.call [false, false, false] [] [] 4 hF rfl rfl rfl ent52 rfl rfl rfl rfl rfl (Fspec_l1In_gives k  a0.Servers (0 : Int) (7 : Int) r4 hr4) rfl ?_
 refine L.move hF rfl rfl rfl ?_
 refine L.split (fun hc => ?_) (fun hc => ?_)
 ·replace H := condT hc H
  refine L.fieldAddr Tryz.underlying37 rfl info3 rfl hF rfl rfl rfl rfl rfl ?_
  refine L.loadPtr shape3 hF rfl rfl rfl rfl rfl rfl ?_
  obtain ⟨r5, hr5, H⟩ := bindS H
  refine L.call [false, false, false] [] [] 5 hF rfl rfl rfl ent52 rfl rfl rfl rfl rfl (Fspec_l1In_gives k  a0.Ops (0 : Int) (255 : Int) r5 hr5) rfl ?_
  refine L.pick hF rfl rfl rfl rfl ?_
  refine L.move hF rfl rfl rfl ?_
  refine L.split (fun hc => ?_) (fun hc => ?_)
  ·replace H := condT hc H
   refine L.fieldAddr Tryz.underlying37 rfl info3 rfl hF rfl rfl rfl rfl rfl ?_
   refine L.loadPtr shape3 hF rfl rfl rfl rfl rfl rfl ?_
   obtain ⟨r6, hr6, H⟩ := bindS H
   refine L.call [false, false, false] [] [] 6 hF rfl rfl rfl ent52 rfl rfl rfl rfl rfl (Fspec_l1In_gives k  a0.End (0 : Int) (100000 : Int) r6 hr6) rfl ?_
   refine L.pick hF rfl rfl rfl rfl ?_
   refine L.assign hF rfl rfl rfl (L.nil ?_)
   refine WpC.ret ?_
   cases H
   exact Leaves.ret rfl rfl rfl ⟨rfl, rfl⟩
  ·replace H := condF hc H
   refine L.off hF rfl rfl ?_
   refine L.off hF rfl rfl ?_
   refine L.off hF rfl rfl ?_
   refine L.pick hF rfl rfl rfl rfl ?_
   refine L.assign hF rfl rfl rfl (L.nil ?_)
   refine WpC.ret ?_
   cases H
   exact Leaves.ret rfl rfl rfl ⟨rfl, rfl⟩
 ·replace H := condF hc H
  refine L.off hF rfl rfl ?_
  refine L.off hF rfl rfl ?_
  refine L.off hF rfl rfl ?_
  refine L.pick hF rfl rfl rfl rfl ?_
  refine L.move hF rfl rfl rfl ?_
  refine L.off hF rfl rfl ?_
  refine L.off hF rfl rfl ?_
  refine L.off hF rfl rfl ?_
  refine L.pick hF rfl rfl rfl rfl ?_
  refine L.assign hF rfl rfl rfl (L.nil ?_)
  refine WpC.ret ?_
  cases H
  exact Leaves.ret rfl rfl rfl ⟨rfl, rfl⟩
/-! ### Fspec_CredOk -/
def Fspec_CredOk (k : Nat) (a0 : Timpl_Cred) : Option Bool := (Fspec_l5Principal k a0.Owner).bind fun r7 => cond r7 ((Fspec_l5Principal k a0.Client).bind fun r8 => cond r8 ((Fspec_l5Service k a0.Service).bind fun r9 => cond r9 ((Fspec_l1In k a0.Key (1 : Int) (1000000 : Int)).bind fun r10 => cond r10 ((Fspec_RestOk k (⟨a0.Rest.Servers, a0.Rest.Ops, a0.Rest.End⟩ : Timpl_Rest)).bind fun r11 => cond r11 ((Fspec_TermOk k a0.Ticket).bind fun r12 => some r12) (some false)) (some false)) (some false)) (some false)) (some false)
theorem ent102 : MG.Enters Tryz.prog 102 := ⟨Tryz.f102, Tryz.func102, rfl, by decide⟩
set_option maxHeartbeats 8000000 in
set_option maxRecDepth 100000 in
theorem Fspec_CredOk_gives (k : Nat) (a0 : Timpl_Cred) (r : Bool) (H : Fspec_CredOk k a0 = some r) : Gives Tryz.prog 102 [V.agg [cI a0.Owner, cI a0.Client, cI a0.Service, cI a0.Key, cI a0.Rest.Servers, cI a0.Rest.Ops, cI a0.Rest.End, cS a0.Ticket]] [] [V.one (cL r)] [] := by
 refine Gives.intro Tryz.func102 rfl rfl rfl rfl ?_
 intro F hF hm
 unfold Fspec_CredOk at H
 obtain ⟨K, hK⟩ : ∃ K, k ≤ K := ⟨k, Nat.le_refl k⟩
 refine WpC.seq (WpC.regionL ?_)
 refine L.box 8 hF rfl rfl rfl rfl ?_
 refine L.assign hF rfl rfl rfl (L.nil ?_)
 refine WpC.seq (WpC.regionL ?_)
 refine L.fieldAddr Tryz.underlying142 rfl info3 rfl hF rfl rfl rfl rfl rfl ?_
 refine L.loadPtr shape3 hF rfl rfl rfl rfl rfl rfl ?_
 obtain ⟨r7, hr7, H⟩ := bindS H
 refine L.call [false] [] [] 9 hF rfl rfl rfl ent103 rfl rfl rfl rfl rfl (Fspec_l5Principal_gives k  a0.Owner r7 hr7) rfl ?_
 refine L.move hF rfl rfl rfl ?_
 refine L.split (fun hc => ?_) (fun hc => ?_)
 ·replace H := condT hc H
  refine L.fieldAddr Tryz.underlying142 rfl info3 rfl hF rfl rfl rfl rfl rfl ?_
  refine L.loadPtr shape3 hF rfl rfl rfl rfl rfl rfl ?_
  obtain ⟨r8, hr8, H⟩ := bindS H
  refine L.call [false] [] [] 10 hF rfl rfl rfl ent103 rfl rfl rfl rfl rfl (Fspec_l5Principal_gives k  a0.Client r8 hr8) rfl ?_
  refine L.pick hF rfl rfl rfl rfl ?_
  refine L.move hF rfl rfl rfl ?_
  refine L.split (fun hc => ?_) (fun hc => ?_)
  ·replace H := condT hc H
   refine L.fieldAddr Tryz.underlying142 rfl info3 rfl hF rfl rfl rfl rfl rfl ?_
   refine L.loadPtr shape3 hF rfl rfl rfl rfl rfl rfl ?_
   obtain ⟨r9, hr9, H⟩ := bindS H
   refine L.call [false] [] [] 11 hF rfl rfl rfl ent184 rfl rfl rfl rfl rfl (Fspec_l5Service_gives k  a0.Service r9 hr9) rfl ?_
   refine L.pick hF rfl rfl rfl rfl ?_
   refine L.move hF rfl rfl rfl ?_
   refine L.split (fun hc => ?_) (fun hc => ?_)
   ·replace H := condT hc H
    refine L.fieldAddr Tryz.underlying142 rfl info3 rfl hF rfl rfl rfl rfl rfl ?_
    refine L.loadPtr shape3 hF rfl rfl rfl rfl rfl rfl ?_
    obtain ⟨r10, hr10, H⟩ := bindS H
    refine L.call [false, false, false] [] [] 12 hF rfl rfl rfl ent52 rfl rfl rfl rfl rfl (Fspec_l1In_gives k  a0.Key (1 : Int) (1000000 : Int) r10 hr10) rfl ?_
    refine L.pick hF rfl rfl rfl rfl ?_
    refine L.move hF rfl rfl rfl ?_
    refine L.split (fun hc => ?_) (fun hc => ?_)
    ·replace H := condT hc H
     refine L.fieldAddr Tryz.underlying142 rfl info37 rfl hF rfl rfl rfl rfl rfl ?_
     refine L.loadPtr shape37 hF rfl rfl rfl rfl rfl rfl ?_
     obtain ⟨r11, hr11, H⟩ := bindS H
     refine L.call [false] [] [] 13 hF rfl rfl rfl ent90 rfl rfl rfl rfl rfl (Fspec_RestOk_gives k  (⟨a0.Rest.Servers, a0.Rest.Ops, a0.Rest.End⟩ : Timpl_Rest) r11 hr11) rfl ?_
     refine L.pick hF rfl rfl rfl rfl ?_
     refine L.move hF rfl rfl rfl ?_
     refine L.split (fun hc => ?_) (fun hc => ?_)
     ·replace H := condT hc H
      refine L.fieldAddr Tryz.underlying142 rfl info9 rfl hF rfl rfl rfl rfl rfl ?_
      refine L.loadPtr shape9 hF rfl rfl rfl rfl rfl rfl ?_
      obtain ⟨r12, hr12, H⟩ := bindS H
      refine L.call [false] [] [] 14 hF rfl rfl rfl ent100 rfl rfl rfl rfl rfl (Fspec_TermOk_gives k  a0.Ticket r12 hr12) rfl ?_
      refine L.pick hF rfl rfl rfl rfl ?_
      refine L.assign hF rfl rfl rfl (L.nil ?_)
      refine WpC.ret ?_
      cases H
      exact Leaves.ret rfl rfl rfl ⟨rfl, rfl⟩
     ·replace H := condF hc H
      refine L.off hF rfl rfl ?_
      refine L.off hF rfl rfl ?_
      refine L.off hF rfl rfl ?_
      refine L.pick hF rfl rfl rfl rfl ?_
      refine L.assign hF rfl rfl rfl (L.nil ?_)
      refine WpC.ret ?_
      cases H
      exact Leaves.ret rfl rfl rfl ⟨rfl, rfl⟩
    ·replace H := condF hc H
     refine L.off hF rfl rfl ?_
     refine L.off hF rfl rfl ?_
     refine L.off hF rfl rfl ?_
     refine L.pick hF rfl rfl rfl rfl ?_
     refine L.move hF rfl rfl rfl ?_
     refine L.off hF rfl rfl ?_
     refine L.off hF rfl rfl ?_
     refine L.off hF rfl rfl ?_
     refine L.pick hF rfl rfl rfl rfl ?_
     refine L.assign hF rfl rfl rfl (L.nil ?_)
     refine WpC.ret ?_
     cases H
     exact Leaves.ret rfl rfl rfl ⟨rfl, rfl⟩
   ·replace H := condF hc H
    refine L.off hF rfl rfl ?_
    refine L.off hF rfl rfl ?_
    refine L.off hF rfl rfl ?_
    refine L.pick hF rfl rfl rfl rfl ?_
    refine L.move hF rfl rfl rfl ?_
    refine L.off hF rfl rfl ?_
    refine L.off hF rfl rfl ?_
    refine L.off hF rfl rfl ?_
    refine L.pick hF rfl rfl rfl rfl ?_
    refine L.move hF rfl rfl rfl ?_
    refine L.off hF rfl rfl ?_
    refine L.off hF rfl rfl ?_
    refine L.off hF rfl rfl ?_
    refine L.pick hF rfl rfl rfl rfl ?_
    refine L.assign hF rfl rfl rfl (L.nil ?_)
    refine WpC.ret ?_
    cases H
    exact Leaves.ret rfl rfl rfl ⟨rfl, rfl⟩
  ·replace H := condF hc H
   refine L.off hF rfl rfl ?_
   refine L.off hF rfl rfl ?_
   refine L.off hF rfl rfl ?_
   refine L.pick hF rfl rfl rfl rfl ?_
   refine L.move hF rfl rfl rfl ?_
   refine L.off hF rfl rfl ?_
   refine L.off hF rfl rfl ?_
   refine L.off hF rfl rfl ?_
   refine L.pick hF rfl rfl rfl rfl ?_
   refine L.move hF rfl rfl rfl ?_
   refine L.off hF rfl rfl ?_
   refine L.off hF rfl rfl ?_
   refine L.off hF rfl rfl ?_
   refine L.pick hF rfl rfl rfl rfl ?_
   refine L.move hF rfl rfl rfl ?_
   refine L.off hF rfl rfl ?_
   refine L.off hF rfl rfl ?_
   refine L.off hF rfl rfl ?_
   refine L.pick hF rfl rfl rfl rfl ?_
   refine L.assign hF rfl rfl rfl (L.nil ?_)
   refine WpC.ret ?_
   cases H
   exact Leaves.ret rfl rfl rfl ⟨rfl, rfl⟩
 ·replace H := condF hc H
  refine L.off hF rfl rfl ?_
  refine L.off hF rfl rfl ?_
  refine L.off hF rfl rfl ?_
  refine L.pick hF rfl rfl rfl rfl ?_
  refine L.move hF rfl rfl rfl ?_
  refine L.off hF rfl rfl ?_
  refine L.off hF rfl rfl ?_
  refine L.off hF rfl rfl ?_
  refine L.pick hF rfl rfl rfl rfl ?_
  refine L.move hF rfl rfl rfl ?_
  refine L.off hF rfl rfl ?_
  refine L.off hF rfl rfl ?_
  refine L.off hF rfl rfl ?_
  refine L.pick hF rfl rfl rfl rfl ?_
  refine L.move hF rfl rfl rfl ?_
  refine L.off hF rfl rfl ?_
  refine L.off hF rfl rfl ?_
  refine L.off hF rfl rfl ?_
  refine L.pick hF rfl rfl rfl rfl ?_
  refine L.move hF rfl rfl rfl ?_
  refine L.off hF rfl rfl ?_
  refine L.off hF rfl rfl ?_
  refine L.off hF rfl rfl ?_
  refine L.pick hF rfl rfl rfl rfl ?_
  refine L.assign hF rfl rfl rfl (L.nil ?_)
  refine WpC.ret ?_
  cases H
  exact Leaves.ret rfl rfl rfl ⟨rfl, rfl⟩
/-! ### Fspec_l5AuthOk -/
def Fspec_l5AuthOk (k : Nat) (a0 : Timpl_Auth) : Option Bool := (Fspec_l5Principal k a0.Client).bind fun r4 => cond r4 ((Fspec_l1In k a0.Time (0 : Int) (100000 : Int)).bind fun r5 => cond r5 ((Fspec_l1In k a0.Seq (0 : Int) (1000000 : Int)).bind fun r6 => some r6) (some false)) (some false)
theorem ent88 : MG.Enters Tryz.prog 88 := ⟨Tryz.f88, Tryz.func88, rfl, by decide⟩
set_option maxHeartbeats 8000000 in
set_option maxRecDepth 100000 in
theorem Fspec_l5AuthOk_gives (k : Nat) (a0 : Timpl_Auth) (r : Bool) (H : Fspec_l5AuthOk k a0 = some r) : Gives Tryz.prog 88 [V.agg [cI a0.Client, cI a0.Time, cI a0.Seq]] [] [V.one (cL r)] [] := by
 refine Gives.intro Tryz.func88 rfl rfl rfl rfl ?_
 intro F hF hm
 unfold Fspec_l5AuthOk at H
 obtain ⟨K, hK⟩ : ∃ K, k ≤ K := ⟨k, Nat.le_refl k⟩
 refine WpC.seq (WpC.regionL ?_)
 refine L.box 3 hF rfl rfl rfl rfl ?_
 refine L.assign hF rfl rfl rfl (L.nil ?_)
 refine WpC.seq (WpC.regionL ?_)
 refine L.fieldAddr Tryz.underlying35 rfl info3 rfl hF rfl rfl rfl rfl rfl ?_
 refine L.loadPtr shape3 hF rfl rfl rfl rfl rfl rfl ?_
 obtain ⟨r4, hr4, H⟩ := bindS H
 refine L.call [false] [] [] 4 hF rfl rfl rfl ent103 rfl rfl rfl rfl rfl (Fspec_l5Principal_gives k  a0.Client r4 hr4) rfl ?_
 refine L.move hF rfl rfl rfl ?_
 refine L.split (fun hc => ?_) (fun hc => ?_)
 ·replace H := condT hc H
  refine L.fieldAddr Tryz.underlying35 rfl info3 rfl hF rfl rfl rfl rfl rfl ?_
  refine L.loadPtr shape3 hF rfl rfl rfl rfl rfl rfl ?_
  obtain ⟨r5, hr5, H⟩ := bindS H
  refine L.call [false, false, false] [] [] 5 hF rfl rfl rfl ent52 rfl rfl rfl rfl rfl (Fspec_l1In_gives k  a0.Time (0 : Int) (100000 : Int) r5 hr5) rfl ?_
  refine L.pick hF rfl rfl rfl rfl ?_
  refine L.move hF rfl rfl rfl ?_
  refine L.split (fun hc => ?_) (fun hc => ?_)
  ·replace H := condT hc H
   refine L.fieldAddr Tryz.underlying35 rfl info3 rfl hF rfl rfl rfl rfl rfl ?_
   refine L.loadPtr shape3 hF rfl rfl rfl rfl rfl rfl ?_
   obtain ⟨r6, hr6, H⟩ := bindS H
   refine L.call [false, false, false] [] [] 6 hF rfl rfl rfl ent52 rfl rfl rfl rfl rfl (Fspec_l1In_gives k  a0.Seq (0 : Int) (1000000 : Int) r6 hr6) rfl ?_
   refine L.pick hF rfl rfl rfl rfl ?_
   refine L.assign hF rfl rfl rfl (L.nil ?_)
   refine WpC.ret ?_
   cases H
   exact Leaves.ret rfl rfl rfl ⟨rfl, rfl⟩
  ·replace H := condF hc H
   refine L.off hF rfl rfl ?_
   refine L.off hF rfl rfl ?_
   refine L.off hF rfl rfl ?_
   refine L.pick hF rfl rfl rfl rfl ?_
   refine L.assign hF rfl rfl rfl (L.nil ?_)
   refine WpC.ret ?_
   cases H
   exact Leaves.ret rfl rfl rfl ⟨rfl, rfl⟩
 ·replace H := condF hc H
  refine L.off hF rfl rfl ?_
  refine L.off hF rfl rfl ?_
  refine L.off hF rfl rfl ?_
  refine L.pick hF rfl rfl rfl rfl ?_
  refine L.move hF rfl rfl rfl ?_
  refine L.off hF rfl rfl ?_
  refine L.off hF rfl rfl ?_
  refine L.off hF rfl rfl ?_
  refine L.pick hF rfl rfl rfl rfl ?_
  refine L.assign hF rfl rfl rfl (L.nil ?_)
  refine WpC.ret ?_
  cases H
  exact Leaves.ret rfl rfl rfl ⟨rfl, rfl⟩
/-! ### Fspec_l7Saw -/
def Fspec_l7Saw.l2 : Nat → (List Timpl_Auth) → Int → Timpl_Auth → Option Bool
 | 0, _, _, _ => none
 | k2 + 1, v24, v25, v26 => cond (decide (v25 < (v24.length : Int))) ((at? v24 v25).bind fun b28 => cond ((b28.Client == v26.Client) && ((b28.Time == v26.Time) && ((b28.Seq == v26.Seq) && true))) (some true) ((Fspec_l7Saw.l2 k2) v24 (IntKind.i64.wrap (v25 + (1 : Int))) v26)) (some false)
def Fspec_l7Saw (k : Nat) (a0 : List Timpl_Auth) (a1 : Timpl_Auth) : Option Bool := Fspec_l7Saw.l2 k a0 (0 : Int) a1
theorem ent89 : MG.Enters Tryz.prog 89 := ⟨Tryz.f89, Tryz.func89, rfl, by decide⟩
set_option maxHeartbeats 8000000 in
set_option maxRecDepth 100000 in
theorem Fspec_l7Saw_gives (k : Nat) (g0 : Bool) (a0 : List Timpl_Auth) (a1 : Timpl_Auth) (r : Bool) (H : Fspec_l7Saw k a0 a1 = some r) : Gives Tryz.prog 89 [V.one (Cell.sl g0 (List.map eTimpl_Auth a0)), V.agg [cI a1.Client, cI a1.Time, cI a1.Seq]] [] [V.one (cL r)] [] := by
 refine Gives.intro Tryz.func89 rfl rfl rfl rfl ?_
 intro F hF hm
 unfold Fspec_l7Saw at H
 obtain ⟨K, hK⟩ : ∃ K, k ≤ K := ⟨k, Nat.le_refl k⟩
 refine WpC.seq (WpC.regionL ?_)
 refine L.box 4 hF rfl rfl rfl rfl ?_
 refine L.assign hF rfl rfl rfl (L.nil ?_)
 refine WpC.seq (WpC.seq (WpC.regionL ?_))
 refine L.assign hF rfl rfl rfl (L.nil ?_)
 refine WpC.block ?_
 refine WpC.loopL (P := Tryz.prog) (fun n σ => ∃ v24 : List Timpl_Auth, ∃ v25 : Int, ∃ v26 : Timpl_Auth, n ≤ K ∧ Fspec_l7Saw.l2 n v24 v25 v26 = some r ∧ σ = mkSt [(0, one (Cell.sl g0 (List.map eTimpl_Auth v24))), (3, one (Cell.ptr 0 0)), (5, one (cI v25))] [] [(0, (bTimpl_Auth v26))] 1) k ⟨_, ⟨a0, (0 : Int), a1, by omega, H, rfl⟩, Le.mk [(0, 4)] hm rfl (Sa2 (Sa1 trivial)) trivial (Ba1 trivial)⟩ ?_
 clear H
 rintro k2 _ ⟨v24, v25, v26, hk2, H, rfl⟩
 cases k2 with
 | zero => cases H
 | succ k2 =>
  rw [Fspec_l7Saw.l2] at H
  refine WpC.seq (WpC.seq (WpC.regionL ?_))
  refine L.move hF rfl rfl rfl ?_
  refine L.move hF rfl rfl rfl ?_
  refine L.lenR (xs := v24) (e := eTimpl_Auth) Tryz.underlying31 hF rfl rfl rfl rfl ?_
  refine L.bin hF rfl rfl rfl rfl rfl rfl (L.nil ?_)
  refine WpC.cond rfl (fun hc => ?_) (fun hc => ?_)
  ·replace H := condT hc H
   refine WpC.skip (WpC.seq (WpC.block (WpC.seq ?_)))
   refine S.begin mixed (by kernel_rfl) ?_
   refine S.st 0 rfl rfl ((Ca.move).quiet) (fun Q0 k0 => L.move hF rfl rfl rfl (L.nil k0)) ?_
   refine S.st 1 rfl rfl ((Ca.move).quiet) (fun Q0 k0 => L.move hF rfl rfl rfl (L.nil k0)) ?_
   obtain ⟨b28, hb28, H⟩ := bindS H
   refine S.st 2 rfl rfl ((Ca.indexAddr).quiet) (fun Q0 k0 => L.idxR (xs := v24) (e := eTimpl_Auth) Tryz.underlying31 info35 hF rfl rfl rfl rfl rfl hb28 rfl rfl (L.nil k0)) ?_
   refine S.st 3 rfl rfl (Qu.load) (fun Q0 k0 => L.loadPe shape35 hF rfl rfl rfl rfl rfl (L.nil k0)) ?_
   refine S.st 4 rfl rfl (Qu.load) (fun Q0 k0 => L.loadPtr shape35 hF rfl rfl rfl rfl rfl rfl (L.nil k0)) ?_
   refine S.st 5 rfl rfl ((Ca.eqA (r := ((b28.Client == v26.Client) && ((b28.Time == v26.Time) && ((b28.Seq == v26.Seq) && true)))) rfl rfl rfl rfl (by kernel_rfl) (by kernel_rfl)).quiet) (fun Q0 k0 => L.eqA (r := ((b28.Client == v26.Client) && ((b28.Time == v26.Time) && ((b28.Seq == v26.Seq) && true)))) hF rfl rfl rfl rfl rfl rfl (by kernel_rfl) (by kernel_rfl) (L.nil k0)) ?_
   refine S.nil ?_
   refine WpC.cond rfl (fun hc => ?_) (fun hc => ?_)
   ·replace H := condT hc H
    refine WpC.seq (WpC.regionL ?_)
    refine L.assign hF rfl rfl rfl (L.nil ?_)
    refine WpC.ret ?_
    cases H
    exact Leaves.ret rfl rfl rfl ⟨rfl, rfl⟩
   ·replace H := condF hc H
    refine WpC.skip (WpC.regionL ?_)
    refine L.move hF rfl rfl rfl ?_
    refine L.bin hF rfl rfl rfl rfl rfl rfl ?_
    refine L.assign hF rfl rfl rfl (L.nil ?_)
    exact ⟨k2, _, by omega, ⟨v24, (IntKind.i64.wrap (v25 + (1 : Int))), v26, by omega, H, rfl⟩, Le.mk [(0, 0)] hm rfl (Sa2 (Sa1 trivial)) trivial (Ba1 trivial)⟩
  ·replace H := condF hc H
   refine WpC.exit (WpC.seq (WpC.regionL ?_))
   refine L.assign hF rfl rfl rfl (L.nil ?_)
   refine WpC.ret ?_
   cases H
   exact Leaves.ret rfl rfl rfl ⟨rfl, rfl⟩
/-! ### Fspec_CacheOk -/
def Fspec_CacheOk.l2 : Nat → Int → Timpl_Cache → Option Bool
 | 0, _, _ => none
 | k2 + 1, v113, v114 => cond (decide (v113 < (v114.Seen.length : Int))) ((at? v114.Seen v113).bind fun b130 => (Fspec_l5AuthOk k2 b130).bind fun r131 => cond (!r131) (some false) ((part? v114.Seen (0 : Int) v113).bind fun b133 => (at? v114.Seen v113).bind fun b134 => (Fspec_l7Saw k2 b133 b134).bind fun r135 => cond r135 (some false) ((Fspec_CacheOk.l2 k2) (IntKind.i64.wrap (v113 + (1 : Int))) v114))) (some true)
def Fspec_CacheOk (k : Nat) (a0 : Timpl_Cache) : Option Bool := (Fspec_l1In k a0.Quiet (-1 : Int) (200000 : Int)).bind fun r4 => cond (!r4) (some false) (cond (decide ((a0.Seen.length : Int) > (6 : Int))) (some false) (Fspec_CacheOk.l2 k (0 : Int) a0))
theorem ent25 : MG.Enters Tryz.prog 25 := ⟨Tryz.f25, Tryz.func25, rfl, by decide⟩
set_option maxHeartbeats 8000000 in
set_option maxRecDepth 100000 in
theorem Fspec_CacheOk_gives (k : Nat) (g0 : Bool) (a0 : Timpl_Cache) (r : Bool) (H : Fspec_CacheOk k a0 = some r) : Gives Tryz.prog 25 [V.agg [cI a0.Quiet, Cell.sl g0 (List.map eTimpl_Auth a0.Seen)]] [] [V.one (cL r)] [] := by
 refine Gives.intro Tryz.func25 rfl rfl rfl rfl ?_
 intro F hF hm
 unfold Fspec_CacheOk at H
 obtain ⟨K, hK⟩ : ∃ K, k ≤ K := ⟨k, Nat.le_refl k⟩
 refine WpC.seq (WpC.regionL ?_)
 refine L.box 2 hF rfl rfl rfl rfl ?_
 refine L.assign hF rfl rfl rfl (L.nil ?_)
 refine WpC.seq (WpC.seq (WpC.regionL ?_))
 refine L.fieldAddr Tryz.underlying33 rfl info3 rfl hF rfl rfl rfl rfl rfl ?_
 refine L.loadPtr shape3 hF rfl rfl rfl rfl rfl rfl ?_
 obtain ⟨r4, hr4, H⟩ := bindS H
 refine L.call [false, false, false] [] [] 3 hF rfl rfl rfl ent52 rfl rfl rfl rfl rfl (Fspec_l1In_gives k  a0.Quiet (-1 : Int) (200000 : Int) r4 hr4) rfl ?_
 refine L.not hF rfl rfl rfl ?_
 refine L.move hF rfl rfl rfl ?_
 refine L.split (fun hc => ?_) (fun hc => ?_)
 ·replace H := condT hc H
  refine L.off hF rfl rfl ?_
  refine L.off hF rfl rfl ?_
  refine L.off hF rfl rfl ?_
  refine L.off hF rfl rfl ?_
  refine L.pick hF rfl rfl rfl rfl (L.nil ?_)
  refine WpC.cond rfl (fun _ => ?_) (fun hc => by cases hc)
  refine WpC.seq (WpC.regionL ?_)
  refine L.assign hF rfl rfl rfl (L.nil ?_)
  refine WpC.ret ?_
  cases H
  exact Leaves.ret rfl rfl rfl ⟨rfl, rfl⟩
 ·replace H := condF hc H
  refine L.fieldAddr Tryz.underlying33 rfl info31 rfl hF rfl rfl rfl rfl rfl ?_
  refine L.loadPtr shape31 hF rfl rfl rfl rfl rfl rfl ?_
  refine L.lenR (xs := a0.Seen) (e := eTimpl_Auth) Tryz.underlying31 hF rfl rfl rfl rfl ?_
  refine L.bin hF rfl rfl rfl rfl rfl rfl ?_
  refine L.pick hF rfl rfl rfl rfl (L.nil ?_)
  refine WpC.cond rfl (fun hc => ?_) (fun hc => ?_)
  ·replace H := condT hc H
   refine WpC.seq (WpC.regionL ?_)
   refine L.assign hF rfl rfl rfl (L.nil ?_)
   refine WpC.ret ?_
   cases H
   exact Leaves.ret rfl rfl rfl ⟨rfl, rfl⟩
  ·replace H := condF hc H
   refine WpC.skip (WpC.seq (WpC.seq (WpC.regionL ?_)))
   refine L.assign hF rfl rfl rfl (L.nil ?_)
   refine WpC.block ?_
   refine WpC.loopL (P := Tryz.prog) (fun n σ => ∃ v113 : Int, ∃ v114 : Timpl_Cache, n ≤ K ∧ Fspec_CacheOk.l2 n v113 v114 = some r ∧ σ = mkSt [(1, one (Cell.ptr 0 0)), (3, one (cI v113))] [] [(0, [cI v114.Quiet, Cell.sl g0 (List.map eTimpl_Auth v114.Seen)])] 1) k ⟨_, ⟨(0 : Int), a0, by omega, H, rfl⟩, Le.mk [(0, 2)] hm rfl (Sa2 trivial) trivial (Ba1 trivial)⟩ ?_
   clear H
   rintro k2 _ ⟨v113, v114, hk2, H, rfl⟩
   cases k2 with
   | zero => cases H
   | succ k2 =>
    rw [Fspec_CacheOk.l2] at H
    refine WpC.seq (WpC.seq (WpC.regionL ?_))
    refine L.move hF rfl rfl rfl ?_
    refine L.fieldAddr Tryz.underlying33 rfl info31 rfl hF rfl rfl rfl rfl rfl ?_
    refine L.loadPtr shape31 hF rfl rfl rfl rfl rfl rfl ?_
    refine L.lenR (xs := v114.Seen) (e := eTimpl_Auth) Tryz.underlying31 hF rfl rfl rfl rfl ?_
    refine L.bin hF rfl rfl rfl rfl rfl rfl (L.nil ?_)
    refine WpC.cond rfl (fun hc => ?_) (fun hc => ?_)
    ·replace H := condT hc H
     refine WpC.skip (WpC.seq (WpC.block (WpC.seq ?_)))
     obtain ⟨b130, hb130, H⟩ := bindS H
     obtain ⟨r131, hr131, H⟩ := bindS H
     rcases Bool.eq_false_or_eq_true ((!r131)) with hc132 | hc132
     ·replace H := condT hc132 H
      refine A.begin mixed rfl rfl ?_
      intro W hI hO
      refine hI _ _ _ ?_
      refine Atk 0 rfl (Ca.fieldAddr Tryz.underlying33 rfl info31 rfl) (fun Q0 k0 => L.fieldAddr Tryz.underlying33 rfl info31 rfl hF rfl rfl rfl rfl rfl (L.nil k0)) ?_
      refine Atk 2 rfl (Ca.move) (fun Q0 k0 => L.move hF rfl rfl rfl (L.nil k0)) ?_
      refine A.all [1] (by kernel_rfl) rfl ⟨⟨_, rfl, ?_⟩, trivial⟩
      refine L.loadPtr shape31 hF rfl rfl rfl rfl rfl rfl (L.nil ?_)
      refine Atk 3 rfl (Ca.indexAddr) (fun Q0 k0 => L.idxR (xs := v114.Seen) (e := eTimpl_Auth) Tryz.underlying31 info35 hF rfl rfl rfl rfl rfl hb130 rfl rfl (L.nil k0)) ?_
      refine A.all [4] (by kernel_rfl) rfl ⟨⟨_, rfl, ?_⟩, trivial⟩
      refine L.loadPe shape35 hF rfl rfl rfl rfl rfl (L.nil ?_)
      refine A.all [5] (by kernel_rfl) rfl ⟨⟨_, rfl, ?_⟩, trivial⟩
      refine L.call [false] [] [] 1 hF rfl rfl rfl ent88 rfl rfl rfl rfl rfl (Fspec_l5AuthOk_gives k2  b130 r131 hr131) rfl (L.nil ?_)
      refine Atk 6 rfl (Ca.un rfl rfl) (fun Q0 k0 => L.not hF rfl rfl rfl (L.nil k0)) ?_
      refine Atk 7 rfl (Ca.move) (fun Q0 k0 => L.move hF rfl rfl rfl (L.nil k0)) ?_
      refine A.le (τ := mkSt [(1, one (Cell.ptr 0 0)), (3, one (cI v113)), (28, one (cL true))] [] [(0, [cI v114.Quiet, Cell.sl g0 (List.map eTimpl_Auth v114.Seen)])] 1) (Le.mk [(0, 0)] hm rfl (Sa2 (Sa1 trivial rfl (congrArg (fun b => some (one (cL b))) hc132))) trivial (Ba1 trivial)) ?_
      refine Aof 8 rfl hF ?_
      refine Aof 9 rfl hF ?_
      refine Aof 10 rfl hF ?_
      refine Aof 11 rfl hF ?_
      refine Aof 12 rfl hF ?_
      refine Aof 13 rfl hF ?_
      refine Aof 14 rfl hF ?_
      refine Aof 15 rfl hF ?_
      refine Aof 16 rfl hF ?_
      refine A.all [17] (by kernel_rfl) rfl ⟨⟨_, rfl, ?_⟩, trivial⟩
      refine L.off hF rfl rfl (L.nil ?_)
      refine A.le (τ := mkSt [(1, one (Cell.ptr 0 0)), (3, one (cI v113)), (28, one (cL true)), (38, Slot.tup [])] [] [(0, [cI v114.Quiet, Cell.sl g0 (List.map eTimpl_Auth v114.Seen)])] 1) (Le.mk [(0, 0)] hm rfl (Sa4 trivial) trivial (Ba1 trivial)) ?_
      refine Atk 18 rfl (Ca.pick) (fun Q0 k0 => L.pick hF rfl rfl rfl rfl (L.nil k0)) ?_
      refine A.le (τ := mkSt [(1, one (Cell.ptr 0 0)), (3, one (cI v113)), (39, one (cL true))] [] [(0, [cI v114.Quiet, Cell.sl g0 (List.map eTimpl_Auth v114.Seen)])] 1) (Le.mk [(0, 0)] hm rfl (Sa2 (Sa1 trivial)) trivial (Ba1 trivial)) ?_
      refine A.done (by kernel_rfl) ?_
      refine WpC.cond rfl (fun _ => ?_) (fun hc => by cases hc)
      refine WpC.seq (WpC.regionL ?_)
      refine L.assign hF rfl rfl rfl (L.nil ?_)
      refine WpC.ret ?_
      cases H
      exact Leaves.ret rfl rfl rfl ⟨rfl, rfl⟩
     ·replace H := condF hc132 H
      obtain ⟨b133, hb133, H⟩ := bindS H
      obtain ⟨b134, hb134, H⟩ := bindS H
      obtain ⟨r135, hr135, H⟩ := bindS H
      refine A.begin mixed rfl rfl ?_
      intro W hI hO
      have n131071 : W 2 #[true, true, true, true, true, true, true, true, true, true, true, true, true, true, true, true, true, false, false] (mkSt [(1, one (Cell.ptr 0 0)), (3, one (cI v113)), (28, one (cL false)), (32, one (Cell.sl g0 (List.map eTimpl_Auth b133))), (37, agg (bTimpl_Auth b134))] [] [(0, [cI v114.Quiet, Cell.sl g0 (List.map eTimpl_Auth v114.Seen)])] 1) := by
       refine hI _ _ _ ?_
       refine A.all [17] (by kernel_rfl) rfl ⟨⟨_, rfl, ?_⟩, trivial⟩
       refine L.call [false, false] [] [] 1 hF rfl rfl rfl ent89 rfl rfl rfl rfl rfl (Fspec_l7Saw_gives k2 g0 b133 b134 r135 hr135) rfl (L.nil ?_)
       refine Atk 18 rfl (Ca.pick) (fun Q0 k0 => L.pick hF rfl rfl rfl rfl (L.nil k0)) ?_
       refine A.le (τ := mkSt [(1, one (Cell.ptr 0 0)), (3, one (cI v113)), (39, one (cL r135))] [] [(0, [cI v114.Quiet, Cell.sl g0 (List.map eTimpl_Auth v114.Seen)])] 1) (Le.mk [(0, 0)] hm rfl (Sa2 (Sa1 trivial)) trivial (Ba1 trivial)) ?_
       refine A.done (by kernel_rfl) ?_
       refine WpC.cond rfl (fun hc => ?_) (fun hc => ?_)
       ·replace H := condT hc H
        refine WpC.seq (WpC.regionL ?_)
        refine L.assign hF rfl rfl rfl (L.nil ?_)
        refine WpC.ret ?_
        cases H
        exact Leaves.ret rfl rfl rfl ⟨rfl, rfl⟩
       ·replace H := condF hc H
        refine WpC.skip (WpC.regionL ?_)
        refine L.move hF rfl rfl rfl ?_
        refine L.bin hF rfl rfl rfl rfl rfl rfl ?_
        refine L.assign hF rfl rfl rfl (L.nil ?_)
        exact ⟨k2, _, by omega, ⟨(IntKind.i64.wrap (v113 + (1 : Int))), v114, by omega, H, rfl⟩, Le.mk [(0, 0)] hm rfl (Sa2 trivial) trivial (Ba1 trivial)⟩
      have n65535 : W 3 #[true, true, true, true, true, true, true, true, true, true, true, true, true, true, true, true, false, false, false] (mkSt [(1, one (Cell.ptr 0 0)), (3, one (cI v113)), (28, one (cL false)), (32, one (Cell.sl g0 (List.map eTimpl_Auth b133))), (36, one (Cell.pe g0 (eTimpl_Auth b134) 0))] [] [(0, [cI v114.Quiet, Cell.sl g0 (List.map eTimpl_Auth v114.Seen)])] 1) := by
       refine hI _ _ _ ?_
       refine A.all [16] (by kernel_rfl) rfl ⟨⟨_, rfl, ?_⟩, trivial⟩
       refine L.loadPe shape35 hF rfl rfl rfl rfl rfl (L.nil ?_)
       exact A.on (hO _ _ _ n131071) (Le.mk [(0, 0)] hm rfl (Sa4 (Sa1 trivial)) trivial (Ba1 trivial))
      refine hI _ _ _ ?_
      refine Atk 0 rfl (Ca.fieldAddr Tryz.underlying33 rfl info31 rfl) (fun Q0 k0 => L.fieldAddr Tryz.underlying33 rfl info31 rfl hF rfl rfl rfl rfl rfl (L.nil k0)) ?_
      refine Atk 2 rfl (Ca.move) (fun Q0 k0 => L.move hF rfl rfl rfl (L.nil k0)) ?_
      refine A.all [1] (by kernel_rfl) rfl ⟨⟨_, rfl, ?_⟩, trivial⟩
      refine L.loadPtr shape31 hF rfl rfl rfl rfl rfl rfl (L.nil ?_)
      refine Atk 3 rfl (Ca.indexAddr) (fun Q0 k0 => L.idxR (xs := v114.Seen) (e := eTimpl_Auth) Tryz.underlying31 info35 hF rfl rfl rfl rfl rfl hb130 rfl rfl (L.nil k0)) ?_
      refine A.all [4] (by kernel_rfl) rfl ⟨⟨_, rfl, ?_⟩, trivial⟩
      refine L.loadPe shape35 hF rfl rfl rfl rfl rfl (L.nil ?_)
      refine A.all [5] (by kernel_rfl) rfl ⟨⟨_, rfl, ?_⟩, trivial⟩
      refine L.call [false] [] [] 1 hF rfl rfl rfl ent88 rfl rfl rfl rfl rfl (Fspec_l5AuthOk_gives k2  b130 r131 hr131) rfl (L.nil ?_)
      refine Atk 6 rfl (Ca.un rfl rfl) (fun Q0 k0 => L.not hF rfl rfl rfl (L.nil k0)) ?_
      refine Atk 7 rfl (Ca.move) (fun Q0 k0 => L.move hF rfl rfl rfl (L.nil k0)) ?_
      refine A.le (τ := mkSt [(1, one (Cell.ptr 0 0)), (3, one (cI v113)), (28, one (cL false))] [] [(0, [cI v114.Quiet, Cell.sl g0 (List.map eTimpl_Auth v114.Seen)])] 1) (Le.mk [(0, 0)] hm rfl (Sa2 (Sa1 trivial rfl (congrArg (fun b => some (one (cL b))) hc132))) trivial (Ba1 trivial)) ?_
      refine Atk 8 rfl (Ca.fieldAddr Tryz.underlying33 rfl info31 rfl) (fun Q0 k0 => L.fieldAddr Tryz.underlying33 rfl info31 rfl hF rfl rfl rfl rfl rfl (L.nil k0)) ?_
      refine Atk 10 rfl (Ca.move) (fun Q0 k0 => L.move hF rfl rfl rfl (L.nil k0)) ?_
      refine Atk 12 rfl (Ca.fieldAddr Tryz.underlying33 rfl info31 rfl) (fun Q0 k0 => L.fieldAddr Tryz.underlying33 rfl info31 rfl hF rfl rfl rfl rfl rfl (L.nil k0)) ?_
      refine Atk 14 rfl (Ca.move) (fun Q0 k0 => L.move hF rfl rfl rfl (L.nil k0)) ?_
      refine A.all [9, 13] (by kernel_rfl) rfl ⟨⟨_, rfl, ?_⟩, ⟨_, rfl, ?_⟩, trivial⟩
      ·refine L.loadPtr shape31 hF rfl rfl rfl rfl rfl rfl (L.nil ?_)
       refine Atk 11 rfl (Ca.slice) (fun Q0 k0 => L.cutR (xs := v114.Seen) (ys := b133) (e := eTimpl_Auth) Tryz.underlying31 info35 hF rfl rfl rfl rfl rfl hb133 (fun _ => rfl) (L.nil k0)) ?_
       refine A.all [13] (by kernel_rfl) rfl ⟨⟨_, rfl, ?_⟩, trivial⟩
       refine L.loadPtr shape31 hF rfl rfl rfl rfl rfl rfl (L.nil ?_)
       refine Atk 15 rfl (Ca.indexAddr) (fun Q0 k0 => L.idxR (xs := v114.Seen) (e := eTimpl_Auth) Tryz.underlying31 info35 hF rfl rfl rfl rfl rfl hb134 rfl rfl (L.nil k0)) ?_
       exact A.on (hO _ _ _ n65535) (Le.mk [(0, 0)] hm rfl (Sa4 (Sa1 trivial)) trivial (Ba1 trivial))
      ·refine L.loadPtr shape31 hF rfl rfl rfl rfl rfl rfl (L.nil ?_)
       refine Atk 15 rfl (Ca.indexAddr) (fun Q0 k0 => L.idxR (xs := v114.Seen) (e := eTimpl_Auth) Tryz.underlying31 info35 hF rfl rfl rfl rfl rfl hb134 rfl rfl (L.nil k0)) ?_
       refine A.all [9, 16] (by kernel_rfl) rfl ⟨⟨_, rfl, ?_⟩, ⟨_, rfl, ?_⟩, trivial⟩
       ·refine L.loadPtr shape31 hF rfl rfl rfl rfl rfl rfl (L.nil ?_)
        refine Atk 11 rfl (Ca.slice) (fun Q0 k0 => L.cutR (xs := v114.Seen) (ys := b133) (e := eTimpl_Auth) Tryz.underlying31 info35 hF rfl rfl rfl rfl rfl hb133 (fun _ => rfl) (L.nil k0)) ?_
        exact A.on (hO _ _ _ n65535) (Le.mk [(0, 0)] hm rfl (Sa4 (Sa1 trivial)) trivial (Ba1 trivial))
       ·refine L.loadPe shape35 hF rfl rfl rfl rfl rfl (L.nil ?_)
        refine A.all [9] (by kernel_rfl) rfl ⟨⟨_, rfl, ?_⟩, trivial⟩
        refine L.loadPtr shape31 hF rfl rfl rfl rfl rfl rfl (L.nil ?_)
        refine Atk 11 rfl (Ca.slice) (fun Q0 k0 => L.cutR (xs := v114.Seen) (ys := b133) (e := eTimpl_Auth) Tryz.underlying31 info35 hF rfl rfl rfl rfl rfl hb133 (fun _ => rfl) (L.nil k0)) ?_
        exact A.on (hO _ _ _ n131071) (Le.mk [(0, 0)] hm rfl (Sa4 (Sa1 trivial)) trivial (Ba1 trivial))
    ·replace H := condF hc H
     refine WpC.exit (WpC.seq (WpC.regionL ?_))
     refine L.assign hF rfl rfl rfl (L.nil ?_)
     refine WpC.ret ?_
     cases H
     exact Leaves.ret rfl rfl rfl ⟨rfl, rfl⟩
/-! ### Fspec_WorldOk -/
def Fspec_WorldOk.l10 : Nat → Int → Timpl_World → Option Bool
 | 0, _, _ => none
 | k10 + 1, v271, v272 => cond (decide (v271 < (v272.Accepts.length : Int))) ((at? v272.Accepts v271).bind fun b284 => (Fspec_l1In k10 b284.Server (0 : Int) (2 : Int)).bind fun r290 => cond (!r290) (some false) ((Fspec_l5Principal k10 b284.Client).bind fun r291 => cond (!r291) (some false) ((Fspec_l1In k10 b284.Leaks (0 : Int) (v272.Leaked.length : Int)).bind fun r292 => cond (!r292) (some false) ((Fspec_l5All k10 b284.Path (6 : Int) (3 : Int)).bind fun r293 => cond (!r293) (some false) ((Fspec_l5All k10 b284.Via (4 : Int) (3 : Int)).bind fun r294 => cond (!r294) (some false) ((Fspec_WorldOk.l10 k10) (IntKind.i64.wrap (v271 + (1 : Int))) v272)))))) (some true)
def Fspec_WorldOk.l8 : Nat → Int → Timpl_World → Option Bool
 | 0, _, _ => none
 | k8 + 1, v147, v148 => cond (decide (v147 < (v148.Caches.length : Int))) ((at? v148.Caches v147).bind fun b151 => (Fspec_CacheOk k8 b151).bind fun r152 => cond (!r152) (some false) ((Fspec_WorldOk.l8 k8) (IntKind.i64.wrap (v147 + (1 : Int))) v148)) (Fspec_WorldOk.l10 k8 (0 : Int) v148)
def Fspec_WorldOk.l6 : Nat → Int → Timpl_World → Option Bool
 | 0, _, _ => none
 | k6 + 1, v113, v114 => cond (decide (v113 < (v114.Creds.length : Int))) ((at? v114.Creds v113).bind fun b117 => (Fspec_CredOk k6 b117).bind fun r118 => cond (!r118) (some false) ((Fspec_WorldOk.l6 k6) (IntKind.i64.wrap (v113 + (1 : Int))) v114)) (Fspec_WorldOk.l8 k6 (0 : Int) v114)
def Fspec_WorldOk.l4 : Nat → Int → Timpl_World → Option Bool
 | 0, _, _ => none
 | k4 + 1, v79, v80 => cond (decide (v79 < (v80.Waits.length : Int))) ((at? v80.Waits v79).bind fun b83 => (Fspec_l10WaitOk k4 b83).bind fun r84 => cond (!r84) (some false) ((Fspec_WorldOk.l4 k4) (IntKind.i64.wrap (v79 + (1 : Int))) v80)) (Fspec_WorldOk.l6 k4 (0 : Int) v80)
def Fspec_WorldOk.l2 : Nat → Int → Timpl_World → Option Bool
 | 0, _, _ => none
 | k2 + 1, v45, v46 => cond (decide (v45 < (v46.Net.length : Int))) ((at? v46.Net v45).bind fun b49 => (Fspec_TermOk k2 b49).bind fun r50 => cond (!r50) (some false) ((Fspec_WorldOk.l2 k2) (IntKind.i64.wrap (v45 + (1 : Int))) v46)) (Fspec_WorldOk.l4 k2 (0 : Int) v46)
def Fspec_WorldOk (k : Nat) (a0 : Timpl_World) : Option Bool := (Fspec_ConfigOk k (⟨a0.Config.UserRealm, a0.Config.ServiceRealm, a0.Config.Links, a0.Config.Proxy, a0.Config.Skew⟩ : Timpl_Config)).bind fun r13 => cond (!r13) (some false) ((Fspec_l1In k a0.Now (0 : Int) (100000 : Int)).bind fun r14 => cond (!r14) (some false) ((Fspec_l1In k a0.Fresh (101 : Int) (1000000 : Int)).bind fun r15 => cond (!r15) (some false) (cond (decide ((a0.Net.length : Int) > (50 : Int))) (some false) ((Fspec_KnownOk k (⟨a0.Known.Terms, a0.Known.Keys⟩ : Timpl_Known)).bind fun r16 => cond (!r16) (some false) (cond ((a0.Waits.length : Int) != (6 : Int)) (some false) (cond (decide ((a0.Creds.length : Int) > (30 : Int))) (some false) (cond ((a0.Caches.length : Int) != (3 : Int)) (some false) (cond (decide ((a0.Log.length : Int) > (40 : Int))) (some false) (cond (decide ((a0.Accepts.length : Int) > (40 : Int))) (some false) (cond (decide ((a0.Leaked.length : Int) > (40 : Int))) (some false) (Fspec_WorldOk.l2 k (0 : Int) a0)))))))))))
theorem ent29 : MG.Enters Tryz.prog 29 := ⟨Tryz.f29, Tryz.func29, rfl, by decide⟩
set_option maxHeartbeats 8000000 in
set_option maxRecDepth 100000 in
theorem Fspec_WorldOk_gives (k : Nat) (g0 : Bool) (g1 : Bool) (g2 : Bool) (g3 : Bool) (g4 : Bool) (g5 : Bool) (g6 : Bool) (g7 : Bool) (g8 : Bool) (g9 : Bool) (g10 : Bool) (g11 : Bool) (g12 : Bool) (a0 : Timpl_World) (r : Bool) (H : Fspec_WorldOk k a0 = some r) : Gives Tryz.prog 29 [V.agg [Cell.sl g0 (List.map eI a0.Config.UserRealm), Cell.sl g1 (List.map eI a0.Config.ServiceRealm), Cell.sl g2 (List.map eTimpl_Pair a0.Config.Links), Cell.sl g3 (List.map eTimpl_Pair a0.Config.Proxy), cI a0.Config.Skew, cI a0.Now, cI a0.Fresh, Cell.sl g4 (List.map eS a0.Net), Cell.sl g5 (List.map eS a0.Known.Terms), Cell.sl g6 (List.map eI a0.Known.Keys), Cell.sl g7 (List.map eTimpl_Wait a0.Waits), Cell.sl g8 (List.map eTimpl_Cred a0.Creds), Cell.sl g9 (List.map eTimpl_Cache a0.Caches), Cell.sl g10 (List.map eTimpl_Event a0.Log), Cell.sl g11 (List.map eTimpl_Accept a0.Accepts), Cell.sl g12 (List.map eI a0.Leaked)]] [] [V.one (cL r)] [] := by
 refine Gives.intro Tryz.func29 rfl rfl rfl rfl ?_
 intro F hF hm
 unfold Fspec_WorldOk at H
 obtain ⟨K, hK⟩ : ∃ K, k ≤ K := ⟨k, Nat.le_refl k⟩
 refine WpC.seq (WpC.regionL ?_)
 refine L.box 16 hF rfl rfl rfl rfl ?_
 refine L.assign hF rfl rfl rfl (L.nil ?_)
 refine WpC.seq (WpC.seq (WpC.regionL ?_))
 refine L.fieldAddr Tryz.underlying80 rfl info44 rfl hF rfl rfl rfl rfl rfl ?_
 refine L.loadPtr shape44 hF rfl rfl rfl rfl rfl rfl ?_
 obtain ⟨r13, hr13, H⟩ := bindS H
 refine L.call [false] [] [] 17 hF rfl rfl rfl ent51 rfl rfl rfl rfl rfl (Fspec_ConfigOk_gives k g0 g1 g2 g3 (⟨a0.Config.UserRealm, a0.Config.ServiceRealm, a0.Config.Links, a0.Config.Proxy, a0.Config.Skew⟩ : Timpl_Config) r13 hr13) rfl ?_
 refine L.not hF rfl rfl rfl ?_
 refine L.move hF rfl rfl rfl ?_
 refine L.split (fun hc => ?_) (fun hc => ?_)
 ·replace H := condT hc H
  refine L.off hF rfl rfl ?_
  refine L.off hF rfl rfl ?_
  refine L.off hF rfl rfl ?_
  refine L.off hF rfl rfl ?_
  refine L.pick hF rfl rfl rfl rfl ?_
  refine L.move hF rfl rfl rfl ?_
  refine L.off hF rfl rfl ?_
  refine L.off hF rfl rfl ?_
  refine L.off hF rfl rfl ?_
  refine L.off hF rfl rfl ?_
  refine L.pick hF rfl rfl rfl rfl ?_
  refine L.move hF rfl rfl rfl ?_
  refine L.off hF rfl rfl ?_
  refine L.off hF rfl rfl ?_
  refine L.off hF rfl rfl ?_
  refine L.off hF rfl rfl ?_
  refine L.pick hF rfl rfl rfl rfl ?_
  refine L.move hF rfl rfl rfl ?_
  refine L.off hF rfl rfl ?_
  refine L.off hF rfl rfl ?_
  refine L.off hF rfl rfl ?_
  refine L.off hF rfl rfl ?_
  refine L.pick hF rfl rfl rfl rfl ?_
  refine L.move hF rfl rfl rfl ?_
  refine L.off hF rfl rfl ?_
  refine L.off hF rfl rfl ?_
  refine L.off hF rfl rfl ?_
  refine L.off hF rfl rfl ?_
  refine L.pick hF rfl rfl rfl rfl ?_
  refine L.move hF rfl rfl rfl ?_
  refine L.off hF rfl rfl ?_
  refine L.off hF rfl rfl ?_
  refine L.off hF rfl rfl ?_
  refine L.off hF rfl rfl ?_
  refine L.pick hF rfl rfl rfl rfl ?_
  refine L.move hF rfl rfl rfl ?_
  refine L.off hF rfl rfl ?_
  refine L.off hF rfl rfl ?_
  refine L.off hF rfl rfl ?_
  refine L.off hF rfl rfl ?_
  refine L.pick hF rfl rfl rfl rfl ?_
  refine L.move hF rfl rfl rfl ?_
  refine L.off hF rfl rfl ?_
  refine L.off hF rfl rfl ?_
  refine L.off hF rfl rfl ?_
  refine L.off hF rfl rfl ?_
  refine L.pick hF rfl rfl rfl rfl ?_
  refine L.move hF rfl rfl rfl ?_
  refine L.off hF rfl rfl ?_
  refine L.off hF rfl rfl ?_
  refine L.off hF rfl rfl ?_
  refine L.off hF rfl rfl ?_
  refine L.pick hF rfl rfl rfl rfl ?_
  refine L.move hF rfl rfl rfl ?_
  refine L.off hF rfl rfl ?_
  refine L.off hF rfl rfl ?_
  refine L.off hF rfl rfl ?_
  refine L.off hF rfl rfl ?_
  refine L.pick hF rfl rfl rfl rfl (L.nil ?_)
  refine WpC.cond rfl (fun _ => ?_) (fun hc => by cases hc)
  refine WpC.seq (WpC.regionL ?_)
  refine L.assign hF rfl rfl rfl (L.nil ?_)
  refine WpC.ret ?_
  cases H
  exact Leaves.ret rfl rfl rfl ⟨rfl, rfl⟩
 ·replace H := condF hc H
  refine L.fieldAddr Tryz.underlying80 rfl info3 rfl hF rfl rfl rfl rfl rfl ?_
  refine L.loadPtr shape3 hF rfl rfl rfl rfl rfl rfl ?_
  obtain ⟨r14, hr14, H⟩ := bindS H
  refine L.call [false, false, false] [] [] 18 hF rfl rfl rfl ent52 rfl rfl rfl rfl rfl (Fspec_l1In_gives k  a0.Now (0 : Int) (100000 : Int) r14 hr14) rfl ?_
  refine L.not hF rfl rfl rfl ?_
  refine L.pick hF rfl rfl rfl rfl ?_
  refine L.move hF rfl rfl rfl ?_
  refine L.split (fun hc => ?_) (fun hc => ?_)
  ·replace H := condT hc H
   refine L.off hF rfl rfl ?_
   refine L.off hF rfl rfl ?_
   refine L.off hF rfl rfl ?_
   refine L.off hF rfl rfl ?_
   refine L.pick hF rfl rfl rfl rfl ?_
   refine L.move hF rfl rfl rfl ?_
   refine L.off hF rfl rfl ?_
   refine L.off hF rfl rfl ?_
   refine L.off hF rfl rfl ?_
   refine L.off hF rfl rfl ?_
   refine L.pick hF rfl rfl rfl rfl ?_
   refine L.move hF rfl rfl rfl ?_
   refine L.off hF rfl rfl ?_
   refine L.off hF rfl rfl ?_
   refine L.off hF rfl rfl ?_
   refine L.off hF rfl rfl ?_
   refine L.pick hF rfl rfl rfl rfl ?_
   refine L.move hF rfl rfl rfl ?_
   refine L.off hF rfl rfl ?_
   refine L.off hF rfl rfl ?_
   refine L.off hF rfl rfl ?_
   refine L.off hF rfl rfl ?_
   refine L.pick hF rfl rfl rfl rfl ?_
   refine L.move hF rfl rfl rfl ?_
   refine L.off hF rfl rfl ?_
   refine L.off hF rfl rfl ?_
   refine L.off hF rfl rfl ?_
   refine L.off hF rfl rfl ?_
   refine L.pick hF rfl rfl rfl rfl ?_
   refine L.move hF rfl rfl rfl ?_
   refine L.off hF rfl rfl ?_
   refine L.off hF rfl rfl ?_
   refine L.off hF rfl rfl ?_
   refine L.off hF rfl rfl ?_
   refine L.pick hF rfl rfl rfl rfl ?_
   refine L.move hF rfl rfl rfl ?_
   refine L.off hF rfl rfl ?_
   refine L.off hF rfl rfl ?_
   refine L.off hF rfl rfl ?_
   refine L.off hF rfl rfl ?_
   refine L.pick hF rfl rfl rfl rfl ?_
   refine L.move hF rfl rfl rfl ?_
   refine L.off hF rfl rfl ?_
   refine L.off hF rfl rfl ?_
   refine L.off hF rfl rfl ?_
   refine L.off hF rfl rfl ?_
   refine L.pick hF rfl rfl rfl rfl ?_
   refine L.move hF rfl rfl rfl ?_
   refine L.off hF rfl rfl ?_
   refine L.off hF rfl rfl ?_
   refine L.off hF rfl rfl ?_
   refine L.off hF rfl rfl ?_
   refine L.pick hF rfl rfl rfl rfl (L.nil ?_)
   refine WpC.cond rfl (fun _ => ?_) (fun hc => by cases hc)
   refine WpC.seq (WpC.regionL ?_)
   refine L.assign hF rfl rfl rfl (L.nil ?_)
   refine WpC.ret ?_
   cases H
   exact Leaves.ret rfl rfl rfl ⟨rfl, rfl⟩
  ·replace H := condF hc H
   refine L.fieldAddr Tryz.underlying80 rfl info3 rfl hF rfl rfl rfl rfl rfl ?_
   refine L.loadPtr shape3 hF rfl rfl rfl rfl rfl rfl ?_
   obtain ⟨r15, hr15, H⟩ := bindS H
   refine L.call [false, false, false] [] [] 19 hF rfl rfl rfl ent52 rfl rfl rfl rfl rfl (Fspec_l1In_gives k  a0.Fresh (101 : Int) (1000000 : Int) r15 hr15) rfl ?_
   refine L.not hF rfl rfl rfl ?_
   refine L.pick hF rfl rfl rfl rfl ?_
   refine L.move hF rfl rfl rfl ?_
   refine L.split (fun hc => ?_) (fun hc => ?_)
   ·replace H := condT hc H
    refine L.off hF rfl rfl ?_
    refine L.off hF rfl rfl ?_
    refine L.off hF rfl rfl ?_
    refine L.off hF rfl rfl ?_
    refine L.pick hF rfl rfl rfl rfl ?_
    refine L.move hF rfl rfl rfl ?_
    refine L.off hF rfl rfl ?_
    refine L.off hF rfl rfl ?_
    refine L.off hF rfl rfl ?_
    refine L.off hF rfl rfl ?_
    refine L.pick hF rfl rfl rfl rfl ?_
    refine L.move hF rfl rfl rfl ?_
    refine L.off hF rfl rfl ?_
    refine L.off hF rfl rfl ?_
    refine L.off hF rfl rfl ?_
    refine L.off hF rfl rfl ?_
    refine L.pick hF rfl rfl rfl rfl ?_
    refine L.move hF rfl rfl rfl ?_
    refine L.off hF rfl rfl ?_
    refine L.off hF rfl rfl ?_
    refine L.off hF rfl rfl ?_
    refine L.off hF rfl rfl ?_
    refine L.pick hF rfl rfl rfl rfl ?_
    refine L.move hF rfl rfl rfl ?_
    refine L.off hF rfl rfl ?_
    refine L.off hF rfl rfl ?_
    refine L.off hF rfl rfl ?_
    refine L.off hF rfl rfl ?_
    refine L.pick hF rfl rfl rfl rfl ?_
    refine L.move hF rfl rfl rfl ?_
    refine L.off hF rfl rfl ?_
    refine L.off hF rfl rfl ?_
    refine L.off hF rfl rfl ?_
    refine L.off hF rfl rfl ?_
    refine L.pick hF rfl rfl rfl rfl ?_
    refine L.move hF rfl rfl rfl ?_
    refine L.off hF rfl rfl ?_
    refine L.off hF rfl rfl ?_
    refine L.off hF rfl rfl ?_
    refine L.off hF rfl rfl ?_
    refine L.pick hF rfl rfl rfl rfl ?_
    refine L.move hF rfl rfl rfl ?_
    refine L.off hF rfl rfl ?_
    refine L.off hF rfl rfl ?_
    refine L.off hF rfl rfl ?_
    refine L.off hF rfl rfl ?_
    refine L.pick hF rfl rfl rfl rfl (L.nil ?_)
    refine WpC.cond rfl (fun _ => ?_) (fun hc => by cases hc)
    refine WpC.seq (WpC.regionL ?_)
    refine L.assign hF rfl rfl rfl (L.nil ?_)
    refine WpC.ret ?_
    cases H
    exact Leaves.ret rfl rfl rfl ⟨rfl, rfl⟩
   ·replace H := condF hc H
    refine L.fieldAddr Tryz.underlying80 rfl info61 rfl hF rfl rfl rfl rfl rfl ?_
    refine L.loadPtr shape61 hF rfl rfl rfl rfl rfl rfl ?_
    refine L.lenR (xs := a0.Net) (e := eS) Tryz.underlying61 hF rfl rfl rfl rfl ?_
    refine L.bin hF rfl rfl rfl rfl rfl rfl ?_
    refine L.pick hF rfl rfl rfl rfl ?_
    refine L.move hF rfl rfl rfl ?_
    refine L.split (fun hc => ?_) (fun hc => ?_)
    ·replace H := condT hc H
     refine L.off hF rfl rfl ?_
     refine L.off hF rfl rfl ?_
     refine L.off hF rfl rfl ?_
     refine L.off hF rfl rfl ?_
     refine L.pick hF rfl rfl rfl rfl ?_
     refine L.move hF rfl rfl rfl ?_
     refine L.off hF rfl rfl ?_
     refine L.off hF rfl rfl ?_
     refine L.off hF rfl rfl ?_
     refine L.off hF rfl rfl ?_
     refine L.pick hF rfl rfl rfl rfl ?_
     refine L.move hF rfl rfl rfl ?_
     refine L.off hF rfl rfl ?_
     refine L.off hF rfl rfl ?_
     refine L.off hF rfl rfl ?_
     refine L.off hF rfl rfl ?_
     refine L.pick hF rfl rfl rfl rfl ?_
     refine L.move hF rfl rfl rfl ?_
     refine L.off hF rfl rfl ?_
     refine L.off hF rfl rfl ?_
     refine L.off hF rfl rfl ?_
     refine L.off hF rfl rfl ?_
     refine L.pick hF rfl rfl rfl rfl ?_
     refine L.move hF rfl rfl rfl ?_
     refine L.off hF rfl rfl ?_
     refine L.off hF rfl rfl ?_
     refine L.off hF rfl rfl ?_
     refine L.off hF rfl rfl ?_
     refine L.pick hF rfl rfl rfl rfl ?_
     refine L.move hF rfl rfl rfl ?_
     refine L.off hF rfl rfl ?_
     refine L.off hF rfl rfl ?_
     refine L.off hF rfl rfl ?_
     refine L.off hF rfl rfl ?_
     refine L.pick hF rfl rfl rfl rfl ?_
     refine L.move hF rfl rfl rfl ?_
     refine L.off hF rfl rfl ?_
     refine L.off hF rfl rfl ?_
     refine L.off hF rfl rfl ?_
     refine L.off hF rfl rfl ?_
     refine L.pick hF rfl rfl rfl rfl (L.nil ?_)
     refine WpC.cond rfl (fun _ => ?_) (fun hc => by cases hc)
     refine WpC.seq (WpC.regionL ?_)
     refine L.assign hF rfl rfl rfl (L.nil ?_)
     refine WpC.ret ?_
     cases H
     exact Leaves.ret rfl rfl rfl ⟨rfl, rfl⟩
    ·replace H := condF hc H
     refine L.fieldAddr Tryz.underlying80 rfl info73 rfl hF rfl rfl rfl rfl rfl ?_
     refine L.loadPtr shape73 hF rfl rfl rfl rfl rfl rfl ?_
     obtain ⟨r16, hr16, H⟩ := bindS H
     refine L.call [false] [] [] 20 hF rfl rfl rfl ent99 rfl rfl rfl rfl rfl (Fspec_KnownOk_gives k g5 g6 (⟨a0.Known.Terms, a0.Known.Keys⟩ : Timpl_Known) r16 hr16) rfl ?_
     refine L.not hF rfl rfl rfl ?_
     refine L.pick hF rfl rfl rfl rfl ?_
     refine L.move hF rfl rfl rfl ?_
     refine L.split (fun hc => ?_) (fun hc => ?_)
     ·replace H := condT hc H
      refine L.off hF rfl rfl ?_
      refine L.off hF rfl rfl ?_
      refine L.off hF rfl rfl ?_
      refine L.off hF rfl rfl ?_
      refine L.pick hF rfl rfl rfl rfl ?_
      refine L.move hF rfl rfl rfl ?_
      refine L.off hF rfl rfl ?_
      refine L.off hF rfl rfl ?_
      refine L.off hF rfl rfl ?_
      refine L.off hF rfl rfl ?_
      refine L.pick hF rfl rfl rfl rfl ?_
      refine L.move hF rfl rfl rfl ?_
      refine L.off hF rfl rfl ?_
      refine L.off hF rfl rfl ?_
      refine L.off hF rfl rfl ?_
      refine L.off hF rfl rfl ?_
      refine L.pick hF rfl rfl rfl rfl ?_
      refine L.move hF rfl rfl rfl ?_
      refine L.off hF rfl rfl ?_
      refine L.off hF rfl rfl ?_
      refine L.off hF rfl rfl ?_
      refine L.off hF rfl rfl ?_
      refine L.pick hF rfl rfl rfl rfl ?_
      refine L.move hF rfl rfl rfl ?_
      refine L.off hF rfl rfl ?_
      refine L.off hF rfl rfl ?_
      refine L.off hF rfl rfl ?_
      refine L.off hF rfl rfl ?_
      refine L.pick hF rfl rfl rfl rfl ?_
      refine L.move hF rfl rfl rfl ?_
      refine L.off hF rfl rfl ?_
      refine L.off hF rfl rfl ?_
      refine L.off hF rfl rfl ?_
      refine L.off hF rfl rfl ?_
      refine L.pick hF rfl rfl rfl rfl (L.nil ?_)
      refine WpC.cond rfl (fun _ => ?_) (fun hc => by cases hc)
      refine WpC.seq (WpC.regionL ?_)
      refine L.assign hF rfl rfl rfl (L.nil ?_)
      refine WpC.ret ?_
      cases H
      exact Leaves.ret rfl rfl rfl ⟨rfl, rfl⟩
     ·replace H := condF hc H
      refine L.fieldAddr Tryz.underlying80 rfl info74 rfl hF rfl rfl rfl rfl rfl ?_
      refine L.loadPtr shape74 hF rfl rfl rfl rfl rfl rfl ?_
      refine L.lenR (xs := a0.Waits) (e := eTimpl_Wait) Tryz.underlying74 hF rfl rfl rfl rfl ?_
      refine L.bin hF rfl rfl rfl rfl rfl rfl ?_
      refine L.pick hF rfl rfl rfl rfl ?_
      refine L.move hF rfl rfl rfl ?_
      refine L.split (fun hc => ?_) (fun hc => ?_)
      ·replace H := condT hc H
       refine L.off hF rfl rfl ?_
       refine L.off hF rfl rfl ?_
       refine L.off hF rfl rfl ?_
       refine L.off hF rfl rfl ?_
       refine L.pick hF rfl rfl rfl rfl ?_
       refine L.move hF rfl rfl rfl ?_
       refine L.off hF rfl rfl ?_
       refine L.off hF rfl rfl ?_
       refine L.off hF rfl rfl ?_
       refine L.off hF rfl rfl ?_
       refine L.pick hF rfl rfl rfl rfl ?_
       refine L.move hF rfl rfl rfl ?_
       refine L.off hF rfl rfl ?_
       refine L.off hF rfl rfl ?_
       refine L.off hF rfl rfl ?_
       refine L.off hF rfl rfl ?_
       refine L.pick hF rfl rfl rfl rfl ?_
       refine L.move hF rfl rfl rfl ?_
       refine L.off hF rfl rfl ?_
       refine L.off hF rfl rfl ?_
       refine L.off hF rfl rfl ?_
       refine L.off hF rfl rfl ?_
       refine L.pick hF rfl rfl rfl rfl ?_
       refine L.move hF rfl rfl rfl ?_
       refine L.off hF rfl rfl ?_
       refine L.off hF rfl rfl ?_
       refine L.off hF rfl rfl ?_
       refine L.off hF rfl rfl ?_
       refine L.pick hF rfl rfl rfl rfl (L.nil ?_)
       refine WpC.cond rfl (fun _ => ?_) (fun hc => by cases hc)
       refine WpC.seq (WpC.regionL ?_)
       refine L.assign hF rfl rfl rfl (L.nil ?_)
       refine WpC.ret ?_
       cases H
       exact Leaves.ret rfl rfl rfl ⟨rfl, rfl⟩
      ·replace H := condF hc H
       refine L.fieldAddr Tryz.underlying80 rfl info75 rfl hF rfl rfl rfl rfl rfl ?_
       refine L.loadPtr shape75 hF rfl rfl rfl rfl rfl rfl ?_
       refine L.lenR (xs := a0.Creds) (e := eTimpl_Cred) Tryz.underlying75 hF rfl rfl rfl rfl ?_
       refine L.bin hF rfl rfl rfl rfl rfl rfl ?_
       refine L.pick hF rfl rfl rfl rfl ?_
       refine L.move hF rfl rfl rfl ?_
       refine L.split (fun hc => ?_) (fun hc => ?_)
       ·replace H := condT hc H
        refine L.off hF rfl rfl ?_
        refine L.off hF rfl rfl ?_
        refine L.off hF rfl rfl ?_
        refine L.off hF rfl rfl ?_
        refine L.pick hF rfl rfl rfl rfl ?_
        refine L.move hF rfl rfl rfl ?_
        refine L.off hF rfl rfl ?_
        refine L.off hF rfl rfl ?_
        refine L.off hF rfl rfl ?_
        refine L.off hF rfl rfl ?_
        refine L.pick hF rfl rfl rfl rfl ?_
        refine L.move hF rfl rfl rfl ?_
        refine L.off hF rfl rfl ?_
        refine L.off hF rfl rfl ?_
        refine L.off hF rfl rfl ?_
        refine L.off hF rfl rfl ?_
        refine L.pick hF rfl rfl rfl rfl ?_
        refine L.move hF rfl rfl rfl ?_
        refine L.off hF rfl rfl ?_
        refine L.off hF rfl rfl ?_
        refine L.off hF rfl rfl ?_
        refine L.off hF rfl rfl ?_
        refine L.pick hF rfl rfl rfl rfl (L.nil ?_)
        refine WpC.cond rfl (fun _ => ?_) (fun hc => by cases hc)
        refine WpC.seq (WpC.regionL ?_)
        refine L.assign hF rfl rfl rfl (L.nil ?_)
        refine WpC.ret ?_
        cases H
        exact Leaves.ret rfl rfl rfl ⟨rfl, rfl⟩
       ·replace H := condF hc H
        refine L.fieldAddr Tryz.underlying80 rfl info76 rfl hF rfl rfl rfl rfl rfl ?_
        refine L.loadPtr shape76 hF rfl rfl rfl rfl rfl rfl ?_
        refine L.lenR (xs := a0.Caches) (e := eTimpl_Cache) Tryz.underlying76 hF rfl rfl rfl rfl ?_
        refine L.bin hF rfl rfl rfl rfl rfl rfl ?_
        refine L.pick hF rfl rfl rfl rfl ?_
        refine L.move hF rfl rfl rfl ?_
        refine L.split (fun hc => ?_) (fun hc => ?_)
        ·replace H := condT hc H
         refine L.off hF rfl rfl ?_
         refine L.off hF rfl rfl ?_
         refine L.off hF rfl rfl ?_
         refine L.off hF rfl rfl ?_
         refine L.pick hF rfl rfl rfl rfl ?_
         refine L.move hF rfl rfl rfl ?_
         refine L.off hF rfl rfl ?_
         refine L.off hF rfl rfl ?_
         refine L.off hF rfl rfl ?_
         refine L.off hF rfl rfl ?_
         refine L.pick hF rfl rfl rfl rfl ?_
         refine L.move hF rfl rfl rfl ?_
         refine L.off hF rfl rfl ?_
         refine L.off hF rfl rfl ?_
         refine L.off hF rfl rfl ?_
         refine L.off hF rfl rfl ?_
         refine L.pick hF rfl rfl rfl rfl (L.nil ?_)
         refine WpC.cond rfl (fun _ => ?_) (fun hc => by cases hc)
         refine WpC.seq (WpC.regionL ?_)
         refine L.assign hF rfl rfl rfl (L.nil ?_)
         refine WpC.ret ?_
         cases H
         exact Leaves.ret rfl rfl rfl ⟨rfl, rfl⟩
        ·replace H := condF hc H
         refine L.fieldAddr Tryz.underlying80 rfl info77 rfl hF rfl rfl rfl rfl rfl ?_
         refine L.loadPtr shape77 hF rfl rfl rfl rfl rfl rfl ?_
         refine L.lenR (xs := a0.Log) (e := eTimpl_Event) Tryz.underlying77 hF rfl rfl rfl rfl ?_
         refine L.bin hF rfl rfl rfl rfl rfl rfl ?_
         refine L.pick hF rfl rfl rfl rfl ?_
         refine L.move hF rfl rfl rfl ?_
         refine L.split (fun hc => ?_) (fun hc => ?_)
         ·replace H := condT hc H
          refine L.off hF rfl rfl ?_
          refine L.off hF rfl rfl ?_
          refine L.off hF rfl rfl ?_
          refine L.off hF rfl rfl ?_
          refine L.pick hF rfl rfl rfl rfl ?_
          refine L.move hF rfl rfl rfl ?_
          refine L.off hF rfl rfl ?_
          refine L.off hF rfl rfl ?_
          refine L.off hF rfl rfl ?_
          refine L.off hF rfl rfl ?_
          refine L.pick hF rfl rfl rfl rfl (L.nil ?_)
          refine WpC.cond rfl (fun _ => ?_) (fun hc => by cases hc)
          refine WpC.seq (WpC.regionL ?_)
          refine L.assign hF rfl rfl rfl (L.nil ?_)
          refine WpC.ret ?_
          cases H
          exact Leaves.ret rfl rfl rfl ⟨rfl, rfl⟩
         ·replace H := condF hc H
          refine L.fieldAddr Tryz.underlying80 rfl info78 rfl hF rfl rfl rfl rfl rfl ?_
          refine L.loadPtr shape78 hF rfl rfl rfl rfl rfl rfl ?_
          refine L.lenR (xs := a0.Accepts) (e := eTimpl_Accept) Tryz.underlying78 hF rfl rfl rfl rfl ?_
          refine L.bin hF rfl rfl rfl rfl rfl rfl ?_
          refine L.pick hF rfl rfl rfl rfl ?_
          refine L.move hF rfl rfl rfl ?_
          refine L.split (fun hc => ?_) (fun hc => ?_)
          ·replace H := condT hc H
           refine L.off hF rfl rfl ?_
           refine L.off hF rfl rfl ?_
           refine L.off hF rfl rfl ?_
           refine L.off hF rfl rfl ?_
           refine L.pick hF rfl rfl rfl rfl (L.nil ?_)
           refine WpC.cond rfl (fun _ => ?_) (fun hc => by cases hc)
           refine WpC.seq (WpC.regionL ?_)
           refine L.assign hF rfl rfl rfl (L.nil ?_)
           refine WpC.ret ?_
           cases H
           exact Leaves.ret rfl rfl rfl ⟨rfl, rfl⟩
          ·replace H := condF hc H
           refine L.fieldAddr Tryz.underlying80 rfl info22 rfl hF rfl rfl rfl rfl rfl ?_
           refine L.loadPtr shape22 hF rfl rfl rfl rfl rfl rfl ?_
           refine L.lenR (xs := a0.Leaked) (e := eI) Tryz.underlying22 hF rfl rfl rfl rfl ?_
           refine L.bin hF rfl rfl rfl rfl rfl rfl ?_
           refine L.pick hF rfl rfl rfl rfl (L.nil ?_)
           refine WpC.cond rfl (fun hc => ?_) (fun hc => ?_)
           ·replace H := condT hc H
            refine WpC.seq (WpC.regionL ?_)
            refine L.assign hF rfl rfl rfl (L.nil ?_)
            refine WpC.ret ?_
            cases H
            exact Leaves.ret rfl rfl rfl ⟨rfl, rfl⟩
           ·replace H := condF hc H
            refine WpC.skip (WpC.seq (WpC.seq (WpC.regionL ?_)))
            refine L.assign hF rfl rfl rfl (L.nil ?_)
            refine WpC.block ?_
            refine WpC.loopL (P := Tryz.prog) (fun n σ => ∃ v45 : Int, ∃ v46 : Timpl_World, n ≤ K ∧ Fspec_WorldOk.l2 n v45 v46 = some r ∧ σ = mkSt [(1, one (Cell.ptr 0 0)), (3, one (cI v45))] [] [(0, (bTimpl_World g0 g1 g2 g3 g4 g5 g6 g7 g8 g9 g10 g11 g12 v46))] 1) k ⟨_, ⟨(0 : Int), a0, by omega, H, rfl⟩, Le.mk [(0, 16)] hm rfl (Sa2 trivial) trivial (Ba1 trivial)⟩ ?_
            clear H
            rintro k2 _ ⟨v45, v46, hk2, H, rfl⟩
            cases k2 with
            | zero => cases H
            | succ k2 =>
             rw [Fspec_WorldOk.l2] at H
             refine WpC.seq (WpC.seq (WpC.regionL ?_))
             refine L.move hF rfl rfl rfl ?_
             refine L.fieldAddr Tryz.underlying80 rfl info61 rfl hF rfl rfl rfl rfl rfl ?_
             refine L.loadPtr shape61 hF rfl rfl rfl rfl rfl rfl ?_
             refine L.lenR (xs := v46.Net) (e := eS) Tryz.underlying61 hF rfl rfl rfl rfl ?_
             refine L.bin hF rfl rfl rfl rfl rfl rfl (L.nil ?_)
             refine WpC.cond rfl (fun hc => ?_) (fun hc => ?_)
             ·replace H := condT hc H
              refine WpC.skip (WpC.seq (WpC.block (WpC.seq (WpC.regionL ?_))))
              refine L.fieldAddr Tryz.underlying80 rfl info61 rfl hF rfl rfl rfl rfl rfl ?_
              refine L.loadPtr shape61 hF rfl rfl rfl rfl rfl rfl ?_
              refine L.move hF rfl rfl rfl ?_
              obtain ⟨b49, hb49, H⟩ := bindS H
              refine L.idxR (xs := v46.Net) (e := eS) Tryz.underlying61 info9 hF rfl rfl rfl rfl rfl hb49 rfl rfl ?_
              refine L.loadPe shape9 hF rfl rfl rfl rfl rfl ?_
              obtain ⟨r50, hr50, H⟩ := bindS H
              refine L.call [false] [] [] 1 hF rfl rfl rfl ent100 rfl rfl rfl rfl rfl (Fspec_TermOk_gives k2  b49 r50 hr50) rfl ?_
              refine L.not hF rfl rfl rfl (L.nil ?_)
              refine WpC.cond rfl (fun hc => ?_) (fun hc => ?_)
              ·replace H := condT hc H
               refine WpC.seq (WpC.regionL ?_)
               refine L.assign hF rfl rfl rfl (L.nil ?_)
               refine WpC.ret ?_
               cases H
               exact Leaves.ret rfl rfl rfl ⟨rfl, rfl⟩
              ·replace H := condF hc H
               refine WpC.skip (WpC.regionL ?_)
               refine L.move hF rfl rfl rfl ?_
               refine L.bin hF rfl rfl rfl rfl rfl rfl ?_
               refine L.assign hF rfl rfl rfl (L.nil ?_)
               exact ⟨k2, _, by omega, ⟨(IntKind.i64.wrap (v45 + (1 : Int))), v46, by omega, H, rfl⟩, Le.mk [(0, 0)] hm rfl (Sa2 trivial) trivial (Ba1 trivial)⟩
             ·replace H := condF hc H
              refine WpC.exit (WpC.seq (WpC.seq (WpC.regionL ?_)))
              refine L.assign hF rfl rfl rfl (L.nil ?_)
              refine WpC.block ?_
              refine WpC.loopL (P := Tryz.prog) (fun n σ => ∃ v79 : Int, ∃ v80 : Timpl_World, n ≤ K ∧ Fspec_WorldOk.l4 n v79 v80 = some r ∧ σ = mkSt [(1, one (Cell.ptr 0 0)), (4, one (cI v79))] [] [(0, (bTimpl_World g0 g1 g2 g3 g4 g5 g6 g7 g8 g9 g10 g11 g12 v80))] 1) k2 ⟨_, ⟨(0 : Int), v46, by omega, H, rfl⟩, Le.mk [(0, 0)] hm rfl (Sa2 trivial) trivial (Ba1 trivial)⟩ ?_
              clear H
              rintro k4 _ ⟨v79, v80, hk4, H, rfl⟩
              cases k4 with
              | zero => cases H
              | succ k4 =>
               rw [Fspec_WorldOk.l4] at H
               refine WpC.seq (WpC.seq (WpC.regionL ?_))
               refine L.move hF rfl rfl rfl ?_
               refine L.fieldAddr Tryz.underlying80 rfl info74 rfl hF rfl rfl rfl rfl rfl ?_
               refine L.loadPtr shape74 hF rfl rfl rfl rfl rfl rfl ?_
               refine L.lenR (xs := v80.Waits) (e := eTimpl_Wait) Tryz.underlying74 hF rfl rfl rfl rfl ?_
               refine L.bin hF rfl rfl rfl rfl rfl rfl (L.nil ?_)
               refine WpC.cond rfl (fun hc => ?_) (fun hc => ?_)
               ·replace H := condT hc H
                refine WpC.skip (WpC.seq (WpC.block (WpC.seq (WpC.regionL ?_))))
                refine L.fieldAddr Tryz.underlying80 rfl info74 rfl hF rfl rfl rfl rfl rfl ?_
                refine L.loadPtr shape74 hF rfl rfl rfl rfl rfl rfl ?_
                refine L.move hF rfl rfl rfl ?_
                obtain ⟨b83, hb83, H⟩ := bindS H
                refine L.idxR (xs := v80.Waits) (e := eTimpl_Wait) Tryz.underlying74 info159 hF rfl rfl rfl rfl rfl hb83 rfl rfl ?_
                refine L.loadPe shape159 hF rfl rfl rfl rfl rfl ?_
                obtain ⟨r84, hr84, H⟩ := bindS H
                refine L.call [false] [] [] 1 hF rfl rfl rfl ent101 rfl rfl rfl rfl rfl (Fspec_l10WaitOk_gives k4  b83 r84 hr84) rfl ?_
                refine L.not hF rfl rfl rfl (L.nil ?_)
                refine WpC.cond rfl (fun hc => ?_) (fun hc => ?_)
                ·replace H := condT hc H
                 refine WpC.seq (WpC.regionL ?_)
                 refine L.assign hF rfl rfl rfl (L.nil ?_)
                 refine WpC.ret ?_
                 cases H
                 exact Leaves.ret rfl rfl rfl ⟨rfl, rfl⟩
                ·replace H := condF hc H
                 refine WpC.skip (WpC.regionL ?_)
                 refine L.move hF rfl rfl rfl ?_
                 refine L.bin hF rfl rfl rfl rfl rfl rfl ?_
                 refine L.assign hF rfl rfl rfl (L.nil ?_)
                 exact ⟨k4, _, by omega, ⟨(IntKind.i64.wrap (v79 + (1 : Int))), v80, by omega, H, rfl⟩, Le.mk [(0, 0)] hm rfl (Sa2 trivial) trivial (Ba1 trivial)⟩
               ·replace H := condF hc H
                refine WpC.exit (WpC.seq (WpC.seq (WpC.regionL ?_)))
                refine L.assign hF rfl rfl rfl (L.nil ?_)
                refine WpC.block ?_
                refine WpC.loopL (P := Tryz.prog) (fun n σ => ∃ v113 : Int, ∃ v114 : Timpl_World, n ≤ K ∧ Fspec_WorldOk.l6 n v113 v114 = some r ∧ σ = mkSt [(1, one (Cell.ptr 0 0)), (5, one (cI v113))] [] [(0, (bTimpl_World g0 g1 g2 g3 g4 g5 g6 g7 g8 g9 g10 g11 g12 v114))] 1) k4 ⟨_, ⟨(0 : Int), v80, by omega, H, rfl⟩, Le.mk [(0, 0)] hm rfl (Sa2 trivial) trivial (Ba1 trivial)⟩ ?_
                clear H
                rintro k6 _ ⟨v113, v114, hk6, H, rfl⟩
                cases k6 with
                | zero => cases H
                | succ k6 =>
                 rw [Fspec_WorldOk.l6] at H
                 refine WpC.seq (WpC.seq (WpC.regionL ?_))
                 refine L.move hF rfl rfl rfl ?_
                 refine L.fieldAddr Tryz.underlying80 rfl info75 rfl hF rfl rfl rfl rfl rfl ?_
                 refine L.loadPtr shape75 hF rfl rfl rfl rfl rfl rfl ?_
                 refine L.lenR (xs := v114.Creds) (e := eTimpl_Cred) Tryz.underlying75 hF rfl rfl rfl rfl ?_
                 refine L.bin hF rfl rfl rfl rfl rfl rfl (L.nil ?_)
                 refine WpC.cond rfl (fun hc => ?_) (fun hc => ?_)
                 ·replace H := condT hc H
                  refine WpC.skip (WpC.seq (WpC.block (WpC.seq (WpC.regionL ?_))))
                  refine L.fieldAddr Tryz.underlying80 rfl info75 rfl hF rfl rfl rfl rfl rfl ?_
                  refine L.loadPtr shape75 hF rfl rfl rfl rfl rfl rfl ?_
                  refine L.move hF rfl rfl rfl ?_
                  obtain ⟨b117, hb117, H⟩ := bindS H
                  refine L.idxR (xs := v114.Creds) (e := eTimpl_Cred) Tryz.underlying75 info142 hF rfl rfl rfl rfl rfl hb117 rfl rfl ?_
                  refine L.loadPe shape142 hF rfl rfl rfl rfl rfl ?_
                  obtain ⟨r118, hr118, H⟩ := bindS H
                  refine L.call [false] [] [] 1 hF rfl rfl rfl ent102 rfl rfl rfl rfl rfl (Fspec_CredOk_gives k6  b117 r118 hr118) rfl ?_
                  refine L.not hF rfl rfl rfl (L.nil ?_)
                  refine WpC.cond rfl (fun hc => ?_) (fun hc => ?_)
                  ·replace H := condT hc H
                   refine WpC.seq (WpC.regionL ?_)
                   refine L.assign hF rfl rfl rfl (L.nil ?_)
                   refine WpC.ret ?_
                   cases H
                   exact Leaves.ret rfl rfl rfl ⟨rfl, rfl⟩
                  ·replace H := condF hc H
                   refine WpC.skip (WpC.regionL ?_)
                   refine L.move hF rfl rfl rfl ?_
                   refine L.bin hF rfl rfl rfl rfl rfl rfl ?_
                   refine L.assign hF rfl rfl rfl (L.nil ?_)
                   exact ⟨k6, _, by omega, ⟨(IntKind.i64.wrap (v113 + (1 : Int))), v114, by omega, H, rfl⟩, Le.mk [(0, 0)] hm rfl (Sa2 trivial) trivial (Ba1 trivial)⟩
                 ·replace H := condF hc H
                  refine WpC.exit (WpC.seq (WpC.seq (WpC.regionL ?_)))
                  refine L.assign hF rfl rfl rfl (L.nil ?_)
                  refine WpC.block ?_
                  refine WpC.loopL (P := Tryz.prog) (fun n σ => ∃ v147 : Int, ∃ v148 : Timpl_World, n ≤ K ∧ Fspec_WorldOk.l8 n v147 v148 = some r ∧ σ = mkSt [(1, one (Cell.ptr 0 0)), (6, one (cI v147))] [] [(0, (bTimpl_World g0 g1 g2 g3 g4 g5 g6 g7 g8 g9 g10 g11 g12 v148))] 1) k6 ⟨_, ⟨(0 : Int), v114, by omega, H, rfl⟩, Le.mk [(0, 0)] hm rfl (Sa2 trivial) trivial (Ba1 trivial)⟩ ?_
                  clear H
                  rintro k8 _ ⟨v147, v148, hk8, H, rfl⟩
                  cases k8 with
                  | zero => cases H
                  | succ k8 =>
                   rw [Fspec_WorldOk.l8] at H
                   refine WpC.seq (WpC.seq (WpC.regionL ?_))
                   refine L.move hF rfl rfl rfl ?_
                   refine L.fieldAddr Tryz.underlying80 rfl info76 rfl hF rfl rfl rfl rfl rfl ?_
                   refine L.loadPtr shape76 hF rfl rfl rfl rfl rfl rfl ?_
                   refine L.lenR (xs := v148.Caches) (e := eTimpl_Cache) Tryz.underlying76 hF rfl rfl rfl rfl ?_
                   refine L.bin hF rfl rfl rfl rfl rfl rfl (L.nil ?_)
                   refine WpC.cond rfl (fun hc => ?_) (fun hc => ?_)
                   ·replace H := condT hc H
                    refine WpC.skip (WpC.seq (WpC.block (WpC.seq (WpC.regionL ?_))))
                    refine L.fieldAddr Tryz.underlying80 rfl info76 rfl hF rfl rfl rfl rfl rfl ?_
                    refine L.loadPtr shape76 hF rfl rfl rfl rfl rfl rfl ?_
                    refine L.move hF rfl rfl rfl ?_
                    obtain ⟨b151, hb151, H⟩ := bindS H
                    refine L.idxR (xs := v148.Caches) (e := eTimpl_Cache) Tryz.underlying76 info33 hF rfl rfl rfl rfl rfl hb151 rfl rfl ?_
                    refine L.loadPe shape33 hF rfl rfl rfl rfl rfl ?_
                    obtain ⟨r152, hr152, H⟩ := bindS H
                    refine L.call [false] [] [] 1 hF rfl rfl rfl ent25 rfl rfl rfl rfl rfl (Fspec_CacheOk_gives k8 g9 b151 r152 hr152) rfl ?_
                    refine L.not hF rfl rfl rfl (L.nil ?_)
                    refine WpC.cond rfl (fun hc => ?_) (fun hc => ?_)
                    ·replace H := condT hc H
                     refine WpC.seq (WpC.regionL ?_)
                     refine L.assign hF rfl rfl rfl (L.nil ?_)
                     refine WpC.ret ?_
                     cases H
                     exact Leaves.ret rfl rfl rfl ⟨rfl, rfl⟩
                    ·replace H := condF hc H
                     refine WpC.skip (WpC.regionL ?_)
                     refine L.move hF rfl rfl rfl ?_
                     refine L.bin hF rfl rfl rfl rfl rfl rfl ?_
                     refine L.assign hF rfl rfl rfl (L.nil ?_)
                     exact ⟨k8, _, by omega, ⟨(IntKind.i64.wrap (v147 + (1 : Int))), v148, by omega, H, rfl⟩, Le.mk [(0, 0)] hm rfl (Sa2 trivial) trivial (Ba1 trivial)⟩
                   ·replace H := condF hc H
                    refine WpC.exit (WpC.seq (WpC.seq (WpC.regionL ?_)))
                    refine L.assign hF rfl rfl rfl (L.nil ?_)
                    refine WpC.block ?_
                    refine WpC.loopL (P := Tryz.prog) (fun n σ => ∃ v271 : Int, ∃ v272 : Timpl_World, n ≤ K ∧ Fspec_WorldOk.l10 n v271 v272 = some r ∧ σ = mkSt [(1, one (Cell.ptr 0 0)), (7, one (cI v271))] [] [(0, (bTimpl_World g0 g1 g2 g3 g4 g5 g6 g7 g8 g9 g10 g11 g12 v272))] 1) k8 ⟨_, ⟨(0 : Int), v148, by omega, H, rfl⟩, Le.mk [(0, 0)] hm rfl (Sa2 trivial) trivial (Ba1 trivial)⟩ ?_
                    clear H
                    rintro k10 _ ⟨v271, v272, hk10, H, rfl⟩
                    cases k10 with
                    | zero => cases H
                    | succ k10 =>
                     rw [Fspec_WorldOk.l10] at H
                     refine WpC.seq (WpC.seq (WpC.regionL ?_))
                     refine L.move hF rfl rfl rfl ?_
                     refine L.fieldAddr Tryz.underlying80 rfl info78 rfl hF rfl rfl rfl rfl rfl ?_
                     refine L.loadPtr shape78 hF rfl rfl rfl rfl rfl rfl ?_
                     refine L.lenR (xs := v272.Accepts) (e := eTimpl_Accept) Tryz.underlying78 hF rfl rfl rfl rfl ?_
                     refine L.bin hF rfl rfl rfl rfl rfl rfl (L.nil ?_)
                     refine WpC.cond rfl (fun hc => ?_) (fun hc => ?_)
                     ·replace H := condT hc H
                      refine WpC.skip (WpC.seq (WpC.block (WpC.seq (WpC.regionL ?_))))
                      refine L.fieldAddr Tryz.underlying80 rfl info78 rfl hF rfl rfl rfl rfl rfl ?_
                      refine L.loadPtr shape78 hF rfl rfl rfl rfl rfl rfl ?_
                      refine L.move hF rfl rfl rfl ?_
                      obtain ⟨b284, hb284, H⟩ := bindS H
                      refine L.idxR (xs := v272.Accepts) (e := eTimpl_Accept) Tryz.underlying78 info39 hF rfl rfl rfl rfl rfl hb284 rfl rfl ?_
                      refine L.loadPe shape39 hF rfl rfl rfl rfl rfl ?_
                      refine L.alloc 1 info39 rfl hF rfl rfl rfl rfl ?_
                      refine L.storePtr shape39 hF rfl rfl rfl rfl rfl rfl rfl (L.nil ?_)
                      refine WpC.seq (WpC.regionL ?_)
                      refine L.fieldAddr Tryz.underlying39 rfl info3 rfl hF rfl rfl rfl rfl rfl ?_
                      refine L.loadPtr shape3 hF rfl rfl rfl rfl rfl rfl ?_
                      obtain ⟨r290, hr290, H⟩ := bindS H
                      refine L.call [false, false, false] [] [] 2 hF rfl rfl rfl ent52 rfl rfl rfl rfl rfl (Fspec_l1In_gives k10  b284.Server (0 : Int) (2 : Int) r290 hr290) rfl ?_
                      refine L.not hF rfl rfl rfl ?_
                      refine L.move hF rfl rfl rfl ?_
                      refine L.split (fun hc => ?_) (fun hc => ?_)
                      ·replace H := condT hc H
                       refine L.off hF rfl rfl ?_
                       refine L.off hF rfl rfl ?_
                       refine L.off hF rfl rfl ?_
                       refine L.off hF rfl rfl ?_
                       refine L.pick hF rfl rfl rfl rfl ?_
                       refine L.move hF rfl rfl rfl ?_
                       refine L.off hF rfl rfl ?_
                       refine L.off hF rfl rfl ?_
                       refine L.off hF rfl rfl ?_
                       refine L.off hF rfl rfl ?_
                       refine L.off hF rfl rfl ?_
                       refine L.off hF rfl rfl ?_
                       refine L.off hF rfl rfl ?_
                       refine L.pick hF rfl rfl rfl rfl ?_
                       refine L.move hF rfl rfl rfl ?_
                       refine L.off hF rfl rfl ?_
                       refine L.off hF rfl rfl ?_
                       refine L.off hF rfl rfl ?_
                       refine L.off hF rfl rfl ?_
                       refine L.pick hF rfl rfl rfl rfl ?_
                       refine L.move hF rfl rfl rfl ?_
                       refine L.off hF rfl rfl ?_
                       refine L.off hF rfl rfl ?_
                       refine L.off hF rfl rfl ?_
                       refine L.off hF rfl rfl ?_
                       refine L.pick hF rfl rfl rfl rfl (L.nil ?_)
                       refine WpC.cond rfl (fun _ => ?_) (fun hc => by cases hc)
                       refine WpC.seq (WpC.regionL ?_)
                       refine L.assign hF rfl rfl rfl (L.nil ?_)
                       refine WpC.ret ?_
                       cases H
                       exact Leaves.ret rfl rfl rfl ⟨rfl, rfl⟩
                      ·replace H := condF hc H
                       refine L.fieldAddr Tryz.underlying39 rfl info3 rfl hF rfl rfl rfl rfl rfl ?_
                       refine L.loadPtr shape3 hF rfl rfl rfl rfl rfl rfl ?_
                       obtain ⟨r291, hr291, H⟩ := bindS H
                       refine L.call [false] [] [] 3 hF rfl rfl rfl ent103 rfl rfl rfl rfl rfl (Fspec_l5Principal_gives k10  b284.Client r291 hr291) rfl ?_
                       refine L.not hF rfl rfl rfl ?_
                       refine L.pick hF rfl rfl rfl rfl ?_
                       refine L.move hF rfl rfl rfl ?_
                       refine L.split (fun hc => ?_) (fun hc => ?_)
                       ·replace H := condT hc H
                        refine L.off hF rfl rfl ?_
                        refine L.off hF rfl rfl ?_
                        refine L.off hF rfl rfl ?_
                        refine L.off hF rfl rfl ?_
                        refine L.off hF rfl rfl ?_
                        refine L.off hF rfl rfl ?_
                        refine L.off hF rfl rfl ?_
                        refine L.pick hF rfl rfl rfl rfl ?_
                        refine L.move hF rfl rfl rfl ?_
                        refine L.off hF rfl rfl ?_
                        refine L.off hF rfl rfl ?_
                        refine L.off hF rfl rfl ?_
                        refine L.off hF rfl rfl ?_
                        refine L.pick hF rfl rfl rfl rfl ?_
                        refine L.move hF rfl rfl rfl ?_
                        refine L.off hF rfl rfl ?_
                        refine L.off hF rfl rfl ?_
                        refine L.off hF rfl rfl ?_
                        refine L.off hF rfl rfl ?_
                        refine L.pick hF rfl rfl rfl rfl (L.nil ?_)
                        refine WpC.cond rfl (fun _ => ?_) (fun hc => by cases hc)
                        refine WpC.seq (WpC.regionL ?_)
                        refine L.assign hF rfl rfl rfl (L.nil ?_)
                        refine WpC.ret ?_
                        cases H
                        exact Leaves.ret rfl rfl rfl ⟨rfl, rfl⟩
                       ·replace H := condF hc H
                        refine L.fieldAddr Tryz.underlying39 rfl info3 rfl hF rfl rfl rfl rfl rfl ?_
                        refine L.loadPtr shape3 hF rfl rfl rfl rfl rfl rfl ?_
                        refine L.fieldAddr Tryz.underlying80 rfl info22 rfl hF rfl rfl rfl rfl rfl ?_
                        refine L.loadPtr shape22 hF rfl rfl rfl rfl rfl rfl ?_
                        refine L.lenR (xs := v272.Leaked) (e := eI) Tryz.underlying22 hF rfl rfl rfl rfl ?_
                        obtain ⟨r292, hr292, H⟩ := bindS H
                        refine L.call [false, false, false] [] [] 4 hF rfl rfl rfl ent52 rfl rfl rfl rfl rfl (Fspec_l1In_gives k10  b284.Leaks (0 : Int) (v272.Leaked.length : Int) r292 hr292) rfl ?_
                        refine L.not hF rfl rfl rfl ?_
                        refine L.pick hF rfl rfl rfl rfl ?_
                        refine L.move hF rfl rfl rfl ?_
                        refine L.split (fun hc => ?_) (fun hc => ?_)
                        ·replace H := condT hc H
                         refine L.off hF rfl rfl ?_
                         refine L.off hF rfl rfl ?_
                         refine L.off hF rfl rfl ?_
                         refine L.off hF rfl rfl ?_
                         refine L.pick hF rfl rfl rfl rfl ?_
                         refine L.move hF rfl rfl rfl ?_
                         refine L.off hF rfl rfl ?_
                         refine L.off hF rfl rfl ?_
                         refine L.off hF rfl rfl ?_
                         refine L.off hF rfl rfl ?_
                         refine L.pick hF rfl rfl rfl rfl (L.nil ?_)
                         refine WpC.cond rfl (fun _ => ?_) (fun hc => by cases hc)
                         refine WpC.seq (WpC.regionL ?_)
                         refine L.assign hF rfl rfl rfl (L.nil ?_)
                         refine WpC.ret ?_
                         cases H
                         exact Leaves.ret rfl rfl rfl ⟨rfl, rfl⟩
                        ·replace H := condF hc H
                         refine L.fieldAddr Tryz.underlying39 rfl info22 rfl hF rfl rfl rfl rfl rfl ?_
                         refine L.loadPtr shape22 hF rfl rfl rfl rfl rfl rfl ?_
                         obtain ⟨r293, hr293, H⟩ := bindS H
                         refine L.call [false, false, false] [] [] 5 hF rfl rfl rfl ent104 rfl rfl rfl rfl rfl (Fspec_l5All_gives k10 g11 b284.Path (6 : Int) (3 : Int) r293 hr293) rfl ?_
                         refine L.not hF rfl rfl rfl ?_
                         refine L.pick hF rfl rfl rfl rfl ?_
                         refine L.move hF rfl rfl rfl ?_
                         refine L.split (fun hc => ?_) (fun hc => ?_)
                         ·replace H := condT hc H
                          refine L.off hF rfl rfl ?_
                          refine L.off hF rfl rfl ?_
                          refine L.off hF rfl rfl ?_
                          refine L.off hF rfl rfl ?_
                          refine L.pick hF rfl rfl rfl rfl (L.nil ?_)
                          refine WpC.cond rfl (fun _ => ?_) (fun hc => by cases hc)
                          refine WpC.seq (WpC.regionL ?_)
                          refine L.assign hF rfl rfl rfl (L.nil ?_)
                          refine WpC.ret ?_
                          cases H
                          exact Leaves.ret rfl rfl rfl ⟨rfl, rfl⟩
                         ·replace H := condF hc H
                          refine L.fieldAddr Tryz.underlying39 rfl info22 rfl hF rfl rfl rfl rfl rfl ?_
                          refine L.loadPtr shape22 hF rfl rfl rfl rfl rfl rfl ?_
                          obtain ⟨r294, hr294, H⟩ := bindS H
                          refine L.call [false, false, false] [] [] 6 hF rfl rfl rfl ent104 rfl rfl rfl rfl rfl (Fspec_l5All_gives k10 g11 b284.Via (4 : Int) (3 : Int) r294 hr294) rfl ?_
                          refine L.not hF rfl rfl rfl ?_
                          refine L.pick hF rfl rfl rfl rfl (L.nil ?_)
                          refine WpC.cond rfl (fun hc => ?_) (fun hc => ?_)
                          ·replace H := condT hc H
                           refine WpC.seq (WpC.regionL ?_)
                           refine L.assign hF rfl rfl rfl (L.nil ?_)
                           refine WpC.ret ?_
                           cases H
                           exact Leaves.ret rfl rfl rfl ⟨rfl, rfl⟩
                          ·replace H := condF hc H
                           refine WpC.skip (WpC.regionL ?_)
                           refine L.move hF rfl rfl rfl ?_
                           refine L.bin hF rfl rfl rfl rfl rfl rfl ?_
                           refine L.assign hF rfl rfl rfl (L.nil ?_)
                           exact ⟨k10, _, by omega, ⟨(IntKind.i64.wrap (v271 + (1 : Int))), v272, by omega, H, rfl⟩, Le.mk [(0, 0)] hm rfl (Sa2 trivial) trivial (Ba1 trivial)⟩
                     ·replace H := condF hc H
                      refine WpC.exit (WpC.seq (WpC.regionL ?_))
                      refine L.assign hF rfl rfl rfl (L.nil ?_)
                      refine WpC.ret ?_
                      cases H
                      exact Leaves.ret rfl rfl rfl ⟨rfl, rfl⟩
/-! ### Fspec_Once -/
def Fspec_Once.j50 (cl49 : Int → Int → Timpl_World → Option Bool) (k : Nat) (v746 : Int) (v747 : Int) (v748 : Timpl_World) : Option Bool := cl49 v746 (IntKind.i64.wrap (v747 + (1 : Int))) v748
def Fspec_Once.l49 (cl42 : Int → Timpl_World → Option Bool) : Nat → Int → Int → Timpl_World → Option Bool
 | 0, _, _, _ => none
 | k49 + 1, v735, v736, v737 => cond (decide (v736 < v735)) ((at? v737.Accepts v735).bind fun b753 => (at? v737.Accepts v736).bind fun b754 => cond (b753.Server == b754.Server) ((at? v737.Accepts v735).bind fun b755 => (at? v737.Accepts v736).bind fun b756 => cond ((b755.Auth.Client == b756.Auth.Client) && ((b755.Auth.Time == b756.Auth.Time) && ((b755.Auth.Seq == b756.Auth.Seq) && true))) (some false) (Fspec_Once.j50 (Fspec_Once.l49 cl42 k49) k49 v735 v736 v737)) (Fspec_Once.j50 (Fspec_Once.l49 cl42 k49) k49 v735 v736 v737)) (cl42 (IntKind.i64.wrap (v735 + (1 : Int))) v737)
def Fspec_Once.l42 : Nat → Int → Timpl_World → Option Bool
 | 0, _, _ => none
 | k42 + 1, v627, v628 => cond (decide (v627 < (v628.Accepts.length : Int))) (Fspec_Once.l49 (Fspec_Once.l42 k42) k42 v627 (0 : Int) v628) (some true)
def Fspec_Once (k : Nat) (a0 : Timpl_World) : Option Bool := (Fspec_WorldOk k a0).bind fun r2 => cond (!r2) (some false) (Fspec_Once.l42 k (0 : Int) a0)
theorem ent33 : MG.Enters Tryz.prog 33 := ⟨Tryz.f33, Tryz.func33, rfl, by decide⟩
set_option maxHeartbeats 8000000 in
set_option maxRecDepth 100000 in
theorem Fspec_Once_gives (k : Nat) (g0 : Bool) (g1 : Bool) (g2 : Bool) (g3 : Bool) (g4 : Bool) (g5 : Bool) (g6 : Bool) (g7 : Bool) (g8 : Bool) (g9 : Bool) (g10 : Bool) (g11 : Bool) (g12 : Bool) (a0 : Timpl_World) (r : Bool) (H : Fspec_Once k a0 = some r) : Gives Tryz.prog 33 [V.agg [Cell.sl g0 (List.map eI a0.Config.UserRealm), Cell.sl g1 (List.map eI a0.Config.ServiceRealm), Cell.sl g2 (List.map eTimpl_Pair a0.Config.Links), Cell.sl g3 (List.map eTimpl_Pair a0.Config.Proxy), cI a0.Config.Skew, cI a0.Now, cI a0.Fresh, Cell.sl g4 (List.map eS a0.Net), Cell.sl g5 (List.map eS a0.Known.Terms), Cell.sl g6 (List.map eI a0.Known.Keys), Cell.sl g7 (List.map eTimpl_Wait a0.Waits), Cell.sl g8 (List.map eTimpl_Cred a0.Creds), Cell.sl g9 (List.map eTimpl_Cache a0.Caches), Cell.sl g10 (List.map eTimpl_Event a0.Log), Cell.sl g11 (List.map eTimpl_Accept a0.Accepts), Cell.sl g12 (List.map eI a0.Leaked)]] [] [V.one (cL r)] [] := by
 refine Gives.intro Tryz.func33 rfl rfl rfl rfl ?_
 intro F hF hm
 unfold Fspec_Once at H
 obtain ⟨K, hK⟩ : ∃ K, k ≤ K := ⟨k, Nat.le_refl k⟩
 refine WpC.seq (WpC.regionL ?_)
 refine L.box 16 hF rfl rfl rfl rfl ?_
 refine L.assign hF rfl rfl rfl (L.nil ?_)
 refine WpC.seq (WpC.seq (WpC.regionL ?_))
 refine L.loadPtr shape80 hF rfl rfl rfl rfl rfl rfl ?_
 obtain ⟨r2, hr2, H⟩ := bindS H
 refine L.call [false] [] [] 17 hF rfl rfl rfl ent29 rfl rfl rfl rfl rfl (Fspec_WorldOk_gives k g0 g1 g2 g3 g4 g5 g6 g7 g8 g9 g10 g11 g12 a0 r2 hr2) rfl ?_
 refine L.not hF rfl rfl rfl (L.nil ?_)
 refine WpC.cond rfl (fun hc => ?_) (fun hc => ?_)
 ·replace H := condT hc H
  refine WpC.seq (WpC.regionL ?_)
  refine L.assign hF rfl rfl rfl (L.nil ?_)
  refine WpC.ret ?_
  cases H
  exact Leaves.ret rfl rfl rfl ⟨rfl, rfl⟩
 ·replace H := condF hc H
  refine WpC.skip (WpC.seq (WpC.seq (WpC.regionL ?_)))
  refine L.assign hF rfl rfl rfl (L.nil ?_)
  refine WpC.block ?_
  refine WpC.loopL (P := Tryz.prog) (fun n σ => ∃ v627 : Int, ∃ v628 : Timpl_World, n ≤ K ∧ Fspec_Once.l42 n v627 v628 = some r ∧ σ = mkSt [(1, one (Cell.ptr 0 0)), (3, one (cI v627))] [] [(0, (bTimpl_World g0 g1 g2 g3 g4 g5 g6 g7 g8 g9 g10 g11 g12 v628))] 1) k ⟨_, ⟨(0 : Int), a0, by omega, H, rfl⟩, Le.mk [(0, 16)] hm rfl (Sa2 trivial) trivial (Ba1 trivial)⟩ ?_
  clear H
  rintro k42 _ ⟨v627, v628, hk42, H, rfl⟩
  cases k42 with
  | zero => cases H
  | succ k42 =>
   rw [Fspec_Once.l42] at H
   refine WpC.seq (WpC.seq (WpC.regionL ?_))
   refine L.move hF rfl rfl rfl ?_
   refine L.fieldAddr Tryz.underlying80 rfl info78 rfl hF rfl rfl rfl rfl rfl ?_
   refine L.loadPtr shape78 hF rfl rfl rfl rfl rfl rfl ?_
   refine L.lenR (xs := v628.Accepts) (e := eTimpl_Accept) Tryz.underlying78 hF rfl rfl rfl rfl ?_
   refine L.bin hF rfl rfl rfl rfl rfl rfl (L.nil ?_)
   refine WpC.cond rfl (fun hc => ?_) (fun hc => ?_)
   ·replace H := condT hc H
    refine WpC.skip (WpC.seq (WpC.block (WpC.seq (WpC.regionL ?_))))
    refine L.assign hF rfl rfl rfl (L.nil ?_)
    refine WpC.block ?_
    refine WpC.loopL (P := Tryz.prog) (fun n σ => ∃ v735 : Int, ∃ v736 : Int, ∃ v737 : Timpl_World, n ≤ K ∧ Fspec_Once.l49 (Fspec_Once.l42 k42) n v735 v736 v737 = some r ∧ σ = mkSt [(1, one (Cell.ptr 0 0)), (3, one (cI v735)), (4, one (cI v736))] [] [(0, (bTimpl_World g0 g1 g2 g3 g4 g5 g6 g7 g8 g9 g10 g11 g12 v737))] 1) k42 ⟨_, ⟨v627, (0 : Int), v628, by omega, H, rfl⟩, Le.mk [(0, 0)] hm rfl (Sa2 (Sa1 trivial)) trivial (Ba1 trivial)⟩ ?_
    clear H
    rintro k49 _ ⟨v735, v736, v737, hk49, H, rfl⟩
    cases k49 with
    | zero => cases H
    | succ k49 =>
     rw [Fspec_Once.l49] at H
     refine WpC.seq (WpC.seq (WpC.regionL ?_))
     refine L.move hF rfl rfl rfl ?_
     refine L.move hF rfl rfl rfl ?_
     refine L.bin hF rfl rfl rfl rfl rfl rfl (L.nil ?_)
     refine WpC.cond rfl (fun hc => ?_) (fun hc => ?_)
     ·replace H := condT hc H
      refine WpC.skip ?_
      refine WpC.join (fun σ => ∃ kj50 : Nat, ∃ v746 : Int, ∃ v747 : Int, ∃ v748 : Timpl_World, kj50 ≤ K ∧ Fspec_Once.j50 (Fspec_Once.l49 (Fspec_Once.l42 k42) k49) kj50 v746 v747 v748 = some r ∧ σ = mkSt [(1, one (Cell.ptr 0 0)), (3, one (cI v746)), (4, one (cI v747))] [] [(0, (bTimpl_World g0 g1 g2 g3 g4 g5 g6 g7 g8 g9 g10 g11 g12 v748))] 1) ?_ ?_
      ·rintro _ ⟨kj50, v746, v747, v748, hkj50, H, rfl⟩
       unfold Fspec_Once.j50 at H
       refine WpC.regionL ?_
       refine L.move hF rfl rfl rfl ?_
       refine L.bin hF rfl rfl rfl rfl rfl rfl ?_
       refine L.assign hF rfl rfl rfl (L.nil ?_)
       exact ⟨k49, _, by omega, ⟨v746, (IntKind.i64.wrap (v747 + (1 : Int))), v748, by omega, H, rfl⟩, Le.mk [(0, 0)] hm rfl (Sa2 (Sa1 trivial)) trivial (Ba1 trivial)⟩
      ·refine WpC.block (WpC.seq ?_)
       refine S.begin mixed (by kernel_rfl) ?_
       refine S.st 0 rfl rfl ((Ca.fieldAddr Tryz.underlying80 rfl info78 rfl).quiet) (fun Q0 k0 => L.fieldAddr Tryz.underlying80 rfl info78 rfl hF rfl rfl rfl rfl rfl (L.nil k0)) ?_
       refine S.st 1 rfl rfl (Qu.load) (fun Q0 k0 => L.loadPtr shape78 hF rfl rfl rfl rfl rfl rfl (L.nil k0)) ?_
       refine S.st 2 rfl rfl ((Ca.move).quiet) (fun Q0 k0 => L.move hF rfl rfl rfl (L.nil k0)) ?_
       obtain ⟨b753, hb753, H⟩ := bindS H
       refine S.st 3 rfl rfl ((Ca.indexAddr).quiet) (fun Q0 k0 => L.idxR (xs := v737.Accepts) (e := eTimpl_Accept) Tryz.underlying78 info39 hF rfl rfl rfl rfl rfl hb753 rfl rfl (L.nil k0)) ?_
       refine S.st 4 rfl rfl ((Ca.fieldAddr Tryz.underlying39 rfl info3 rfl).quiet) (fun Q0 k0 => L.fieldAddr Tryz.underlying39 rfl info3 rfl hF rfl rfl rfl rfl rfl (L.nil k0)) ?_
       refine S.st 5 rfl rfl (Qu.load) (fun Q0 k0 => L.loadPe shape3 hF rfl rfl rfl rfl rfl (L.nil k0)) ?_
       refine S.st 6 rfl rfl ((Ca.fieldAddr Tryz.underlying80 rfl info78 rfl).quiet) (fun Q0 k0 => L.fieldAddr Tryz.underlying80 rfl info78 rfl hF rfl rfl rfl rfl rfl (L.nil k0)) ?_
       refine S.st 7 rfl rfl (Qu.load) (fun Q0 k0 => L.loadPtr shape78 hF rfl rfl rfl rfl rfl rfl (L.nil k0)) ?_
       refine S.st 8 rfl rfl ((Ca.move).quiet) (fun Q0 k0 => L.move hF rfl rfl rfl (L.nil k0)) ?_
       obtain ⟨b754, hb754, H⟩ := bindS H
       refine S.st 9 rfl rfl ((Ca.indexAddr).quiet) (fun Q0 k0 => L.idxR (xs := v737.Accepts) (e := eTimpl_Accept) Tryz.underlying78 info39 hF rfl rfl rfl rfl rfl hb754 rfl rfl (L.nil k0)) ?_
       refine S.st 10 rfl rfl ((Ca.fieldAddr Tryz.underlying39 rfl info3 rfl).quiet) (fun Q0 k0 => L.fieldAddr Tryz.underlying39 rfl info3 rfl hF rfl rfl rfl rfl rfl (L.nil k0)) ?_
       refine S.st 11 rfl rfl (Qu.load) (fun Q0 k0 => L.loadPe shape3 hF rfl rfl rfl rfl rfl (L.nil k0)) ?_
       refine S.st 12 rfl rfl ((Ca.bin rfl rfl (calm_int _ _ _ _ _ _ _ _)).quiet) (fun Q0 k0 => L.bin hF rfl rfl rfl rfl rfl rfl (L.nil k0)) ?_
       refine S.st 13 rfl rfl ((Ca.move).quiet) (fun Q0 k0 => L.move hF rfl rfl rfl (L.nil k0)) ?_
       refine S.split (fun hc => ?_) (fun hc => ?_)
       ·replace H := condT hc H
        refine S.st 14 rfl rfl ((Ca.fieldAddr Tryz.underlying80 rfl info78 rfl).quiet) (fun Q0 k0 => L.fieldAddr Tryz.underlying80 rfl info78 rfl hF rfl rfl rfl rfl rfl (L.nil k0)) ?_
        refine S.st 15 rfl rfl (Qu.load) (fun Q0 k0 => L.loadPtr shape78 hF rfl rfl rfl rfl rfl rfl (L.nil k0)) ?_
        refine S.st 16 rfl rfl ((Ca.move).quiet) (fun Q0 k0 => L.move hF rfl rfl rfl (L.nil k0)) ?_
        obtain ⟨b755, hb755, H⟩ := bindS H
        refine S.st 17 rfl rfl ((Ca.indexAddr).quiet) (fun Q0 k0 => L.idxR (xs := v737.Accepts) (e := eTimpl_Accept) Tryz.underlying78 info39 hF rfl rfl rfl rfl rfl hb755 rfl rfl (L.nil k0)) ?_
        refine S.st 18 rfl rfl ((Ca.fieldAddr Tryz.underlying39 rfl info35 rfl).quiet) (fun Q0 k0 => L.fieldAddr Tryz.underlying39 rfl info35 rfl hF rfl rfl rfl rfl rfl (L.nil k0)) ?_
        refine S.st 19 rfl rfl (Qu.load) (fun Q0 k0 => L.loadPe shape35 hF rfl rfl rfl rfl rfl (L.nil k0)) ?_
        refine S.st 20 rfl rfl ((Ca.fieldAddr Tryz.underlying80 rfl info78 rfl).quiet) (fun Q0 k0 => L.fieldAddr Tryz.underlying80 rfl info78 rfl hF rfl rfl rfl rfl rfl (L.nil k0)) ?_
        refine S.st 21 rfl rfl (Qu.load) (fun Q0 k0 => L.loadPtr shape78 hF rfl rfl rfl rfl rfl rfl (L.nil k0)) ?_
        refine S.st 22 rfl rfl ((Ca.move).quiet) (fun Q0 k0 => L.move hF rfl rfl rfl (L.nil k0)) ?_
        obtain ⟨b756, hb756, H⟩ := bindS H
        refine S.st 23 rfl rfl ((Ca.indexAddr).quiet) (fun Q0 k0 => L.idxR (xs := v737.Accepts) (e := eTimpl_Accept) Tryz.underlying78 info39 hF rfl rfl rfl rfl rfl hb756 rfl rfl (L.nil k0)) ?_
        refine S.st 24 rfl rfl ((Ca.fieldAddr Tryz.underlying39 rfl info35 rfl).quiet) (fun Q0 k0 => L.fieldAddr Tryz.underlying39 rfl info35 rfl hF rfl rfl rfl rfl rfl (L.nil k0)) ?_
        refine S.st 25 rfl rfl (Qu.load) (fun Q0 k0 => L.loadPe shape35 hF rfl rfl rfl rfl rfl (L.nil k0)) ?_
        refine S.st 26 rfl rfl ((Ca.eqA (r := ((b755.Auth.Client == b756.Auth.Client) && ((b755.Auth.Time == b756.Auth.Time) && ((b755.Auth.Seq == b756.Auth.Seq) && true)))) rfl rfl rfl rfl (by kernel_rfl) (by kernel_rfl)).quiet) (fun Q0 k0 => L.eqA (r := ((b755.Auth.Client == b756.Auth.Client) && ((b755.Auth.Time == b756.Auth.Time) && ((b755.Auth.Seq == b756.Auth.Seq) && true)))) hF rfl rfl rfl rfl rfl rfl (by kernel_rfl) (by kernel_rfl) (L.nil k0)) ?_
        refine S.st 27 rfl rfl ((Ca.pick).quiet) (fun Q0 k0 => L.pick hF rfl rfl rfl rfl (L.nil k0)) ?_
        refine S.nil ?_
        refine WpC.cond rfl (fun hc => ?_) (fun hc => ?_)
        ·replace H := condT hc H
         refine WpC.seq (WpC.regionL ?_)
         refine L.assign hF rfl rfl rfl (L.nil ?_)
         refine WpC.ret ?_
         cases H
         exact Leaves.ret rfl rfl rfl ⟨rfl, rfl⟩
        ·replace H := condF hc H
         refine WpC.skip ?_
         exact ⟨_, ⟨k49, v735, v736, v737, by omega, H, rfl⟩, Le.mk [(0, 0)] hm rfl (Sa2 (Sa1 trivial)) trivial (Ba1 trivial)⟩
       ·replace H := condF hc H
        refine S.off 14 rfl rfl hF rfl rfl ?_
        refine S.off 15 rfl rfl hF rfl rfl ?_
        refine S.off 16 rfl rfl hF rfl rfl ?_
        refine S.off 17 rfl rfl hF rfl rfl ?_
        refine S.off 18 rfl rfl hF rfl rfl ?_
        refine S.off 19 rfl rfl hF rfl rfl ?_
        refine S.off 20 rfl rfl hF rfl rfl ?_
        refine S.off 21 rfl rfl hF rfl rfl ?_
        refine S.off 22 rfl rfl hF rfl rfl ?_
        refine S.off 23 rfl rfl hF rfl rfl ?_
        refine S.off 24 rfl rfl hF rfl rfl ?_
        refine S.off 25 rfl rfl hF rfl rfl ?_
        refine S.off 26 rfl rfl hF rfl rfl ?_
        refine S.st 27 rfl rfl ((Ca.pick).quiet) (fun Q0 k0 => L.pick hF rfl rfl rfl rfl (L.nil k0)) ?_
        refine S.nil ?_
        refine WpC.cond rfl (fun hc => by cases hc) (fun _ => ?_)
        refine WpC.skip ?_
        exact ⟨_, ⟨k49, v735, v736, v737, by omega, H, rfl⟩, Le.mk [(0, 0)] hm rfl (Sa2 (Sa1 trivial)) trivial (Ba1 trivial)⟩
     ·replace H := condF hc H
      refine WpC.exit (WpC.regionL ?_)
      refine L.move hF rfl rfl rfl ?_
      refine L.bin hF rfl rfl rfl rfl rfl rfl ?_
      refine L.assign hF rfl rfl rfl (L.nil ?_)
      exact ⟨k42, _, by omega, ⟨(IntKind.i64.wrap (v735 + (1 : Int))), v737, by omega, H, rfl⟩, Le.mk [(0, 0)] hm rfl (Sa2 trivial) trivial (Ba1 trivial)⟩
   ·replace H := condF hc H
    refine WpC.exit (WpC.seq (WpC.regionL ?_))
    refine L.assign hF rfl rfl rfl (L.nil ?_)
    refine WpC.ret ?_
    cases H
    exact Leaves.ret rfl rfl rfl ⟨rfl, rfl⟩
/-! ### Fimpl_Once_1 -/
def Fimpl_Once_1 (k : Nat) (a0 : Timpl_Accept) (o0 : Timpl_Accept) : Option Bool := cond (o0.Server == a0.Server) (some ((o0.Auth.Client == a0.Auth.Client) && ((o0.Auth.Time == a0.Auth.Time) && ((o0.Auth.Seq == a0.Auth.Seq) && true)))) (some false)
theorem ent128 : MG.Enters Tryz.prog 128 := ⟨Tryz.f128, Tryz.func128, rfl, by decide⟩
set_option maxHeartbeats 8000000 in
set_option maxRecDepth 100000 in
theorem Fimpl_Once_1_gives (k : Nat) (g0 : Bool) (g1 : Bool) (a0 : Timpl_Accept) (o0 : Timpl_Accept) (r : Bool) (H : Fimpl_Once_1 k a0 o0 = some r) : Gives Tryz.prog 128 [V.agg [cI a0.Server, cI a0.Client, cI a0.Key, cI a0.Op, cI a0.Now, cI a0.Auth.Client, cI a0.Auth.Time, cI a0.Auth.Seq, cI a0.Rest.Servers, cI a0.Rest.Ops, cI a0.Rest.End, Cell.sl g0 (List.map eI a0.Path), Cell.sl g1 (List.map eI a0.Via), cI a0.Leaks, cS a0.Ticket], V.one (Cell.ptr 0 0)] [[cI o0.Server, cI o0.Client, cI o0.Key, cI o0.Op, cI o0.Now, cI o0.Auth.Client, cI o0.Auth.Time, cI o0.Auth.Seq, cI o0.Rest.Servers, cI o0.Rest.Ops, cI o0.Rest.End, Cell.sl true (List.map eI o0.Path), Cell.sl true (List.map eI o0.Via), cI o0.Leaks, cS o0.Ticket]] [V.one (cL r)] [[cI o0.Server, cI o0.Client, cI o0.Key, cI o0.Op, cI o0.Now, cI o0.Auth.Client, cI o0.Auth.Time, cI o0.Auth.Seq, cI o0.Rest.Servers, cI o0.Rest.Ops, cI o0.Rest.End, Cell.sl true (List.map eI o0.Path), Cell.sl true (List.map eI o0.Via), cI o0.Leaks, cS o0.Ticket]] := by
 refine Gives.intro Tryz.func128 rfl rfl rfl rfl ?_
 intro F hF hm
 unfold Fimpl_Once_1 at H
 obtain ⟨K, hK⟩ : ∃ K, k ≤ K := ⟨k, Nat.le_refl k⟩
 refine WpC.seq (WpC.regionL ?_)
 refine L.box 32 hF rfl rfl rfl rfl ?_
 refine L.assign hF rfl rfl rfl (L.nil ?_)
 refine WpC.seq (WpC.regionL ?_)
 refine L.fieldAddr Tryz.underlying39 rfl info3 rfl hF rfl rfl rfl rfl rfl ?_
 refine L.loadPtr shape3 hF rfl rfl rfl rfl rfl rfl ?_
 refine L.fieldAddr Tryz.underlying39 rfl info3 rfl hF rfl rfl rfl rfl rfl ?_
 refine L.loadPtr shape3 hF rfl rfl rfl rfl rfl rfl ?_
 refine L.bin hF rfl rfl rfl rfl rfl rfl ?_
 refine L.move hF rfl rfl rfl ?_
 refine L.split (fun hc => ?_) (fun hc => ?_)
 ·replace H := condT hc H
  refine L.fieldAddr Tryz.underlying39 rfl info35 rfl hF rfl rfl rfl rfl rfl ?_
  refine L.loadPtr shape35 hF rfl rfl rfl rfl rfl rfl ?_
  refine L.fieldAddr Tryz.underlying39 rfl info35 rfl hF rfl rfl rfl rfl rfl ?_
  refine L.loadPtr shape35 hF rfl rfl rfl rfl rfl rfl ?_
  refine L.eqA (r := ((o0.Auth.Client == a0.Auth.Client) && ((o0.Auth.Time == a0.Auth.Time) && ((o0.Auth.Seq == a0.Auth.Seq) && true)))) hF rfl rfl rfl rfl rfl rfl (by kernel_rfl) (by kernel_rfl) ?_
  refine L.pick hF rfl rfl rfl rfl ?_
  refine L.assign hF rfl rfl rfl (L.nil ?_)
  refine WpC.ret ?_
  cases H
  exact Leaves.ret rfl rfl rfl ⟨rfl, rfl⟩
 ·replace H := condF hc H
  refine L.off hF rfl rfl ?_
  refine L.off hF rfl rfl ?_
  refine L.off hF rfl rfl ?_
  refine L.off hF rfl rfl ?_
  refine L.off hF rfl rfl ?_
  refine L.pick hF rfl rfl rfl rfl ?_
  refine L.assign hF rfl rfl rfl (L.nil ?_)
  refine WpC.ret ?_
  cases H
  exact Leaves.ret rfl rfl rfl ⟨rfl, rfl⟩
/-! ### Fslices_IndexFunc_Accept__impl_Once_1 -/
def Fslices_IndexFunc_Accept__impl_Once_1.l2 : Nat → (List Timpl_Accept) → Int → Int → Timpl_Accept → Option (Int × Timpl_Accept)
 | 0, _, _, _, _ => none
 | k2 + 1, v39, v40, v41, v42 => cond (decide (v41 < v40)) ((at? v39 v41).bind fun b45 => (Fimpl_Once_1 k2 b45 v42).bind fun r46 => cond r46 (some (v41, v42)) ((Fslices_IndexFunc_Accept__impl_Once_1.l2 k2) v39 v40 (IntKind.i64.wrap (v41 + (1 : Int))) v42)) (some ((-1 : Int), v42))
def Fslices_IndexFunc_Accept__impl_Once_1 (k : Nat) (a0 : List Timpl_Accept) (o0 : Timpl_Accept) : Option (Int × Timpl_Accept) := Fslices_IndexFunc_Accept__impl_Once_1.l2 k a0 (a0.length : Int) (0 : Int) o0
theorem ent198 : MG.Enters Tryz.prog 198 := ⟨Tryz.f198, Tryz.func198, rfl, by decide⟩
set_option maxHeartbeats 8000000 in
set_option maxRecDepth 100000 in
theorem Fslices_IndexFunc_Accept__impl_Once_1_gives (k : Nat) (g0 : Bool) (a0 : List Timpl_Accept) (o0 : Timpl_Accept) (r : Int × Timpl_Accept) (H : Fslices_IndexFunc_Accept__impl_Once_1 k a0 o0 = some r) : Gives Tryz.prog 198 [V.one (Cell.sl g0 (List.map eTimpl_Accept a0)), V.one (Cell.clo 128 [Cell.ptr 0 0])] [[cI o0.Server, cI o0.Client, cI o0.Key, cI o0.Op, cI o0.Now, cI o0.Auth.Client, cI o0.Auth.Time, cI o0.Auth.Seq, cI o0.Rest.Servers, cI o0.Rest.Ops, cI o0.Rest.End, Cell.sl true (List.map eI o0.Path), Cell.sl true (List.map eI o0.Via), cI o0.Leaks, cS o0.Ticket]] [V.one (cI r.1)] [[cI r.2.Server, cI r.2.Client, cI r.2.Key, cI r.2.Op, cI r.2.Now, cI r.2.Auth.Client, cI r.2.Auth.Time, cI r.2.Auth.Seq, cI r.2.Rest.Servers, cI r.2.Rest.Ops, cI r.2.Rest.End, Cell.sl true (List.map eI r.2.Path), Cell.sl true (List.map eI r.2.Via), cI r.2.Leaks, cS r.2.Ticket]] := by
 refine Gives.intro Tryz.func198 rfl rfl rfl rfl ?_
 intro F hF hm
 unfold Fslices_IndexFunc_Accept__impl_Once_1 at H
 obtain ⟨K, hK⟩ : ∃ K, k ≤ K := ⟨k, Nat.le_refl k⟩
 refine WpC.seq (WpC.regionL ?_)
 refine L.assign hF rfl rfl rfl (L.nil ?_)
 refine WpC.seq (WpC.seq (WpC.regionL ?_))
 refine L.move hF rfl rfl rfl ?_
 refine L.lenR (xs := a0) (e := eTimpl_Accept) Tryz.underlying78 hF rfl rfl rfl rfl ?_
 refine L.move hF rfl rfl rfl (L.nil ?_)
 refine WpC.block ?_
 refine WpC.loopL (P := Tryz.prog) (fun n σ => ∃ v39 : List Timpl_Accept, ∃ v40 : Int, ∃ v41 : Int, ∃ v42 : Timpl_Accept, n ≤ K ∧ Fslices_IndexFunc_Accept__impl_Once_1.l2 n v39 v40 v41 v42 = some r ∧ σ = mkSt [(0, one (Cell.sl g0 (List.map eTimpl_Accept v39))), (1, one (Cell.clo 128 [Cell.ptr 0 0])), (7, one (cI v40)), (8, one (cI v41))] [] [(0, (bTimpl_Accept true true v42))] 1) k ⟨_, ⟨a0, (a0.length : Int), (0 : Int), o0, by omega, H, rfl⟩, Le.mk [(0, 0)] hm rfl (Sa4 trivial) trivial (Ba1 trivial)⟩ ?_
 clear H
 rintro k2 _ ⟨v39, v40, v41, v42, hk2, H, rfl⟩
 cases k2 with
 | zero => cases H
 | succ k2 =>
  rw [Fslices_IndexFunc_Accept__impl_Once_1.l2] at H
  refine WpC.seq (WpC.regionL ?_)
  refine L.bin hF rfl rfl rfl rfl rfl rfl (L.nil ?_)
  refine WpC.seq ?_
  refine WpC.cond rfl (fun hc => ?_) (fun hc => ?_)
  ·replace H := condT hc H
   refine WpC.skip (WpC.seq (WpC.block (WpC.seq (WpC.regionL ?_))))
   refine L.move hF rfl rfl rfl ?_
   refine L.assign hF rfl rfl rfl (L.nil ?_)
   refine WpC.seq (WpC.regionL ?_)
   refine L.move hF rfl rfl rfl ?_
   refine L.move hF rfl rfl rfl ?_
   refine L.move hF rfl rfl rfl ?_
   obtain ⟨b45, hb45, H⟩ := bindS H
   refine L.idxR (xs := v39) (e := eTimpl_Accept) Tryz.underlying78 info39 hF rfl rfl rfl rfl rfl hb45 rfl rfl ?_
   refine L.loadPe shape39 hF rfl rfl rfl rfl rfl ?_
   obtain ⟨r46, hr46, H⟩ := bindS H
   refine L.call [false] [] [0] 1 hF rfl rfl rfl ent128 rfl rfl rfl rfl rfl (Fimpl_Once_1_gives k2 g0 g0 b45 v42 r46 hr46) rfl (L.nil ?_)
   refine WpC.cond rfl (fun hc => ?_) (fun hc => ?_)
   ·replace H := condT hc H
    refine WpC.seq (WpC.regionL ?_)
    refine L.move hF rfl rfl rfl ?_
    refine L.assign hF rfl rfl rfl (L.nil ?_)
    refine WpC.ret ?_
    cases H
    exact Leaves.ret rfl rfl rfl ⟨rfl, rfl⟩
   ·replace H := condF hc H
    refine WpC.skip (WpC.regionL ?_)
    refine L.bin hF rfl rfl rfl rfl rfl rfl ?_
    refine L.move hF rfl rfl rfl (L.nil ?_)
    exact ⟨k2, _, by omega, ⟨v39, v40, (IntKind.i64.wrap (v41 + (1 : Int))), v42, by omega, H, rfl⟩, Le.mk [(0, 0)] hm rfl (Sa4 trivial) trivial (Ba1 trivial)⟩
  ·replace H := condF hc H
   refine WpC.exit (WpC.seq (WpC.regionL ?_))
   refine L.assign hF rfl rfl rfl (L.nil ?_)
   refine WpC.ret ?_
   cases H
   exact Leaves.ret rfl rfl rfl ⟨rfl, rfl⟩
end Go.Proofs.YtgjbgakcfcomdaaGreat.M
