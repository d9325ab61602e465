import Derived.Test.YtbaemdkdgghokaaGreatFSex1
import Derived.Test.YtbaemdkdgghokaaGreatProg
namespace Go.Proofs.YtbaemdkdgghokaaGreat.M
open Go Go.MG Tryz
set_option linter.unusedVariables false
set_option linter.unusedSimpArgs false
set_option maxHeartbeats 8000000
set_option maxRecDepth 100000
/-! ### W_eqPairS -/
def W_eqPairS.l2 : Nat → (List T_Pair) → (List T_Pair) → Int → Option Bool
 | 0, _, _, _ => none
 | k2 + 1, v44, v45, v46 => cond (decide (v46 < (v44.length : Int))) ((at? v44 v46).bind fun b50 => (at? v45 v46).bind fun b51 => (W_eqPair k2 b50 b51).bind fun r52 => cond (!r52) (some false) ((W_eqPairS.l2 k2) v44 v45 (IntKind.i64.wrap (v46 + 1)))) (some true)
def W_eqPairS (k : Nat) (a0 a1 : List T_Pair) : Option Bool := cond ((a0.length : Int) != (a1.length : Int)) (some false) (W_eqPairS.l2 k a0 a1 0)
theorem ent179 : MG.Enters Tryz.prog 179 := en func179
theorem g179 (k : Nat) (g0 g1 : Bool) (a0 a1 : List T_Pair) (r : Bool) (H : W_eqPairS k a0 a1 = some r) : Gives Tryz.prog 179 [V.one (Cell.sl g0 (List.map eT_Pair a0)), V.one (Cell.sl g1 (List.map eT_Pair a1))] [] [V.one (cL r)] [] := by
 refine Gives.intro func179 rfl rfl rfl rfl ?_; refine fx fun w0 T S0 ob oh hm => ?_
 have hF := fxe w0 T S0 27 ob oh
 unfold W_eqPairS at H; obtain ⟨K, hK⟩ := leK k; refine sg 1 ?_; refine WpC.seq (sr ?_); refine mv ?_; refine L.lenR (xs := a0) (e := eT_Pair) underlying25 hF rfl rfl rfl rfl ?_; refine mv ?_; refine L.lenR (xs := a1) (e := eT_Pair) underlying25 hF rfl rfl rfl rfl ?_; refine gn 1 ?_; refine cd H (fun hc H => ?_) (fun hc H => ?_)
 ·refine sg 1 ?_; cases H; exact WpC.ret rt
 ·refine WpC.skip (WpC.seq (sr ?_)); refine gn 1 ?_; refine WpC.block ?_; refine WpC.loopL (P := Tryz.prog) (fun n σ => ∃ (v44 v45 : List T_Pair) (v46 : Int), n ≤ K ∧ W_eqPairS.l2 n v44 v45 v46 = some r ∧ σ = mkSt [(0, MG.one (Cell.sl g0 (List.map eT_Pair v44))), (1, MG.one (Cell.sl g1 (List.map eT_Pair v45))), (5, oI v46)] [] [] 0) k ⟨_, ⟨a0, a1, 0, by omega, H, rfl⟩, lm [] hm⟩ ?_; clear H
  rintro k2 _ ⟨v44, v45, v46, hk2, H, rfl⟩
  cases k2 with
  | zero => cases H
  | succ k2 =>
   rw [W_eqPairS.l2] at H
   refine WpC.seq (sr ?_); refine go 2 ?_; refine L.lenR (xs := v44) (e := eT_Pair) underlying25 hF rfl rfl rfl rfl ?_; refine gn 1 ?_; refine cd H (fun hc H => ?_) (fun hc H => ?_)
   ·refine WpC.skip (WpC.seq (WpC.block (WpC.seq ?_))); obtain ⟨b50, hb50, H⟩ := bindS H; obtain ⟨b51, hb51, H⟩ := bindS H; obtain ⟨r52, hr52, H⟩ := bindS H; refine A.begin mixed rfl rfl ?_; intro W hI hO
    have n255 : W 2 #[true, true, true, true, true, true, true, true, false, false] (mkSt [(0, MG.one (Cell.sl g0 (List.map eT_Pair v44))), (1, MG.one (Cell.sl g1 (List.map eT_Pair v45))), (5, oI v46), (20, agg [cI b50.A, cI b50.B]), (24, agg [cI b51.A, cI b51.B])] [] [] 0) := by
     refine hI _ _ _ ?_; refine A.all [8] (by kernel_rfl) rfl ⟨⟨_, rfl, ?_⟩, trivial⟩; refine c0 0 ent250 (g250 k2  b50 b51 r52 hr52) (L.nil ?_); refine Atk 9 rfl (Ca.un rfl rfl) (fun Q0 k0 => nt (L.nil k0)) ?_; refine A.le (τ := mkSt [(0, MG.one (Cell.sl g0 (List.map eT_Pair v44))), (1, MG.one (Cell.sl g1 (List.map eT_Pair v45))), (5, oI v46), (26, oL (!r52))] [] [] 0) (lm [] hm) ?_; refine A.done (by kernel_rfl) ?_; refine cd H (fun hc H => ?_) (fun hc H => ?_)
     ·refine sg 1 ?_; cases H; exact WpC.ret rt
     ·refine WpC.skip (WpC.regionL ?_); refine gn 3 ?_; exact ⟨k2, _, by omega, ⟨v44, v45, (IntKind.i64.wrap (v46 + 1)), by omega, H, rfl⟩, lm [] hm⟩
    refine hI _ _ _ ?_; refine tM 0 ?_; refine tM 1 ?_; refine Atk 2 rfl (Ca.indexAddr) (fun Q0 k0 => ix underlying25 info161 hb50 (L.nil k0)) ?_; refine tM 4 ?_; refine tM 5 ?_; refine Atk 6 rfl (Ca.indexAddr) (fun Q0 k0 => ix underlying25 info161 hb51 (L.nil k0)) ?_; refine A.all [3, 7] (by kernel_rfl) rfl ⟨⟨_, rfl, ?_⟩, ⟨_, rfl, ?_⟩, trivial⟩
    ·refine gn 1 ?_; refine A.all [7] (by kernel_rfl) rfl ⟨⟨_, rfl, ?_⟩, trivial⟩; refine gn 1 ?_; exact A.on (hO _ _ _ n255) (lm [] hm)
    ·refine gn 1 ?_; refine A.all [3] (by kernel_rfl) rfl ⟨⟨_, rfl, ?_⟩, trivial⟩; refine gn 1 ?_; exact A.on (hO _ _ _ n255) (lm [] hm)
   ·refine WpC.exit (sr ?_); refine gn 1 ?_; cases H; exact WpC.ret rt
/-! ### W_eqConfig -/
def W_eqConfig (k : Nat) (a0 a1 : T_Config) : Option Bool := (W_eqIntS k a0.UserRealm a1.UserRealm).bind fun r2 => cond (!r2) (some false) ((W_eqIntS k a0.ServiceRealm a1.ServiceRealm).bind fun r4 => cond (!r4) (some false) ((W_eqPairS k a0.Links a1.Links).bind fun r6 => cond (!r6) (some false) ((W_eqPairS k a0.Proxy a1.Proxy).bind fun r8 => cond (!r8) (some false) (cond (a0.Skew != a1.Skew) (some false) (some true)))))
theorem ent90 : MG.Enters Tryz.prog 90 := en func90
theorem g90 (k : Nat) (g0 g1 g2 g3 g4 g5 g6 g7 : Bool) (a0 a1 : T_Config) (r : Bool) (H : W_eqConfig k a0 a1 = some r) : Gives Tryz.prog 90 [V.agg (bT_Config g0 g1 g2 g3 a0), V.agg (bT_Config g4 g5 g6 g7 a1)] [] [V.one (cL r)] [] := by
 refine Gives.intro func90 rfl rfl rfl rfl ?_; refine fx fun w0 T S0 ob oh hm => ?_
 have hF := fxe w0 T S0 34 ob oh
 unfold W_eqConfig at H; obtain ⟨K, hK⟩ := leK k; refine sr ?_; refine bo 10 ?_; refine bo 11 ?_; refine gn 1 ?_; refine WpC.seq (sr ?_); refine go 4 ?_; refine cB 12 ent98 (g98 k g0 g4 a0.UserRealm a1.UserRealm) H fun r2 H => ?_; refine gn 1 ?_; refine cd H (fun hc H => ?_) (fun hc H => ?_)
 ·refine sg 1 ?_; cases H; exact WpC.ret rt
 ·refine WpC.skip (WpC.seq (sr ?_)); refine go 4 ?_; refine cB 13 ent98 (g98 k g1 g5 a0.ServiceRealm a1.ServiceRealm) H fun r4 H => ?_; refine gn 1 ?_; refine cd H (fun hc H => ?_) (fun hc H => ?_)
  ·refine sg 1 ?_; cases H; exact WpC.ret rt
  ·refine WpC.skip (WpC.seq (sr ?_)); refine go 4 ?_; refine cB 14 ent179 (g179 k g2 g6 a0.Links a1.Links) H fun r6 H => ?_; refine gn 1 ?_; refine cd H (fun hc H => ?_) (fun hc H => ?_)
   ·refine sg 1 ?_; cases H; exact WpC.ret rt
   ·refine WpC.skip (WpC.seq (sr ?_)); refine go 4 ?_; refine cB 15 ent179 (g179 k g3 g7 a0.Proxy a1.Proxy) H fun r8 H => ?_; refine gn 1 ?_; refine cd H (fun hc H => ?_) (fun hc H => ?_)
    ·refine sg 1 ?_; cases H; exact WpC.ret rt
    ·refine WpC.skip (WpC.seq (sr ?_)); refine gn 5 ?_; refine cd H (fun hc H => ?_) (fun hc H => ?_)
     ·refine sg 1 ?_; cases H; exact WpC.ret rt
     ·refine WpC.skip (sr ?_); refine gn 1 ?_; cases H; exact WpC.ret rt
/-! ### W_eqStringS -/
def W_eqStringS.l2 : Nat → (List (List UInt8)) → (List (List UInt8)) → Int → Option Bool
 | 0, _, _, _ => none
 | k2 + 1, v34, v35, v36 => cond (decide (v36 < (v34.length : Int))) ((at? v34 v36).bind fun b39 => (at? v35 v36).bind fun b40 => cond (b39 != b40) (some false) ((W_eqStringS.l2 k2) v34 v35 (IntKind.i64.wrap (v36 + 1)))) (some true)
def W_eqStringS (k : Nat) (a0 : List (List UInt8)) (a1 : List (List UInt8)) : Option Bool := cond ((a0.length : Int) != (a1.length : Int)) (some false) (W_eqStringS.l2 k a0 a1 0)
theorem ent91 : MG.Enters Tryz.prog 91 := en func91
theorem g91 (k : Nat) (g0 g1 : Bool) (a0 : List (List UInt8)) (a1 : List (List UInt8)) (r : Bool) (H : W_eqStringS k a0 a1 = some r) : Gives Tryz.prog 91 [V.one (Cell.sl g0 (List.map eS a0)), V.one (Cell.sl g1 (List.map eS a1))] [] [V.one (cL r)] [] := by
 refine Gives.intro func91 rfl rfl rfl rfl ?_; refine fx fun w0 T S0 ob oh hm => ?_
 have hF := fxe w0 T S0 26 ob oh
 unfold W_eqStringS at H; obtain ⟨K, hK⟩ := leK k; refine sg 1 ?_; refine WpC.seq (sr ?_); refine mv ?_; refine L.lenR (xs := a0) (e := eS) underlying34 hF rfl rfl rfl rfl ?_; refine mv ?_; refine L.lenR (xs := a1) (e := eS) underlying34 hF rfl rfl rfl rfl ?_; refine gn 1 ?_; refine cd H (fun hc H => ?_) (fun hc H => ?_)
 ·refine sg 1 ?_; cases H; exact WpC.ret rt
 ·refine WpC.skip (WpC.seq (sr ?_)); refine gn 1 ?_; refine WpC.block ?_; refine WpC.loopL (P := Tryz.prog) (fun n σ => ∃ (v34 v35 : List (List UInt8)) (v36 : Int), n ≤ K ∧ W_eqStringS.l2 n v34 v35 v36 = some r ∧ σ = mkSt [(0, MG.one (Cell.sl g0 (List.map eS v34))), (1, MG.one (Cell.sl g1 (List.map eS v35))), (5, oI v36)] [] [] 0) k ⟨_, ⟨a0, a1, 0, by omega, H, rfl⟩, lm [] hm⟩ ?_; clear H
  rintro k2 _ ⟨v34, v35, v36, hk2, H, rfl⟩
  cases k2 with
  | zero => cases H
  | succ k2 =>
   rw [W_eqStringS.l2] at H
   refine WpC.seq (sr ?_); refine go 2 ?_; refine L.lenR (xs := v34) (e := eS) underlying34 hF rfl rfl rfl rfl ?_; refine gn 1 ?_; refine cd H (fun hc H => ?_) (fun hc H => ?_)
   ·refine WpC.skip (WpC.seq (WpC.block (WpC.seq ?_))); refine S.begin mixed (by kernel_rfl) ?_; refine S.st 0 rfl rfl ((Ca.move).quiet) (fun Q0 k0 => mv (L.nil k0)) ?_; refine S.st 1 rfl rfl ((Ca.move).quiet) (fun Q0 k0 => mv (L.nil k0)) ?_; obtain ⟨b39, hb39, H⟩ := bindS H; refine S.st 2 rfl rfl ((Ca.indexAddr).quiet) (fun Q0 k0 => ix underlying34 info9 hb39 (L.nil k0)) ?_; refine S.st 3 rfl rfl (Qu.load) (fun Q0 k0 => le shape9 (L.nil k0)) ?_; refine S.st 4 rfl rfl ((Ca.move).quiet) (fun Q0 k0 => mv (L.nil k0)) ?_; refine S.st 5 rfl rfl ((Ca.move).quiet) (fun Q0 k0 => mv (L.nil k0)) ?_; obtain ⟨b40, hb40, H⟩ := bindS H; refine S.st 6 rfl rfl ((Ca.indexAddr).quiet) (fun Q0 k0 => ix underlying34 info9 hb40 (L.nil k0)) ?_; refine S.st 7 rfl rfl (Qu.load) (fun Q0 k0 => le shape9 (L.nil k0)) ?_; refine S.st 8 rfl rfl ((Ca.bin rfl rfl (calm_str _ _ _ _ _ _)).quiet) (fun Q0 k0 => L.binS hF rfl rfl rfl rfl rfl (L.nil k0)) ?_; refine S.nil ?_; refine cd H (fun hc H => ?_) (fun hc H => ?_)
    ·refine sg 1 ?_; cases H; exact WpC.ret rt
    ·refine WpC.skip (WpC.regionL ?_); refine gn 3 ?_; exact ⟨k2, _, by omega, ⟨v34, v35, (IntKind.i64.wrap (v36 + 1)), by omega, H, rfl⟩, lm [] hm⟩
   ·refine WpC.exit (sr ?_); refine gn 1 ?_; cases H; exact WpC.ret rt
/-! ### W_eqKnown -/
def W_eqKnown (k : Nat) (a0 a1 : T_Known) : Option Bool := (W_eqStringS k a0.Terms a1.Terms).bind fun r2 => cond (!r2) (some false) ((W_eqIntS k a0.Keys a1.Keys).bind fun r4 => cond (!r4) (some false) (some true))
theorem ent92 : MG.Enters Tryz.prog 92 := en func92
theorem g92 (k : Nat) (g0 g1 g2 g3 : Bool) (a0 a1 : T_Known) (r : Bool) (H : W_eqKnown k a0 a1 = some r) : Gives Tryz.prog 92 [V.agg [Cell.sl g0 (List.map eS a0.Terms), Cell.sl g1 (List.map eI a0.Keys)], V.agg [Cell.sl g2 (List.map eS a1.Terms), Cell.sl g3 (List.map eI a1.Keys)]] [] [V.one (cL r)] [] := by
 refine Gives.intro func92 rfl rfl rfl rfl ?_; refine fx fun w0 T S0 ob oh hm => ?_
 have hF := fxe w0 T S0 17 ob oh
 unfold W_eqKnown at H; obtain ⟨K, hK⟩ := leK k; refine sr ?_; refine bo 4 ?_; refine bo 5 ?_; refine gn 1 ?_; refine WpC.seq (sr ?_); refine go 4 ?_; refine cB 6 ent91 (g91 k g0 g2 a0.Terms a1.Terms) H fun r2 H => ?_; refine gn 1 ?_; refine cd H (fun hc H => ?_) (fun hc H => ?_)
 ·refine sg 1 ?_; cases H; exact WpC.ret rt
 ·refine WpC.skip (WpC.seq (sr ?_)); refine go 4 ?_; refine cB 7 ent98 (g98 k g1 g3 a0.Keys a1.Keys) H fun r4 H => ?_; refine gn 1 ?_; refine cd H (fun hc H => ?_) (fun hc H => ?_)
  ·refine sg 1 ?_; cases H; exact WpC.ret rt
  ·refine WpC.skip (sr ?_); refine gn 1 ?_; cases H; exact WpC.ret rt
/-! ### W_eqWait -/
def W_eqWait (k : Nat) (a0 a1 : T_Wait) : Option Bool := cond (a0.On != a1.On) (some false) (cond (a0.Nonce != a1.Nonce) (some false) (cond (a0.Key != a1.Key) (some false) (cond (a0.Client != a1.Client) (some false) (some true))))
theorem ent180 : MG.Enters Tryz.prog 180 := en func180
theorem g180 (k : Nat) (a0 a1 : T_Wait) (r : Bool) (H : W_eqWait k a0 a1 = some r) : Gives Tryz.prog 180 [V.agg (bT_Wait a0), V.agg (bT_Wait a1)] [] [V.one (cL r)] [] := by
 refine Gives.intro func180 rfl rfl rfl rfl ?_; refine fx fun w0 T S0 ob oh hm => ?_
 have hF := fxe w0 T S0 25 ob oh
 unfold W_eqWait at H; obtain ⟨K, hK⟩ := leK k; refine sr ?_; refine bo 8 ?_; refine bo 9 ?_; refine gn 1 ?_; refine WpC.seq (sr ?_); refine go 4 ?_; refine L.neL underlying4 hF rfl rfl rfl rfl (L.nil ?_); refine cd H (fun hc H => ?_) (fun hc H => ?_)
 ·refine sg 1 ?_; cases H; exact WpC.ret rt
 ·refine WpC.skip (WpC.seq (sr ?_)); refine gn 5 ?_; refine cd H (fun hc H => ?_) (fun hc H => ?_)
  ·refine sg 1 ?_; cases H; exact WpC.ret rt
  ·refine WpC.skip (WpC.seq (sr ?_)); refine gn 5 ?_; refine cd H (fun hc H => ?_) (fun hc H => ?_)
   ·refine sg 1 ?_; cases H; exact WpC.ret rt
   ·refine WpC.skip (WpC.seq (sr ?_)); refine gn 5 ?_; refine cd H (fun hc H => ?_) (fun hc H => ?_)
    ·refine sg 1 ?_; cases H; exact WpC.ret rt
    ·refine WpC.skip (sr ?_); refine gn 1 ?_; cases H; exact WpC.ret rt
/-! ### W_eqWaitS -/
def W_eqWaitS.l2 : Nat → (List T_Wait) → (List T_Wait) → Int → Option Bool
 | 0, _, _, _ => none
 | k2 + 1, v44, v45, v46 => cond (decide (v46 < (v44.length : Int))) ((at? v44 v46).bind fun b50 => (at? v45 v46).bind fun b51 => (W_eqWait k2 b50 b51).bind fun r52 => cond (!r52) (some false) ((W_eqWaitS.l2 k2) v44 v45 (IntKind.i64.wrap (v46 + 1)))) (some true)
def W_eqWaitS (k : Nat) (a0 a1 : List T_Wait) : Option Bool := cond ((a0.length : Int) != (a1.length : Int)) (some false) (W_eqWaitS.l2 k a0 a1 0)
theorem ent93 : MG.Enters Tryz.prog 93 := en func93
theorem g93 (k : Nat) (g0 g1 : Bool) (a0 a1 : List T_Wait) (r : Bool) (H : W_eqWaitS k a0 a1 = some r) : Gives Tryz.prog 93 [V.one (Cell.sl g0 (List.map eT_Wait a0)), V.one (Cell.sl g1 (List.map eT_Wait a1))] [] [V.one (cL r)] [] := by
 refine Gives.intro func93 rfl rfl rfl rfl ?_; refine fx fun w0 T S0 ob oh hm => ?_
 have hF := fxe w0 T S0 27 ob oh
 unfold W_eqWaitS at H; obtain ⟨K, hK⟩ := leK k; refine sg 1 ?_; refine WpC.seq (sr ?_); refine mv ?_; refine L.lenR (xs := a0) (e := eT_Wait) underlying37 hF rfl rfl rfl rfl ?_; refine mv ?_; refine L.lenR (xs := a1) (e := eT_Wait) underlying37 hF rfl rfl rfl rfl ?_; refine gn 1 ?_; refine cd H (fun hc H => ?_) (fun hc H => ?_)
 ·refine sg 1 ?_; cases H; exact WpC.ret rt
 ·refine WpC.skip (WpC.seq (sr ?_)); refine gn 1 ?_; refine WpC.block ?_; refine WpC.loopL (P := Tryz.prog) (fun n σ => ∃ (v44 v45 : List T_Wait) (v46 : Int), n ≤ K ∧ W_eqWaitS.l2 n v44 v45 v46 = some r ∧ σ = mkSt [(0, MG.one (Cell.sl g0 (List.map eT_Wait v44))), (1, MG.one (Cell.sl g1 (List.map eT_Wait v45))), (5, oI v46)] [] [] 0) k ⟨_, ⟨a0, a1, 0, by omega, H, rfl⟩, lm [] hm⟩ ?_; clear H
  rintro k2 _ ⟨v44, v45, v46, hk2, H, rfl⟩
  cases k2 with
  | zero => cases H
  | succ k2 =>
   rw [W_eqWaitS.l2] at H
   refine WpC.seq (sr ?_); refine go 2 ?_; refine L.lenR (xs := v44) (e := eT_Wait) underlying37 hF rfl rfl rfl rfl ?_; refine gn 1 ?_; refine cd H (fun hc H => ?_) (fun hc H => ?_)
   ·refine WpC.skip (WpC.seq (WpC.block (WpC.seq ?_))); obtain ⟨b50, hb50, H⟩ := bindS H; obtain ⟨b51, hb51, H⟩ := bindS H; obtain ⟨r52, hr52, H⟩ := bindS H; refine A.begin mixed rfl rfl ?_; intro W hI hO
    have n255 : W 2 #[true, true, true, true, true, true, true, true, false, false] (mkSt [(0, MG.one (Cell.sl g0 (List.map eT_Wait v44))), (1, MG.one (Cell.sl g1 (List.map eT_Wait v45))), (5, oI v46), (20, agg (bT_Wait b50)), (24, agg (bT_Wait b51))] [] [] 0) := by
     refine hI _ _ _ ?_; refine A.all [8] (by kernel_rfl) rfl ⟨⟨_, rfl, ?_⟩, trivial⟩; refine c0 0 ent180 (g180 k2  b50 b51 r52 hr52) (L.nil ?_); refine Atk 9 rfl (Ca.un rfl rfl) (fun Q0 k0 => nt (L.nil k0)) ?_; refine A.le (τ := mkSt [(0, MG.one (Cell.sl g0 (List.map eT_Wait v44))), (1, MG.one (Cell.sl g1 (List.map eT_Wait v45))), (5, oI v46), (26, oL (!r52))] [] [] 0) (lm [] hm) ?_; refine A.done (by kernel_rfl) ?_; refine cd H (fun hc H => ?_) (fun hc H => ?_)
     ·refine sg 1 ?_; cases H; exact WpC.ret rt
     ·refine WpC.skip (WpC.regionL ?_); refine gn 3 ?_; exact ⟨k2, _, by omega, ⟨v44, v45, (IntKind.i64.wrap (v46 + 1)), by omega, H, rfl⟩, lm [] hm⟩
    refine hI _ _ _ ?_; refine tM 0 ?_; refine tM 1 ?_; refine Atk 2 rfl (Ca.indexAddr) (fun Q0 k0 => ix underlying37 info198 hb50 (L.nil k0)) ?_; refine tM 4 ?_; refine tM 5 ?_; refine Atk 6 rfl (Ca.indexAddr) (fun Q0 k0 => ix underlying37 info198 hb51 (L.nil k0)) ?_; refine A.all [3, 7] (by kernel_rfl) rfl ⟨⟨_, rfl, ?_⟩, ⟨_, rfl, ?_⟩, trivial⟩
    ·refine gn 1 ?_; refine A.all [7] (by kernel_rfl) rfl ⟨⟨_, rfl, ?_⟩, trivial⟩; refine gn 1 ?_; exact A.on (hO _ _ _ n255) (lm [] hm)
    ·refine gn 1 ?_; refine A.all [3] (by kernel_rfl) rfl ⟨⟨_, rfl, ?_⟩, trivial⟩; refine gn 1 ?_; exact A.on (hO _ _ _ n255) (lm [] hm)
   ·refine WpC.exit (sr ?_); refine gn 1 ?_; cases H; exact WpC.ret rt
/-! ### W_eqRest -/
def W_eqRest (k : Nat) (a0 a1 : T_Rest) : Option Bool := cond (a0.Servers != a1.Servers) (some false) (cond (a0.Ops != a1.Ops) (some false) (cond (a0.End != a1.End) (some false) (some true)))
theorem ent251 : MG.Enters Tryz.prog 251 := en func251
theorem g251 (k : Nat) (a0 a1 : T_Rest) (r : Bool) (H : W_eqRest k a0 a1 = some r) : Gives Tryz.prog 251 [V.agg (bT_Rest a0), V.agg (bT_Rest a1)] [] [V.one (cL r)] [] := by
 refine Gives.intro func251 rfl rfl rfl rfl ?_; refine fx fun w0 T S0 ob oh hm => ?_
 have hF := fxe w0 T S0 20 ob oh
 unfold W_eqRest at H; obtain ⟨K, hK⟩ := leK k; refine sr ?_; refine bo 6 ?_; refine bo 7 ?_; refine gn 1 ?_; refine WpC.seq (sr ?_); refine gn 5 ?_; refine cd H (fun hc H => ?_) (fun hc H => ?_)
 ·refine sg 1 ?_; cases H; exact WpC.ret rt
 ·refine WpC.skip (WpC.seq (sr ?_)); refine gn 5 ?_; refine cd H (fun hc H => ?_) (fun hc H => ?_)
  ·refine sg 1 ?_; cases H; exact WpC.ret rt
  ·refine WpC.skip (WpC.seq (sr ?_)); refine gn 5 ?_; refine cd H (fun hc H => ?_) (fun hc H => ?_)
   ·refine sg 1 ?_; cases H; exact WpC.ret rt
   ·refine WpC.skip (sr ?_); refine gn 1 ?_; cases H; exact WpC.ret rt
/-! ### W_eqCred -/
def W_eqCred (k : Nat) (a0 a1 : T_Cred) : Option Bool := cond (a0.Owner != a1.Owner) (some false) (cond (a0.Client != a1.Client) (some false) (cond (a0.Service != a1.Service) (some false) (cond (a0.Key != a1.Key) (some false) ((W_eqRest k a0.Rest a1.Rest).bind fun r2 => cond (!r2) (some false) (cond (a0.Ticket != a1.Ticket) (some false) (some true))))))
theorem ent181 : MG.Enters Tryz.prog 181 := en func181
theorem g181 (k : Nat) (a0 a1 : T_Cred) (r : Bool) (H : W_eqCred k a0 a1 = some r) : Gives Tryz.prog 181 [V.agg (bT_Cred a0), V.agg (bT_Cred a1)] [] [V.one (cL r)] [] := by
 refine Gives.intro func181 rfl rfl rfl rfl ?_; refine fx fun w0 T S0 ob oh hm => ?_
 have hF := fxe w0 T S0 36 ob oh
 unfold W_eqCred at H; obtain ⟨K, hK⟩ := leK k; refine sr ?_; refine bo 16 ?_; refine bo 17 ?_; refine gn 1 ?_; refine WpC.seq (sr ?_); refine gn 5 ?_; refine cd H (fun hc H => ?_) (fun hc H => ?_)
 ·refine sg 1 ?_; cases H; exact WpC.ret rt
 ·refine WpC.skip (WpC.seq (sr ?_)); refine gn 5 ?_; refine cd H (fun hc H => ?_) (fun hc H => ?_)
  ·refine sg 1 ?_; cases H; exact WpC.ret rt
  ·refine WpC.skip (WpC.seq (sr ?_)); refine gn 5 ?_; refine cd H (fun hc H => ?_) (fun hc H => ?_)
   ·refine sg 1 ?_; cases H; exact WpC.ret rt
   ·refine WpC.skip (WpC.seq (sr ?_)); refine gn 5 ?_; refine cd H (fun hc H => ?_) (fun hc H => ?_)
    ·refine sg 1 ?_; cases H; exact WpC.ret rt
    ·refine WpC.skip (WpC.seq (sr ?_)); refine go 4 ?_; refine cB 18 ent251 (g251 k  a0.Rest a1.Rest) H fun r2 H => ?_; refine gn 1 ?_; refine cd H (fun hc H => ?_) (fun hc H => ?_)
     ·refine sg 1 ?_; cases H; exact WpC.ret rt
     ·refine WpC.skip (WpC.seq (sr ?_)); refine go 4 ?_; refine L.binS hF rfl rfl rfl rfl rfl (L.nil ?_); refine cd H (fun hc H => ?_) (fun hc H => ?_)
      ·refine sg 1 ?_; cases H; exact WpC.ret rt
      ·refine WpC.skip (sr ?_); refine gn 1 ?_; cases H; exact WpC.ret rt
/-! ### W_eqCredS -/
def W_eqCredS.l2 : Nat → (List T_Cred) → (List T_Cred) → Int → Option Bool
 | 0, _, _, _ => none
 | k2 + 1, v44, v45, v46 => cond (decide (v46 < (v44.length : Int))) ((at? v44 v46).bind fun b50 => (at? v45 v46).bind fun b51 => (W_eqCred k2 b50 b51).bind fun r52 => cond (!r52) (some false) ((W_eqCredS.l2 k2) v44 v45 (IntKind.i64.wrap (v46 + 1)))) (some true)
def W_eqCredS (k : Nat) (a0 a1 : List T_Cred) : Option Bool := cond ((a0.length : Int) != (a1.length : Int)) (some false) (W_eqCredS.l2 k a0 a1 0)
theorem ent94 : MG.Enters Tryz.prog 94 := en func94
theorem g94 (k : Nat) (g0 g1 : Bool) (a0 a1 : List T_Cred) (r : Bool) (H : W_eqCredS k a0 a1 = some r) : Gives Tryz.prog 94 [V.one (Cell.sl g0 (List.map eT_Cred a0)), V.one (Cell.sl g1 (List.map eT_Cred a1))] [] [V.one (cL r)] [] := by
 refine Gives.intro func94 rfl rfl rfl rfl ?_; refine fx fun w0 T S0 ob oh hm => ?_
 have hF := fxe w0 T S0 27 ob oh
 unfold W_eqCredS at H; obtain ⟨K, hK⟩ := leK k; refine sg 1 ?_; refine WpC.seq (sr ?_); refine mv ?_; refine L.lenR (xs := a0) (e := eT_Cred) underlying38 hF rfl rfl rfl rfl ?_; refine mv ?_; refine L.lenR (xs := a1) (e := eT_Cred) underlying38 hF rfl rfl rfl rfl ?_; refine gn 1 ?_; refine cd H (fun hc H => ?_) (fun hc H => ?_)
 ·refine sg 1 ?_; cases H; exact WpC.ret rt
 ·refine WpC.skip (WpC.seq (sr ?_)); refine gn 1 ?_; refine WpC.block ?_; refine WpC.loopL (P := Tryz.prog) (fun n σ => ∃ (v44 v45 : List T_Cred) (v46 : Int), n ≤ K ∧ W_eqCredS.l2 n v44 v45 v46 = some r ∧ σ = mkSt [(0, MG.one (Cell.sl g0 (List.map eT_Cred v44))), (1, MG.one (Cell.sl g1 (List.map eT_Cred v45))), (5, oI v46)] [] [] 0) k ⟨_, ⟨a0, a1, 0, by omega, H, rfl⟩, lm [] hm⟩ ?_; clear H
  rintro k2 _ ⟨v44, v45, v46, hk2, H, rfl⟩
  cases k2 with
  | zero => cases H
  | succ k2 =>
   rw [W_eqCredS.l2] at H
   refine WpC.seq (sr ?_); refine go 2 ?_; refine L.lenR (xs := v44) (e := eT_Cred) underlying38 hF rfl rfl rfl rfl ?_; refine gn 1 ?_; refine cd H (fun hc H => ?_) (fun hc H => ?_)
   ·refine WpC.skip (WpC.seq (WpC.block (WpC.seq ?_))); obtain ⟨b50, hb50, H⟩ := bindS H; obtain ⟨b51, hb51, H⟩ := bindS H; obtain ⟨r52, hr52, H⟩ := bindS H; refine A.begin mixed rfl rfl ?_; intro W hI hO
    have n255 : W 2 #[true, true, true, true, true, true, true, true, false, false] (mkSt [(0, MG.one (Cell.sl g0 (List.map eT_Cred v44))), (1, MG.one (Cell.sl g1 (List.map eT_Cred v45))), (5, oI v46), (20, agg (bT_Cred b50)), (24, agg (bT_Cred b51))] [] [] 0) := by
     refine hI _ _ _ ?_; refine A.all [8] (by kernel_rfl) rfl ⟨⟨_, rfl, ?_⟩, trivial⟩; refine c0 0 ent181 (g181 k2  b50 b51 r52 hr52) (L.nil ?_); refine Atk 9 rfl (Ca.un rfl rfl) (fun Q0 k0 => nt (L.nil k0)) ?_; refine A.le (τ := mkSt [(0, MG.one (Cell.sl g0 (List.map eT_Cred v44))), (1, MG.one (Cell.sl g1 (List.map eT_Cred v45))), (5, oI v46), (26, oL (!r52))] [] [] 0) (lm [] hm) ?_; refine A.done (by kernel_rfl) ?_; refine cd H (fun hc H => ?_) (fun hc H => ?_)
     ·refine sg 1 ?_; cases H; exact WpC.ret rt
     ·refine WpC.skip (WpC.regionL ?_); refine gn 3 ?_; exact ⟨k2, _, by omega, ⟨v44, v45, (IntKind.i64.wrap (v46 + 1)), by omega, H, rfl⟩, lm [] hm⟩
    refine hI _ _ _ ?_; refine tM 0 ?_; refine tM 1 ?_; refine Atk 2 rfl (Ca.indexAddr) (fun Q0 k0 => ix underlying38 info201 hb50 (L.nil k0)) ?_; refine tM 4 ?_; refine tM 5 ?_; refine Atk 6 rfl (Ca.indexAddr) (fun Q0 k0 => ix underlying38 info201 hb51 (L.nil k0)) ?_; refine A.all [3, 7] (by kernel_rfl) rfl ⟨⟨_, rfl, ?_⟩, ⟨_, rfl, ?_⟩, trivial⟩
    ·refine gn 1 ?_; refine A.all [7] (by kernel_rfl) rfl ⟨⟨_, rfl, ?_⟩, trivial⟩; refine gn 1 ?_; exact A.on (hO _ _ _ n255) (lm [] hm)
    ·refine gn 1 ?_; refine A.all [3] (by kernel_rfl) rfl ⟨⟨_, rfl, ?_⟩, trivial⟩; refine gn 1 ?_; exact A.on (hO _ _ _ n255) (lm [] hm)
   ·refine WpC.exit (sr ?_); refine gn 1 ?_; cases H; exact WpC.ret rt
/-! ### W_eqAuth -/
def W_eqAuth (k : Nat) (a0 a1 : T_Auth) : Option Bool := cond (a0.Client != a1.Client) (some false) (cond (a0.Time != a1.Time) (some false) (cond (a0.Seq != a1.Seq) (some false) (some true)))
theorem ent253 : MG.Enters Tryz.prog 253 := en func253
theorem g253 (k : Nat) (a0 a1 : T_Auth) (r : Bool) (H : W_eqAuth k a0 a1 = some r) : Gives Tryz.prog 253 [V.agg (bT_Auth a0), V.agg (bT_Auth a1)] [] [V.one (cL r)] [] := by
 refine Gives.intro func253 rfl rfl rfl rfl ?_; refine fx fun w0 T S0 ob oh hm => ?_
 have hF := fxe w0 T S0 20 ob oh
 unfold W_eqAuth at H; obtain ⟨K, hK⟩ := leK k; refine sr ?_; refine bo 6 ?_; refine bo 7 ?_; refine gn 1 ?_; refine WpC.seq (sr ?_); refine gn 5 ?_; refine cd H (fun hc H => ?_) (fun hc H => ?_)
 ·refine sg 1 ?_; cases H; exact WpC.ret rt
 ·refine WpC.skip (WpC.seq (sr ?_)); refine gn 5 ?_; refine cd H (fun hc H => ?_) (fun hc H => ?_)
  ·refine sg 1 ?_; cases H; exact WpC.ret rt
  ·refine WpC.skip (WpC.seq (sr ?_)); refine gn 5 ?_; refine cd H (fun hc H => ?_) (fun hc H => ?_)
   ·refine sg 1 ?_; cases H; exact WpC.ret rt
   ·refine WpC.skip (sr ?_); refine gn 1 ?_; cases H; exact WpC.ret rt
/-! ### W_eqAuthS -/
def W_eqAuthS.l2 : Nat → (List T_Auth) → (List T_Auth) → Int → Option Bool
 | 0, _, _, _ => none
 | k2 + 1, v44, v45, v46 => cond (decide (v46 < (v44.length : Int))) ((at? v44 v46).bind fun b50 => (at? v45 v46).bind fun b51 => (W_eqAuth k2 b50 b51).bind fun r52 => cond (!r52) (some false) ((W_eqAuthS.l2 k2) v44 v45 (IntKind.i64.wrap (v46 + 1)))) (some true)
def W_eqAuthS (k : Nat) (a0 a1 : List T_Auth) : Option Bool := cond ((a0.length : Int) != (a1.length : Int)) (some false) (W_eqAuthS.l2 k a0 a1 0)
theorem ent252 : MG.Enters Tryz.prog 252 := en func252
theorem g252 (k : Nat) (g0 g1 : Bool) (a0 a1 : List T_Auth) (r : Bool) (H : W_eqAuthS k a0 a1 = some r) : Gives Tryz.prog 252 [V.one (Cell.sl g0 (List.map eT_Auth a0)), V.one (Cell.sl g1 (List.map eT_Auth a1))] [] [V.one (cL r)] [] := by
 refine Gives.intro func252 rfl rfl rfl rfl ?_; refine fx fun w0 T S0 ob oh hm => ?_
 have hF := fxe w0 T S0 27 ob oh
 unfold W_eqAuthS at H; obtain ⟨K, hK⟩ := leK k; refine sg 1 ?_; refine WpC.seq (sr ?_); refine mv ?_; refine L.lenR (xs := a0) (e := eT_Auth) underlying168 hF rfl rfl rfl rfl ?_; refine mv ?_; refine L.lenR (xs := a1) (e := eT_Auth) underlying168 hF rfl rfl rfl rfl ?_; refine gn 1 ?_; refine cd H (fun hc H => ?_) (fun hc H => ?_)
 ·refine sg 1 ?_; cases H; exact WpC.ret rt
 ·refine WpC.skip (WpC.seq (sr ?_)); refine gn 1 ?_; refine WpC.block ?_; refine WpC.loopL (P := Tryz.prog) (fun n σ => ∃ (v44 v45 : List T_Auth) (v46 : Int), n ≤ K ∧ W_eqAuthS.l2 n v44 v45 v46 = some r ∧ σ = mkSt [(0, MG.one (Cell.sl g0 (List.map eT_Auth v44))), (1, MG.one (Cell.sl g1 (List.map eT_Auth v45))), (5, oI v46)] [] [] 0) k ⟨_, ⟨a0, a1, 0, by omega, H, rfl⟩, lm [] hm⟩ ?_; clear H
  rintro k2 _ ⟨v44, v45, v46, hk2, H, rfl⟩
  cases k2 with
  | zero => cases H
  | succ k2 =>
   rw [W_eqAuthS.l2] at H
   refine WpC.seq (sr ?_); refine go 2 ?_; refine L.lenR (xs := v44) (e := eT_Auth) underlying168 hF rfl rfl rfl rfl ?_; refine gn 1 ?_; refine cd H (fun hc H => ?_) (fun hc H => ?_)
   ·refine WpC.skip (WpC.seq (WpC.block (WpC.seq ?_))); obtain ⟨b50, hb50, H⟩ := bindS H; obtain ⟨b51, hb51, H⟩ := bindS H; obtain ⟨r52, hr52, H⟩ := bindS H; refine A.begin mixed rfl rfl ?_; intro W hI hO
    have n255 : W 2 #[true, true, true, true, true, true, true, true, false, false] (mkSt [(0, MG.one (Cell.sl g0 (List.map eT_Auth v44))), (1, MG.one (Cell.sl g1 (List.map eT_Auth v45))), (5, oI v46), (20, agg (bT_Auth b50)), (24, agg (bT_Auth b51))] [] [] 0) := by
     refine hI _ _ _ ?_; refine A.all [8] (by kernel_rfl) rfl ⟨⟨_, rfl, ?_⟩, trivial⟩; refine c0 0 ent253 (g253 k2  b50 b51 r52 hr52) (L.nil ?_); refine Atk 9 rfl (Ca.un rfl rfl) (fun Q0 k0 => nt (L.nil k0)) ?_; refine A.le (τ := mkSt [(0, MG.one (Cell.sl g0 (List.map eT_Auth v44))), (1, MG.one (Cell.sl g1 (List.map eT_Auth v45))), (5, oI v46), (26, oL (!r52))] [] [] 0) (lm [] hm) ?_; refine A.done (by kernel_rfl) ?_; refine cd H (fun hc H => ?_) (fun hc H => ?_)
     ·refine sg 1 ?_; cases H; exact WpC.ret rt
     ·refine WpC.skip (WpC.regionL ?_); refine gn 3 ?_; exact ⟨k2, _, by omega, ⟨v44, v45, (IntKind.i64.wrap (v46 + 1)), by omega, H, rfl⟩, lm [] hm⟩
    refine hI _ _ _ ?_; refine tM 0 ?_; refine tM 1 ?_; refine Atk 2 rfl (Ca.indexAddr) (fun Q0 k0 => ix underlying168 info72 hb50 (L.nil k0)) ?_; refine tM 4 ?_; refine tM 5 ?_; refine Atk 6 rfl (Ca.indexAddr) (fun Q0 k0 => ix underlying168 info72 hb51 (L.nil k0)) ?_; refine A.all [3, 7] (by kernel_rfl) rfl ⟨⟨_, rfl, ?_⟩, ⟨_, rfl, ?_⟩, trivial⟩
    ·refine gn 1 ?_; refine A.all [7] (by kernel_rfl) rfl ⟨⟨_, rfl, ?_⟩, trivial⟩; refine gn 1 ?_; exact A.on (hO _ _ _ n255) (lm [] hm)
    ·refine gn 1 ?_; refine A.all [3] (by kernel_rfl) rfl ⟨⟨_, rfl, ?_⟩, trivial⟩; refine gn 1 ?_; exact A.on (hO _ _ _ n255) (lm [] hm)
   ·refine WpC.exit (sr ?_); refine gn 1 ?_; cases H; exact WpC.ret rt
/-! ### W_eqCache -/
def W_eqCache (k : Nat) (a0 a1 : T_Cache) : Option Bool := cond (a0.Quiet != a1.Quiet) (some false) ((W_eqAuthS k a0.Seen a1.Seen).bind fun r2 => cond (!r2) (some false) (some true))
theorem ent182 : MG.Enters Tryz.prog 182 := en func182
theorem g182 (k : Nat) (g0 g1 : Bool) (a0 a1 : T_Cache) (r : Bool) (H : W_eqCache k a0 a1 = some r) : Gives Tryz.prog 182 [V.agg [cI a0.Quiet, Cell.sl g0 (List.map eT_Auth a0.Seen)], V.agg [cI a1.Quiet, Cell.sl g1 (List.map eT_Auth a1.Seen)]] [] [V.one (cL r)] [] := by
 refine Gives.intro func182 rfl rfl rfl rfl ?_; refine fx fun w0 T S0 ob oh hm => ?_
 have hF := fxe w0 T S0 16 ob oh
 unfold W_eqCache at H; obtain ⟨K, hK⟩ := leK k; refine sr ?_; refine bo 4 ?_; refine bo 5 ?_; refine gn 1 ?_; refine WpC.seq (sr ?_); refine gn 5 ?_; refine cd H (fun hc H => ?_) (fun hc H => ?_)
 ·refine sg 1 ?_; cases H; exact WpC.ret rt
 ·refine WpC.skip (WpC.seq (sr ?_)); refine go 4 ?_; refine cB 6 ent252 (g252 k g0 g1 a0.Seen a1.Seen) H fun r2 H => ?_; refine gn 1 ?_; refine cd H (fun hc H => ?_) (fun hc H => ?_)
  ·refine sg 1 ?_; cases H; exact WpC.ret rt
  ·refine WpC.skip (sr ?_); refine gn 1 ?_; cases H; exact WpC.ret rt
/-! ### W_eqCacheS -/
def W_eqCacheS.l2 : Nat → (List T_Cache) → (List T_Cache) → Int → Option Bool
 | 0, _, _, _ => none
 | k2 + 1, v44, v45, v46 => cond (decide (v46 < (v44.length : Int))) ((at? v44 v46).bind fun b50 => (at? v45 v46).bind fun b51 => (W_eqCache k2 b50 b51).bind fun r52 => cond (!r52) (some false) ((W_eqCacheS.l2 k2) v44 v45 (IntKind.i64.wrap (v46 + 1)))) (some true)
def W_eqCacheS (k : Nat) (a0 a1 : List T_Cache) : Option Bool := cond ((a0.length : Int) != (a1.length : Int)) (some false) (W_eqCacheS.l2 k a0 a1 0)
theorem ent95 : MG.Enters Tryz.prog 95 := en func95
theorem g95 (k : Nat) (g0 g1 : Bool) (a0 a1 : List T_Cache) (r : Bool) (H : W_eqCacheS k a0 a1 = some r) : Gives Tryz.prog 95 [V.one (Cell.sl g0 (List.map eT_Cache a0)), V.one (Cell.sl g1 (List.map eT_Cache a1))] [] [V.one (cL r)] [] := by
 refine Gives.intro func95 rfl rfl rfl rfl ?_; refine fx fun w0 T S0 ob oh hm => ?_
 have hF := fxe w0 T S0 27 ob oh
 unfold W_eqCacheS at H; obtain ⟨K, hK⟩ := leK k; refine sg 1 ?_; refine WpC.seq (sr ?_); refine mv ?_; refine L.lenR (xs := a0) (e := eT_Cache) underlying39 hF rfl rfl rfl rfl ?_; refine mv ?_; refine L.lenR (xs := a1) (e := eT_Cache) underlying39 hF rfl rfl rfl rfl ?_; refine gn 1 ?_; refine cd H (fun hc H => ?_) (fun hc H => ?_)
 ·refine sg 1 ?_; cases H; exact WpC.ret rt
 ·refine WpC.skip (WpC.seq (sr ?_)); refine gn 1 ?_; refine WpC.block ?_; refine WpC.loopL (P := Tryz.prog) (fun n σ => ∃ (v44 v45 : List T_Cache) (v46 : Int), n ≤ K ∧ W_eqCacheS.l2 n v44 v45 v46 = some r ∧ σ = mkSt [(0, MG.one (Cell.sl g0 (List.map eT_Cache v44))), (1, MG.one (Cell.sl g1 (List.map eT_Cache v45))), (5, oI v46)] [] [] 0) k ⟨_, ⟨a0, a1, 0, by omega, H, rfl⟩, lm [] hm⟩ ?_; clear H
  rintro k2 _ ⟨v44, v45, v46, hk2, H, rfl⟩
  cases k2 with
  | zero => cases H
  | succ k2 =>
   rw [W_eqCacheS.l2] at H
   refine WpC.seq (sr ?_); refine go 2 ?_; refine L.lenR (xs := v44) (e := eT_Cache) underlying39 hF rfl rfl rfl rfl ?_; refine gn 1 ?_; refine cd H (fun hc H => ?_) (fun hc H => ?_)
   ·refine WpC.skip (WpC.seq (WpC.block (WpC.seq ?_))); obtain ⟨b50, hb50, H⟩ := bindS H; obtain ⟨b51, hb51, H⟩ := bindS H; obtain ⟨r52, hr52, H⟩ := bindS H; refine A.begin mixed rfl rfl ?_; intro W hI hO
    have n255 : W 2 #[true, true, true, true, true, true, true, true, false, false] (mkSt [(0, MG.one (Cell.sl g0 (List.map eT_Cache v44))), (1, MG.one (Cell.sl g1 (List.map eT_Cache v45))), (5, oI v46), (20, agg [cI b50.Quiet, Cell.sl g0 (List.map eT_Auth b50.Seen)]), (24, agg [cI b51.Quiet, Cell.sl g1 (List.map eT_Auth b51.Seen)])] [] [] 0) := by
     refine hI _ _ _ ?_; refine A.all [8] (by kernel_rfl) rfl ⟨⟨_, rfl, ?_⟩, trivial⟩; refine c0 0 ent182 (g182 k2 g0 g1 b50 b51 r52 hr52) (L.nil ?_); refine Atk 9 rfl (Ca.un rfl rfl) (fun Q0 k0 => nt (L.nil k0)) ?_; refine A.le (τ := mkSt [(0, MG.one (Cell.sl g0 (List.map eT_Cache v44))), (1, MG.one (Cell.sl g1 (List.map eT_Cache v45))), (5, oI v46), (26, oL (!r52))] [] [] 0) (lm [] hm) ?_; refine A.done (by kernel_rfl) ?_; refine cd H (fun hc H => ?_) (fun hc H => ?_)
     ·refine sg 1 ?_; cases H; exact WpC.ret rt
     ·refine WpC.skip (WpC.regionL ?_); refine gn 3 ?_; exact ⟨k2, _, by omega, ⟨v44, v45, (IntKind.i64.wrap (v46 + 1)), by omega, H, rfl⟩, lm [] hm⟩
    refine hI _ _ _ ?_; refine tM 0 ?_; refine tM 1 ?_; refine Atk 2 rfl (Ca.indexAddr) (fun Q0 k0 => ix underlying39 info170 hb50 (L.nil k0)) ?_; refine tM 4 ?_; refine tM 5 ?_; refine Atk 6 rfl (Ca.indexAddr) (fun Q0 k0 => ix underlying39 info170 hb51 (L.nil k0)) ?_; refine A.all [3, 7] (by kernel_rfl) rfl ⟨⟨_, rfl, ?_⟩, ⟨_, rfl, ?_⟩, trivial⟩
    ·refine gn 1 ?_; refine A.all [7] (by kernel_rfl) rfl ⟨⟨_, rfl, ?_⟩, trivial⟩; refine gn 1 ?_; exact A.on (hO _ _ _ n255) (lm [] hm)
    ·refine gn 1 ?_; refine A.all [3] (by kernel_rfl) rfl ⟨⟨_, rfl, ?_⟩, trivial⟩; refine gn 1 ?_; exact A.on (hO _ _ _ n255) (lm [] hm)
   ·refine WpC.exit (sr ?_); refine gn 1 ?_; cases H; exact WpC.ret rt
/-! ### W_eqEvent -/
def W_eqEvent (k : Nat) (a0 a1 : T_Event) : Option Bool := cond (a0.Kind != a1.Kind) (some false) (cond (a0.Realm != a1.Realm) (some false) (cond (a0.By != a1.By) (some false) (cond (a0.Client != a1.Client) (some false) (cond (a0.Service != a1.Service) (some false) (cond (a0.Key != a1.Key) (some false) (cond (a0.Parent != a1.Parent) (some false) (cond (a0.Evid != a1.Evid) (some false) ((W_eqRest k a0.Rest a1.Rest).bind fun r2 => cond (!r2) (some false) (some true)))))))))
theorem ent183 : MG.Enters Tryz.prog 183 := en func183
theorem g183 (k : Nat) (a0 a1 : T_Event) (r : Bool) (H : W_eqEvent k a0 a1 = some r) : Gives Tryz.prog 183 [V.agg (bT_Event a0), V.agg (bT_Event a1)] [] [V.one (cL r)] [] := by
 refine Gives.intro func183 rfl rfl rfl rfl ?_; refine fx fun w0 T S0 ob oh hm => ?_
 have hF := fxe w0 T S0 51 ob oh
 unfold W_eqEvent at H; obtain ⟨K, hK⟩ := leK k; refine sr ?_; refine bo 22 ?_; refine bo 23 ?_; refine gn 1 ?_; refine WpC.seq (sr ?_); refine gn 5 ?_; refine cd H (fun hc H => ?_) (fun hc H => ?_)
 ·refine sg 1 ?_; cases H; exact WpC.ret rt
 ·refine WpC.skip (WpC.seq (sr ?_)); refine gn 5 ?_; refine cd H (fun hc H => ?_) (fun hc H => ?_)
  ·refine sg 1 ?_; cases H; exact WpC.ret rt
  ·refine WpC.skip (WpC.seq (sr ?_)); refine gn 5 ?_; refine cd H (fun hc H => ?_) (fun hc H => ?_)
   ·refine sg 1 ?_; cases H; exact WpC.ret rt
   ·refine WpC.skip (WpC.seq (sr ?_)); refine gn 5 ?_; refine cd H (fun hc H => ?_) (fun hc H => ?_)
    ·refine sg 1 ?_; cases H; exact WpC.ret rt
    ·refine WpC.skip (WpC.seq (sr ?_)); refine gn 5 ?_; refine cd H (fun hc H => ?_) (fun hc H => ?_)
     ·refine sg 1 ?_; cases H; exact WpC.ret rt
     ·refine WpC.skip (WpC.seq (sr ?_)); refine gn 5 ?_; refine cd H (fun hc H => ?_) (fun hc H => ?_)
      ·refine sg 1 ?_; cases H; exact WpC.ret rt
      ·refine WpC.skip (WpC.seq (sr ?_)); refine gn 5 ?_; refine cd H (fun hc H => ?_) (fun hc H => ?_)
       ·refine sg 1 ?_; cases H; exact WpC.ret rt
       ·refine WpC.skip (WpC.seq (sr ?_)); refine gn 5 ?_; refine cd H (fun hc H => ?_) (fun hc H => ?_)
        ·refine sg 1 ?_; cases H; exact WpC.ret rt
        ·refine WpC.skip (WpC.seq (sr ?_)); refine go 4 ?_; refine cB 24 ent251 (g251 k  a0.Rest a1.Rest) H fun r2 H => ?_; refine gn 1 ?_; refine cd H (fun hc H => ?_) (fun hc H => ?_)
         ·refine sg 1 ?_; cases H; exact WpC.ret rt
         ·refine WpC.skip (sr ?_); refine gn 1 ?_; cases H; exact WpC.ret rt
/-! ### W_eqEventS -/
def W_eqEventS.l2 : Nat → (List T_Event) → (List T_Event) → Int → Option Bool
 | 0, _, _, _ => none
 | k2 + 1, v44, v45, v46 => cond (decide (v46 < (v44.length : Int))) ((at? v44 v46).bind fun b50 => (at? v45 v46).bind fun b51 => (W_eqEvent k2 b50 b51).bind fun r52 => cond (!r52) (some false) ((W_eqEventS.l2 k2) v44 v45 (IntKind.i64.wrap (v46 + 1)))) (some true)
def W_eqEventS (k : Nat) (a0 a1 : List T_Event) : Option Bool := cond ((a0.length : Int) != (a1.length : Int)) (some false) (W_eqEventS.l2 k a0 a1 0)
theorem ent96 : MG.Enters Tryz.prog 96 := en func96
theorem g96 (k : Nat) (g0 g1 : Bool) (a0 a1 : List T_Event) (r : Bool) (H : W_eqEventS k a0 a1 = some r) : Gives Tryz.prog 96 [V.one (Cell.sl g0 (List.map eT_Event a0)), V.one (Cell.sl g1 (List.map eT_Event a1))] [] [V.one (cL r)] [] := by
 refine Gives.intro func96 rfl rfl rfl rfl ?_; refine fx fun w0 T S0 ob oh hm => ?_
 have hF := fxe w0 T S0 27 ob oh
 unfold W_eqEventS at H; obtain ⟨K, hK⟩ := leK k; refine sg 1 ?_; refine WpC.seq (sr ?_); refine mv ?_; refine L.lenR (xs := a0) (e := eT_Event) underlying40 hF rfl rfl rfl rfl ?_; refine mv ?_; refine L.lenR (xs := a1) (e := eT_Event) underlying40 hF rfl rfl rfl rfl ?_; refine gn 1 ?_; refine cd H (fun hc H => ?_) (fun hc H => ?_)
 ·refine sg 1 ?_; cases H; exact WpC.ret rt
 ·refine WpC.skip (WpC.seq (sr ?_)); refine gn 1 ?_; refine WpC.block ?_; refine WpC.loopL (P := Tryz.prog) (fun n σ => ∃ (v44 v45 : List T_Event) (v46 : Int), n ≤ K ∧ W_eqEventS.l2 n v44 v45 v46 = some r ∧ σ = mkSt [(0, MG.one (Cell.sl g0 (List.map eT_Event v44))), (1, MG.one (Cell.sl g1 (List.map eT_Event v45))), (5, oI v46)] [] [] 0) k ⟨_, ⟨a0, a1, 0, by omega, H, rfl⟩, lm [] hm⟩ ?_; clear H
  rintro k2 _ ⟨v44, v45, v46, hk2, H, rfl⟩
  cases k2 with
  | zero => cases H
  | succ k2 =>
   rw [W_eqEventS.l2] at H
   refine WpC.seq (sr ?_); refine go 2 ?_; refine L.lenR (xs := v44) (e := eT_Event) underlying40 hF rfl rfl rfl rfl ?_; refine gn 1 ?_; refine cd H (fun hc H => ?_) (fun hc H => ?_)
   ·refine WpC.skip (WpC.seq (WpC.block (WpC.seq ?_))); obtain ⟨b50, hb50, H⟩ := bindS H; obtain ⟨b51, hb51, H⟩ := bindS H; obtain ⟨r52, hr52, H⟩ := bindS H; refine A.begin mixed rfl rfl ?_; intro W hI hO
    have n255 : W 2 #[true, true, true, true, true, true, true, true, false, false] (mkSt [(0, MG.one (Cell.sl g0 (List.map eT_Event v44))), (1, MG.one (Cell.sl g1 (List.map eT_Event v45))), (5, oI v46), (20, agg (bT_Event b50)), (24, agg (bT_Event b51))] [] [] 0) := by
     refine hI _ _ _ ?_; refine A.all [8] (by kernel_rfl) rfl ⟨⟨_, rfl, ?_⟩, trivial⟩; refine c0 0 ent183 (g183 k2  b50 b51 r52 hr52) (L.nil ?_); refine Atk 9 rfl (Ca.un rfl rfl) (fun Q0 k0 => nt (L.nil k0)) ?_; refine A.le (τ := mkSt [(0, MG.one (Cell.sl g0 (List.map eT_Event v44))), (1, MG.one (Cell.sl g1 (List.map eT_Event v45))), (5, oI v46), (26, oL (!r52))] [] [] 0) (lm [] hm) ?_; refine A.done (by kernel_rfl) ?_; refine cd H (fun hc H => ?_) (fun hc H => ?_)
     ·refine sg 1 ?_; cases H; exact WpC.ret rt
     ·refine WpC.skip (WpC.regionL ?_); refine gn 3 ?_; exact ⟨k2, _, by omega, ⟨v44, v45, (IntKind.i64.wrap (v46 + 1)), by omega, H, rfl⟩, lm [] hm⟩
    refine hI _ _ _ ?_; refine tM 0 ?_; refine tM 1 ?_; refine Atk 2 rfl (Ca.indexAddr) (fun Q0 k0 => ix underlying40 info47 hb50 (L.nil k0)) ?_; refine tM 4 ?_; refine tM 5 ?_; refine Atk 6 rfl (Ca.indexAddr) (fun Q0 k0 => ix underlying40 info47 hb51 (L.nil k0)) ?_; refine A.all [3, 7] (by kernel_rfl) rfl ⟨⟨_, rfl, ?_⟩, ⟨_, rfl, ?_⟩, trivial⟩
    ·refine gn 1 ?_; refine A.all [7] (by kernel_rfl) rfl ⟨⟨_, rfl, ?_⟩, trivial⟩; refine gn 1 ?_; exact A.on (hO _ _ _ n255) (lm [] hm)
    ·refine gn 1 ?_; refine A.all [3] (by kernel_rfl) rfl ⟨⟨_, rfl, ?_⟩, trivial⟩; refine gn 1 ?_; exact A.on (hO _ _ _ n255) (lm [] hm)
   ·refine WpC.exit (sr ?_); refine gn 1 ?_; cases H; exact WpC.ret rt
/-! ### W_eqAccept -/
def W_eqAccept (k : Nat) (a0 a1 : T_Accept) : Option Bool := cond (a0.Server != a1.Server) (some false) (cond (a0.Client != a1.Client) (some false) (cond (a0.Key != a1.Key) (some false) (cond (a0.Op != a1.Op) (some false) (cond (a0.Now != a1.Now) (some false) ((W_eqAuth k a0.Auth a1.Auth).bind fun r2 => cond (!r2) (some false) ((W_eqRest k a0.Rest a1.Rest).bind fun r4 => cond (!r4) (some false) ((W_eqIntS k a0.Path a1.Path).bind fun r6 => cond (!r6) (some false) ((W_eqIntS k a0.Via a1.Via).bind fun r8 => cond (!r8) (some false) (cond (a0.Leaks != a1.Leaks) (some false) (cond (a0.Ticket != a1.Ticket) (some false) (some true)))))))))))
theorem ent184 : MG.Enters Tryz.prog 184 := en func184
theorem g184 (k : Nat) (g0 g1 g2 g3 : Bool) (a0 a1 : T_Accept) (r : Bool) (H : W_eqAccept k a0 a1 = some r) : Gives Tryz.prog 184 [V.agg (bT_Accept g0 g1 a0), V.agg (bT_Accept g2 g3 a1)] [] [V.one (cL r)] [] := by
 refine Gives.intro func184 rfl rfl rfl rfl ?_; refine fx fun w0 T S0 ob oh hm => ?_
 have hF := fxe w0 T S0 64 ob oh
 unfold W_eqAccept at H; obtain ⟨K, hK⟩ := leK k; refine sr ?_; refine bo 30 ?_; refine bo 31 ?_; refine gn 1 ?_; refine WpC.seq (sr ?_); refine gn 5 ?_; refine cd H (fun hc H => ?_) (fun hc H => ?_)
 ·refine sg 1 ?_; cases H; exact WpC.ret rt
 ·refine WpC.skip (WpC.seq (sr ?_)); refine gn 5 ?_; refine cd H (fun hc H => ?_) (fun hc H => ?_)
  ·refine sg 1 ?_; cases H; exact WpC.ret rt
  ·refine WpC.skip (WpC.seq (sr ?_)); refine gn 5 ?_; refine cd H (fun hc H => ?_) (fun hc H => ?_)
   ·refine sg 1 ?_; cases H; exact WpC.ret rt
   ·refine WpC.skip (WpC.seq (sr ?_)); refine gn 5 ?_; refine cd H (fun hc H => ?_) (fun hc H => ?_)
    ·refine sg 1 ?_; cases H; exact WpC.ret rt
    ·refine WpC.skip (WpC.seq (sr ?_)); refine gn 5 ?_; refine cd H (fun hc H => ?_) (fun hc H => ?_)
     ·refine sg 1 ?_; cases H; exact WpC.ret rt
     ·refine WpC.skip (WpC.seq (sr ?_)); refine go 4 ?_; refine cB 32 ent253 (g253 k  a0.Auth a1.Auth) H fun r2 H => ?_; refine gn 1 ?_; refine cd H (fun hc H => ?_) (fun hc H => ?_)
      ·refine sg 1 ?_; cases H; exact WpC.ret rt
      ·refine WpC.skip (WpC.seq (sr ?_)); refine go 4 ?_; refine cB 33 ent251 (g251 k  a0.Rest a1.Rest) H fun r4 H => ?_; refine gn 1 ?_; refine cd H (fun hc H => ?_) (fun hc H => ?_)
       ·refine sg 1 ?_; cases H; exact WpC.ret rt
       ·refine WpC.skip (WpC.seq (sr ?_)); refine go 4 ?_; refine cB 34 ent98 (g98 k g0 g2 a0.Path a1.Path) H fun r6 H => ?_; refine gn 1 ?_; refine cd H (fun hc H => ?_) (fun hc H => ?_)
        ·refine sg 1 ?_; cases H; exact WpC.ret rt
        ·refine WpC.skip (WpC.seq (sr ?_)); refine go 4 ?_; refine cB 35 ent98 (g98 k g1 g3 a0.Via a1.Via) H fun r8 H => ?_; refine gn 1 ?_; refine cd H (fun hc H => ?_) (fun hc H => ?_)
         ·refine sg 1 ?_; cases H; exact WpC.ret rt
         ·refine WpC.skip (WpC.seq (sr ?_)); refine gn 5 ?_; refine cd H (fun hc H => ?_) (fun hc H => ?_)
          ·refine sg 1 ?_; cases H; exact WpC.ret rt
          ·refine WpC.skip (WpC.seq (sr ?_)); refine go 4 ?_; refine L.binS hF rfl rfl rfl rfl rfl (L.nil ?_); refine cd H (fun hc H => ?_) (fun hc H => ?_)
           ·refine sg 1 ?_; cases H; exact WpC.ret rt
           ·refine WpC.skip (sr ?_); refine gn 1 ?_; cases H; exact WpC.ret rt
/-! ### W_eqAcceptS -/
def W_eqAcceptS.l2 : Nat → (List T_Accept) → (List T_Accept) → Int → Option Bool
 | 0, _, _, _ => none
 | k2 + 1, v44, v45, v46 => cond (decide (v46 < (v44.length : Int))) ((at? v44 v46).bind fun b50 => (at? v45 v46).bind fun b51 => (W_eqAccept k2 b50 b51).bind fun r52 => cond (!r52) (some false) ((W_eqAcceptS.l2 k2) v44 v45 (IntKind.i64.wrap (v46 + 1)))) (some true)
def W_eqAcceptS (k : Nat) (a0 a1 : List T_Accept) : Option Bool := cond ((a0.length : Int) != (a1.length : Int)) (some false) (W_eqAcceptS.l2 k a0 a1 0)
theorem ent97 : MG.Enters Tryz.prog 97 := en func97
theorem g97 (k : Nat) (g0 g1 : Bool) (a0 a1 : List T_Accept) (r : Bool) (H : W_eqAcceptS k a0 a1 = some r) : Gives Tryz.prog 97 [V.one (Cell.sl g0 (List.map eT_Accept a0)), V.one (Cell.sl g1 (List.map eT_Accept a1))] [] [V.one (cL r)] [] := by
 refine Gives.intro func97 rfl rfl rfl rfl ?_; refine fx fun w0 T S0 ob oh hm => ?_
 have hF := fxe w0 T S0 27 ob oh
 unfold W_eqAcceptS at H; obtain ⟨K, hK⟩ := leK k; refine sg 1 ?_; refine WpC.seq (sr ?_); refine mv ?_; refine L.lenR (xs := a0) (e := eT_Accept) underlying41 hF rfl rfl rfl rfl ?_; refine mv ?_; refine L.lenR (xs := a1) (e := eT_Accept) underlying41 hF rfl rfl rfl rfl ?_; refine gn 1 ?_; refine cd H (fun hc H => ?_) (fun hc H => ?_)
 ·refine sg 1 ?_; cases H; exact WpC.ret rt
 ·refine WpC.skip (WpC.seq (sr ?_)); refine gn 1 ?_; refine WpC.block ?_; refine WpC.loopL (P := Tryz.prog) (fun n σ => ∃ (v44 v45 : List T_Accept) (v46 : Int), n ≤ K ∧ W_eqAcceptS.l2 n v44 v45 v46 = some r ∧ σ = mkSt [(0, MG.one (Cell.sl g0 (List.map eT_Accept v44))), (1, MG.one (Cell.sl g1 (List.map eT_Accept v45))), (5, oI v46)] [] [] 0) k ⟨_, ⟨a0, a1, 0, by omega, H, rfl⟩, lm [] hm⟩ ?_; clear H
  rintro k2 _ ⟨v44, v45, v46, hk2, H, rfl⟩
  cases k2 with
  | zero => cases H
  | succ k2 =>
   rw [W_eqAcceptS.l2] at H
   refine WpC.seq (sr ?_); refine go 2 ?_; refine L.lenR (xs := v44) (e := eT_Accept) underlying41 hF rfl rfl rfl rfl ?_; refine gn 1 ?_; refine cd H (fun hc H => ?_) (fun hc H => ?_)
   ·refine WpC.skip (WpC.seq (WpC.block (WpC.seq ?_))); obtain ⟨b50, hb50, H⟩ := bindS H; obtain ⟨b51, hb51, H⟩ := bindS H; obtain ⟨r52, hr52, H⟩ := bindS H; refine A.begin mixed rfl rfl ?_; intro W hI hO
    have n255 : W 2 #[true, true, true, true, true, true, true, true, false, false] (mkSt [(0, MG.one (Cell.sl g0 (List.map eT_Accept v44))), (1, MG.one (Cell.sl g1 (List.map eT_Accept v45))), (5, oI v46), (20, agg (bT_Accept g0 g0 b50)), (24, agg (bT_Accept g1 g1 b51))] [] [] 0) := by
     refine hI _ _ _ ?_; refine A.all [8] (by kernel_rfl) rfl ⟨⟨_, rfl, ?_⟩, trivial⟩; refine c0 0 ent184 (g184 k2 g0 g0 g1 g1 b50 b51 r52 hr52) (L.nil ?_); refine Atk 9 rfl (Ca.un rfl rfl) (fun Q0 k0 => nt (L.nil k0)) ?_; refine A.le (τ := mkSt [(0, MG.one (Cell.sl g0 (List.map eT_Accept v44))), (1, MG.one (Cell.sl g1 (List.map eT_Accept v45))), (5, oI v46), (26, oL (!r52))] [] [] 0) (lm [] hm) ?_; refine A.done (by kernel_rfl) ?_; refine cd H (fun hc H => ?_) (fun hc H => ?_)
     ·refine sg 1 ?_; cases H; exact WpC.ret rt
     ·refine WpC.skip (WpC.regionL ?_); refine gn 3 ?_; exact ⟨k2, _, by omega, ⟨v44, v45, (IntKind.i64.wrap (v46 + 1)), by omega, H, rfl⟩, lm [] hm⟩
    refine hI _ _ _ ?_; refine tM 0 ?_; refine tM 1 ?_; refine Atk 2 rfl (Ca.indexAddr) (fun Q0 k0 => ix underlying41 info74 hb50 (L.nil k0)) ?_; refine tM 4 ?_; refine tM 5 ?_; refine Atk 6 rfl (Ca.indexAddr) (fun Q0 k0 => ix underlying41 info74 hb51 (L.nil k0)) ?_; refine A.all [3, 7] (by kernel_rfl) rfl ⟨⟨_, rfl, ?_⟩, ⟨_, rfl, ?_⟩, trivial⟩
    ·refine gn 1 ?_; refine A.all [7] (by kernel_rfl) rfl ⟨⟨_, rfl, ?_⟩, trivial⟩; refine gn 1 ?_; exact A.on (hO _ _ _ n255) (lm [] hm)
    ·refine gn 1 ?_; refine A.all [3] (by kernel_rfl) rfl ⟨⟨_, rfl, ?_⟩, trivial⟩; refine gn 1 ?_; exact A.on (hO _ _ _ n255) (lm [] hm)
   ·refine WpC.exit (sr ?_); refine gn 1 ?_; cases H; exact WpC.ret rt
/-! ### W_eqWorld -/
def W_eqWorld (k : Nat) (a0 a1 : T_World) : Option Bool := (W_eqConfig k a0.Config a1.Config).bind fun r2 => cond (!r2) (some false) (cond (a0.Now != a1.Now) (some false) (cond (a0.Fresh != a1.Fresh) (some false) ((W_eqStringS k a0.Net a1.Net).bind fun r4 => cond (!r4) (some false) ((W_eqKnown k a0.Known a1.Known).bind fun r6 => cond (!r6) (some false) ((W_eqWaitS k a0.Waits a1.Waits).bind fun r8 => cond (!r8) (some false) ((W_eqCredS k a0.Creds a1.Creds).bind fun r10 => cond (!r10) (some false) ((W_eqCacheS k a0.Caches a1.Caches).bind fun r12 => cond (!r12) (some false) ((W_eqEventS k a0.Log a1.Log).bind fun r14 => cond (!r14) (some false) ((W_eqAcceptS k a0.Accepts a1.Accepts).bind fun r16 => cond (!r16) (some false) ((W_eqIntS k a0.Leaked a1.Leaked).bind fun r18 => cond (!r18) (some false) (some true)))))))))))
theorem ent26 : MG.Enters Tryz.prog 26 := en func26
theorem g26 (k : Nat) (g0 g1 g2 g3 g4 g5 g6 g7 g8 g9 g10 g11 g12 g13 g14 g15 g16 g17 g18 g19 g20 g21 g22 g23 g24 g25 : Bool) (a0 a1 : T_World) (r : Bool) (H : W_eqWorld k a0 a1 = some r) : Gives Tryz.prog 26 [V.agg (bT_World g0 g1 g2 g3 g4 g5 g6 g7 g8 g9 g10 g11 g12 a0), V.agg (bT_World g13 g14 g15 g16 g17 g18 g19 g20 g21 g22 g23 g24 g25 a1)] [] [V.one (cL r)] [] := by
 refine Gives.intro func26 rfl rfl rfl rfl ?_; refine fx fun w0 T S0 ob oh hm => ?_
 have hF := fxe w0 T S0 69 ob oh
 unfold W_eqWorld at H; obtain ⟨K, hK⟩ := leK k; refine sr ?_; refine bo 32 ?_; refine bo 33 ?_; refine gn 1 ?_; refine WpC.seq (sr ?_); refine go 4 ?_; refine cB 34 ent90 (g90 k g0 g1 g2 g3 g13 g14 g15 g16 a0.Config a1.Config) H fun r2 H => ?_; refine gn 1 ?_; refine cd H (fun hc H => ?_) (fun hc H => ?_)
 ·refine sg 1 ?_; cases H; exact WpC.ret rt
 ·refine WpC.skip (WpC.seq (sr ?_)); refine gn 5 ?_; refine cd H (fun hc H => ?_) (fun hc H => ?_)
  ·refine sg 1 ?_; cases H; exact WpC.ret rt
  ·refine WpC.skip (WpC.seq (sr ?_)); refine gn 5 ?_; refine cd H (fun hc H => ?_) (fun hc H => ?_)
   ·refine sg 1 ?_; cases H; exact WpC.ret rt
   ·refine WpC.skip (WpC.seq (sr ?_)); refine go 4 ?_; refine cB 35 ent91 (g91 k g4 g17 a0.Net a1.Net) H fun r4 H => ?_; refine gn 1 ?_; refine cd H (fun hc H => ?_) (fun hc H => ?_)
    ·refine sg 1 ?_; cases H; exact WpC.ret rt
    ·refine WpC.skip (WpC.seq (sr ?_)); refine go 4 ?_; refine cB 36 ent92 (g92 k g5 g6 g18 g19 a0.Known a1.Known) H fun r6 H => ?_; refine gn 1 ?_; refine cd H (fun hc H => ?_) (fun hc H => ?_)
     ·refine sg 1 ?_; cases H; exact WpC.ret rt
     ·refine WpC.skip (WpC.seq (sr ?_)); refine go 4 ?_; refine cB 37 ent93 (g93 k g7 g20 a0.Waits a1.Waits) H fun r8 H => ?_; refine gn 1 ?_; refine cd H (fun hc H => ?_) (fun hc H => ?_)
      ·refine sg 1 ?_; cases H; exact WpC.ret rt
      ·refine WpC.skip (WpC.seq (sr ?_)); refine go 4 ?_; refine cB 38 ent94 (g94 k g8 g21 a0.Creds a1.Creds) H fun r10 H => ?_; refine gn 1 ?_; refine cd H (fun hc H => ?_) (fun hc H => ?_)
       ·refine sg 1 ?_; cases H; exact WpC.ret rt
       ·refine WpC.skip (WpC.seq (sr ?_)); refine go 4 ?_; refine cB 39 ent95 (g95 k g9 g22 a0.Caches a1.Caches) H fun r12 H => ?_; refine gn 1 ?_; refine cd H (fun hc H => ?_) (fun hc H => ?_)
        ·refine sg 1 ?_; cases H; exact WpC.ret rt
        ·refine WpC.skip (WpC.seq (sr ?_)); refine go 4 ?_; refine cB 40 ent96 (g96 k g10 g23 a0.Log a1.Log) H fun r14 H => ?_; refine gn 1 ?_; refine cd H (fun hc H => ?_) (fun hc H => ?_)
         ·refine sg 1 ?_; cases H; exact WpC.ret rt
         ·refine WpC.skip (WpC.seq (sr ?_)); refine go 4 ?_; refine cB 41 ent97 (g97 k g11 g24 a0.Accepts a1.Accepts) H fun r16 H => ?_; refine gn 1 ?_; refine cd H (fun hc H => ?_) (fun hc H => ?_)
          ·refine sg 1 ?_; cases H; exact WpC.ret rt
          ·refine WpC.skip (WpC.seq (sr ?_)); refine go 4 ?_; refine cB 42 ent98 (g98 k g12 g25 a0.Leaked a1.Leaked) H fun r18 H => ?_; refine gn 1 ?_; refine cd H (fun hc H => ?_) (fun hc H => ?_)
           ·refine sg 1 ?_; cases H; exact WpC.ret rt
           ·refine WpC.skip (sr ?_); refine gn 1 ?_; cases H; exact WpC.ret rt
/-! ### W_FnExactSecret -/
def W_FnExactSecret (k : Nat) (a0 : L_World) : Option Bool := (W_szWorld k a0 1048576).bind fun r1 => cond (decide (r1 < 0)) (some true) ((W_toWorld k a0).bind fun r2 => (S_Secret k r2).bind fun r3 => (W_toWorld k a0).bind fun r4 => (I_Secret k r4).bind fun r5 => cond (r5 != r3) (some false) ((W_toWorld k a0).bind fun r8 => (W_eqWorld k r4 r8).bind fun r9 => cond (!r9) (some false) (some true)))
theorem ent9 : MG.Enters Tryz.prog 9 := en func9
theorem g9 (k : Nat) (g0 g1 g2 g3 g4 g5 g6 g7 g8 g9 g10 g11 g12 : Bool) (a0 : L_World) (r : Bool) (H : W_FnExactSecret k a0 = some r) : Gives Tryz.prog 9 [V.agg (bL_World g0 g1 g2 g3 g4 g5 g6 g7 g8 g9 g10 g11 g12 a0)] [] [V.one (cL r)] [] := by
 refine Gives.intro func9 rfl rfl rfl rfl ?_; refine fx fun w0 T S0 ob oh hm => ?_
 have hF := fxe w0 T S0 27 ob oh
 unfold W_FnExactSecret at H; obtain ⟨K, hK⟩ := leK k; refine sr ?_; refine bo 16 ?_; refine gn 1 ?_; refine sg 1 ?_; refine sy 2 ?_; refine cB 17 ent22 (g22 k g0 g1 g2 g3 g4 g5 g6 g7 g8 g9 g10 g11 g12 a0 1048576) H fun r1 H => ?_; refine gn 1 ?_; refine WpC.seq (sr ?_); refine gn 2 ?_; refine cd H (fun hc H => ?_) (fun hc H => ?_)
 ·refine sg 1 ?_; cases H; exact WpC.ret rt
 ·refine WpC.skip (sr ?_); refine lp shape64 ?_; refine cB 18 ent24 (g24 k g0 g1 g2 g3 g4 g5 g6 g7 g8 g9 g10 g11 g12 a0) H fun r2 H => ?_; obtain ⟨r3, hr3, H⟩ := bindS H; refine ca [false] [18, 19, 20, 21, 25, 26, 27, 28, 29, 30, 31, 32, 33] [] 34 ent36 (g36 k false false false false false false false false false false false false false r2 r3 hr3) ?_; refine gn 1 ?_; refine sy 1 ?_; refine cB 35 ent24 (g24 k g0 g1 g2 g3 g4 g5 g6 g7 g8 g9 g10 g11 g12 a0) H fun r4 H => ?_; refine alc 51 info43 ?_; refine gn 1 ?_; refine sy 1 ?_; refine L.le (Le.shareAll 35 rfl) ?_; refine L.le (Le.shareAll 36 rfl) ?_; refine L.le (Le.shareAll 37 rfl) ?_; refine L.le (Le.shareAll 38 rfl) ?_; refine L.le (Le.shareAll 42 rfl) ?_; refine L.le (Le.shareAll 43 rfl) ?_; refine L.le (Le.shareAll 44 rfl) ?_; refine L.le (Le.shareAll 45 rfl) ?_; refine L.le (Le.shareAll 46 rfl) ?_; refine L.le (Le.shareAll 47 rfl) ?_; refine L.le (Le.shareAll 48 rfl) ?_; refine L.le (Le.shareAll 49 rfl) ?_; refine L.le (Le.shareAll 50 rfl) ?_; refine cB 52 ent37 (g37 k  r4) H fun r5 H => ?_; refine gn 1 ?_; refine WpC.seq (sr ?_); refine go 2 ?_; refine L.neL underlying4 hF rfl rfl rfl rfl (L.nil ?_)
  refine cd H (fun hc H => ?_) (fun hc H => ?_)
  ·refine sg 1 ?_; cases H; exact WpC.ret rt
  ·refine WpC.skip (WpC.seq (WpC.seq ?_)); obtain ⟨r8, hr8, H⟩ := bindS H; obtain ⟨r9, hr9, H⟩ := bindS H
   refine A.lin (fun β => mkStL [(1, iP 16 0), (5, iP 51 0), (22, al (β 0) (agg (bT_World true true true true true true true true true true true true true r4))), (23, al (β 1) (agg (bL_World g0 g1 g2 g3 g4 g5 g6 g7 g8 g9 g10 g11 g12 a0))), (24, al (β 2) (agg [Cell.own 53, Cell.own 54, Cell.own 55, Cell.own 56, cI r8.Config.Skew, cI r8.Now, cI r8.Fresh, Cell.own 60, Cell.own 61, Cell.own 62, Cell.own 63, Cell.own 64, Cell.own 65, Cell.own 66, Cell.own 67, Cell.own 68])), (25, al (β 3) (MG.one (cL r9))), (26, al (β 4) (MG.one (cL (!r9))))] [(53, al (β 2) (⟨1, List.map eI r8.Config.UserRealm⟩)), (54, al (β 2) (⟨1, List.map eI r8.Config.ServiceRealm⟩)), (55, al (β 2) (⟨2, List.map eT_Pair r8.Config.Links⟩)), (56, al (β 2) (⟨2, List.map eT_Pair r8.Config.Proxy⟩)), (60, al (β 2) (⟨1, List.map eS r8.Net⟩)), (61, al (β 2) (⟨1, List.map eS r8.Known.Terms⟩)), (62, al (β 2) (⟨1, List.map eI r8.Known.Keys⟩)), (63, al (β 2) (⟨4, List.map eT_Wait r8.Waits⟩)), (64, al (β 2) (⟨8, List.map eT_Cred r8.Creds⟩)), (65, al (β 2) (⟨2, List.map eT_Cache r8.Caches⟩)), (66, al (β 2) (⟨11, List.map eT_Event r8.Log⟩)), (67, al (β 2) (⟨15, List.map eT_Accept r8.Accepts⟩)), (68, al (β 2) (⟨1, List.map eI r8.Leaked⟩))] [(16, ai ((bL_World g0 g1 g2 g3 g4 g5 g6 g7 g8 g9 g10 g11 g12 a0))), (51, ai ((bT_World true true true true true true true true true true true true true r4)))] 70) [([], [3, 4]), ([], [2, 3, 4]), ([1], [3, 4]), ([0, 1, 2], [4]), ([0, 1, 2, 3], [])] 5 mixed rfl (by kernel_rfl) ?_ ?_ ?_
   ·exact Le.lin [] hm rfl (sa2 (kn (kn4 kz))) (kn (kn4 (kn8 kz))) (ba (ba kz))
   ·repeat' (first | exact trivial | refine ⟨⟨_, rfl, fun β => ?_⟩, ?_⟩ | fail)
    ·refine lp shape43 ?_; exact lx [] hm
    ·refine lp shape64 ?_; exact lx [] hm
    ·refine c0 70 ent24 (g24 k g0 g1 g2 g3 g4 g5 g6 g7 g8 g9 g10 g11 g12 a0 r8 hr8) ?_; exact lx [(53, 70), (54, 71), (55, 72), (56, 73), (57, 74), (58, 75), (59, 76), (60, 77), (61, 78), (62, 79), (63, 80), (64, 81), (65, 82), (66, 83), (67, 84), (68, 85)] hm
    ·refine ca [false, false] [53, 54, 55, 56, 60, 61, 62, 63, 64, 65, 66, 67, 68] [] 70 ent26 (g26 k true true true true true true true true true true true true true false false false false false false false false false false false false false r4 r8 r9 hr9) ?_; exact lx [(69, 70)] hm
    ·refine nt ?_; exact lx [] hm
   refine ⟨_, (lm [] hm : Le _ _ (mkSt [(26, oL (!r9))] [] [] 0)), ?_⟩; refine cd H (fun hc H => ?_) (fun hc H => ?_)
   ·refine sg 1 ?_; cases H; exact WpC.ret rt
   ·refine WpC.skip (sr ?_); refine gn 1 ?_; cases H; exact WpC.ret rt
theorem open24 : Go.MG.Opens Tryz.prog 24 (Go.MG.eR Go.MG.eI) (Go.MG.wfR Go.MG.wfI) := Go.MG.Opens.slice Tryz.underlying24 (Go.MG.Opens.int Tryz.underlying3) (fun _ => (by kernel_rfl : Tryz.prog.cellsOf 3 = 1).symm) (fun _ => rfl) (fun _ => rfl) (by kernel_rfl)
def wfL_Pair (x : L_Pair) : Prop := Go.MG.wfI x.A ∧ Go.MG.wfI x.B
theorem open263 : Go.MG.Opens Tryz.prog 263 eL_Pair wfL_Pair := by
  intro H enc W fuel cs x h
  obtain ⟨n, hp⟩ := Go.MG.struct_parts Tryz.underlying263 (by kernel_rfl : Tryz.prog.cellsOf 263 = 2) (by kernel_rfl) h
  obtain ⟨c0, k0, y0, rfl, h0, hp⟩ := hp
  obtain ⟨c1, k1, y1, rfl, h1, hp⟩ := hp
  obtain rfl := hp
  obtain ⟨a0, r0, w0⟩ := (Go.MG.Opens.int Tryz.underlying3) _ _ _ _ _ _ h0
  obtain ⟨a1, r1, w1⟩ := (Go.MG.Opens.int Tryz.underlying3) _ _ _ _ _ _ h1
  exact ⟨⟨a0, a1⟩, (r0.append (r1.append (rfl : Go.MG.RCs _ [] []))), w0, w1⟩
theorem open54 : Go.MG.Opens Tryz.prog 54 (Go.MG.eR eL_Pair) (Go.MG.wfR wfL_Pair) := Go.MG.Opens.slice Tryz.underlying54 open263 (fun _ => (by kernel_rfl : Tryz.prog.cellsOf 263 = 2).symm) (fun _ => rfl) (fun _ => rfl) (by kernel_rfl)
def wfL_Config (x : L_Config) : Prop := (Go.MG.wfR Go.MG.wfI) x.UserRealm ∧ (Go.MG.wfR Go.MG.wfI) x.ServiceRealm ∧ (Go.MG.wfR wfL_Pair) x.Links ∧ (Go.MG.wfR wfL_Pair) x.Proxy ∧ Go.MG.wfI x.Skew
theorem open56 : Go.MG.Opens Tryz.prog 56 eL_Config wfL_Config := by
  intro H enc W fuel cs x h
  obtain ⟨n, hp⟩ := Go.MG.struct_parts Tryz.underlying56 (by kernel_rfl : Tryz.prog.cellsOf 56 = 5) (by kernel_rfl) h
  obtain ⟨c0, k0, y0, rfl, h0, hp⟩ := hp
  obtain ⟨c1, k1, y1, rfl, h1, hp⟩ := hp
  obtain ⟨c2, k2, y2, rfl, h2, hp⟩ := hp
  obtain ⟨c3, k3, y3, rfl, h3, hp⟩ := hp
  obtain ⟨c4, k4, y4, rfl, h4, hp⟩ := hp
  obtain rfl := hp
  obtain ⟨a0, r0, w0⟩ := open24 _ _ _ _ _ _ h0
  obtain ⟨a1, r1, w1⟩ := open24 _ _ _ _ _ _ h1
  obtain ⟨a2, r2, w2⟩ := open54 _ _ _ _ _ _ h2
  obtain ⟨a3, r3, w3⟩ := open54 _ _ _ _ _ _ h3
  obtain ⟨a4, r4, w4⟩ := (Go.MG.Opens.int Tryz.underlying3) _ _ _ _ _ _ h4
  exact ⟨⟨a0, a1, a2, a3, a4⟩, (r0.append (r1.append (r2.append (r3.append (r4.append (rfl : Go.MG.RCs _ [] [])))))), w0, w1, w2, w3, w4⟩
theorem open34 : Go.MG.Opens Tryz.prog 34 (Go.MG.eR Go.MG.eS) (Go.MG.wfR Go.MG.wfS) := Go.MG.Opens.slice Tryz.underlying34 (Go.MG.Opens.str Tryz.underlying9) (fun _ => (by kernel_rfl : Tryz.prog.cellsOf 9 = 1).symm) (fun _ => rfl) (fun _ => rfl) (by kernel_rfl)
def wfL_Known (x : L_Known) : Prop := (Go.MG.wfR Go.MG.wfS) x.Terms ∧ (Go.MG.wfR Go.MG.wfI) x.Keys
theorem open57 : Go.MG.Opens Tryz.prog 57 eL_Known wfL_Known := by
  intro H enc W fuel cs x h
  obtain ⟨n, hp⟩ := Go.MG.struct_parts Tryz.underlying57 (by kernel_rfl : Tryz.prog.cellsOf 57 = 2) (by kernel_rfl) h
  obtain ⟨c0, k0, y0, rfl, h0, hp⟩ := hp
  obtain ⟨c1, k1, y1, rfl, h1, hp⟩ := hp
  obtain rfl := hp
  obtain ⟨a0, r0, w0⟩ := open34 _ _ _ _ _ _ h0
  obtain ⟨a1, r1, w1⟩ := open24 _ _ _ _ _ _ h1
  exact ⟨⟨a0, a1⟩, (r0.append (r1.append (rfl : Go.MG.RCs _ [] []))), w0, w1⟩
def wfL_Wait (x : L_Wait) : Prop := (fun _ => True) x.On ∧ Go.MG.wfI x.Nonce ∧ Go.MG.wfI x.Key ∧ Go.MG.wfI x.Client
theorem open206 : Go.MG.Opens Tryz.prog 206 eL_Wait wfL_Wait := by
  intro H enc W fuel cs x h
  obtain ⟨n, hp⟩ := Go.MG.struct_parts Tryz.underlying206 (by kernel_rfl : Tryz.prog.cellsOf 206 = 4) (by kernel_rfl) h
  obtain ⟨c0, k0, y0, rfl, h0, hp⟩ := hp
  obtain ⟨c1, k1, y1, rfl, h1, hp⟩ := hp
  obtain ⟨c2, k2, y2, rfl, h2, hp⟩ := hp
  obtain ⟨c3, k3, y3, rfl, h3, hp⟩ := hp
  obtain rfl := hp
  obtain ⟨a0, r0, w0⟩ := (Go.MG.Opens.bool Tryz.underlying4) _ _ _ _ _ _ h0
  obtain ⟨a1, r1, w1⟩ := (Go.MG.Opens.int Tryz.underlying3) _ _ _ _ _ _ h1
  obtain ⟨a2, r2, w2⟩ := (Go.MG.Opens.int Tryz.underlying3) _ _ _ _ _ _ h2
  obtain ⟨a3, r3, w3⟩ := (Go.MG.Opens.int Tryz.underlying3) _ _ _ _ _ _ h3
  exact ⟨⟨a0, a1, a2, a3⟩, (r0.append (r1.append (r2.append (r3.append (rfl : Go.MG.RCs _ [] []))))), w0, w1, w2, w3⟩
theorem open58 : Go.MG.Opens Tryz.prog 58 (Go.MG.eR eL_Wait) (Go.MG.wfR wfL_Wait) := Go.MG.Opens.slice Tryz.underlying58 open206 (fun _ => (by kernel_rfl : Tryz.prog.cellsOf 206 = 4).symm) (fun _ => rfl) (fun _ => rfl) (by kernel_rfl)
def wfL_Rest (x : L_Rest) : Prop := Go.MG.wfI x.Servers ∧ Go.MG.wfI x.Ops ∧ Go.MG.wfI x.End
theorem open185 : Go.MG.Opens Tryz.prog 185 eL_Rest wfL_Rest := by
  intro H enc W fuel cs x h
  obtain ⟨n, hp⟩ := Go.MG.struct_parts Tryz.underlying185 (by kernel_rfl : Tryz.prog.cellsOf 185 = 3) (by kernel_rfl) h
  obtain ⟨c0, k0, y0, rfl, h0, hp⟩ := hp
  obtain ⟨c1, k1, y1, rfl, h1, hp⟩ := hp
  obtain ⟨c2, k2, y2, rfl, h2, hp⟩ := hp
  obtain rfl := hp
  obtain ⟨a0, r0, w0⟩ := (Go.MG.Opens.int Tryz.underlying3) _ _ _ _ _ _ h0
  obtain ⟨a1, r1, w1⟩ := (Go.MG.Opens.int Tryz.underlying3) _ _ _ _ _ _ h1
  obtain ⟨a2, r2, w2⟩ := (Go.MG.Opens.int Tryz.underlying3) _ _ _ _ _ _ h2
  exact ⟨⟨a0, a1, a2⟩, (r0.append (r1.append (r2.append (rfl : Go.MG.RCs _ [] [])))), w0, w1, w2⟩
def wfL_Cred (x : L_Cred) : Prop := Go.MG.wfI x.Owner ∧ Go.MG.wfI x.Client ∧ Go.MG.wfI x.Service ∧ Go.MG.wfI x.Key ∧ wfL_Rest x.Rest ∧ Go.MG.wfS x.Ticket
theorem open187 : Go.MG.Opens Tryz.prog 187 eL_Cred wfL_Cred := by
  intro H enc W fuel cs x h
  obtain ⟨n, hp⟩ := Go.MG.struct_parts Tryz.underlying187 (by kernel_rfl : Tryz.prog.cellsOf 187 = 8) (by kernel_rfl) h
  obtain ⟨c0, k0, y0, rfl, h0, hp⟩ := hp
  obtain ⟨c1, k1, y1, rfl, h1, hp⟩ := hp
  obtain ⟨c2, k2, y2, rfl, h2, hp⟩ := hp
  obtain ⟨c3, k3, y3, rfl, h3, hp⟩ := hp
  obtain ⟨c4, k4, y4, rfl, h4, hp⟩ := hp
  obtain ⟨c5, k5, y5, rfl, h5, hp⟩ := hp
  obtain rfl := hp
  obtain ⟨a0, r0, w0⟩ := (Go.MG.Opens.int Tryz.underlying3) _ _ _ _ _ _ h0
  obtain ⟨a1, r1, w1⟩ := (Go.MG.Opens.int Tryz.underlying3) _ _ _ _ _ _ h1
  obtain ⟨a2, r2, w2⟩ := (Go.MG.Opens.int Tryz.underlying3) _ _ _ _ _ _ h2
  obtain ⟨a3, r3, w3⟩ := (Go.MG.Opens.int Tryz.underlying3) _ _ _ _ _ _ h3
  obtain ⟨a4, r4, w4⟩ := open185 _ _ _ _ _ _ h4
  obtain ⟨a5, r5, w5⟩ := (Go.MG.Opens.str Tryz.underlying9) _ _ _ _ _ _ h5
  exact ⟨⟨a0, a1, a2, a3, a4, a5⟩, (r0.append (r1.append (r2.append (r3.append (r4.append (r5.append (rfl : Go.MG.RCs _ [] []))))))), w0, w1, w2, w3, w4, w5⟩
theorem open59 : Go.MG.Opens Tryz.prog 59 (Go.MG.eR eL_Cred) (Go.MG.wfR wfL_Cred) := Go.MG.Opens.slice Tryz.underlying59 open187 (fun _ => (by kernel_rfl : Tryz.prog.cellsOf 187 = 8).symm) (fun _ => rfl) (fun _ => rfl) (by kernel_rfl)
def wfL_Auth (x : L_Auth) : Prop := Go.MG.wfI x.Client ∧ Go.MG.wfI x.Time ∧ Go.MG.wfI x.Seq
theorem open193 : Go.MG.Opens Tryz.prog 193 eL_Auth wfL_Auth := by
  intro H enc W fuel cs x h
  obtain ⟨n, hp⟩ := Go.MG.struct_parts Tryz.underlying193 (by kernel_rfl : Tryz.prog.cellsOf 193 = 3) (by kernel_rfl) h
  obtain ⟨c0, k0, y0, rfl, h0, hp⟩ := hp
  obtain ⟨c1, k1, y1, rfl, h1, hp⟩ := hp
  obtain ⟨c2, k2, y2, rfl, h2, hp⟩ := hp
  obtain rfl := hp
  obtain ⟨a0, r0, w0⟩ := (Go.MG.Opens.int Tryz.underlying3) _ _ _ _ _ _ h0
  obtain ⟨a1, r1, w1⟩ := (Go.MG.Opens.int Tryz.underlying3) _ _ _ _ _ _ h1
  obtain ⟨a2, r2, w2⟩ := (Go.MG.Opens.int Tryz.underlying3) _ _ _ _ _ _ h2
  exact ⟨⟨a0, a1, a2⟩, (r0.append (r1.append (r2.append (rfl : Go.MG.RCs _ [] [])))), w0, w1, w2⟩
theorem open189 : Go.MG.Opens Tryz.prog 189 (Go.MG.eR eL_Auth) (Go.MG.wfR wfL_Auth) := Go.MG.Opens.slice Tryz.underlying189 open193 (fun _ => (by kernel_rfl : Tryz.prog.cellsOf 193 = 3).symm) (fun _ => rfl) (fun _ => rfl) (by kernel_rfl)
def wfL_Cache (x : L_Cache) : Prop := Go.MG.wfI x.Quiet ∧ (Go.MG.wfR wfL_Auth) x.Seen
theorem open191 : Go.MG.Opens Tryz.prog 191 eL_Cache wfL_Cache := by
  intro H enc W fuel cs x h
  obtain ⟨n, hp⟩ := Go.MG.struct_parts Tryz.underlying191 (by kernel_rfl : Tryz.prog.cellsOf 191 = 2) (by kernel_rfl) h
  obtain ⟨c0, k0, y0, rfl, h0, hp⟩ := hp
  obtain ⟨c1, k1, y1, rfl, h1, hp⟩ := hp
  obtain rfl := hp
  obtain ⟨a0, r0, w0⟩ := (Go.MG.Opens.int Tryz.underlying3) _ _ _ _ _ _ h0
  obtain ⟨a1, r1, w1⟩ := open189 _ _ _ _ _ _ h1
  exact ⟨⟨a0, a1⟩, (r0.append (r1.append (rfl : Go.MG.RCs _ [] []))), w0, w1⟩
theorem open60 : Go.MG.Opens Tryz.prog 60 (Go.MG.eR eL_Cache) (Go.MG.wfR wfL_Cache) := Go.MG.Opens.slice Tryz.underlying60 open191 (fun _ => (by kernel_rfl : Tryz.prog.cellsOf 191 = 2).symm) (fun _ => rfl) (fun _ => rfl) (by kernel_rfl)
def wfL_Event (x : L_Event) : Prop := Go.MG.wfI x.Kind ∧ Go.MG.wfI x.Realm ∧ Go.MG.wfI x.By ∧ Go.MG.wfI x.Client ∧ Go.MG.wfI x.Service ∧ Go.MG.wfI x.Key ∧ Go.MG.wfI x.Parent ∧ Go.MG.wfI x.Evid ∧ wfL_Rest x.Rest
theorem open211 : Go.MG.Opens Tryz.prog 211 eL_Event wfL_Event := by
  intro H enc W fuel cs x h
  obtain ⟨n, hp⟩ := Go.MG.struct_parts Tryz.underlying211 (by kernel_rfl : Tryz.prog.cellsOf 211 = 11) (by kernel_rfl) h
  obtain ⟨c0, k0, y0, rfl, h0, hp⟩ := hp
  obtain ⟨c1, k1, y1, rfl, h1, hp⟩ := hp
  obtain ⟨c2, k2, y2, rfl, h2, hp⟩ := hp
  obtain ⟨c3, k3, y3, rfl, h3, hp⟩ := hp
  obtain ⟨c4, k4, y4, rfl, h4, hp⟩ := hp
  obtain ⟨c5, k5, y5, rfl, h5, hp⟩ := hp
  obtain ⟨c6, k6, y6, rfl, h6, hp⟩ := hp
  obtain ⟨c7, k7, y7, rfl, h7, hp⟩ := hp
  obtain ⟨c8, k8, y8, rfl, h8, hp⟩ := hp
  obtain rfl := hp
  obtain ⟨a0, r0, w0⟩ := (Go.MG.Opens.int Tryz.underlying3) _ _ _ _ _ _ h0
  obtain ⟨a1, r1, w1⟩ := (Go.MG.Opens.int Tryz.underlying3) _ _ _ _ _ _ h1
  obtain ⟨a2, r2, w2⟩ := (Go.MG.Opens.int Tryz.underlying3) _ _ _ _ _ _ h2
  obtain ⟨a3, r3, w3⟩ := (Go.MG.Opens.int Tryz.underlying3) _ _ _ _ _ _ h3
  obtain ⟨a4, r4, w4⟩ := (Go.MG.Opens.int Tryz.underlying3) _ _ _ _ _ _ h4
  obtain ⟨a5, r5, w5⟩ := (Go.MG.Opens.int Tryz.underlying3) _ _ _ _ _ _ h5
  obtain ⟨a6, r6, w6⟩ := (Go.MG.Opens.int Tryz.underlying3) _ _ _ _ _ _ h6
  obtain ⟨a7, r7, w7⟩ := (Go.MG.Opens.int Tryz.underlying3) _ _ _ _ _ _ h7
  obtain ⟨a8, r8, w8⟩ := open185 _ _ _ _ _ _ h8
  exact ⟨⟨a0, a1, a2, a3, a4, a5, a6, a7, a8⟩, (r0.append (r1.append (r2.append (r3.append (r4.append (r5.append (r6.append (r7.append (r8.append (rfl : Go.MG.RCs _ [] [])))))))))), w0, w1, w2, w3, w4, w5, w6, w7, w8⟩
theorem open61 : Go.MG.Opens Tryz.prog 61 (Go.MG.eR eL_Event) (Go.MG.wfR wfL_Event) := Go.MG.Opens.slice Tryz.underlying61 open211 (fun _ => (by kernel_rfl : Tryz.prog.cellsOf 211 = 11).symm) (fun _ => rfl) (fun _ => rfl) (by kernel_rfl)
def wfL_Accept (x : L_Accept) : Prop := Go.MG.wfI x.Server ∧ Go.MG.wfI x.Client ∧ Go.MG.wfI x.Key ∧ Go.MG.wfI x.Op ∧ Go.MG.wfI x.Now ∧ wfL_Auth x.Auth ∧ wfL_Rest x.Rest ∧ (Go.MG.wfR Go.MG.wfI) x.Path ∧ (Go.MG.wfR Go.MG.wfI) x.Via ∧ Go.MG.wfI x.Leaks ∧ Go.MG.wfS x.Ticket
theorem open195 : Go.MG.Opens Tryz.prog 195 eL_Accept wfL_Accept := by
  intro H enc W fuel cs x h
  obtain ⟨n, hp⟩ := Go.MG.struct_parts Tryz.underlying195 (by kernel_rfl : Tryz.prog.cellsOf 195 = 15) (by kernel_rfl) h
  obtain ⟨c0, k0, y0, rfl, h0, hp⟩ := hp
  obtain ⟨c1, k1, y1, rfl, h1, hp⟩ := hp
  obtain ⟨c2, k2, y2, rfl, h2, hp⟩ := hp
  obtain ⟨c3, k3, y3, rfl, h3, hp⟩ := hp
  obtain ⟨c4, k4, y4, rfl, h4, hp⟩ := hp
  obtain ⟨c5, k5, y5, rfl, h5, hp⟩ := hp
  obtain ⟨c6, k6, y6, rfl, h6, hp⟩ := hp
  obtain ⟨c7, k7, y7, rfl, h7, hp⟩ := hp
  obtain ⟨c8, k8, y8, rfl, h8, hp⟩ := hp
  obtain ⟨c9, k9, y9, rfl, h9, hp⟩ := hp
  obtain ⟨c10, k10, y10, rfl, h10, hp⟩ := hp
  obtain rfl := hp
  obtain ⟨a0, r0, w0⟩ := (Go.MG.Opens.int Tryz.underlying3) _ _ _ _ _ _ h0
  obtain ⟨a1, r1, w1⟩ := (Go.MG.Opens.int Tryz.underlying3) _ _ _ _ _ _ h1
  obtain ⟨a2, r2, w2⟩ := (Go.MG.Opens.int Tryz.underlying3) _ _ _ _ _ _ h2
  obtain ⟨a3, r3, w3⟩ := (Go.MG.Opens.int Tryz.underlying3) _ _ _ _ _ _ h3
  obtain ⟨a4, r4, w4⟩ := (Go.MG.Opens.int Tryz.underlying3) _ _ _ _ _ _ h4
  obtain ⟨a5, r5, w5⟩ := open193 _ _ _ _ _ _ h5
  obtain ⟨a6, r6, w6⟩ := open185 _ _ _ _ _ _ h6
  obtain ⟨a7, r7, w7⟩ := open24 _ _ _ _ _ _ h7
  obtain ⟨a8, r8, w8⟩ := open24 _ _ _ _ _ _ h8
  obtain ⟨a9, r9, w9⟩ := (Go.MG.Opens.int Tryz.underlying3) _ _ _ _ _ _ h9
  obtain ⟨a10, r10, w10⟩ := (Go.MG.Opens.str Tryz.underlying9) _ _ _ _ _ _ h10
  exact ⟨⟨a0, a1, a2, a3, a4, a5, a6, a7, a8, a9, a10⟩, (r0.append (r1.append (r2.append (r3.append (r4.append (r5.append (r6.append (r7.append (r8.append (r9.append (r10.append (rfl : Go.MG.RCs _ [] [])))))))))))), w0, w1, w2, w3, w4, w5, w6, w7, w8, w9, w10⟩
theorem open62 : Go.MG.Opens Tryz.prog 62 (Go.MG.eR eL_Accept) (Go.MG.wfR wfL_Accept) := Go.MG.Opens.slice Tryz.underlying62 open195 (fun _ => (by kernel_rfl : Tryz.prog.cellsOf 195 = 15).symm) (fun _ => rfl) (fun _ => rfl) (by kernel_rfl)
def wfL_World (x : L_World) : Prop := wfL_Config x.Config ∧ Go.MG.wfI x.Now ∧ Go.MG.wfI x.Fresh ∧ (Go.MG.wfR Go.MG.wfS) x.Net ∧ wfL_Known x.Known ∧ (Go.MG.wfR wfL_Wait) x.Waits ∧ (Go.MG.wfR wfL_Cred) x.Creds ∧ (Go.MG.wfR wfL_Cache) x.Caches ∧ (Go.MG.wfR wfL_Event) x.Log ∧ (Go.MG.wfR wfL_Accept) x.Accepts ∧ (Go.MG.wfR Go.MG.wfI) x.Leaked
theorem open64 : Go.MG.Opens Tryz.prog 64 eL_World wfL_World := by
  intro H enc W fuel cs x h
  obtain ⟨n, hp⟩ := Go.MG.struct_parts Tryz.underlying64 (by kernel_rfl : Tryz.prog.cellsOf 64 = 16) (by kernel_rfl) h
  obtain ⟨c0, k0, y0, rfl, h0, hp⟩ := hp
  obtain ⟨c1, k1, y1, rfl, h1, hp⟩ := hp
  obtain ⟨c2, k2, y2, rfl, h2, hp⟩ := hp
  obtain ⟨c3, k3, y3, rfl, h3, hp⟩ := hp
  obtain ⟨c4, k4, y4, rfl, h4, hp⟩ := hp
  obtain ⟨c5, k5, y5, rfl, h5, hp⟩ := hp
  obtain ⟨c6, k6, y6, rfl, h6, hp⟩ := hp
  obtain ⟨c7, k7, y7, rfl, h7, hp⟩ := hp
  obtain ⟨c8, k8, y8, rfl, h8, hp⟩ := hp
  obtain ⟨c9, k9, y9, rfl, h9, hp⟩ := hp
  obtain ⟨c10, k10, y10, rfl, h10, hp⟩ := hp
  obtain rfl := hp
  obtain ⟨a0, r0, w0⟩ := open56 _ _ _ _ _ _ h0
  obtain ⟨a1, r1, w1⟩ := (Go.MG.Opens.int Tryz.underlying3) _ _ _ _ _ _ h1
  obtain ⟨a2, r2, w2⟩ := (Go.MG.Opens.int Tryz.underlying3) _ _ _ _ _ _ h2
  obtain ⟨a3, r3, w3⟩ := open34 _ _ _ _ _ _ h3
  obtain ⟨a4, r4, w4⟩ := open57 _ _ _ _ _ _ h4
  obtain ⟨a5, r5, w5⟩ := open58 _ _ _ _ _ _ h5
  obtain ⟨a6, r6, w6⟩ := open59 _ _ _ _ _ _ h6
  obtain ⟨a7, r7, w7⟩ := open60 _ _ _ _ _ _ h7
  obtain ⟨a8, r8, w8⟩ := open61 _ _ _ _ _ _ h8
  obtain ⟨a9, r9, w9⟩ := open62 _ _ _ _ _ _ h9
  obtain ⟨a10, r10, w10⟩ := open24 _ _ _ _ _ _ h10
  exact ⟨⟨a0, a1, a2, a3, a4, a5, a6, a7, a8, a9, a10⟩, (r0.append (r1.append (r2.append (r3.append (r4.append (r5.append (r6.append (r7.append (r8.append (r9.append (r10.append (rfl : Go.MG.RCs _ [] [])))))))))))), w0, w1, w2, w3, w4, w5, w6, w7, w8, w9, w10⟩
end Go.Proofs.YtbaemdkdgghokaaGreat.M
