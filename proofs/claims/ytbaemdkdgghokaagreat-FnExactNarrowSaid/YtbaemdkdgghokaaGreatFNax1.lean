import Derived.Test.YtbaemdkdgghokaaGreatFNax0
import Derived.Test.YtbaemdkdgghokaaGreatProg
namespace Go.Proofs.YtbaemdkdgghokaaGreat.M
open Go Go.MG Tryz
set_option linter.unusedVariables false
set_option linter.unusedSimpArgs false
set_option maxHeartbeats 8000000
set_option maxRecDepth 100000
/-! ### S_Concerns -/
def S_Concerns.j8 (cl7 : (List Int) → Int → T_Config → T_Accept → Option (List Int)) (k : Nat) (v108 : List Int) (v109 : Int) (v110 : T_Config) (v111 : T_Accept) : Option (List Int) := cl7 v108 (IntKind.i64.wrap (v109 + 1)) v110 v111
def S_Concerns.j126 (cl115 : (List Int) → (List Int) → Int → Option (List Int)) (k : Nat) (v1520 v1521 : List Int) (v1522 : Int) : Option (List Int) := cl115 v1520 v1521 (IntKind.i64.wrap (v1522 + 1))
def S_Concerns.j135 (cl133 : (List Int) → (List Int) → Int → Int → Option (List Int)) (k : Nat) (v1631 v1632 : List Int) (v1633 v1634 : Int) : Option (List Int) := cl133 v1631 v1632 v1633 (IntKind.i64.wrap (v1634 + 1))
def S_Concerns.j136 (cl133 : (List Int) → (List Int) → Int → Int → Option (List Int)) (k : Nat) (v1639 v1640 : List Int) (v1641 v1642 : Int) (v1643 : Bool) : Option (List Int) := cond v1643 ((at? v1640 v1641).bind fun b1644 => (at? v1640 v1642).bind fun b1645 => (S_LinkKey k b1644 b1645).bind fun r1646 => (S_l3Put k v1639 r1646).bind fun r1647 => S_Concerns.j135 cl133 k r1647 v1640 v1641 v1642) (S_Concerns.j135 cl133 k v1639 v1640 v1641 v1642)
def S_Concerns.l133 (cl115 : (List Int) → (List Int) → Int → Option (List Int)) : Nat → (List Int) → (List Int) → Int → Int → Option (List Int)
 | 0, _, _, _, _ => none
 | k133 + 1, v1610, v1611, v1612, v1613 => cond (decide (v1613 < (v1611.length : Int))) ((at? v1611 v1613).bind fun b1648 => (S_l6Realm k133 b1648).bind fun r1649 => cond r1649 ((at? v1611 v1612).bind fun b1651 => (at? v1611 v1613).bind fun b1652 => S_Concerns.j136 (S_Concerns.l133 cl115 k133) k133 v1610 v1611 v1612 v1613 (b1651 != b1652)) (S_Concerns.j136 (S_Concerns.l133 cl115 k133) k133 v1610 v1611 v1612 v1613 false)) (S_Concerns.j126 cl115 k133 v1610 v1611 v1612)
def S_Concerns.l115 : Nat → (List Int) → (List Int) → Int → Option (List Int)
 | 0, _, _, _ => none
 | k115 + 1, v1388, v1389, v1390 => cond (decide (v1390 < (v1389.length : Int))) ((at? v1389 v1390).bind fun b1525 => (S_l6Realm k115 b1525).bind fun r1526 => cond (!r1526) (S_Concerns.j126 (S_Concerns.l115 k115) k115 v1388 v1389 v1390) ((at? v1389 v1390).bind fun b1527 => (S_CentreKey k115 b1527).bind fun r1528 => (S_l3Put k115 v1388 r1528).bind fun r1529 => S_Concerns.l133 (S_Concerns.l115 k115) k115 r1529 v1389 v1390 0)) (some v1388)
def S_Concerns.l7 : Nat → (List Int) → Int → T_Config → T_Accept → Option (List Int)
 | 0, _, _, _, _ => none
 | k7 + 1, v99, v100, v101, v102 => cond (decide (v100 < (v102.Via.length : Int))) ((at? v102.Via v100).bind fun b112 => (S_l1In k7 b112 0 2).bind fun r113 => cond r113 ((at? v102.Via v100).bind fun b114 => (S_PrincipalKey k7 (IntKind.i64.wrap (3 + b114))).bind fun r115 => (S_l3Put k7 v99 r115).bind fun r116 => S_Concerns.j8 (S_Concerns.l7 k7) k7 r116 v100 v101 v102) (S_Concerns.j8 (S_Concerns.l7 k7) k7 v99 v100 v101 v102)) ((S_RealmOf k7 v101 v102.Client).bind fun r117 => (at? v101.ServiceRealm v102.Server).bind fun b118 => cond (decide ((2 * (([r117, b118] : List Int).length + v102.Path.length) + 192) * 8 ≤ 281474976710656)) (S_Concerns.l115 k7 v99 (([r117, b118] : List Int) ++ v102.Path) 0) none)
def S_Concerns (k : Nat) (a0 : T_Config) (a1 : T_Accept) : Option (List Int) := (S_ConfigOk k a0).bind fun r7 => cond (!r7) (some ([] : List Int)) (cond (decide (a1.Server < 0)) (some ([] : List Int)) (cond (decide (a1.Server ≥ 3)) (some ([] : List Int)) ((S_l5Principal k a1.Client).bind fun r8 => cond (!r8) (some ([] : List Int)) ((S_PrincipalKey k a1.Client).bind fun r9 => (S_l3Put k ([] : List Int) r9).bind fun r10 => (S_PrincipalKey k (IntKind.i64.wrap (3 + a1.Server))).bind fun r11 => (S_l3Put k r10 r11).bind fun r12 => S_Concerns.l7 k r12 0 a0 a1))))
theorem ent163 : MG.Enters Tryz.prog 163 := en func163
theorem g163 (k : Nat) (g0 g1 g2 g3 g4 g5 : Bool) (a0 : T_Config) (a1 : T_Accept) (r : List Int) (H : S_Concerns k a0 a1 = some r) : Gives Tryz.prog 163 [V.agg (bT_Config g0 g1 g2 g3 a0), V.agg (bT_Accept g4 g5 a1)] [] [V.one (Cell.sl true (List.map eI r))] [] := by
 refine Gives.intro func163 rfl rfl rfl rfl ?_; refine fx fun w0 T S0 ob oh hm => ?_
 have hF := fxe w0 T S0 130 ob oh
 unfold S_Concerns at H; obtain ⟨K, hK⟩ := leK k; refine sr ?_; refine bo 20 ?_; refine bo 21 ?_; refine gn 1 ?_; refine sr ?_; refine L.buildSlice (e := eI) 22 ([] : List Int) underlying24 info3 rfl rfl rfl hF rfl rfl rfl rfl rfl rfl rfl rfl ?_; refine gn 1 ?_; refine WpC.seq (sr ?_); refine lp shape27 ?_; refine cB 23 ent50 (g50 k g0 g1 g2 g3 a0) H fun r7 H => ?_; refine go 2 ?_; refine sH H (fun hc H => ?_) (fun hc H => ?_)
 ·refine gn 15 ?_; refine cT ?_; refine sg 2 ?_; refine WpC.le (Le.shareAll 22 rfl) ?_; cases H; exact WpC.ret rt
 ·refine go 5 ?_; refine sH H (fun hc H => ?_) (fun hc H => ?_)
  ·refine gn 10 ?_; refine cT ?_; refine sg 2 ?_; refine WpC.le (Le.shareAll 22 rfl) ?_; cases H; exact WpC.ret rt
  ·refine go 5 ?_; refine sH H (fun hc H => ?_) (fun hc H => ?_)
   ·refine gn 5 ?_; refine cT ?_; refine sg 2 ?_; refine WpC.le (Le.shareAll 22 rfl) ?_; cases H; exact WpC.ret rt
   ·refine go 2 ?_; refine cB 24 ent51 (g51 k  a1.Client) H fun r8 H => ?_; refine gn 2 ?_; refine cd H (fun hc H => ?_) (fun hc H => ?_)
    ·refine sg 2 ?_; refine WpC.le (Le.shareAll 22 rfl) ?_; cases H; exact WpC.ret rt
    ·refine WpC.skip (WpC.seq ?_); obtain ⟨r9, hr9, H⟩ := bindS H; obtain ⟨r10, hr10, H⟩ := bindS H; obtain ⟨r11, hr11, H⟩ := bindS H; obtain ⟨r12, hr12, H⟩ := bindS H; refine A.lin (fun β => mkStL [(2, iP 20 0), (3, iP 21 0), (5, [(β 10, some (MG.one (Cell.sl true (List.map eI r12)))), (β 4, some (MG.one (Cell.sl true (List.map eI ([] : List Int))))), (true, some (MG.one (Cell.own 22)))]), (31, [(β 4, some (MG.one (Cell.sl true (List.map eI ([] : List Int))))), (β 0, some (MG.one (Cell.own 22)))]), (32, lP (β 1) 21 1), (33, al (β 2) (MG.one (cI a1.Client))), (34, lI (β 3) r9), (35, al (β 4) (MG.one (Cell.sl true (List.map eI r10)))), (36, lP (β 5) 21 0), (37, al (β 6) (MG.one (cI a1.Server))), (38, al (β 7) (MG.one (cI (IntKind.i64.wrap (3 + a1.Server))))), (39, lI (β 8) r11), (40, al (β 9) (MG.one (Cell.sl true (List.map eI r12))))] [(22, [(β 4, none), (true, some (⟨1, List.map eI ([] : List Int)⟩))])] [(20, ai ((bT_Config g0 g1 g2 g3 a0))), (21, ai ((bT_Accept g4 g5 a1)))] 29) [([], [4, 8, 9, 10]), ([], [2, 3, 4, 8, 9, 10]), ([1], [3, 4, 8, 9, 10]), ([1, 2], [4, 8, 9, 10]), ([0, 1, 2, 3], [8, 9, 10]), ([], [6, 7, 8, 9, 10]), ([5], [7, 8, 9, 10]), ([5, 6], [8, 9, 10]), ([0, 1, 2, 3, 4, 5, 6, 7], [9, 10]), ([0, 1, 2, 3, 4, 5, 6, 7, 8], [10]), ([0, 1, 2, 3, 4, 5, 6, 7, 8, 9], [])] 11 mixed rfl (by kernel_rfl) ?_ ?_ ?_
     ·exact Le.lin [] hm rfl (sa (sa2 (kn2 (kn8 kz)))) (ra kz) (ba (ba kz))
     ·repeat' (first | exact trivial | refine ⟨⟨_, rfl, fun β => ?_⟩, ?_⟩ | fail)
      ·refine mv ?_; exact lx [] hm
      ·refine fa underlying74 info3 ?_; exact lx [] hm
      ·refine lp shape3 ?_; exact lx [] hm
      ·refine c0 29 ent127 (g127 k  a1.Client r9 hr9) ?_; exact lx [(25, 29)] hm
      ·refine L.le (Le.shareL 22 rfl) ?_; refine c0 29 ent129 (g129 k  ([] : List Int) r9 r10 hr10) ?_; exact lx [(26, 29)] hm
      ·refine fa underlying74 info3 ?_; exact lx [] hm
      ·refine lp shape3 ?_; exact lx [] hm
      ·refine bi ?_; exact lx [] hm
      ·refine c0 29 ent127 (g127 k  (IntKind.i64.wrap (3 + a1.Server)) r11 hr11) ?_; exact lx [(27, 29)] hm
      ·refine c0 29 ent129 (g129 k  r10 r11 r12 hr12) ?_; exact lx [(28, 29)] hm
      ·refine ag ?_; exact lx [] hm
     refine ⟨_, (lm [(0, 20), (1, 21)] hm : Le _ _ (mkSt [(2, oP 0 0), (3, oP 1 0), (5, MG.one (Cell.sl true (List.map eI r12)))] [] [(0, (bT_Config g0 g1 g2 g3 a0)), (1, (bT_Accept g4 g5 a1))] 2)), ?_⟩; refine WpC.seq (sr ?_); refine gn 1 ?_; refine WpC.block ?_; refine WpC.loopL (P := Tryz.prog) (fun n σ => ∃ (v99 : List Int) (v100 : Int) (v101 : T_Config) (v102 : T_Accept), n ≤ K ∧ S_Concerns.l7 n v99 v100 v101 v102 = some r ∧ σ = mkSt [(2, oP 0 0), (3, oP 1 0), (5, MG.one (Cell.sl true (List.map eI v99))), (6, oI v100)] [] [(0, (bT_Config g0 g1 g2 g3 v101)), (1, (bT_Accept g4 g5 v102))] 2) k ⟨_, ⟨r12, 0, a0, a1, by omega, H, rfl⟩, lm [(0, 0), (1, 1)] hm⟩ ?_; clear H
     rintro k7 _ ⟨v99, v100, v101, v102, hk7, H, rfl⟩
     cases k7 with
     | zero => cases H
     | succ k7 =>
      rw [S_Concerns.l7] at H
      refine WpC.seq (sr ?_); refine go 3 ?_; refine L.lenR (xs := v102.Via) (e := eI) underlying24 hF rfl rfl rfl rfl ?_; refine gn 1 ?_; refine cd H (fun hc H => ?_) (fun hc H => ?_)
      ·refine WpC.skip ?_; refine WpC.join (fun σ => ∃ (kj8 : Nat) (v108 : List Int) (v109 : Int) (v110 : T_Config) (v111 : T_Accept), kj8 ≤ K ∧ S_Concerns.j8 (S_Concerns.l7 k7) kj8 v108 v109 v110 v111 = some r ∧ σ = mkSt [(2, oP 0 0), (3, oP 1 0), (5, MG.one (Cell.sl true (List.map eI v108))), (6, oI v109)] [] [(0, (bT_Config g0 g1 g2 g3 v110)), (1, (bT_Accept g4 g5 v111))] 2) ?_ ?_
       ·rintro _ ⟨kj8, v108, v109, v110, v111, hkj8, H, rfl⟩
        unfold S_Concerns.j8 at H; refine WpC.regionL ?_; refine gn 3 ?_; exact ⟨k7, _, by omega, ⟨v108, (IntKind.i64.wrap (v109 + 1)), v110, v111, by omega, H, rfl⟩, lm [(0, 0), (1, 1)] hm⟩
       ·refine WpC.block (sr ?_); refine go 3 ?_; obtain ⟨b112, hb112, H⟩ := bindS H; refine ix underlying24 info3 hb112 ?_; refine le shape3 ?_; refine cB 2 ent53 (g53 k7  b112 0 2) H fun r113 H => L.nil ?_; refine cd H (fun hc H => ?_) (fun hc H => ?_)
        ·refine WpC.regionL ?_; refine go 4 ?_; obtain ⟨b114, hb114, H⟩ := bindS H; refine ix underlying24 info3 hb114 ?_; refine go 2 ?_; refine cB 3 ent127 (g127 k7  (IntKind.i64.wrap (3 + b114))) H fun r115 H => ?_; refine cB 4 ent129 (g129 k7  v99 r115) H fun r116 H => ?_; refine gn 1 ?_; exact ⟨_, ⟨k7, r116, v100, v101, v102, by omega, H, rfl⟩, lm [(0, 0), (1, 1)] hm⟩
        ·refine WpC.skip ?_; exact ⟨_, ⟨k7, v99, v100, v101, v102, by omega, H, rfl⟩, lm [(0, 0), (1, 1)] hm⟩
      ·refine WpC.exit (WpC.seq ?_); obtain ⟨r117, hr117, H⟩ := bindS H; obtain ⟨b118, hb118, H⟩ := bindS H; obtain ⟨h119, H⟩ := condG H
       refine A.lin (fun β => mkStL [(2, iP 0 0), (3, iP 1 0), (5, ai (MG.one (Cell.sl true (List.map eI v99)))), (7, al (β 14) (MG.one (Cell.own 4))), (63, al (β 0) (agg (bT_Config g0 g1 g2 g3 v101))), (64, lP (β 1) 1 1), (65, al (β 2) (MG.one (cI v102.Client))), (66, lI (β 3) r117), (67, lP (β 4) 0 1), (68, al (β 5) (MG.one (Cell.sl g1 (List.map eI v101.ServiceRealm)))), (69, lP (β 6) 1 0), (70, al (β 7) (MG.one (cI v102.Server))), (71, al (β 8) (MG.one (Cell.pe g1 (eI b118) 0))), (72, lI (β 9) b118), (73, al (β 10) (MG.one (Cell.own 3))), (74, lP (β 11) 1 11), (75, al (β 12) (MG.one (Cell.sl g4 (List.map eI v102.Path)))), (76, al (β 13) (MG.one (Cell.own 4)))] [(3, [(β 13, none), (β 10, some (⟨1, List.map eI ([r117, b118] : List Int)⟩))]), (4, al (β 13) (⟨1, List.map eI (([r117, b118] : List Int) ++ v102.Path)⟩))] [(0, ai ((bT_Config g0 g1 g2 g3 v101))), (1, ai ((bT_Accept g4 g5 v102)))] 5) [([], [3, 10, 13, 14]), ([], [2, 3, 10, 13, 14]), ([1], [3, 10, 13, 14]), ([0, 1, 2], [10, 13, 14]), ([], [5, 8, 9, 10, 13, 14]), ([4], [8, 9, 10, 13, 14]), ([], [7, 8, 9, 10, 13, 14]), ([6], [8, 9, 10, 13, 14]), ([4, 5, 6, 7], [9, 10, 13, 14]), ([4, 5, 6, 7, 8], [10, 13, 14]), ([0, 1, 2, 3, 4, 5, 6, 7, 8, 9], [13, 14]), ([], [12, 13, 14]), ([11], [13, 14]), ([0, 1, 2, 3, 4, 5, 6, 7, 8, 9, 10, 11, 12], [14]), ([0, 1, 2, 3, 4, 5, 6, 7, 8, 9, 10, 11, 12, 13], [])] 15 mixed rfl (by kernel_rfl) ?_ ?_ ?_
       ·exact Le.lin [] hm rfl (sa (sa2 (kn (kn2 (kn4 (kn8 kz)))))) (kn2 kz) (ba (ba kz))
       ·repeat' (first | exact trivial | refine ⟨⟨_, rfl, fun β => ?_⟩, ?_⟩ | fail)
        ·refine lp shape27 ?_; exact lx [] hm
        ·refine fa underlying74 info3 ?_; exact lx [] hm
        ·refine lp shape3 ?_; exact lx [] hm
        ·refine c0 5 ent54 (g54 k7 g0 g1 g2 g3 v101 v102.Client r117 hr117) ?_; exact lx [(2, 5)] hm
        ·refine fa underlying27 info24 ?_; exact lx [] hm
        ·refine lp shape24 ?_; exact lx [] hm
        ·refine fa underlying74 info3 ?_; exact lx [] hm
        ·refine lp shape3 ?_; exact lx [] hm
        ·refine ix underlying24 info3 hb118 ?_; exact lx [] hm
        ·refine le shape3 ?_; exact lx [] hm
        ·refine L.buildSlice (e := eI) 5 ([r117, b118] : List Int) underlying24 info3 rfl rfl rfl hF rfl rfl rfl rfl rfl rfl rfl rfl ?_; exact lx [(3, 5)] hm
        ·refine fa underlying74 info24 ?_; exact lx [] hm
        ·refine lp shape24 ?_; exact lx [] hm
        ·refine L.append (xs := ([r117, b118] : List Int)) (ys := v102.Path) (e := eI) 5 underlying24 info3 rfl rfl hF rfl rfl rfl rfl rfl rfl rfl rfl (fun _ => rfl) (fun _ _ h1 h2 => by cases h1; cases h2; rfl) ⟨_, underlying24⟩ (of_decide_eq_true h119) rfl rfl ?_; exact lx [(4, 5)] hm
        ·refine ag ?_; exact lx [] hm
       refine ⟨_, (lm [(0, 4)] hm : Le _ _ (mkSt [(5, MG.one (Cell.sl true (List.map eI v99))), (7, MG.one (Cell.own 0))] [(0, ⟨1, List.map eI (([r117, b118] : List Int) ++ v102.Path)⟩)] [] 1)), ?_⟩; refine WpC.seq (sr ?_); refine gn 1 ?_; refine WpC.block ?_; refine WpC.loopL (P := Tryz.prog) (fun n σ => ∃ (v1388 v1389 : List Int) (v1390 : Int), n ≤ K ∧ S_Concerns.l115 n v1388 v1389 v1390 = some r ∧ σ = mkSt [(5, MG.one (Cell.sl true (List.map eI v1388))), (7, MG.one (Cell.own 0)), (8, oI v1390)] [(0, ⟨1, List.map eI v1389⟩)] [] 1) k7 ⟨_, ⟨v99, (([r117, b118] : List Int) ++ v102.Path), 0, by omega, H, rfl⟩, lm [(0, 0)] hm⟩ ?_; clear H
       rintro k115 _ ⟨v1388, v1389, v1390, hk115, H, rfl⟩
       cases k115 with
       | zero => cases H
       | succ k115 =>
        rw [S_Concerns.l115] at H
        refine WpC.seq (sr ?_); refine go 2 ?_; refine L.lenR (xs := v1389) (e := eI) underlying24 hF rfl rfl rfl rfl ?_; refine gn 1 ?_; refine cd H (fun hc H => ?_) (fun hc H => ?_)
        ·refine WpC.skip ?_; refine WpC.join (fun σ => ∃ (kj126 : Nat) (v1520 v1521 : List Int) (v1522 : Int), kj126 ≤ K ∧ S_Concerns.j126 (S_Concerns.l115 k115) kj126 v1520 v1521 v1522 = some r ∧ σ = mkSt [(5, MG.one (Cell.sl true (List.map eI v1520))), (7, MG.one (Cell.own 0)), (8, oI v1522)] [(0, ⟨1, List.map eI v1521⟩)] [] 1) ?_ ?_
         ·rintro _ ⟨kj126, v1520, v1521, v1522, hkj126, H, rfl⟩
          unfold S_Concerns.j126 at H; refine WpC.regionL ?_; refine gn 3 ?_; exact ⟨k115, _, by omega, ⟨v1520, v1521, (IntKind.i64.wrap (v1522 + 1)), by omega, H, rfl⟩, lm [(0, 0)] hm⟩
         ·refine WpC.block (WpC.seq (sr ?_)); refine go 2 ?_; obtain ⟨b1525, hb1525, H⟩ := bindS H; refine ix underlying24 info3 hb1525 ?_; refine L.loadEp (xs := v1389) (e := eI) shape3 hF rfl rfl rfl rfl (at?_get hb1525).2 rfl rfl ?_; refine cB 1 ent137 (g137 k115  b1525) H fun r1526 H => ?_; refine gn 1 ?_; refine cd H (fun hc H => ?_) (fun hc H => ?_)
          ·refine WpC.exit ?_; exact ⟨_, ⟨k115, v1388, v1389, v1390, by omega, H, rfl⟩, lm [(0, 0)] hm⟩
          ·refine WpC.skip (sr ?_); refine go 3 ?_; obtain ⟨b1527, hb1527, H⟩ := bindS H; refine ix underlying24 info3 hb1527 ?_; refine L.loadEp (xs := v1389) (e := eI) shape3 hF rfl rfl rfl rfl (at?_get hb1527).2 rfl rfl ?_; refine cB 2 ent128 (g128 k115  b1527) H fun r1528 H => ?_; refine cB 3 ent129 (g129 k115  v1388 r1528) H fun r1529 H => ?_; refine gn 1 ?_; refine sg 1 ?_; refine WpC.block ?_; refine WpC.loopL (P := Tryz.prog) (fun n σ => ∃ (v1610 v1611 : List Int) (v1612 v1613 : Int), n ≤ K ∧ S_Concerns.l133 (S_Concerns.l115 k115) n v1610 v1611 v1612 v1613 = some r ∧ σ = mkSt [(5, MG.one (Cell.sl true (List.map eI v1610))), (7, MG.one (Cell.own 0)), (8, oI v1612), (9, oI v1613)] [(0, ⟨1, List.map eI v1611⟩)] [] 1) k115 ⟨_, ⟨r1529, v1389, v1390, 0, by omega, H, rfl⟩, lm [(0, 0)] hm⟩ ?_; clear H
           rintro k133 _ ⟨v1610, v1611, v1612, v1613, hk133, H, rfl⟩
           cases k133 with
           | zero => cases H
           | succ k133 =>
            rw [S_Concerns.l133] at H
            refine WpC.seq (sr ?_); refine go 2 ?_; refine L.lenR (xs := v1611) (e := eI) underlying24 hF rfl rfl rfl rfl ?_; refine gn 1 ?_; refine cd H (fun hc H => ?_) (fun hc H => ?_)
            ·refine WpC.skip ?_; refine WpC.join (fun σ => ∃ (kj135 : Nat) (v1631 v1632 : List Int) (v1633 v1634 : Int), kj135 ≤ K ∧ S_Concerns.j135 (S_Concerns.l133 (S_Concerns.l115 k115) k133) kj135 v1631 v1632 v1633 v1634 = some r ∧ σ = mkSt [(5, MG.one (Cell.sl true (List.map eI v1631))), (7, MG.one (Cell.own 0)), (8, oI v1633), (9, oI v1634)] [(0, ⟨1, List.map eI v1632⟩)] [] 1) ?_ ?_
             ·rintro _ ⟨kj135, v1631, v1632, v1633, v1634, hkj135, H, rfl⟩
              unfold S_Concerns.j135 at H; refine WpC.regionL ?_; refine gn 3 ?_; exact ⟨k133, _, by omega, ⟨v1631, v1632, v1633, (IntKind.i64.wrap (v1634 + 1)), by omega, H, rfl⟩, lm [(0, 0)] hm⟩
             ·refine WpC.block ?_; refine WpC.join (fun σ => ∃ (kj136 : Nat) (v1639 v1640 : List Int) (v1641 v1642 : Int) (v1643 : Bool), kj136 ≤ K ∧ S_Concerns.j136 (S_Concerns.l133 (S_Concerns.l115 k115) k133) kj136 v1639 v1640 v1641 v1642 v1643 = some r ∧ σ = mkSt [(5, MG.one (Cell.sl true (List.map eI v1639))), (7, MG.one (Cell.own 0)), (8, oI v1641), (9, oI v1642), (117, oL v1643)] [(0, ⟨1, List.map eI v1640⟩)] [] 1) ?_ ?_
              ·rintro _ ⟨kj136, v1639, v1640, v1641, v1642, v1643, hkj136, H, rfl⟩
               unfold S_Concerns.j136 at H; refine cd H (fun hc H => ?_) (fun hc H => ?_)
               ·obtain ⟨b1644, hb1644, H⟩ := bindS H; obtain ⟨b1645, hb1645, H⟩ := bindS H; obtain ⟨r1646, hr1646, H⟩ := bindS H; obtain ⟨r1647, hr1647, H⟩ := bindS H; refine A.begin mixed rfl rfl ?_; intro W hI hO
                have n511 : W 3 #[true, true, true, true, true, true, true, true, true, false, false, false] (mkSt [(5, MG.one (Cell.sl true (List.map eI v1639))), (7, MG.one (Cell.own 0)), (8, oI v1641), (9, oI v1642), (118, MG.one (Cell.sl true (List.map eI v1639))), (122, oI b1644), (126, oI b1645)] [(0, ⟨1, List.map eI v1640⟩)] [] 1) := by
                 refine hI _ _ _ ?_; refine A.all [9] (by kernel_rfl) rfl ⟨⟨_, rfl, ?_⟩, trivial⟩; refine c0 1 ent130 (g130 kj136  b1644 b1645 r1646 hr1646) (L.nil ?_); refine A.all [10] (by kernel_rfl) rfl ⟨⟨_, rfl, ?_⟩, trivial⟩; refine c0 2 ent129 (g129 kj136  v1639 r1646 r1647 hr1647) (L.nil ?_); refine tA 11 ?_; refine A.le (τ := mkSt [(5, MG.one (Cell.sl true (List.map eI r1647))), (7, MG.one (Cell.own 0)), (8, oI v1641), (9, oI v1642)] [(0, ⟨1, List.map eI v1640⟩)] [] 1) (lm [(0, 0)] hm) ?_; refine A.done (by kernel_rfl) ?_; exact ⟨_, ⟨kj136, r1647, v1640, v1641, v1642, by omega, H, rfl⟩, lm [(0, 0)] hm⟩
                refine hI _ _ _ ?_; refine tM 0 ?_; refine tM 1 ?_; refine tM 2 ?_; refine Atk 3 rfl (Ca.indexAddr) (fun Q0 k0 => ix underlying24 info3 hb1644 (L.nil k0)) ?_; refine tM 5 ?_; refine tM 6 ?_; refine Atk 7 rfl (Ca.indexAddr) (fun Q0 k0 => ix underlying24 info3 hb1645 (L.nil k0)) ?_; refine A.all [4, 8] (by kernel_rfl) rfl ⟨⟨_, rfl, ?_⟩, ⟨_, rfl, ?_⟩, trivial⟩
                ·refine L.loadEp (xs := v1640) (e := eI) shape3 hF rfl rfl rfl rfl (at?_get hb1644).2 rfl rfl ?_; refine L.nil ?_; refine A.all [8] (by kernel_rfl) rfl ⟨⟨_, rfl, ?_⟩, trivial⟩; refine L.loadEp (xs := v1640) (e := eI) shape3 hF rfl rfl rfl rfl (at?_get hb1645).2 rfl rfl ?_; refine L.nil ?_; exact A.on (hO _ _ _ n511) (lm [(0, 0)] hm)
                ·refine L.loadEp (xs := v1640) (e := eI) shape3 hF rfl rfl rfl rfl (at?_get hb1645).2 rfl rfl ?_; refine L.nil ?_; refine A.all [4] (by kernel_rfl) rfl ⟨⟨_, rfl, ?_⟩, trivial⟩; refine L.loadEp (xs := v1640) (e := eI) shape3 hF rfl rfl rfl rfl (at?_get hb1644).2 rfl rfl ?_; refine L.nil ?_; exact A.on (hO _ _ _ n511) (lm [(0, 0)] hm)
               ·refine WpC.skip ?_; exact ⟨_, ⟨kj136, v1639, v1640, v1641, v1642, by omega, H, rfl⟩, lm [(0, 0)] hm⟩
              ·obtain ⟨b1648, hb1648, H⟩ := bindS H; obtain ⟨r1649, hr1649, H⟩ := bindS H
               rcases Bool.eq_false_or_eq_true (r1649) with hc1650 | hc1650
               ·replace H := condT hc1650 H
                obtain ⟨b1651, hb1651, H⟩ := bindS H; obtain ⟨b1652, hb1652, H⟩ := bindS H; refine A.begin mixed rfl rfl ?_; intro W hI hO
                have n16383 : W 2 #[true, true, true, true, true, true, true, true, true, true, true, true, true, true, false, false] (mkSt [(5, MG.one (Cell.sl true (List.map eI v1610))), (7, MG.one (Cell.own 0)), (8, oI v1612), (9, oI v1613), (107, oL true), (111, oI b1651), (115, oI b1652)] [(0, ⟨1, List.map eI v1611⟩)] [] 1) := by
                 refine hI _ _ _ ?_; refine Atk 14 rfl (Ca.bin rfl rfl (calm_int _ _ _ _ _ _ _ _)) (fun Q0 k0 => bi (L.nil k0)) ?_; refine tP 15 ?_; refine A.le (τ := mkSt [(5, MG.one (Cell.sl true (List.map eI v1610))), (7, MG.one (Cell.own 0)), (8, oI v1612), (9, oI v1613), (117, oL (b1651 != b1652))] [(0, ⟨1, List.map eI v1611⟩)] [] 1) (lm [(0, 0)] hm) ?_; refine A.done (by kernel_rfl) ?_; exact ⟨_, ⟨k133, v1610, v1611, v1612, v1613, (b1651 != b1652), by omega, H, rfl⟩, lm [(0, 0)] hm⟩
                refine hI _ _ _ ?_; refine tM 0 ?_; refine tM 1 ?_; refine Atk 2 rfl (Ca.indexAddr) (fun Q0 k0 => ix underlying24 info3 hb1648 (L.nil k0)) ?_; refine A.all [3] (by kernel_rfl) rfl ⟨⟨_, rfl, ?_⟩, trivial⟩; refine L.loadEp (xs := v1611) (e := eI) shape3 hF rfl rfl rfl rfl (at?_get hb1648).2 rfl rfl ?_; refine L.nil ?_; refine A.all [4] (by kernel_rfl) rfl ⟨⟨_, rfl, ?_⟩, trivial⟩; refine c0 1 ent137 (g137 k133  b1648 r1649 hr1649) (L.nil ?_); refine tM 5 ?_; refine A.le (τ := mkSt [(5, MG.one (Cell.sl true (List.map eI v1610))), (7, MG.one (Cell.own 0)), (8, oI v1612), (9, oI v1613), (107, oL true)] [(0, ⟨1, List.map eI v1611⟩)] [] 1) (Le.mk [(0, 0)] hm rfl (Sa4 (Sa1 trivial rfl (congrArg (fun b => some (MG.one (cL b))) hc1650))) (Ra1 trivial) trivial) ?_; refine tM 6 ?_; refine tM 7 ?_; refine Atk 8 rfl (Ca.indexAddr) (fun Q0 k0 => ix underlying24 info3 hb1651 (L.nil k0)) ?_; refine tM 10 ?_; refine tM 11 ?_; refine Atk 12 rfl (Ca.indexAddr) (fun Q0 k0 => ix underlying24 info3 hb1652 (L.nil k0)) ?_; refine A.all [9, 13] (by kernel_rfl) rfl ⟨⟨_, rfl, ?_⟩, ⟨_, rfl, ?_⟩, trivial⟩
                ·refine L.loadEp (xs := v1611) (e := eI) shape3 hF rfl rfl rfl rfl (at?_get hb1651).2 rfl rfl ?_; refine L.nil ?_; refine A.all [13] (by kernel_rfl) rfl ⟨⟨_, rfl, ?_⟩, trivial⟩; refine L.loadEp (xs := v1611) (e := eI) shape3 hF rfl rfl rfl rfl (at?_get hb1652).2 rfl rfl ?_; refine L.nil ?_; exact A.on (hO _ _ _ n16383) (lm [(0, 0)] hm)
                ·refine L.loadEp (xs := v1611) (e := eI) shape3 hF rfl rfl rfl rfl (at?_get hb1652).2 rfl rfl ?_; refine L.nil ?_; refine A.all [9] (by kernel_rfl) rfl ⟨⟨_, rfl, ?_⟩, trivial⟩; refine L.loadEp (xs := v1611) (e := eI) shape3 hF rfl rfl rfl rfl (at?_get hb1651).2 rfl rfl ?_; refine L.nil ?_; exact A.on (hO _ _ _ n16383) (lm [(0, 0)] hm)
               ·replace H := condF hc1650 H
                refine A.begin mixed rfl rfl ?_; intro W hI hO; refine hI _ _ _ ?_; refine tM 0 ?_; refine tM 1 ?_; refine Atk 2 rfl (Ca.indexAddr) (fun Q0 k0 => ix underlying24 info3 hb1648 (L.nil k0)) ?_; refine A.all [3] (by kernel_rfl) rfl ⟨⟨_, rfl, ?_⟩, trivial⟩; refine L.loadEp (xs := v1611) (e := eI) shape3 hF rfl rfl rfl rfl (at?_get hb1648).2 rfl rfl ?_; refine L.nil ?_; refine A.all [4] (by kernel_rfl) rfl ⟨⟨_, rfl, ?_⟩, trivial⟩; refine c0 1 ent137 (g137 k133  b1648 r1649 hr1649) (L.nil ?_); refine tM 5 ?_; refine A.le (τ := mkSt [(5, MG.one (Cell.sl true (List.map eI v1610))), (7, MG.one (Cell.own 0)), (8, oI v1612), (9, oI v1613), (107, oL false)] [(0, ⟨1, List.map eI v1611⟩)] [] 1) (Le.mk [(0, 0)] hm rfl (Sa4 (Sa1 trivial rfl (congrArg (fun b => some (MG.one (cL b))) hc1650))) (Ra1 trivial) trivial) ?_; refine tO 6 ?_; refine tO 7 ?_; refine tO 8 ?_; refine tO 9 ?_; refine tO 10 ?_; refine tO 11 ?_; refine tO 12 ?_; refine tO 13 ?_; refine tO 14 ?_; refine tP 15 ?_
                refine A.le (τ := mkSt [(5, MG.one (Cell.sl true (List.map eI v1610))), (7, MG.one (Cell.own 0)), (8, oI v1612), (9, oI v1613), (117, oL false)] [(0, ⟨1, List.map eI v1611⟩)] [] 1) (lm [(0, 0)] hm) ?_; refine A.done (by kernel_rfl) ?_; exact ⟨_, ⟨k133, v1610, v1611, v1612, v1613, false, by omega, H, rfl⟩, lm [(0, 0)] hm⟩
            ·refine WpC.exit ?_; exact ⟨_, ⟨k133, v1610, v1611, v1612, by omega, H, rfl⟩, lm [(0, 0)] hm⟩
        ·refine WpC.exit (sr ?_); refine gn 2 ?_; cases H; exact WpC.ret rt
/-! ### S_l11Meets -/
def S_l11Meets.l2 : Nat → (List Int) → (List Int) → Int → Option Bool
 | 0, _, _, _ => none
 | k2 + 1, v34, v35, v36 => cond (decide (v36 < (v34.length : Int))) ((at? v34 v36).bind fun b39 => (S_l3Has k2 v35 b39).bind fun r40 => cond r40 (some true) ((S_l11Meets.l2 k2) v34 v35 (IntKind.i64.wrap (v36 + 1)))) (some false)
def S_l11Meets (k : Nat) (a0 a1 : List Int) : Option Bool := S_l11Meets.l2 k a0 a1 0
theorem ent113 : MG.Enters Tryz.prog 113 := en func113
theorem g113 (k : Nat) (g0 g1 : Bool) (a0 a1 : List Int) (r : Bool) (H : S_l11Meets k a0 a1 = some r) : Gives Tryz.prog 113 [V.one (Cell.sl g0 (List.map eI a0)), V.one (Cell.sl g1 (List.map eI a1))] [] [V.one (cL r)] [] := by
 refine Gives.intro func113 rfl rfl rfl rfl ?_; refine fx fun w0 T S0 ob oh hm => ?_
 have hF := fxe w0 T S0 18 ob oh
 unfold S_l11Meets at H; obtain ⟨K, hK⟩ := leK k; refine sg 1 ?_; refine WpC.seq (sr ?_); refine gn 1 ?_; refine WpC.block ?_; refine WpC.loopL (P := Tryz.prog) (fun n σ => ∃ (v34 v35 : List Int) (v36 : Int), n ≤ K ∧ S_l11Meets.l2 n v34 v35 v36 = some r ∧ σ = mkSt [(0, MG.one (Cell.sl g0 (List.map eI v34))), (1, MG.one (Cell.sl g1 (List.map eI v35))), (5, oI v36)] [] [] 0) k ⟨_, ⟨a0, a1, 0, by omega, H, rfl⟩, lm [] hm⟩ ?_; clear H
 rintro k2 _ ⟨v34, v35, v36, hk2, H, rfl⟩
 cases k2 with
 | zero => cases H
 | succ k2 =>
  rw [S_l11Meets.l2] at H
  refine WpC.seq (sr ?_); refine go 2 ?_; refine L.lenR (xs := v34) (e := eI) underlying24 hF rfl rfl rfl rfl ?_; refine gn 1 ?_; refine cd H (fun hc H => ?_) (fun hc H => ?_)
  ·refine WpC.skip (WpC.seq (WpC.block (sr ?_))); refine go 3 ?_; obtain ⟨b39, hb39, H⟩ := bindS H; refine ix underlying24 info3 hb39 ?_; refine le shape3 ?_; refine cB 0 ent114 (g114 k2 g1 v35 b39) H fun r40 H => L.nil ?_; refine cd H (fun hc H => ?_) (fun hc H => ?_)
   ·refine sg 1 ?_; cases H; exact WpC.ret rt
   ·refine WpC.skip (WpC.regionL ?_); refine gn 3 ?_; exact ⟨k2, _, by omega, ⟨v34, v35, (IntKind.i64.wrap (v36 + 1)), by omega, H, rfl⟩, lm [] hm⟩
  ·refine WpC.exit (sr ?_); refine gn 1 ?_; cases H; exact WpC.ret rt
/-! ### S_l11Honest -/
def S_l11Honest (k : Nat) (a0 : T_World) (a1 : Int) : Option Bool := (at? a0.Accepts a1).bind fun b1 => (S_Concerns k a0.Config b1).bind fun r2 => cond (decide ((r2.length : Int) > 0)) ((part? a0.Leaked 0 b1.Leaks).bind fun b5 => (S_l11Meets k r2 b5).bind fun r6 => some (!r6)) (some false)
theorem ent78 : MG.Enters Tryz.prog 78 := en func78
theorem g78 (k : Nat) (g0 g1 g2 g3 g4 g5 g6 g7 g8 g9 g10 g11 g12 : Bool) (a0 : T_World) (a1 : Int) (r : Bool) (H : S_l11Honest k a0 a1 = some r) : Gives Tryz.prog 78 [V.agg (bT_World g0 g1 g2 g3 g4 g5 g6 g7 g8 g9 g10 g11 g12 a0), V.one (cI a1)] [] [V.one (cL r)] [] := by
 refine Gives.intro func78 rfl rfl rfl rfl ?_; refine fx fun w0 T S0 ob oh hm => ?_
 have hF := fxe w0 T S0 29 ob oh
 unfold S_l11Honest at H; obtain ⟨K, hK⟩ := leK k; refine sr ?_; refine bo 17 ?_; refine gn 1 ?_; refine sy 3 ?_; obtain ⟨b1, hb1, H⟩ := bindS H; refine ix underlying41 info74 hb1 ?_; refine le shape74 ?_; refine alc 18 info74 ?_; refine gn 1 ?_; refine sy 3 ?_; refine cB 19 ent163 (g163 k g0 g1 g2 g3 g11 g11 a0.Config b1) H fun r2 H => ?_; refine gn 1 ?_; refine sy 1 ?_; refine L.lenR (xs := r2) (e := eI) underlying24 hF rfl rfl rfl rfl ?_; refine go 2 ?_; refine sH H (fun hc H => ?_) (fun hc H => ?_)
 ·refine go 5 ?_; obtain ⟨b5, hb5, H⟩ := bindS H; refine L.cutR (xs := a0.Leaked) (ys := b5) (e := eI) underlying24 info3 hF rfl rfl rfl rfl rfl hb5 (fun _ => rfl) ?_; refine cB 20 ent113 (g113 k true g12 r2 b5) H fun r6 H => ?_; refine gn 3 ?_; cases H; exact WpC.ret rt
 ·refine gn 10 ?_; cases H; exact WpC.ret rt
/-! ### S_Find -/
def S_Find.l2 : Nat → (List T_Event) → Int → Int → Option Int
 | 0, _, _, _ => none
 | k2 + 1, v24, v25, v26 => cond (decide (v26 < (v24.length : Int))) ((at? v24 v26).bind fun b28 => cond (b28.Key == v25) (some v26) ((S_Find.l2 k2) v24 v25 (IntKind.i64.wrap (v26 + 1)))) (some (-1))
def S_Find (k : Nat) (a0 : List T_Event) (a1 : Int) : Option Int := S_Find.l2 k a0 a1 0
theorem ent122 : MG.Enters Tryz.prog 122 := en func122
theorem g122 (k : Nat) (g0 : Bool) (a0 : List T_Event) (a1 r : Int) (H : S_Find k a0 a1 = some r) : Gives Tryz.prog 122 [V.one (Cell.sl g0 (List.map eT_Event a0)), V.one (cI a1)] [] [V.one (cI r)] [] := by
 refine Gives.intro func122 rfl rfl rfl rfl ?_; refine fx fun w0 T S0 ob oh hm => ?_
 have hF := fxe w0 T S0 20 ob oh
 unfold S_Find at H; obtain ⟨K, hK⟩ := leK k; refine sg 1 ?_; refine WpC.seq (sr ?_); refine gn 1 ?_; refine WpC.block ?_; refine WpC.loopL (P := Tryz.prog) (fun n σ => ∃ (v24 : List T_Event) (v25 v26 : Int), n ≤ K ∧ S_Find.l2 n v24 v25 v26 = some r ∧ σ = mkSt [(0, MG.one (Cell.sl g0 (List.map eT_Event v24))), (1, oI v25), (5, oI v26)] [] [] 0) k ⟨_, ⟨a0, a1, 0, by omega, H, rfl⟩, lm [] hm⟩ ?_; clear H
 rintro k2 _ ⟨v24, v25, v26, hk2, H, rfl⟩
 cases k2 with
 | zero => cases H
 | succ k2 =>
  rw [S_Find.l2] at H
  refine WpC.seq (sr ?_); refine go 2 ?_; refine L.lenR (xs := v24) (e := eT_Event) underlying40 hF rfl rfl rfl rfl ?_; refine gn 1 ?_; refine cd H (fun hc H => ?_) (fun hc H => ?_)
  ·refine WpC.skip (WpC.seq (WpC.block (sr ?_))); refine go 2 ?_; obtain ⟨b28, hb28, H⟩ := bindS H; refine ix underlying40 info47 hb28 ?_; refine gn 4 ?_; refine cd H (fun hc H => ?_) (fun hc H => ?_)
   ·refine sg 2 ?_; cases H; exact WpC.ret rt
   ·refine WpC.skip (WpC.regionL ?_); refine gn 3 ?_; exact ⟨k2, _, by omega, ⟨v24, v25, (IntKind.i64.wrap (v26 + 1)), by omega, H, rfl⟩, lm [] hm⟩
  ·refine WpC.exit (sr ?_); refine gn 1 ?_; cases H; exact WpC.ret rt
/-! ### S_Chain -/
def S_Chain.j19 (cl17 : (List T_Event) → Int → (List Int) → Int → Option (List Int)) (k : Nat) (v156 : List T_Event) (v157 : Int) (v158 : List Int) (v159 : Int) : Option (List Int) := cl17 v156 v157 v158 (IntKind.i64.wrap (v159 + 1))
def S_Chain.j20 (cl17 : (List T_Event) → Int → (List Int) → Int → Option (List Int)) (k : Nat) (v163 : List T_Event) (v164 : List Int) (v165 v166 : Int) (v167 : T_Event) (v168 : Bool) : Option (List Int) := cond v168 ((at? v163 v166).bind fun b169 => S_Chain.j19 cl17 k v163 b169.Parent v164 v165) (cond (v167.Kind == 4) ((at? v163 v166).bind fun b170 => S_Chain.j19 cl17 k v163 b170.Evid v164 v165) (some ([] : List Int)))
def S_Chain.l17 : Nat → (List T_Event) → Int → (List Int) → Int → Option (List Int)
 | 0, _, _, _, _ => none
 | k17 + 1, v141, v142, v143, v144 => cond (decide (v144 ≤ (v141.length : Int))) ((S_Find k17 v141 v142).bind fun r160 => cond (decide (r160 < 0)) (some ([] : List Int)) (cond (decide ((2 * (([r160] : List Int).length + v143.length) + 192) * 8 ≤ 281474976710656)) ((at? v141 r160).bind fun b162 => cond (b162.Kind == 1) (some (([r160] : List Int) ++ v143)) (cond (b162.Kind == 2) (S_Chain.j20 (S_Chain.l17 k17) k17 v141 (([r160] : List Int) ++ v143) v144 r160 b162 (b162.Kind == 2)) (S_Chain.j20 (S_Chain.l17 k17) k17 v141 (([r160] : List Int) ++ v143) v144 r160 b162 (b162.Kind == 3)))) none)) (some ([] : List Int))
def S_Chain (k : Nat) (a0 : List T_Event) (a1 : Int) : Option (List Int) := S_Chain.l17 k a0 a1 ([] : List Int) 0
theorem ent42 : MG.Enters Tryz.prog 42 := en func42
theorem g42 (k : Nat) (g0 : Bool) (a0 : List T_Event) (a1 : Int) (r : List Int) (H : S_Chain k a0 a1 = some r) : Gives Tryz.prog 42 [V.one (Cell.sl g0 (List.map eT_Event a0)), V.one (cI a1)] [] [V.one (Cell.ow 1 (List.map eI r))] [] := by
 refine Gives.intro func42 rfl rfl rfl rfl ?_; refine fx fun w0 T S0 ob oh hm => ?_
 have hF := fxe w0 T S0 50 ob oh
 unfold S_Chain at H; obtain ⟨K, hK⟩ := leK k; refine sg 1 ?_; refine sr ?_; refine L.buildSlice (e := eI) 2 ([] : List Int) underlying24 info3 rfl rfl rfl hF rfl rfl rfl rfl rfl rfl rfl rfl ?_; refine gn 1 ?_; refine WpC.seq (sr ?_); refine gn 1 ?_; refine WpC.block ?_; refine WpC.loopL (P := Tryz.prog) (fun n σ => ∃ (v141 : List T_Event) (v142 : Int) (v143 : List Int) (v144 : Int), n ≤ K ∧ S_Chain.l17 n v141 v142 v143 v144 = some r ∧ σ = mkSt [(0, MG.one (Cell.sl g0 (List.map eT_Event v141))), (1, oI v142), (5, MG.one (Cell.own 0)), (6, oI v144)] [(0, ⟨1, List.map eI v143⟩)] [] 1) k ⟨_, ⟨a0, a1, ([] : List Int), 0, by omega, H, rfl⟩, lm [(0, 2)] hm⟩ ?_; clear H
 rintro k17 _ ⟨v141, v142, v143, v144, hk17, H, rfl⟩
 cases k17 with
 | zero => cases H
 | succ k17 =>
  rw [S_Chain.l17] at H
  refine WpC.seq (sr ?_); refine go 2 ?_; refine L.lenR (xs := v141) (e := eT_Event) underlying40 hF rfl rfl rfl rfl ?_; refine gn 1 ?_; refine cd H (fun hc H => ?_) (fun hc H => ?_)
  ·refine WpC.skip ?_; refine WpC.join (fun σ => ∃ (kj19 : Nat) (v156 : List T_Event) (v157 : Int) (v158 : List Int) (v159 : Int), kj19 ≤ K ∧ S_Chain.j19 (S_Chain.l17 k17) kj19 v156 v157 v158 v159 = some r ∧ σ = mkSt [(0, MG.one (Cell.sl g0 (List.map eT_Event v156))), (1, oI v157), (5, MG.one (Cell.own 0)), (6, oI v159)] [(0, ⟨1, List.map eI v158⟩)] [] 1) ?_ ?_
   ·rintro _ ⟨kj19, v156, v157, v158, v159, hkj19, H, rfl⟩
    unfold S_Chain.j19 at H; refine WpC.regionL ?_; refine gn 3 ?_; exact ⟨k17, _, by omega, ⟨v156, v157, v158, (IntKind.i64.wrap (v159 + 1)), by omega, H, rfl⟩, lm [(0, 0)] hm⟩
   ·refine WpC.block (sr ?_); refine go 2 ?_; refine cB 1 ent122 (g122 k17 g0 v141 v142) H fun r160 H => ?_; refine gn 1 ?_; refine WpC.seq (sr ?_); refine gn 2 ?_; refine cd H (fun hc H => ?_) (fun hc H => ?_)
    ·refine sr ?_; refine L.buildSlice (e := eI) 2 ([] : List Int) underlying24 info3 rfl rfl rfl hF rfl rfl rfl rfl rfl rfl rfl rfl ?_; refine gn 1 ?_; cases H; exact WpC.ret rt
    ·refine WpC.skip (sr ?_); refine mv ?_; refine L.buildSlice (e := eI) 2 ([r160] : List Int) underlying24 info3 rfl rfl rfl hF rfl rfl rfl rfl rfl rfl rfl rfl ?_; refine mv ?_; obtain ⟨h161, H⟩ := condG H; refine L.append (xs := ([r160] : List Int)) (ys := v143) (e := eI) 3 underlying24 info3 rfl rfl hF rfl rfl rfl rfl rfl rfl rfl rfl (fun _ => rfl) (fun _ _ h1 h2 => by cases h1; cases h2; rfl) ⟨_, underlying24⟩ (of_decide_eq_true h161) rfl rfl ?_; refine gn 1 ?_; refine sy 2 ?_; obtain ⟨b162, hb162, H⟩ := bindS H; refine ix underlying40 info47 hb162 ?_; refine gn 2 ?_; refine WpC.block (sr ?_); refine gn 2 ?_; refine cd H (fun hc H => ?_) (fun hc H => ?_)
     ·refine sg 2 ?_; cases H; exact WpC.ret rt
     ·refine WpC.join (fun σ => ∃ (kj20 : Nat) (v163 : List T_Event) (v164 : List Int) (v165 v166 : Int) (v167 : T_Event) (v168 : Bool), kj20 ≤ K ∧ S_Chain.j20 (S_Chain.l17 k17) kj20 v163 v164 v165 v166 v167 v168 = some r ∧ σ = mkSt [(0, MG.one (Cell.sl g0 (List.map eT_Event v163))), (5, MG.one (Cell.own 0)), (6, oI v165), (7, oI v166), (29, oI v167.Kind), (34, oL v168)] [(0, ⟨1, List.map eI v164⟩)] [] 1) ?_ ?_
      ·rintro _ ⟨kj20, v163, v164, v165, v166, v167, v168, hkj20, H, rfl⟩
       unfold S_Chain.j20 at H; refine cd H (fun hc H => ?_) (fun hc H => ?_)
       ·refine WpC.regionL ?_; refine go 2 ?_; obtain ⟨b169, hb169, H⟩ := bindS H; refine ix underlying40 info47 hb169 ?_; refine gn 3 ?_; exact ⟨_, ⟨kj20, v163, b169.Parent, v164, v165, by omega, H, rfl⟩, lm [(0, 0)] hm⟩
       ·refine sg 2 ?_; refine cd H (fun hc H => ?_) (fun hc H => ?_)
        ·refine WpC.regionL ?_; refine go 2 ?_; obtain ⟨b170, hb170, H⟩ := bindS H; refine ix underlying40 info47 hb170 ?_; refine gn 3 ?_; exact ⟨_, ⟨kj20, v163, b170.Evid, v164, v165, by omega, H, rfl⟩, lm [(0, 0)] hm⟩
        ·refine sr ?_; refine L.buildSlice (e := eI) 1 ([] : List Int) underlying24 info3 rfl rfl rfl hF rfl rfl rfl rfl rfl rfl rfl rfl ?_; refine gn 1 ?_; cases H; exact WpC.ret rt
      ·refine sg 2 ?_; refine cd H (fun hc H => ?_) (fun hc H => ?_)
       ·refine WpC.skip ?_; exact ⟨_, ⟨k17, v141, (([r160] : List Int) ++ v143), v144, r160, b162, (b162.Kind == 2), by omega, H, rfl⟩, lm [(0, 3)] hm⟩
       ·refine WpC.regionL ?_; refine gn 2 ?_; exact ⟨_, ⟨k17, v141, (([r160] : List Int) ++ v143), v144, r160, b162, (b162.Kind == 3), by omega, H, rfl⟩, lm [(0, 3)] hm⟩
  ·refine WpC.exit (sr ?_); refine L.buildSlice (e := eI) 1 ([] : List Int) underlying24 info3 rfl rfl rfl hF rfl rfl rfl rfl rfl rfl rfl rfl ?_; refine gn 1 ?_; cases H; exact WpC.ret rt
/-! ### S_Entails -/
def S_Entails (k : Nat) (a0 a1 : T_Rest) : Option Bool := (S_RestOk k a0).bind fun r3 => cond r3 ((S_RestOk k a1).bind fun r4 => cond r4 (cond ((Go.bits .and .i64 a0.Servers a1.Servers) == a0.Servers) (cond ((Go.bits .and .i64 a0.Ops a1.Ops) == a0.Ops) (some (decide (a0.End ≤ a1.End))) (some false)) (some false)) (some false)) (some false)
theorem ent29 : MG.Enters Tryz.prog 29 := en func29
theorem g29 (k : Nat) (a0 a1 : T_Rest) (r : Bool) (H : S_Entails k a0 a1 = some r) : Gives Tryz.prog 29 [V.agg (bT_Rest a0), V.agg (bT_Rest a1)] [] [V.one (cL r)] [] := by
 refine Gives.intro func29 rfl rfl rfl rfl ?_; refine fx fun w0 T S0 ob oh hm => ?_
 have hF := fxe w0 T S0 38 ob oh
 unfold S_Entails at H; obtain ⟨K, hK⟩ := leK k; refine sr ?_; refine bo 6 ?_; refine bo 7 ?_; refine gn 1 ?_; refine sy 1 ?_; refine cB 8 ent52 (g52 k  a0) H fun r3 H => ?_; refine mv ?_; refine sH H (fun hc H => ?_) (fun hc H => ?_)
 ·refine lp shape29 ?_; refine cB 9 ent52 (g52 k  a1) H fun r4 H => ?_; refine go 2 ?_; refine sH H (fun hc H => ?_) (fun hc H => ?_)
  ·refine go 10 ?_; refine sH H (fun hc H => ?_) (fun hc H => ?_)
   ·refine go 10 ?_; refine sH H (fun hc H => ?_) (fun hc H => ?_)
    ·refine gn 7 ?_; cases H; exact WpC.ret rt
    ·refine gn 7 ?_; cases H; exact WpC.ret rt
   ·refine gn 17 ?_; cases H; exact WpC.ret rt
  ·refine gn 27 ?_; cases H; exact WpC.ret rt
 ·refine gn 31 ?_; cases H; exact WpC.ret rt
/-! ### S_l4Bit -/
def S_l4Bit (k : Nat) (a0 a1 : Int) : Option Bool := cond (!(decide ((IntKind.u64.wrap a1) < 0))) (some ((Go.bits .and .i64 (shrI .i64 a0 (IntKind.u64.wrap a1)) 1) == 1)) none
theorem ent104 : MG.Enters Tryz.prog 104 := en func104
theorem g104 (k : Nat) (a0 a1 : Int) (r : Bool) (H : S_l4Bit k a0 a1 = some r) : Gives Tryz.prog 104 [V.one (cI a0), V.one (cI a1)] [] [V.one (cL r)] [] := by
 refine Gives.intro func104 rfl rfl rfl rfl ?_; refine fx fun w0 T S0 ob oh hm => ?_
 have hF := fxe w0 T S0 11 ob oh
 unfold S_l4Bit at H; obtain ⟨K, hK⟩ := leK k; refine sg 1 ?_; refine sy 2 ?_; refine L.conv underlying3 underlying182 hF rfl rfl rfl ?_; obtain ⟨h1, H⟩ := condG H; refine L.shr hF rfl rfl rfl rfl (by simpa using h1) ?_; refine gn 3 ?_; cases H; exact WpC.ret rt
/-! ### S_Permits -/
def S_Permits (k : Nat) (a0 : T_Rest) (a1 a2 a3 : Int) : Option Bool := (S_RestOk k a0).bind fun r7 => cond r7 ((S_l1In k a1 0 2).bind fun r8 => cond r8 ((S_l1In k a2 0 7).bind fun r9 => cond r9 ((S_l4Bit k a0.Servers a1).bind fun r10 => cond r10 ((S_l4Bit k a0.Ops a2).bind fun r11 => cond r11 ((S_l1In k a3 0 a0.End).bind fun r12 => some r12) (some false)) (some false)) (some false)) (some false)) (some false)
theorem ent28 : MG.Enters Tryz.prog 28 := en func28
theorem g28 (k : Nat) (a0 : T_Rest) (a1 a2 a3 : Int) (r : Bool) (H : S_Permits k a0 a1 a2 a3 = some r) : Gives Tryz.prog 28 [V.agg (bT_Rest a0), V.one (cI a1), V.one (cI a2), V.one (cI a3)] [] [V.one (cL r)] [] := by
 refine Gives.intro func28 rfl rfl rfl rfl ?_; refine fx fun w0 T S0 ob oh hm => ?_
 have hF := fxe w0 T S0 37 ob oh
 unfold S_Permits at H; obtain ⟨K, hK⟩ := leK k; refine sr ?_; refine bo 6 ?_; refine gn 1 ?_; refine sy 1 ?_; refine cB 7 ent52 (g52 k  a0) H fun r7 H => ?_; refine mv ?_; refine sH H (fun hc H => ?_) (fun hc H => ?_)
 ·refine mv ?_; refine cB 8 ent53 (g53 k  a1 0 2) H fun r8 H => ?_; refine go 2 ?_; refine sH H (fun hc H => ?_) (fun hc H => ?_)
  ·refine mv ?_; refine cB 9 ent53 (g53 k  a2 0 7) H fun r9 H => ?_; refine go 2 ?_; refine sH H (fun hc H => ?_) (fun hc H => ?_)
   ·refine go 3 ?_; refine cB 10 ent104 (g104 k  a0.Servers a1) H fun r10 H => ?_; refine go 2 ?_; refine sH H (fun hc H => ?_) (fun hc H => ?_)
    ·refine go 3 ?_; refine cB 11 ent104 (g104 k  a0.Ops a2) H fun r11 H => ?_; refine go 2 ?_; refine sH H (fun hc H => ?_) (fun hc H => ?_)
     ·refine go 3 ?_; refine cB 12 ent53 (g53 k  a3 0 a0.End) H fun r12 H => ?_; refine gn 2 ?_; cases H; exact WpC.ret rt
     ·refine gn 6 ?_; cases H; exact WpC.ret rt
    ·refine gn 12 ?_; cases H; exact WpC.ret rt
   ·refine gn 18 ?_; cases H; exact WpC.ret rt
  ·refine gn 22 ?_; cases H; exact WpC.ret rt
 ·refine gn 26 ?_; cases H; exact WpC.ret rt
/-! ### S_Narrow -/
def S_Narrow.j19 (cl17 : Int → T_World → Option Bool) (k : Nat) (v603 : Int) (v604 : T_World) : Option Bool := cl17 (IntKind.i64.wrap (v603 + 1)) v604
def S_Narrow.l20 (cl17 : Int → T_World → Option Bool) : Nat → Int → (List Int) → Int → T_World → T_Accept → Option Bool
 | 0, _, _, _, _, _ => none
 | k20 + 1, v642, v643, v644, v645, v646 => cond (decide (v644 < (v643.length : Int))) ((at? v643 v644).bind fun b653 => (at? v645.Log b653).bind fun b654 => (S_Entails k20 v646.Rest b654.Rest).bind fun r657 => cond (!r657) (some false) ((S_Permits k20 b654.Rest v646.Server v646.Op v646.Now).bind fun r658 => cond (!r658) (some false) ((S_Narrow.l20 cl17 k20) v642 v643 (IntKind.i64.wrap (v644 + 1)) v645 v646))) (S_Narrow.j19 cl17 k20 v642 v645)
def S_Narrow.l17 : Nat → Int → T_World → Option Bool
 | 0, _, _ => none
 | k17 + 1, v547, v548 => cond (decide (v547 < (v548.Accepts.length : Int))) ((at? v548.Accepts v547).bind fun b605 => (S_l11Honest k17 v548 v547).bind fun r607 => cond (!r607) (S_Narrow.j19 (S_Narrow.l17 k17) k17 v547 v548) ((S_Chain k17 v548.Log b605.Key).bind fun r608 => S_Narrow.l20 (S_Narrow.l17 k17) k17 v547 r608 0 v548 b605)) (some true)
def S_Narrow (k : Nat) (a0 : T_World) : Option Bool := (S_WorldOk k a0).bind fun r2 => cond (!r2) (some false) (S_Narrow.l17 k 0 a0)
theorem ent33 : MG.Enters Tryz.prog 33 := en func33
theorem g33 (k : Nat) (g0 g1 g2 g3 g4 g5 g6 g7 g8 g9 g10 g11 g12 : Bool) (a0 : T_World) (r : Bool) (H : S_Narrow k a0 = some r) : Gives Tryz.prog 33 [V.agg (bT_World g0 g1 g2 g3 g4 g5 g6 g7 g8 g9 g10 g11 g12 a0)] [] [V.one (cL r)] [] := by
 refine Gives.intro func33 rfl rfl rfl rfl ?_; refine fx fun w0 T S0 ob oh hm => ?_
 have hF := fxe w0 T S0 63 ob oh
 unfold S_Narrow at H; obtain ⟨K, hK⟩ := leK k; refine sr ?_; refine bo 16 ?_; refine gn 1 ?_; refine WpC.seq (sr ?_); refine lp shape43 ?_; refine cB 17 ent77 (g77 k g0 g1 g2 g3 g4 g5 g6 g7 g8 g9 g10 g11 g12 a0) H fun r2 H => ?_; refine gn 1 ?_; refine cd H (fun hc H => ?_) (fun hc H => ?_)
 ·refine sg 1 ?_; cases H; exact WpC.ret rt
 ·refine WpC.skip (WpC.seq (sr ?_)); refine gn 1 ?_; refine WpC.block ?_; refine WpC.loopL (P := Tryz.prog) (fun n σ => ∃ (v547 : Int) (v548 : T_World), n ≤ K ∧ S_Narrow.l17 n v547 v548 = some r ∧ σ = mkSt [(1, oP 0 0), (3, oI v547)] [] [(0, (bT_World g0 g1 g2 g3 g4 g5 g6 g7 g8 g9 g10 g11 g12 v548))] 1) k ⟨_, ⟨0, a0, by omega, H, rfl⟩, lm [(0, 16)] hm⟩ ?_; clear H
  rintro k17 _ ⟨v547, v548, hk17, H, rfl⟩
  cases k17 with
  | zero => cases H
  | succ k17 =>
   rw [S_Narrow.l17] at H
   refine WpC.seq (sr ?_); refine go 3 ?_; refine L.lenR (xs := v548.Accepts) (e := eT_Accept) underlying41 hF rfl rfl rfl rfl ?_; refine gn 1 ?_; refine cd H (fun hc H => ?_) (fun hc H => ?_)
   ·refine WpC.skip ?_; refine WpC.join (fun σ => ∃ (kj19 : Nat) (v603 : Int) (v604 : T_World), kj19 ≤ K ∧ S_Narrow.j19 (S_Narrow.l17 k17) kj19 v603 v604 = some r ∧ σ = mkSt [(1, oP 0 0), (3, oI v603)] [] [(0, (bT_World g0 g1 g2 g3 g4 g5 g6 g7 g8 g9 g10 g11 g12 v604))] 1) ?_ ?_
    ·rintro _ ⟨kj19, v603, v604, hkj19, H, rfl⟩
     unfold S_Narrow.j19 at H; refine WpC.regionL ?_; refine gn 3 ?_; exact ⟨k17, _, by omega, ⟨(IntKind.i64.wrap (v603 + 1)), v604, by omega, H, rfl⟩, lm [(0, 0)] hm⟩
    ·refine WpC.block (sr ?_); refine go 3 ?_; obtain ⟨b605, hb605, H⟩ := bindS H; refine ix underlying41 info74 hb605 ?_; refine le shape74 ?_; refine alc 1 info74 ?_; refine gn 1 ?_; refine WpC.seq (sr ?_); refine go 2 ?_; refine cB 2 ent78 (g78 k17 g0 g1 g2 g3 g4 g5 g6 g7 g8 g9 g10 g11 g12 v548 v547) H fun r607 H => ?_; refine gn 1 ?_; refine cd H (fun hc H => ?_) (fun hc H => ?_)
     ·refine WpC.exit ?_; exact ⟨_, ⟨k17, v547, v548, by omega, H, rfl⟩, lm [(0, 0)] hm⟩
     ·refine WpC.skip (sr ?_); refine go 4 ?_; refine cB 3 ent42 (g42 k17 g10 v548.Log b605.Key) H fun r608 H => ?_; refine gn 1 ?_; refine sg 1 ?_; refine WpC.block ?_; refine WpC.loopL (P := Tryz.prog) (fun n σ => ∃ (v642 : Int) (v643 : List Int) (v644 : Int) (v645 : T_World) (v646 : T_Accept), n ≤ K ∧ S_Narrow.l20 (S_Narrow.l17 k17) n v642 v643 v644 v645 v646 = some r ∧ σ = mkSt [(1, oP 0 0), (3, oI v642), (4, oP 1 0), (5, MG.one (Cell.own 2)), (6, oI v644)] [(2, ⟨1, List.map eI v643⟩)] [(0, (bT_World g0 g1 g2 g3 g4 g5 g6 g7 g8 g9 g10 g11 g12 v645)), (1, (bT_Accept g11 g11 v646))] 3) k17 ⟨_, ⟨v547, r608, 0, v548, b605, by omega, H, rfl⟩, lm [(0, 0), (1, 1), (2, 3)] hm⟩ ?_; clear H
      rintro k20 _ ⟨v642, v643, v644, v645, v646, hk20, H, rfl⟩
      cases k20 with
      | zero => cases H
      | succ k20 =>
       rw [S_Narrow.l20] at H
       refine WpC.seq (sr ?_); refine go 2 ?_; refine L.lenR (xs := v643) (e := eI) underlying24 hF rfl rfl rfl rfl ?_; refine gn 1 ?_; refine cd H (fun hc H => ?_) (fun hc H => ?_)
       ·refine WpC.skip (WpC.seq (WpC.block (WpC.seq ?_))); obtain ⟨b653, hb653, H⟩ := bindS H; obtain ⟨b654, hb654, H⟩ := bindS H; refine A.lin (fun β => mkStL [(1, iP 0 0), (3, iI v642), (4, iP 1 0), (5, ai (MG.one (Cell.own 2))), (6, iI v644), (7, lP (β 9) 3 0), (38, lP (β 0) 0 13), (39, al (β 1) (MG.one (Cell.sl g10 (List.map eT_Event v645.Log)))), (40, al (β 2) (MG.one (Cell.own 2))), (41, lI (β 3) v644), (42, al (β 4) (MG.one (Cell.ep 2 v644.toNat 0))), (43, lI (β 5) b653), (44, al (β 6) (MG.one (Cell.pe g10 (eT_Event b654) 0))), (45, al (β 7) (MG.one (Cell.pe g10 (eT_Event b654) 8))), (46, al (β 8) (agg (bT_Rest b654.Rest)))] [(2, ai (⟨1, List.map eI v643⟩))] [(0, ai ((bT_World g0 g1 g2 g3 g4 g5 g6 g7 g8 g9 g10 g11 g12 v645))), (1, ai ((bT_Accept g11 g11 v646))), (3, [(β 10, some ((bT_Rest b654.Rest))), (β 9, some ([cI 0, cI 0, cI 0]))])] 4) [([], [1, 6, 7, 8, 10]), ([0], [6, 7, 8, 10]), ([], [4, 5, 6, 7, 8, 10]), ([], [4, 5, 6, 7, 8, 10]), ([2, 3], [5, 6, 7, 8, 10]), ([2, 3, 4], [6, 7, 8, 10]), ([0, 1, 2, 3, 4, 5], [7, 8, 10]), ([0, 1, 2, 3, 4, 5, 6], [8, 10]), ([0, 1, 2, 3, 4, 5, 6, 7], [10]), ([], [10]), ([0, 1, 2, 3, 4, 5, 6, 7, 8, 9], [])] 11 mixed rfl (by kernel_rfl) ?_ ?_ ?_
        ·exact Le.lin [] hm rfl (sa (sa4 (kn2 (kn8 kz)))) (ra kz) (ba (ba (kn kz)))
        ·repeat' (first | exact trivial | refine ⟨⟨_, rfl, fun β => ?_⟩, ?_⟩ | fail)
         ·refine fa underlying43 info40 ?_; exact lx [] hm
         ·refine lp shape40 ?_; exact lx [] hm
         ·refine mv ?_; exact lx [] hm
         ·refine mv ?_; exact lx [] hm
         ·refine ix underlying24 info3 hb653 ?_; exact lx [] hm
         ·refine L.loadEp (xs := v643) (e := eI) shape3 hF rfl rfl rfl rfl (at?_get hb653).2 rfl rfl ?_; exact lx [] hm
         ·refine ix underlying40 info47 hb654 ?_; exact lx [] hm
         ·refine fa underlying47 info29 ?_; exact lx [] hm
         ·refine le shape29 ?_; exact lx [] hm
         ·refine alc 4 info29 ?_; exact lx [(3, 4)] hm
         ·refine sp shape29 ?_; exact lx [] hm
        refine ⟨_, (lm [(0, 0), (1, 1), (2, 2), (3, 3)] hm : Le _ _ (mkSt [(1, oP 0 0), (3, oI v642), (4, oP 1 0), (5, MG.one (Cell.own 2)), (6, oI v644), (7, oP 3 0)] [(2, ⟨1, List.map eI v643⟩)] [(0, (bT_World g0 g1 g2 g3 g4 g5 g6 g7 g8 g9 g10 g11 g12 v645)), (1, (bT_Accept g11 g11 v646)), (3, (bT_Rest b654.Rest))] 4)), ?_⟩; refine sy 3 ?_; refine cB 4 ent29 (g29 k20  v646.Rest b654.Rest) H fun r657 H => ?_; refine go 2 ?_; refine sH H (fun hc H => ?_) (fun hc H => ?_)
        ·refine gn 10 ?_; refine cT ?_; refine sg 1 ?_; cases H; exact WpC.ret rt
        ·refine go 7 ?_; refine cB 5 ent28 (g28 k20  b654.Rest v646.Server v646.Op v646.Now) H fun r658 H => ?_; refine gn 2 ?_; refine cd H (fun hc H => ?_) (fun hc H => ?_)
         ·refine sg 1 ?_; cases H; exact WpC.ret rt
         ·refine WpC.skip (WpC.regionL ?_); refine gn 3 ?_; exact ⟨k20, _, by omega, ⟨v642, v643, (IntKind.i64.wrap (v644 + 1)), v645, v646, by omega, H, rfl⟩, lm [(0, 0), (1, 1), (2, 2)] hm⟩
       ·refine WpC.exit ?_; exact ⟨_, ⟨k20, v642, v645, by omega, H, rfl⟩, lm [(0, 0)] hm⟩
   ·refine WpC.exit (sr ?_); refine gn 1 ?_; cases H; exact WpC.ret rt
/-! ### I_within -/
def I_within (k : Nat) (a0 a1 a2 : Int) : Option Bool := cond (decide (a0 ≥ a1)) (some (decide (a0 ≤ a2))) (some false)
theorem ent66 : MG.Enters Tryz.prog 66 := en func66
theorem g66 (k : Nat) (a0 a1 a2 : Int) (r : Bool) (H : I_within k a0 a1 a2 = some r) : Gives Tryz.prog 66 [V.one (cI a0), V.one (cI a1), V.one (cI a2)] [] [V.one (cL r)] [] := by
 refine Gives.intro func66 rfl rfl rfl rfl ?_; refine fx fun w0 T S0 ob oh hm => ?_
 have hF := fxe w0 T S0 15 ob oh
 unfold I_within at H; obtain ⟨K, hK⟩ := leK k; refine sg 1 ?_; refine sy 4 ?_; refine sH H (fun hc H => ?_) (fun hc H => ?_)
 ·refine gn 5 ?_; cases H; exact WpC.ret rt
 ·refine gn 5 ?_; cases H; exact WpC.ret rt
/-! ### I_isNonce -/
def I_isNonce (k : Nat) (a0 : Int) : Option Bool := (I_within k a0 0 1000000).bind fun r1 => some r1
theorem ent243 : MG.Enters Tryz.prog 243 := en func243
theorem g243 (k : Nat) (a0 : Int) (r : Bool) (H : I_isNonce k a0 = some r) : Gives Tryz.prog 243 [V.one (cI a0)] [] [V.one (cL r)] [] := by
 refine Gives.intro func243 rfl rfl rfl rfl ?_; refine fx fun w0 T S0 ob oh hm => ?_
 have hF := fxe w0 T S0 5 ob oh
 unfold I_isNonce at H; obtain ⟨K, hK⟩ := leK k; refine sg 1 ?_; refine sy 1 ?_; refine cB 1 ent66 (g66 k  a0 0 1000000) H fun r1 H => ?_; refine gn 1 ?_; cases H; exact WpC.ret rt
/-! ### I_isKey -/
def I_isKey (k : Nat) (a0 : Int) : Option Bool := (I_within k a0 1 1000000).bind fun r1 => some r1
theorem ent64 : MG.Enters Tryz.prog 64 := en func64
theorem g64 (k : Nat) (a0 : Int) (r : Bool) (H : I_isKey k a0 = some r) : Gives Tryz.prog 64 [V.one (cI a0)] [] [V.one (cL r)] [] := by
 refine Gives.intro func64 rfl rfl rfl rfl ?_; refine fx fun w0 T S0 ob oh hm => ?_
 have hF := fxe w0 T S0 5 ob oh
 unfold I_isKey at H; obtain ⟨K, hK⟩ := leK k; refine sg 1 ?_; refine sy 1 ?_; refine cB 1 ent66 (g66 k  a0 1 1000000) H fun r1 H => ?_; refine gn 1 ?_; cases H; exact WpC.ret rt
/-! ### I_isPrincipal -/
def I_isPrincipal (k : Nat) (a0 : Int) : Option Bool := (I_within k a0 0 5).bind fun r1 => some r1
theorem ent67 : MG.Enters Tryz.prog 67 := en func67
theorem g67 (k : Nat) (a0 : Int) (r : Bool) (H : I_isPrincipal k a0 = some r) : Gives Tryz.prog 67 [V.one (cI a0)] [] [V.one (cL r)] [] := by
 refine Gives.intro func67 rfl rfl rfl rfl ?_; refine fx fun w0 T S0 ob oh hm => ?_
 have hF := fxe w0 T S0 5 ob oh
 unfold I_isPrincipal at H; obtain ⟨K, hK⟩ := leK k; refine sg 1 ?_; refine sy 1 ?_; refine cB 1 ent66 (g66 k  a0 0 5) H fun r1 H => ?_; refine gn 1 ?_; cases H; exact WpC.ret rt
/-! ### I_waitOk -/
def I_waitOk (k : Nat) (a0 : T_Wait) : Option Bool := cond (!a0.On) (some ((a0.On == false) && ((a0.Nonce == 0) && ((a0.Key == 0) && ((a0.Client == 0) && true))))) ((I_isNonce k a0.Nonce).bind fun r4 => cond r4 ((I_isKey k a0.Key).bind fun r5 => cond r5 ((I_isPrincipal k a0.Client).bind fun r6 => some r6) (some false)) (some false))
theorem ent170 : MG.Enters Tryz.prog 170 := en func170
theorem g170 (k : Nat) (a0 : T_Wait) (r : Bool) (H : I_waitOk k a0 = some r) : Gives Tryz.prog 170 [V.agg (bT_Wait a0)] [] [V.one (cL r)] [] := by
 refine Gives.intro func170 rfl rfl rfl rfl ?_; refine fx fun w0 T S0 ob oh hm => ?_
 have hF := fxe w0 T S0 22 ob oh
 unfold I_waitOk at H; obtain ⟨K, hK⟩ := leK k; refine sr ?_; refine bo 4 ?_; refine gn 1 ?_; refine WpC.seq (sr ?_); refine gn 3 ?_; refine cd H (fun hc H => ?_) (fun hc H => ?_)
 ·refine sy 1 ?_; refine bf built198 ?_; refine L.eqA (r := ((a0.On == false) && ((a0.Nonce == 0) && ((a0.Key == 0) && ((a0.Client == 0) && true))))) hF rfl rfl rfl rfl rfl rfl (by kernel_rfl) (by kernel_rfl) ?_; refine gn 1 ?_; cases H; exact WpC.ret rt
 ·refine WpC.skip (sr ?_); refine go 2 ?_; refine cB 5 ent243 (g243 k  a0.Nonce) H fun r4 H => ?_; refine mv ?_; refine sH H (fun hc H => ?_) (fun hc H => ?_)
  ·refine go 2 ?_; refine cB 6 ent64 (g64 k  a0.Key) H fun r5 H => ?_; refine go 2 ?_; refine sH H (fun hc H => ?_) (fun hc H => ?_)
   ·refine go 2 ?_; refine cB 7 ent67 (g67 k  a0.Client) H fun r6 H => ?_; refine gn 2 ?_; cases H; exact WpC.ret rt
   ·refine gn 5 ?_; cases H; exact WpC.ret rt
  ·refine gn 10 ?_; cases H; exact WpC.ret rt
/-! ### I_isService -/
def I_isService (k : Nat) (a0 : Int) : Option Bool := (I_within k a0 0 2).bind fun r1 => some r1
theorem ent100 : MG.Enters Tryz.prog 100 := en func100
theorem g100 (k : Nat) (a0 : Int) (r : Bool) (H : I_isService k a0 = some r) : Gives Tryz.prog 100 [V.one (cI a0)] [] [V.one (cL r)] [] := by
 refine Gives.intro func100 rfl rfl rfl rfl ?_; refine fx fun w0 T S0 ob oh hm => ?_
 have hF := fxe w0 T S0 5 ob oh
 unfold I_isService at H; obtain ⟨K, hK⟩ := leK k; refine sg 1 ?_; refine sy 1 ?_; refine cB 1 ent66 (g66 k  a0 0 2) H fun r1 H => ?_; refine gn 1 ?_; cases H; exact WpC.ret rt
/-! ### I_isRealm -/
def I_isRealm (k : Nat) (a0 : Int) : Option Bool := (I_within k a0 0 2).bind fun r1 => some r1
theorem ent187 : MG.Enters Tryz.prog 187 := en func187
theorem g187 (k : Nat) (a0 : Int) (r : Bool) (H : I_isRealm k a0 = some r) : Gives Tryz.prog 187 [V.one (cI a0)] [] [V.one (cL r)] [] := by
 refine Gives.intro func187 rfl rfl rfl rfl ?_; refine fx fun w0 T S0 ob oh hm => ?_
 have hF := fxe w0 T S0 5 ob oh
 unfold I_isRealm at H; obtain ⟨K, hK⟩ := leK k; refine sg 1 ?_; refine sy 1 ?_; refine cB 1 ent66 (g66 k  a0 0 2) H fun r1 H => ?_; refine gn 1 ?_; cases H; exact WpC.ret rt
/-! ### I_isFor -/
def I_isFor (k : Nat) (a0 : Int) : Option Bool := (I_isService k a0).bind fun r3 => cond r3 (some true) ((I_isRealm k (IntKind.i64.wrap (a0 - 10))).bind fun r4 => some r4)
theorem ent244 : MG.Enters Tryz.prog 244 := en func244
theorem g244 (k : Nat) (a0 : Int) (r : Bool) (H : I_isFor k a0 = some r) : Gives Tryz.prog 244 [V.one (cI a0)] [] [V.one (cL r)] [] := by
 refine Gives.intro func244 rfl rfl rfl rfl ?_; refine fx fun w0 T S0 ob oh hm => ?_
 have hF := fxe w0 T S0 10 ob oh
 unfold I_isFor at H; obtain ⟨K, hK⟩ := leK k; refine sg 1 ?_; refine sy 1 ?_; refine cB 1 ent100 (g100 k  a0) H fun r3 H => ?_; refine mv ?_; refine sH H (fun hc H => ?_) (fun hc H => ?_)
 ·refine gn 5 ?_; cases H; exact WpC.ret rt
 ·refine go 2 ?_; refine cB 2 ent187 (g187 k  (IntKind.i64.wrap (a0 - 10))) H fun r4 H => ?_; refine gn 2 ?_; cases H; exact WpC.ret rt
/-! ### I_isTime -/
def I_isTime (k : Nat) (a0 : Int) : Option Bool := (I_within k a0 0 100000).bind fun r1 => some r1
theorem ent176 : MG.Enters Tryz.prog 176 := en func176
theorem g176 (k : Nat) (a0 : Int) (r : Bool) (H : I_isTime k a0 = some r) : Gives Tryz.prog 176 [V.one (cI a0)] [] [V.one (cL r)] [] := by
 refine Gives.intro func176 rfl rfl rfl rfl ?_; refine fx fun w0 T S0 ob oh hm => ?_
 have hF := fxe w0 T S0 5 ob oh
 unfold I_isTime at H; obtain ⟨K, hK⟩ := leK k; refine sg 1 ?_; refine sy 1 ?_; refine cB 1 ent66 (g66 k  a0 0 100000) H fun r1 H => ?_; refine gn 1 ?_; cases H; exact WpC.ret rt
/-! ### I_RestOk -/
def I_RestOk (k : Nat) (a0 : T_Rest) : Option Bool := (I_within k a0.Servers 0 7).bind fun r4 => cond r4 ((I_within k a0.Ops 0 255).bind fun r5 => cond r5 ((I_isTime k a0.End).bind fun r6 => some r6) (some false)) (some false)
theorem ent101 : MG.Enters Tryz.prog 101 := en func101
theorem g101 (k : Nat) (a0 : T_Rest) (r : Bool) (H : I_RestOk k a0 = some r) : Gives Tryz.prog 101 [V.agg (bT_Rest a0)] [] [V.one (cL r)] [] := by
 refine Gives.intro func101 rfl rfl rfl rfl ?_; refine fx fun w0 T S0 ob oh hm => ?_
 have hF := fxe w0 T S0 16 ob oh
 unfold I_RestOk at H; obtain ⟨K, hK⟩ := leK k; refine sr ?_; refine bo 3 ?_; refine gn 1 ?_; refine sy 2 ?_; refine cB 4 ent66 (g66 k  a0.Servers 0 7) H fun r4 H => ?_; refine mv ?_; refine sH H (fun hc H => ?_) (fun hc H => ?_)
 ·refine go 2 ?_; refine cB 5 ent66 (g66 k  a0.Ops 0 255) H fun r5 H => ?_; refine go 2 ?_; refine sH H (fun hc H => ?_) (fun hc H => ?_)
  ·refine go 2 ?_; refine cB 6 ent176 (g176 k  a0.End) H fun r6 H => ?_; refine gn 2 ?_; cases H; exact WpC.ret rt
  ·refine gn 5 ?_; cases H; exact WpC.ret rt
 ·refine gn 10 ?_; cases H; exact WpC.ret rt
/-! ### I_Var -/
def I_Var.l2 : Nat → Int → (List UInt8) → Option (List UInt8)
 | 0, _, _ => none
 | k2 + 1, v16, v17 => cond (decide (v16 > 127)) (cond (decide ((2 * (v17.length + ([(ofI (Go.bits .or .i64 (Go.bits .and .i64 v16 127) 128))] : List UInt8).length) + 192) * 1 ≤ 281474976710656)) ((I_Var.l2 k2) (shrI .i64 v16 7) (v17 ++ ([(ofI (Go.bits .or .i64 (Go.bits .and .i64 v16 127) 128))] : List UInt8))) none) (cond (decide ((2 * (v17.length + ([(ofI v16)] : List UInt8).length) + 192) * 1 ≤ 281474976710656)) (some (v17 ++ ([(ofI v16)] : List UInt8))) none)
def I_Var (k : Nat) (a0 : Int) : Option (List UInt8) := (I_within k a0 0 562949953421311).bind fun r2 => cond (!r2) (some ([] : List UInt8)) (I_Var.l2 k a0 ([] : List UInt8))
theorem ent302 : MG.Enters Tryz.prog 302 := en func302
theorem g302 (k : Nat) (a0 : Int) (r : List UInt8) (H : I_Var k a0 = some r) : Gives Tryz.prog 302 [V.one (cI a0)] [] [V.one (cS r)] [] := by
 refine Gives.intro func302 rfl rfl rfl rfl ?_; refine fx fun w0 T S0 ob oh hm => ?_
 have hF := fxe w0 T S0 25 ob oh
 unfold I_Var at H; obtain ⟨K, hK⟩ := leK k; refine sg 1 ?_; refine WpC.seq (sr ?_); refine mv ?_; refine cB 1 ent66 (g66 k  a0 0 562949953421311) H fun r2 H => ?_; refine gn 1 ?_; refine cd H (fun hc H => ?_) (fun hc H => ?_)
 ·refine sg 1 ?_; cases H; exact WpC.ret rt
 ·refine WpC.skip (sr ?_); refine L.buildSlice (e := eB) 2 ([] : List UInt8) underlying22 info5 rfl rfl rfl hF rfl rfl rfl rfl rfl rfl rfl rfl ?_; refine gn 1 ?_; refine WpC.seq (WpC.block ?_); refine WpC.loopL (P := Tryz.prog) (fun n σ => ∃ (v16 : Int) (v17 : List UInt8), n ≤ K ∧ I_Var.l2 n v16 v17 = some r ∧ σ = mkSt [(0, oI v16), (3, MG.one (Cell.own 0))] [(0, ⟨1, List.map eB v17⟩)] [] 1) k ⟨_, ⟨a0, ([] : List UInt8), by omega, H, rfl⟩, lm [(0, 2)] hm⟩ ?_; clear H
  rintro k2 _ ⟨v16, v17, hk2, H, rfl⟩
  cases k2 with
  | zero => cases H
  | succ k2 =>
   rw [I_Var.l2] at H
   refine WpC.seq (sr ?_); refine gn 2 ?_; refine cd H (fun hc H => ?_) (fun hc H => ?_)
   ·refine WpC.skip (WpC.block (sr ?_)); refine go 4 ?_; refine L.toB underlying3 underlying5 hF rfl rfl rfl ?_; refine L.buildSlice (e := eB) 1 ([(ofI (Go.bits .or .i64 (Go.bits .and .i64 v16 127) 128))] : List UInt8) underlying22 info5 rfl rfl rfl hF rfl rfl rfl rfl rfl rfl rfl rfl ?_; obtain ⟨h18, H⟩ := condG H; refine L.append (xs := v17) (ys := ([(ofI (Go.bits .or .i64 (Go.bits .and .i64 v16 127) 128))] : List UInt8)) (e := eB) 2 underlying22 info5 rfl rfl hF rfl rfl rfl rfl rfl rfl rfl rfl (fun _ => rfl) (fun _ _ h1 h2 => by cases h1; cases h2; rfl) ⟨_, underlying22⟩ (of_decide_eq_true h18) rfl rfl ?_; refine gn 1 ?_; refine WpC.regionL ?_; refine mv ?_; refine L.shr hF rfl rfl rfl rfl (by decide) ?_; refine gn 1 ?_; exact ⟨k2, _, by omega, ⟨(shrI .i64 v16 7), (v17 ++ ([(ofI (Go.bits .or .i64 (Go.bits .and .i64 v16 127) 128))] : List UInt8)), by omega, H, rfl⟩, lm [(0, 2)] hm⟩
   ·refine WpC.exit (sr ?_); refine go 2 ?_; refine L.toB underlying3 underlying5 hF rfl rfl rfl ?_; refine L.buildSlice (e := eB) 1 ([(ofI v16)] : List UInt8) underlying22 info5 rfl rfl rfl hF rfl rfl rfl rfl rfl rfl rfl rfl ?_; obtain ⟨h19, H⟩ := condG H; refine L.append (xs := v17) (ys := ([(ofI v16)] : List UInt8)) (e := eB) 2 underlying22 info5 rfl rfl hF rfl rfl rfl rfl rfl rfl rfl rfl (fun _ => rfl) (fun _ _ h1 h2 => by cases h1; cases h2; rfl) ⟨_, underlying22⟩ (of_decide_eq_true h19) rfl rfl ?_; refine L.b2s (xs := (v17 ++ ([(ofI v16)] : List UInt8))) underlying22 underlying5 underlying9 hF rfl rfl rfl rfl ?_; refine gn 1 ?_; cases H; exact WpC.ret rt
/-! ### I_ReadVar -/
def I_ReadVar.l2 : Nat → (List UInt8) → Int → Int → Option (Int × Int)
 | 0, _, _, _ => none
 | k2 + 1, v82, v83, v84 => cond (decide (v84 < (v82.length : Int))) (cond (decide (v84 < 7)) ((at? v82 v84).bind fun b92 => cond (!(decide ((IntKind.i64.wrap (7 * v84)) < 0))) ((at? v82 v84).bind fun b94 => cond (decide (b94 < (128 : UInt8))) ((I_Var k2 (Go.bits .or .i64 v83 (shlI .i64 ((b92 &&& (127 : UInt8)).toNat : Int) (IntKind.i64.wrap (7 * v84))))).bind fun r97 => (cut? v82 0 (IntKind.i64.wrap (v84 + 1))).bind fun b98 => cond (r97 != b98) (some (0, 0)) (some ((Go.bits .or .i64 v83 (shlI .i64 ((b92 &&& (127 : UInt8)).toNat : Int) (IntKind.i64.wrap (7 * v84)))), (IntKind.i64.wrap (v84 + 1))))) ((I_ReadVar.l2 k2) v82 (Go.bits .or .i64 v83 (shlI .i64 ((b92 &&& (127 : UInt8)).toNat : Int) (IntKind.i64.wrap (7 * v84)))) (IntKind.i64.wrap (v84 + 1)))) none) (some (0, 0))) (some (0, 0))
def I_ReadVar (k : Nat) (a0 : List UInt8) : Option (Int × Int) := I_ReadVar.l2 k a0 0 0
theorem ent275 : MG.Enters Tryz.prog 275 := en func275
theorem g275 (k : Nat) (a0 : List UInt8) (r : Int × Int) (H : I_ReadVar k a0 = some r) : Gives Tryz.prog 275 [V.one (cS a0)] [] [V.one (cI r.1), V.one (cI r.2)] [] := by
 refine Gives.intro func275 rfl rfl rfl rfl ?_; refine fx fun w0 T S0 ob oh hm => ?_
 have hF := fxe w0 T S0 40 ob oh
 unfold I_ReadVar at H; obtain ⟨K, hK⟩ := leK k; refine sg 2 ?_; refine sg 1 ?_; refine WpC.seq (sr ?_); refine gn 1 ?_; refine WpC.block ?_; refine WpC.loopL (P := Tryz.prog) (fun n σ => ∃ (v82 : List UInt8) (v83 v84 : Int), n ≤ K ∧ I_ReadVar.l2 n v82 v83 v84 = some r ∧ σ = mkSt [(0, oS v82), (4, oI v83), (5, oI v84)] [] [] 0) k ⟨_, ⟨a0, 0, 0, by omega, H, rfl⟩, lm [] hm⟩ ?_; clear H
 rintro k2 _ ⟨v82, v83, v84, hk2, H, rfl⟩
 cases k2 with
 | zero => cases H
 | succ k2 =>
  rw [I_ReadVar.l2] at H
  refine WpC.seq (sr ?_); refine go 2 ?_; refine L.lenS underlying9 hF rfl rfl rfl ?_; refine go 2 ?_; refine sH H (fun hc H => ?_) (fun hc H => ?_)
  ·refine gn 3 ?_; refine cd H (fun hc H => ?_) (fun hc H => ?_)
   ·refine WpC.skip (WpC.seq (WpC.block (sr ?_))); refine go 3 ?_; obtain ⟨b92, hb92, H⟩ := bindS H; refine L.idxS underlying9 hF rfl rfl rfl rfl hb92 ?_; refine L.binB (a := b92) (b := (127 : UInt8)) hF rfl rfl rfl rfl rfl ?_; refine L.ofB underlying5 underlying3 hF rfl rfl rfl ?_; refine go 2 ?_; obtain ⟨h93, H⟩ := condG H; refine L.shl hF rfl rfl rfl rfl (by simpa using h93) ?_; refine gn 2 ?_; refine sy 2 ?_; obtain ⟨b94, hb94, H⟩ := bindS H; refine L.idxS underlying9 hF rfl rfl rfl rfl hb94 ?_; refine L.binB (a := b94) (b := (128 : UInt8)) hF rfl rfl rfl rfl rfl (L.nil ?_); refine cd H (fun hc H => ?_) (fun hc H => ?_)
    ·refine WpC.seq (WpC.seq ?_); obtain ⟨r97, hr97, H⟩ := bindS H; obtain ⟨b98, hb98, H⟩ := bindS H; refine A.begin mixed rfl rfl ?_; intro W hI hO; refine hI _ _ _ ?_; refine tM 0 ?_; refine tM 2 ?_; refine tM 3 ?_; refine Atk 4 rfl (Ca.bin rfl rfl (calm_int _ _ _ _ _ _ _ _)) (fun Q0 k0 => bi (L.nil k0)) ?_; refine Atk 5 rfl (Ca.slice) (fun Q0 k0 => L.cutS underlying9 hF rfl rfl rfl rfl rfl hb98 (L.nil k0)) ?_; refine A.all [1] (by kernel_rfl) rfl ⟨⟨_, rfl, ?_⟩, trivial⟩; refine c0 0 ent302 (g302 k2  (Go.bits .or .i64 v83 (shlI .i64 ((b92 &&& (127 : UInt8)).toNat : Int) (IntKind.i64.wrap (7 * v84)))) r97 hr97) (L.nil ?_); refine Atk 6 rfl (Ca.bin rfl rfl (calm_str _ _ _ _ _ _)) (fun Q0 k0 => L.binS hF rfl rfl rfl rfl rfl (L.nil k0)) ?_; refine A.le (τ := mkSt [(4, MG.one (cI (Go.bits .or .i64 v83 (shlI .i64 ((b92 &&& (127 : UInt8)).toNat : Int) (IntKind.i64.wrap (7 * v84)))))), (5, oI v84), (36, oL (r97 != b98))] [] [] 0) (lm [] hm) ?_; refine A.done (by kernel_rfl) ?_; refine cd H (fun hc H => ?_) (fun hc H => ?_)
     ·refine sg 2 ?_; cases H; exact WpC.ret rt
     ·refine WpC.skip (sr ?_); refine gn 5 ?_; cases H; exact WpC.ret rt
    ·refine WpC.skip (WpC.regionL ?_); refine gn 3 ?_; exact ⟨k2, _, by omega, ⟨v82, (Go.bits .or .i64 v83 (shlI .i64 ((b92 &&& (127 : UInt8)).toNat : Int) (IntKind.i64.wrap (7 * v84)))), (IntKind.i64.wrap (v84 + 1)), by omega, H, rfl⟩, lm [] hm⟩
   ·refine WpC.exit (sr ?_); refine gn 2 ?_; cases H; exact WpC.ret rt
  ·refine gn 3 ?_; refine cF ?_; refine WpC.exit (sr ?_); refine gn 2 ?_; cases H; exact WpC.ret rt
/-! ### I_varAt -/
def I_varAt (k : Nat) (a0 : List UInt8) (a1 : Int) : Option (Int × Int) := (cut? a0 a1 (a0.length : Int)).bind fun b1 => (I_ReadVar k b1).bind fun r2 => cond (r2.2 == 0) (some ((-1), a1)) (some (r2.1, (IntKind.i64.wrap (a1 + r2.2))))
theorem ent222 : MG.Enters Tryz.prog 222 := en func222
theorem g222 (k : Nat) (a0 : List UInt8) (a1 : Int) (r : Int × Int) (H : I_varAt k a0 a1 = some r) : Gives Tryz.prog 222 [V.one (cS a0), V.one (cI a1)] [] [V.one (cI r.1), V.one (cI r.2)] [] := by
 refine Gives.intro func222 rfl rfl rfl rfl ?_; refine fx fun w0 T S0 ob oh hm => ?_
 have hF := fxe w0 T S0 22 ob oh
 unfold I_varAt at H; obtain ⟨K, hK⟩ := leK k; refine sg 2 ?_; refine sy 2 ?_; obtain ⟨b1, hb1, H⟩ := bindS H; refine L.cutS underlying9 hF rfl rfl rfl rfl rfl hb1 ?_; refine cB 2 ent275 (g275 k  b1) H fun r2 H => ?_; refine gn 5 ?_; refine WpC.seq (sr ?_); refine gn 2 ?_; refine cd H (fun hc H => ?_) (fun hc H => ?_)
 ·refine sg 3 ?_; cases H; exact WpC.ret rt
 ·refine WpC.skip (sr ?_); refine gn 6 ?_; cases H; exact WpC.ret rt
/-! ### I_termAt -/
def I_termAt.l4 (cREC : (List UInt8) → Int → Int → Option Int) : Nat → (List UInt8) → Int → Int → Int → Int → Option Int
 | 0, _, _, _, _, _ => none
 | k4 + 1, v96, v97, v98, v99, v100 => cond (decide (v100 < v98)) (cond (decide (v99 ≥ 0)) ((cREC v96 v99 (IntKind.i64.wrap (v97 - 1))).bind fun r102 => (I_termAt.l4 cREC k4) v96 v97 v98 r102 (IntKind.i64.wrap (v100 + 1))) (some v99)) (some v99)
def I_termAt : Nat → (List UInt8) → Int → Int → Option Int
 | 0, _, _, _ => none
 | k + 1, a0, a1, a2 => cond (decide (a1 ≥ (a0.length : Int))) (some (-1)) (cond (decide (a2 < 1)) (some (-1)) ((I_varAt k a0 (IntKind.i64.wrap (a1 + 1))).bind fun r1 => (at? a0 a1).bind fun b54 => cond (b54 == (97 : UInt8)) ((I_within k r1.1 0 40).bind fun r58 => cond (!r58) (some (-1)) (cond (decide (r1.1 > (IntKind.i64.wrap ((a0.length : Int) - r1.2)))) (some (-1)) (some (IntKind.i64.wrap (r1.2 + r1.1))))) (cond (b54 == (107 : UInt8)) ((I_isKey k r1.1).bind fun r60 => cond (!r60) (some (-1)) (some r1.2)) (cond (b54 == (108 : UInt8)) ((I_within k r1.1 0 12).bind fun r62 => cond (!r62) (some (-1)) (I_termAt.l4 (I_termAt k) k a0 a2 r1.1 r1.2 0)) (cond (b54 == (115 : UInt8)) ((I_isKey k r1.1).bind fun r104 => cond (!r104) (some (-1)) (((I_termAt k) a0 r1.2 (IntKind.i64.wrap (a2 - 1))).bind fun r105 => some r105)) (some (-1)))))))
theorem ent217 : MG.Enters Tryz.prog 217 := en func217
theorem g217 : ∀ (k : Nat) (a0 : List UInt8) (a1 a2 r : Int) (H : I_termAt k a0 a1 a2 = some r), Gives Tryz.prog 217 [V.one (cS a0), V.one (cI a1), V.one (cI a2)] [] [V.one (cI r)] [] := by
 intro k
 induction k with
 | zero => intros; rename_i H; cases H
 | succ k ih =>
  intro a0 a1 a2 r H; refine Gives.intro func217 rfl rfl rfl rfl ?_; refine fx fun w0 T S0 ob oh hm => ?_
  have hF := fxe w0 T S0 80 ob oh
  rw [I_termAt] at H
  obtain ⟨K, hK⟩ := leK k; refine sg 1 ?_; refine WpC.seq (sr ?_); refine go 2 ?_; refine L.lenS underlying9 hF rfl rfl rfl ?_; refine go 2 ?_; refine sH H (fun hc H => ?_) (fun hc H => ?_)
  ·refine gn 3 ?_; refine cT ?_; refine sg 1 ?_; cases H; exact WpC.ret rt
  ·refine gn 3 ?_; refine cd H (fun hc H => ?_) (fun hc H => ?_)
   ·refine sg 1 ?_; cases H; exact WpC.ret rt
   ·refine WpC.skip (sr ?_); refine go 3 ?_; refine cB 3 ent222 (g222 k  a0 (IntKind.i64.wrap (a1 + 1))) H fun r1 H => ?_; refine gn 5 ?_; refine WpC.seq (sr ?_); refine go 2 ?_; obtain ⟨b54, hb54, H⟩ := bindS H; refine L.idxS underlying9 hF rfl rfl rfl rfl hb54 (L.nil ?_); refine WpC.block (sr ?_); refine L.binB (a := b54) (b := (97 : UInt8)) hF rfl rfl rfl rfl rfl ?_; refine gn 1 ?_; refine cd H (fun hc H => ?_) (fun hc H => ?_)
    ·refine WpC.seq (sr ?_); refine mv ?_; refine cB 5 ent66 (g66 k  r1.1 0 40) H fun r58 H => ?_; refine go 2 ?_; refine sH H (fun hc H => ?_) (fun hc H => ?_)
     ·refine gn 7 ?_; refine cT ?_; refine sg 1 ?_; cases H; exact WpC.ret rt
     ·refine go 2 ?_; refine L.lenS underlying9 hF rfl rfl rfl ?_; refine gn 4 ?_; refine cd H (fun hc H => ?_) (fun hc H => ?_)
      ·refine sg 1 ?_; cases H; exact WpC.ret rt
      ·refine WpC.skip (sr ?_); refine gn 4 ?_; cases H; exact WpC.ret rt
    ·refine sr ?_; refine L.binB (a := b54) (b := (107 : UInt8)) hF rfl rfl rfl rfl rfl ?_; refine gn 1 ?_; refine cd H (fun hc H => ?_) (fun hc H => ?_)
     ·refine WpC.seq (sr ?_); refine mv ?_; refine cB 5 ent64 (g64 k  r1.1) H fun r60 H => ?_; refine gn 1 ?_; refine cd H (fun hc H => ?_) (fun hc H => ?_)
      ·refine sg 1 ?_; cases H; exact WpC.ret rt
      ·refine WpC.skip (sr ?_); refine gn 2 ?_; cases H; exact WpC.ret rt
     ·refine sr ?_; refine L.binB (a := b54) (b := (108 : UInt8)) hF rfl rfl rfl rfl rfl ?_; refine gn 1 ?_; refine cd H (fun hc H => ?_) (fun hc H => ?_)
      ·refine WpC.seq (sr ?_); refine mv ?_; refine cB 5 ent66 (g66 k  r1.1 0 12) H fun r62 H => ?_; refine gn 1 ?_; refine cd H (fun hc H => ?_) (fun hc H => ?_)
       ·refine sg 1 ?_; cases H; exact WpC.ret rt
       ·refine WpC.skip (WpC.seq (sr ?_)); refine gn 1 ?_; refine WpC.block ?_; refine WpC.loopL (P := Tryz.prog) (fun n σ => ∃ (v96 : List UInt8) (v97 v98 v99 v100 : Int), n ≤ K ∧ I_termAt.l4 (I_termAt k) n v96 v97 v98 v99 v100 = some r ∧ σ = mkSt [(0, oS v96), (2, oI v97), (7, oI v98), (8, oI v99), (9, oI v100)] [] [] 0) k ⟨_, ⟨a0, a2, r1.1, r1.2, 0, by omega, H, rfl⟩, lm [] hm⟩ ?_; clear H
        rintro k4 _ ⟨v96, v97, v98, v99, v100, hk4, H, rfl⟩
        cases k4 with
        | zero => cases H
        | succ k4 =>
         rw [I_termAt.l4] at H
         refine WpC.seq (sr ?_); refine go 4 ?_; refine sH H (fun hc H => ?_) (fun hc H => ?_)
         ·refine gn 3 ?_; refine cd H (fun hc H => ?_) (fun hc H => ?_)
          ·refine WpC.skip (WpC.seq (WpC.block (WpC.regionL ?_))); refine go 4 ?_; refine cB 0 ent217 (ih  v96 v99 (IntKind.i64.wrap (v97 - 1))) H fun r102 H => ?_; refine gn 1 ?_; refine WpC.regionL ?_; refine gn 3 ?_; exact ⟨k4, _, by omega, ⟨v96, v97, v98, r102, (IntKind.i64.wrap (v100 + 1)), by omega, H, rfl⟩, lm [] hm⟩
          ·refine WpC.exit (sr ?_); refine gn 2 ?_; cases H; exact WpC.ret rt
         ·refine gn 3 ?_; refine cF ?_; refine WpC.exit (sr ?_); refine gn 2 ?_; cases H; exact WpC.ret rt
      ·refine sr ?_; refine L.binB (a := b54) (b := (115 : UInt8)) hF rfl rfl rfl rfl rfl ?_; refine gn 1 ?_; refine cd H (fun hc H => ?_) (fun hc H => ?_)
       ·refine WpC.seq (sr ?_); refine mv ?_; refine cB 5 ent64 (g64 k  r1.1) H fun r104 H => ?_; refine gn 1 ?_; refine cd H (fun hc H => ?_) (fun hc H => ?_)
        ·refine sg 1 ?_; cases H; exact WpC.ret rt
        ·refine WpC.skip (sr ?_); refine go 4 ?_; refine cB 6 ent217 (ih  a0 r1.2 (IntKind.i64.wrap (a2 - 1))) H fun r105 H => ?_; refine gn 1 ?_; cases H; exact WpC.ret rt
       ·refine WpC.skip (sr ?_); refine gn 1 ?_; cases H; exact WpC.ret rt
/-! ### I_TermOk -/
def I_TermOk (k : Nat) (a0 : List UInt8) : Option Bool := (I_within k (a0.length : Int) 1 900).bind fun r3 => cond r3 ((I_termAt k a0 0 8).bind fun r4 => some (r4 == (a0.length : Int))) (some false)
theorem ent144 : MG.Enters Tryz.prog 144 := en func144
theorem g144 (k : Nat) (a0 : List UInt8) (r : Bool) (H : I_TermOk k a0 = some r) : Gives Tryz.prog 144 [V.one (cS a0)] [] [V.one (cL r)] [] := by
 refine Gives.intro func144 rfl rfl rfl rfl ?_; refine fx fun w0 T S0 ob oh hm => ?_
 have hF := fxe w0 T S0 13 ob oh
 unfold I_TermOk at H; obtain ⟨K, hK⟩ := leK k; refine sg 1 ?_; refine sy 1 ?_; refine L.lenS underlying9 hF rfl rfl rfl ?_; refine cB 1 ent66 (g66 k  (a0.length : Int) 1 900) H fun r3 H => ?_; refine mv ?_; refine sH H (fun hc H => ?_) (fun hc H => ?_)
 ·refine mv ?_; refine cB 2 ent217 (g217 k  a0 0 8) H fun r4 H => ?_; refine mv ?_; refine L.lenS underlying9 hF rfl rfl rfl ?_; refine gn 3 ?_; cases H; exact WpC.ret rt
 ·refine gn 7 ?_; cases H; exact WpC.ret rt
/-! ### I_CredOk -/
def I_CredOk (k : Nat) (a0 : T_Cred) : Option Bool := (I_isPrincipal k a0.Owner).bind fun r7 => cond r7 ((I_isPrincipal k a0.Client).bind fun r8 => cond r8 ((I_isFor k a0.Service).bind fun r9 => cond r9 ((I_isKey k a0.Key).bind fun r10 => cond r10 ((I_RestOk k a0.Rest).bind fun r11 => cond r11 ((I_TermOk k a0.Ticket).bind fun r12 => some r12) (some false)) (some false)) (some false)) (some false)) (some false)
theorem ent171 : MG.Enters Tryz.prog 171 := en func171
theorem g171 (k : Nat) (a0 : T_Cred) (r : Bool) (H : I_CredOk k a0 = some r) : Gives Tryz.prog 171 [V.agg (bT_Cred a0)] [] [V.one (cL r)] [] := by
 refine Gives.intro func171 rfl rfl rfl rfl ?_; refine fx fun w0 T S0 ob oh hm => ?_
 have hF := fxe w0 T S0 31 ob oh
 unfold I_CredOk at H; obtain ⟨K, hK⟩ := leK k; refine sr ?_; refine bo 8 ?_; refine gn 1 ?_; refine sy 2 ?_; refine cB 9 ent67 (g67 k  a0.Owner) H fun r7 H => ?_; refine mv ?_; refine sH H (fun hc H => ?_) (fun hc H => ?_)
 ·refine go 2 ?_; refine cB 10 ent67 (g67 k  a0.Client) H fun r8 H => ?_; refine go 2 ?_; refine sH H (fun hc H => ?_) (fun hc H => ?_)
  ·refine go 2 ?_; refine cB 11 ent244 (g244 k  a0.Service) H fun r9 H => ?_; refine go 2 ?_; refine sH H (fun hc H => ?_) (fun hc H => ?_)
   ·refine go 2 ?_; refine cB 12 ent64 (g64 k  a0.Key) H fun r10 H => ?_; refine go 2 ?_; refine sH H (fun hc H => ?_) (fun hc H => ?_)
    ·refine go 2 ?_; refine cB 13 ent101 (g101 k  a0.Rest) H fun r11 H => ?_; refine go 2 ?_; refine sH H (fun hc H => ?_) (fun hc H => ?_)
     ·refine go 2 ?_; refine cB 14 ent144 (g144 k  a0.Ticket) H fun r12 H => ?_; refine gn 2 ?_; cases H; exact WpC.ret rt
     ·refine gn 5 ?_; cases H; exact WpC.ret rt
    ·refine gn 10 ?_; cases H; exact WpC.ret rt
   ·refine gn 15 ?_; cases H; exact WpC.ret rt
  ·refine gn 20 ?_; cases H; exact WpC.ret rt
 ·refine gn 25 ?_; cases H; exact WpC.ret rt
/-! ### I_authOk -/
def I_authOk (k : Nat) (a0 : T_Auth) : Option Bool := (I_isPrincipal k a0.Client).bind fun r4 => cond r4 ((I_isTime k a0.Time).bind fun r5 => cond r5 ((I_within k a0.Seq 0 1000000).bind fun r6 => some r6) (some false)) (some false)
theorem ent245 : MG.Enters Tryz.prog 245 := en func245
theorem g245 (k : Nat) (a0 : T_Auth) (r : Bool) (H : I_authOk k a0 = some r) : Gives Tryz.prog 245 [V.agg (bT_Auth a0)] [] [V.one (cL r)] [] := by
 refine Gives.intro func245 rfl rfl rfl rfl ?_; refine fx fun w0 T S0 ob oh hm => ?_
 have hF := fxe w0 T S0 16 ob oh
 unfold I_authOk at H; obtain ⟨K, hK⟩ := leK k; refine sr ?_; refine bo 3 ?_; refine gn 1 ?_; refine sy 2 ?_; refine cB 4 ent67 (g67 k  a0.Client) H fun r4 H => ?_; refine mv ?_; refine sH H (fun hc H => ?_) (fun hc H => ?_)
 ·refine go 2 ?_; refine cB 5 ent176 (g176 k  a0.Time) H fun r5 H => ?_; refine go 2 ?_; refine sH H (fun hc H => ?_) (fun hc H => ?_)
  ·refine go 2 ?_; refine cB 6 ent66 (g66 k  a0.Seq 0 1000000) H fun r6 H => ?_; refine gn 2 ?_; cases H; exact WpC.ret rt
  ·refine gn 5 ?_; cases H; exact WpC.ret rt
 ·refine gn 10 ?_; cases H; exact WpC.ret rt
/-! ### V_Index_Auth -/
def V_Index_Auth.l2 : Nat → (List T_Auth) → Int → Int → T_Auth → Option Int
 | 0, _, _, _, _ => none
 | k2 + 1, v29, v30, v31, v32 => cond (decide (v31 < v30)) ((at? v29 v31).bind fun b34 => cond ((v32.Client == b34.Client) && ((v32.Time == b34.Time) && ((v32.Seq == b34.Seq) && true))) (some v31) ((V_Index_Auth.l2 k2) v29 v30 (IntKind.i64.wrap (v31 + 1)) v32)) (some (-1))
def V_Index_Auth (k : Nat) (a0 : List T_Auth) (a1 : T_Auth) : Option Int := V_Index_Auth.l2 k a0 (a0.length : Int) 0 a1
theorem ent282 : MG.Enters Tryz.prog 282 := en func282
theorem g282 (k : Nat) (g0 : Bool) (a0 : List T_Auth) (a1 : T_Auth) (r : Int) (H : V_Index_Auth k a0 a1 = some r) : Gives Tryz.prog 282 [V.one (Cell.sl g0 (List.map eT_Auth a0)), V.agg (bT_Auth a1)] [] [V.one (cI r)] [] := by
 refine Gives.intro func282 rfl rfl rfl rfl ?_; refine fx fun w0 T S0 ob oh hm => ?_
 have hF := fxe w0 T S0 19 ob oh
 unfold V_Index_Auth at H; obtain ⟨K, hK⟩ := leK k; refine sr ?_; refine bo 4 ?_; refine gn 1 ?_; refine WpC.seq (sr ?_); refine mv ?_; refine L.lenR (xs := a0) (e := eT_Auth) underlying168 hF rfl rfl rfl rfl ?_; refine gn 1 ?_; refine WpC.block ?_; refine WpC.loopL (P := Tryz.prog) (fun n σ => ∃ (v29 : List T_Auth) (v30 v31 : Int) (v32 : T_Auth), n ≤ K ∧ V_Index_Auth.l2 n v29 v30 v31 v32 = some r ∧ σ = mkSt [(0, MG.one (Cell.sl g0 (List.map eT_Auth v29))), (3, oP 0 0), (7, oI v30), (8, oI v31)] [] [(0, (bT_Auth v32))] 1) k ⟨_, ⟨a0, (a0.length : Int), 0, a1, by omega, H, rfl⟩, lm [(0, 4)] hm⟩ ?_; clear H
 rintro k2 _ ⟨v29, v30, v31, v32, hk2, H, rfl⟩
 cases k2 with
 | zero => cases H
 | succ k2 =>
  rw [V_Index_Auth.l2] at H
  refine sg 1 ?_; refine WpC.seq ?_; refine cd H (fun hc H => ?_) (fun hc H => ?_)
  ·refine WpC.skip (WpC.seq (WpC.block (sr ?_))); refine gn 2 ?_; refine WpC.seq ?_; refine S.begin mixed (by kernel_rfl) ?_; refine S.st 0 rfl rfl (Qu.load) (fun Q0 k0 => lp shape72 (L.nil k0)) ?_; refine S.st 1 rfl rfl ((Ca.move).quiet) (fun Q0 k0 => mv (L.nil k0)) ?_; refine S.st 2 rfl rfl ((Ca.move).quiet) (fun Q0 k0 => mv (L.nil k0)) ?_; obtain ⟨b34, hb34, H⟩ := bindS H; refine S.st 3 rfl rfl ((Ca.indexAddr).quiet) (fun Q0 k0 => ix underlying168 info72 hb34 (L.nil k0)) ?_; refine S.st 4 rfl rfl (Qu.load) (fun Q0 k0 => le shape72 (L.nil k0)) ?_; refine S.st 5 rfl rfl ((Ca.eqA (r := ((v32.Client == b34.Client) && ((v32.Time == b34.Time) && ((v32.Seq == b34.Seq) && true)))) rfl rfl rfl rfl (by kernel_rfl) (by kernel_rfl)).quiet) (fun Q0 k0 => L.eqA (r := ((v32.Client == b34.Client) && ((v32.Time == b34.Time) && ((v32.Seq == b34.Seq) && true)))) hF rfl rfl rfl rfl rfl rfl (by kernel_rfl) (by kernel_rfl) (L.nil k0)) ?_; refine S.nil ?_; refine cd H (fun hc H => ?_) (fun hc H => ?_)
   ·refine sg 2 ?_; cases H; exact WpC.ret rt
   ·refine WpC.skip (WpC.regionL ?_); refine gn 2 ?_; exact ⟨k2, _, by omega, ⟨v29, v30, (IntKind.i64.wrap (v31 + 1)), v32, by omega, H, rfl⟩, lm [(0, 0)] hm⟩
  ·refine WpC.exit (sr ?_); refine gn 1 ?_; cases H; exact WpC.ret rt
/-! ### V_Contains_Auth -/
def V_Contains_Auth (k : Nat) (a0 : List T_Auth) (a1 : T_Auth) : Option Bool := (V_Index_Auth k a0 a1).bind fun r1 => some (decide (r1 ≥ 0))
theorem ent246 : MG.Enters Tryz.prog 246 := en func246
theorem g246 (k : Nat) (g0 : Bool) (a0 : List T_Auth) (a1 : T_Auth) (r : Bool) (H : V_Contains_Auth k a0 a1 = some r) : Gives Tryz.prog 246 [V.one (Cell.sl g0 (List.map eT_Auth a0)), V.agg (bT_Auth a1)] [] [V.one (cL r)] [] := by
 refine Gives.intro func246 rfl rfl rfl rfl ?_; refine fx fun w0 T S0 ob oh hm => ?_
 have hF := fxe w0 T S0 9 ob oh
 unfold V_Contains_Auth at H; obtain ⟨K, hK⟩ := leK k; refine sr ?_; refine bo 4 ?_; refine gn 1 ?_; refine sy 2 ?_; refine cB 5 ent282 (g282 k g0 a0 a1) H fun r1 H => ?_; refine gn 2 ?_; cases H; exact WpC.ret rt
/-! ### I_CacheOk -/
def I_CacheOk.l2 : Nat → T_Cache → Int → Int → Option Bool
 | 0, _, _, _ => none
 | k2 + 1, v84, v85, v86 => cond (decide (v86 < v85)) ((at? v84.Seen v86).bind fun b94 => (I_authOk k2 b94).bind fun r98 => cond (!r98) (some false) ((part? v84.Seen 0 v86).bind fun b100 => (V_Contains_Auth k2 b100 b94).bind fun r101 => cond r101 (some false) ((I_CacheOk.l2 k2) v84 v85 (IntKind.i64.wrap (v86 + 1))))) ((I_within k2 v84.Quiet (-1) 200000).bind fun r103 => cond r103 (some (decide ((v84.Seen.length : Int) ≤ 6))) (some false))
def I_CacheOk (k : Nat) (a0 : T_Cache) : Option Bool := I_CacheOk.l2 k a0 (a0.Seen.length : Int) 0
theorem ent172 : MG.Enters Tryz.prog 172 := en func172
theorem g172 (k : Nat) (g0 : Bool) (a0 : T_Cache) (r : Bool) (H : I_CacheOk k a0 = some r) : Gives Tryz.prog 172 [V.agg [cI a0.Quiet, Cell.sl g0 (List.map eT_Auth a0.Seen)]] [] [V.one (cL r)] [] := by
 refine Gives.intro func172 rfl rfl rfl rfl ?_; refine fx fun w0 T S0 ob oh hm => ?_
 have hF := fxe w0 T S0 34 ob oh
 unfold I_CacheOk at H; obtain ⟨K, hK⟩ := leK k; refine sr ?_; refine bo 2 ?_; refine gn 1 ?_; refine WpC.seq (sr ?_); refine go 2 ?_; refine L.lenR (xs := a0.Seen) (e := eT_Auth) underlying168 hF rfl rfl rfl rfl ?_; refine gn 1 ?_; refine WpC.block ?_; refine WpC.loopL (P := Tryz.prog) (fun n σ => ∃ (v84 : T_Cache) (v85 v86 : Int), n ≤ K ∧ I_CacheOk.l2 n v84 v85 v86 = some r ∧ σ = mkSt [(1, oP 0 0), (6, MG.one (Cell.sl g0 (List.map eT_Auth v84.Seen))), (7, oI v85), (8, oI v86)] [] [(0, [cI v84.Quiet, Cell.sl g0 (List.map eT_Auth v84.Seen)])] 1) k ⟨_, ⟨a0, (a0.Seen.length : Int), 0, by omega, H, rfl⟩, lm [(0, 2)] hm⟩ ?_; clear H
 rintro k2 _ ⟨v84, v85, v86, hk2, H, rfl⟩
 cases k2 with
 | zero => cases H
 | succ k2 =>
  rw [I_CacheOk.l2] at H
  refine sg 1 ?_; refine WpC.seq ?_; refine cd H (fun hc H => ?_) (fun hc H => ?_)
  ·refine WpC.skip (WpC.seq (WpC.block (sr ?_))); refine mv ?_; obtain ⟨b94, hb94, H⟩ := bindS H; refine ix underlying168 info72 hb94 ?_; refine le shape72 ?_; refine alc 1 info72 ?_; refine gn 2 ?_; refine WpC.seq ?_; obtain ⟨r98, hr98, H⟩ := bindS H
   rcases Bool.eq_false_or_eq_true ((!r98)) with hc99 | hc99
   ·replace H := condT hc99 H
    refine A.begin mixed rfl rfl ?_; intro W hI hO; refine hI _ _ _ ?_; refine A.all [0] (by kernel_rfl) rfl ⟨⟨_, rfl, ?_⟩, trivial⟩; refine gn 1 ?_; refine A.all [1] (by kernel_rfl) rfl ⟨⟨_, rfl, ?_⟩, trivial⟩; refine c0 2 ent245 (g245 k2  b94 r98 hr98) (L.nil ?_); refine Atk 2 rfl (Ca.un rfl rfl) (fun Q0 k0 => nt (L.nil k0)) ?_; refine tM 3 ?_; refine A.le (τ := mkSt [(1, oP 0 0), (3, oI v86), (4, oP 1 0), (6, MG.one (Cell.sl g0 (List.map eT_Auth v84.Seen))), (7, oI v85), (8, oI v86), (16, oL true)] [] [(0, [cI v84.Quiet, Cell.sl g0 (List.map eT_Auth v84.Seen)]), (1, (bT_Auth b94))] 2) (Le.mk [(0, 0), (1, 1)] hm rfl (Sa4 (Sa2 (Sa1 trivial rfl (congrArg (fun b => some (MG.one (cL b))) hc99)))) trivial (Ba2 trivial)) ?_; refine tO 4 ?_; refine tO 5 ?_; refine tO 6 ?_; refine tO 7 ?_; refine tO 8 ?_; refine A.all [9] (by kernel_rfl) rfl ⟨⟨_, rfl, ?_⟩, trivial⟩; refine gn 1 ?_; refine tP 10 ?_; refine A.le (τ := mkSt [(1, oP 0 0), (6, MG.one (Cell.sl g0 (List.map eT_Auth v84.Seen))), (7, oI v85), (8, oI v86), (23, oL true)] [] [(0, [cI v84.Quiet, Cell.sl g0 (List.map eT_Auth v84.Seen)])] 1) (lm [(0, 0)] hm) ?_; refine A.done (by kernel_rfl) ?_; refine cT ?_
    refine sg 1 ?_; cases H; exact WpC.ret rt
   ·replace H := condF hc99 H
    obtain ⟨b100, hb100, H⟩ := bindS H; obtain ⟨r101, hr101, H⟩ := bindS H; refine A.begin mixed rfl rfl ?_; intro W hI hO
    have n511 : W 2 #[true, true, true, true, true, true, true, true, true, false, false] (mkSt [(1, oP 0 0), (6, MG.one (Cell.sl g0 (List.map eT_Auth v84.Seen))), (7, oI v85), (8, oI v86), (16, oL false), (20, MG.one (Cell.sl g0 (List.map eT_Auth b100))), (21, agg (bT_Auth b94))] [] [(0, [cI v84.Quiet, Cell.sl g0 (List.map eT_Auth v84.Seen)])] 1) := by
     refine hI _ _ _ ?_; refine A.all [9] (by kernel_rfl) rfl ⟨⟨_, rfl, ?_⟩, trivial⟩; refine c0 1 ent246 (g246 k2 g0 b100 b94 r101 hr101) (L.nil ?_); refine tP 10 ?_; refine A.le (τ := mkSt [(1, oP 0 0), (6, MG.one (Cell.sl g0 (List.map eT_Auth v84.Seen))), (7, oI v85), (8, oI v86), (23, oL r101)] [] [(0, [cI v84.Quiet, Cell.sl g0 (List.map eT_Auth v84.Seen)])] 1) (lm [(0, 0)] hm) ?_; refine A.done (by kernel_rfl) ?_; refine cd H (fun hc H => ?_) (fun hc H => ?_)
     ·refine sg 1 ?_; cases H; exact WpC.ret rt
     ·refine WpC.skip (WpC.regionL ?_); refine gn 2 ?_; exact ⟨k2, _, by omega, ⟨v84, v85, (IntKind.i64.wrap (v86 + 1)), by omega, H, rfl⟩, lm [(0, 0)] hm⟩
    refine hI _ _ _ ?_; refine A.all [0] (by kernel_rfl) rfl ⟨⟨_, rfl, ?_⟩, trivial⟩; refine gn 1 ?_; refine A.all [1] (by kernel_rfl) rfl ⟨⟨_, rfl, ?_⟩, trivial⟩; refine c0 2 ent245 (g245 k2  b94 r98 hr98) (L.nil ?_); refine Atk 2 rfl (Ca.un rfl rfl) (fun Q0 k0 => nt (L.nil k0)) ?_; refine tM 3 ?_; refine A.le (τ := mkSt [(1, oP 0 0), (3, oI v86), (4, oP 1 0), (6, MG.one (Cell.sl g0 (List.map eT_Auth v84.Seen))), (7, oI v85), (8, oI v86), (16, oL false)] [] [(0, [cI v84.Quiet, Cell.sl g0 (List.map eT_Auth v84.Seen)]), (1, (bT_Auth b94))] 2) (Le.mk [(0, 0), (1, 1)] hm rfl (Sa4 (Sa2 (Sa1 trivial rfl (congrArg (fun b => some (MG.one (cL b))) hc99)))) trivial (Ba2 trivial)) ?_; refine tF 4 underlying170 info168 ?_; refine tM 6 ?_; refine A.all [5, 8] (by kernel_rfl) rfl ⟨⟨_, rfl, ?_⟩, ⟨_, rfl, ?_⟩, trivial⟩
    ·refine gn 1 ?_; refine Atk 7 rfl (Ca.slice) (fun Q0 k0 => L.cutR (xs := v84.Seen) (ys := b100) (e := eT_Auth) underlying168 info72 hF rfl rfl rfl rfl rfl hb100 (fun _ => rfl) (L.nil k0)) ?_; refine A.all [8] (by kernel_rfl) rfl ⟨⟨_, rfl, ?_⟩, trivial⟩; refine gn 1 ?_; exact A.on (hO _ _ _ n511) (lm [(0, 0)] hm)
    ·refine gn 1 ?_; refine A.all [5] (by kernel_rfl) rfl ⟨⟨_, rfl, ?_⟩, trivial⟩; refine gn 1 ?_; refine Atk 7 rfl (Ca.slice) (fun Q0 k0 => L.cutR (xs := v84.Seen) (ys := b100) (e := eT_Auth) underlying168 info72 hF rfl rfl rfl rfl rfl hb100 (fun _ => rfl) (L.nil k0)) ?_; exact A.on (hO _ _ _ n511) (lm [(0, 0)] hm)
  ·refine WpC.exit (sr ?_); refine go 2 ?_; refine cB 1 ent66 (g66 k2  v84.Quiet (-1) 200000) H fun r103 H => ?_; refine mv ?_; refine sH H (fun hc H => ?_) (fun hc H => ?_)
   ·refine go 2 ?_; refine L.lenR (xs := v84.Seen) (e := eT_Auth) underlying168 hF rfl rfl rfl rfl ?_; refine gn 3 ?_; cases H; exact WpC.ret rt
   ·refine gn 6 ?_; cases H; exact WpC.ret rt
/-! ### I_areAll__impl_isRealm -/
def I_areAll__impl_isRealm.l2 : Nat → (List Int) → Int → Int → Int → Option Bool
 | 0, _, _, _, _ => none
 | k2 + 1, v39, v40, v41, v42 => cond (decide (v42 < v41)) ((at? v39 v42).bind fun b45 => (I_isRealm k2 b45).bind fun r46 => cond (!r46) (some false) ((I_areAll__impl_isRealm.l2 k2) v39 v40 v41 (IntKind.i64.wrap (v42 + 1)))) (some (decide ((v39.length : Int) ≤ v40)))
def I_areAll__impl_isRealm (k : Nat) (a0 : List Int) (a1 : Int) : Option Bool := I_areAll__impl_isRealm.l2 k a0 a1 (a0.length : Int) 0
theorem ent189 : MG.Enters Tryz.prog 189 := en func189
theorem g189 (k : Nat) (g0 : Bool) (a0 : List Int) (a1 : Int) (r : Bool) (H : I_areAll__impl_isRealm k a0 a1 = some r) : Gives Tryz.prog 189 [V.one (Cell.sl g0 (List.map eI a0)), V.one (cI a1), V.one (Cell.clo 187 [])] [] [V.one (cL r)] [] := by
 refine Gives.intro func189 rfl rfl rfl rfl ?_; refine fx fun w0 T S0 ob oh hm => ?_
 have hF := fxe w0 T S0 24 ob oh
 unfold I_areAll__impl_isRealm at H; obtain ⟨K, hK⟩ := leK k; refine sg 1 ?_; refine WpC.seq (sr ?_); refine mv ?_; refine L.lenR (xs := a0) (e := eI) underlying24 hF rfl rfl rfl rfl ?_; refine gn 1 ?_; refine WpC.block ?_; refine WpC.loopL (P := Tryz.prog) (fun n σ => ∃ (v39 : List Int) (v40 v41 v42 : Int), n ≤ K ∧ I_areAll__impl_isRealm.l2 n v39 v40 v41 v42 = some r ∧ σ = mkSt [(0, MG.one (Cell.sl g0 (List.map eI v39))), (1, oI v40), (2, MG.one (Cell.clo 187 [])), (9, MG.one (Cell.sl g0 (List.map eI v39))), (10, oI v41), (11, oI v42)] [] [] 0) k ⟨_, ⟨a0, a1, (a0.length : Int), 0, by omega, H, rfl⟩, lm [] hm⟩ ?_; clear H
 rintro k2 _ ⟨v39, v40, v41, v42, hk2, H, rfl⟩
 cases k2 with
 | zero => cases H
 | succ k2 =>
  rw [I_areAll__impl_isRealm.l2] at H
  refine sg 1 ?_; refine WpC.seq ?_; refine cd H (fun hc H => ?_) (fun hc H => ?_)
  ·refine WpC.skip (WpC.seq (WpC.block (sr ?_))); obtain ⟨b45, hb45, H⟩ := bindS H; refine ix underlying24 info3 hb45 ?_; refine gn 2 ?_; refine sy 2 ?_; refine cB 0 ent187 (g187 k2  b45) H fun r46 H => ?_; refine gn 1 ?_; refine cd H (fun hc H => ?_) (fun hc H => ?_)
   ·refine sg 1 ?_; cases H; exact WpC.ret rt
   ·refine WpC.skip (WpC.regionL ?_); refine gn 2 ?_; exact ⟨k2, _, by omega, ⟨v39, v40, v41, (IntKind.i64.wrap (v42 + 1)), by omega, H, rfl⟩, lm [] hm⟩
  ·refine WpC.exit (sr ?_); refine mv ?_; refine L.lenR (xs := v39) (e := eI) underlying24 hF rfl rfl rfl rfl ?_; refine gn 3 ?_; cases H; exact WpC.ret rt
/-! ### I_areAll__impl_isService -/
def I_areAll__impl_isService.l2 : Nat → (List Int) → Int → Int → Int → Option Bool
 | 0, _, _, _, _ => none
 | k2 + 1, v39, v40, v41, v42 => cond (decide (v42 < v41)) ((at? v39 v42).bind fun b45 => (I_isService k2 b45).bind fun r46 => cond (!r46) (some false) ((I_areAll__impl_isService.l2 k2) v39 v40 v41 (IntKind.i64.wrap (v42 + 1)))) (some (decide ((v39.length : Int) ≤ v40)))
def I_areAll__impl_isService (k : Nat) (a0 : List Int) (a1 : Int) : Option Bool := I_areAll__impl_isService.l2 k a0 a1 (a0.length : Int) 0
theorem I_areAll__impl_isService_gives (k : Nat) (g0 : Bool) (a0 : List Int) (a1 : Int) (r : Bool) (H : I_areAll__impl_isService k a0 a1 = some r) : Gives Tryz.prog 189 [V.one (Cell.sl g0 (List.map eI a0)), V.one (cI a1), V.one (Cell.clo 100 [])] [] [V.one (cL r)] [] := by
 refine Gives.intro func189 rfl rfl rfl rfl ?_; refine fx fun w0 T S0 ob oh hm => ?_
 have hF := fxe w0 T S0 24 ob oh
 unfold I_areAll__impl_isService at H; obtain ⟨K, hK⟩ := leK k; refine sg 1 ?_; refine WpC.seq (sr ?_); refine mv ?_; refine L.lenR (xs := a0) (e := eI) underlying24 hF rfl rfl rfl rfl ?_; refine gn 1 ?_; refine WpC.block ?_; refine WpC.loopL (P := Tryz.prog) (fun n σ => ∃ (v39 : List Int) (v40 v41 v42 : Int), n ≤ K ∧ I_areAll__impl_isService.l2 n v39 v40 v41 v42 = some r ∧ σ = mkSt [(0, MG.one (Cell.sl g0 (List.map eI v39))), (1, oI v40), (2, MG.one (Cell.clo 100 [])), (9, MG.one (Cell.sl g0 (List.map eI v39))), (10, oI v41), (11, oI v42)] [] [] 0) k ⟨_, ⟨a0, a1, (a0.length : Int), 0, by omega, H, rfl⟩, lm [] hm⟩ ?_; clear H
 rintro k2 _ ⟨v39, v40, v41, v42, hk2, H, rfl⟩
 cases k2 with
 | zero => cases H
 | succ k2 =>
  rw [I_areAll__impl_isService.l2] at H
  refine sg 1 ?_; refine WpC.seq ?_; refine cd H (fun hc H => ?_) (fun hc H => ?_)
  ·refine WpC.skip (WpC.seq (WpC.block (sr ?_))); obtain ⟨b45, hb45, H⟩ := bindS H; refine ix underlying24 info3 hb45 ?_; refine gn 2 ?_; refine sy 2 ?_; refine cB 0 ent100 (g100 k2  b45) H fun r46 H => ?_; refine gn 1 ?_; refine cd H (fun hc H => ?_) (fun hc H => ?_)
   ·refine sg 1 ?_; cases H; exact WpC.ret rt
   ·refine WpC.skip (WpC.regionL ?_); refine gn 2 ?_; exact ⟨k2, _, by omega, ⟨v39, v40, v41, (IntKind.i64.wrap (v42 + 1)), by omega, H, rfl⟩, lm [] hm⟩
  ·refine WpC.exit (sr ?_); refine mv ?_; refine L.lenR (xs := v39) (e := eI) underlying24 hF rfl rfl rfl rfl ?_; refine gn 3 ?_; cases H; exact WpC.ret rt
/-! ### I_acceptOk -/
def I_acceptOk (k : Nat) (a0 : T_Accept) (a1 : Int) : Option Bool := (I_isService k a0.Server).bind fun r6 => cond r6 ((I_isPrincipal k a0.Client).bind fun r7 => cond r7 ((I_within k a0.Leaks 0 a1).bind fun r8 => cond r8 ((I_areAll__impl_isRealm k a0.Path 6).bind fun r9 => cond r9 ((I_areAll__impl_isService k a0.Via 4).bind fun r10 => some r10) (some false)) (some false)) (some false)) (some false)
theorem ent173 : MG.Enters Tryz.prog 173 := en func173
theorem g173 (k : Nat) (g0 g1 : Bool) (a0 : T_Accept) (a1 : Int) (r : Bool) (H : I_acceptOk k a0 a1 = some r) : Gives Tryz.prog 173 [V.agg (bT_Accept g0 g1 a0), V.one (cI a1)] [] [V.one (cL r)] [] := by
 refine Gives.intro func173 rfl rfl rfl rfl ?_; refine fx fun w0 T S0 ob oh hm => ?_
 have hF := fxe w0 T S0 29 ob oh
 unfold I_acceptOk at H; obtain ⟨K, hK⟩ := leK k; refine sr ?_; refine bo 16 ?_; refine gn 1 ?_; refine sy 2 ?_; refine cB 17 ent100 (g100 k  a0.Server) H fun r6 H => ?_; refine mv ?_; refine sH H (fun hc H => ?_) (fun hc H => ?_)
 ·refine go 2 ?_; refine cB 18 ent67 (g67 k  a0.Client) H fun r7 H => ?_; refine go 2 ?_; refine sH H (fun hc H => ?_) (fun hc H => ?_)
  ·refine go 3 ?_; refine cB 19 ent66 (g66 k  a0.Leaks 0 a1) H fun r8 H => ?_; refine go 2 ?_; refine sH H (fun hc H => ?_) (fun hc H => ?_)
   ·refine go 2 ?_; refine cB 20 ent189 (g189 k g0 a0.Path 6) H fun r9 H => ?_; refine go 2 ?_; refine sH H (fun hc H => ?_) (fun hc H => ?_)
    ·refine go 2 ?_; refine cB 21 ent189 (I_areAll__impl_isService_gives k g1 a0.Via 4) H fun r10 H => ?_; refine gn 2 ?_; cases H; exact WpC.ret rt
    ·refine gn 5 ?_; cases H; exact WpC.ret rt
   ·refine gn 10 ?_; cases H; exact WpC.ret rt
  ·refine gn 16 ?_; cases H; exact WpC.ret rt
 ·refine gn 21 ?_; cases H; exact WpC.ret rt
/-! ### I_WorldOk_1 -/
def I_WorldOk_1 (k : Nat) (a0 : List UInt8) : Option Bool := (I_TermOk k a0).bind fun r1 => some (!r1)
theorem ent175 : MG.Enters Tryz.prog 175 := en func175
theorem g175 (k : Nat) (a0 : List UInt8) (r : Bool) (H : I_WorldOk_1 k a0 = some r) : Gives Tryz.prog 175 [V.one (cS a0)] [] [V.one (cL r)] [] := by
 refine Gives.intro func175 rfl rfl rfl rfl ?_; refine fx fun w0 T S0 ob oh hm => ?_
 have hF := fxe w0 T S0 6 ob oh
 unfold I_WorldOk_1 at H; obtain ⟨K, hK⟩ := leK k; refine sg 1 ?_; refine sy 1 ?_; refine cB 1 ent144 (g144 k  a0) H fun r1 H => ?_; refine gn 2 ?_; cases H; exact WpC.ret rt
/-! ### V_IndexFunc_string__impl_WorldOk_1 -/
def V_IndexFunc_string__impl_WorldOk_1.l2 : Nat → (List (List UInt8)) → Int → Int → Option Int
 | 0, _, _, _ => none
 | k2 + 1, v34, v35, v36 => cond (decide (v36 < v35)) ((at? v34 v36).bind fun b39 => (I_WorldOk_1 k2 b39).bind fun r40 => cond r40 (some v36) ((V_IndexFunc_string__impl_WorldOk_1.l2 k2) v34 v35 (IntKind.i64.wrap (v36 + 1)))) (some (-1))
def V_IndexFunc_string__impl_WorldOk_1 (k : Nat) (a0 : List (List UInt8)) : Option Int := V_IndexFunc_string__impl_WorldOk_1.l2 k a0 (a0.length : Int) 0
theorem ent247 : MG.Enters Tryz.prog 247 := en func247
theorem g247 (k : Nat) (g0 : Bool) (a0 : List (List UInt8)) (r : Int) (H : V_IndexFunc_string__impl_WorldOk_1 k a0 = some r) : Gives Tryz.prog 247 [V.one (Cell.sl g0 (List.map eS a0)), V.one (Cell.clo 175 [])] [] [V.one (cI r)] [] := by
 refine Gives.intro func247 rfl rfl rfl rfl ?_; refine fx fun w0 T S0 ob oh hm => ?_
 have hF := fxe w0 T S0 19 ob oh
 unfold V_IndexFunc_string__impl_WorldOk_1 at H; obtain ⟨K, hK⟩ := leK k; refine sg 1 ?_; refine WpC.seq (sr ?_); refine mv ?_; refine L.lenR (xs := a0) (e := eS) underlying34 hF rfl rfl rfl rfl ?_; refine gn 1 ?_; refine WpC.block ?_; refine WpC.loopL (P := Tryz.prog) (fun n σ => ∃ (v34 : List (List UInt8)) (v35 v36 : Int), n ≤ K ∧ V_IndexFunc_string__impl_WorldOk_1.l2 n v34 v35 v36 = some r ∧ σ = mkSt [(0, MG.one (Cell.sl g0 (List.map eS v34))), (1, MG.one (Cell.clo 175 [])), (7, oI v35), (8, oI v36)] [] [] 0) k ⟨_, ⟨a0, (a0.length : Int), 0, by omega, H, rfl⟩, lm [] hm⟩ ?_; clear H
 rintro k2 _ ⟨v34, v35, v36, hk2, H, rfl⟩
 cases k2 with
 | zero => cases H
 | succ k2 =>
  rw [V_IndexFunc_string__impl_WorldOk_1.l2] at H
  refine sg 1 ?_; refine WpC.seq ?_; refine cd H (fun hc H => ?_) (fun hc H => ?_)
  ·refine WpC.skip (WpC.seq (WpC.block (sr ?_))); refine gn 2 ?_; refine sy 3 ?_; obtain ⟨b39, hb39, H⟩ := bindS H; refine ix underlying34 info9 hb39 ?_; refine le shape9 ?_; refine cB 0 ent175 (g175 k2  b39) H fun r40 H => L.nil ?_; refine cd H (fun hc H => ?_) (fun hc H => ?_)
   ·refine sg 2 ?_; cases H; exact WpC.ret rt
   ·refine WpC.skip (WpC.regionL ?_); refine gn 2 ?_; exact ⟨k2, _, by omega, ⟨v34, v35, (IntKind.i64.wrap (v36 + 1)), by omega, H, rfl⟩, lm [] hm⟩
  ·refine WpC.exit (sr ?_); refine gn 1 ?_; cases H; exact WpC.ret rt
/-! ### V_ContainsFunc_string__impl_WorldOk_1 -/
def V_ContainsFunc_string__impl_WorldOk_1 (k : Nat) (a0 : List (List UInt8)) : Option Bool := (V_IndexFunc_string__impl_WorldOk_1 k a0).bind fun r1 => some (decide (r1 ≥ 0))
theorem ent174 : MG.Enters Tryz.prog 174 := en func174
theorem g174 (k : Nat) (g0 : Bool) (a0 : List (List UInt8)) (r : Bool) (H : V_ContainsFunc_string__impl_WorldOk_1 k a0 = some r) : Gives Tryz.prog 174 [V.one (Cell.sl g0 (List.map eS a0)), V.one (Cell.clo 175 [])] [] [V.one (cL r)] [] := by
 refine Gives.intro func174 rfl rfl rfl rfl ?_; refine fx fun w0 T S0 ob oh hm => ?_
 have hF := fxe w0 T S0 9 ob oh
 unfold V_ContainsFunc_string__impl_WorldOk_1 at H; obtain ⟨K, hK⟩ := leK k; refine sg 1 ?_; refine sy 2 ?_; refine cB 2 ent247 (g247 k g0 a0) H fun r1 H => ?_; refine gn 2 ?_; cases H; exact WpC.ret rt
/-! ### I_ConfigOk_1 -/
def I_ConfigOk_1 (k : Nat) (a0 : T_Pair) : Option Bool := (I_isRealm k a0.A).bind fun r3 => cond r3 ((I_isRealm k a0.B).bind fun r4 => cond r4 (some (a0.A != a0.B)) (some false)) (some false)
theorem ent186 : MG.Enters Tryz.prog 186 := en func186
theorem g186 (k : Nat) (a0 : T_Pair) (r : Bool) (H : I_ConfigOk_1 k a0 = some r) : Gives Tryz.prog 186 [V.agg [cI a0.A, cI a0.B]] [] [V.one (cL r)] [] := by
 refine Gives.intro func186 rfl rfl rfl rfl ?_; refine fx fun w0 T S0 ob oh hm => ?_
 have hF := fxe w0 T S0 18 ob oh
 unfold I_ConfigOk_1 at H; obtain ⟨K, hK⟩ := leK k; refine sr ?_; refine bo 2 ?_; refine gn 1 ?_; refine sy 2 ?_; refine cB 3 ent187 (g187 k  a0.A) H fun r3 H => ?_; refine mv ?_; refine sH H (fun hc H => ?_) (fun hc H => ?_)
 ·refine go 2 ?_; refine cB 4 ent187 (g187 k  a0.B) H fun r4 H => ?_; refine go 2 ?_; refine sH H (fun hc H => ?_) (fun hc H => ?_)
  ·refine gn 7 ?_; cases H; exact WpC.ret rt
  ·refine gn 7 ?_; cases H; exact WpC.ret rt
 ·refine gn 12 ?_; cases H; exact WpC.ret rt
/-! ### V_Index_Pair -/
def V_Index_Pair.l2 : Nat → (List T_Pair) → Int → Int → T_Pair → Option Int
 | 0, _, _, _, _ => none
 | k2 + 1, v29, v30, v31, v32 => cond (decide (v31 < v30)) ((at? v29 v31).bind fun b34 => cond ((v32.A == b34.A) && ((v32.B == b34.B) && true)) (some v31) ((V_Index_Pair.l2 k2) v29 v30 (IntKind.i64.wrap (v31 + 1)) v32)) (some (-1))
def V_Index_Pair (k : Nat) (a0 : List T_Pair) (a1 : T_Pair) : Option Int := V_Index_Pair.l2 k a0 (a0.length : Int) 0 a1
theorem ent254 : MG.Enters Tryz.prog 254 := en func254
theorem g254 (k : Nat) (g0 : Bool) (a0 : List T_Pair) (a1 : T_Pair) (r : Int) (H : V_Index_Pair k a0 a1 = some r) : Gives Tryz.prog 254 [V.one (Cell.sl g0 (List.map eT_Pair a0)), V.agg [cI a1.A, cI a1.B]] [] [V.one (cI r)] [] := by
 refine Gives.intro func254 rfl rfl rfl rfl ?_; refine fx fun w0 T S0 ob oh hm => ?_
 have hF := fxe w0 T S0 19 ob oh
 unfold V_Index_Pair at H; obtain ⟨K, hK⟩ := leK k; refine sr ?_; refine bo 3 ?_; refine gn 1 ?_; refine WpC.seq (sr ?_); refine mv ?_; refine L.lenR (xs := a0) (e := eT_Pair) underlying25 hF rfl rfl rfl rfl ?_; refine gn 1 ?_; refine WpC.block ?_; refine WpC.loopL (P := Tryz.prog) (fun n σ => ∃ (v29 : List T_Pair) (v30 v31 : Int) (v32 : T_Pair), n ≤ K ∧ V_Index_Pair.l2 n v29 v30 v31 v32 = some r ∧ σ = mkSt [(0, MG.one (Cell.sl g0 (List.map eT_Pair v29))), (3, oP 0 0), (7, oI v30), (8, oI v31)] [] [(0, [cI v32.A, cI v32.B])] 1) k ⟨_, ⟨a0, (a0.length : Int), 0, a1, by omega, H, rfl⟩, lm [(0, 3)] hm⟩ ?_; clear H
 rintro k2 _ ⟨v29, v30, v31, v32, hk2, H, rfl⟩
 cases k2 with
 | zero => cases H
 | succ k2 =>
  rw [V_Index_Pair.l2] at H
  refine sg 1 ?_; refine WpC.seq ?_; refine cd H (fun hc H => ?_) (fun hc H => ?_)
  ·refine WpC.skip (WpC.seq (WpC.block (sr ?_))); refine gn 2 ?_; refine WpC.seq ?_; refine S.begin mixed (by kernel_rfl) ?_; refine S.st 0 rfl rfl (Qu.load) (fun Q0 k0 => lp shape161 (L.nil k0)) ?_; refine S.st 1 rfl rfl ((Ca.move).quiet) (fun Q0 k0 => mv (L.nil k0)) ?_; refine S.st 2 rfl rfl ((Ca.move).quiet) (fun Q0 k0 => mv (L.nil k0)) ?_; obtain ⟨b34, hb34, H⟩ := bindS H; refine S.st 3 rfl rfl ((Ca.indexAddr).quiet) (fun Q0 k0 => ix underlying25 info161 hb34 (L.nil k0)) ?_; refine S.st 4 rfl rfl (Qu.load) (fun Q0 k0 => le shape161 (L.nil k0)) ?_; refine S.st 5 rfl rfl ((Ca.eqA (r := ((v32.A == b34.A) && ((v32.B == b34.B) && true))) rfl rfl rfl rfl (by kernel_rfl) (by kernel_rfl)).quiet) (fun Q0 k0 => L.eqA (r := ((v32.A == b34.A) && ((v32.B == b34.B) && true))) hF rfl rfl rfl rfl rfl rfl (by kernel_rfl) (by kernel_rfl) (L.nil k0)) ?_; refine S.nil ?_; refine cd H (fun hc H => ?_) (fun hc H => ?_)
   ·refine sg 2 ?_; cases H; exact WpC.ret rt
   ·refine WpC.skip (WpC.regionL ?_); refine gn 2 ?_; exact ⟨k2, _, by omega, ⟨v29, v30, (IntKind.i64.wrap (v31 + 1)), v32, by omega, H, rfl⟩, lm [(0, 0)] hm⟩
  ·refine WpC.exit (sr ?_); refine gn 1 ?_; cases H; exact WpC.ret rt
/-! ### V_Contains_Pair -/
def V_Contains_Pair (k : Nat) (a0 : List T_Pair) (a1 : T_Pair) : Option Bool := (V_Index_Pair k a0 a1).bind fun r1 => some (decide (r1 ≥ 0))
theorem ent191 : MG.Enters Tryz.prog 191 := en func191
theorem g191 (k : Nat) (g0 : Bool) (a0 : List T_Pair) (a1 : T_Pair) (r : Bool) (H : V_Contains_Pair k a0 a1 = some r) : Gives Tryz.prog 191 [V.one (Cell.sl g0 (List.map eT_Pair a0)), V.agg [cI a1.A, cI a1.B]] [] [V.one (cL r)] [] := by
 refine Gives.intro func191 rfl rfl rfl rfl ?_; refine fx fun w0 T S0 ob oh hm => ?_
 have hF := fxe w0 T S0 9 ob oh
 unfold V_Contains_Pair at H; obtain ⟨K, hK⟩ := leK k; refine sr ?_; refine bo 3 ?_; refine gn 1 ?_; refine sy 2 ?_; refine cB 4 ent254 (g254 k g0 a0 a1) H fun r1 H => ?_; refine gn 2 ?_; cases H; exact WpC.ret rt
/-! ### I_arePairs__impl_ConfigOk_1 -/
def I_arePairs__impl_ConfigOk_1.l2 : Nat → (List T_Pair) → Int → Int → Option Bool
 | 0, _, _, _ => none
 | k2 + 1, v84, v85, v86 => cond (decide (v86 < v85)) ((at? v84 v86).bind fun b94 => (I_ConfigOk_1 k2 b94).bind fun r98 => cond (!r98) (some false) ((part? v84 0 v86).bind fun b100 => (V_Contains_Pair k2 b100 b94).bind fun r101 => cond r101 (some false) ((I_arePairs__impl_ConfigOk_1.l2 k2) v84 v85 (IntKind.i64.wrap (v86 + 1))))) (some (decide ((v84.length : Int) ≤ 6)))
def I_arePairs__impl_ConfigOk_1 (k : Nat) (a0 : List T_Pair) : Option Bool := I_arePairs__impl_ConfigOk_1.l2 k a0 (a0.length : Int) 0
theorem ent185 : MG.Enters Tryz.prog 185 := en func185
theorem g185 (k : Nat) (g0 : Bool) (a0 : List T_Pair) (r : Bool) (H : I_arePairs__impl_ConfigOk_1 k a0 = some r) : Gives Tryz.prog 185 [V.one (Cell.sl g0 (List.map eT_Pair a0)), V.one (Cell.clo 186 [])] [] [V.one (cL r)] [] := by
 refine Gives.intro func185 rfl rfl rfl rfl ?_; refine fx fun w0 T S0 ob oh hm => ?_
 have hF := fxe w0 T S0 29 ob oh
 unfold I_arePairs__impl_ConfigOk_1 at H; obtain ⟨K, hK⟩ := leK k; refine sg 1 ?_; refine WpC.seq (sr ?_); refine mv ?_; refine L.lenR (xs := a0) (e := eT_Pair) underlying25 hF rfl rfl rfl rfl ?_; refine gn 1 ?_; refine WpC.block ?_; refine WpC.loopL (P := Tryz.prog) (fun n σ => ∃ (v84 : List T_Pair) (v85 v86 : Int), n ≤ K ∧ I_arePairs__impl_ConfigOk_1.l2 n v84 v85 v86 = some r ∧ σ = mkSt [(0, MG.one (Cell.sl g0 (List.map eT_Pair v84))), (1, MG.one (Cell.clo 186 [])), (7, MG.one (Cell.sl g0 (List.map eT_Pair v84))), (8, oI v85), (9, oI v86)] [] [] 0) k ⟨_, ⟨a0, (a0.length : Int), 0, by omega, H, rfl⟩, lm [] hm⟩ ?_; clear H
 rintro k2 _ ⟨v84, v85, v86, hk2, H, rfl⟩
 cases k2 with
 | zero => cases H
 | succ k2 =>
  rw [I_arePairs__impl_ConfigOk_1.l2] at H
  refine sg 1 ?_; refine WpC.seq ?_; refine cd H (fun hc H => ?_) (fun hc H => ?_)
  ·refine WpC.skip (WpC.seq (WpC.block (sr ?_))); refine mv ?_; obtain ⟨b94, hb94, H⟩ := bindS H; refine ix underlying25 info161 hb94 ?_; refine le shape161 ?_; refine alc 0 info161 ?_; refine gn 2 ?_; refine WpC.seq ?_; obtain ⟨r98, hr98, H⟩ := bindS H
   rcases Bool.eq_false_or_eq_true ((!r98)) with hc99 | hc99
   ·replace H := condT hc99 H
    refine A.begin mixed rfl rfl ?_; intro W hI hO; refine hI _ _ _ ?_; refine tM 0 ?_; refine A.all [1] (by kernel_rfl) rfl ⟨⟨_, rfl, ?_⟩, trivial⟩; refine gn 1 ?_; refine A.all [2] (by kernel_rfl) rfl ⟨⟨_, rfl, ?_⟩, trivial⟩; refine c0 1 ent186 (g186 k2  b94 r98 hr98) (L.nil ?_); refine Atk 3 rfl (Ca.un rfl rfl) (fun Q0 k0 => nt (L.nil k0)) ?_; refine tM 4 ?_; refine A.le (τ := mkSt [(0, MG.one (Cell.sl g0 (List.map eT_Pair v84))), (1, MG.one (Cell.clo 186 [])), (5, oI v86), (6, oP 0 0), (7, MG.one (Cell.sl g0 (List.map eT_Pair v84))), (8, oI v85), (9, oI v86), (18, oL true)] [] [(0, [cI b94.A, cI b94.B])] 1) (Le.mk [(0, 0)] hm rfl (Sa4 (Sa2 (Sa1 (Sa1 trivial rfl (congrArg (fun b => some (MG.one (cL b))) hc99))))) trivial (Ba1 trivial)) ?_; refine tO 5 ?_; refine tO 6 ?_; refine tO 7 ?_; refine tO 8 ?_; refine A.all [9] (by kernel_rfl) rfl ⟨⟨_, rfl, ?_⟩, trivial⟩; refine gn 1 ?_; refine tP 10 ?_; refine A.le (τ := mkSt [(0, MG.one (Cell.sl g0 (List.map eT_Pair v84))), (1, MG.one (Cell.clo 186 [])), (7, MG.one (Cell.sl g0 (List.map eT_Pair v84))), (8, oI v85), (9, oI v86), (24, oL true)] [] [] 0) (lm [] hm) ?_; refine A.done (by kernel_rfl) ?_; refine cT ?_
    refine sg 1 ?_; cases H; exact WpC.ret rt
   ·replace H := condF hc99 H
    obtain ⟨b100, hb100, H⟩ := bindS H; obtain ⟨r101, hr101, H⟩ := bindS H; refine A.begin mixed rfl rfl ?_; intro W hI hO; refine hI _ _ _ ?_; refine tM 0 ?_; refine A.all [1] (by kernel_rfl) rfl ⟨⟨_, rfl, ?_⟩, trivial⟩; refine gn 1 ?_; refine A.all [2] (by kernel_rfl) rfl ⟨⟨_, rfl, ?_⟩, trivial⟩; refine c0 1 ent186 (g186 k2  b94 r98 hr98) (L.nil ?_); refine Atk 3 rfl (Ca.un rfl rfl) (fun Q0 k0 => nt (L.nil k0)) ?_; refine tM 4 ?_; refine A.le (τ := mkSt [(0, MG.one (Cell.sl g0 (List.map eT_Pair v84))), (1, MG.one (Cell.clo 186 [])), (5, oI v86), (6, oP 0 0), (7, MG.one (Cell.sl g0 (List.map eT_Pair v84))), (8, oI v85), (9, oI v86), (18, oL false)] [] [(0, [cI b94.A, cI b94.B])] 1) (Le.mk [(0, 0)] hm rfl (Sa4 (Sa2 (Sa1 (Sa1 trivial rfl (congrArg (fun b => some (MG.one (cL b))) hc99))))) trivial (Ba1 trivial)) ?_; refine tM 5 ?_; refine tM 6 ?_; refine Atk 7 rfl (Ca.slice) (fun Q0 k0 => L.cutR (xs := v84) (ys := b100) (e := eT_Pair) underlying25 info161 hF rfl rfl rfl rfl rfl hb100 (fun _ => rfl) (L.nil k0)) ?_; refine A.all [8] (by kernel_rfl) rfl ⟨⟨_, rfl, ?_⟩, trivial⟩; refine gn 1 ?_; refine A.all [9] (by kernel_rfl) rfl ⟨⟨_, rfl, ?_⟩, trivial⟩
    refine c0 1 ent191 (g191 k2 g0 b100 b94 r101 hr101) (L.nil ?_); refine tP 10 ?_; refine A.le (τ := mkSt [(0, MG.one (Cell.sl g0 (List.map eT_Pair v84))), (1, MG.one (Cell.clo 186 [])), (7, MG.one (Cell.sl g0 (List.map eT_Pair v84))), (8, oI v85), (9, oI v86), (24, oL r101)] [] [] 0) (lm [] hm) ?_; refine A.done (by kernel_rfl) ?_; refine cd H (fun hc H => ?_) (fun hc H => ?_)
    ·refine sg 1 ?_; cases H; exact WpC.ret rt
    ·refine WpC.skip (WpC.regionL ?_); refine gn 2 ?_; exact ⟨k2, _, by omega, ⟨v84, v85, (IntKind.i64.wrap (v86 + 1)), by omega, H, rfl⟩, lm [] hm⟩
  ·refine WpC.exit (sr ?_); refine mv ?_; refine L.lenR (xs := v84) (e := eT_Pair) underlying25 hF rfl rfl rfl rfl ?_; refine gn 2 ?_; cases H; exact WpC.ret rt
/-! ### I_ConfigOk_2 -/
def I_ConfigOk_2 (k : Nat) (a0 : T_Pair) : Option Bool := (I_isService k a0.A).bind fun r3 => cond r3 ((I_isService k a0.B).bind fun r4 => some r4) (some false)
theorem ent188 : MG.Enters Tryz.prog 188 := en func188
theorem g188 (k : Nat) (a0 : T_Pair) (r : Bool) (H : I_ConfigOk_2 k a0 = some r) : Gives Tryz.prog 188 [V.agg [cI a0.A, cI a0.B]] [] [V.one (cL r)] [] := by
 refine Gives.intro func188 rfl rfl rfl rfl ?_; refine fx fun w0 T S0 ob oh hm => ?_
 have hF := fxe w0 T S0 11 ob oh
 unfold I_ConfigOk_2 at H; obtain ⟨K, hK⟩ := leK k; refine sr ?_; refine bo 2 ?_; refine gn 1 ?_; refine sy 2 ?_; refine cB 3 ent100 (g100 k  a0.A) H fun r3 H => ?_; refine mv ?_; refine sH H (fun hc H => ?_) (fun hc H => ?_)
 ·refine go 2 ?_; refine cB 4 ent100 (g100 k  a0.B) H fun r4 H => ?_; refine gn 2 ?_; cases H; exact WpC.ret rt
 ·refine gn 5 ?_; cases H; exact WpC.ret rt
/-! ### I_arePairs__impl_ConfigOk_2 -/
def I_arePairs__impl_ConfigOk_2.l2 : Nat → (List T_Pair) → Int → Int → Option Bool
 | 0, _, _, _ => none
 | k2 + 1, v84, v85, v86 => cond (decide (v86 < v85)) ((at? v84 v86).bind fun b94 => (I_ConfigOk_2 k2 b94).bind fun r98 => cond (!r98) (some false) ((part? v84 0 v86).bind fun b100 => (V_Contains_Pair k2 b100 b94).bind fun r101 => cond r101 (some false) ((I_arePairs__impl_ConfigOk_2.l2 k2) v84 v85 (IntKind.i64.wrap (v86 + 1))))) (some (decide ((v84.length : Int) ≤ 6)))
def I_arePairs__impl_ConfigOk_2 (k : Nat) (a0 : List T_Pair) : Option Bool := I_arePairs__impl_ConfigOk_2.l2 k a0 (a0.length : Int) 0
theorem I_arePairs__impl_ConfigOk_2_gives (k : Nat) (g0 : Bool) (a0 : List T_Pair) (r : Bool) (H : I_arePairs__impl_ConfigOk_2 k a0 = some r) : Gives Tryz.prog 185 [V.one (Cell.sl g0 (List.map eT_Pair a0)), V.one (Cell.clo 188 [])] [] [V.one (cL r)] [] := by
 refine Gives.intro func185 rfl rfl rfl rfl ?_; refine fx fun w0 T S0 ob oh hm => ?_
 have hF := fxe w0 T S0 29 ob oh
 unfold I_arePairs__impl_ConfigOk_2 at H; obtain ⟨K, hK⟩ := leK k; refine sg 1 ?_; refine WpC.seq (sr ?_); refine mv ?_; refine L.lenR (xs := a0) (e := eT_Pair) underlying25 hF rfl rfl rfl rfl ?_; refine gn 1 ?_; refine WpC.block ?_; refine WpC.loopL (P := Tryz.prog) (fun n σ => ∃ (v84 : List T_Pair) (v85 v86 : Int), n ≤ K ∧ I_arePairs__impl_ConfigOk_2.l2 n v84 v85 v86 = some r ∧ σ = mkSt [(0, MG.one (Cell.sl g0 (List.map eT_Pair v84))), (1, MG.one (Cell.clo 188 [])), (7, MG.one (Cell.sl g0 (List.map eT_Pair v84))), (8, oI v85), (9, oI v86)] [] [] 0) k ⟨_, ⟨a0, (a0.length : Int), 0, by omega, H, rfl⟩, lm [] hm⟩ ?_; clear H
 rintro k2 _ ⟨v84, v85, v86, hk2, H, rfl⟩
 cases k2 with
 | zero => cases H
 | succ k2 =>
  rw [I_arePairs__impl_ConfigOk_2.l2] at H
  refine sg 1 ?_; refine WpC.seq ?_; refine cd H (fun hc H => ?_) (fun hc H => ?_)
  ·refine WpC.skip (WpC.seq (WpC.block (sr ?_))); refine mv ?_; obtain ⟨b94, hb94, H⟩ := bindS H; refine ix underlying25 info161 hb94 ?_; refine le shape161 ?_; refine alc 0 info161 ?_; refine gn 2 ?_; refine WpC.seq ?_; obtain ⟨r98, hr98, H⟩ := bindS H
   rcases Bool.eq_false_or_eq_true ((!r98)) with hc99 | hc99
   ·replace H := condT hc99 H
    refine A.begin mixed rfl rfl ?_; intro W hI hO; refine hI _ _ _ ?_; refine tM 0 ?_; refine A.all [1] (by kernel_rfl) rfl ⟨⟨_, rfl, ?_⟩, trivial⟩; refine gn 1 ?_; refine A.all [2] (by kernel_rfl) rfl ⟨⟨_, rfl, ?_⟩, trivial⟩; refine c0 1 ent188 (g188 k2  b94 r98 hr98) (L.nil ?_); refine Atk 3 rfl (Ca.un rfl rfl) (fun Q0 k0 => nt (L.nil k0)) ?_; refine tM 4 ?_; refine A.le (τ := mkSt [(0, MG.one (Cell.sl g0 (List.map eT_Pair v84))), (1, MG.one (Cell.clo 188 [])), (5, oI v86), (6, oP 0 0), (7, MG.one (Cell.sl g0 (List.map eT_Pair v84))), (8, oI v85), (9, oI v86), (18, oL true)] [] [(0, [cI b94.A, cI b94.B])] 1) (Le.mk [(0, 0)] hm rfl (Sa4 (Sa2 (Sa1 (Sa1 trivial rfl (congrArg (fun b => some (MG.one (cL b))) hc99))))) trivial (Ba1 trivial)) ?_; refine tO 5 ?_; refine tO 6 ?_; refine tO 7 ?_; refine tO 8 ?_; refine A.all [9] (by kernel_rfl) rfl ⟨⟨_, rfl, ?_⟩, trivial⟩; refine gn 1 ?_; refine tP 10 ?_; refine A.le (τ := mkSt [(0, MG.one (Cell.sl g0 (List.map eT_Pair v84))), (1, MG.one (Cell.clo 188 [])), (7, MG.one (Cell.sl g0 (List.map eT_Pair v84))), (8, oI v85), (9, oI v86), (24, oL true)] [] [] 0) (lm [] hm) ?_; refine A.done (by kernel_rfl) ?_; refine cT ?_
    refine sg 1 ?_; cases H; exact WpC.ret rt
   ·replace H := condF hc99 H
    obtain ⟨b100, hb100, H⟩ := bindS H; obtain ⟨r101, hr101, H⟩ := bindS H; refine A.begin mixed rfl rfl ?_; intro W hI hO; refine hI _ _ _ ?_; refine tM 0 ?_; refine A.all [1] (by kernel_rfl) rfl ⟨⟨_, rfl, ?_⟩, trivial⟩; refine gn 1 ?_; refine A.all [2] (by kernel_rfl) rfl ⟨⟨_, rfl, ?_⟩, trivial⟩; refine c0 1 ent188 (g188 k2  b94 r98 hr98) (L.nil ?_); refine Atk 3 rfl (Ca.un rfl rfl) (fun Q0 k0 => nt (L.nil k0)) ?_; refine tM 4 ?_; refine A.le (τ := mkSt [(0, MG.one (Cell.sl g0 (List.map eT_Pair v84))), (1, MG.one (Cell.clo 188 [])), (5, oI v86), (6, oP 0 0), (7, MG.one (Cell.sl g0 (List.map eT_Pair v84))), (8, oI v85), (9, oI v86), (18, oL false)] [] [(0, [cI b94.A, cI b94.B])] 1) (Le.mk [(0, 0)] hm rfl (Sa4 (Sa2 (Sa1 (Sa1 trivial rfl (congrArg (fun b => some (MG.one (cL b))) hc99))))) trivial (Ba1 trivial)) ?_; refine tM 5 ?_; refine tM 6 ?_; refine Atk 7 rfl (Ca.slice) (fun Q0 k0 => L.cutR (xs := v84) (ys := b100) (e := eT_Pair) underlying25 info161 hF rfl rfl rfl rfl rfl hb100 (fun _ => rfl) (L.nil k0)) ?_; refine A.all [8] (by kernel_rfl) rfl ⟨⟨_, rfl, ?_⟩, trivial⟩; refine gn 1 ?_; refine A.all [9] (by kernel_rfl) rfl ⟨⟨_, rfl, ?_⟩, trivial⟩
    refine c0 1 ent191 (g191 k2 g0 b100 b94 r101 hr101) (L.nil ?_); refine tP 10 ?_; refine A.le (τ := mkSt [(0, MG.one (Cell.sl g0 (List.map eT_Pair v84))), (1, MG.one (Cell.clo 188 [])), (7, MG.one (Cell.sl g0 (List.map eT_Pair v84))), (8, oI v85), (9, oI v86), (24, oL r101)] [] [] 0) (lm [] hm) ?_; refine A.done (by kernel_rfl) ?_; refine cd H (fun hc H => ?_) (fun hc H => ?_)
    ·refine sg 1 ?_; cases H; exact WpC.ret rt
    ·refine WpC.skip (WpC.regionL ?_); refine gn 2 ?_; exact ⟨k2, _, by omega, ⟨v84, v85, (IntKind.i64.wrap (v86 + 1)), by omega, H, rfl⟩, lm [] hm⟩
  ·refine WpC.exit (sr ?_); refine mv ?_; refine L.lenR (xs := v84) (e := eT_Pair) underlying25 hF rfl rfl rfl rfl ?_; refine gn 2 ?_; cases H; exact WpC.ret rt
/-! ### I_ConfigOk -/
def I_ConfigOk (k : Nat) (a0 : T_Config) : Option Bool := (I_arePairs__impl_ConfigOk_1 k a0.Links).bind fun r1 => (I_arePairs__impl_ConfigOk_2 k a0.Proxy).bind fun r2 => cond r1 (cond r2 (cond ((a0.UserRealm.length : Int) == 3) ((I_areAll__impl_isRealm k a0.UserRealm 3).bind fun r6 => cond r6 (cond ((a0.ServiceRealm.length : Int) == 3) ((I_areAll__impl_isRealm k a0.ServiceRealm 3).bind fun r7 => cond r7 ((I_within k a0.Skew 0 20).bind fun r8 => some r8) (some false)) (some false)) (some false)) (some false)) (some false)) (some false)
theorem ent99 : MG.Enters Tryz.prog 99 := en func99
theorem g99 (k : Nat) (g0 g1 g2 g3 : Bool) (a0 : T_Config) (r : Bool) (H : I_ConfigOk k a0 = some r) : Gives Tryz.prog 99 [V.agg (bT_Config g0 g1 g2 g3 a0)] [] [V.one (cL r)] [] := by
 refine Gives.intro func99 rfl rfl rfl rfl ?_; refine fx fun w0 T S0 ob oh hm => ?_
 have hF := fxe w0 T S0 42 ob oh
 unfold I_ConfigOk at H; obtain ⟨K, hK⟩ := leK k; refine sr ?_; refine bo 5 ?_; refine gn 1 ?_; refine sy 2 ?_; refine cB 6 ent185 (g185 k g2 a0.Links) H fun r1 H => ?_; refine gn 1 ?_; refine sy 2 ?_; refine cB 7 ent185 (I_arePairs__impl_ConfigOk_2_gives k g3 a0.Proxy) H fun r2 H => ?_; refine gn 1 ?_; refine sy 2 ?_; refine sH H (fun hc H => ?_) (fun hc H => ?_)
 ·refine go 3 ?_; refine sH H (fun hc H => ?_) (fun hc H => ?_)
  ·refine go 2 ?_; refine L.lenR (xs := a0.UserRealm) (e := eI) underlying24 hF rfl rfl rfl rfl ?_; refine go 3 ?_; refine sH H (fun hc H => ?_) (fun hc H => ?_)
   ·refine go 2 ?_; refine cB 8 ent189 (g189 k g0 a0.UserRealm 3) H fun r6 H => ?_; refine go 2 ?_; refine sH H (fun hc H => ?_) (fun hc H => ?_)
    ·refine go 2 ?_; refine L.lenR (xs := a0.ServiceRealm) (e := eI) underlying24 hF rfl rfl rfl rfl ?_; refine go 3 ?_; refine sH H (fun hc H => ?_) (fun hc H => ?_)
     ·refine go 2 ?_; refine cB 9 ent189 (g189 k g1 a0.ServiceRealm 3) H fun r7 H => ?_; refine go 2 ?_; refine sH H (fun hc H => ?_) (fun hc H => ?_)
      ·refine go 2 ?_; refine cB 10 ent66 (g66 k  a0.Skew 0 20) H fun r8 H => ?_; refine gn 2 ?_; cases H; exact WpC.ret rt
      ·refine gn 5 ?_; cases H; exact WpC.ret rt
     ·refine gn 10 ?_; cases H; exact WpC.ret rt
    ·refine gn 16 ?_; cases H; exact WpC.ret rt
   ·refine gn 21 ?_; cases H; exact WpC.ret rt
  ·refine gn 27 ?_; cases H; exact WpC.ret rt
 ·refine gn 30 ?_; cases H; exact WpC.ret rt
/-! ### V_Index_string -/
def V_Index_string.l2 : Nat → (List (List UInt8)) → (List UInt8) → Int → Int → Option Int
 | 0, _, _, _, _ => none
 | k2 + 1, v29, v30, v31, v32 => cond (decide (v32 < v31)) ((at? v29 v32).bind fun b34 => cond (v30 == b34) (some v32) ((V_Index_string.l2 k2) v29 v30 v31 (IntKind.i64.wrap (v32 + 1)))) (some (-1))
def V_Index_string (k : Nat) (a0 : List (List UInt8)) (a1 : List UInt8) : Option Int := V_Index_string.l2 k a0 a1 (a0.length : Int) 0
theorem ent218 : MG.Enters Tryz.prog 218 := en func218
theorem g218 (k : Nat) (g0 : Bool) (a0 : List (List UInt8)) (a1 : List UInt8) (r : Int) (H : V_Index_string k a0 a1 = some r) : Gives Tryz.prog 218 [V.one (Cell.sl g0 (List.map eS a0)), V.one (cS a1)] [] [V.one (cI r)] [] := by
 refine Gives.intro func218 rfl rfl rfl rfl ?_; refine fx fun w0 T S0 ob oh hm => ?_
 have hF := fxe w0 T S0 19 ob oh
 unfold V_Index_string at H; obtain ⟨K, hK⟩ := leK k; refine sg 1 ?_; refine WpC.seq (sr ?_); refine mv ?_; refine L.lenR (xs := a0) (e := eS) underlying34 hF rfl rfl rfl rfl ?_; refine gn 1 ?_; refine WpC.block ?_; refine WpC.loopL (P := Tryz.prog) (fun n σ => ∃ (v29 : List (List UInt8)) (v30 : List UInt8) (v31 v32 : Int), n ≤ K ∧ V_Index_string.l2 n v29 v30 v31 v32 = some r ∧ σ = mkSt [(0, MG.one (Cell.sl g0 (List.map eS v29))), (1, oS v30), (7, oI v31), (8, oI v32)] [] [] 0) k ⟨_, ⟨a0, a1, (a0.length : Int), 0, by omega, H, rfl⟩, lm [] hm⟩ ?_; clear H
 rintro k2 _ ⟨v29, v30, v31, v32, hk2, H, rfl⟩
 cases k2 with
 | zero => cases H
 | succ k2 =>
  rw [V_Index_string.l2] at H
  refine sg 1 ?_; refine WpC.seq ?_; refine cd H (fun hc H => ?_) (fun hc H => ?_)
  ·refine WpC.skip (WpC.seq (WpC.block (sr ?_))); refine gn 2 ?_; refine sy 3 ?_; obtain ⟨b34, hb34, H⟩ := bindS H; refine ix underlying34 info9 hb34 ?_; refine le shape9 ?_; refine L.binS hF rfl rfl rfl rfl rfl (L.nil ?_); refine cd H (fun hc H => ?_) (fun hc H => ?_)
   ·refine sg 2 ?_; cases H; exact WpC.ret rt
   ·refine WpC.skip (WpC.regionL ?_); refine gn 2 ?_; exact ⟨k2, _, by omega, ⟨v29, v30, v31, (IntKind.i64.wrap (v32 + 1)), by omega, H, rfl⟩, lm [] hm⟩
  ·refine WpC.exit (sr ?_); refine gn 1 ?_; cases H; exact WpC.ret rt
/-! ### V_Contains_string -/
def V_Contains_string (k : Nat) (a0 : List (List UInt8)) (a1 : List UInt8) : Option Bool := (V_Index_string k a0 a1).bind fun r1 => some (decide (r1 ≥ 0))
theorem ent145 : MG.Enters Tryz.prog 145 := en func145
theorem g145 (k : Nat) (g0 : Bool) (a0 : List (List UInt8)) (a1 : List UInt8) (r : Bool) (H : V_Contains_string k a0 a1 = some r) : Gives Tryz.prog 145 [V.one (Cell.sl g0 (List.map eS a0)), V.one (cS a1)] [] [V.one (cL r)] [] := by
 refine Gives.intro func145 rfl rfl rfl rfl ?_; refine fx fun w0 T S0 ob oh hm => ?_
 have hF := fxe w0 T S0 9 ob oh
 unfold V_Contains_string at H; obtain ⟨K, hK⟩ := leK k; refine sg 1 ?_; refine sy 2 ?_; refine cB 2 ent218 (g218 k g0 a0 a1) H fun r1 H => ?_; refine gn 2 ?_; cases H; exact WpC.ret rt
/-! ### I_rises -/
def I_rises.l2 : Nat → (List Int) → Int → Option Bool
 | 0, _, _ => none
 | k2 + 1, v29, v30 => cond (decide (v30 < (v29.length : Int))) ((at? v29 (IntKind.i64.wrap (v30 - 1))).bind fun b33 => (at? v29 v30).bind fun b34 => cond (decide (b33 ≥ b34)) (some false) ((I_rises.l2 k2) v29 (IntKind.i64.wrap (v30 + 1)))) (some true)
def I_rises (k : Nat) (a0 : List Int) : Option Bool := I_rises.l2 k a0 1
theorem ent146 : MG.Enters Tryz.prog 146 := en func146
theorem g146 (k : Nat) (g0 : Bool) (a0 : List Int) (r : Bool) (H : I_rises k a0 = some r) : Gives Tryz.prog 146 [V.one (Cell.sl g0 (List.map eI a0))] [] [V.one (cL r)] [] := by
 refine Gives.intro func146 rfl rfl rfl rfl ?_; refine fx fun w0 T S0 ob oh hm => ?_
 have hF := fxe w0 T S0 20 ob oh
 unfold I_rises at H; obtain ⟨K, hK⟩ := leK k; refine sg 1 ?_; refine WpC.seq (sr ?_); refine gn 1 ?_; refine WpC.block ?_; refine WpC.loopL (P := Tryz.prog) (fun n σ => ∃ (v29 : List Int) (v30 : Int), n ≤ K ∧ I_rises.l2 n v29 v30 = some r ∧ σ = mkSt [(0, MG.one (Cell.sl g0 (List.map eI v29))), (3, oI v30)] [] [] 0) k ⟨_, ⟨a0, 1, by omega, H, rfl⟩, lm [] hm⟩ ?_; clear H
 rintro k2 _ ⟨v29, v30, hk2, H, rfl⟩
 cases k2 with
 | zero => cases H
 | succ k2 =>
  rw [I_rises.l2] at H
  refine WpC.seq (sr ?_); refine go 2 ?_; refine L.lenR (xs := v29) (e := eI) underlying24 hF rfl rfl rfl rfl ?_; refine gn 1 ?_; refine cd H (fun hc H => ?_) (fun hc H => ?_)
  ·refine WpC.skip (WpC.seq (WpC.block (WpC.seq ?_))); refine S.begin mixed (by kernel_rfl) ?_; refine S.st 0 rfl rfl ((Ca.move).quiet) (fun Q0 k0 => mv (L.nil k0)) ?_; refine S.st 1 rfl rfl ((Ca.move).quiet) (fun Q0 k0 => mv (L.nil k0)) ?_; refine S.st 2 rfl rfl ((Ca.bin rfl rfl (calm_int _ _ _ _ _ _ _ _)).quiet) (fun Q0 k0 => bi (L.nil k0)) ?_; obtain ⟨b33, hb33, H⟩ := bindS H; refine S.st 3 rfl rfl ((Ca.indexAddr).quiet) (fun Q0 k0 => ix underlying24 info3 hb33 (L.nil k0)) ?_; refine S.st 4 rfl rfl (Qu.load) (fun Q0 k0 => le shape3 (L.nil k0)) ?_; refine S.st 5 rfl rfl ((Ca.move).quiet) (fun Q0 k0 => mv (L.nil k0)) ?_; refine S.st 6 rfl rfl ((Ca.move).quiet) (fun Q0 k0 => mv (L.nil k0)) ?_; obtain ⟨b34, hb34, H⟩ := bindS H; refine S.st 7 rfl rfl ((Ca.indexAddr).quiet) (fun Q0 k0 => ix underlying24 info3 hb34 (L.nil k0)) ?_; refine S.st 8 rfl rfl (Qu.load) (fun Q0 k0 => le shape3 (L.nil k0)) ?_; refine S.st 9 rfl rfl ((Ca.bin rfl rfl (calm_int _ _ _ _ _ _ _ _)).quiet) (fun Q0 k0 => bi (L.nil k0)) ?_; refine S.nil ?_; refine cd H (fun hc H => ?_) (fun hc H => ?_)
   ·refine sg 1 ?_; cases H; exact WpC.ret rt
   ·refine WpC.skip (WpC.regionL ?_); refine gn 3 ?_; exact ⟨k2, _, by omega, ⟨v29, (IntKind.i64.wrap (v30 + 1)), by omega, H, rfl⟩, lm [] hm⟩
  ·refine WpC.exit (sr ?_); refine gn 1 ?_; cases H; exact WpC.ret rt
/-! ### I_KnownOk -/
def I_KnownOk.l4 : Nat → T_Known → Int → Int → Option Bool
 | 0, _, _, _ => none
 | k4 + 1, v134, v135, v136 => cond (decide (v136 < v135)) ((at? v134.Keys v136).bind fun b139 => (I_isKey k4 b139).bind fun r140 => cond (!r140) (some false) ((I_KnownOk.l4 k4) v134 v135 (IntKind.i64.wrap (v136 + 1)))) (cond (decide ((v134.Terms.length : Int) ≤ 60)) (cond (decide ((v134.Keys.length : Int) ≤ 40)) ((I_rises k4 v134.Keys).bind fun r142 => some r142) (some false)) (some false))
def I_KnownOk.l2 : Nat → T_Known → Int → Int → Option Bool
 | 0, _, _, _ => none
 | k2 + 1, v84, v85, v86 => cond (decide (v86 < v85)) ((at? v84.Terms v86).bind fun b94 => (I_TermOk k2 b94).bind fun r98 => cond (!r98) (some false) ((part? v84.Terms 0 v86).bind fun b99 => (V_Contains_string k2 b99 b94).bind fun r100 => cond r100 (some false) ((I_KnownOk.l2 k2) v84 v85 (IntKind.i64.wrap (v86 + 1))))) (I_KnownOk.l4 k2 v84 (v84.Keys.length : Int) 0)
def I_KnownOk (k : Nat) (a0 : T_Known) : Option Bool := I_KnownOk.l2 k a0 (a0.Terms.length : Int) 0
theorem ent60 : MG.Enters Tryz.prog 60 := en func60
theorem g60 (k : Nat) (g0 g1 : Bool) (a0 : T_Known) (r : Bool) (H : I_KnownOk k a0 = some r) : Gives Tryz.prog 60 [V.agg [Cell.sl g0 (List.map eS a0.Terms), Cell.sl g1 (List.map eI a0.Keys)]] [] [V.one (cL r)] [] := by
 refine Gives.intro func60 rfl rfl rfl rfl ?_; refine fx fun w0 T S0 ob oh hm => ?_
 have hF := fxe w0 T S0 53 ob oh
 unfold I_KnownOk at H; obtain ⟨K, hK⟩ := leK k; refine sr ?_; refine bo 2 ?_; refine gn 1 ?_; refine WpC.seq (sr ?_); refine go 2 ?_; refine L.lenR (xs := a0.Terms) (e := eS) underlying34 hF rfl rfl rfl rfl ?_; refine gn 1 ?_; refine WpC.block ?_; refine WpC.loopL (P := Tryz.prog) (fun n σ => ∃ (v84 : T_Known) (v85 v86 : Int), n ≤ K ∧ I_KnownOk.l2 n v84 v85 v86 = some r ∧ σ = mkSt [(1, oP 0 0), (8, MG.one (Cell.sl g0 (List.map eS v84.Terms))), (9, oI v85), (10, oI v86)] [] [(0, [Cell.sl g0 (List.map eS v84.Terms), Cell.sl g1 (List.map eI v84.Keys)])] 1) k ⟨_, ⟨a0, (a0.Terms.length : Int), 0, by omega, H, rfl⟩, lm [(0, 2)] hm⟩ ?_; clear H
 rintro k2 _ ⟨v84, v85, v86, hk2, H, rfl⟩
 cases k2 with
 | zero => cases H
 | succ k2 =>
  rw [I_KnownOk.l2] at H
  refine sg 1 ?_; refine WpC.seq ?_; refine cd H (fun hc H => ?_) (fun hc H => ?_)
  ·refine WpC.skip (WpC.seq (WpC.block (sr ?_))); refine mv ?_; obtain ⟨b94, hb94, H⟩ := bindS H; refine ix underlying34 info9 hb94 ?_; refine gn 3 ?_; refine sy 1 ?_; refine cB 1 ent144 (g144 k2  b94) H fun r98 H => ?_; refine go 2 ?_; refine sH H (fun hc H => ?_) (fun hc H => ?_)
   ·refine gn 7 ?_; refine cT ?_; refine sg 1 ?_; cases H; exact WpC.ret rt
   ·refine go 3 ?_; obtain ⟨b99, hb99, H⟩ := bindS H; refine L.cutR (xs := v84.Terms) (ys := b99) (e := eS) underlying34 info9 hF rfl rfl rfl rfl rfl hb99 (fun _ => rfl) ?_; refine mv ?_; refine cB 2 ent145 (g145 k2 g0 b99 b94) H fun r100 H => ?_; refine gn 1 ?_; refine cd H (fun hc H => ?_) (fun hc H => ?_)
    ·refine sg 1 ?_; cases H; exact WpC.ret rt
    ·refine WpC.skip (WpC.regionL ?_); refine gn 2 ?_; exact ⟨k2, _, by omega, ⟨v84, v85, (IntKind.i64.wrap (v86 + 1)), by omega, H, rfl⟩, lm [(0, 0)] hm⟩
  ·refine WpC.exit (WpC.seq (sr ?_)); refine go 2 ?_; refine L.lenR (xs := v84.Keys) (e := eI) underlying24 hF rfl rfl rfl rfl ?_; refine gn 1 ?_; refine WpC.block ?_; refine WpC.loopL (P := Tryz.prog) (fun n σ => ∃ (v134 : T_Known) (v135 v136 : Int), n ≤ K ∧ I_KnownOk.l4 n v134 v135 v136 = some r ∧ σ = mkSt [(1, oP 0 0), (28, MG.one (Cell.sl g1 (List.map eI v134.Keys))), (29, oI v135), (30, oI v136)] [] [(0, [Cell.sl g0 (List.map eS v134.Terms), Cell.sl g1 (List.map eI v134.Keys)])] 1) k2 ⟨_, ⟨v84, (v84.Keys.length : Int), 0, by omega, H, rfl⟩, lm [(0, 0)] hm⟩ ?_; clear H
   rintro k4 _ ⟨v134, v135, v136, hk4, H, rfl⟩
   cases k4 with
   | zero => cases H
   | succ k4 =>
    rw [I_KnownOk.l4] at H
    refine sg 1 ?_; refine WpC.seq ?_; refine cd H (fun hc H => ?_) (fun hc H => ?_)
    ·refine WpC.skip (WpC.seq (WpC.block (sr ?_))); obtain ⟨b139, hb139, H⟩ := bindS H; refine ix underlying24 info3 hb139 ?_; refine gn 2 ?_; refine sy 1 ?_; refine cB 1 ent64 (g64 k4  b139) H fun r140 H => ?_; refine gn 1 ?_; refine cd H (fun hc H => ?_) (fun hc H => ?_)
     ·refine sg 1 ?_; cases H; exact WpC.ret rt
     ·refine WpC.skip (WpC.regionL ?_); refine gn 2 ?_; exact ⟨k4, _, by omega, ⟨v134, v135, (IntKind.i64.wrap (v136 + 1)), by omega, H, rfl⟩, lm [(0, 0)] hm⟩
    ·refine WpC.exit (sr ?_); refine go 2 ?_; refine L.lenR (xs := v134.Terms) (e := eS) underlying34 hF rfl rfl rfl rfl ?_; refine go 2 ?_; refine sH H (fun hc H => ?_) (fun hc H => ?_)
     ·refine go 2 ?_; refine L.lenR (xs := v134.Keys) (e := eI) underlying24 hF rfl rfl rfl rfl ?_; refine go 3 ?_; refine sH H (fun hc H => ?_) (fun hc H => ?_)
      ·refine go 2 ?_; refine cB 1 ent146 (g146 k4 g1 v134.Keys) H fun r142 H => ?_; refine gn 2 ?_; cases H; exact WpC.ret rt
      ·refine gn 5 ?_; cases H; exact WpC.ret rt
     ·refine gn 11 ?_; cases H; exact WpC.ret rt
/-! ### I_WorldOk -/
def I_WorldOk.l8 : Nat → T_World → Int → Int → Option Bool
 | 0, _, _, _ => none
 | k8 + 1, v154, v155, v156 => cond (decide (v156 < v155)) ((at? v154.Accepts v156).bind fun b159 => (I_acceptOk k8 b159 (v154.Leaked.length : Int)).bind fun r160 => cond (!r160) (some false) ((I_WorldOk.l8 k8) v154 v155 (IntKind.i64.wrap (v156 + 1)))) ((V_ContainsFunc_string__impl_WorldOk_1 k8 v154.Net).bind fun r164 => cond r164 (some false) (cond (decide ((v154.Net.length : Int) > 50)) (some false) ((I_ConfigOk k8 v154.Config).bind fun r169 => cond r169 ((I_isTime k8 v154.Now).bind fun r170 => cond r170 ((I_within k8 v154.Fresh 101 1000000).bind fun r171 => cond r171 ((I_KnownOk k8 v154.Known).bind fun r172 => cond r172 (cond ((v154.Waits.length : Int) == 6) (cond (decide ((v154.Creds.length : Int) ≤ 30)) (cond ((v154.Caches.length : Int) == 3) (cond (decide ((v154.Log.length : Int) ≤ 40)) (cond (decide ((v154.Accepts.length : Int) ≤ 40)) (some (decide ((v154.Leaked.length : Int) ≤ 40))) (some false)) (some false)) (some false)) (some false)) (some false)) (some false)) (some false)) (some false)) (some false))))
def I_WorldOk.l6 : Nat → T_World → Int → Int → Option Bool
 | 0, _, _, _ => none
 | k6 + 1, v114, v115, v116 => cond (decide (v116 < v115)) ((at? v114.Caches v116).bind fun b119 => (I_CacheOk k6 b119).bind fun r120 => cond (!r120) (some false) ((I_WorldOk.l6 k6) v114 v115 (IntKind.i64.wrap (v116 + 1)))) (I_WorldOk.l8 k6 v114 (v114.Accepts.length : Int) 0)
def I_WorldOk.l4 : Nat → T_World → Int → Int → Option Bool
 | 0, _, _, _ => none
 | k4 + 1, v74, v75, v76 => cond (decide (v76 < v75)) ((at? v74.Creds v76).bind fun b79 => (I_CredOk k4 b79).bind fun r80 => cond (!r80) (some false) ((I_WorldOk.l4 k4) v74 v75 (IntKind.i64.wrap (v76 + 1)))) (I_WorldOk.l6 k4 v74 (v74.Caches.length : Int) 0)
def I_WorldOk.l2 : Nat → T_World → Int → Int → Option Bool
 | 0, _, _, _ => none
 | k2 + 1, v34, v35, v36 => cond (decide (v36 < v35)) ((at? v34.Waits v36).bind fun b39 => (I_waitOk k2 b39).bind fun r40 => cond (!r40) (some false) ((I_WorldOk.l2 k2) v34 v35 (IntKind.i64.wrap (v36 + 1)))) (I_WorldOk.l4 k2 v34 (v34.Creds.length : Int) 0)
def I_WorldOk (k : Nat) (a0 : T_World) : Option Bool := I_WorldOk.l2 k a0 (a0.Waits.length : Int) 0
theorem ent88 : MG.Enters Tryz.prog 88 := en func88
theorem g88 (k : Nat) (g0 g1 g2 g3 g4 g5 g6 g7 g8 g9 g10 g11 g12 : Bool) (a0 : T_World) (r : Bool) (H : I_WorldOk k a0 = some r) : Gives Tryz.prog 88 [V.agg (bT_World g0 g1 g2 g3 g4 g5 g6 g7 g8 g9 g10 g11 g12 a0)] [] [V.one (cL r)] [] := by
 refine Gives.intro func88 rfl rfl rfl rfl ?_; refine fx fun w0 T S0 ob oh hm => ?_
 have hF := fxe w0 T S0 121 ob oh
 unfold I_WorldOk at H; obtain ⟨K, hK⟩ := leK k; refine sr ?_; refine bo 16 ?_; refine gn 1 ?_; refine WpC.seq (sr ?_); refine go 2 ?_; refine L.lenR (xs := a0.Waits) (e := eT_Wait) underlying37 hF rfl rfl rfl rfl ?_; refine gn 1 ?_; refine WpC.block ?_; refine WpC.loopL (P := Tryz.prog) (fun n σ => ∃ (v34 : T_World) (v35 v36 : Int), n ≤ K ∧ I_WorldOk.l2 n v34 v35 v36 = some r ∧ σ = mkSt [(1, oP 0 0), (12, MG.one (Cell.sl g7 (List.map eT_Wait v34.Waits))), (13, oI v35), (14, oI v36)] [] [(0, (bT_World g0 g1 g2 g3 g4 g5 g6 g7 g8 g9 g10 g11 g12 v34))] 1) k ⟨_, ⟨a0, (a0.Waits.length : Int), 0, by omega, H, rfl⟩, lm [(0, 16)] hm⟩ ?_; clear H
 rintro k2 _ ⟨v34, v35, v36, hk2, H, rfl⟩
 cases k2 with
 | zero => cases H
 | succ k2 =>
  rw [I_WorldOk.l2] at H
  refine sg 1 ?_; refine WpC.seq ?_; refine cd H (fun hc H => ?_) (fun hc H => ?_)
  ·refine WpC.skip (WpC.seq (WpC.block (sr ?_))); obtain ⟨b39, hb39, H⟩ := bindS H; refine ix underlying37 info198 hb39 ?_; refine le shape198 ?_; refine alc 1 info198 ?_; refine gn 1 ?_; refine sy 1 ?_; refine cB 2 ent170 (g170 k2  b39) H fun r40 H => ?_; refine gn 1 ?_; refine cd H (fun hc H => ?_) (fun hc H => ?_)
   ·refine sg 1 ?_; cases H; exact WpC.ret rt
   ·refine WpC.skip (WpC.regionL ?_); refine gn 2 ?_; exact ⟨k2, _, by omega, ⟨v34, v35, (IntKind.i64.wrap (v36 + 1)), by omega, H, rfl⟩, lm [(0, 0)] hm⟩
  ·refine WpC.exit (WpC.seq (sr ?_)); refine go 2 ?_; refine L.lenR (xs := v34.Creds) (e := eT_Cred) underlying38 hF rfl rfl rfl rfl ?_; refine gn 1 ?_; refine WpC.block ?_; refine WpC.loopL (P := Tryz.prog) (fun n σ => ∃ (v74 : T_World) (v75 v76 : Int), n ≤ K ∧ I_WorldOk.l4 n v74 v75 v76 = some r ∧ σ = mkSt [(1, oP 0 0), (23, MG.one (Cell.sl g8 (List.map eT_Cred v74.Creds))), (24, oI v75), (25, oI v76)] [] [(0, (bT_World g0 g1 g2 g3 g4 g5 g6 g7 g8 g9 g10 g11 g12 v74))] 1) k2 ⟨_, ⟨v34, (v34.Creds.length : Int), 0, by omega, H, rfl⟩, lm [(0, 0)] hm⟩ ?_; clear H
   rintro k4 _ ⟨v74, v75, v76, hk4, H, rfl⟩
   cases k4 with
   | zero => cases H
   | succ k4 =>
    rw [I_WorldOk.l4] at H
    refine sg 1 ?_; refine WpC.seq ?_; refine cd H (fun hc H => ?_) (fun hc H => ?_)
    ·refine WpC.skip (WpC.seq (WpC.block (sr ?_))); obtain ⟨b79, hb79, H⟩ := bindS H; refine ix underlying38 info201 hb79 ?_; refine le shape201 ?_; refine alc 1 info201 ?_; refine gn 1 ?_; refine sy 1 ?_; refine cB 2 ent171 (g171 k4  b79) H fun r80 H => ?_; refine gn 1 ?_; refine cd H (fun hc H => ?_) (fun hc H => ?_)
     ·refine sg 1 ?_; cases H; exact WpC.ret rt
     ·refine WpC.skip (WpC.regionL ?_); refine gn 2 ?_; exact ⟨k4, _, by omega, ⟨v74, v75, (IntKind.i64.wrap (v76 + 1)), by omega, H, rfl⟩, lm [(0, 0)] hm⟩
    ·refine WpC.exit (WpC.seq (sr ?_)); refine go 2 ?_; refine L.lenR (xs := v74.Caches) (e := eT_Cache) underlying39 hF rfl rfl rfl rfl ?_; refine gn 1 ?_; refine WpC.block ?_; refine WpC.loopL (P := Tryz.prog) (fun n σ => ∃ (v114 : T_World) (v115 v116 : Int), n ≤ K ∧ I_WorldOk.l6 n v114 v115 v116 = some r ∧ σ = mkSt [(1, oP 0 0), (34, MG.one (Cell.sl g9 (List.map eT_Cache v114.Caches))), (35, oI v115), (36, oI v116)] [] [(0, (bT_World g0 g1 g2 g3 g4 g5 g6 g7 g8 g9 g10 g11 g12 v114))] 1) k4 ⟨_, ⟨v74, (v74.Caches.length : Int), 0, by omega, H, rfl⟩, lm [(0, 0)] hm⟩ ?_; clear H
     rintro k6 _ ⟨v114, v115, v116, hk6, H, rfl⟩
     cases k6 with
     | zero => cases H
     | succ k6 =>
      rw [I_WorldOk.l6] at H
      refine sg 1 ?_; refine WpC.seq ?_; refine cd H (fun hc H => ?_) (fun hc H => ?_)
      ·refine WpC.skip (WpC.seq (WpC.block (sr ?_))); obtain ⟨b119, hb119, H⟩ := bindS H; refine ix underlying39 info170 hb119 ?_; refine le shape170 ?_; refine alc 1 info170 ?_; refine gn 1 ?_; refine sy 1 ?_; refine cB 2 ent172 (g172 k6 g9 b119) H fun r120 H => ?_; refine gn 1 ?_; refine cd H (fun hc H => ?_) (fun hc H => ?_)
       ·refine sg 1 ?_; cases H; exact WpC.ret rt
       ·refine WpC.skip (WpC.regionL ?_); refine gn 2 ?_; exact ⟨k6, _, by omega, ⟨v114, v115, (IntKind.i64.wrap (v116 + 1)), by omega, H, rfl⟩, lm [(0, 0)] hm⟩
      ·refine WpC.exit (WpC.seq (sr ?_)); refine go 2 ?_; refine L.lenR (xs := v114.Accepts) (e := eT_Accept) underlying41 hF rfl rfl rfl rfl ?_; refine gn 1 ?_; refine WpC.block ?_; refine WpC.loopL (P := Tryz.prog) (fun n σ => ∃ (v154 : T_World) (v155 v156 : Int), n ≤ K ∧ I_WorldOk.l8 n v154 v155 v156 = some r ∧ σ = mkSt [(1, oP 0 0), (45, MG.one (Cell.sl g11 (List.map eT_Accept v154.Accepts))), (46, oI v155), (47, oI v156)] [] [(0, (bT_World g0 g1 g2 g3 g4 g5 g6 g7 g8 g9 g10 g11 g12 v154))] 1) k6 ⟨_, ⟨v114, (v114.Accepts.length : Int), 0, by omega, H, rfl⟩, lm [(0, 0)] hm⟩ ?_; clear H
       rintro k8 _ ⟨v154, v155, v156, hk8, H, rfl⟩
       cases k8 with
       | zero => cases H
       | succ k8 =>
        rw [I_WorldOk.l8] at H
        refine sg 1 ?_; refine WpC.seq ?_; refine cd H (fun hc H => ?_) (fun hc H => ?_)
        ·refine WpC.skip (WpC.seq (WpC.block (sr ?_))); obtain ⟨b159, hb159, H⟩ := bindS H; refine ix underlying41 info74 hb159 ?_; refine le shape74 ?_; refine alc 1 info74 ?_; refine gn 1 ?_; refine sy 3 ?_; refine L.lenR (xs := v154.Leaked) (e := eI) underlying24 hF rfl rfl rfl rfl ?_; refine cB 2 ent173 (g173 k8 g11 g11 b159 (v154.Leaked.length : Int)) H fun r160 H => ?_; refine gn 1 ?_; refine cd H (fun hc H => ?_) (fun hc H => ?_)
         ·refine sg 1 ?_; cases H; exact WpC.ret rt
         ·refine WpC.skip (WpC.regionL ?_); refine gn 2 ?_; exact ⟨k8, _, by omega, ⟨v154, v155, (IntKind.i64.wrap (v156 + 1)), by omega, H, rfl⟩, lm [(0, 0)] hm⟩
        ·refine WpC.exit (WpC.seq (sr ?_)); refine go 2 ?_; refine cB 1 ent174 (g174 k8 g4 v154.Net) H fun r164 H => ?_; refine mv ?_; refine sH H (fun hc H => ?_) (fun hc H => ?_)
         ·refine gn 5 ?_; refine cT ?_; refine sg 1 ?_; cases H; exact WpC.ret rt
         ·refine go 2 ?_; refine L.lenR (xs := v154.Net) (e := eS) underlying34 hF rfl rfl rfl rfl ?_; refine gn 2 ?_; refine cd H (fun hc H => ?_) (fun hc H => ?_)
          ·refine sg 1 ?_; cases H; exact WpC.ret rt
          ·refine WpC.skip (sr ?_); refine go 2 ?_; refine cB 2 ent99 (g99 k8 g0 g1 g2 g3 v154.Config) H fun r169 H => ?_; refine mv ?_; refine sH H (fun hc H => ?_) (fun hc H => ?_)
           ·refine go 2 ?_; refine cB 3 ent176 (g176 k8  v154.Now) H fun r170 H => ?_; refine go 2 ?_; refine sH H (fun hc H => ?_) (fun hc H => ?_)
            ·refine go 2 ?_; refine cB 4 ent66 (g66 k8  v154.Fresh 101 1000000) H fun r171 H => ?_; refine go 2 ?_; refine sH H (fun hc H => ?_) (fun hc H => ?_)
             ·refine go 2 ?_; refine cB 5 ent60 (g60 k8 g5 g6 v154.Known) H fun r172 H => ?_; refine go 2 ?_; refine sH H (fun hc H => ?_) (fun hc H => ?_)
              ·refine go 2 ?_; refine L.lenR (xs := v154.Waits) (e := eT_Wait) underlying37 hF rfl rfl rfl rfl ?_; refine go 3 ?_; refine sH H (fun hc H => ?_) (fun hc H => ?_)
               ·refine go 2 ?_; refine L.lenR (xs := v154.Creds) (e := eT_Cred) underlying38 hF rfl rfl rfl rfl ?_; refine go 3 ?_; refine sH H (fun hc H => ?_) (fun hc H => ?_)
                ·refine go 2 ?_; refine L.lenR (xs := v154.Caches) (e := eT_Cache) underlying39 hF rfl rfl rfl rfl ?_; refine go 3 ?_; refine sH H (fun hc H => ?_) (fun hc H => ?_)
                 ·refine go 2 ?_; refine L.lenR (xs := v154.Log) (e := eT_Event) underlying40 hF rfl rfl rfl rfl ?_; refine go 3 ?_; refine sH H (fun hc H => ?_) (fun hc H => ?_)
                  ·refine go 2 ?_; refine L.lenR (xs := v154.Accepts) (e := eT_Accept) underlying41 hF rfl rfl rfl rfl ?_; refine go 3 ?_; refine sH H (fun hc H => ?_) (fun hc H => ?_)
                   ·refine go 2 ?_; refine L.lenR (xs := v154.Leaked) (e := eI) underlying24 hF rfl rfl rfl rfl ?_; refine gn 3 ?_; cases H; exact WpC.ret rt
                   ·refine gn 6 ?_; cases H; exact WpC.ret rt
                  ·refine gn 12 ?_; cases H; exact WpC.ret rt
                 ·refine gn 18 ?_; cases H; exact WpC.ret rt
                ·refine gn 24 ?_; cases H; exact WpC.ret rt
               ·refine gn 30 ?_; cases H; exact WpC.ret rt
              ·refine gn 36 ?_; cases H; exact WpC.ret rt
             ·refine gn 41 ?_; cases H; exact WpC.ret rt
            ·refine gn 46 ?_; cases H; exact WpC.ret rt
           ·refine gn 51 ?_; cases H; exact WpC.ret rt
/-! ### I_Find_1 -/
def I_Find_1 (k : Nat) (a0 : T_Event) (o0 : Int) : Option Bool := some (a0.Key == o0)
theorem ent59 : MG.Enters Tryz.prog 59 := en func59
theorem g59 (k : Nat) (a0 : T_Event) (o0 : Int) (r : Bool) (H : I_Find_1 k a0 o0 = some r) : Gives Tryz.prog 59 [V.agg (bT_Event a0), V.one (Cell.ptr 0 0)] [[cI o0]] [V.one (cL r)] [[cI o0]] := by
 refine Gives.intro func59 rfl rfl rfl rfl ?_; refine fx fun w0 T S0 ob oh hm => ?_
 have hF := fxe w0 T S0 8 ob oh
 unfold I_Find_1 at H; obtain ⟨K, hK⟩ := leK k; refine sr ?_; refine bo 14 ?_; refine gn 1 ?_; refine sg 5 ?_; cases H; exact WpC.ret rt
/-! ### V_IndexFunc_Event__impl_Find_1 -/
def V_IndexFunc_Event__impl_Find_1.l2 : Nat → (List T_Event) → Int → Int → Int → Option (Int × Int)
 | 0, _, _, _, _ => none
 | k2 + 1, v39, v40, v41, v42 => cond (decide (v41 < v40)) ((at? v39 v41).bind fun b45 => (I_Find_1 k2 b45 v42).bind fun r46 => cond r46 (some (v41, v42)) ((V_IndexFunc_Event__impl_Find_1.l2 k2) v39 v40 (IntKind.i64.wrap (v41 + 1)) v42)) (some ((-1), v42))
def V_IndexFunc_Event__impl_Find_1 (k : Nat) (a0 : List T_Event) (o0 : Int) : Option (Int × Int) := V_IndexFunc_Event__impl_Find_1.l2 k a0 (a0.length : Int) 0 o0
theorem ent58 : MG.Enters Tryz.prog 58 := en func58
theorem g58 (k : Nat) (g0 : Bool) (a0 : List T_Event) (o0 : Int) (r : Int × Int) (H : V_IndexFunc_Event__impl_Find_1 k a0 o0 = some r) : Gives Tryz.prog 58 [V.one (Cell.sl g0 (List.map eT_Event a0)), V.one (Cell.clo 59 [Cell.ptr 0 0])] [[cI o0]] [V.one (cI r.1)] [[cI r.2]] := by
 refine Gives.intro func58 rfl rfl rfl rfl ?_; refine fx fun w0 T S0 ob oh hm => ?_
 have hF := fxe w0 T S0 19 ob oh
 unfold V_IndexFunc_Event__impl_Find_1 at H; obtain ⟨K, hK⟩ := leK k; refine sg 1 ?_; refine WpC.seq (sr ?_); refine mv ?_; refine L.lenR (xs := a0) (e := eT_Event) underlying40 hF rfl rfl rfl rfl ?_; refine gn 1 ?_; refine WpC.block ?_; refine WpC.loopL (P := Tryz.prog) (fun n σ => ∃ (v39 : List T_Event) (v40 v41 v42 : Int), n ≤ K ∧ V_IndexFunc_Event__impl_Find_1.l2 n v39 v40 v41 v42 = some r ∧ σ = mkSt [(0, MG.one (Cell.sl g0 (List.map eT_Event v39))), (1, MG.one (Cell.clo 59 [Cell.ptr 0 0])), (7, oI v40), (8, oI v41)] [] [(0, [cI v42])] 1) k ⟨_, ⟨a0, (a0.length : Int), 0, o0, by omega, H, rfl⟩, lm [(0, 0)] hm⟩ ?_; clear H
 rintro k2 _ ⟨v39, v40, v41, v42, hk2, H, rfl⟩
 cases k2 with
 | zero => cases H
 | succ k2 =>
  rw [V_IndexFunc_Event__impl_Find_1.l2] at H
  refine sg 1 ?_; refine WpC.seq ?_; refine cd H (fun hc H => ?_) (fun hc H => ?_)
  ·refine WpC.skip (WpC.seq (WpC.block (sr ?_))); refine gn 2 ?_; refine sy 3 ?_; obtain ⟨b45, hb45, H⟩ := bindS H; refine ix underlying40 info47 hb45 ?_; refine le shape47 ?_; obtain ⟨r46, hr46, H⟩ := bindS H; refine ca [false] [] [0] 1 ent59 (g59 k2  b45 v42 r46 hr46) (L.nil ?_); refine cd H (fun hc H => ?_) (fun hc H => ?_)
   ·refine sg 2 ?_; cases H; exact WpC.ret rt
   ·refine WpC.skip (WpC.regionL ?_); refine gn 2 ?_; exact ⟨k2, _, by omega, ⟨v39, v40, (IntKind.i64.wrap (v41 + 1)), v42, by omega, H, rfl⟩, lm [(0, 0)] hm⟩
  ·refine WpC.exit (sr ?_); refine gn 1 ?_; cases H; exact WpC.ret rt
/-! ### I_Find -/
def I_Find (k : Nat) (a0 : List T_Event) (a1 : Int) : Option Int := (V_IndexFunc_Event__impl_Find_1 k a0 a1).bind fun r1 => some r1.1
theorem ent17 : MG.Enters Tryz.prog 17 := en func17
theorem g17 (k : Nat) (g0 : Bool) (a0 : List T_Event) (a1 r : Int) (H : I_Find k a0 a1 = some r) : Gives Tryz.prog 17 [V.one (Cell.sl g0 (List.map eT_Event a0)), V.one (cI a1)] [] [V.one (cI r)] [] := by
 refine Gives.intro func17 rfl rfl rfl rfl ?_; refine fx fun w0 T S0 ob oh hm => ?_
 have hF := fxe w0 T S0 8 ob oh
 unfold I_Find at H; obtain ⟨K, hK⟩ := leK k; refine sr ?_; refine bo 2 ?_; refine gn 1 ?_; refine sy 1 ?_; refine L.makeFunc hF rfl rfl rfl ?_; obtain ⟨r1, hr1, H⟩ := bindS H; refine ca [false, false] [] [2] 3 ent58 (g58 k g0 a0 a1 r1 hr1) ?_; refine gn 1 ?_; cases H; exact WpC.ret rt
/-! ### I_Chain -/
def I_Chain.j19 (cl17 : (List T_Event) → Int → (List Int) → Int → Int → Option (List Int)) (k : Nat) (v178 : List T_Event) (v179 : Int) (v180 : List Int) (v181 v182 : Int) : Option (List Int) := cl17 v178 v179 v180 v181 (IntKind.i64.wrap (v182 + 1))
def I_Chain.j20 (cl17 : (List T_Event) → Int → (List Int) → Int → Int → Option (List Int)) (k : Nat) (v186 : List T_Event) (v187 : List Int) (v188 v189 v190 : Int) (v191 : T_Event) (v192 : Bool) : Option (List Int) := cond v192 ((at? v186 v188).bind fun b193 => I_Chain.j19 cl17 k v186 b193.Parent v187 v189 v190) (cond (v191.Kind == 4) ((at? v186 v188).bind fun b194 => I_Chain.j19 cl17 k v186 b194.Evid v187 v189 v190) (some ([] : List Int)))
def I_Chain.l17 : Nat → (List T_Event) → Int → (List Int) → Int → Int → Option (List Int)
 | 0, _, _, _, _, _ => none
 | k17 + 1, v161, v162, v163, v164, v165 => cond (decide (v165 < v164)) ((I_Find k17 v161 v162).bind fun r183 => cond (decide (r183 < 0)) (some ([] : List Int)) (cond (decide ((2 * (([r183] : List Int).length + v163.length) + 192) * 8 ≤ 281474976710656)) ((at? v161 r183).bind fun b185 => cond (b185.Kind == 1) (some (([r183] : List Int) ++ v163)) (cond (b185.Kind == 2) (I_Chain.j20 (I_Chain.l17 k17) k17 v161 (([r183] : List Int) ++ v163) r183 v164 v165 b185 (b185.Kind == 2)) (I_Chain.j20 (I_Chain.l17 k17) k17 v161 (([r183] : List Int) ++ v163) r183 v164 v165 b185 (b185.Kind == 3)))) none)) (some ([] : List Int))
def I_Chain (k : Nat) (a0 : List T_Event) (a1 : Int) : Option (List Int) := I_Chain.l17 k a0 a1 ([] : List Int) (a0.length : Int) 0
theorem ent30 : MG.Enters Tryz.prog 30 := en func30
theorem g30 (k : Nat) (g0 : Bool) (a0 : List T_Event) (a1 : Int) (r : List Int) (H : I_Chain k a0 a1 = some r) : Gives Tryz.prog 30 [V.one (Cell.sl g0 (List.map eT_Event a0)), V.one (cI a1)] [] [V.one (Cell.ow 1 (List.map eI r))] [] := by
 refine Gives.intro func30 rfl rfl rfl rfl ?_; refine fx fun w0 T S0 ob oh hm => ?_
 have hF := fxe w0 T S0 47 ob oh
 unfold I_Chain at H; obtain ⟨K, hK⟩ := leK k; refine sg 1 ?_; refine sr ?_; refine L.buildSlice (e := eI) 2 ([] : List Int) underlying24 info3 rfl rfl rfl hF rfl rfl rfl rfl rfl rfl rfl rfl ?_; refine gn 1 ?_; refine WpC.seq (sr ?_); refine mv ?_; refine L.lenR (xs := a0) (e := eT_Event) underlying40 hF rfl rfl rfl rfl ?_; refine gn 1 ?_; refine WpC.block ?_; refine WpC.loopL (P := Tryz.prog) (fun n σ => ∃ (v161 : List T_Event) (v162 : Int) (v163 : List Int) (v164 v165 : Int), n ≤ K ∧ I_Chain.l17 n v161 v162 v163 v164 v165 = some r ∧ σ = mkSt [(0, MG.one (Cell.sl g0 (List.map eT_Event v161))), (1, oI v162), (5, MG.one (Cell.own 0)), (9, oI v164), (10, oI v165)] [(0, ⟨1, List.map eI v163⟩)] [] 1) k ⟨_, ⟨a0, a1, ([] : List Int), (a0.length : Int), 0, by omega, H, rfl⟩, lm [(0, 2)] hm⟩ ?_; clear H
 rintro k17 _ ⟨v161, v162, v163, v164, v165, hk17, H, rfl⟩
 cases k17 with
 | zero => cases H
 | succ k17 =>
  rw [I_Chain.l17] at H
  refine sg 1 ?_; refine WpC.seq ?_; refine cd H (fun hc H => ?_) (fun hc H => ?_)
  ·refine WpC.skip ?_; refine WpC.join (fun σ => ∃ (kj19 : Nat) (v178 : List T_Event) (v179 : Int) (v180 : List Int) (v181 v182 : Int), kj19 ≤ K ∧ I_Chain.j19 (I_Chain.l17 k17) kj19 v178 v179 v180 v181 v182 = some r ∧ σ = mkSt [(0, MG.one (Cell.sl g0 (List.map eT_Event v178))), (1, oI v179), (5, MG.one (Cell.own 0)), (9, oI v181), (10, oI v182)] [(0, ⟨1, List.map eI v180⟩)] [] 1) ?_ ?_
   ·rintro _ ⟨kj19, v178, v179, v180, v181, v182, hkj19, H, rfl⟩
    unfold I_Chain.j19 at H; refine WpC.regionL ?_; refine gn 2 ?_; exact ⟨k17, _, by omega, ⟨v178, v179, v180, v181, (IntKind.i64.wrap (v182 + 1)), by omega, H, rfl⟩, lm [(0, 0)] hm⟩
   ·refine WpC.block (sr ?_); refine go 2 ?_; refine cB 1 ent17 (g17 k17 g0 v161 v162) H fun r183 H => ?_; refine gn 1 ?_; refine WpC.seq (sr ?_); refine gn 2 ?_; refine cd H (fun hc H => ?_) (fun hc H => ?_)
    ·refine WpC.exit (sr ?_); refine L.buildSlice (e := eI) 2 ([] : List Int) underlying24 info3 rfl rfl rfl hF rfl rfl rfl rfl rfl rfl rfl rfl ?_; refine gn 1 ?_; cases H; exact WpC.ret rt
    ·refine WpC.skip (sr ?_); refine mv ?_; refine L.buildSlice (e := eI) 2 ([r183] : List Int) underlying24 info3 rfl rfl rfl hF rfl rfl rfl rfl rfl rfl rfl rfl ?_; refine mv ?_; obtain ⟨h184, H⟩ := condG H; refine L.append (xs := ([r183] : List Int)) (ys := v163) (e := eI) 3 underlying24 info3 rfl rfl hF rfl rfl rfl rfl rfl rfl rfl rfl (fun _ => rfl) (fun _ _ h1 h2 => by cases h1; cases h2; rfl) ⟨_, underlying24⟩ (of_decide_eq_true h184) rfl rfl ?_; refine gn 1 ?_; refine sy 2 ?_; obtain ⟨b185, hb185, H⟩ := bindS H; refine ix underlying40 info47 hb185 ?_; refine gn 2 ?_; refine WpC.block (sr ?_); refine gn 2 ?_; refine cd H (fun hc H => ?_) (fun hc H => ?_)
     ·refine sg 2 ?_; cases H; exact WpC.ret rt
     ·refine WpC.join (fun σ => ∃ (kj20 : Nat) (v186 : List T_Event) (v187 : List Int) (v188 v189 v190 : Int) (v191 : T_Event) (v192 : Bool), kj20 ≤ K ∧ I_Chain.j20 (I_Chain.l17 k17) kj20 v186 v187 v188 v189 v190 v191 v192 = some r ∧ σ = mkSt [(0, MG.one (Cell.sl g0 (List.map eT_Event v186))), (5, MG.one (Cell.own 0)), (6, oI v188), (9, oI v189), (10, oI v190), (25, oI v191.Kind), (30, oL v192)] [(0, ⟨1, List.map eI v187⟩)] [] 1) ?_ ?_
      ·rintro _ ⟨kj20, v186, v187, v188, v189, v190, v191, v192, hkj20, H, rfl⟩
       unfold I_Chain.j20 at H; refine cd H (fun hc H => ?_) (fun hc H => ?_)
       ·refine WpC.regionL ?_; refine go 2 ?_; obtain ⟨b193, hb193, H⟩ := bindS H; refine ix underlying40 info47 hb193 ?_; refine gn 3 ?_; exact ⟨_, ⟨kj20, v186, b193.Parent, v187, v189, v190, by omega, H, rfl⟩, lm [(0, 0)] hm⟩
       ·refine sg 2 ?_; refine cd H (fun hc H => ?_) (fun hc H => ?_)
        ·refine WpC.regionL ?_; refine go 2 ?_; obtain ⟨b194, hb194, H⟩ := bindS H; refine ix underlying40 info47 hb194 ?_; refine gn 3 ?_; exact ⟨_, ⟨kj20, v186, b194.Evid, v187, v189, v190, by omega, H, rfl⟩, lm [(0, 0)] hm⟩
        ·refine sr ?_; refine L.buildSlice (e := eI) 1 ([] : List Int) underlying24 info3 rfl rfl rfl hF rfl rfl rfl rfl rfl rfl rfl rfl ?_; refine gn 1 ?_; cases H; exact WpC.ret rt
      ·refine sg 2 ?_; refine cd H (fun hc H => ?_) (fun hc H => ?_)
       ·refine WpC.skip ?_; exact ⟨_, ⟨k17, v161, (([r183] : List Int) ++ v163), r183, v164, v165, b185, (b185.Kind == 2), by omega, H, rfl⟩, lm [(0, 3)] hm⟩
       ·refine WpC.regionL ?_; refine gn 2 ?_; exact ⟨_, ⟨k17, v161, (([r183] : List Int) ++ v163), r183, v164, v165, b185, (b185.Kind == 3), by omega, H, rfl⟩, lm [(0, 3)] hm⟩
  ·refine WpC.exit (sr ?_); refine L.buildSlice (e := eI) 1 ([] : List Int) underlying24 info3 rfl rfl rfl hF rfl rfl rfl rfl rfl rfl rfl rfl ?_; refine gn 1 ?_; cases H; exact WpC.ret rt
/-! ### I_PrincipalKey -/
def I_PrincipalKey (k : Nat) (a0 : Int) : Option Int := (I_within k a0 0 2).bind fun r3 => cond r3 (some (IntKind.i64.wrap (1 + a0))) ((I_isPrincipal k a0).bind fun r4 => cond r4 (some (IntKind.i64.wrap ((IntKind.i64.wrap (11 + a0)) - 3))) (some 0))
theorem ent21 : MG.Enters Tryz.prog 21 := en func21
theorem g21 (k : Nat) (a0 r : Int) (H : I_PrincipalKey k a0 = some r) : Gives Tryz.prog 21 [V.one (cI a0)] [] [V.one (cI r)] [] := by
 refine Gives.intro func21 rfl rfl rfl rfl ?_; refine fx fun w0 T S0 ob oh hm => ?_
 have hF := fxe w0 T S0 14 ob oh
 unfold I_PrincipalKey at H; obtain ⟨K, hK⟩ := leK k; refine sg 1 ?_; refine WpC.seq (WpC.block (sr ?_)); refine mv ?_; refine cB 1 ent66 (g66 k  a0 0 2) H fun r3 H => ?_; refine gn 1 ?_; refine cd H (fun hc H => ?_) (fun hc H => ?_)
 ·refine sg 3 ?_; cases H; exact WpC.ret rt
 ·refine sy 1 ?_; refine cB 2 ent67 (g67 k  a0) H fun r4 H => ?_; refine gn 1 ?_; refine cd H (fun hc H => ?_) (fun hc H => ?_)
  ·refine sg 4 ?_; cases H; exact WpC.ret rt
  ·refine WpC.skip (sr ?_); refine gn 1 ?_; cases H; exact WpC.ret rt
/-! ### I_RealmOf -/
def I_RealmOf.j2 (k : Nat) (v11 : Int) (v12 : Bool) (v13 : T_Config) : Option Int := cond v12 (some (-1)) (cond (decide (v11 < 3)) ((at? v13.UserRealm v11).bind fun b14 => some b14) ((at? v13.ServiceRealm (IntKind.i64.wrap (v11 - 3))).bind fun b15 => some b15))
def I_RealmOf (k : Nat) (a0 : T_Config) (a1 : Int) : Option Int := (I_ConfigOk k a0).bind fun r16 => cond (!r16) (I_RealmOf.j2 k a1 true a0) ((I_isPrincipal k a1).bind fun r17 => I_RealmOf.j2 k a1 (!r17) a0)
theorem ent102 : MG.Enters Tryz.prog 102 := en func102
theorem g102 (k : Nat) (g0 g1 g2 g3 : Bool) (a0 : T_Config) (a1 r : Int) (H : I_RealmOf k a0 a1 = some r) : Gives Tryz.prog 102 [V.agg (bT_Config g0 g1 g2 g3 a0), V.one (cI a1)] [] [V.one (cI r)] [] := by
 refine Gives.intro func102 rfl rfl rfl rfl ?_; refine fx fun w0 T S0 ob oh hm => ?_
 have hF := fxe w0 T S0 28 ob oh
 unfold I_RealmOf at H; obtain ⟨K, hK⟩ := leK k; refine sr ?_; refine bo 6 ?_; refine gn 1 ?_; refine WpC.seq (WpC.block ?_); refine WpC.join (fun σ => ∃ (kj2 : Nat) (v11 : Int) (v12 : Bool) (v13 : T_Config), kj2 ≤ K ∧ I_RealmOf.j2 kj2 v11 v12 v13 = some r ∧ σ = mkSt [(1, oI v11), (2, oP 0 0), (5, oL v12)] [] [(0, (bT_Config g0 g1 g2 g3 v13))] 1) ?_ ?_
 ·rintro _ ⟨kj2, v11, v12, v13, hkj2, H, rfl⟩
  unfold I_RealmOf.j2 at H; refine cd H (fun hc H => ?_) (fun hc H => ?_)
  ·refine sg 1 ?_; cases H; exact WpC.ret rt
  ·refine sg 3 ?_; refine cd H (fun hc H => ?_) (fun hc H => ?_)
   ·refine sy 3 ?_; obtain ⟨b14, hb14, H⟩ := bindS H; refine ix underlying24 info3 hb14 ?_; refine gn 2 ?_; cases H; exact WpC.ret rt
   ·refine WpC.skip (sr ?_); refine go 4 ?_; obtain ⟨b15, hb15, H⟩ := bindS H; refine ix underlying24 info3 hb15 ?_; refine gn 2 ?_; cases H; exact WpC.ret rt
 ·refine WpC.regionL ?_; refine lp shape27 ?_; refine cB 7 ent99 (g99 k g0 g1 g2 g3 a0) H fun r16 H => ?_; refine go 2 ?_; refine sH H (fun hc H => ?_) (fun hc H => ?_)
  ·refine gn 5 ?_; exact ⟨_, ⟨k, a1, true, a0, by omega, H, rfl⟩, lm [(0, 6)] hm⟩
  ·refine mv ?_; refine cB 8 ent67 (g67 k  a1) H fun r17 H => ?_; refine gn 3 ?_; exact ⟨_, ⟨k, a1, (!r17), a0, by omega, H, rfl⟩, lm [(0, 6)] hm⟩
/-! ### V_DeleteFunc_int__impl_Concerns_1 (shelf) -/
theorem ent248 : MG.Enters Tryz.prog 248 := en func248
/-! ### I_CentreKey -/
def I_CentreKey (k : Nat) (a0 : Int) : Option Int := (I_isRealm k a0).bind fun r2 => cond (!r2) (some 0) (some (IntKind.i64.wrap (21 + a0)))
theorem ent125 : MG.Enters Tryz.prog 125 := en func125
theorem g125 (k : Nat) (a0 r : Int) (H : I_CentreKey k a0 = some r) : Gives Tryz.prog 125 [V.one (cI a0)] [] [V.one (cI r)] [] := by
 refine Gives.intro func125 rfl rfl rfl rfl ?_; refine fx fun w0 T S0 ob oh hm => ?_
 have hF := fxe w0 T S0 8 ob oh
 unfold I_CentreKey at H; obtain ⟨K, hK⟩ := leK k; refine sg 1 ?_; refine WpC.seq (sr ?_); refine mv ?_; refine cB 1 ent187 (g187 k  a0) H fun r2 H => ?_; refine gn 1 ?_; refine cd H (fun hc H => ?_) (fun hc H => ?_)
 ·refine sg 1 ?_; cases H; exact WpC.ret rt
 ·refine WpC.skip (sr ?_); refine gn 3 ?_; cases H; exact WpC.ret rt
/-! ### I_LinkKey -/
def I_LinkKey (k : Nat) (a0 a1 : Int) : Option Int := (I_isRealm k a0).bind fun r7 => cond (!r7) (some 0) ((I_isRealm k a1).bind fun r8 => cond (!r8) (some 0) (some (IntKind.i64.wrap ((IntKind.i64.wrap (31 + (IntKind.i64.wrap (3 * a0)))) + a1))))
theorem ent126 : MG.Enters Tryz.prog 126 := en func126
theorem g126 (k : Nat) (a0 a1 r : Int) (H : I_LinkKey k a0 a1 = some r) : Gives Tryz.prog 126 [V.one (cI a0), V.one (cI a1)] [] [V.one (cI r)] [] := by
 refine Gives.intro func126 rfl rfl rfl rfl ?_; refine fx fun w0 T S0 ob oh hm => ?_
 have hF := fxe w0 T S0 18 ob oh
 unfold I_LinkKey at H; obtain ⟨K, hK⟩ := leK k; refine sg 1 ?_; refine WpC.seq (sr ?_); refine mv ?_; refine cB 2 ent187 (g187 k  a0) H fun r7 H => ?_; refine go 2 ?_; refine sH H (fun hc H => ?_) (fun hc H => ?_)
 ·refine gn 4 ?_; refine cT ?_; refine sg 1 ?_; cases H; exact WpC.ret rt
 ·refine mv ?_; refine cB 3 ent187 (g187 k  a1) H fun r8 H => ?_; refine gn 2 ?_; refine cd H (fun hc H => ?_) (fun hc H => ?_)
  ·refine sg 1 ?_; cases H; exact WpC.ret rt
  ·refine WpC.skip (sr ?_); refine gn 6 ?_; cases H; exact WpC.ret rt
/-! ### V_Sort_int (shelf) -/
theorem ent62 : MG.Enters Tryz.prog 62 := en func62
/-! ### V_Compact_int (shelf) -/
theorem ent205 : MG.Enters Tryz.prog 205 := en func205
/-! ### I_risen -/
def I_risen (k : Nat) (a0 : List Int) : Option (List Int) := (V_Sort_int k a0).bind fun r1 => (V_Compact_int k r1).bind fun r2 => some r2
theorem ent124 : MG.Enters Tryz.prog 124 := en func124
theorem g124 (k : Nat) (a0 r : List Int) (H : I_risen k a0 = some r) : Gives Tryz.prog 124 [V.one (Cell.ow 1 (List.map eI a0))] [] [V.one (Cell.ow 1 (List.map eI r))] [] := by
 refine Gives.intro func124 rfl rfl rfl rfl ?_; refine fx fun w0 T S0 ob oh hm => ?_
 have hF := fxe w0 T S0 7 ob oh
 unfold I_risen at H; obtain ⟨K, hK⟩ := leK k; refine sg 1 ?_; refine sy 1 ?_; obtain ⟨r1, hr1, H⟩ := bindS H; refine L.callB [true] [] [] 1 [0] hF rfl rfl rfl ent62 rfl rfl rfl rfl rfl (V_Sort_int_gives k  a0 r1 hr1) rfl rfl rfl (L.nil ?_); refine sy 1 ?_; obtain ⟨r2, hr2, H⟩ := bindS H; refine ca [true] [] [] 1 ent205 (V_Compact_int_gives k  r1 r2 hr2) ?_; refine gn 1 ?_; cases H; exact WpC.ret rt
/-! ### I_Concerns -/
def I_Concerns.j8 (cl7 : (List Int) → T_Accept → Int → Int → T_Config → Option (List Int)) (k : Nat) (v110 : List Int) (v111 : T_Accept) (v112 v113 : Int) (v114 : T_Config) : Option (List Int) := cl7 v110 v111 v112 (IntKind.i64.wrap (v113 + 1)) v114
def I_Concerns.j58 (cl57 : (List Int) → (List Int) → Int → Int → Int → Int → Int → Option (List Int)) (k : Nat) (v843 v844 : List Int) (v845 v846 v847 v848 v849 : Int) : Option (List Int) := cl57 v843 v844 v845 v846 v847 v848 (IntKind.i64.wrap (v849 + 1))
def I_Concerns.l57 (cl50 : (List Int) → (List Int) → Int → Int → Option (List Int)) : Nat → (List Int) → (List Int) → Int → Int → Int → Int → Int → Option (List Int)
 | 0, _, _, _, _, _, _, _ => none
 | k57 + 1, v833, v834, v835, v836, v837, v838, v839 => cond (decide (v839 < v838)) ((at? v834 v839).bind fun b850 => cond (b850 != v835) ((I_LinkKey k57 v835 b850).bind fun r851 => cond (decide ((2 * (v833.length + ([r851] : List Int).length) + 192) * 8 ≤ 281474976710656)) (I_Concerns.j58 (I_Concerns.l57 cl50 k57) k57 (v833 ++ ([r851] : List Int)) v834 v835 v836 v837 v838 v839) none) (I_Concerns.j58 (I_Concerns.l57 cl50 k57) k57 v833 v834 v835 v836 v837 v838 v839)) (cl50 v833 v834 v836 (IntKind.i64.wrap (v837 + 1)))
def I_Concerns.l50 : Nat → (List Int) → (List Int) → Int → Int → Option (List Int)
 | 0, _, _, _, _ => none
 | k50 + 1, v727, v728, v729, v730 => cond (decide (v730 < v729)) ((at? v728 v730).bind fun b792 => (I_CentreKey k50 b792).bind fun r793 => cond (decide ((2 * (v727.length + ([r793] : List Int).length) + 192) * 8 ≤ 281474976710656)) (I_Concerns.l57 (I_Concerns.l50 k50) k50 (v727 ++ ([r793] : List Int)) v728 b792 v729 v730 (v728.length : Int) 0) none) ((I_risen k50 v727).bind fun r853 => some r853)
def I_Concerns.l7 : Nat → (List Int) → T_Accept → Int → Int → T_Config → Option (List Int)
 | 0, _, _, _, _, _ => none
 | k7 + 1, v101, v102, v103, v104, v105 => cond (decide (v104 < v103)) ((at? v102.Via v104).bind fun b115 => (I_isService k7 b115).bind fun r116 => cond r116 ((I_PrincipalKey k7 (IntKind.i64.wrap (3 + b115))).bind fun r117 => cond (decide ((2 * (v101.length + ([r117] : List Int).length) + 192) * 8 ≤ 281474976710656)) (I_Concerns.j8 (I_Concerns.l7 k7) k7 (v101 ++ ([r117] : List Int)) v102 v103 v104 v105) none) (I_Concerns.j8 (I_Concerns.l7 k7) k7 v101 v102 v103 v104 v105)) ((I_RealmOf k7 v105 v102.Client).bind fun r119 => (at? v105.ServiceRealm v102.Server).bind fun b120 => cond (decide ((2 * (([r119, b120] : List Int).length + v102.Path.length) + 192) * 8 ≤ 281474976710656)) ((V_DeleteFunc_int__impl_Concerns_1 k7 (([r119, b120] : List Int) ++ v102.Path)).bind fun r122 => I_Concerns.l50 k7 v101 r122 (r122.length : Int) 0) none)
def I_Concerns (k : Nat) (a0 : T_Config) (a1 : T_Accept) : Option (List Int) := (I_ConfigOk k a0).bind fun r10 => cond (!r10) (some ([] : List Int)) ((I_isService k a1.Server).bind fun r11 => cond (!r11) (some ([] : List Int)) ((I_isPrincipal k a1.Client).bind fun r12 => cond (!r12) (some ([] : List Int)) ((I_PrincipalKey k a1.Client).bind fun r13 => (I_PrincipalKey k (IntKind.i64.wrap (3 + a1.Server))).bind fun r14 => I_Concerns.l7 k ([r13, r14] : List Int) a1 (a1.Via.length : Int) 0 a0)))
theorem ent177 : MG.Enters Tryz.prog 177 := en func177
theorem g177 (k : Nat) (g0 g1 g2 g3 g4 g5 : Bool) (a0 : T_Config) (a1 : T_Accept) (r : List Int) (H : I_Concerns k a0 a1 = some r) : Gives Tryz.prog 177 [V.agg (bT_Config g0 g1 g2 g3 a0), V.agg (bT_Accept g4 g5 a1)] [] [V.one (Cell.ow 1 (List.map eI r))] [] := by
 refine Gives.intro func177 rfl rfl rfl rfl ?_; refine fx fun w0 T S0 ob oh hm => ?_
 have hF := fxe w0 T S0 98 ob oh
 unfold I_Concerns at H; obtain ⟨K, hK⟩ := leK k; refine sr ?_; refine bo 20 ?_; refine bo 21 ?_; refine gn 1 ?_; refine WpC.seq (sr ?_); refine lp shape27 ?_; refine cB 22 ent99 (g99 k g0 g1 g2 g3 a0) H fun r10 H => ?_; refine go 2 ?_; refine sH H (fun hc H => ?_) (fun hc H => ?_)
 ·refine gn 11 ?_; refine cT ?_; refine sr ?_; refine L.buildSlice (e := eI) 23 ([] : List Int) underlying24 info3 rfl rfl rfl hF rfl rfl rfl rfl rfl rfl rfl rfl ?_; refine gn 1 ?_; cases H; exact WpC.ret rt
 ·refine go 2 ?_; refine cB 23 ent100 (g100 k  a1.Server) H fun r11 H => ?_; refine go 3 ?_; refine sH H (fun hc H => ?_) (fun hc H => ?_)
  ·refine gn 5 ?_; refine cT ?_; refine sr ?_; refine L.buildSlice (e := eI) 24 ([] : List Int) underlying24 info3 rfl rfl rfl hF rfl rfl rfl rfl rfl rfl rfl rfl ?_; refine gn 1 ?_; cases H; exact WpC.ret rt
  ·refine go 2 ?_; refine cB 24 ent67 (g67 k  a1.Client) H fun r12 H => ?_; refine gn 2 ?_; refine cd H (fun hc H => ?_) (fun hc H => ?_)
   ·refine sr ?_; refine L.buildSlice (e := eI) 25 ([] : List Int) underlying24 info3 rfl rfl rfl hF rfl rfl rfl rfl rfl rfl rfl rfl ?_; refine gn 1 ?_; cases H; exact WpC.ret rt
   ·refine WpC.skip (WpC.seq ?_); obtain ⟨r13, hr13, H⟩ := bindS H; obtain ⟨r14, hr14, H⟩ := bindS H; refine A.lin (fun β => mkStL [(2, iP 20 0), (3, iP 21 0), (5, al (β 8) (MG.one (Cell.own 27))), (29, lP (β 0) 21 1), (30, al (β 1) (MG.one (cI a1.Client))), (31, lI (β 2) r13), (32, lP (β 3) 21 0), (33, al (β 4) (MG.one (cI a1.Server))), (34, al (β 5) (MG.one (cI (IntKind.i64.wrap (3 + a1.Server))))), (35, lI (β 6) r14), (36, al (β 7) (MG.one (Cell.own 27)))] [(27, al (β 7) (⟨1, List.map eI ([r13, r14] : List Int)⟩))] [(20, ai ((bT_Config g0 g1 g2 g3 a0))), (21, ai ((bT_Accept g4 g5 a1)))] 28) [([], [1, 2, 6, 7, 8]), ([0], [2, 6, 7, 8]), ([0, 1], [6, 7, 8]), ([], [4, 5, 6, 7, 8]), ([3], [5, 6, 7, 8]), ([3, 4], [6, 7, 8]), ([0, 1, 2, 3, 4, 5], [7, 8]), ([0, 1, 2, 3, 4, 5, 6], [8]), ([0, 1, 2, 3, 4, 5, 6, 7], [])] 9 mixed rfl (by kernel_rfl) ?_ ?_ ?_
    ·exact Le.lin [] hm rfl (sa2 (kn (kn8 kz))) (kn kz) (ba (ba kz))
    ·repeat' (first | exact trivial | refine ⟨⟨_, rfl, fun β => ?_⟩, ?_⟩ | fail)
     ·refine fa underlying74 info3 ?_; exact lx [] hm
     ·refine lp shape3 ?_; exact lx [] hm
     ·refine c0 28 ent21 (g21 k  a1.Client r13 hr13) ?_; exact lx [(25, 28)] hm
     ·refine fa underlying74 info3 ?_; exact lx [] hm
     ·refine lp shape3 ?_; exact lx [] hm
     ·refine bi ?_; exact lx [] hm
     ·refine c0 28 ent21 (g21 k  (IntKind.i64.wrap (3 + a1.Server)) r14 hr14) ?_; exact lx [(26, 28)] hm
     ·refine L.buildSlice (e := eI) 28 ([r13, r14] : List Int) underlying24 info3 rfl rfl rfl hF rfl rfl rfl rfl rfl rfl rfl rfl ?_; exact lx [(27, 28)] hm
     ·refine ag ?_; exact lx [] hm
    refine ⟨_, (lm [(0, 20), (1, 21), (2, 27)] hm : Le _ _ (mkSt [(2, oP 0 0), (3, oP 1 0), (5, MG.one (Cell.own 2))] [(2, ⟨1, List.map eI ([r13, r14] : List Int)⟩)] [(0, (bT_Config g0 g1 g2 g3 a0)), (1, (bT_Accept g4 g5 a1))] 3)), ?_⟩; refine WpC.seq (sr ?_); refine go 2 ?_; refine L.lenR (xs := a1.Via) (e := eI) underlying24 hF rfl rfl rfl rfl ?_; refine gn 1 ?_; refine WpC.block ?_; refine WpC.loopL (P := Tryz.prog) (fun n σ => ∃ (v101 : List Int) (v102 : T_Accept) (v103 v104 : Int) (v105 : T_Config), n ≤ K ∧ I_Concerns.l7 n v101 v102 v103 v104 v105 = some r ∧ σ = mkSt [(2, oP 0 0), (3, oP 1 0), (5, MG.one (Cell.own 2)), (38, MG.one (Cell.sl g5 (List.map eI v102.Via))), (39, oI v103), (40, oI v104)] [(2, ⟨1, List.map eI v101⟩)] [(0, (bT_Config g0 g1 g2 g3 v105)), (1, (bT_Accept g4 g5 v102))] 3) k ⟨_, ⟨([r13, r14] : List Int), a1, (a1.Via.length : Int), 0, a0, by omega, H, rfl⟩, lm [(0, 0), (1, 1), (2, 2)] hm⟩ ?_; clear H
    rintro k7 _ ⟨v101, v102, v103, v104, v105, hk7, H, rfl⟩
    cases k7 with
    | zero => cases H
    | succ k7 =>
     rw [I_Concerns.l7] at H
     refine sg 1 ?_; refine WpC.seq ?_; refine cd H (fun hc H => ?_) (fun hc H => ?_)
     ·refine WpC.skip ?_; refine WpC.join (fun σ => ∃ (kj8 : Nat) (v110 : List Int) (v111 : T_Accept) (v112 v113 : Int) (v114 : T_Config), kj8 ≤ K ∧ I_Concerns.j8 (I_Concerns.l7 k7) kj8 v110 v111 v112 v113 v114 = some r ∧ σ = mkSt [(2, oP 0 0), (3, oP 1 0), (5, MG.one (Cell.own 2)), (38, MG.one (Cell.sl g5 (List.map eI v111.Via))), (39, oI v112), (40, oI v113)] [(2, ⟨1, List.map eI v110⟩)] [(0, (bT_Config g0 g1 g2 g3 v114)), (1, (bT_Accept g4 g5 v111))] 3) ?_ ?_
      ·rintro _ ⟨kj8, v110, v111, v112, v113, v114, hkj8, H, rfl⟩
       unfold I_Concerns.j8 at H; refine WpC.regionL ?_; refine gn 2 ?_; exact ⟨k7, _, by omega, ⟨v110, v111, v112, (IntKind.i64.wrap (v113 + 1)), v114, by omega, H, rfl⟩, lm [(0, 0), (1, 1), (2, 2)] hm⟩
      ·refine WpC.block (sr ?_); obtain ⟨b115, hb115, H⟩ := bindS H; refine ix underlying24 info3 hb115 ?_; refine gn 2 ?_; refine sy 1 ?_; refine cB 3 ent100 (g100 k7  b115) H fun r116 H => L.nil ?_; refine cd H (fun hc H => ?_) (fun hc H => ?_)
       ·refine WpC.regionL ?_; refine go 3 ?_; refine cB 4 ent21 (g21 k7  (IntKind.i64.wrap (3 + b115))) H fun r117 H => ?_; refine L.buildSlice (e := eI) 5 ([r117] : List Int) underlying24 info3 rfl rfl rfl hF rfl rfl rfl rfl rfl rfl rfl rfl ?_; obtain ⟨h118, H⟩ := condG H; refine L.append (xs := v101) (ys := ([r117] : List Int)) (e := eI) 6 underlying24 info3 rfl rfl hF rfl rfl rfl rfl rfl rfl rfl rfl (fun _ => rfl) (fun _ _ h1 h2 => by cases h1; cases h2; rfl) ⟨_, underlying24⟩ (of_decide_eq_true h118) rfl rfl ?_; refine gn 1 ?_; exact ⟨_, ⟨k7, (v101 ++ ([r117] : List Int)), v102, v103, v104, v105, by omega, H, rfl⟩, lm [(0, 0), (1, 1), (2, 6)] hm⟩
       ·refine WpC.skip ?_; exact ⟨_, ⟨k7, v101, v102, v103, v104, v105, by omega, H, rfl⟩, lm [(0, 0), (1, 1), (2, 2)] hm⟩
     ·refine WpC.exit (WpC.seq ?_); obtain ⟨r119, hr119, H⟩ := bindS H; obtain ⟨b120, hb120, H⟩ := bindS H; obtain ⟨h121, H⟩ := condG H; obtain ⟨r122, hr122, H⟩ := bindS H
      refine A.lin (fun β => mkStL [(2, iP 0 0), (3, iP 1 0), (5, ai (MG.one (Cell.own 2))), (8, al (β 15) (MG.one (Cell.own 6))), (53, al (β 0) (agg (bT_Config g0 g1 g2 g3 v105))), (54, lP (β 1) 1 1), (55, al (β 2) (MG.one (cI v102.Client))), (56, lI (β 3) r119), (57, lP (β 4) 0 1), (58, al (β 5) (MG.one (Cell.sl g1 (List.map eI v105.ServiceRealm)))), (59, lP (β 6) 1 0), (60, al (β 7) (MG.one (cI v102.Server))), (61, al (β 8) (MG.one (Cell.pe g1 (eI b120) 0))), (62, lI (β 9) b120), (63, al (β 10) (MG.one (Cell.own 4))), (64, lP (β 11) 1 11), (65, al (β 12) (MG.one (Cell.sl g4 (List.map eI v102.Path)))), (66, al (β 13) (MG.one (Cell.own 5))), (67, al (β 14) (MG.one (Cell.own 6)))] [(2, ai (⟨1, List.map eI v101⟩)), (4, [(β 13, none), (β 10, some (⟨1, List.map eI ([r119, b120] : List Int)⟩))]), (5, [(β 14, none), (β 13, some (⟨1, List.map eI (([r119, b120] : List Int) ++ v102.Path)⟩))]), (6, al (β 14) (⟨1, List.map eI r122⟩))] [(0, ai ((bT_Config g0 g1 g2 g3 v105))), (1, ai ((bT_Accept g4 g5 v102)))] 7) [([], [3, 10, 13, 14, 15]), ([], [2, 3, 10, 13, 14, 15]), ([1], [3, 10, 13, 14, 15]), ([0, 1, 2], [10, 13, 14, 15]), ([], [5, 8, 9, 10, 13, 14, 15]), ([4], [8, 9, 10, 13, 14, 15]), ([], [7, 8, 9, 10, 13, 14, 15]), ([6], [8, 9, 10, 13, 14, 15]), ([4, 5, 6, 7], [9, 10, 13, 14, 15]), ([4, 5, 6, 7, 8], [10, 13, 14, 15]), ([0, 1, 2, 3, 4, 5, 6, 7, 8, 9], [13, 14, 15]), ([], [12, 13, 14, 15]), ([11], [13, 14, 15]), ([0, 1, 2, 3, 4, 5, 6, 7, 8, 9, 10, 11, 12], [14, 15]), ([0, 1, 2, 3, 4, 5, 6, 7, 8, 9, 10, 11, 12, 13], [15]), ([0, 1, 2, 3, 4, 5, 6, 7, 8, 9, 10, 11, 12, 13, 14], [])] 16 mixed rfl (by kernel_rfl) ?_ ?_ ?_
      ·exact Le.lin [] hm rfl (sa (sa2 (kn8 (kn8 kz)))) (ra (kn (kn2 kz))) (ba (ba kz))
      ·repeat' (first | exact trivial | refine ⟨⟨_, rfl, fun β => ?_⟩, ?_⟩ | fail)
       ·refine lp shape27 ?_; exact lx [] hm
       ·refine fa underlying74 info3 ?_; exact lx [] hm
       ·refine lp shape3 ?_; exact lx [] hm
       ·refine c0 7 ent102 (g102 k7 g0 g1 g2 g3 v105 v102.Client r119 hr119) ?_; exact lx [(3, 7)] hm
       ·refine fa underlying27 info24 ?_; exact lx [] hm
       ·refine lp shape24 ?_; exact lx [] hm
       ·refine fa underlying74 info3 ?_; exact lx [] hm
       ·refine lp shape3 ?_; exact lx [] hm
       ·refine ix underlying24 info3 hb120 ?_; exact lx [] hm
       ·refine le shape3 ?_; exact lx [] hm
       ·refine L.buildSlice (e := eI) 7 ([r119, b120] : List Int) underlying24 info3 rfl rfl rfl hF rfl rfl rfl rfl rfl rfl rfl rfl ?_; exact lx [(4, 7)] hm
       ·refine fa underlying74 info24 ?_; exact lx [] hm
       ·refine lp shape24 ?_; exact lx [] hm
       ·refine L.append (xs := ([r119, b120] : List Int)) (ys := v102.Path) (e := eI) 7 underlying24 info3 rfl rfl hF rfl rfl rfl rfl rfl rfl rfl rfl (fun _ => rfl) (fun _ _ h1 h2 => by cases h1; cases h2; rfl) ⟨_, underlying24⟩ (of_decide_eq_true h121) rfl rfl ?_; exact lx [(5, 7)] hm
       ·refine ca [true, false] [] [] 7 ent248 (V_DeleteFunc_int__impl_Concerns_1_gives k7  (([r119, b120] : List Int) ++ v102.Path) r122 hr122) ?_; exact lx [(6, 7)] hm
       ·refine ag ?_; exact lx [] hm
      refine ⟨_, (lm [(0, 2), (1, 6)] hm : Le _ _ (mkSt [(5, MG.one (Cell.own 0)), (8, MG.one (Cell.own 1))] [(0, ⟨1, List.map eI v101⟩), (1, ⟨1, List.map eI r122⟩)] [] 2)), ?_⟩; refine WpC.seq (sr ?_); refine mv ?_; refine L.lenR (xs := r122) (e := eI) underlying24 hF rfl rfl rfl rfl ?_; refine gn 1 ?_; refine WpC.block ?_; refine WpC.loopL (P := Tryz.prog) (fun n σ => ∃ (v727 v728 : List Int) (v729 v730 : Int), n ≤ K ∧ I_Concerns.l50 n v727 v728 v729 v730 = some r ∧ σ = mkSt [(5, MG.one (Cell.own 0)), (8, MG.one (Cell.own 1)), (68, MG.one (Cell.own 1)), (69, oI v729), (70, oI v730)] [(0, ⟨1, List.map eI v727⟩), (1, ⟨1, List.map eI v728⟩)] [] 2) k7 ⟨_, ⟨v101, r122, (r122.length : Int), 0, by omega, H, rfl⟩, lm [(0, 0), (1, 1)] hm⟩ ?_; clear H
      rintro k50 _ ⟨v727, v728, v729, v730, hk50, H, rfl⟩
      cases k50 with
      | zero => cases H
      | succ k50 =>
       rw [I_Concerns.l50] at H
       refine sg 1 ?_; refine WpC.seq ?_; refine cd H (fun hc H => ?_) (fun hc H => ?_)
       ·refine WpC.skip (WpC.seq (WpC.block (sr ?_))); obtain ⟨b792, hb792, H⟩ := bindS H; refine ix underlying24 info3 hb792 ?_; refine L.loadEp (xs := v728) (e := eI) shape3 hF rfl rfl rfl rfl (at?_get hb792).2 rfl rfl ?_; refine gn 1 ?_; refine sy 2 ?_; refine cB 2 ent125 (g125 k50  b792) H fun r793 H => ?_; refine L.buildSlice (e := eI) 3 ([r793] : List Int) underlying24 info3 rfl rfl rfl hF rfl rfl rfl rfl rfl rfl rfl rfl ?_; obtain ⟨h794, H⟩ := condG H; refine L.append (xs := v727) (ys := ([r793] : List Int)) (e := eI) 4 underlying24 info3 rfl rfl hF rfl rfl rfl rfl rfl rfl rfl rfl (fun _ => rfl) (fun _ _ h1 h2 => by cases h1; cases h2; rfl) ⟨_, underlying24⟩ (of_decide_eq_true h794) rfl rfl ?_; refine gn 1 ?_; refine sy 1 ?_; refine L.lenR (xs := v728) (e := eI) underlying24 hF rfl rfl rfl rfl ?_; refine gn 1 ?_; refine WpC.block ?_
        refine WpC.loopL (P := Tryz.prog) (fun n σ => ∃ (v833 v834 : List Int) (v835 v836 v837 v838 v839 : Int), n ≤ K ∧ I_Concerns.l57 (I_Concerns.l50 k50) n v833 v834 v835 v836 v837 v838 v839 = some r ∧ σ = mkSt [(5, MG.one (Cell.own 0)), (8, MG.one (Cell.own 1)), (10, oI v835), (68, MG.one (Cell.own 1)), (69, oI v836), (70, oI v837), (79, MG.one (Cell.own 1)), (80, oI v838), (81, oI v839)] [(0, ⟨1, List.map eI v833⟩), (1, ⟨1, List.map eI v834⟩)] [] 2) k50 ⟨_, ⟨(v727 ++ ([r793] : List Int)), v728, b792, v729, v730, (v728.length : Int), 0, by omega, H, rfl⟩, lm [(0, 4), (1, 1)] hm⟩ ?_; clear H
        rintro k57 _ ⟨v833, v834, v835, v836, v837, v838, v839, hk57, H, rfl⟩
        cases k57 with
        | zero => cases H
        | succ k57 =>
         rw [I_Concerns.l57] at H
         refine sg 1 ?_; refine WpC.seq ?_; refine cd H (fun hc H => ?_) (fun hc H => ?_)
         ·refine WpC.skip ?_; refine WpC.join (fun σ => ∃ (kj58 : Nat) (v843 v844 : List Int) (v845 v846 v847 v848 v849 : Int), kj58 ≤ K ∧ I_Concerns.j58 (I_Concerns.l57 (I_Concerns.l50 k50) k57) kj58 v843 v844 v845 v846 v847 v848 v849 = some r ∧ σ = mkSt [(5, MG.one (Cell.own 0)), (8, MG.one (Cell.own 1)), (10, oI v845), (68, MG.one (Cell.own 1)), (69, oI v846), (70, oI v847), (79, MG.one (Cell.own 1)), (80, oI v848), (81, oI v849)] [(0, ⟨1, List.map eI v843⟩), (1, ⟨1, List.map eI v844⟩)] [] 2) ?_ ?_
          ·rintro _ ⟨kj58, v843, v844, v845, v846, v847, v848, v849, hkj58, H, rfl⟩
           unfold I_Concerns.j58 at H; refine WpC.regionL ?_; refine gn 2 ?_; exact ⟨k57, _, by omega, ⟨v843, v844, v845, v846, v847, v848, (IntKind.i64.wrap (v849 + 1)), by omega, H, rfl⟩, lm [(0, 0), (1, 1)] hm⟩
          ·refine WpC.block (sr ?_); obtain ⟨b850, hb850, H⟩ := bindS H; refine ix underlying24 info3 hb850 ?_; refine L.loadEp (xs := v834) (e := eI) shape3 hF rfl rfl rfl rfl (at?_get hb850).2 rfl rfl ?_; refine gn 1 ?_; refine sg 3 ?_; refine cd H (fun hc H => ?_) (fun hc H => ?_)
           ·refine WpC.regionL ?_; refine go 3 ?_; refine cB 2 ent126 (g126 k57  v835 b850) H fun r851 H => ?_; refine L.buildSlice (e := eI) 3 ([r851] : List Int) underlying24 info3 rfl rfl rfl hF rfl rfl rfl rfl rfl rfl rfl rfl ?_; obtain ⟨h852, H⟩ := condG H; refine L.append (xs := v833) (ys := ([r851] : List Int)) (e := eI) 4 underlying24 info3 rfl rfl hF rfl rfl rfl rfl rfl rfl rfl rfl (fun _ => rfl) (fun _ _ h1 h2 => by cases h1; cases h2; rfl) ⟨_, underlying24⟩ (of_decide_eq_true h852) rfl rfl ?_; refine gn 1 ?_; exact ⟨_, ⟨k57, (v833 ++ ([r851] : List Int)), v834, v835, v836, v837, v838, v839, by omega, H, rfl⟩, lm [(0, 4), (1, 1)] hm⟩
           ·refine WpC.skip ?_; exact ⟨_, ⟨k57, v833, v834, v835, v836, v837, v838, v839, by omega, H, rfl⟩, lm [(0, 0), (1, 1)] hm⟩
         ·refine WpC.exit (WpC.regionL ?_); refine gn 2 ?_; exact ⟨k50, _, by omega, ⟨v833, v834, v836, (IntKind.i64.wrap (v837 + 1)), by omega, H, rfl⟩, lm [(0, 0), (1, 1)] hm⟩
       ·refine WpC.exit (sr ?_); refine mv ?_; obtain ⟨r853, hr853, H⟩ := bindS H; refine ca [true] [] [] 2 ent124 (g124 k50  v727 r853 hr853) ?_; refine gn 1 ?_; cases H; exact WpC.ret rt
/-! ### V_Index_int -/
def V_Index_int.l2 : Nat → (List Int) → Int → Int → Int → Option Int
 | 0, _, _, _, _ => none
 | k2 + 1, v29, v30, v31, v32 => cond (decide (v32 < v31)) ((at? v29 v32).bind fun b34 => cond (v30 == b34) (some v32) ((V_Index_int.l2 k2) v29 v30 v31 (IntKind.i64.wrap (v32 + 1)))) (some (-1))
def V_Index_int (k : Nat) (a0 : List Int) (a1 : Int) : Option Int := V_Index_int.l2 k a0 a1 (a0.length : Int) 0
theorem ent153 : MG.Enters Tryz.prog 153 := en func153
theorem g153 (k : Nat) (g0 : Bool) (a0 : List Int) (a1 r : Int) (H : V_Index_int k a0 a1 = some r) : Gives Tryz.prog 153 [V.one (Cell.sl g0 (List.map eI a0)), V.one (cI a1)] [] [V.one (cI r)] [] := by
 refine Gives.intro func153 rfl rfl rfl rfl ?_; refine fx fun w0 T S0 ob oh hm => ?_
 have hF := fxe w0 T S0 19 ob oh
 unfold V_Index_int at H; obtain ⟨K, hK⟩ := leK k; refine sg 1 ?_; refine WpC.seq (sr ?_); refine mv ?_; refine L.lenR (xs := a0) (e := eI) underlying24 hF rfl rfl rfl rfl ?_; refine gn 1 ?_; refine WpC.block ?_; refine WpC.loopL (P := Tryz.prog) (fun n σ => ∃ (v29 : List Int) (v30 v31 v32 : Int), n ≤ K ∧ V_Index_int.l2 n v29 v30 v31 v32 = some r ∧ σ = mkSt [(0, MG.one (Cell.sl g0 (List.map eI v29))), (1, oI v30), (7, oI v31), (8, oI v32)] [] [] 0) k ⟨_, ⟨a0, a1, (a0.length : Int), 0, by omega, H, rfl⟩, lm [] hm⟩ ?_; clear H
 rintro k2 _ ⟨v29, v30, v31, v32, hk2, H, rfl⟩
 cases k2 with
 | zero => cases H
 | succ k2 =>
  rw [V_Index_int.l2] at H
  refine sg 1 ?_; refine WpC.seq ?_; refine cd H (fun hc H => ?_) (fun hc H => ?_)
  ·refine WpC.skip (WpC.seq (WpC.block (sr ?_))); refine gn 2 ?_; refine sy 3 ?_; obtain ⟨b34, hb34, H⟩ := bindS H; refine ix underlying24 info3 hb34 ?_; refine gn 2 ?_; refine cd H (fun hc H => ?_) (fun hc H => ?_)
   ·refine sg 2 ?_; cases H; exact WpC.ret rt
   ·refine WpC.skip (WpC.regionL ?_); refine gn 2 ?_; exact ⟨k2, _, by omega, ⟨v29, v30, v31, (IntKind.i64.wrap (v32 + 1)), by omega, H, rfl⟩, lm [] hm⟩
  ·refine WpC.exit (sr ?_); refine gn 1 ?_; cases H; exact WpC.ret rt
/-! ### V_Contains_int -/
def V_Contains_int (k : Nat) (a0 : List Int) (a1 : Int) : Option Bool := (V_Index_int k a0 a1).bind fun r1 => some (decide (r1 ≥ 0))
theorem ent65 : MG.Enters Tryz.prog 65 := en func65
theorem g65 (k : Nat) (g0 : Bool) (a0 : List Int) (a1 : Int) (r : Bool) (H : V_Contains_int k a0 a1 = some r) : Gives Tryz.prog 65 [V.one (Cell.sl g0 (List.map eI a0)), V.one (cI a1)] [] [V.one (cL r)] [] := by
 refine Gives.intro func65 rfl rfl rfl rfl ?_; refine fx fun w0 T S0 ob oh hm => ?_
 have hF := fxe w0 T S0 9 ob oh
 unfold V_Contains_int at H; obtain ⟨K, hK⟩ := leK k; refine sg 1 ?_; refine sy 2 ?_; refine cB 2 ent153 (g153 k g0 a0 a1) H fun r1 H => ?_; refine gn 2 ?_; cases H; exact WpC.ret rt
/-! ### I_honest_1 -/
def I_honest_1 (k : Nat) (a0 : Int) (o0 : List Int) : Option Bool := (V_Contains_int k o0 a0).bind fun r1 => some r1
theorem ent178 : MG.Enters Tryz.prog 178 := en func178
theorem g178 (k : Nat) (a0 : Int) (o0 : List Int) (r : Bool) (H : I_honest_1 k a0 o0 = some r) : Gives Tryz.prog 178 [V.one (cI a0), V.one (Cell.ptr 0 0)] [[Cell.sl true (List.map eI o0)]] [V.one (cL r)] [[Cell.sl true (List.map eI o0)]] := by
 refine Gives.intro func178 rfl rfl rfl rfl ?_; refine fx fun w0 T S0 ob oh hm => ?_
 have hF := fxe w0 T S0 7 ob oh
 unfold I_honest_1 at H; obtain ⟨K, hK⟩ := leK k; refine sg 1 ?_; refine sy 2 ?_; refine cB 4 ent65 (g65 k true o0 a0) H fun r1 H => ?_; refine gn 1 ?_; cases H; exact WpC.ret rt
/-! ### V_IndexFunc_int__impl_honest_1 -/
def V_IndexFunc_int__impl_honest_1.l2 : Nat → (List Int) → Int → Int → (List Int) → Option (Int × List Int)
 | 0, _, _, _, _ => none
 | k2 + 1, v39, v40, v41, v42 => cond (decide (v41 < v40)) ((at? v39 v41).bind fun b45 => (I_honest_1 k2 b45 v42).bind fun r46 => cond r46 (some (v41, v42)) ((V_IndexFunc_int__impl_honest_1.l2 k2) v39 v40 (IntKind.i64.wrap (v41 + 1)) v42)) (some ((-1), v42))
def V_IndexFunc_int__impl_honest_1 (k : Nat) (a0 o0 : List Int) : Option (Int × List Int) := V_IndexFunc_int__impl_honest_1.l2 k a0 (a0.length : Int) 0 o0
theorem ent196 : MG.Enters Tryz.prog 196 := en func196
theorem g196 (k : Nat) (g0 : Bool) (a0 o0 : List Int) (r : Int × List Int) (H : V_IndexFunc_int__impl_honest_1 k a0 o0 = some r) : Gives Tryz.prog 196 [V.one (Cell.sl g0 (List.map eI a0)), V.one (Cell.clo 178 [Cell.ptr 0 0])] [[Cell.sl true (List.map eI o0)]] [V.one (cI r.1)] [[Cell.sl true (List.map eI r.2)]] := by
 refine Gives.intro func196 rfl rfl rfl rfl ?_; refine fx fun w0 T S0 ob oh hm => ?_
 have hF := fxe w0 T S0 19 ob oh
 unfold V_IndexFunc_int__impl_honest_1 at H; obtain ⟨K, hK⟩ := leK k; refine sg 1 ?_; refine WpC.seq (sr ?_); refine mv ?_; refine L.lenR (xs := a0) (e := eI) underlying24 hF rfl rfl rfl rfl ?_; refine gn 1 ?_; refine WpC.block ?_; refine WpC.loopL (P := Tryz.prog) (fun n σ => ∃ (v39 : List Int) (v40 v41 : Int) (v42 : List Int), n ≤ K ∧ V_IndexFunc_int__impl_honest_1.l2 n v39 v40 v41 v42 = some r ∧ σ = mkSt [(0, MG.one (Cell.sl g0 (List.map eI v39))), (1, MG.one (Cell.clo 178 [Cell.ptr 0 0])), (7, oI v40), (8, oI v41)] [] [(0, [Cell.sl true (List.map eI v42)])] 1) k ⟨_, ⟨a0, (a0.length : Int), 0, o0, by omega, H, rfl⟩, lm [(0, 0)] hm⟩ ?_; clear H
 rintro k2 _ ⟨v39, v40, v41, v42, hk2, H, rfl⟩
 cases k2 with
 | zero => cases H
 | succ k2 =>
  rw [V_IndexFunc_int__impl_honest_1.l2] at H
  refine sg 1 ?_; refine WpC.seq ?_; refine cd H (fun hc H => ?_) (fun hc H => ?_)
  ·refine WpC.skip (WpC.seq (WpC.block (sr ?_))); refine gn 2 ?_; refine sy 3 ?_; obtain ⟨b45, hb45, H⟩ := bindS H; refine ix underlying24 info3 hb45 ?_; refine le shape3 ?_; obtain ⟨r46, hr46, H⟩ := bindS H; refine ca [false] [] [0] 1 ent178 (g178 k2  b45 v42 r46 hr46) (L.nil ?_); refine cd H (fun hc H => ?_) (fun hc H => ?_)
   ·refine sg 2 ?_; cases H; exact WpC.ret rt
   ·refine WpC.skip (WpC.regionL ?_); refine gn 2 ?_; exact ⟨k2, _, by omega, ⟨v39, v40, (IntKind.i64.wrap (v41 + 1)), v42, by omega, H, rfl⟩, lm [(0, 0)] hm⟩
  ·refine WpC.exit (sr ?_); refine gn 1 ?_; cases H; exact WpC.ret rt
/-! ### V_ContainsFunc_int__impl_honest_1 -/
def V_ContainsFunc_int__impl_honest_1 (k : Nat) (a0 o0 : List Int) : Option (Bool × List Int) := (V_IndexFunc_int__impl_honest_1 k a0 o0).bind fun r1 => some ((decide (r1.1 ≥ 0)), r1.2)
theorem ent115 : MG.Enters Tryz.prog 115 := en func115
theorem g115 (k : Nat) (g0 : Bool) (a0 o0 : List Int) (r : Bool × List Int) (H : V_ContainsFunc_int__impl_honest_1 k a0 o0 = some r) : Gives Tryz.prog 115 [V.one (Cell.sl g0 (List.map eI a0)), V.one (Cell.clo 178 [Cell.ptr 0 0])] [[Cell.sl true (List.map eI o0)]] [V.one (cL r.1)] [[Cell.sl true (List.map eI r.2)]] := by
 refine Gives.intro func115 rfl rfl rfl rfl ?_; refine fx fun w0 T S0 ob oh hm => ?_
 have hF := fxe w0 T S0 9 ob oh
 unfold V_ContainsFunc_int__impl_honest_1 at H; obtain ⟨K, hK⟩ := leK k; refine sg 1 ?_; refine sy 2 ?_; obtain ⟨r1, hr1, H⟩ := bindS H; refine ca [false, false] [] [0] 4 ent196 (g196 k g0 a0 o0 r1 hr1) ?_; refine gn 2 ?_; cases H; exact WpC.ret rt
/-! ### I_honest -/
def I_honest (k : Nat) (a0 : T_World) (a1 : T_Accept) : Option Bool := (part? a0.Leaked 0 a1.Leaks).bind fun b1 => (I_Concerns k a0.Config a1).bind fun r2 => (V_ContainsFunc_int__impl_honest_1 k r2 b1).bind fun r3 => some (!r3.1)
theorem ent89 : MG.Enters Tryz.prog 89 := en func89
theorem g89 (k : Nat) (g0 g1 g2 g3 g4 g5 g6 g7 g8 g9 g10 g11 g12 g13 : Bool) (a0 : T_World) (a1 : T_Accept) (r : Bool) (H : I_honest k a0 a1 = some r) : Gives Tryz.prog 89 [V.agg (bT_World g0 g1 g2 g3 g4 g5 g6 g7 g8 g9 g10 g11 true a0), V.agg (bT_Accept g12 g13 a1)] [] [V.one (cL r)] [] := by
 refine Gives.intro func89 rfl rfl rfl rfl ?_; refine fx fun w0 T S0 ob oh hm => ?_
 have hF := fxe w0 T S0 18 ob oh
 unfold I_honest at H; obtain ⟨K, hK⟩ := leK k; refine sr ?_; refine bo 31 ?_; refine bo 32 ?_; refine gn 1 ?_; refine sy 4 ?_; obtain ⟨b1, hb1, H⟩ := bindS H; refine L.cutR (xs := a0.Leaked) (ys := b1) (e := eI) underlying24 info3 hF rfl rfl rfl rfl rfl hb1 (fun _ => rfl) ?_; refine alc 33 info24 ?_; refine gn 1 ?_; refine sy 3 ?_; refine cB 34 ent177 (g177 k g0 g1 g2 g3 g12 g13 a0.Config a1) H fun r2 H => ?_; refine L.makeFunc hF rfl rfl rfl ?_; obtain ⟨r3, hr3, H⟩ := bindS H; refine ca [false, false] [34] [33] 35 ent115 (g115 k false r2 b1 r3 hr3) ?_; refine gn 2 ?_; cases H; exact WpC.ret rt
/-! ### I_Entails -/
def I_Entails (k : Nat) (a0 a1 : T_Rest) : Option Bool := (I_RestOk k a0).bind fun r3 => cond r3 ((I_RestOk k a1).bind fun r4 => cond r4 (cond ((Go.bits .and .i64 a0.Servers a1.Servers) == a0.Servers) (cond ((Go.bits .and .i64 a0.Ops a1.Ops) == a0.Ops) (some (decide (a0.End ≤ a1.End))) (some false)) (some false)) (some false)) (some false)
theorem ent110 : MG.Enters Tryz.prog 110 := en func110
theorem g110 (k : Nat) (a0 a1 : T_Rest) (r : Bool) (H : I_Entails k a0 a1 = some r) : Gives Tryz.prog 110 [V.agg (bT_Rest a0), V.agg (bT_Rest a1)] [] [V.one (cL r)] [] := by
 refine Gives.intro func110 rfl rfl rfl rfl ?_; refine fx fun w0 T S0 ob oh hm => ?_
 have hF := fxe w0 T S0 38 ob oh
 unfold I_Entails at H; obtain ⟨K, hK⟩ := leK k; refine sr ?_; refine bo 6 ?_; refine bo 7 ?_; refine gn 1 ?_; refine sy 1 ?_; refine cB 8 ent101 (g101 k  a0) H fun r3 H => ?_; refine mv ?_; refine sH H (fun hc H => ?_) (fun hc H => ?_)
 ·refine lp shape29 ?_; refine cB 9 ent101 (g101 k  a1) H fun r4 H => ?_; refine go 2 ?_; refine sH H (fun hc H => ?_) (fun hc H => ?_)
  ·refine go 10 ?_; refine sH H (fun hc H => ?_) (fun hc H => ?_)
   ·refine go 10 ?_; refine sH H (fun hc H => ?_) (fun hc H => ?_)
    ·refine gn 7 ?_; cases H; exact WpC.ret rt
    ·refine gn 7 ?_; cases H; exact WpC.ret rt
   ·refine gn 17 ?_; cases H; exact WpC.ret rt
  ·refine gn 27 ?_; cases H; exact WpC.ret rt
 ·refine gn 31 ?_; cases H; exact WpC.ret rt
/-! ### I_Permits -/
def I_Permits (k : Nat) (a0 : T_Rest) (a1 a2 a3 : Int) : Option Bool := (I_RestOk k a0).bind fun r7 => cond r7 ((I_within k a1 0 2).bind fun r8 => cond r8 ((I_within k a2 0 7).bind fun r9 => cond r9 (cond (!(decide (a1 < 0))) (cond ((Go.bits .and .i64 (shrI .i64 a0.Servers a1) 1) == 1) (cond (!(decide (a2 < 0))) (cond ((Go.bits .and .i64 (shrI .i64 a0.Ops a2) 1) == 1) ((I_within k a3 0 a0.End).bind fun r12 => some r12) (some false)) none) (some false)) none) (some false)) (some false)) (some false)
theorem ent111 : MG.Enters Tryz.prog 111 := en func111
theorem g111 (k : Nat) (a0 : T_Rest) (a1 a2 a3 : Int) (r : Bool) (H : I_Permits k a0 a1 a2 a3 = some r) : Gives Tryz.prog 111 [V.agg (bT_Rest a0), V.one (cI a1), V.one (cI a2), V.one (cI a3)] [] [V.one (cL r)] [] := by
 refine Gives.intro func111 rfl rfl rfl rfl ?_; refine fx fun w0 T S0 ob oh hm => ?_
 have hF := fxe w0 T S0 41 ob oh
 unfold I_Permits at H; obtain ⟨K, hK⟩ := leK k; refine sr ?_; refine bo 6 ?_; refine gn 1 ?_; refine sy 1 ?_; refine cB 7 ent101 (g101 k  a0) H fun r7 H => ?_; refine mv ?_; refine sH H (fun hc H => ?_) (fun hc H => ?_)
 ·refine mv ?_; refine cB 8 ent66 (g66 k  a1 0 2) H fun r8 H => ?_; refine go 2 ?_; refine sH H (fun hc H => ?_) (fun hc H => ?_)
  ·refine mv ?_; refine cB 9 ent66 (g66 k  a2 0 7) H fun r9 H => ?_; refine go 2 ?_; refine sH H (fun hc H => ?_) (fun hc H => ?_)
   ·refine go 3 ?_; obtain ⟨h10, H⟩ := condG H; refine L.shr hF rfl rfl rfl rfl (by simpa using h10) ?_; refine go 4 ?_; refine sH H (fun hc H => ?_) (fun hc H => ?_)
    ·refine go 3 ?_; obtain ⟨h11, H⟩ := condG H; refine L.shr hF rfl rfl rfl rfl (by simpa using h11) ?_; refine go 4 ?_; refine sH H (fun hc H => ?_) (fun hc H => ?_)
     ·refine go 3 ?_; refine cB 10 ent66 (g66 k  a3 0 a0.End) H fun r12 H => ?_; refine gn 2 ?_; cases H; exact WpC.ret rt
     ·refine gn 6 ?_; cases H; exact WpC.ret rt
    ·refine gn 14 ?_; cases H; exact WpC.ret rt
   ·refine gn 22 ?_; cases H; exact WpC.ret rt
  ·refine gn 26 ?_; cases H; exact WpC.ret rt
 ·refine gn 30 ?_; cases H; exact WpC.ret rt
/-! ### I_Narrow_1_1 -/
def I_Narrow_1_1 (k : Nat) (a0 : T_Event) (o0 : T_Accept) : Option Bool := (I_Entails k o0.Rest a0.Rest).bind fun r3 => cond (!r3) (some true) ((I_Permits k a0.Rest o0.Server o0.Op o0.Now).bind fun r4 => some (!r4))
theorem ent109 : MG.Enters Tryz.prog 109 := en func109
theorem g109 (k : Nat) (a0 : T_Event) (o0 : T_Accept) (r : Bool) (H : I_Narrow_1_1 k a0 o0 = some r) : Gives Tryz.prog 109 [V.agg (bT_Event a0), V.one (Cell.ptr 0 0)] [[cI o0.Server, cI o0.Client, cI o0.Key, cI o0.Op, cI o0.Now, cI o0.Auth.Client, cI o0.Auth.Time, cI o0.Auth.Seq, cI o0.Rest.Servers, cI o0.Rest.Ops, cI o0.Rest.End, Cell.sl true (List.map eI o0.Path), Cell.sl true (List.map eI o0.Via), cI o0.Leaks, cS o0.Ticket]] [V.one (cL r)] [[cI o0.Server, cI o0.Client, cI o0.Key, cI o0.Op, cI o0.Now, cI o0.Auth.Client, cI o0.Auth.Time, cI o0.Auth.Seq, cI o0.Rest.Servers, cI o0.Rest.Ops, cI o0.Rest.End, Cell.sl true (List.map eI o0.Path), Cell.sl true (List.map eI o0.Via), cI o0.Leaks, cS o0.Ticket]] := by
 refine Gives.intro func109 rfl rfl rfl rfl ?_; refine fx fun w0 T S0 ob oh hm => ?_
 have hF := fxe w0 T S0 22 ob oh
 unfold I_Narrow_1_1 at H; obtain ⟨K, hK⟩ := leK k; refine sr ?_; refine bo 28 ?_; refine gn 1 ?_; refine sy 4 ?_; refine cB 29 ent110 (g110 k  o0.Rest a0.Rest) H fun r3 H => ?_; refine go 2 ?_; refine sH H (fun hc H => ?_) (fun hc H => ?_)
 ·refine gn 12 ?_; cases H; exact WpC.ret rt
 ·refine go 8 ?_; refine cB 30 ent111 (g111 k  a0.Rest o0.Server o0.Op o0.Now) H fun r4 H => ?_; refine gn 3 ?_; cases H; exact WpC.ret rt
/-! ### V_IndexFunc_Event__impl_Narrow_1_1 -/
def V_IndexFunc_Event__impl_Narrow_1_1.l2 : Nat → (List T_Event) → Int → Int → T_Accept → Option (Int × T_Accept)
 | 0, _, _, _, _ => none
 | k2 + 1, v39, v40, v41, v42 => cond (decide (v41 < v40)) ((at? v39 v41).bind fun b45 => (I_Narrow_1_1 k2 b45 v42).bind fun r46 => cond r46 (some (v41, v42)) ((V_IndexFunc_Event__impl_Narrow_1_1.l2 k2) v39 v40 (IntKind.i64.wrap (v41 + 1)) v42)) (some ((-1), v42))
def V_IndexFunc_Event__impl_Narrow_1_1 (k : Nat) (a0 : List T_Event) (o0 : T_Accept) : Option (Int × T_Accept) := V_IndexFunc_Event__impl_Narrow_1_1.l2 k a0 (a0.length : Int) 0 o0
theorem V_IndexFunc_Event__impl_Narrow_1_1_gives (k : Nat) (g0 : Bool) (a0 : List T_Event) (o0 : T_Accept) (r : Int × T_Accept) (H : V_IndexFunc_Event__impl_Narrow_1_1 k a0 o0 = some r) : Gives Tryz.prog 58 [V.one (Cell.sl g0 (List.map eT_Event a0)), V.one (Cell.clo 109 [Cell.ptr 0 0])] [[cI o0.Server, cI o0.Client, cI o0.Key, cI o0.Op, cI o0.Now, cI o0.Auth.Client, cI o0.Auth.Time, cI o0.Auth.Seq, cI o0.Rest.Servers, cI o0.Rest.Ops, cI o0.Rest.End, Cell.sl true (List.map eI o0.Path), Cell.sl true (List.map eI o0.Via), cI o0.Leaks, cS o0.Ticket]] [V.one (cI r.1)] [[cI r.2.Server, cI r.2.Client, cI r.2.Key, cI r.2.Op, cI r.2.Now, cI r.2.Auth.Client, cI r.2.Auth.Time, cI r.2.Auth.Seq, cI r.2.Rest.Servers, cI r.2.Rest.Ops, cI r.2.Rest.End, Cell.sl true (List.map eI r.2.Path), Cell.sl true (List.map eI r.2.Via), cI r.2.Leaks, cS r.2.Ticket]] := by
 refine Gives.intro func58 rfl rfl rfl rfl ?_; refine fx fun w0 T S0 ob oh hm => ?_
 have hF := fxe w0 T S0 19 ob oh
 unfold V_IndexFunc_Event__impl_Narrow_1_1 at H; obtain ⟨K, hK⟩ := leK k; refine sg 1 ?_; refine WpC.seq (sr ?_); refine mv ?_; refine L.lenR (xs := a0) (e := eT_Event) underlying40 hF rfl rfl rfl rfl ?_; refine gn 1 ?_; refine WpC.block ?_; refine WpC.loopL (P := Tryz.prog) (fun n σ => ∃ (v39 : List T_Event) (v40 v41 : Int) (v42 : T_Accept), n ≤ K ∧ V_IndexFunc_Event__impl_Narrow_1_1.l2 n v39 v40 v41 v42 = some r ∧ σ = mkSt [(0, MG.one (Cell.sl g0 (List.map eT_Event v39))), (1, MG.one (Cell.clo 109 [Cell.ptr 0 0])), (7, oI v40), (8, oI v41)] [] [(0, (bT_Accept true true v42))] 1) k ⟨_, ⟨a0, (a0.length : Int), 0, o0, by omega, H, rfl⟩, lm [(0, 0)] hm⟩ ?_; clear H
 rintro k2 _ ⟨v39, v40, v41, v42, hk2, H, rfl⟩
 cases k2 with
 | zero => cases H
 | succ k2 =>
  rw [V_IndexFunc_Event__impl_Narrow_1_1.l2] at H
  refine sg 1 ?_; refine WpC.seq ?_; refine cd H (fun hc H => ?_) (fun hc H => ?_)
  ·refine WpC.skip (WpC.seq (WpC.block (sr ?_))); refine gn 2 ?_; refine sy 3 ?_; obtain ⟨b45, hb45, H⟩ := bindS H; refine ix underlying40 info47 hb45 ?_; refine le shape47 ?_; obtain ⟨r46, hr46, H⟩ := bindS H; refine ca [false] [] [0] 1 ent109 (g109 k2  b45 v42 r46 hr46) (L.nil ?_); refine cd H (fun hc H => ?_) (fun hc H => ?_)
   ·refine sg 2 ?_; cases H; exact WpC.ret rt
   ·refine WpC.skip (WpC.regionL ?_); refine gn 2 ?_; exact ⟨k2, _, by omega, ⟨v39, v40, (IntKind.i64.wrap (v41 + 1)), v42, by omega, H, rfl⟩, lm [(0, 0)] hm⟩
  ·refine WpC.exit (sr ?_); refine gn 1 ?_; cases H; exact WpC.ret rt
/-! ### V_ContainsFunc_Event__impl_Narrow_1_1 -/
def V_ContainsFunc_Event__impl_Narrow_1_1 (k : Nat) (a0 : List T_Event) (o0 : T_Accept) : Option (Bool × T_Accept) := (V_IndexFunc_Event__impl_Narrow_1_1 k a0 o0).bind fun r1 => some ((decide (r1.1 ≥ 0)), r1.2)
theorem ent108 : MG.Enters Tryz.prog 108 := en func108
theorem g108 (k : Nat) (g0 : Bool) (a0 : List T_Event) (o0 : T_Accept) (r : Bool × T_Accept) (H : V_ContainsFunc_Event__impl_Narrow_1_1 k a0 o0 = some r) : Gives Tryz.prog 108 [V.one (Cell.sl g0 (List.map eT_Event a0)), V.one (Cell.clo 109 [Cell.ptr 0 0])] [[cI o0.Server, cI o0.Client, cI o0.Key, cI o0.Op, cI o0.Now, cI o0.Auth.Client, cI o0.Auth.Time, cI o0.Auth.Seq, cI o0.Rest.Servers, cI o0.Rest.Ops, cI o0.Rest.End, Cell.sl true (List.map eI o0.Path), Cell.sl true (List.map eI o0.Via), cI o0.Leaks, cS o0.Ticket]] [V.one (cL r.1)] [[cI r.2.Server, cI r.2.Client, cI r.2.Key, cI r.2.Op, cI r.2.Now, cI r.2.Auth.Client, cI r.2.Auth.Time, cI r.2.Auth.Seq, cI r.2.Rest.Servers, cI r.2.Rest.Ops, cI r.2.Rest.End, Cell.sl true (List.map eI r.2.Path), Cell.sl true (List.map eI r.2.Via), cI r.2.Leaks, cS r.2.Ticket]] := by
 refine Gives.intro func108 rfl rfl rfl rfl ?_; refine fx fun w0 T S0 ob oh hm => ?_
 have hF := fxe w0 T S0 9 ob oh
 unfold V_ContainsFunc_Event__impl_Narrow_1_1 at H; obtain ⟨K, hK⟩ := leK k; refine sg 1 ?_; refine sy 2 ?_; obtain ⟨r1, hr1, H⟩ := bindS H; refine ca [false, false] [] [0] 18 ent58 (V_IndexFunc_Event__impl_Narrow_1_1_gives k g0 a0 o0 r1 hr1) ?_; refine gn 2 ?_; cases H; exact WpC.ret rt
/-! ### I_Narrow_1 -/
def I_Narrow_1 (k : Nat) (a0 : T_Accept) (a1 : List T_Event) : Option Bool := (V_ContainsFunc_Event__impl_Narrow_1_1 k a1 a0).bind fun r1 => some (!r1.1)
theorem ent107 : MG.Enters Tryz.prog 107 := en func107
theorem g107 (k : Nat) (g0 : Bool) (a0 : T_Accept) (a1 : List T_Event) (r : Bool) (H : I_Narrow_1 k a0 a1 = some r) : Gives Tryz.prog 107 [V.agg (bT_Accept true true a0), V.one (Cell.sl g0 (List.map eT_Event a1))] [] [V.one (cL r)] [] := by
 refine Gives.intro func107 rfl rfl rfl rfl ?_; refine fx fun w0 T S0 ob oh hm => ?_
 have hF := fxe w0 T S0 9 ob oh
 unfold I_Narrow_1 at H; obtain ⟨K, hK⟩ := leK k; refine sr ?_; refine bo 16 ?_; refine gn 1 ?_; refine sy 1 ?_; refine L.makeFunc hF rfl rfl rfl ?_; obtain ⟨r1, hr1, H⟩ := bindS H; refine ca [false, false] [] [16] 17 ent108 (g108 k g0 a1 a0 r1 hr1) ?_; refine gn 2 ?_; cases H; exact WpC.ret rt
/-! ### I_eachHonest__impl_Narrow_1 -/
def I_eachHonest__impl_Narrow_1.j30 (cl27 : T_World → Int → Int → Option Bool) (k : Nat) (v987 : T_World) (v988 v989 : Int) : Option Bool := cl27 v987 v988 (IntKind.i64.wrap (v989 + 1))
def I_eachHonest__impl_Narrow_1.l32 (cl27 : T_World → Int → Int → Option Bool) : Nat → (List T_Event) → T_World → Int → Int → (List Int) → Int → Int → T_Accept → Option Bool
 | 0, _, _, _, _, _, _, _, _ => none
 | k32 + 1, v1061, v1062, v1063, v1064, v1065, v1066, v1067, v1068 => cond (decide (v1067 < v1066)) ((at? v1065 v1067).bind fun b1072 => (at? v1062.Log b1072).bind fun b1073 => cond (decide ((2 * (v1061.length + ([b1073] : List T_Event).length) + 192) * 88 ≤ 281474976710656)) ((I_eachHonest__impl_Narrow_1.l32 cl27 k32) (v1061 ++ ([b1073] : List T_Event)) v1062 v1063 v1064 v1065 v1066 (IntKind.i64.wrap (v1067 + 1)) v1068) none) ((I_honest k32 v1062 v1068).bind fun r1077 => cond r1077 ((I_Narrow_1 k32 v1068 v1061).bind fun r1078 => cond (!r1078) (some false) (I_eachHonest__impl_Narrow_1.j30 cl27 k32 v1062 v1063 v1064)) (I_eachHonest__impl_Narrow_1.j30 cl27 k32 v1062 v1063 v1064))
def I_eachHonest__impl_Narrow_1.l27 : Nat → T_World → Int → Int → Option Bool
 | 0, _, _, _ => none
 | k27 + 1, v895, v896, v897 => cond (decide (v897 < v896)) ((at? v895.Accepts v897).bind fun b990 => (I_Chain k27 v895.Log b990.Key).bind fun r1033 => I_eachHonest__impl_Narrow_1.l32 (I_eachHonest__impl_Narrow_1.l27 k27) k27 ([] : List T_Event) v895 v896 v897 r1033 (r1033.length : Int) 0 b990) (some true)
def I_eachHonest__impl_Narrow_1 (k : Nat) (a0 : T_World) : Option Bool := (I_WorldOk k a0).bind fun r2 => cond (!r2) (some false) (I_eachHonest__impl_Narrow_1.l27 k a0 (a0.Accepts.length : Int) 0)
theorem ent105 : MG.Enters Tryz.prog 105 := en func105
theorem g105 (k : Nat) (g0 g1 g2 g3 g4 g5 g6 g7 g8 g9 g10 : Bool) (a0 : T_World) (r : Bool) (H : I_eachHonest__impl_Narrow_1 k a0 = some r) : Gives Tryz.prog 105 [V.agg (bT_World g0 g1 g2 g3 g4 g5 g6 g7 g8 g9 g10 true true a0), V.one (Cell.clo 107 [])] [] [V.one (cL r)] [] := by
 refine Gives.intro func105 rfl rfl rfl rfl ?_; refine fx fun w0 T S0 ob oh hm => ?_
 have hF := fxe w0 T S0 51 ob oh
 unfold I_eachHonest__impl_Narrow_1 at H; obtain ⟨K, hK⟩ := leK k; refine sr ?_; refine bo 17 ?_; refine gn 1 ?_; refine WpC.seq (sr ?_); refine lp shape43 ?_; refine cB 18 ent88 (g88 k g0 g1 g2 g3 g4 g5 g6 g7 g8 g9 g10 true true a0) H fun r2 H => ?_; refine gn 1 ?_; refine cd H (fun hc H => ?_) (fun hc H => ?_)
 ·refine sg 1 ?_; cases H; exact WpC.ret rt
 ·refine WpC.skip (WpC.seq (sr ?_)); refine go 2 ?_; refine L.lenR (xs := a0.Accepts) (e := eT_Accept) underlying41 hF rfl rfl rfl rfl ?_; refine gn 1 ?_; refine WpC.block ?_; refine WpC.loopL (P := Tryz.prog) (fun n σ => ∃ (v895 : T_World) (v896 v897 : Int), n ≤ K ∧ I_eachHonest__impl_Narrow_1.l27 n v895 v896 v897 = some r ∧ σ = mkSt [(1, MG.one (Cell.clo 107 [])), (2, oP 0 0), (14, MG.one (Cell.sl true (List.map eT_Accept v895.Accepts))), (15, oI v896), (16, oI v897)] [] [(0, (bT_World g0 g1 g2 g3 g4 g5 g6 g7 g8 g9 g10 true true v895))] 1) k ⟨_, ⟨a0, (a0.Accepts.length : Int), 0, by omega, H, rfl⟩, lm [(0, 17)] hm⟩ ?_; clear H
  rintro k27 _ ⟨v895, v896, v897, hk27, H, rfl⟩
  cases k27 with
  | zero => cases H
  | succ k27 =>
   rw [I_eachHonest__impl_Narrow_1.l27] at H
   refine sg 1 ?_; refine WpC.seq ?_; refine cd H (fun hc H => ?_) (fun hc H => ?_)
   ·refine WpC.skip ?_; refine WpC.join (fun σ => ∃ (kj30 : Nat) (v987 : T_World) (v988 v989 : Int), kj30 ≤ K ∧ I_eachHonest__impl_Narrow_1.j30 (I_eachHonest__impl_Narrow_1.l27 k27) kj30 v987 v988 v989 = some r ∧ σ = mkSt [(1, MG.one (Cell.clo 107 [])), (2, oP 0 0), (14, MG.one (Cell.sl true (List.map eT_Accept v987.Accepts))), (15, oI v988), (16, oI v989)] [] [(0, (bT_World g0 g1 g2 g3 g4 g5 g6 g7 g8 g9 g10 true true v987))] 1) ?_ ?_
    ·rintro _ ⟨kj30, v987, v988, v989, hkj30, H, rfl⟩
     unfold I_eachHonest__impl_Narrow_1.j30 at H; refine WpC.regionL ?_; refine gn 2 ?_; exact ⟨k27, _, by omega, ⟨v987, v988, (IntKind.i64.wrap (v989 + 1)), by omega, H, rfl⟩, lm [(0, 0)] hm⟩
    ·refine WpC.block (sr ?_); obtain ⟨b990, hb990, H⟩ := bindS H; refine ix underlying41 info74 hb990 ?_; refine le shape74 ?_; refine alc 1 info74 ?_; refine gn 1 ?_; refine sr ?_; refine L.buildSlice (e := eT_Event) 2 ([] : List T_Event) underlying40 info47 rfl rfl rfl hF rfl rfl rfl rfl rfl rfl rfl rfl ?_; refine gn 1 ?_; refine WpC.seq (sr ?_); refine go 4 ?_; refine cB 3 ent30 (g30 k27 g10 v895.Log b990.Key) H fun r1033 H => ?_; refine L.lenR (xs := r1033) (e := eI) underlying24 hF rfl rfl rfl rfl ?_; refine gn 1 ?_; refine WpC.block ?_
     refine WpC.loopL (P := Tryz.prog) (fun n σ => ∃ (v1061 : List T_Event) (v1062 : T_World) (v1063 v1064 : Int) (v1065 : List Int) (v1066 v1067 : Int) (v1068 : T_Accept), n ≤ K ∧ I_eachHonest__impl_Narrow_1.l32 (I_eachHonest__impl_Narrow_1.l27 k27) n v1061 v1062 v1063 v1064 v1065 v1066 v1067 v1068 = some r ∧ σ = mkSt [(1, MG.one (Cell.clo 107 [])), (2, oP 0 0), (6, oP 1 0), (7, MG.one (Cell.own 2)), (14, MG.one (Cell.sl true (List.map eT_Accept v1062.Accepts))), (15, oI v1063), (16, oI v1064), (25, MG.one (Cell.own 3)), (26, oI v1066), (27, oI v1067)] [(2, ⟨11, List.map eT_Event v1061⟩), (3, ⟨1, List.map eI v1065⟩)] [(0, (bT_World g0 g1 g2 g3 g4 g5 g6 g7 g8 g9 g10 true true v1062)), (1, (bT_Accept true true v1068))] 4) k27 ⟨_, ⟨([] : List T_Event), v895, v896, v897, r1033, (r1033.length : Int), 0, b990, by omega, H, rfl⟩, lm [(0, 0), (1, 1), (2, 2), (3, 3)] hm⟩ ?_; clear H
     rintro k32 _ ⟨v1061, v1062, v1063, v1064, v1065, v1066, v1067, v1068, hk32, H, rfl⟩
     cases k32 with
     | zero => cases H
     | succ k32 =>
      rw [I_eachHonest__impl_Narrow_1.l32] at H
      refine sg 1 ?_; refine WpC.seq ?_; refine cd H (fun hc H => ?_) (fun hc H => ?_)
      ·refine WpC.skip (WpC.seq (WpC.block (sr ?_))); obtain ⟨b1072, hb1072, H⟩ := bindS H; refine ix underlying24 info3 hb1072 ?_; refine L.loadEp (xs := v1065) (e := eI) shape3 hF rfl rfl rfl rfl (at?_get hb1072).2 rfl rfl ?_; refine gn 1 ?_; refine WpC.regionL ?_; refine go 4 ?_; obtain ⟨b1073, hb1073, H⟩ := bindS H; refine ix underlying40 info47 hb1073 ?_; refine le shape47 ?_; refine L.buildSlice (e := eT_Event) 4 ([b1073] : List T_Event) underlying40 info47 rfl rfl rfl hF rfl rfl rfl rfl rfl rfl rfl rfl ?_; obtain ⟨h1074, H⟩ := condG H; refine L.append (xs := v1061) (ys := ([b1073] : List T_Event)) (e := eT_Event) 5 underlying40 info47 rfl rfl hF rfl rfl rfl rfl rfl rfl rfl rfl (fun _ => rfl) (fun _ _ h1 h2 => by cases h1; cases h2; rfl) ⟨_, underlying40⟩ (of_decide_eq_true h1074) rfl rfl ?_; refine gn 1 ?_; refine WpC.regionL ?_; refine gn 2 ?_; exact ⟨k32, _, by omega, ⟨(v1061 ++ ([b1073] : List T_Event)), v1062, v1063, v1064, v1065, v1066, (IntKind.i64.wrap (v1067 + 1)), v1068, by omega, H, rfl⟩, lm [(0, 0), (1, 1), (2, 5), (3, 3)] hm⟩
      ·refine WpC.exit (sr ?_); refine go 2 ?_; refine cB 4 ent89 (g89 k32 g0 g1 g2 g3 g4 g5 g6 g7 g8 g9 g10 true true true v1062 v1068) H fun r1077 H => ?_; refine mv ?_; refine sH H (fun hc H => ?_) (fun hc H => ?_)
       ·refine go 3 ?_; obtain ⟨r1078, hr1078, H⟩ := bindS H; refine ca [false, false] [2] [] 5 ent107 (g107 k32 false v1068 v1061 r1078 hr1078) ?_; refine gn 2 ?_; refine cd H (fun hc H => ?_) (fun hc H => ?_)
        ·refine sg 1 ?_; cases H; exact WpC.ret rt
        ·refine WpC.skip ?_; exact ⟨_, ⟨k32, v1062, v1063, v1064, by omega, H, rfl⟩, lm [(0, 0)] hm⟩
       ·refine gn 6 ?_; refine cF ?_; refine WpC.skip ?_; exact ⟨_, ⟨k32, v1062, v1063, v1064, by omega, H, rfl⟩, lm [(0, 0)] hm⟩
   ·refine WpC.exit (sr ?_); refine gn 1 ?_; cases H; exact WpC.ret rt
/-! ### I_Narrow -/
def I_Narrow (k : Nat) (a0 : T_World) : Option Bool := (I_eachHonest__impl_Narrow_1 k a0).bind fun r1 => some r1
theorem ent34 : MG.Enters Tryz.prog 34 := en func34
theorem g34 (k : Nat) (g0 g1 g2 g3 g4 g5 g6 g7 g8 g9 g10 : Bool) (a0 : T_World) (r : Bool) (H : I_Narrow k a0 = some r) : Gives Tryz.prog 34 [V.agg (bT_World g0 g1 g2 g3 g4 g5 g6 g7 g8 g9 g10 true true a0)] [] [V.one (cL r)] [] := by
 refine Gives.intro func34 rfl rfl rfl rfl ?_; refine fx fun w0 T S0 ob oh hm => ?_
 have hF := fxe w0 T S0 5 ob oh
 unfold I_Narrow at H; obtain ⟨K, hK⟩ := leK k; refine sr ?_; refine bo 16 ?_; refine gn 1 ?_; refine sy 1 ?_; refine cB 17 ent105 (g105 k g0 g1 g2 g3 g4 g5 g6 g7 g8 g9 g10 a0) H fun r1 H => ?_; refine gn 1 ?_; cases H; exact WpC.ret rt
/-! ### W_eqIntS -/
def W_eqIntS.l2 : Nat → (List Int) → (List Int) → Int → Option Bool
 | 0, _, _, _ => none
 | k2 + 1, v34, v35, v36 => cond (decide (v36 < (v34.length : Int))) ((at? v34 v36).bind fun b39 => (at? v35 v36).bind fun b40 => cond (b39 != b40) (some false) ((W_eqIntS.l2 k2) v34 v35 (IntKind.i64.wrap (v36 + 1)))) (some true)
def W_eqIntS (k : Nat) (a0 a1 : List Int) : Option Bool := cond ((a0.length : Int) != (a1.length : Int)) (some false) (W_eqIntS.l2 k a0 a1 0)
theorem ent98 : MG.Enters Tryz.prog 98 := en func98
theorem g98 (k : Nat) (g0 g1 : Bool) (a0 a1 : List Int) (r : Bool) (H : W_eqIntS k a0 a1 = some r) : Gives Tryz.prog 98 [V.one (Cell.sl g0 (List.map eI a0)), V.one (Cell.sl g1 (List.map eI a1))] [] [V.one (cL r)] [] := by
 refine Gives.intro func98 rfl rfl rfl rfl ?_; refine fx fun w0 T S0 ob oh hm => ?_
 have hF := fxe w0 T S0 26 ob oh
 unfold W_eqIntS at H; obtain ⟨K, hK⟩ := leK k; refine sg 1 ?_; refine WpC.seq (sr ?_); refine mv ?_; refine L.lenR (xs := a0) (e := eI) underlying24 hF rfl rfl rfl rfl ?_; refine mv ?_; refine L.lenR (xs := a1) (e := eI) underlying24 hF rfl rfl rfl rfl ?_; refine gn 1 ?_; refine cd H (fun hc H => ?_) (fun hc H => ?_)
 ·refine sg 1 ?_; cases H; exact WpC.ret rt
 ·refine WpC.skip (WpC.seq (sr ?_)); refine gn 1 ?_; refine WpC.block ?_; refine WpC.loopL (P := Tryz.prog) (fun n σ => ∃ (v34 v35 : List Int) (v36 : Int), n ≤ K ∧ W_eqIntS.l2 n v34 v35 v36 = some r ∧ σ = mkSt [(0, MG.one (Cell.sl g0 (List.map eI v34))), (1, MG.one (Cell.sl g1 (List.map eI v35))), (5, oI v36)] [] [] 0) k ⟨_, ⟨a0, a1, 0, by omega, H, rfl⟩, lm [] hm⟩ ?_; clear H
  rintro k2 _ ⟨v34, v35, v36, hk2, H, rfl⟩
  cases k2 with
  | zero => cases H
  | succ k2 =>
   rw [W_eqIntS.l2] at H
   refine WpC.seq (sr ?_); refine go 2 ?_; refine L.lenR (xs := v34) (e := eI) underlying24 hF rfl rfl rfl rfl ?_; refine gn 1 ?_; refine cd H (fun hc H => ?_) (fun hc H => ?_)
   ·refine WpC.skip (WpC.seq (WpC.block (WpC.seq ?_))); refine S.begin mixed (by kernel_rfl) ?_; refine S.st 0 rfl rfl ((Ca.move).quiet) (fun Q0 k0 => mv (L.nil k0)) ?_; refine S.st 1 rfl rfl ((Ca.move).quiet) (fun Q0 k0 => mv (L.nil k0)) ?_; obtain ⟨b39, hb39, H⟩ := bindS H; refine S.st 2 rfl rfl ((Ca.indexAddr).quiet) (fun Q0 k0 => ix underlying24 info3 hb39 (L.nil k0)) ?_; refine S.st 3 rfl rfl (Qu.load) (fun Q0 k0 => le shape3 (L.nil k0)) ?_; refine S.st 4 rfl rfl ((Ca.move).quiet) (fun Q0 k0 => mv (L.nil k0)) ?_; refine S.st 5 rfl rfl ((Ca.move).quiet) (fun Q0 k0 => mv (L.nil k0)) ?_; obtain ⟨b40, hb40, H⟩ := bindS H; refine S.st 6 rfl rfl ((Ca.indexAddr).quiet) (fun Q0 k0 => ix underlying24 info3 hb40 (L.nil k0)) ?_; refine S.st 7 rfl rfl (Qu.load) (fun Q0 k0 => le shape3 (L.nil k0)) ?_; refine S.st 8 rfl rfl ((Ca.bin rfl rfl (calm_int _ _ _ _ _ _ _ _)).quiet) (fun Q0 k0 => bi (L.nil k0)) ?_; refine S.nil ?_; refine cd H (fun hc H => ?_) (fun hc H => ?_)
    ·refine sg 1 ?_; cases H; exact WpC.ret rt
    ·refine WpC.skip (WpC.regionL ?_); refine gn 3 ?_; exact ⟨k2, _, by omega, ⟨v34, v35, (IntKind.i64.wrap (v36 + 1)), by omega, H, rfl⟩, lm [] hm⟩
   ·refine WpC.exit (sr ?_); refine gn 1 ?_; cases H; exact WpC.ret rt
/-! ### W_eqPair -/
def W_eqPair (k : Nat) (a0 a1 : T_Pair) : Option Bool := cond (a0.A != a1.A) (some false) (cond (a0.B != a1.B) (some false) (some true))
theorem ent250 : MG.Enters Tryz.prog 250 := en func250
theorem g250 (k : Nat) (a0 a1 : T_Pair) (r : Bool) (H : W_eqPair k a0 a1 = some r) : Gives Tryz.prog 250 [V.agg [cI a0.A, cI a0.B], V.agg [cI a1.A, cI a1.B]] [] [V.one (cL r)] [] := by
 refine Gives.intro func250 rfl rfl rfl rfl ?_; refine fx fun w0 T S0 ob oh hm => ?_
 have hF := fxe w0 T S0 15 ob oh
 unfold W_eqPair at H; obtain ⟨K, hK⟩ := leK k; refine sr ?_; refine bo 4 ?_; refine bo 5 ?_; refine gn 1 ?_; refine WpC.seq (sr ?_); refine gn 5 ?_; refine cd H (fun hc H => ?_) (fun hc H => ?_)
 ·refine sg 1 ?_; cases H; exact WpC.ret rt
 ·refine WpC.skip (WpC.seq (sr ?_)); refine gn 5 ?_; refine cd H (fun hc H => ?_) (fun hc H => ?_)
  ·refine sg 1 ?_; cases H; exact WpC.ret rt
  ·refine WpC.skip (sr ?_); refine gn 1 ?_; cases H; exact WpC.ret rt
/-! ### W_eqPairS -/
def W_eqPairS.l2 : Nat → (List T_Pair) → (List T_Pair) → Int → Option Bool
 | 0, _, _, _ => none
 | k2 + 1, v44, v45, v46 => cond (decide (v46 < (v44.length : Int))) ((at? v44 v46).bind fun b50 => (at? v45 v46).bind fun b51 => (W_eqPair k2 b50 b51).bind fun r52 => cond (!r52) (some false) ((W_eqPairS.l2 k2) v44 v45 (IntKind.i64.wrap (v46 + 1)))) (some true)
def W_eqPairS (k : Nat) (a0 a1 : List T_Pair) : Option Bool := cond ((a0.length : Int) != (a1.length : Int)) (some false) (W_eqPairS.l2 k a0 a1 0)
theorem ent179 : MG.Enters Tryz.prog 179 := en func179
theorem g179 (k : Nat) (g0 g1 : Bool) (a0 a1 : List T_Pair) (r : Bool) (H : W_eqPairS k a0 a1 = some r) : Gives Tryz.prog 179 [V.one (Cell.sl g0 (List.map eT_Pair a0)), V.one (Cell.sl g1 (List.map eT_Pair a1))] [] [V.one (cL r)] [] := by
 refine Gives.intro func179 rfl rfl rfl rfl ?_; refine fx fun w0 T S0 ob oh hm => ?_
 have hF := fxe w0 T S0 27 ob oh
 unfold W_eqPairS at H; obtain ⟨K, hK⟩ := leK k; refine sg 1 ?_; refine WpC.seq (sr ?_); refine mv ?_; refine L.lenR (xs := a0) (e := eT_Pair) underlying25 hF rfl rfl rfl rfl ?_; refine mv ?_; refine L.lenR (xs := a1) (e := eT_Pair) underlying25 hF rfl rfl rfl rfl ?_; refine gn 1 ?_; refine cd H (fun hc H => ?_) (fun hc H => ?_)
 ·refine sg 1 ?_; cases H; exact WpC.ret rt
 ·refine WpC.skip (WpC.seq (sr ?_)); refine gn 1 ?_; refine WpC.block ?_; refine WpC.loopL (P := Tryz.prog) (fun n σ => ∃ (v44 v45 : List T_Pair) (v46 : Int), n ≤ K ∧ W_eqPairS.l2 n v44 v45 v46 = some r ∧ σ = mkSt [(0, MG.one (Cell.sl g0 (List.map eT_Pair v44))), (1, MG.one (Cell.sl g1 (List.map eT_Pair v45))), (5, oI v46)] [] [] 0) k ⟨_, ⟨a0, a1, 0, by omega, H, rfl⟩, lm [] hm⟩ ?_; clear H
  rintro k2 _ ⟨v44, v45, v46, hk2, H, rfl⟩
  cases k2 with
  | zero => cases H
  | succ k2 =>
   rw [W_eqPairS.l2] at H
   refine WpC.seq (sr ?_); refine go 2 ?_; refine L.lenR (xs := v44) (e := eT_Pair) underlying25 hF rfl rfl rfl rfl ?_; refine gn 1 ?_; refine cd H (fun hc H => ?_) (fun hc H => ?_)
   ·refine WpC.skip (WpC.seq (WpC.block (WpC.seq ?_))); obtain ⟨b50, hb50, H⟩ := bindS H; obtain ⟨b51, hb51, H⟩ := bindS H; obtain ⟨r52, hr52, H⟩ := bindS H; refine A.begin mixed rfl rfl ?_; intro W hI hO
    have n255 : W 2 #[true, true, true, true, true, true, true, true, false, false] (mkSt [(0, MG.one (Cell.sl g0 (List.map eT_Pair v44))), (1, MG.one (Cell.sl g1 (List.map eT_Pair v45))), (5, oI v46), (20, agg [cI b50.A, cI b50.B]), (24, agg [cI b51.A, cI b51.B])] [] [] 0) := by
     refine hI _ _ _ ?_; refine A.all [8] (by kernel_rfl) rfl ⟨⟨_, rfl, ?_⟩, trivial⟩; refine c0 0 ent250 (g250 k2  b50 b51 r52 hr52) (L.nil ?_); refine Atk 9 rfl (Ca.un rfl rfl) (fun Q0 k0 => nt (L.nil k0)) ?_; refine A.le (τ := mkSt [(0, MG.one (Cell.sl g0 (List.map eT_Pair v44))), (1, MG.one (Cell.sl g1 (List.map eT_Pair v45))), (5, oI v46), (26, oL (!r52))] [] [] 0) (lm [] hm) ?_; refine A.done (by kernel_rfl) ?_; refine cd H (fun hc H => ?_) (fun hc H => ?_)
     ·refine sg 1 ?_; cases H; exact WpC.ret rt
     ·refine WpC.skip (WpC.regionL ?_); refine gn 3 ?_; exact ⟨k2, _, by omega, ⟨v44, v45, (IntKind.i64.wrap (v46 + 1)), by omega, H, rfl⟩, lm [] hm⟩
    refine hI _ _ _ ?_; refine tM 0 ?_; refine tM 1 ?_; refine Atk 2 rfl (Ca.indexAddr) (fun Q0 k0 => ix underlying25 info161 hb50 (L.nil k0)) ?_; refine tM 4 ?_; refine tM 5 ?_; refine Atk 6 rfl (Ca.indexAddr) (fun Q0 k0 => ix underlying25 info161 hb51 (L.nil k0)) ?_; refine A.all [3, 7] (by kernel_rfl) rfl ⟨⟨_, rfl, ?_⟩, ⟨_, rfl, ?_⟩, trivial⟩
    ·refine gn 1 ?_; refine A.all [7] (by kernel_rfl) rfl ⟨⟨_, rfl, ?_⟩, trivial⟩; refine gn 1 ?_; exact A.on (hO _ _ _ n255) (lm [] hm)
    ·refine gn 1 ?_; refine A.all [3] (by kernel_rfl) rfl ⟨⟨_, rfl, ?_⟩, trivial⟩; refine gn 1 ?_; exact A.on (hO _ _ _ n255) (lm [] hm)
   ·refine WpC.exit (sr ?_); refine gn 1 ?_; cases H; exact WpC.ret rt
/-! ### W_eqConfig -/
def W_eqConfig (k : Nat) (a0 a1 : T_Config) : Option Bool := (W_eqIntS k a0.UserRealm a1.UserRealm).bind fun r2 => cond (!r2) (some false) ((W_eqIntS k a0.ServiceRealm a1.ServiceRealm).bind fun r4 => cond (!r4) (some false) ((W_eqPairS k a0.Links a1.Links).bind fun r6 => cond (!r6) (some false) ((W_eqPairS k a0.Proxy a1.Proxy).bind fun r8 => cond (!r8) (some false) (cond (a0.Skew != a1.Skew) (some false) (some true)))))
theorem ent90 : MG.Enters Tryz.prog 90 := en func90
theorem g90 (k : Nat) (g0 g1 g2 g3 g4 g5 g6 g7 : Bool) (a0 a1 : T_Config) (r : Bool) (H : W_eqConfig k a0 a1 = some r) : Gives Tryz.prog 90 [V.agg (bT_Config g0 g1 g2 g3 a0), V.agg (bT_Config g4 g5 g6 g7 a1)] [] [V.one (cL r)] [] := by
 refine Gives.intro func90 rfl rfl rfl rfl ?_; refine fx fun w0 T S0 ob oh hm => ?_
 have hF := fxe w0 T S0 34 ob oh
 unfold W_eqConfig at H; obtain ⟨K, hK⟩ := leK k; refine sr ?_; refine bo 10 ?_; refine bo 11 ?_; refine gn 1 ?_; refine WpC.seq (sr ?_); refine go 4 ?_; refine cB 12 ent98 (g98 k g0 g4 a0.UserRealm a1.UserRealm) H fun r2 H => ?_; refine gn 1 ?_; refine cd H (fun hc H => ?_) (fun hc H => ?_)
 ·refine sg 1 ?_; cases H; exact WpC.ret rt
 ·refine WpC.skip (WpC.seq (sr ?_)); refine go 4 ?_; refine cB 13 ent98 (g98 k g1 g5 a0.ServiceRealm a1.ServiceRealm) H fun r4 H => ?_; refine gn 1 ?_; refine cd H (fun hc H => ?_) (fun hc H => ?_)
  ·refine sg 1 ?_; cases H; exact WpC.ret rt
  ·refine WpC.skip (WpC.seq (sr ?_)); refine go 4 ?_; refine cB 14 ent179 (g179 k g2 g6 a0.Links a1.Links) H fun r6 H => ?_; refine gn 1 ?_; refine cd H (fun hc H => ?_) (fun hc H => ?_)
   ·refine sg 1 ?_; cases H; exact WpC.ret rt
   ·refine WpC.skip (WpC.seq (sr ?_)); refine go 4 ?_; refine cB 15 ent179 (g179 k g3 g7 a0.Proxy a1.Proxy) H fun r8 H => ?_; refine gn 1 ?_; refine cd H (fun hc H => ?_) (fun hc H => ?_)
    ·refine sg 1 ?_; cases H; exact WpC.ret rt
    ·refine WpC.skip (WpC.seq (sr ?_)); refine gn 5 ?_; refine cd H (fun hc H => ?_) (fun hc H => ?_)
     ·refine sg 1 ?_; cases H; exact WpC.ret rt
     ·refine WpC.skip (sr ?_); refine gn 1 ?_; cases H; exact WpC.ret rt
/-! ### W_eqStringS -/
def W_eqStringS.l2 : Nat → (List (List UInt8)) → (List (List UInt8)) → Int → Option Bool
 | 0, _, _, _ => none
 | k2 + 1, v34, v35, v36 => cond (decide (v36 < (v34.length : Int))) ((at? v34 v36).bind fun b39 => (at? v35 v36).bind fun b40 => cond (b39 != b40) (some false) ((W_eqStringS.l2 k2) v34 v35 (IntKind.i64.wrap (v36 + 1)))) (some true)
def W_eqStringS (k : Nat) (a0 : List (List UInt8)) (a1 : List (List UInt8)) : Option Bool := cond ((a0.length : Int) != (a1.length : Int)) (some false) (W_eqStringS.l2 k a0 a1 0)
theorem ent91 : MG.Enters Tryz.prog 91 := en func91
theorem g91 (k : Nat) (g0 g1 : Bool) (a0 : List (List UInt8)) (a1 : List (List UInt8)) (r : Bool) (H : W_eqStringS k a0 a1 = some r) : Gives Tryz.prog 91 [V.one (Cell.sl g0 (List.map eS a0)), V.one (Cell.sl g1 (List.map eS a1))] [] [V.one (cL r)] [] := by
 refine Gives.intro func91 rfl rfl rfl rfl ?_; refine fx fun w0 T S0 ob oh hm => ?_
 have hF := fxe w0 T S0 26 ob oh
 unfold W_eqStringS at H; obtain ⟨K, hK⟩ := leK k; refine sg 1 ?_; refine WpC.seq (sr ?_); refine mv ?_; refine L.lenR (xs := a0) (e := eS) underlying34 hF rfl rfl rfl rfl ?_; refine mv ?_; refine L.lenR (xs := a1) (e := eS) underlying34 hF rfl rfl rfl rfl ?_; refine gn 1 ?_; refine cd H (fun hc H => ?_) (fun hc H => ?_)
 ·refine sg 1 ?_; cases H; exact WpC.ret rt
 ·refine WpC.skip (WpC.seq (sr ?_)); refine gn 1 ?_; refine WpC.block ?_; refine WpC.loopL (P := Tryz.prog) (fun n σ => ∃ (v34 v35 : List (List UInt8)) (v36 : Int), n ≤ K ∧ W_eqStringS.l2 n v34 v35 v36 = some r ∧ σ = mkSt [(0, MG.one (Cell.sl g0 (List.map eS v34))), (1, MG.one (Cell.sl g1 (List.map eS v35))), (5, oI v36)] [] [] 0) k ⟨_, ⟨a0, a1, 0, by omega, H, rfl⟩, lm [] hm⟩ ?_; clear H
  rintro k2 _ ⟨v34, v35, v36, hk2, H, rfl⟩
  cases k2 with
  | zero => cases H
  | succ k2 =>
   rw [W_eqStringS.l2] at H
   refine WpC.seq (sr ?_); refine go 2 ?_; refine L.lenR (xs := v34) (e := eS) underlying34 hF rfl rfl rfl rfl ?_; refine gn 1 ?_; refine cd H (fun hc H => ?_) (fun hc H => ?_)
   ·refine WpC.skip (WpC.seq (WpC.block (WpC.seq ?_))); refine S.begin mixed (by kernel_rfl) ?_; refine S.st 0 rfl rfl ((Ca.move).quiet) (fun Q0 k0 => mv (L.nil k0)) ?_; refine S.st 1 rfl rfl ((Ca.move).quiet) (fun Q0 k0 => mv (L.nil k0)) ?_; obtain ⟨b39, hb39, H⟩ := bindS H; refine S.st 2 rfl rfl ((Ca.indexAddr).quiet) (fun Q0 k0 => ix underlying34 info9 hb39 (L.nil k0)) ?_; refine S.st 3 rfl rfl (Qu.load) (fun Q0 k0 => le shape9 (L.nil k0)) ?_; refine S.st 4 rfl rfl ((Ca.move).quiet) (fun Q0 k0 => mv (L.nil k0)) ?_; refine S.st 5 rfl rfl ((Ca.move).quiet) (fun Q0 k0 => mv (L.nil k0)) ?_; obtain ⟨b40, hb40, H⟩ := bindS H; refine S.st 6 rfl rfl ((Ca.indexAddr).quiet) (fun Q0 k0 => ix underlying34 info9 hb40 (L.nil k0)) ?_; refine S.st 7 rfl rfl (Qu.load) (fun Q0 k0 => le shape9 (L.nil k0)) ?_; refine S.st 8 rfl rfl ((Ca.bin rfl rfl (calm_str _ _ _ _ _ _)).quiet) (fun Q0 k0 => L.binS hF rfl rfl rfl rfl rfl (L.nil k0)) ?_; refine S.nil ?_; refine cd H (fun hc H => ?_) (fun hc H => ?_)
    ·refine sg 1 ?_; cases H; exact WpC.ret rt
    ·refine WpC.skip (WpC.regionL ?_); refine gn 3 ?_; exact ⟨k2, _, by omega, ⟨v34, v35, (IntKind.i64.wrap (v36 + 1)), by omega, H, rfl⟩, lm [] hm⟩
   ·refine WpC.exit (sr ?_); refine gn 1 ?_; cases H; exact WpC.ret rt
/-! ### W_eqKnown -/
def W_eqKnown (k : Nat) (a0 a1 : T_Known) : Option Bool := (W_eqStringS k a0.Terms a1.Terms).bind fun r2 => cond (!r2) (some false) ((W_eqIntS k a0.Keys a1.Keys).bind fun r4 => cond (!r4) (some false) (some true))
theorem ent92 : MG.Enters Tryz.prog 92 := en func92
theorem g92 (k : Nat) (g0 g1 g2 g3 : Bool) (a0 a1 : T_Known) (r : Bool) (H : W_eqKnown k a0 a1 = some r) : Gives Tryz.prog 92 [V.agg [Cell.sl g0 (List.map eS a0.Terms), Cell.sl g1 (List.map eI a0.Keys)], V.agg [Cell.sl g2 (List.map eS a1.Terms), Cell.sl g3 (List.map eI a1.Keys)]] [] [V.one (cL r)] [] := by
 refine Gives.intro func92 rfl rfl rfl rfl ?_; refine fx fun w0 T S0 ob oh hm => ?_
 have hF := fxe w0 T S0 17 ob oh
 unfold W_eqKnown at H; obtain ⟨K, hK⟩ := leK k; refine sr ?_; refine bo 4 ?_; refine bo 5 ?_; refine gn 1 ?_; refine WpC.seq (sr ?_); refine go 4 ?_; refine cB 6 ent91 (g91 k g0 g2 a0.Terms a1.Terms) H fun r2 H => ?_; refine gn 1 ?_; refine cd H (fun hc H => ?_) (fun hc H => ?_)
 ·refine sg 1 ?_; cases H; exact WpC.ret rt
 ·refine WpC.skip (WpC.seq (sr ?_)); refine go 4 ?_; refine cB 7 ent98 (g98 k g1 g3 a0.Keys a1.Keys) H fun r4 H => ?_; refine gn 1 ?_; refine cd H (fun hc H => ?_) (fun hc H => ?_)
  ·refine sg 1 ?_; cases H; exact WpC.ret rt
  ·refine WpC.skip (sr ?_); refine gn 1 ?_; cases H; exact WpC.ret rt
/-! ### W_eqWait -/
def W_eqWait (k : Nat) (a0 a1 : T_Wait) : Option Bool := cond (a0.On != a1.On) (some false) (cond (a0.Nonce != a1.Nonce) (some false) (cond (a0.Key != a1.Key) (some false) (cond (a0.Client != a1.Client) (some false) (some true))))
theorem ent180 : MG.Enters Tryz.prog 180 := en func180
theorem g180 (k : Nat) (a0 a1 : T_Wait) (r : Bool) (H : W_eqWait k a0 a1 = some r) : Gives Tryz.prog 180 [V.agg (bT_Wait a0), V.agg (bT_Wait a1)] [] [V.one (cL r)] [] := by
 refine Gives.intro func180 rfl rfl rfl rfl ?_; refine fx fun w0 T S0 ob oh hm => ?_
 have hF := fxe w0 T S0 25 ob oh
 unfold W_eqWait at H; obtain ⟨K, hK⟩ := leK k; refine sr ?_; refine bo 8 ?_; refine bo 9 ?_; refine gn 1 ?_; refine WpC.seq (sr ?_); refine go 4 ?_; refine L.neL underlying4 hF rfl rfl rfl rfl (L.nil ?_); refine cd H (fun hc H => ?_) (fun hc H => ?_)
 ·refine sg 1 ?_; cases H; exact WpC.ret rt
 ·refine WpC.skip (WpC.seq (sr ?_)); refine gn 5 ?_; refine cd H (fun hc H => ?_) (fun hc H => ?_)
  ·refine sg 1 ?_; cases H; exact WpC.ret rt
  ·refine WpC.skip (WpC.seq (sr ?_)); refine gn 5 ?_; refine cd H (fun hc H => ?_) (fun hc H => ?_)
   ·refine sg 1 ?_; cases H; exact WpC.ret rt
   ·refine WpC.skip (WpC.seq (sr ?_)); refine gn 5 ?_; refine cd H (fun hc H => ?_) (fun hc H => ?_)
    ·refine sg 1 ?_; cases H; exact WpC.ret rt
    ·refine WpC.skip (sr ?_); refine gn 1 ?_; cases H; exact WpC.ret rt
/-! ### W_eqWaitS -/
def W_eqWaitS.l2 : Nat → (List T_Wait) → (List T_Wait) → Int → Option Bool
 | 0, _, _, _ => none
 | k2 + 1, v44, v45, v46 => cond (decide (v46 < (v44.length : Int))) ((at? v44 v46).bind fun b50 => (at? v45 v46).bind fun b51 => (W_eqWait k2 b50 b51).bind fun r52 => cond (!r52) (some false) ((W_eqWaitS.l2 k2) v44 v45 (IntKind.i64.wrap (v46 + 1)))) (some true)
def W_eqWaitS (k : Nat) (a0 a1 : List T_Wait) : Option Bool := cond ((a0.length : Int) != (a1.length : Int)) (some false) (W_eqWaitS.l2 k a0 a1 0)
theorem ent93 : MG.Enters Tryz.prog 93 := en func93
theorem g93 (k : Nat) (g0 g1 : Bool) (a0 a1 : List T_Wait) (r : Bool) (H : W_eqWaitS k a0 a1 = some r) : Gives Tryz.prog 93 [V.one (Cell.sl g0 (List.map eT_Wait a0)), V.one (Cell.sl g1 (List.map eT_Wait a1))] [] [V.one (cL r)] [] := by
 refine Gives.intro func93 rfl rfl rfl rfl ?_; refine fx fun w0 T S0 ob oh hm => ?_
 have hF := fxe w0 T S0 27 ob oh
 unfold W_eqWaitS at H; obtain ⟨K, hK⟩ := leK k; refine sg 1 ?_; refine WpC.seq (sr ?_); refine mv ?_; refine L.lenR (xs := a0) (e := eT_Wait) underlying37 hF rfl rfl rfl rfl ?_; refine mv ?_; refine L.lenR (xs := a1) (e := eT_Wait) underlying37 hF rfl rfl rfl rfl ?_; refine gn 1 ?_; refine cd H (fun hc H => ?_) (fun hc H => ?_)
 ·refine sg 1 ?_; cases H; exact WpC.ret rt
 ·refine WpC.skip (WpC.seq (sr ?_)); refine gn 1 ?_; refine WpC.block ?_; refine WpC.loopL (P := Tryz.prog) (fun n σ => ∃ (v44 v45 : List T_Wait) (v46 : Int), n ≤ K ∧ W_eqWaitS.l2 n v44 v45 v46 = some r ∧ σ = mkSt [(0, MG.one (Cell.sl g0 (List.map eT_Wait v44))), (1, MG.one (Cell.sl g1 (List.map eT_Wait v45))), (5, oI v46)] [] [] 0) k ⟨_, ⟨a0, a1, 0, by omega, H, rfl⟩, lm [] hm⟩ ?_; clear H
  rintro k2 _ ⟨v44, v45, v46, hk2, H, rfl⟩
  cases k2 with
  | zero => cases H
  | succ k2 =>
   rw [W_eqWaitS.l2] at H
   refine WpC.seq (sr ?_); refine go 2 ?_; refine L.lenR (xs := v44) (e := eT_Wait) underlying37 hF rfl rfl rfl rfl ?_; refine gn 1 ?_; refine cd H (fun hc H => ?_) (fun hc H => ?_)
   ·refine WpC.skip (WpC.seq (WpC.block (WpC.seq ?_))); obtain ⟨b50, hb50, H⟩ := bindS H; obtain ⟨b51, hb51, H⟩ := bindS H; obtain ⟨r52, hr52, H⟩ := bindS H; refine A.begin mixed rfl rfl ?_; intro W hI hO
    have n255 : W 2 #[true, true, true, true, true, true, true, true, false, false] (mkSt [(0, MG.one (Cell.sl g0 (List.map eT_Wait v44))), (1, MG.one (Cell.sl g1 (List.map eT_Wait v45))), (5, oI v46), (20, agg (bT_Wait b50)), (24, agg (bT_Wait b51))] [] [] 0) := by
     refine hI _ _ _ ?_; refine A.all [8] (by kernel_rfl) rfl ⟨⟨_, rfl, ?_⟩, trivial⟩; refine c0 0 ent180 (g180 k2  b50 b51 r52 hr52) (L.nil ?_); refine Atk 9 rfl (Ca.un rfl rfl) (fun Q0 k0 => nt (L.nil k0)) ?_; refine A.le (τ := mkSt [(0, MG.one (Cell.sl g0 (List.map eT_Wait v44))), (1, MG.one (Cell.sl g1 (List.map eT_Wait v45))), (5, oI v46), (26, oL (!r52))] [] [] 0) (lm [] hm) ?_; refine A.done (by kernel_rfl) ?_; refine cd H (fun hc H => ?_) (fun hc H => ?_)
     ·refine sg 1 ?_; cases H; exact WpC.ret rt
     ·refine WpC.skip (WpC.regionL ?_); refine gn 3 ?_; exact ⟨k2, _, by omega, ⟨v44, v45, (IntKind.i64.wrap (v46 + 1)), by omega, H, rfl⟩, lm [] hm⟩
    refine hI _ _ _ ?_; refine tM 0 ?_; refine tM 1 ?_; refine Atk 2 rfl (Ca.indexAddr) (fun Q0 k0 => ix underlying37 info198 hb50 (L.nil k0)) ?_; refine tM 4 ?_; refine tM 5 ?_; refine Atk 6 rfl (Ca.indexAddr) (fun Q0 k0 => ix underlying37 info198 hb51 (L.nil k0)) ?_; refine A.all [3, 7] (by kernel_rfl) rfl ⟨⟨_, rfl, ?_⟩, ⟨_, rfl, ?_⟩, trivial⟩
    ·refine gn 1 ?_; refine A.all [7] (by kernel_rfl) rfl ⟨⟨_, rfl, ?_⟩, trivial⟩; refine gn 1 ?_; exact A.on (hO _ _ _ n255) (lm [] hm)
    ·refine gn 1 ?_; refine A.all [3] (by kernel_rfl) rfl ⟨⟨_, rfl, ?_⟩, trivial⟩; refine gn 1 ?_; exact A.on (hO _ _ _ n255) (lm [] hm)
   ·refine WpC.exit (sr ?_); refine gn 1 ?_; cases H; exact WpC.ret rt
/-! ### W_eqRest -/
def W_eqRest (k : Nat) (a0 a1 : T_Rest) : Option Bool := cond (a0.Servers != a1.Servers) (some false) (cond (a0.Ops != a1.Ops) (some false) (cond (a0.End != a1.End) (some false) (some true)))
theorem ent251 : MG.Enters Tryz.prog 251 := en func251
theorem g251 (k : Nat) (a0 a1 : T_Rest) (r : Bool) (H : W_eqRest k a0 a1 = some r) : Gives Tryz.prog 251 [V.agg (bT_Rest a0), V.agg (bT_Rest a1)] [] [V.one (cL r)] [] := by
 refine Gives.intro func251 rfl rfl rfl rfl ?_; refine fx fun w0 T S0 ob oh hm => ?_
 have hF := fxe w0 T S0 20 ob oh
 unfold W_eqRest at H; obtain ⟨K, hK⟩ := leK k; refine sr ?_; refine bo 6 ?_; refine bo 7 ?_; refine gn 1 ?_; refine WpC.seq (sr ?_); refine gn 5 ?_; refine cd H (fun hc H => ?_) (fun hc H => ?_)
 ·refine sg 1 ?_; cases H; exact WpC.ret rt
 ·refine WpC.skip (WpC.seq (sr ?_)); refine gn 5 ?_; refine cd H (fun hc H => ?_) (fun hc H => ?_)
  ·refine sg 1 ?_; cases H; exact WpC.ret rt
  ·refine WpC.skip (WpC.seq (sr ?_)); refine gn 5 ?_; refine cd H (fun hc H => ?_) (fun hc H => ?_)
   ·refine sg 1 ?_; cases H; exact WpC.ret rt
   ·refine WpC.skip (sr ?_); refine gn 1 ?_; cases H; exact WpC.ret rt
/-! ### W_eqCred -/
def W_eqCred (k : Nat) (a0 a1 : T_Cred) : Option Bool := cond (a0.Owner != a1.Owner) (some false) (cond (a0.Client != a1.Client) (some false) (cond (a0.Service != a1.Service) (some false) (cond (a0.Key != a1.Key) (some false) ((W_eqRest k a0.Rest a1.Rest).bind fun r2 => cond (!r2) (some false) (cond (a0.Ticket != a1.Ticket) (some false) (some true))))))
theorem ent181 : MG.Enters Tryz.prog 181 := en func181
theorem g181 (k : Nat) (a0 a1 : T_Cred) (r : Bool) (H : W_eqCred k a0 a1 = some r) : Gives Tryz.prog 181 [V.agg (bT_Cred a0), V.agg (bT_Cred a1)] [] [V.one (cL r)] [] := by
 refine Gives.intro func181 rfl rfl rfl rfl ?_; refine fx fun w0 T S0 ob oh hm => ?_
 have hF := fxe w0 T S0 36 ob oh
 unfold W_eqCred at H; obtain ⟨K, hK⟩ := leK k; refine sr ?_; refine bo 16 ?_; refine bo 17 ?_; refine gn 1 ?_; refine WpC.seq (sr ?_); refine gn 5 ?_; refine cd H (fun hc H => ?_) (fun hc H => ?_)
 ·refine sg 1 ?_; cases H; exact WpC.ret rt
 ·refine WpC.skip (WpC.seq (sr ?_)); refine gn 5 ?_; refine cd H (fun hc H => ?_) (fun hc H => ?_)
  ·refine sg 1 ?_; cases H; exact WpC.ret rt
  ·refine WpC.skip (WpC.seq (sr ?_)); refine gn 5 ?_; refine cd H (fun hc H => ?_) (fun hc H => ?_)
   ·refine sg 1 ?_; cases H; exact WpC.ret rt
   ·refine WpC.skip (WpC.seq (sr ?_)); refine gn 5 ?_; refine cd H (fun hc H => ?_) (fun hc H => ?_)
    ·refine sg 1 ?_; cases H; exact WpC.ret rt
    ·refine WpC.skip (WpC.seq (sr ?_)); refine go 4 ?_; refine cB 18 ent251 (g251 k  a0.Rest a1.Rest) H fun r2 H => ?_; refine gn 1 ?_; refine cd H (fun hc H => ?_) (fun hc H => ?_)
     ·refine sg 1 ?_; cases H; exact WpC.ret rt
     ·refine WpC.skip (WpC.seq (sr ?_)); refine go 4 ?_; refine L.binS hF rfl rfl rfl rfl rfl (L.nil ?_); refine cd H (fun hc H => ?_) (fun hc H => ?_)
      ·refine sg 1 ?_; cases H; exact WpC.ret rt
      ·refine WpC.skip (sr ?_); refine gn 1 ?_; cases H; exact WpC.ret rt
/-! ### W_eqCredS -/
def W_eqCredS.l2 : Nat → (List T_Cred) → (List T_Cred) → Int → Option Bool
 | 0, _, _, _ => none
 | k2 + 1, v44, v45, v46 => cond (decide (v46 < (v44.length : Int))) ((at? v44 v46).bind fun b50 => (at? v45 v46).bind fun b51 => (W_eqCred k2 b50 b51).bind fun r52 => cond (!r52) (some false) ((W_eqCredS.l2 k2) v44 v45 (IntKind.i64.wrap (v46 + 1)))) (some true)
def W_eqCredS (k : Nat) (a0 a1 : List T_Cred) : Option Bool := cond ((a0.length : Int) != (a1.length : Int)) (some false) (W_eqCredS.l2 k a0 a1 0)
theorem ent94 : MG.Enters Tryz.prog 94 := en func94
theorem g94 (k : Nat) (g0 g1 : Bool) (a0 a1 : List T_Cred) (r : Bool) (H : W_eqCredS k a0 a1 = some r) : Gives Tryz.prog 94 [V.one (Cell.sl g0 (List.map eT_Cred a0)), V.one (Cell.sl g1 (List.map eT_Cred a1))] [] [V.one (cL r)] [] := by
 refine Gives.intro func94 rfl rfl rfl rfl ?_; refine fx fun w0 T S0 ob oh hm => ?_
 have hF := fxe w0 T S0 27 ob oh
 unfold W_eqCredS at H; obtain ⟨K, hK⟩ := leK k; refine sg 1 ?_; refine WpC.seq (sr ?_); refine mv ?_; refine L.lenR (xs := a0) (e := eT_Cred) underlying38 hF rfl rfl rfl rfl ?_; refine mv ?_; refine L.lenR (xs := a1) (e := eT_Cred) underlying38 hF rfl rfl rfl rfl ?_; refine gn 1 ?_; refine cd H (fun hc H => ?_) (fun hc H => ?_)
 ·refine sg 1 ?_; cases H; exact WpC.ret rt
 ·refine WpC.skip (WpC.seq (sr ?_)); refine gn 1 ?_; refine WpC.block ?_; refine WpC.loopL (P := Tryz.prog) (fun n σ => ∃ (v44 v45 : List T_Cred) (v46 : Int), n ≤ K ∧ W_eqCredS.l2 n v44 v45 v46 = some r ∧ σ = mkSt [(0, MG.one (Cell.sl g0 (List.map eT_Cred v44))), (1, MG.one (Cell.sl g1 (List.map eT_Cred v45))), (5, oI v46)] [] [] 0) k ⟨_, ⟨a0, a1, 0, by omega, H, rfl⟩, lm [] hm⟩ ?_; clear H
  rintro k2 _ ⟨v44, v45, v46, hk2, H, rfl⟩
  cases k2 with
  | zero => cases H
  | succ k2 =>
   rw [W_eqCredS.l2] at H
   refine WpC.seq (sr ?_); refine go 2 ?_; refine L.lenR (xs := v44) (e := eT_Cred) underlying38 hF rfl rfl rfl rfl ?_; refine gn 1 ?_; refine cd H (fun hc H => ?_) (fun hc H => ?_)
   ·refine WpC.skip (WpC.seq (WpC.block (WpC.seq ?_))); obtain ⟨b50, hb50, H⟩ := bindS H; obtain ⟨b51, hb51, H⟩ := bindS H; obtain ⟨r52, hr52, H⟩ := bindS H; refine A.begin mixed rfl rfl ?_; intro W hI hO
    have n255 : W 2 #[true, true, true, true, true, true, true, true, false, false] (mkSt [(0, MG.one (Cell.sl g0 (List.map eT_Cred v44))), (1, MG.one (Cell.sl g1 (List.map eT_Cred v45))), (5, oI v46), (20, agg (bT_Cred b50)), (24, agg (bT_Cred b51))] [] [] 0) := by
     refine hI _ _ _ ?_; refine A.all [8] (by kernel_rfl) rfl ⟨⟨_, rfl, ?_⟩, trivial⟩; refine c0 0 ent181 (g181 k2  b50 b51 r52 hr52) (L.nil ?_); refine Atk 9 rfl (Ca.un rfl rfl) (fun Q0 k0 => nt (L.nil k0)) ?_; refine A.le (τ := mkSt [(0, MG.one (Cell.sl g0 (List.map eT_Cred v44))), (1, MG.one (Cell.sl g1 (List.map eT_Cred v45))), (5, oI v46), (26, oL (!r52))] [] [] 0) (lm [] hm) ?_; refine A.done (by kernel_rfl) ?_; refine cd H (fun hc H => ?_) (fun hc H => ?_)
     ·refine sg 1 ?_; cases H; exact WpC.ret rt
     ·refine WpC.skip (WpC.regionL ?_); refine gn 3 ?_; exact ⟨k2, _, by omega, ⟨v44, v45, (IntKind.i64.wrap (v46 + 1)), by omega, H, rfl⟩, lm [] hm⟩
    refine hI _ _ _ ?_; refine tM 0 ?_; refine tM 1 ?_; refine Atk 2 rfl (Ca.indexAddr) (fun Q0 k0 => ix underlying38 info201 hb50 (L.nil k0)) ?_; refine tM 4 ?_; refine tM 5 ?_; refine Atk 6 rfl (Ca.indexAddr) (fun Q0 k0 => ix underlying38 info201 hb51 (L.nil k0)) ?_; refine A.all [3, 7] (by kernel_rfl) rfl ⟨⟨_, rfl, ?_⟩, ⟨_, rfl, ?_⟩, trivial⟩
    ·refine gn 1 ?_; refine A.all [7] (by kernel_rfl) rfl ⟨⟨_, rfl, ?_⟩, trivial⟩; refine gn 1 ?_; exact A.on (hO _ _ _ n255) (lm [] hm)
    ·refine gn 1 ?_; refine A.all [3] (by kernel_rfl) rfl ⟨⟨_, rfl, ?_⟩, trivial⟩; refine gn 1 ?_; exact A.on (hO _ _ _ n255) (lm [] hm)
   ·refine WpC.exit (sr ?_); refine gn 1 ?_; cases H; exact WpC.ret rt
/-! ### W_eqAuth -/
def W_eqAuth (k : Nat) (a0 a1 : T_Auth) : Option Bool := cond (a0.Client != a1.Client) (some false) (cond (a0.Time != a1.Time) (some false) (cond (a0.Seq != a1.Seq) (some false) (some true)))
theorem ent253 : MG.Enters Tryz.prog 253 := en func253
theorem g253 (k : Nat) (a0 a1 : T_Auth) (r : Bool) (H : W_eqAuth k a0 a1 = some r) : Gives Tryz.prog 253 [V.agg (bT_Auth a0), V.agg (bT_Auth a1)] [] [V.one (cL r)] [] := by
 refine Gives.intro func253 rfl rfl rfl rfl ?_; refine fx fun w0 T S0 ob oh hm => ?_
 have hF := fxe w0 T S0 20 ob oh
 unfold W_eqAuth at H; obtain ⟨K, hK⟩ := leK k; refine sr ?_; refine bo 6 ?_; refine bo 7 ?_; refine gn 1 ?_; refine WpC.seq (sr ?_); refine gn 5 ?_; refine cd H (fun hc H => ?_) (fun hc H => ?_)
 ·refine sg 1 ?_; cases H; exact WpC.ret rt
 ·refine WpC.skip (WpC.seq (sr ?_)); refine gn 5 ?_; refine cd H (fun hc H => ?_) (fun hc H => ?_)
  ·refine sg 1 ?_; cases H; exact WpC.ret rt
  ·refine WpC.skip (WpC.seq (sr ?_)); refine gn 5 ?_; refine cd H (fun hc H => ?_) (fun hc H => ?_)
   ·refine sg 1 ?_; cases H; exact WpC.ret rt
   ·refine WpC.skip (sr ?_); refine gn 1 ?_; cases H; exact WpC.ret rt
/-! ### W_eqAuthS -/
def W_eqAuthS.l2 : Nat → (List T_Auth) → (List T_Auth) → Int → Option Bool
 | 0, _, _, _ => none
 | k2 + 1, v44, v45, v46 => cond (decide (v46 < (v44.length : Int))) ((at? v44 v46).bind fun b50 => (at? v45 v46).bind fun b51 => (W_eqAuth k2 b50 b51).bind fun r52 => cond (!r52) (some false) ((W_eqAuthS.l2 k2) v44 v45 (IntKind.i64.wrap (v46 + 1)))) (some true)
def W_eqAuthS (k : Nat) (a0 a1 : List T_Auth) : Option Bool := cond ((a0.length : Int) != (a1.length : Int)) (some false) (W_eqAuthS.l2 k a0 a1 0)
theorem ent252 : MG.Enters Tryz.prog 252 := en func252
theorem g252 (k : Nat) (g0 g1 : Bool) (a0 a1 : List T_Auth) (r : Bool) (H : W_eqAuthS k a0 a1 = some r) : Gives Tryz.prog 252 [V.one (Cell.sl g0 (List.map eT_Auth a0)), V.one (Cell.sl g1 (List.map eT_Auth a1))] [] [V.one (cL r)] [] := by
 refine Gives.intro func252 rfl rfl rfl rfl ?_; refine fx fun w0 T S0 ob oh hm => ?_
 have hF := fxe w0 T S0 27 ob oh
 unfold W_eqAuthS at H; obtain ⟨K, hK⟩ := leK k; refine sg 1 ?_; refine WpC.seq (sr ?_); refine mv ?_; refine L.lenR (xs := a0) (e := eT_Auth) underlying168 hF rfl rfl rfl rfl ?_; refine mv ?_; refine L.lenR (xs := a1) (e := eT_Auth) underlying168 hF rfl rfl rfl rfl ?_; refine gn 1 ?_; refine cd H (fun hc H => ?_) (fun hc H => ?_)
 ·refine sg 1 ?_; cases H; exact WpC.ret rt
 ·refine WpC.skip (WpC.seq (sr ?_)); refine gn 1 ?_; refine WpC.block ?_; refine WpC.loopL (P := Tryz.prog) (fun n σ => ∃ (v44 v45 : List T_Auth) (v46 : Int), n ≤ K ∧ W_eqAuthS.l2 n v44 v45 v46 = some r ∧ σ = mkSt [(0, MG.one (Cell.sl g0 (List.map eT_Auth v44))), (1, MG.one (Cell.sl g1 (List.map eT_Auth v45))), (5, oI v46)] [] [] 0) k ⟨_, ⟨a0, a1, 0, by omega, H, rfl⟩, lm [] hm⟩ ?_; clear H
  rintro k2 _ ⟨v44, v45, v46, hk2, H, rfl⟩
  cases k2 with
  | zero => cases H
  | succ k2 =>
   rw [W_eqAuthS.l2] at H
   refine WpC.seq (sr ?_); refine go 2 ?_; refine L.lenR (xs := v44) (e := eT_Auth) underlying168 hF rfl rfl rfl rfl ?_; refine gn 1 ?_; refine cd H (fun hc H => ?_) (fun hc H => ?_)
   ·refine WpC.skip (WpC.seq (WpC.block (WpC.seq ?_))); obtain ⟨b50, hb50, H⟩ := bindS H; obtain ⟨b51, hb51, H⟩ := bindS H; obtain ⟨r52, hr52, H⟩ := bindS H; refine A.begin mixed rfl rfl ?_; intro W hI hO
    have n255 : W 2 #[true, true, true, true, true, true, true, true, false, false] (mkSt [(0, MG.one (Cell.sl g0 (List.map eT_Auth v44))), (1, MG.one (Cell.sl g1 (List.map eT_Auth v45))), (5, oI v46), (20, agg (bT_Auth b50)), (24, agg (bT_Auth b51))] [] [] 0) := by
     refine hI _ _ _ ?_; refine A.all [8] (by kernel_rfl) rfl ⟨⟨_, rfl, ?_⟩, trivial⟩; refine c0 0 ent253 (g253 k2  b50 b51 r52 hr52) (L.nil ?_); refine Atk 9 rfl (Ca.un rfl rfl) (fun Q0 k0 => nt (L.nil k0)) ?_; refine A.le (τ := mkSt [(0, MG.one (Cell.sl g0 (List.map eT_Auth v44))), (1, MG.one (Cell.sl g1 (List.map eT_Auth v45))), (5, oI v46), (26, oL (!r52))] [] [] 0) (lm [] hm) ?_; refine A.done (by kernel_rfl) ?_; refine cd H (fun hc H => ?_) (fun hc H => ?_)
     ·refine sg 1 ?_; cases H; exact WpC.ret rt
     ·refine WpC.skip (WpC.regionL ?_); refine gn 3 ?_; exact ⟨k2, _, by omega, ⟨v44, v45, (IntKind.i64.wrap (v46 + 1)), by omega, H, rfl⟩, lm [] hm⟩
    refine hI _ _ _ ?_; refine tM 0 ?_; refine tM 1 ?_; refine Atk 2 rfl (Ca.indexAddr) (fun Q0 k0 => ix underlying168 info72 hb50 (L.nil k0)) ?_; refine tM 4 ?_; refine tM 5 ?_; refine Atk 6 rfl (Ca.indexAddr) (fun Q0 k0 => ix underlying168 info72 hb51 (L.nil k0)) ?_; refine A.all [3, 7] (by kernel_rfl) rfl ⟨⟨_, rfl, ?_⟩, ⟨_, rfl, ?_⟩, trivial⟩
    ·refine gn 1 ?_; refine A.all [7] (by kernel_rfl) rfl ⟨⟨_, rfl, ?_⟩, trivial⟩; refine gn 1 ?_; exact A.on (hO _ _ _ n255) (lm [] hm)
    ·refine gn 1 ?_; refine A.all [3] (by kernel_rfl) rfl ⟨⟨_, rfl, ?_⟩, trivial⟩; refine gn 1 ?_; exact A.on (hO _ _ _ n255) (lm [] hm)
   ·refine WpC.exit (sr ?_); refine gn 1 ?_; cases H; exact WpC.ret rt
end Go.Proofs.YtbaemdkdgghokaaGreat.M
