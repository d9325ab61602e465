import Derived.Test.YtnbjjmnohlnplaaGreatFDwx2
import Derived.Test.YtnbjjmnohlnplaaGreatProg
namespace Go.Proofs.YtnbjjmnohlnplaaGreat.M
open Go Go.MG Tryz
set_option linter.unusedVariables false
set_option linter.unusedSimpArgs false
set_option maxHeartbeats 8000000
set_option maxRecDepth 100000
/-! ### I_Flow -/
def I_Flow.l2 : Nat → Int → Int → Int → Int → Int → (List T_Act) → Int → Int → T_Config → T_Rest → Option (List T_Act)
 | 0, _, _, _, _, _, _, _, _, _, _ => none
 | k2 + 1, v79, v80, v81, v82, v83, v84, v85, v86, v87, v88 => cond (decide ((2 * (v84.length + ([(⟨3, v79, v86, v80, 0, v88, ([] : List UInt8)⟩ : T_Act), (⟨4, v82, v85, 0, 0, (⟨0, 0, 0⟩ : T_Rest), ([] : List UInt8)⟩ : T_Act), (⟨5, v79, (IntKind.i64.wrap (v85 + 1)), 0, 0, (⟨0, 0, 0⟩ : T_Rest), ([] : List UInt8)⟩ : T_Act)] : List T_Act).length) + 192) * 80 ≤ 281474976710656)) (cond (v82 == v83) (cond (decide ((2 * ((v84 ++ ([(⟨3, v79, v86, v80, 0, v88, ([] : List UInt8)⟩ : T_Act), (⟨4, v82, v85, 0, 0, (⟨0, 0, 0⟩ : T_Rest), ([] : List UInt8)⟩ : T_Act), (⟨5, v79, (IntKind.i64.wrap (v85 + 1)), 0, 0, (⟨0, 0, 0⟩ : T_Rest), ([] : List UInt8)⟩ : T_Act)] : List T_Act)).length + ([(⟨6, v79, (IntKind.i64.wrap (v86 + 1)), v81, 0, (⟨0, 0, 0⟩ : T_Rest), ([] : List UInt8)⟩ : T_Act), (⟨7, v80, (IntKind.i64.wrap (v85 + 2)), 0, 0, (⟨0, 0, 0⟩ : T_Rest), ([] : List UInt8)⟩ : T_Act)] : List T_Act).length) + 192) * 80 ≤ 281474976710656)) (some ((v84 ++ ([(⟨3, v79, v86, v80, 0, v88, ([] : List UInt8)⟩ : T_Act), (⟨4, v82, v85, 0, 0, (⟨0, 0, 0⟩ : T_Rest), ([] : List UInt8)⟩ : T_Act), (⟨5, v79, (IntKind.i64.wrap (v85 + 1)), 0, 0, (⟨0, 0, 0⟩ : T_Rest), ([] : List UInt8)⟩ : T_Act)] : List T_Act)) ++ ([(⟨6, v79, (IntKind.i64.wrap (v86 + 1)), v81, 0, (⟨0, 0, 0⟩ : T_Rest), ([] : List UInt8)⟩ : T_Act), (⟨7, v80, (IntKind.i64.wrap (v85 + 2)), 0, 0, (⟨0, 0, 0⟩ : T_Rest), ([] : List UInt8)⟩ : T_Act)] : List T_Act))) none) ((I_NextHop k2 v87 v82 v83).bind fun r91 => cond (decide (r91 < 0)) (some ([] : List T_Act)) ((I_Flow.l2 k2) v79 v80 v81 r91 v83 (v84 ++ ([(⟨3, v79, v86, v80, 0, v88, ([] : List UInt8)⟩ : T_Act), (⟨4, v82, v85, 0, 0, (⟨0, 0, 0⟩ : T_Rest), ([] : List UInt8)⟩ : T_Act), (⟨5, v79, (IntKind.i64.wrap (v85 + 1)), 0, 0, (⟨0, 0, 0⟩ : T_Rest), ([] : List UInt8)⟩ : T_Act)] : List T_Act)) (IntKind.i64.wrap (v85 + 2)) (IntKind.i64.wrap (v86 + 1)) v87 v88))) none
def I_Flow (k : Nat) (a0 : T_Config) (a1 a2 : Int) (a3 : T_Rest) (a4 : Int) : Option (List T_Act) := (I_ConfigOk k a0).bind fun r16 => cond (!r16) (some ([] : List T_Act)) ((I_isPrincipal k a1).bind fun r17 => cond (!r17) (some ([] : List T_Act)) ((I_isService k a2).bind fun r18 => cond (!r18) (some ([] : List T_Act)) ((I_within k a4 0 7).bind fun r19 => cond (!r19) (some ([] : List T_Act)) ((I_RestOk k a3).bind fun r20 => cond (!r20) (some ([] : List T_Act)) ((I_RealmOf k a0 a1).bind fun r21 => (at? a0.ServiceRealm a2).bind fun b22 => I_Flow.l2 k a1 a2 a4 r21 b22 ([(⟨2, a1, 0, 0, 0, (⟨0, 0, 0⟩ : T_Rest), ([] : List UInt8)⟩ : T_Act), (⟨4, r21, 0, 0, 0, (⟨0, 0, 0⟩ : T_Rest), ([] : List UInt8)⟩ : T_Act), (⟨5, a1, 1, 0, 0, (⟨0, 0, 0⟩ : T_Rest), ([] : List UInt8)⟩ : T_Act)] : List T_Act) 2 0 a0 a3)))))
theorem ent18 : MG.Enters Tryz.prog 18 := en func18
theorem g18 (k : Nat) (g0 g1 g2 g3 : Bool) (a0 : T_Config) (a1 a2 : Int) (a3 : T_Rest) (a4 : Int) (r : List T_Act) (H : I_Flow k a0 a1 a2 a3 a4 = some r) : Gives Tryz.prog 18 [V.agg (bT_Config g0 g1 g2 g3 a0), V.one (cI a1), V.one (cI a2), V.agg (bT_Rest a3), V.one (cI a4)] [] [V.one (Cell.ow 9 (List.map eT_Act r))] [] := by
 refine Gives.intro func18 rfl rfl rfl rfl ?_; refine fx fun w0 T S0 ob oh hm => ?_
 have hF := fxe w0 T S0 94 ob oh
 unfold I_Flow at H; obtain ⟨K, hK⟩ := leK k; refine sr ?_; refine bo 11 ?_; refine bo 12 ?_; refine gn 1 ?_; refine WpC.seq (sr ?_); refine lp shape27 ?_; refine cB 13 ent54 (g54 k g0 g1 g2 g3 a0) H fun r16 H => ?_; refine go 2 ?_; refine sH H (fun hc H => ?_) (fun hc H => ?_)
 ·refine gn 19 ?_; refine cT ?_; refine sr ?_; refine L.buildSlice (e := eT_Act) 14 ([] : List T_Act) underlying32 info63 rfl rfl rfl hF rfl rfl rfl rfl rfl rfl rfl rfl ?_; refine gn 1 ?_; cases H; exact WpC.ret rt
 ·refine mv ?_; refine cB 14 ent53 (g53 k  a1) H fun r17 H => ?_; refine go 3 ?_; refine sH H (fun hc H => ?_) (fun hc H => ?_)
  ·refine gn 14 ?_; refine cT ?_; refine sr ?_; refine L.buildSlice (e := eT_Act) 15 ([] : List T_Act) underlying32 info63 rfl rfl rfl hF rfl rfl rfl rfl rfl rfl rfl rfl ?_; refine gn 1 ?_; cases H; exact WpC.ret rt
  ·refine mv ?_; refine cB 15 ent55 (g55 k  a2) H fun r18 H => ?_; refine go 3 ?_; refine sH H (fun hc H => ?_) (fun hc H => ?_)
   ·refine gn 9 ?_; refine cT ?_; refine sr ?_; refine L.buildSlice (e := eT_Act) 16 ([] : List T_Act) underlying32 info63 rfl rfl rfl hF rfl rfl rfl rfl rfl rfl rfl rfl ?_; refine gn 1 ?_; cases H; exact WpC.ret rt
   ·refine mv ?_; refine cB 16 ent52 (g52 k  a4 0 7) H fun r19 H => ?_; refine go 3 ?_; refine sH H (fun hc H => ?_) (fun hc H => ?_)
    ·refine gn 4 ?_; refine cT ?_; refine sr ?_; refine L.buildSlice (e := eT_Act) 17 ([] : List T_Act) underlying32 info63 rfl rfl rfl hF rfl rfl rfl rfl rfl rfl rfl rfl ?_; refine gn 1 ?_; cases H; exact WpC.ret rt
    ·refine lp shape29 ?_; refine cB 17 ent56 (g56 k  a3) H fun r20 H => ?_; refine gn 2 ?_; refine cd H (fun hc H => ?_) (fun hc H => ?_)
     ·refine sr ?_; refine L.buildSlice (e := eT_Act) 18 ([] : List T_Act) underlying32 info63 rfl rfl rfl hF rfl rfl rfl rfl rfl rfl rfl rfl ?_; refine gn 1 ?_; cases H; exact WpC.ret rt
     ·refine WpC.skip (WpC.seq ?_); obtain ⟨r21, hr21, H⟩ := bindS H; obtain ⟨b22, hb22, H⟩ := bindS H
      apply ldT ⟨[e0 1 _, e0 2 _, e0 4 _, e0 5 _, e0 8 _, ed 11 9 _, ed 12 10 _, ed 40 1 _, ed 41 2 _, ed 42 3 _, ed 43 4 _, ed 44 5 _, ed 45 6 _, ed 46 7 _, ed 47 8 _], [], [e0 11 _, e0 12 _], 19, []⟩ [(0, 772), (0, 772), (3, 768), (0, 720), (8, 704), (0, 704), (56, 640), (120, 512), (7, 512), (511, 0)] mixed ?L1 ?_
      case L1 =>
       repeat refine ls ?_
       apply lc 19 18 1 [42] [] [] ?h1_2 ?q1_2 ?_
       case h1_2 =>
        intro b; refine c0 19 ent57 (g57 k g0 g1 g2 g3 a0 a1 r21 hr21) ?_; exact L.nil ⟨rfl, rfl, rfl, rfl⟩
       case' q1_2 => skip
       repeat refine ls ?_
       apply lc 19 19 0 [46] [] [] ?h1_6 ?q1_6 ?_
       case h1_6 =>
        intro b; refine ix underlying24 info3 hb22 ?_; exact L.nil ⟨rfl, rfl, rfl, rfl⟩
       case' q1_6 => skip
       repeat refine ls ?_
       exact trivial
       all_goals exact lq
      refine sy 1 ?_; refine bf built63 ?_; refine mv ?_; refine bf built63 ?_; refine mv ?_; refine bf built63 ?_; refine L.buildSlice (e := eT_Act) 19 ([(⟨2, a1, 0, 0, 0, (⟨0, 0, 0⟩ : T_Rest), ([] : List UInt8)⟩ : T_Act), (⟨4, r21, 0, 0, 0, (⟨0, 0, 0⟩ : T_Rest), ([] : List UInt8)⟩ : T_Act), (⟨5, a1, 1, 0, 0, (⟨0, 0, 0⟩ : T_Rest), ([] : List UInt8)⟩ : T_Act)] : List T_Act) underlying32 info63 rfl rfl rfl hF rfl rfl rfl rfl rfl rfl rfl rfl ?_; refine gn 1 ?_; refine sg 2 ?_; refine WpC.seq (WpC.block ?_)
      refine WpC.loopL (P := Tryz.prog) (fun n σ => ∃ (v79 v80 v81 v82 v83 : Int) (v84 : List T_Act) (v85 v86 : Int) (v87 : T_Config) (v88 : T_Rest), n ≤ K ∧ I_Flow.l2 n v79 v80 v81 v82 v83 v84 v85 v86 v87 v88 = some r ∧ σ = mkSt [(1, oI v79), (2, oI v80), (4, oI v81), (5, oP 0 0), (8, oP 1 0), (11, oI v82), (12, oI v83), (13, MG.one (Cell.own 2)), (14, oI v85), (15, oI v86)] [(2, ⟨9, List.map eT_Act v84⟩)] [(0, (bT_Config g0 g1 g2 g3 v87)), (1, (bT_Rest v88))] 3) k ⟨_, ⟨a1, a2, a4, r21, b22, ([(⟨2, a1, 0, 0, 0, (⟨0, 0, 0⟩ : T_Rest), ([] : List UInt8)⟩ : T_Act), (⟨4, r21, 0, 0, 0, (⟨0, 0, 0⟩ : T_Rest), ([] : List UInt8)⟩ : T_Act), (⟨5, a1, 1, 0, 0, (⟨0, 0, 0⟩ : T_Rest), ([] : List UInt8)⟩ : T_Act)] : List T_Act), 2, 0, a0, a3, by omega, H, rfl⟩, lm [(0, 11), (1, 12), (2, 19)] hm⟩ ?_; clear H
      rintro k2 _ ⟨v79, v80, v81, v82, v83, v84, v85, v86, v87, v88, hk2, H, rfl⟩
      cases k2 with
      | zero => cases H
      | succ k2 =>
       rw [I_Flow.l2] at H
       refine WpC.block (sr ?_); refine go 5 ?_; refine bf built63 ?_; refine go 2 ?_; refine bf built63 ?_; refine go 3 ?_; refine bf built63 ?_; refine L.buildSlice (e := eT_Act) 3 ([(⟨3, v79, v86, v80, 0, v88, ([] : List UInt8)⟩ : T_Act), (⟨4, v82, v85, 0, 0, (⟨0, 0, 0⟩ : T_Rest), ([] : List UInt8)⟩ : T_Act), (⟨5, v79, (IntKind.i64.wrap (v85 + 1)), 0, 0, (⟨0, 0, 0⟩ : T_Rest), ([] : List UInt8)⟩ : T_Act)] : List T_Act) underlying32 info63 rfl rfl rfl hF rfl rfl rfl rfl rfl rfl rfl rfl ?_; obtain ⟨h89, H⟩ := condG H; refine L.append (xs := v84) (ys := ([(⟨3, v79, v86, v80, 0, v88, ([] : List UInt8)⟩ : T_Act), (⟨4, v82, v85, 0, 0, (⟨0, 0, 0⟩ : T_Rest), ([] : List UInt8)⟩ : T_Act), (⟨5, v79, (IntKind.i64.wrap (v85 + 1)), 0, 0, (⟨0, 0, 0⟩ : T_Rest), ([] : List UInt8)⟩ : T_Act)] : List T_Act)) (e := eT_Act) 4 underlying32 info63 rfl rfl hF rfl rfl rfl rfl rfl rfl rfl rfl (fun _ => rfl) (fun _ _ h1 h2 => by cases h1; cases h2; rfl) ⟨_, underlying32⟩ (of_decide_eq_true h89) rfl rfl ?_; refine gn 1 ?_; refine sy 1 ?_
       refine gn 2 ?_; refine sg 3 ?_; refine WpC.seq (sr ?_); refine gn 3 ?_; refine cd H (fun hc H => ?_) (fun hc H => ?_)
       ·refine WpC.exit (sr ?_); refine go 4 ?_; refine bf built63 ?_; refine go 2 ?_; refine bf built63 ?_; refine L.buildSlice (e := eT_Act) 5 ([(⟨6, v79, (IntKind.i64.wrap (v86 + 1)), v81, 0, (⟨0, 0, 0⟩ : T_Rest), ([] : List UInt8)⟩ : T_Act), (⟨7, v80, (IntKind.i64.wrap (v85 + 2)), 0, 0, (⟨0, 0, 0⟩ : T_Rest), ([] : List UInt8)⟩ : T_Act)] : List T_Act) underlying32 info63 rfl rfl rfl hF rfl rfl rfl rfl rfl rfl rfl rfl ?_; obtain ⟨h90, H⟩ := condG H
        refine L.append (xs := (v84 ++ ([(⟨3, v79, v86, v80, 0, v88, ([] : List UInt8)⟩ : T_Act), (⟨4, v82, v85, 0, 0, (⟨0, 0, 0⟩ : T_Rest), ([] : List UInt8)⟩ : T_Act), (⟨5, v79, (IntKind.i64.wrap (v85 + 1)), 0, 0, (⟨0, 0, 0⟩ : T_Rest), ([] : List UInt8)⟩ : T_Act)] : List T_Act))) (ys := ([(⟨6, v79, (IntKind.i64.wrap (v86 + 1)), v81, 0, (⟨0, 0, 0⟩ : T_Rest), ([] : List UInt8)⟩ : T_Act), (⟨7, v80, (IntKind.i64.wrap (v85 + 2)), 0, 0, (⟨0, 0, 0⟩ : T_Rest), ([] : List UInt8)⟩ : T_Act)] : List T_Act)) (e := eT_Act) 6 underlying32 info63 rfl rfl hF rfl rfl rfl rfl rfl rfl rfl rfl (fun _ => rfl) (fun _ _ h1 h2 => by cases h1; cases h2; rfl) ⟨_, underlying32⟩ (of_decide_eq_true h90) rfl rfl ?_; refine gn 1 ?_; cases H; exact WpC.ret rt
       ·refine WpC.skip (sr ?_); refine go 3 ?_; refine cB 5 ent58 (g58 k2 g0 g1 g2 g3 v87 v82 v83) H fun r91 H => ?_; refine gn 1 ?_; refine sg 2 ?_; refine cd H (fun hc H => ?_) (fun hc H => ?_)
        ·refine sr ?_; refine L.buildSlice (e := eT_Act) 6 ([] : List T_Act) underlying32 info63 rfl rfl rfl hF rfl rfl rfl rfl rfl rfl rfl rfl ?_; refine gn 1 ?_; cases H; exact WpC.ret rt
        ·refine WpC.skip ?_; exact ⟨k2, _, by omega, ⟨v79, v80, v81, r91, v83, (v84 ++ ([(⟨3, v79, v86, v80, 0, v88, ([] : List UInt8)⟩ : T_Act), (⟨4, v82, v85, 0, 0, (⟨0, 0, 0⟩ : T_Rest), ([] : List UInt8)⟩ : T_Act), (⟨5, v79, (IntKind.i64.wrap (v85 + 1)), 0, 0, (⟨0, 0, 0⟩ : T_Rest), ([] : List UInt8)⟩ : T_Act)] : List T_Act)), (IntKind.i64.wrap (v85 + 2)), (IntKind.i64.wrap (v86 + 1)), v87, v88, by omega, H, rfl⟩, lm [(0, 0), (1, 1), (2, 4)] hm⟩
/-! ### I_Play -/
def I_Play.l4 : Nat → (List Int) → (List T_Act) → Int → Int → T_World → Option (T_World × List Int)
 | 0, _, _, _, _, _ => none
 | k4 + 1, v59, v60, v61, v62, v63 => cond (decide (v62 < v61)) ((at? v60 v62).bind fun b67 => (I_WorldDo k4 v63 b67).bind fun r68 => cond (decide ((2 * (v59.length + ([r68.2] : List Int).length) + 192) * 8 ≤ 281474976710656)) ((I_Play.l4 k4) (v59 ++ ([r68.2] : List Int)) v60 v61 (IntKind.i64.wrap (v62 + 1)) r68.1) none) (some (v63, v59))
def I_Play.j2 (k : Nat) (v5 : List T_Act) (v6 : Bool) (v7 : T_World) : Option (T_World × List Int) := cond v6 (some ((⟨(⟨[], [], [], [], 0⟩ : T_Config), 0, 0, [], (⟨[], []⟩ : T_Known), [], [], [], [], [], []⟩ : T_World), [])) (I_Play.l4 k ([] : List Int) v5 (v5.length : Int) 0 v7)
def I_Play (k : Nat) (a0 : T_Config) (a1 : List T_Act) : Option (T_World × List Int) := (I_NewWorld k a0).bind fun r1 => cond (!r1.2) (I_Play.j2 k a1 true r1.1) (I_Play.j2 k a1 (decide ((a1.length : Int) > 120)) r1.1)
theorem ent11 : MG.Enters Tryz.prog 11 := en func11
theorem g11 (k : Nat) (g0 g1 g2 g3 g4 : Bool) (a0 : T_Config) (a1 : List T_Act) (r : T_World × List Int) (H : I_Play k a0 a1 = some r) : Gives Tryz.prog 11 [V.agg (bT_Config g0 g1 g2 g3 a0), V.one (Cell.sl g4 (List.map eT_Act a1))] [] [V.agg [Cell.ow 1 (List.map eI r.1.Config.UserRealm), Cell.ow 1 (List.map eI r.1.Config.ServiceRealm), Cell.ow 2 (List.map eT_Pair r.1.Config.Links), Cell.ow 2 (List.map eT_Pair r.1.Config.Proxy), cI r.1.Config.Skew, cI r.1.Now, cI r.1.Fresh, Cell.ow 1 (List.map eS r.1.Net), Cell.ow 1 (List.map eS r.1.Known.Terms), Cell.ow 1 (List.map eI r.1.Known.Keys), Cell.ow 4 (List.map eT_Wait r.1.Waits), Cell.ow 8 (List.map eT_Cred r.1.Creds), Cell.ow 2 (List.map eT_Cache r.1.Caches), Cell.ow 11 (List.map eT_Event r.1.Log), Cell.ow 15 (List.map eT_Accept r.1.Accepts), Cell.ow 1 (List.map eI r.1.Leaked)], V.one (Cell.ow 1 (List.map eI r.2))] [] := by
 refine Gives.intro func11 rfl rfl rfl rfl ?_; refine fx fun w0 T S0 ob oh hm => ?_
 have hF := fxe w0 T S0 47 ob oh
 unfold I_Play at H; obtain ⟨K, hK⟩ := leK k; refine sr ?_; refine bo 6 ?_; refine alc 7 info43 ?_; refine gn 1 ?_; refine sy 1 ?_; refine cB 8 ent42 (g42 k g0 g1 g2 g3 a0) H fun r1 H => ?_; refine go 3 ?_; refine alc 25 info43 ?_; refine gn 2 ?_; refine WpC.seq ?_
 refine WpC.join (fun σ => ∃ (kj2 : Nat) (v5 : List T_Act) (v6 : Bool) (v7 : T_World), kj2 ≤ K ∧ I_Play.j2 kj2 v5 v6 v7 = some r ∧ σ = mkSt [(1, MG.one (Cell.sl g4 (List.map eT_Act v5))), (4, oP 0 0), (6, oP 1 0), (24, oL v6)] [(2, ⟨1, List.map eI v7.Config.UserRealm⟩), (3, ⟨1, List.map eI v7.Config.ServiceRealm⟩), (4, ⟨2, List.map eT_Pair v7.Config.Links⟩), (5, ⟨2, List.map eT_Pair v7.Config.Proxy⟩), (6, ⟨1, List.map eS v7.Net⟩), (7, ⟨1, List.map eS v7.Known.Terms⟩), (8, ⟨1, List.map eI v7.Known.Keys⟩), (9, ⟨4, List.map eT_Wait v7.Waits⟩), (10, ⟨8, List.map eT_Cred v7.Creds⟩), (11, ⟨2, List.map eT_Cache v7.Caches⟩), (12, ⟨11, List.map eT_Event v7.Log⟩), (13, ⟨15, List.map eT_Accept v7.Accepts⟩), (14, ⟨1, List.map eI v7.Leaked⟩)] [(0, zc1), (1, [Cell.own 2, Cell.own 3, Cell.own 4, Cell.own 5, cI v7.Config.Skew, cI v7.Now, cI v7.Fresh, Cell.own 6, Cell.own 7, Cell.own 8, Cell.own 9, Cell.own 10, Cell.own 11, Cell.own 12, Cell.own 13, Cell.own 14])] 15) ?_ ?_
 ·rintro _ ⟨kj2, v5, v6, v7, hkj2, H, rfl⟩
  unfold I_Play.j2 at H; refine cd H (fun hc H => ?_) (fun hc H => ?_)
  ·refine sr ?_; refine bf built43 ?_; refine gn 2 ?_; refine WpC.le (Le.ownB 0 0 15 1 rfl rfl rfl) ?_; refine WpC.le (Le.ownB 0 1 16 1 rfl rfl rfl) ?_; refine WpC.le (Le.ownB 0 2 17 2 rfl rfl rfl) ?_; refine WpC.le (Le.ownB 0 3 18 2 rfl rfl rfl) ?_; refine WpC.le (Le.ownB 0 7 19 1 rfl rfl rfl) ?_; refine WpC.le (Le.ownB 0 8 20 1 rfl rfl rfl) ?_; refine WpC.le (Le.ownB 0 9 21 1 rfl rfl rfl) ?_; refine WpC.le (Le.ownB 0 10 22 4 rfl rfl rfl) ?_; refine WpC.le (Le.ownB 0 11 23 8 rfl rfl rfl) ?_; refine WpC.le (Le.ownB 0 12 24 2 rfl rfl rfl) ?_; refine WpC.le (Le.ownB 0 13 25 11 rfl rfl rfl) ?_; refine WpC.le (Le.ownB 0 14 26 15 rfl rfl rfl) ?_; refine WpC.le (Le.ownB 0 15 27 1 rfl rfl rfl) ?_; refine WpC.le (Le.own 5 0 28 1 rfl rfl rfl) ?_; cases H; exact WpC.ret rt
  ·refine WpC.skip (sr ?_); refine L.buildSlice (e := eI) 15 ([] : List Int) underlying24 info3 rfl rfl rfl hF rfl rfl rfl rfl rfl rfl rfl rfl ?_; refine gn 1 ?_; refine WpC.seq (sr ?_); refine mv ?_; refine L.lenR (xs := v5) (e := eT_Act) underlying32 hF rfl rfl rfl rfl ?_; refine gn 1 ?_; refine WpC.block ?_
   refine WpC.loopL (P := Tryz.prog) (fun n σ => ∃ (v59 : List Int) (v60 : List T_Act) (v61 v62 : Int) (v63 : T_World), n ≤ K ∧ I_Play.l4 n v59 v60 v61 v62 v63 = some r ∧ σ = mkSt [(4, oP 0 0), (6, oP 1 0), (8, MG.one (Cell.own 2)), (27, MG.one (Cell.sl g4 (List.map eT_Act v60))), (28, oI v61), (29, oI v62)] [(2, ⟨1, List.map eI v59⟩), (3, ⟨1, List.map eI v63.Config.UserRealm⟩), (4, ⟨1, List.map eI v63.Config.ServiceRealm⟩), (5, ⟨2, List.map eT_Pair v63.Config.Links⟩), (6, ⟨2, List.map eT_Pair v63.Config.Proxy⟩), (7, ⟨1, List.map eS v63.Net⟩), (8, ⟨1, List.map eS v63.Known.Terms⟩), (9, ⟨1, List.map eI v63.Known.Keys⟩), (10, ⟨4, List.map eT_Wait v63.Waits⟩), (11, ⟨8, List.map eT_Cred v63.Creds⟩), (12, ⟨2, List.map eT_Cache v63.Caches⟩), (13, ⟨11, List.map eT_Event v63.Log⟩), (14, ⟨15, List.map eT_Accept v63.Accepts⟩), (15, ⟨1, List.map eI v63.Leaked⟩)] [(0, zc1), (1, [Cell.own 3, Cell.own 4, Cell.own 5, Cell.own 6, cI v63.Config.Skew, cI v63.Now, cI v63.Fresh, Cell.own 7, Cell.own 8, Cell.own 9, Cell.own 10, Cell.own 11, Cell.own 12, Cell.own 13, Cell.own 14, Cell.own 15])] 16) kj2 ⟨_, ⟨([] : List Int), v5, (v5.length : Int), 0, v7, by omega, H, rfl⟩, lm [(0, 0), (1, 1), (2, 15), (3, 2), (4, 3), (5, 4), (6, 5), (7, 6), (8, 7), (9, 8), (10, 9), (11, 10), (12, 11), (13, 12), (14, 13), (15, 14)] hm⟩ ?_
   clear H
   rintro k4 _ ⟨v59, v60, v61, v62, v63, hk4, H, rfl⟩
   cases k4 with
   | zero => cases H
   | succ k4 =>
    rw [I_Play.l4] at H
    refine sg 1 ?_; refine WpC.seq ?_; refine cd H (fun hc H => ?_) (fun hc H => ?_)
    ·refine WpC.skip (WpC.seq (WpC.block (sr ?_))); obtain ⟨b67, hb67, H⟩ := bindS H; refine ix underlying32 info63 hb67 ?_; refine le shape63 ?_; refine alc 16 info63 ?_; refine gn 1 ?_; refine sy 2 ?_; obtain ⟨r68, hr68, H⟩ := bindS H; refine ca [false, false] [3, 4, 5, 6, 7, 8, 9, 10, 11, 12, 13, 14, 15] [] 17 ent43 (g43 k4 false false false false false false false false false false false false false v63 b67 r68 hr68) ?_; refine go 3 ?_; refine alc 34 info43 ?_; refine gn 2 ?_; refine sg 2 ?_; refine WpC.regionL ?_; refine go 2 ?_; refine L.buildSlice (e := eI) 35 ([r68.2] : List Int) underlying24 info3 rfl rfl rfl hF rfl rfl rfl rfl rfl rfl rfl rfl ?_; obtain ⟨h69, H⟩ := condG H; refine L.append (xs := v59) (ys := ([r68.2] : List Int)) (e := eI) 36 underlying24 info3 rfl rfl hF rfl rfl rfl rfl rfl rfl rfl rfl (fun _ => rfl) (fun _ _ h1 h2 => by cases h1; cases h2; rfl) ⟨_, underlying24⟩ (of_decide_eq_true h69) rfl rfl ?_; refine gn 1 ?_; refine WpC.regionL ?_; refine gn 2 ?_
     exact ⟨k4, _, by omega, ⟨(v59 ++ ([r68.2] : List Int)), v60, v61, (IntKind.i64.wrap (v62 + 1)), r68.1, by omega, H, rfl⟩, lm [(0, 0), (1, 1), (2, 36), (3, 17), (4, 18), (5, 19), (6, 20), (7, 24), (8, 25), (9, 26), (10, 27), (11, 28), (12, 29), (13, 30), (14, 31), (15, 32)] hm⟩
    ·refine WpC.exit (sr ?_); refine gn 4 ?_; cases H; exact WpC.ret rt
 ·refine WpC.regionL ?_; refine go 3 ?_; refine sH H (fun hc H => ?_) (fun hc H => ?_)
  ·refine gn 4 ?_; exact ⟨_, ⟨k, a1, true, r1.1, by omega, H, rfl⟩, lm [(0, 7), (1, 25), (2, 8), (3, 9), (4, 10), (5, 11), (6, 15), (7, 16), (8, 17), (9, 18), (10, 19), (11, 20), (12, 21), (13, 22), (14, 23)] hm⟩
  ·refine mv ?_; refine L.lenR (xs := a1) (e := eT_Act) underlying32 hF rfl rfl rfl rfl ?_; refine gn 2 ?_; exact ⟨_, ⟨k, a1, (decide ((a1.length : Int) > 120)), r1.1, by omega, H, rfl⟩, lm [(0, 7), (1, 25), (2, 8), (3, 9), (4, 10), (5, 11), (6, 15), (7, 16), (8, 17), (9, 18), (10, 19), (11, 20), (12, 21), (13, 22), (14, 23)] hm⟩
/-! ### I_World_line -/
def I_World_line.j10 (k : Nat) (v164 : List Int) (v165 : Bool) (v166 : T_World) : Option (List UInt8 × T_World) := cond v165 ((I_deskConfig k ).bind fun r167 => (at? v164 0).bind fun b168 => (at? v164 1).bind fun b169 => (at? v164 2).bind fun b170 => (at? v164 3).bind fun b171 => (at? v164 4).bind fun b172 => (at? v164 5).bind fun b173 => (I_Flow k r167 b168 b169 (⟨b170, b171, b172⟩ : T_Rest) b173).bind fun r174 => (I_Play k r167 r174).bind fun r175 => (I_yesNo k (decide ((r175.1.Accepts.length : Int) > 0))).bind fun r176 => some (r176, r175.1)) (some (([119, 104, 97, 116] : List UInt8), v166))
def I_World_line.j9 (k : Nat) (v150 : List (List UInt8)) (v151 : List Int) (v152 : Bool) (v153 : T_World) : Option (List UInt8 × T_World) := cond v152 (cond (decide ((2 * (v151.length + ([0] : List Int).length) + 192) * 8 ≤ 281474976710656)) ((at? (v151 ++ ([0] : List Int)) 0).bind fun b155 => (at? (v151 ++ ([0] : List Int)) 1).bind fun b156 => (at? (v151 ++ ([0] : List Int)) 2).bind fun b157 => (at? (v151 ++ ([0] : List Int)) 3).bind fun b158 => (at? (v151 ++ ([0] : List Int)) 4).bind fun b159 => (at? (v151 ++ ([0] : List Int)) 5).bind fun b160 => (at? (v151 ++ ([0] : List Int)) 6).bind fun b161 => (I_World_act k (⟨3, b155, b156, b157, b161, (⟨b158, b159, b160⟩ : T_Rest), ([] : List UInt8)⟩ : T_Act) v153).bind fun r162 => some (r162.1, r162.2)) none) ((at? v150 0).bind fun b177 => cond (b177 == ([102, 108, 111, 119] : List UInt8)) (I_World_line.j10 k v151 ((v151.length : Int) == 6) v153) (I_World_line.j10 k v151 false v153))
def I_World_line.j8 (k : Nat) (v141 : List (List UInt8)) (v142 : List Int) (v143 : Bool) (v144 : T_World) : Option (List UInt8 × T_World) := cond v143 ((at? v142 0).bind fun b145 => (at? v142 1).bind fun b146 => (at? v142 2).bind fun b147 => (I_World_act k (⟨6, b145, b146, b147, 0, (⟨0, 0, 0⟩ : T_Rest), ([] : List UInt8)⟩ : T_Act) v144).bind fun r148 => some (r148.1, r148.2)) ((at? v141 0).bind fun b178 => cond (b178 == ([97, 115, 107] : List UInt8)) (cond ((v142.length : Int) == 6) (I_World_line.j9 k v141 v142 true v144) (I_World_line.j9 k v141 v142 ((v142.length : Int) == 7) v144)) (I_World_line.j9 k v141 v142 false v144))
def I_World_line.l4 : Nat → (List (List UInt8)) → (List Int) → (List (List UInt8)) → Int → Int → T_World → Option (List UInt8 × T_World)
 | 0, _, _, _, _, _, _ => none
 | k4 + 1, v74, v75, v76, v77, v78, v79 => cond (decide (v78 < v77)) ((at? v76 v78).bind fun b83 => (I_ReadDec k4 b83).bind fun r84 => cond (!r84.2) (some (([119, 104, 97, 116] : List UInt8), v79)) (cond (decide ((2 * (v75.length + ([r84.1] : List Int).length) + 192) * 8 ≤ 281474976710656)) ((I_World_line.l4 k4) v74 (v75 ++ ([r84.1] : List Int)) v76 v77 (IntKind.i64.wrap (v78 + 1)) v79) none)) (cond ((v75.length : Int) == 0) ((at? v74 0).bind fun b93 => (I_World_bare k4 b93 v79).bind fun r94 => some (r94, v79)) (cond ((v75.length : Int) == 1) ((at? v74 0).bind fun b95 => (at? v75 0).bind fun b96 => (I_World_one k4 b95 b96 v79).bind fun r97 => some (r97.1, r97.2)) (cond ((v75.length : Int) == 2) ((at? v74 0).bind fun b98 => (I_World_two k4 b98 v75 v79).bind fun r99 => some (r99.1, r99.2)) ((at? v74 0).bind fun b179 => cond (b179 == ([97, 112, 112, 108, 121] : List UInt8)) (I_World_line.j8 k4 v74 v75 ((v75.length : Int) == 3) v79) (I_World_line.j8 k4 v74 v75 false v79)))))
def I_World_line.j2 (k : Nat) (v10 : List (List UInt8)) (v11 : Bool) (v12 : T_World) : Option (List UInt8 × T_World) := cond v11 ((at? v10 1).bind fun b13 => (I_Unhex k b13).bind fun r14 => cond (!r14.2) (some (([119, 104, 97, 116] : List UInt8), v12)) ((I_World_act k (⟨9, 0, 0, 0, 0, (⟨0, 0, 0⟩ : T_Rest), r14.1⟩ : T_Act) v12).bind fun r15 => some (r15.1, r15.2))) ((part? v10 1 (v10.length : Int)).bind fun b51 => I_World_line.l4 k v10 ([] : List Int) b51 (b51.length : Int) 0 v12)
def I_World_line (k : Nat) (a1 : List (List UInt8)) (o0 : T_World) : Option (List UInt8 × T_World) := (at? a1 0).bind fun b180 => cond (b180 == ([102, 111, 114, 103, 101] : List UInt8)) (I_World_line.j2 k a1 ((a1.length : Int) == 2) o0) (I_World_line.j2 k a1 false o0)
theorem ent65 : MG.Enters Tryz.prog 65 := en func65
theorem g65 (k : Nat) (g0 : Bool) (a1 : List (List UInt8)) (o0 : T_World) (r : List UInt8 × T_World) (H : I_World_line k a1 o0 = some r) : Gives Tryz.prog 65 [V.one (Cell.ptr 0 0), V.one (Cell.sl g0 (List.map eS a1))] [[Cell.ow 1 (List.map eI o0.Config.UserRealm), Cell.ow 1 (List.map eI o0.Config.ServiceRealm), Cell.ow 2 (List.map eT_Pair o0.Config.Links), Cell.ow 2 (List.map eT_Pair o0.Config.Proxy), cI o0.Config.Skew, cI o0.Now, cI o0.Fresh, Cell.ow 1 (List.map eS o0.Net), Cell.ow 1 (List.map eS o0.Known.Terms), Cell.ow 1 (List.map eI o0.Known.Keys), Cell.ow 4 (List.map eT_Wait o0.Waits), Cell.ow 8 (List.map eT_Cred o0.Creds), Cell.ow 2 (List.map eT_Cache o0.Caches), Cell.ow 11 (List.map eT_Event o0.Log), Cell.ow 15 (List.map eT_Accept o0.Accepts), Cell.ow 1 (List.map eI o0.Leaked)]] [V.one (cS r.1)] [[Cell.ow 1 (List.map eI r.2.Config.UserRealm), Cell.ow 1 (List.map eI r.2.Config.ServiceRealm), Cell.ow 2 (List.map eT_Pair r.2.Config.Links), Cell.ow 2 (List.map eT_Pair r.2.Config.Proxy), cI r.2.Config.Skew, cI r.2.Now, cI r.2.Fresh, Cell.ow 1 (List.map eS r.2.Net), Cell.ow 1 (List.map eS r.2.Known.Terms), Cell.ow 1 (List.map eI r.2.Known.Keys), Cell.ow 4 (List.map eT_Wait r.2.Waits), Cell.ow 8 (List.map eT_Cred r.2.Creds), Cell.ow 2 (List.map eT_Cache r.2.Caches), Cell.ow 11 (List.map eT_Event r.2.Log), Cell.ow 15 (List.map eT_Accept r.2.Accepts), Cell.ow 1 (List.map eI r.2.Leaked)]] := by
 refine Gives.intro func65 rfl rfl rfl rfl ?_; refine fx fun w0 T S0 ob oh hm => ?_
 have hF := fxe w0 T S0 193 ob oh
 unfold I_World_line at H; obtain ⟨K, hK⟩ := leK k; refine sg 1 ?_; refine WpC.seq ?_; refine WpC.join (fun σ => ∃ (kj2 : Nat) (v10 : List (List UInt8)) (v11 : Bool) (v12 : T_World), kj2 ≤ K ∧ I_World_line.j2 kj2 v10 v11 v12 = some r ∧ σ = mkSt [(0, oP 0 0), (1, MG.one (Cell.sl g0 (List.map eS v10))), (21, oL v11)] [(1, ⟨1, List.map eI v12.Config.UserRealm⟩), (2, ⟨1, List.map eI v12.Config.ServiceRealm⟩), (3, ⟨2, List.map eT_Pair v12.Config.Links⟩), (4, ⟨2, List.map eT_Pair v12.Config.Proxy⟩), (5, ⟨1, List.map eS v12.Net⟩), (6, ⟨1, List.map eS v12.Known.Terms⟩), (7, ⟨1, List.map eI v12.Known.Keys⟩), (8, ⟨4, List.map eT_Wait v12.Waits⟩), (9, ⟨8, List.map eT_Cred v12.Creds⟩), (10, ⟨2, List.map eT_Cache v12.Caches⟩), (11, ⟨11, List.map eT_Event v12.Log⟩), (12, ⟨15, List.map eT_Accept v12.Accepts⟩), (13, ⟨1, List.map eI v12.Leaked⟩)] [(0, [Cell.own 1, Cell.own 2, Cell.own 3, Cell.own 4, cI v12.Config.Skew, cI v12.Now, cI v12.Fresh, Cell.own 5, Cell.own 6, Cell.own 7, Cell.own 8, Cell.own 9, Cell.own 10, Cell.own 11, Cell.own 12, Cell.own 13])] 14) ?_ ?_
 ·rintro _ ⟨kj2, v10, v11, v12, hkj2, H, rfl⟩
  unfold I_World_line.j2 at H; refine cd H (fun hc H => ?_) (fun hc H => ?_)
  ·refine sy 1 ?_; obtain ⟨b13, hb13, H⟩ := bindS H; refine ix underlying34 info9 hb13 ?_; refine le shape9 ?_; refine cB 14 ent122 (g122 kj2  b13) H fun r14 H => ?_; refine gn 5 ?_; refine WpC.seq (sr ?_); refine gn 2 ?_; refine cd H (fun hc H => ?_) (fun hc H => ?_)
   ·refine sg 1 ?_; cases H; exact WpC.ret rt
   ·refine WpC.skip (sr ?_); refine go 2 ?_; refine bf built63 ?_; obtain ⟨r15, hr15, H⟩ := bindS H; refine ca [false, false] [] [0] 16 ent123 (g123 kj2  (⟨9, 0, 0, 0, 0, (⟨0, 0, 0⟩ : T_Rest), r14.1⟩ : T_Act) v12 r15 hr15) ?_; refine gn 1 ?_; cases H; exact WpC.ret rt
  ·refine WpC.skip (sr ?_); refine L.buildSlice (e := eI) 14 ([] : List Int) underlying24 info3 rfl rfl rfl hF rfl rfl rfl rfl rfl rfl rfl rfl ?_; refine gn 1 ?_; refine WpC.seq (sr ?_); refine mv ?_; obtain ⟨b51, hb51, H⟩ := bindS H; refine L.cutR (xs := v10) (ys := b51) (e := eS) underlying34 info9 hF rfl rfl rfl rfl rfl hb51 (fun _ => rfl) ?_; refine L.lenR (xs := b51) (e := eS) underlying34 hF rfl rfl rfl rfl ?_; refine gn 1 ?_; refine WpC.block ?_
   refine WpC.loopL (P := Tryz.prog) (fun n σ => ∃ (v74 : List (List UInt8)) (v75 : List Int) (v76 : List (List UInt8)) (v77 v78 : Int) (v79 : T_World), n ≤ K ∧ I_World_line.l4 n v74 v75 v76 v77 v78 v79 = some r ∧ σ = mkSt [(0, oP 0 0), (1, MG.one (Cell.sl g0 (List.map eS v74))), (7, MG.one (Cell.own 1)), (37, MG.one (Cell.sl g0 (List.map eS v76))), (38, oI v77), (39, oI v78)] [(1, ⟨1, List.map eI v75⟩), (2, ⟨1, List.map eI v79.Config.UserRealm⟩), (3, ⟨1, List.map eI v79.Config.ServiceRealm⟩), (4, ⟨2, List.map eT_Pair v79.Config.Links⟩), (5, ⟨2, List.map eT_Pair v79.Config.Proxy⟩), (6, ⟨1, List.map eS v79.Net⟩), (7, ⟨1, List.map eS v79.Known.Terms⟩), (8, ⟨1, List.map eI v79.Known.Keys⟩), (9, ⟨4, List.map eT_Wait v79.Waits⟩), (10, ⟨8, List.map eT_Cred v79.Creds⟩), (11, ⟨2, List.map eT_Cache v79.Caches⟩), (12, ⟨11, List.map eT_Event v79.Log⟩), (13, ⟨15, List.map eT_Accept v79.Accepts⟩), (14, ⟨1, List.map eI v79.Leaked⟩)] [(0, [Cell.own 2, Cell.own 3, Cell.own 4, Cell.own 5, cI v79.Config.Skew, cI v79.Now, cI v79.Fresh, Cell.own 6, Cell.own 7, Cell.own 8, Cell.own 9, Cell.own 10, Cell.own 11, Cell.own 12, Cell.own 13, Cell.own 14])] 15) kj2 ⟨_, ⟨v10, ([] : List Int), b51, (b51.length : Int), 0, v12, by omega, H, rfl⟩, lm [(0, 0), (1, 14), (2, 1), (3, 2), (4, 3), (5, 4), (6, 5), (7, 6), (8, 7), (9, 8), (10, 9), (11, 10), (12, 11), (13, 12), (14, 13)] hm⟩ ?_
   clear H
   rintro k4 _ ⟨v74, v75, v76, v77, v78, v79, hk4, H, rfl⟩
   cases k4 with
   | zero => cases H
   | succ k4 =>
    rw [I_World_line.l4] at H
    refine sg 1 ?_; refine WpC.seq ?_; refine cd H (fun hc H => ?_) (fun hc H => ?_)
    ·refine WpC.skip (WpC.seq (WpC.block (sr ?_))); obtain ⟨b83, hb83, H⟩ := bindS H; refine ix underlying34 info9 hb83 ?_; refine gn 2 ?_; refine sy 1 ?_; refine cB 15 ent124 (g124 k4  b83) H fun r84 H => ?_; refine gn 5 ?_; refine WpC.seq (sr ?_); refine gn 2 ?_; refine cd H (fun hc H => ?_) (fun hc H => ?_)
     ·refine sg 1 ?_; cases H; exact WpC.ret rt
     ·refine WpC.skip (WpC.regionL ?_); refine go 2 ?_; refine L.buildSlice (e := eI) 17 ([r84.1] : List Int) underlying24 info3 rfl rfl rfl hF rfl rfl rfl rfl rfl rfl rfl rfl ?_; obtain ⟨h85, H⟩ := condG H; refine L.append (xs := v75) (ys := ([r84.1] : List Int)) (e := eI) 18 underlying24 info3 rfl rfl hF rfl rfl rfl rfl rfl rfl rfl rfl (fun _ => rfl) (fun _ _ h1 h2 => by cases h1; cases h2; rfl) ⟨_, underlying24⟩ (of_decide_eq_true h85) rfl rfl ?_; refine gn 1 ?_; refine WpC.regionL ?_; refine gn 2 ?_; exact ⟨k4, _, by omega, ⟨v74, (v75 ++ ([r84.1] : List Int)), v76, v77, (IntKind.i64.wrap (v78 + 1)), v79, by omega, H, rfl⟩, lm [(0, 0), (1, 18), (2, 2), (3, 3), (4, 4), (5, 5), (6, 6), (7, 7), (8, 8), (9, 9), (10, 10), (11, 11), (12, 12), (13, 13), (14, 14)] hm⟩
    ·refine WpC.exit (WpC.seq (sr ?_)); refine mv ?_; refine L.lenR (xs := v75) (e := eI) underlying24 hF rfl rfl rfl rfl (L.nil ?_); refine WpC.block (sr ?_); refine gn 2 ?_; refine cd H (fun hc H => ?_) (fun hc H => ?_)
     ·refine sy 2 ?_; obtain ⟨b93, hb93, H⟩ := bindS H; refine ix underlying34 info9 hb93 ?_; refine le shape9 ?_; obtain ⟨r94, hr94, H⟩ := bindS H; refine ca [false, false] [] [0] 15 ent125 (g125 k4  b93 v79 r94 hr94) ?_; refine gn 1 ?_; cases H; exact WpC.ret rt
     ·refine sg 2 ?_; refine cd H (fun hc H => ?_) (fun hc H => ?_)
      ·refine WpC.seq ?_; obtain ⟨b95, hb95, H⟩ := bindS H; obtain ⟨b96, hb96, H⟩ := bindS H; obtain ⟨r97, hr97, H⟩ := bindS H
       apply ldT ⟨[e0 0 _, e0 1 _, ed 4 9 _, e0 7 _, ed 66 1 _, ed 67 2 _, ed 68 3 _, ed 69 4 _, ed 70 5 _, ed 71 6 _, ed 72 7 _, ed 73 8 _], [e0 1 _, (2, [(8, none), (0, some _)]), (3, [(8, none), (0, some _)]), (4, [(8, none), (0, some _)]), (5, [(8, none), (0, some _)]), (6, [(8, none), (0, some _)]), (7, [(8, none), (0, some _)]), (8, [(8, none), (0, some _)]), (9, [(8, none), (0, some _)]), (10, [(8, none), (0, some _)]), (11, [(8, none), (0, some _)]), (12, [(8, none), (0, some _)]), (13, [(8, none), (0, some _)]), (14, [(8, none), (0, some _)]), ed 16 8 _, ed 17 8 _, ed 18 8 _, ed 19 8 _, ed 23 8 _, ed 24 8 _, ed 25 8 _, ed 26 8 _, ed 27 8 _, ed 28 8 _, ed 29 8 _, ed 30 8 _, ed 31 8 _], [(0, [(8, some _), (0, some _)])], 32, []⟩ [(0, 384), (0, 396), (2, 392), (6, 384), (0, 480), (16, 448), (48, 384), (127, 256), (255, 0)] mixed ?L1 ?_
       case L1 =>
        repeat refine ls ?_
        apply lc 32 15 0 [68] [] [] ?h1_2 ?q1_2 ?_
        case h1_2 =>
         intro b; refine ix underlying34 info9 hb95 ?_; exact L.nil ⟨rfl, rfl, rfl, rfl⟩
        case' q1_2 => skip
        repeat refine ls ?_
        apply lc 32 15 0 [71] [] [] ?h1_5 ?q1_5 ?_
        case h1_5 =>
         intro b; refine ix underlying24 info3 hb96 ?_; exact L.nil ⟨rfl, rfl, rfl, rfl⟩
        case' q1_5 => skip
        apply lc 32 15 0 [72] [] [] ?h1_6 ?q1_6 ?_
        case h1_6 =>
         intro b; refine L.loadEp (xs := v75) (e := eI) shape3 hF rfl rfl rfl rfl (at?_get hb96).2 rfl rfl ?_; exact L.nil ⟨rfl, rfl, rfl, rfl⟩
        case' q1_6 => skip
        apply lc 32 15 17 [73] [16, 17, 18, 19, 23, 24, 25, 26, 27, 28, 29, 30, 31] [0] ?h1_7 ?q1_7 ?_
        case h1_7 =>
         intro b; refine ca [false, false, false] [] [0] 32 ent126 (g126 k4  b95 b96 v79 r97 hr97) ?_; exact L.nil ⟨rfl, rfl, rfl, rfl⟩
        case' q1_7 => skip
        repeat refine ls ?_
        exact trivial
        all_goals exact lq
       cases H; exact WpC.ret rt
      ·refine sg 2 ?_; refine cd H (fun hc H => ?_) (fun hc H => ?_)
       ·refine sy 2 ?_; obtain ⟨b98, hb98, H⟩ := bindS H; refine ix underlying34 info9 hb98 ?_; refine go 2 ?_; obtain ⟨r99, hr99, H⟩ := bindS H; refine ca [false, false, false] [1] [0] 15 ent127 (g127 k4 false b98 v75 v79 r99 hr99) ?_; refine gn 1 ?_; cases H; exact WpC.ret rt
       ·refine WpC.skip (WpC.seq (WpC.block ?_)); refine WpC.join (fun σ => ∃ (kj8 : Nat) (v141 : List (List UInt8)) (v142 : List Int) (v143 : Bool) (v144 : T_World), kj8 ≤ K ∧ I_World_line.j8 kj8 v141 v142 v143 v144 = some r ∧ σ = mkSt [(0, oP 0 0), (1, MG.one (Cell.sl g0 (List.map eS v141))), (7, MG.one (Cell.own 1)), (82, oL v143)] [(1, ⟨1, List.map eI v142⟩), (2, ⟨1, List.map eI v144.Config.UserRealm⟩), (3, ⟨1, List.map eI v144.Config.ServiceRealm⟩), (4, ⟨2, List.map eT_Pair v144.Config.Links⟩), (5, ⟨2, List.map eT_Pair v144.Config.Proxy⟩), (6, ⟨1, List.map eS v144.Net⟩), (7, ⟨1, List.map eS v144.Known.Terms⟩), (8, ⟨1, List.map eI v144.Known.Keys⟩), (9, ⟨4, List.map eT_Wait v144.Waits⟩), (10, ⟨8, List.map eT_Cred v144.Creds⟩), (11, ⟨2, List.map eT_Cache v144.Caches⟩), (12, ⟨11, List.map eT_Event v144.Log⟩), (13, ⟨15, List.map eT_Accept v144.Accepts⟩), (14, ⟨1, List.map eI v144.Leaked⟩)] [(0, [Cell.own 2, Cell.own 3, Cell.own 4, Cell.own 5, cI v144.Config.Skew, cI v144.Now, cI v144.Fresh, Cell.own 6, Cell.own 7, Cell.own 8, Cell.own 9, Cell.own 10, Cell.own 11, Cell.own 12, Cell.own 13, Cell.own 14])] 15) ?_ ?_
        ·rintro _ ⟨kj8, v141, v142, v143, v144, hkj8, H, rfl⟩
         unfold I_World_line.j8 at H; refine cd H (fun hc H => ?_) (fun hc H => ?_)
         ·refine WpC.seq ?_; obtain ⟨b145, hb145, H⟩ := bindS H; obtain ⟨b146, hb146, H⟩ := bindS H; obtain ⟨b147, hb147, H⟩ := bindS H; obtain ⟨r148, hr148, H⟩ := bindS H
          apply ldT ⟨[e0 0 _, ed 4 13 _, e0 7 _, ed 92 1 _, ed 93 2 _, ed 94 3 _, ed 95 4 _, ed 96 5 _, ed 97 6 _, ed 98 7 _, ed 99 8 _, ed 100 9 _, ed 101 10 _, ed 102 11 _, ed 103 12 _], [e0 1 _, (2, [(12, none), (0, some _)]), (3, [(12, none), (0, some _)]), (4, [(12, none), (0, some _)]), (5, [(12, none), (0, some _)]), (6, [(12, none), (0, some _)]), (7, [(12, none), (0, some _)]), (8, [(12, none), (0, some _)]), (9, [(12, none), (0, some _)]), (10, [(12, none), (0, some _)]), (11, [(12, none), (0, some _)]), (12, [(12, none), (0, some _)]), (13, [(12, none), (0, some _)]), (14, [(12, none), (0, some _)]), ed 16 12 _, ed 17 12 _, ed 18 12 _, ed 19 12 _, ed 23 12 _, ed 24 12 _, ed 25 12 _, ed 26 12 _, ed 27 12 _, ed 28 12 _, ed 29 12 _, ed 30 12 _, ed 31 12 _], [(0, [(12, some _), (0, some _)])], 32, []⟩ [(0, 6144), (0, 7180), (2, 7176), (6, 7168), (0, 7264), (16, 7232), (48, 7168), (0, 7936), (128, 7680), (384, 7168), (1022, 6144), (2047, 4096), (4095, 0)] mixed ?L2 ?_
          case L2 =>
           repeat refine ls ?_
           apply lc 32 15 0 [94] [] [] ?h2_2 ?q2_2 ?_
           case h2_2 =>
            intro b; refine ix underlying24 info3 hb145 ?_; exact L.nil ⟨rfl, rfl, rfl, rfl⟩
           case' q2_2 => skip
           apply lc 32 15 0 [95] [] [] ?h2_3 ?q2_3 ?_
           case h2_3 =>
            intro b; refine L.loadEp (xs := v142) (e := eI) shape3 hF rfl rfl rfl rfl (at?_get hb145).2 rfl rfl ?_; exact L.nil ⟨rfl, rfl, rfl, rfl⟩
           case' q2_3 => skip
           repeat refine ls ?_
           apply lc 32 15 0 [97] [] [] ?h2_5 ?q2_5 ?_
           case h2_5 =>
            intro b; refine ix underlying24 info3 hb146 ?_; exact L.nil ⟨rfl, rfl, rfl, rfl⟩
           case' q2_5 => skip
           apply lc 32 15 0 [98] [] [] ?h2_6 ?q2_6 ?_
           case h2_6 =>
            intro b; refine L.loadEp (xs := v142) (e := eI) shape3 hF rfl rfl rfl rfl (at?_get hb146).2 rfl rfl ?_; exact L.nil ⟨rfl, rfl, rfl, rfl⟩
           case' q2_6 => skip
           repeat refine ls ?_
           apply lc 32 15 0 [100] [] [] ?h2_8 ?q2_8 ?_
           case h2_8 =>
            intro b; refine ix underlying24 info3 hb147 ?_; exact L.nil ⟨rfl, rfl, rfl, rfl⟩
           case' q2_8 => skip
           apply lc 32 15 0 [101] [] [] ?h2_9 ?q2_9 ?_
           case h2_9 =>
            intro b; refine L.loadEp (xs := v142) (e := eI) shape3 hF rfl rfl rfl rfl (at?_get hb147).2 rfl rfl ?_; exact L.nil ⟨rfl, rfl, rfl, rfl⟩
           case' q2_9 => skip
           apply lc 32 15 0 [102] [] [] ?h2_10 ?q2_10 ?_
           case h2_10 =>
            intro b; refine bf built63 ?_; exact L.nil ⟨rfl, rfl, rfl, rfl⟩
           case' q2_10 => skip
           apply lc 32 15 17 [103] [16, 17, 18, 19, 23, 24, 25, 26, 27, 28, 29, 30, 31] [0] ?h2_11 ?q2_11 ?_
           case h2_11 =>
            intro b; refine ca [false, false] [] [0] 32 ent123 (g123 kj8  (⟨6, b145, b146, b147, 0, (⟨0, 0, 0⟩ : T_Rest), ([] : List UInt8)⟩ : T_Act) v144 r148 hr148) ?_; exact L.nil ⟨rfl, rfl, rfl, rfl⟩
           case' q2_11 => skip
           repeat refine ls ?_
           exact trivial
           all_goals exact lq
          cases H; exact WpC.ret rt
         ·refine WpC.join (fun σ => ∃ (kj9 : Nat) (v150 : List (List UInt8)) (v151 : List Int) (v152 : Bool) (v153 : T_World), kj9 ≤ K ∧ I_World_line.j9 kj9 v150 v151 v152 v153 = some r ∧ σ = mkSt [(0, oP 0 0), (1, MG.one (Cell.sl g0 (List.map eS v150))), (7, MG.one (Cell.own 1)), (104, oL v152)] [(1, ⟨1, List.map eI v151⟩), (2, ⟨1, List.map eI v153.Config.UserRealm⟩), (3, ⟨1, List.map eI v153.Config.ServiceRealm⟩), (4, ⟨2, List.map eT_Pair v153.Config.Links⟩), (5, ⟨2, List.map eT_Pair v153.Config.Proxy⟩), (6, ⟨1, List.map eS v153.Net⟩), (7, ⟨1, List.map eS v153.Known.Terms⟩), (8, ⟨1, List.map eI v153.Known.Keys⟩), (9, ⟨4, List.map eT_Wait v153.Waits⟩), (10, ⟨8, List.map eT_Cred v153.Creds⟩), (11, ⟨2, List.map eT_Cache v153.Caches⟩), (12, ⟨11, List.map eT_Event v153.Log⟩), (13, ⟨15, List.map eT_Accept v153.Accepts⟩), (14, ⟨1, List.map eI v153.Leaked⟩)] [(0, [Cell.own 2, Cell.own 3, Cell.own 4, Cell.own 5, cI v153.Config.Skew, cI v153.Now, cI v153.Fresh, Cell.own 6, Cell.own 7, Cell.own 8, Cell.own 9, Cell.own 10, Cell.own 11, Cell.own 12, Cell.own 13, Cell.own 14])] 15) ?_ ?_
          ·rintro _ ⟨kj9, v150, v151, v152, v153, hkj9, H, rfl⟩
           unfold I_World_line.j9 at H; refine cd H (fun hc H => ?_) (fun hc H => ?_)
           ·refine sy 1 ?_; refine L.buildSlice (e := eI) 15 ([0] : List Int) underlying24 info3 rfl rfl rfl hF rfl rfl rfl rfl rfl rfl rfl rfl ?_; obtain ⟨h154, H⟩ := condG H; refine L.append (xs := v151) (ys := ([0] : List Int)) (e := eI) 16 underlying24 info3 rfl rfl hF rfl rfl rfl rfl rfl rfl rfl rfl (fun _ => rfl) (fun _ _ h1 h2 => by cases h1; cases h2; rfl) ⟨_, underlying24⟩ (of_decide_eq_true h154) rfl rfl ?_; refine gn 1 ?_; refine WpC.seq ?_; obtain ⟨b155, hb155, H⟩ := bindS H; obtain ⟨b156, hb156, H⟩ := bindS H; obtain ⟨b157, hb157, H⟩ := bindS H; obtain ⟨b158, hb158, H⟩ := bindS H; obtain ⟨b159, hb159, H⟩ := bindS H; obtain ⟨b160, hb160, H⟩ := bindS H; obtain ⟨b161, hb161, H⟩ := bindS H; obtain ⟨r162, hr162, H⟩ := bindS H
            apply ldT ⟨[e0 0 _, ed 4 26 _, e0 7 _, ed 122 1 _, ed 123 2 _, ed 124 3 _, ed 125 4 _, ed 126 5 _, ed 127 6 _, ed 128 7 _, ed 129 8 _, ed 130 9 _, ed 131 10 _, ed 132 11 _, ed 133 12 _, ed 134 13 _, ed 135 14 _, ed 136 15 _, ed 137 16 _, ed 138 17 _, ed 139 18 _, ed 140 19 _, ed 141 20 _, ed 142 21 _, ed 143 22 _, ed 144 23 _, ed 145 24 _, ed 146 25 _], [(2, [(25, none), (0, some _)]), (3, [(25, none), (0, some _)]), (4, [(25, none), (0, some _)]), (5, [(25, none), (0, some _)]), (6, [(25, none), (0, some _)]), (7, [(25, none), (0, some _)]), (8, [(25, none), (0, some _)]), (9, [(25, none), (0, some _)]), (10, [(25, none), (0, some _)]), (11, [(25, none), (0, some _)]), (12, [(25, none), (0, some _)]), (13, [(25, none), (0, some _)]), (14, [(25, none), (0, some _)]), e0 16 _, ed 18 25 _, ed 19 25 _, ed 20 25 _, ed 21 25 _, ed 25 25 _, ed 26 25 _, ed 27 25 _, ed 28 25 _, ed 29 25 _, ed 30 25 _, ed 31 25 _, ed 32 25 _, ed 33 25 _], [(0, [(25, some _), (0, some _)])], 34, []⟩ [(0, 50331648), (0, 58720268), (2, 58720264), (6, 58720256), (0, 58720352), (16, 58720320), (48, 58720256), (0, 58721024), (128, 58720768), (384, 58720256), (0, 59250688), (1024, 59248640), (3072, 59244544), (0, 59293696), (8192, 59277312), (24576, 59244544), (0, 59637760), (65536, 59506688), (196608, 59244544), (523264, 58720256), (0, 65011712), (1048576, 62914560), (3145728, 58720256), (8388606, 50331648), (16777215, 33554432), (33554431, 0)] mixed ?L3 ?_
            case L3 =>
             repeat refine ls ?_
             apply lc 34 17 0 [124] [] [] ?h3_2 ?q3_2 ?_
             case h3_2 =>
              intro b; refine ix underlying24 info3 hb155 ?_; exact L.nil ⟨rfl, rfl, rfl, rfl⟩
             case' q3_2 => skip
             apply lc 34 17 0 [125] [] [] ?h3_3 ?q3_3 ?_
             case h3_3 =>
              intro b; refine L.loadEp (xs := (v151 ++ ([0] : List Int))) (e := eI) shape3 hF rfl rfl rfl rfl (at?_get hb155).2 rfl rfl ?_; exact L.nil ⟨rfl, rfl, rfl, rfl⟩
             case' q3_3 => skip
             repeat refine ls ?_
             apply lc 34 17 0 [127] [] [] ?h3_5 ?q3_5 ?_
             case h3_5 =>
              intro b; refine ix underlying24 info3 hb156 ?_; exact L.nil ⟨rfl, rfl, rfl, rfl⟩
             case' q3_5 => skip
             apply lc 34 17 0 [128] [] [] ?h3_6 ?q3_6 ?_
             case h3_6 =>
              intro b; refine L.loadEp (xs := (v151 ++ ([0] : List Int))) (e := eI) shape3 hF rfl rfl rfl rfl (at?_get hb156).2 rfl rfl ?_; exact L.nil ⟨rfl, rfl, rfl, rfl⟩
             case' q3_6 => skip
             repeat refine ls ?_
             apply lc 34 17 0 [130] [] [] ?h3_8 ?q3_8 ?_
             case h3_8 =>
              intro b; refine ix underlying24 info3 hb157 ?_; exact L.nil ⟨rfl, rfl, rfl, rfl⟩
             case' q3_8 => skip
             apply lc 34 17 0 [131] [] [] ?h3_9 ?q3_9 ?_
             case h3_9 =>
              intro b; refine L.loadEp (xs := (v151 ++ ([0] : List Int))) (e := eI) shape3 hF rfl rfl rfl rfl (at?_get hb157).2 rfl rfl ?_; exact L.nil ⟨rfl, rfl, rfl, rfl⟩
             case' q3_9 => skip
             repeat refine ls ?_
             apply lc 34 17 0 [133] [] [] ?h3_11 ?q3_11 ?_
             case h3_11 =>
              intro b; refine ix underlying24 info3 hb158 ?_; exact L.nil ⟨rfl, rfl, rfl, rfl⟩
             case' q3_11 => skip
             apply lc 34 17 0 [134] [] [] ?h3_12 ?q3_12 ?_
             case h3_12 =>
              intro b; refine L.loadEp (xs := (v151 ++ ([0] : List Int))) (e := eI) shape3 hF rfl rfl rfl rfl (at?_get hb158).2 rfl rfl ?_; exact L.nil ⟨rfl, rfl, rfl, rfl⟩
             case' q3_12 => skip
             repeat refine ls ?_
             apply lc 34 17 0 [136] [] [] ?h3_14 ?q3_14 ?_
             case h3_14 =>
              intro b; refine ix underlying24 info3 hb159 ?_; exact L.nil ⟨rfl, rfl, rfl, rfl⟩
             case' q3_14 => skip
             apply lc 34 17 0 [137] [] [] ?h3_15 ?q3_15 ?_
             case h3_15 =>
              intro b; refine L.loadEp (xs := (v151 ++ ([0] : List Int))) (e := eI) shape3 hF rfl rfl rfl rfl (at?_get hb159).2 rfl rfl ?_; exact L.nil ⟨rfl, rfl, rfl, rfl⟩
             case' q3_15 => skip
             repeat refine ls ?_
             apply lc 34 17 0 [139] [] [] ?h3_17 ?q3_17 ?_
             case h3_17 =>
              intro b; refine ix underlying24 info3 hb160 ?_; exact L.nil ⟨rfl, rfl, rfl, rfl⟩
             case' q3_17 => skip
             apply lc 34 17 0 [140] [] [] ?h3_18 ?q3_18 ?_
             case h3_18 =>
              intro b; refine L.loadEp (xs := (v151 ++ ([0] : List Int))) (e := eI) shape3 hF rfl rfl rfl rfl (at?_get hb160).2 rfl rfl ?_; exact L.nil ⟨rfl, rfl, rfl, rfl⟩
             case' q3_18 => skip
             apply lc 34 17 0 [141] [] [] ?h3_19 ?q3_19 ?_
             case h3_19 =>
              intro b; refine bf built29 ?_; exact L.nil ⟨rfl, rfl, rfl, rfl⟩
             case' q3_19 => skip
             repeat refine ls ?_
             apply lc 34 17 0 [143] [] [] ?h3_21 ?q3_21 ?_
             case h3_21 =>
              intro b; refine ix underlying24 info3 hb161 ?_; exact L.nil ⟨rfl, rfl, rfl, rfl⟩
             case' q3_21 => skip
             apply lc 34 17 0 [144] [] [] ?h3_22 ?q3_22 ?_
             case h3_22 =>
              intro b; refine L.loadEp (xs := (v151 ++ ([0] : List Int))) (e := eI) shape3 hF rfl rfl rfl rfl (at?_get hb161).2 rfl rfl ?_; exact L.nil ⟨rfl, rfl, rfl, rfl⟩
             case' q3_22 => skip
             apply lc 34 17 0 [145] [] [] ?h3_23 ?q3_23 ?_
             case h3_23 =>
              intro b; refine bf built63 ?_; exact L.nil ⟨rfl, rfl, rfl, rfl⟩
             case' q3_23 => skip
             apply lc 34 17 17 [146] [18, 19, 20, 21, 25, 26, 27, 28, 29, 30, 31, 32, 33] [0] ?h3_24 ?q3_24 ?_
             case h3_24 =>
              intro b; refine ca [false, false] [] [0] 34 ent123 (g123 kj9  (⟨3, b155, b156, b157, b161, (⟨b158, b159, b160⟩ : T_Rest), ([] : List UInt8)⟩ : T_Act) v153 r162 hr162) ?_; exact L.nil ⟨rfl, rfl, rfl, rfl⟩
             case' q3_24 => skip
             repeat refine ls ?_
             exact trivial
             all_goals exact lq
            cases H; exact WpC.ret rt
           ·refine WpC.join (fun σ => ∃ (kj10 : Nat) (v164 : List Int) (v165 : Bool) (v166 : T_World), kj10 ≤ K ∧ I_World_line.j10 kj10 v164 v165 v166 = some r ∧ σ = mkSt [(0, oP 0 0), (7, MG.one (Cell.own 1)), (147, oL v165)] [(1, ⟨1, List.map eI v164⟩), (2, ⟨1, List.map eI v166.Config.UserRealm⟩), (3, ⟨1, List.map eI v166.Config.ServiceRealm⟩), (4, ⟨2, List.map eT_Pair v166.Config.Links⟩), (5, ⟨2, List.map eT_Pair v166.Config.Proxy⟩), (6, ⟨1, List.map eS v166.Net⟩), (7, ⟨1, List.map eS v166.Known.Terms⟩), (8, ⟨1, List.map eI v166.Known.Keys⟩), (9, ⟨4, List.map eT_Wait v166.Waits⟩), (10, ⟨8, List.map eT_Cred v166.Creds⟩), (11, ⟨2, List.map eT_Cache v166.Caches⟩), (12, ⟨11, List.map eT_Event v166.Log⟩), (13, ⟨15, List.map eT_Accept v166.Accepts⟩), (14, ⟨1, List.map eI v166.Leaked⟩)] [(0, [Cell.own 2, Cell.own 3, Cell.own 4, Cell.own 5, cI v166.Config.Skew, cI v166.Now, cI v166.Fresh, Cell.own 6, Cell.own 7, Cell.own 8, Cell.own 9, Cell.own 10, Cell.own 11, Cell.own 12, Cell.own 13, Cell.own 14])] 15) ?_ ?_
            ·rintro _ ⟨kj10, v164, v165, v166, hkj10, H, rfl⟩
             unfold I_World_line.j10 at H; refine cd H (fun hc H => ?_) (fun hc H => ?_)
             ·refine sr ?_; refine cB 15 ent64 (g64 kj10  ) H fun r167 H => ?_; refine alc 20 info27 ?_; refine gn 1 ?_; refine WpC.seq ?_; obtain ⟨b168, hb168, H⟩ := bindS H; obtain ⟨b169, hb169, H⟩ := bindS H; obtain ⟨b170, hb170, H⟩ := bindS H; obtain ⟨b171, hb171, H⟩ := bindS H; obtain ⟨b172, hb172, H⟩ := bindS H; obtain ⟨b173, hb173, H⟩ := bindS H; obtain ⟨r174, hr174, H⟩ := bindS H; obtain ⟨r175, hr175, H⟩ := bindS H
              apply ldT ⟨[e0 0 _, e0 7 _, e0 12 _, ed 158 25 _, ed 159 1 _, ed 160 2 _, ed 161 3 _, ed 162 4 _, ed 163 5 _, ed 164 6 _, ed 165 7 _, ed 166 8 _, ed 167 9 _, ed 168 10 _, ed 169 11 _, ed 170 12 _, ed 171 13 _, ed 172 14 _, ed 173 15 _, ed 174 16 _, ed 175 17 _, ed 176 18 _, ed 177 19 _, ed 178 20 _, ed 179 21 _, ed 180 22 _, ed 181 23 _, ed 182 24 _, ed 183 26 _, ed 184 27 _, ed 185 28 _], [e0 1 _, e0 2 _, e0 3 _, e0 4 _, e0 5 _, e0 6 _, e0 7 _, e0 8 _, e0 9 _, e0 10 _, e0 11 _, e0 12 _, e0 13 _, e0 14 _, e0 15 _, e0 16 _, e0 17 _, e0 18 _, ed 21 23 _, ed 22 24 _, ed 23 24 _, ed 24 24 _, ed 25 24 _, ed 29 24 _, ed 30 24 _, ed 31 24 _, ed 32 24 _, ed 33 24 _, ed 34 24 _, ed 35 24 _, ed 36 24 _, ed 37 24 _, ed 38 24 _], [(0, [(29, some _), (0, some _)]), e0 20 _], 39, []⟩ [(0, 402653184), (0, 528482304), (0, 532676608), (0, 532676656), (8, 532676640), (24, 532676608), (0, 532676992), (64, 532676864), (192, 532676608), (0, 532941824), (512, 532940800), (1536, 532938752), (0, 532963328), (4096, 532955136), (12288, 532938752), (0, 533135360), (32768, 533069824), (98304, 532938752), (261632, 532676608), (0, 535822336), (524288, 534773760), (1572864, 532676608), (4194300, 528482304), (8388606, 520093696), (16777214, 503316480), (33554430, 402653184), (33554430, 0), (67108863, 268435456), (201326591, 0)] mixed ?L4 ?_
              case L4 =>
               repeat refine ls ?_
               apply lc 39 21 0 [163] [] [] ?h4_4 ?q4_4 ?_
               case h4_4 =>
                intro b; refine ix underlying24 info3 hb168 ?_; exact L.nil ⟨rfl, rfl, rfl, rfl⟩
               case' q4_4 => skip
               apply lc 39 21 0 [164] [] [] ?h4_5 ?q4_5 ?_
               case h4_5 =>
                intro b; refine L.loadEp (xs := v164) (e := eI) shape3 hF rfl rfl rfl rfl (at?_get hb168).2 rfl rfl ?_; exact L.nil ⟨rfl, rfl, rfl, rfl⟩
               case' q4_5 => skip
               repeat refine ls ?_
               apply lc 39 21 0 [166] [] [] ?h4_7 ?q4_7 ?_
               case h4_7 =>
                intro b; refine ix underlying24 info3 hb169 ?_; exact L.nil ⟨rfl, rfl, rfl, rfl⟩
               case' q4_7 => skip
               apply lc 39 21 0 [167] [] [] ?h4_8 ?q4_8 ?_
               case h4_8 =>
                intro b; refine L.loadEp (xs := v164) (e := eI) shape3 hF rfl rfl rfl rfl (at?_get hb169).2 rfl rfl ?_; exact L.nil ⟨rfl, rfl, rfl, rfl⟩
               case' q4_8 => skip
               repeat refine ls ?_
               apply lc 39 21 0 [169] [] [] ?h4_10 ?q4_10 ?_
               case h4_10 =>
                intro b; refine ix underlying24 info3 hb170 ?_; exact L.nil ⟨rfl, rfl, rfl, rfl⟩
               case' q4_10 => skip
               apply lc 39 21 0 [170] [] [] ?h4_11 ?q4_11 ?_
               case h4_11 =>
                intro b; refine L.loadEp (xs := v164) (e := eI) shape3 hF rfl rfl rfl rfl (at?_get hb170).2 rfl rfl ?_; exact L.nil ⟨rfl, rfl, rfl, rfl⟩
               case' q4_11 => skip
               repeat refine ls ?_
               apply lc 39 21 0 [172] [] [] ?h4_13 ?q4_13 ?_
               case h4_13 =>
                intro b; refine ix underlying24 info3 hb171 ?_; exact L.nil ⟨rfl, rfl, rfl, rfl⟩
               case' q4_13 => skip
               apply lc 39 21 0 [173] [] [] ?h4_14 ?q4_14 ?_
               case h4_14 =>
                intro b; refine L.loadEp (xs := v164) (e := eI) shape3 hF rfl rfl rfl rfl (at?_get hb171).2 rfl rfl ?_; exact L.nil ⟨rfl, rfl, rfl, rfl⟩
               case' q4_14 => skip
               repeat refine ls ?_
               apply lc 39 21 0 [175] [] [] ?h4_16 ?q4_16 ?_
               case h4_16 =>
                intro b; refine ix underlying24 info3 hb172 ?_; exact L.nil ⟨rfl, rfl, rfl, rfl⟩
               case' q4_16 => skip
               apply lc 39 21 0 [176] [] [] ?h4_17 ?q4_17 ?_
               case h4_17 =>
                intro b; refine L.loadEp (xs := v164) (e := eI) shape3 hF rfl rfl rfl rfl (at?_get hb172).2 rfl rfl ?_; exact L.nil ⟨rfl, rfl, rfl, rfl⟩
               case' q4_17 => skip
               apply lc 39 21 0 [177] [] [] ?h4_18 ?q4_18 ?_
               case h4_18 =>
                intro b; refine bf built29 ?_; exact L.nil ⟨rfl, rfl, rfl, rfl⟩
               case' q4_18 => skip
               repeat refine ls ?_
               apply lc 39 21 0 [179] [] [] ?h4_20 ?q4_20 ?_
               case h4_20 =>
                intro b; refine ix underlying24 info3 hb173 ?_; exact L.nil ⟨rfl, rfl, rfl, rfl⟩
               case' q4_20 => skip
               apply lc 39 21 0 [180] [] [] ?h4_21 ?q4_21 ?_
               case h4_21 =>
                intro b; refine L.loadEp (xs := v164) (e := eI) shape3 hF rfl rfl rfl rfl (at?_get hb173).2 rfl rfl ?_; exact L.nil ⟨rfl, rfl, rfl, rfl⟩
               case' q4_21 => skip
               apply lc 39 21 1 [181] [21] [] ?h4_22 ?q4_22 ?_
               case h4_22 =>
                intro b; refine ca [false, false, false, false, false] [15, 16, 17, 18] [] 39 ent18 (g18 kj10 false false false false r167 b168 b169 (⟨b170, b171, b172⟩ : T_Rest) b173 r174 hr174) ?_; exact L.nil ⟨rfl, rfl, rfl, rfl⟩
               case' q4_22 => skip
               apply lc 39 22 17 [182] [22, 23, 24, 25, 29, 30, 31, 32, 33, 34, 35, 36, 37, 38] [] ?h4_23 ?q4_23 ?_
               case h4_23 =>
                intro b; refine ca [false, false] [15, 16, 17, 18, 21] [] 39 ent11 (g11 kj10 false false false false false r167 r174 r175 hr175) ?_; exact L.nil ⟨rfl, rfl, rfl, rfl⟩
               case' q4_23 => skip
               repeat refine ls ?_
               refine lb ?_; exact trivial
               all_goals exact lq
              refine sy 1 ?_; refine L.nilCheck hF rfl rfl rfl rfl ?_; refine go 2 ?_; refine L.lenR (xs := r175.1.Accepts) (e := eT_Accept) underlying41 hF rfl rfl rfl rfl ?_; refine bi ?_; refine cB 39 ent128 (g128 kj10  (decide ((r175.1.Accepts.length : Int) > 0))) H fun r176 H => ?_; refine gn 1 ?_; cases H; exact WpC.ret rt
             ·refine WpC.skip (sr ?_); refine gn 1 ?_; cases H; exact WpC.ret rt
            ·refine WpC.regionL ?_; refine mv ?_; obtain ⟨b177, hb177, H⟩ := bindS H; refine ix underlying34 info9 hb177 ?_; refine le shape9 ?_; refine L.binS hF rfl rfl rfl rfl rfl ?_; refine mv ?_; refine sH H (fun hc H => ?_) (fun hc H => ?_)
             ·refine mv ?_; refine L.lenR (xs := v151) (e := eI) underlying24 hF rfl rfl rfl rfl ?_; refine gn 3 ?_; exact ⟨_, ⟨kj9, v151, ((v151.length : Int) == 6), v153, by omega, H, rfl⟩, lm [(0, 0), (1, 1), (2, 2), (3, 3), (4, 4), (5, 5), (6, 6), (7, 7), (8, 8), (9, 9), (10, 10), (11, 11), (12, 12), (13, 13), (14, 14)] hm⟩
             ·refine gn 5 ?_; exact ⟨_, ⟨kj9, v151, false, v153, by omega, H, rfl⟩, lm [(0, 0), (1, 1), (2, 2), (3, 3), (4, 4), (5, 5), (6, 6), (7, 7), (8, 8), (9, 9), (10, 10), (11, 11), (12, 12), (13, 13), (14, 14)] hm⟩
          ·refine WpC.regionL ?_; refine mv ?_; obtain ⟨b178, hb178, H⟩ := bindS H; refine ix underlying34 info9 hb178 ?_; refine le shape9 ?_; refine L.binS hF rfl rfl rfl rfl rfl ?_; refine mv ?_; refine sH H (fun hc H => ?_) (fun hc H => ?_)
           ·refine mv ?_; refine L.lenR (xs := v142) (e := eI) underlying24 hF rfl rfl rfl rfl ?_; refine go 2 ?_; refine sH H (fun hc H => ?_) (fun hc H => ?_)
            ·refine gn 6 ?_; exact ⟨_, ⟨kj8, v141, v142, true, v144, by omega, H, rfl⟩, lm [(0, 0), (1, 1), (2, 2), (3, 3), (4, 4), (5, 5), (6, 6), (7, 7), (8, 8), (9, 9), (10, 10), (11, 11), (12, 12), (13, 13), (14, 14)] hm⟩
            ·refine mv ?_; refine L.lenR (xs := v142) (e := eI) underlying24 hF rfl rfl rfl rfl ?_; refine gn 4 ?_; exact ⟨_, ⟨kj8, v141, v142, ((v142.length : Int) == 7), v144, by omega, H, rfl⟩, lm [(0, 0), (1, 1), (2, 2), (3, 3), (4, 4), (5, 5), (6, 6), (7, 7), (8, 8), (9, 9), (10, 10), (11, 11), (12, 12), (13, 13), (14, 14)] hm⟩
           ·refine gn 10 ?_; exact ⟨_, ⟨kj8, v141, v142, false, v144, by omega, H, rfl⟩, lm [(0, 0), (1, 1), (2, 2), (3, 3), (4, 4), (5, 5), (6, 6), (7, 7), (8, 8), (9, 9), (10, 10), (11, 11), (12, 12), (13, 13), (14, 14)] hm⟩
        ·refine WpC.regionL ?_; refine mv ?_; obtain ⟨b179, hb179, H⟩ := bindS H; refine ix underlying34 info9 hb179 ?_; refine le shape9 ?_; refine L.binS hF rfl rfl rfl rfl rfl ?_; refine mv ?_; refine sH H (fun hc H => ?_) (fun hc H => ?_)
         ·refine mv ?_; refine L.lenR (xs := v75) (e := eI) underlying24 hF rfl rfl rfl rfl ?_; refine gn 3 ?_; exact ⟨_, ⟨k4, v74, v75, ((v75.length : Int) == 3), v79, by omega, H, rfl⟩, lm [(0, 0), (1, 1), (2, 2), (3, 3), (4, 4), (5, 5), (6, 6), (7, 7), (8, 8), (9, 9), (10, 10), (11, 11), (12, 12), (13, 13), (14, 14)] hm⟩
         ·refine gn 5 ?_; exact ⟨_, ⟨k4, v74, v75, false, v79, by omega, H, rfl⟩, lm [(0, 0), (1, 1), (2, 2), (3, 3), (4, 4), (5, 5), (6, 6), (7, 7), (8, 8), (9, 9), (10, 10), (11, 11), (12, 12), (13, 13), (14, 14)] hm⟩
 ·refine WpC.regionL ?_; refine mv ?_; obtain ⟨b180, hb180, H⟩ := bindS H; refine ix underlying34 info9 hb180 ?_; refine le shape9 ?_; refine L.binS hF rfl rfl rfl rfl rfl ?_; refine mv ?_; refine sH H (fun hc H => ?_) (fun hc H => ?_)
  ·refine mv ?_; refine L.lenR (xs := a1) (e := eS) underlying34 hF rfl rfl rfl rfl ?_; refine gn 2 ?_; exact ⟨_, ⟨k, a1, ((a1.length : Int) == 2), o0, by omega, H, rfl⟩, lm [(0, 0), (1, 3), (2, 4), (3, 5), (4, 6), (5, 10), (6, 11), (7, 12), (8, 13), (9, 14), (10, 15), (11, 16), (12, 17), (13, 18)] hm⟩
  ·refine gn 4 ?_; exact ⟨_, ⟨k, a1, false, o0, by omega, H, rfl⟩, lm [(0, 0), (1, 3), (2, 4), (3, 5), (4, 6), (5, 10), (6, 11), (7, 12), (8, 13), (9, 14), (10, 15), (11, 16), (12, 17), (13, 18)] hm⟩
/-! ### I_Desk -/
def I_Desk.j9 (cl8 : (List UInt8) → (List (List UInt8)) → Int → Int → T_World → Option (List UInt8)) (k : Nat) (v112 : List UInt8) (v113 : List (List UInt8)) (v114 v115 : Int) (v116 : T_World) : Option (List UInt8) := cl8 v112 v113 v114 (IntKind.i64.wrap (v115 + 1)) v116
def I_Desk.l8 : Nat → (List UInt8) → (List (List UInt8)) → Int → Int → T_World → Option (List UInt8)
 | 0, _, _, _, _, _ => none
 | k8 + 1, v102, v103, v104, v105, v106 => cond (decide (v105 < v104)) ((at? v103 v105).bind fun b117 => cond (b117 != ([] : List UInt8)) ((I_split k8 b117 (32 : UInt8)).bind fun r118 => (I_World_line k8 r118 v106).bind fun r119 => cond (decide (v102.length + r119.1.length ≤ 9223372036854775807)) (cond (decide ((v102 ++ r119.1).length + ([10] : List UInt8).length ≤ 9223372036854775807)) (I_Desk.j9 (I_Desk.l8 k8) k8 ((v102 ++ r119.1) ++ ([10] : List UInt8)) v103 v104 v105 r119.2) none) none) (I_Desk.j9 (I_Desk.l8 k8) k8 v102 v103 v104 v105 v106)) (some v102)
def I_Desk.j1 (k : Nat) (v4 : List UInt8) (v5 : List (List UInt8)) : Option (List UInt8) := cond (decide ((v4.length : Int) > 20000)) (some ([] : List UInt8)) (cond (decide ((v5.length : Int) > 120)) (some ([] : List UInt8)) ((I_deskConfig k ).bind fun r6 => (I_NewWorld k r6).bind fun r7 => I_Desk.l8 k ([] : List UInt8) v5 (v5.length : Int) 0 r7.1))
def I_Desk (k : Nat) (a0 : List UInt8) : Option (List UInt8) := (I_split k a0 (10 : UInt8)).bind fun r1 => (at? r1 (IntKind.i64.wrap ((r1.length : Int) - 1))).bind fun b122 => cond (b122 == ([] : List UInt8)) ((part? r1 0 (IntKind.i64.wrap ((r1.length : Int) - 1))).bind fun b123 => I_Desk.j1 k a0 b123) (I_Desk.j1 k a0 r1)
theorem ent25 : MG.Enters Tryz.prog 25 := en func25
theorem g25 (k : Nat) (a0 r : List UInt8) (H : I_Desk k a0 = some r) : Gives Tryz.prog 25 [V.one (cS a0)] [] [V.one (cS r)] [] := by
 refine Gives.intro func25 rfl rfl rfl rfl ?_; refine fx fun w0 T S0 ob oh hm => ?_
 have hF := fxe w0 T S0 52 ob oh
 unfold I_Desk at H; obtain ⟨K, hK⟩ := leK k; refine sg 1 ?_; refine sy 1 ?_; refine cB 1 ent63 (g63 k  a0 (10 : UInt8)) H fun r1 H => ?_; refine gn 1 ?_; refine WpC.join (fun σ => ∃ (kj1 : Nat) (v4 : List UInt8) (v5 : List (List UInt8)), kj1 ≤ K ∧ I_Desk.j1 kj1 v4 v5 = some r ∧ σ = mkSt [(0, oS v4), (3, MG.one (Cell.sl true (List.map eS v5)))] [] [] 0) ?_ ?_
 ·rintro _ ⟨kj1, v4, v5, hkj1, H, rfl⟩
  unfold I_Desk.j1 at H; refine WpC.seq (sr ?_); refine mv ?_; refine L.lenS underlying9 hF rfl rfl rfl ?_; refine go 2 ?_; refine sH H (fun hc H => ?_) (fun hc H => ?_)
  ·refine gn 4 ?_; refine cT ?_; refine sg 1 ?_; cases H; exact WpC.ret rt
  ·refine mv ?_; refine L.lenR (xs := v5) (e := eS) underlying34 hF rfl rfl rfl rfl ?_; refine gn 2 ?_; refine cd H (fun hc H => ?_) (fun hc H => ?_)
   ·refine sg 1 ?_; cases H; exact WpC.ret rt
   ·refine WpC.skip (sr ?_); refine cB 0 ent64 (g64 kj1  ) H fun r6 H => ?_; obtain ⟨r7, hr7, H⟩ := bindS H; refine ca [false] [0, 1, 2, 3] [] 5 ent42 (g42 kj1 false false false false r6 r7 hr7) ?_; refine go 3 ?_; refine alc 22 info43 ?_; refine gn 2 ?_; refine sg 1 ?_; refine WpC.seq (sr ?_); refine mv ?_; refine L.lenR (xs := v5) (e := eS) underlying34 hF rfl rfl rfl rfl ?_; refine gn 1 ?_; refine WpC.block ?_
    refine WpC.loopL (P := Tryz.prog) (fun n σ => ∃ (v102 : List UInt8) (v103 : List (List UInt8)) (v104 v105 : Int) (v106 : T_World), n ≤ K ∧ I_Desk.l8 n v102 v103 v104 v105 v106 = some r ∧ σ = mkSt [(4, oP 0 0), (6, oS v102), (36, MG.one (Cell.sl true (List.map eS v103))), (37, oI v104), (38, oI v105)] [(1, ⟨1, List.map eI v106.Config.UserRealm⟩), (2, ⟨1, List.map eI v106.Config.ServiceRealm⟩), (3, ⟨2, List.map eT_Pair v106.Config.Links⟩), (4, ⟨2, List.map eT_Pair v106.Config.Proxy⟩), (5, ⟨1, List.map eS v106.Net⟩), (6, ⟨1, List.map eS v106.Known.Terms⟩), (7, ⟨1, List.map eI v106.Known.Keys⟩), (8, ⟨4, List.map eT_Wait v106.Waits⟩), (9, ⟨8, List.map eT_Cred v106.Creds⟩), (10, ⟨2, List.map eT_Cache v106.Caches⟩), (11, ⟨11, List.map eT_Event v106.Log⟩), (12, ⟨15, List.map eT_Accept v106.Accepts⟩), (13, ⟨1, List.map eI v106.Leaked⟩)] [(0, [Cell.own 1, Cell.own 2, Cell.own 3, Cell.own 4, cI v106.Config.Skew, cI v106.Now, cI v106.Fresh, Cell.own 5, Cell.own 6, Cell.own 7, Cell.own 8, Cell.own 9, Cell.own 10, Cell.own 11, Cell.own 12, Cell.own 13])] 14) kj1 ⟨_, ⟨([] : List UInt8), v5, (v5.length : Int), 0, r7.1, by omega, H, rfl⟩, lm [(0, 22), (1, 5), (2, 6), (3, 7), (4, 8), (5, 12), (6, 13), (7, 14), (8, 15), (9, 16), (10, 17), (11, 18), (12, 19), (13, 20)] hm⟩ ?_; clear H
    rintro k8 _ ⟨v102, v103, v104, v105, v106, hk8, H, rfl⟩
    cases k8 with
    | zero => cases H
    | succ k8 =>
     rw [I_Desk.l8] at H
     refine sg 1 ?_; refine WpC.seq ?_; refine cd H (fun hc H => ?_) (fun hc H => ?_)
     ·refine WpC.skip ?_; refine WpC.join (fun σ => ∃ (kj9 : Nat) (v112 : List UInt8) (v113 : List (List UInt8)) (v114 v115 : Int) (v116 : T_World), kj9 ≤ K ∧ I_Desk.j9 (I_Desk.l8 k8) kj9 v112 v113 v114 v115 v116 = some r ∧ σ = mkSt [(4, oP 0 0), (6, oS v112), (36, MG.one (Cell.sl true (List.map eS v113))), (37, oI v114), (38, oI v115)] [(1, ⟨1, List.map eI v116.Config.UserRealm⟩), (2, ⟨1, List.map eI v116.Config.ServiceRealm⟩), (3, ⟨2, List.map eT_Pair v116.Config.Links⟩), (4, ⟨2, List.map eT_Pair v116.Config.Proxy⟩), (5, ⟨1, List.map eS v116.Net⟩), (6, ⟨1, List.map eS v116.Known.Terms⟩), (7, ⟨1, List.map eI v116.Known.Keys⟩), (8, ⟨4, List.map eT_Wait v116.Waits⟩), (9, ⟨8, List.map eT_Cred v116.Creds⟩), (10, ⟨2, List.map eT_Cache v116.Caches⟩), (11, ⟨11, List.map eT_Event v116.Log⟩), (12, ⟨15, List.map eT_Accept v116.Accepts⟩), (13, ⟨1, List.map eI v116.Leaked⟩)] [(0, [Cell.own 1, Cell.own 2, Cell.own 3, Cell.own 4, cI v116.Config.Skew, cI v116.Now, cI v116.Fresh, Cell.own 5, Cell.own 6, Cell.own 7, Cell.own 8, Cell.own 9, Cell.own 10, Cell.own 11, Cell.own 12, Cell.own 13])] 14) ?_ ?_
      ·rintro _ ⟨kj9, v112, v113, v114, v115, v116, hkj9, H, rfl⟩
       unfold I_Desk.j9 at H; refine WpC.regionL ?_; refine gn 2 ?_; exact ⟨k8, _, by omega, ⟨v112, v113, v114, (IntKind.i64.wrap (v115 + 1)), v116, by omega, H, rfl⟩, lm [(0, 0), (1, 1), (2, 2), (3, 3), (4, 4), (5, 5), (6, 6), (7, 7), (8, 8), (9, 9), (10, 10), (11, 11), (12, 12), (13, 13)] hm⟩
      ·refine WpC.block (sr ?_); obtain ⟨b117, hb117, H⟩ := bindS H; refine ix underlying34 info9 hb117 ?_; refine gn 2 ?_; refine sy 1 ?_; refine L.binS hF rfl rfl rfl rfl rfl (L.nil ?_); refine cd H (fun hc H => ?_) (fun hc H => ?_)
       ·refine WpC.regionL ?_; refine go 2 ?_; refine cB 14 ent63 (g63 k8  b117 (32 : UInt8)) H fun r118 H => ?_; obtain ⟨r119, hr119, H⟩ := bindS H; refine ca [false, false] [14] [0] 15 ent65 (g65 k8 false r118 v106 r119 hr119) ?_; obtain ⟨h120, H⟩ := condG H; refine L.catS hF rfl rfl rfl rfl (of_decide_eq_true h120) ?_; obtain ⟨h121, H⟩ := condG H; refine L.catS hF rfl rfl rfl rfl (of_decide_eq_true h121) ?_; refine gn 1 ?_; exact ⟨_, ⟨k8, ((v102 ++ r119.1) ++ ([10] : List UInt8)), v103, v104, v105, r119.2, by omega, H, rfl⟩, lm [(0, 0), (1, 16), (2, 17), (3, 18), (4, 19), (5, 23), (6, 24), (7, 25), (8, 26), (9, 27), (10, 28), (11, 29), (12, 30), (13, 31)] hm⟩
       ·refine WpC.skip ?_; exact ⟨_, ⟨k8, v102, v103, v104, v105, v106, by omega, H, rfl⟩, lm [(0, 0), (1, 1), (2, 2), (3, 3), (4, 4), (5, 5), (6, 6), (7, 7), (8, 8), (9, 9), (10, 10), (11, 11), (12, 12), (13, 13)] hm⟩
     ·refine WpC.exit (sr ?_); refine gn 2 ?_; cases H; exact WpC.ret rt
 ·refine sy 2 ?_; refine L.lenR (xs := r1) (e := eS) underlying34 hF rfl rfl rfl rfl ?_; refine bi ?_; obtain ⟨b122, hb122, H⟩ := bindS H; refine ix underlying34 info9 hb122 ?_; refine L.loadEp (xs := r1) (e := eS) shape9 hF rfl rfl rfl rfl (at?_get hb122).2 rfl rfl ?_; refine L.binS hF rfl rfl rfl rfl rfl (L.nil ?_); refine cd H (fun hc H => ?_) (fun hc H => ?_)
  ·refine WpC.regionL ?_; refine go 2 ?_; refine L.lenR (xs := r1) (e := eS) underlying34 hF rfl rfl rfl rfl ?_; refine bi ?_; refine L.le (Le.shareAll 1 rfl) ?_; obtain ⟨b123, hb123, H⟩ := bindS H; refine L.cutR (xs := r1) (ys := b123) (e := eS) underlying34 info9 hF rfl rfl rfl rfl rfl hb123 (fun _ => rfl) ?_; refine gn 1 ?_; exact ⟨_, ⟨k, a0, b123, by omega, H, rfl⟩, lm [] hm⟩
  ·refine WpC.skip ?_; exact ⟨_, ⟨k, a0, r1, by omega, H, rfl⟩, (Le.shareAll 1 rfl).trans (lm [] hm)⟩
/-! ### W_FnDeskWorks -/
def W_FnDeskWorks (k : Nat) (a0 : List UInt8) : Option Bool := (W_big k a0).bind fun r2 => cond r2 (some true) ((W_at k a0 0).bind fun r3 => (W_at k a0 1).bind fun r4 => (S_Dec k (Int.tmod r4 8)).bind fun r5 => (S_Dec k (Int.tmod r3 3)).bind fun r6 => cond (decide (([102, 108, 111, 119, 32, 48, 32] : List UInt8).length + r6.length ≤ 9223372036854775807)) (cond (decide ((([102, 108, 111, 119, 32, 48, 32] : List UInt8) ++ r6).length + ([32, 55, 32, 50, 53, 53, 32, 52, 48, 32] : List UInt8).length ≤ 9223372036854775807)) (cond (decide (((([102, 108, 111, 119, 32, 48, 32] : List UInt8) ++ r6) ++ ([32, 55, 32, 50, 53, 53, 32, 52, 48, 32] : List UInt8)).length + r5.length ≤ 9223372036854775807)) (cond (decide ((((([102, 108, 111, 119, 32, 48, 32] : List UInt8) ++ r6) ++ ([32, 55, 32, 50, 53, 53, 32, 52, 48, 32] : List UInt8)) ++ r5).length + ([10, 97, 99, 99, 101, 112, 116, 115, 10, 116, 114, 117, 116, 104, 10, 115, 101, 114, 118, 101, 32] : List UInt8).length ≤ 9223372036854775807)) ((S_Dec k (Int.tmod r3 3)).bind fun r11 => cond (decide (((((([102, 108, 111, 119, 32, 48, 32] : List UInt8) ++ r6) ++ ([32, 55, 32, 50, 53, 53, 32, 52, 48, 32] : List UInt8)) ++ r5) ++ ([10, 97, 99, 99, 101, 112, 116, 115, 10, 116, 114, 117, 116, 104, 10, 115, 101, 114, 118, 101, 32] : List UInt8)).length + r11.length ≤ 9223372036854775807)) (cond (decide ((((((([102, 108, 111, 119, 32, 48, 32] : List UInt8) ++ r6) ++ ([32, 55, 32, 50, 53, 53, 32, 52, 48, 32] : List UInt8)) ++ r5) ++ ([10, 97, 99, 99, 101, 112, 116, 115, 10, 116, 114, 117, 116, 104, 10, 115, 101, 114, 118, 101, 32] : List UInt8)) ++ r11).length + ([32] : List UInt8).length ≤ 9223372036854775807)) ((S_Dec k (IntKind.i64.wrap (4 + (IntKind.i64.wrap (2 * (Int.tmod r3 3)))))).bind fun r14 => cond (decide (((((((([102, 108, 111, 119, 32, 48, 32] : List UInt8) ++ r6) ++ ([32, 55, 32, 50, 53, 53, 32, 52, 48, 32] : List UInt8)) ++ r5) ++ ([10, 97, 99, 99, 101, 112, 116, 115, 10, 116, 114, 117, 116, 104, 10, 115, 101, 114, 118, 101, 32] : List UInt8)) ++ r11) ++ ([32] : List UInt8)).length + r14.length ≤ 9223372036854775807)) (cond (decide ((((((((([102, 108, 111, 119, 32, 48, 32] : List UInt8) ++ r6) ++ ([32, 55, 32, 50, 53, 53, 32, 52, 48, 32] : List UInt8)) ++ r5) ++ ([10, 97, 99, 99, 101, 112, 116, 115, 10, 116, 114, 117, 116, 104, 10, 115, 101, 114, 118, 101, 32] : List UInt8)) ++ r11) ++ ([32] : List UInt8)) ++ r14).length + ([10, 107, 110, 111, 119, 115, 32, 49, 48, 52, 10, 108, 101, 97, 107, 32, 49, 10, 107, 110, 111, 119, 115, 32, 49, 48, 50, 10, 114, 101, 115, 116, 97, 114, 116, 32] : List UInt8).length ≤ 9223372036854775807)) ((S_Dec k (Int.tmod r3 3)).bind fun r17 => cond (decide (((((((((([102, 108, 111, 119, 32, 48, 32] : List UInt8) ++ r6) ++ ([32, 55, 32, 50, 53, 53, 32, 52, 48, 32] : List UInt8)) ++ r5) ++ ([10, 97, 99, 99, 101, 112, 116, 115, 10, 116, 114, 117, 116, 104, 10, 115, 101, 114, 118, 101, 32] : List UInt8)) ++ r11) ++ ([32] : List UInt8)) ++ r14) ++ ([10, 107, 110, 111, 119, 115, 32, 49, 48, 52, 10, 108, 101, 97, 107, 32, 49, 10, 107, 110, 111, 119, 115, 32, 49, 48, 50, 10, 114, 101, 115, 116, 97, 114, 116, 32] : List UInt8)).length + r17.length ≤ 9223372036854775807)) (cond (decide ((((((((((([102, 108, 111, 119, 32, 48, 32] : List UInt8) ++ r6) ++ ([32, 55, 32, 50, 53, 53, 32, 52, 48, 32] : List UInt8)) ++ r5) ++ ([10, 97, 99, 99, 101, 112, 116, 115, 10, 116, 114, 117, 116, 104, 10, 115, 101, 114, 118, 101, 32] : List UInt8)) ++ r11) ++ ([32] : List UInt8)) ++ r14) ++ ([10, 107, 110, 111, 119, 115, 32, 49, 48, 52, 10, 108, 101, 97, 107, 32, 49, 10, 107, 110, 111, 119, 115, 32, 49, 48, 50, 10, 114, 101, 115, 116, 97, 114, 116, 32] : List UInt8)) ++ r17).length + ([10, 116, 105, 99, 107, 32] : List UInt8).length ≤ 9223372036854775807)) ((W_at k a0 2).bind fun r20 => (S_Dec k (Int.tmod r20 30)).bind fun r21 => cond (decide (((((((((((([102, 108, 111, 119, 32, 48, 32] : List UInt8) ++ r6) ++ ([32, 55, 32, 50, 53, 53, 32, 52, 48, 32] : List UInt8)) ++ r5) ++ ([10, 97, 99, 99, 101, 112, 116, 115, 10, 116, 114, 117, 116, 104, 10, 115, 101, 114, 118, 101, 32] : List UInt8)) ++ r11) ++ ([32] : List UInt8)) ++ r14) ++ ([10, 107, 110, 111, 119, 115, 32, 49, 48, 52, 10, 108, 101, 97, 107, 32, 49, 10, 107, 110, 111, 119, 115, 32, 49, 48, 50, 10, 114, 101, 115, 116, 97, 114, 116, 32] : List UInt8)) ++ r17) ++ ([10, 116, 105, 99, 107, 32] : List UInt8)).length + r21.length ≤ 9223372036854775807)) (cond (decide ((((((((((((([102, 108, 111, 119, 32, 48, 32] : List UInt8) ++ r6) ++ ([32, 55, 32, 50, 53, 53, 32, 52, 48, 32] : List UInt8)) ++ r5) ++ ([10, 97, 99, 99, 101, 112, 116, 115, 10, 116, 114, 117, 116, 104, 10, 115, 101, 114, 118, 101, 32] : List UInt8)) ++ r11) ++ ([32] : List UInt8)) ++ r14) ++ ([10, 107, 110, 111, 119, 115, 32, 49, 48, 52, 10, 108, 101, 97, 107, 32, 49, 10, 107, 110, 111, 119, 115, 32, 49, 48, 50, 10, 114, 101, 115, 116, 97, 114, 116, 32] : List UInt8)) ++ r17) ++ ([10, 116, 105, 99, 107, 32] : List UInt8)) ++ r21).length + ([10, 115, 101, 114, 118, 101, 32] : List UInt8).length ≤ 9223372036854775807)) ((S_Dec k (Int.tmod r3 3)).bind fun r24 => cond (decide (((((((((((((([102, 108, 111, 119, 32, 48, 32] : List UInt8) ++ r6) ++ ([32, 55, 32, 50, 53, 53, 32, 52, 48, 32] : List UInt8)) ++ r5) ++ ([10, 97, 99, 99, 101, 112, 116, 115, 10, 116, 114, 117, 116, 104, 10, 115, 101, 114, 118, 101, 32] : List UInt8)) ++ r11) ++ ([32] : List UInt8)) ++ r14) ++ ([10, 107, 110, 111, 119, 115, 32, 49, 48, 52, 10, 108, 101, 97, 107, 32, 49, 10, 107, 110, 111, 119, 115, 32, 49, 48, 50, 10, 114, 101, 115, 116, 97, 114, 116, 32] : List UInt8)) ++ r17) ++ ([10, 116, 105, 99, 107, 32] : List UInt8)) ++ r21) ++ ([10, 115, 101, 114, 118, 101, 32] : List UInt8)).length + r24.length ≤ 9223372036854775807)) (cond (decide ((((((((((((((([102, 108, 111, 119, 32, 48, 32] : List UInt8) ++ r6) ++ ([32, 55, 32, 50, 53, 53, 32, 52, 48, 32] : List UInt8)) ++ r5) ++ ([10, 97, 99, 99, 101, 112, 116, 115, 10, 116, 114, 117, 116, 104, 10, 115, 101, 114, 118, 101, 32] : List UInt8)) ++ r11) ++ ([32] : List UInt8)) ++ r14) ++ ([10, 107, 110, 111, 119, 115, 32, 49, 48, 52, 10, 108, 101, 97, 107, 32, 49, 10, 107, 110, 111, 119, 115, 32, 49, 48, 50, 10, 114, 101, 115, 116, 97, 114, 116, 32] : List UInt8)) ++ r17) ++ ([10, 116, 105, 99, 107, 32] : List UInt8)) ++ r21) ++ ([10, 115, 101, 114, 118, 101, 32] : List UInt8)) ++ r24).length + ([32] : List UInt8).length ≤ 9223372036854775807)) ((S_Dec k (IntKind.i64.wrap (4 + (IntKind.i64.wrap (2 * (Int.tmod r3 3)))))).bind fun r27 => cond (decide (((((((((((((((([102, 108, 111, 119, 32, 48, 32] : List UInt8) ++ r6) ++ ([32, 55, 32, 50, 53, 53, 32, 52, 48, 32] : List UInt8)) ++ r5) ++ ([10, 97, 99, 99, 101, 112, 116, 115, 10, 116, 114, 117, 116, 104, 10, 115, 101, 114, 118, 101, 32] : List UInt8)) ++ r11) ++ ([32] : List UInt8)) ++ r14) ++ ([10, 107, 110, 111, 119, 115, 32, 49, 48, 52, 10, 108, 101, 97, 107, 32, 49, 10, 107, 110, 111, 119, 115, 32, 49, 48, 50, 10, 114, 101, 115, 116, 97, 114, 116, 32] : List UInt8)) ++ r17) ++ ([10, 116, 105, 99, 107, 32] : List UInt8)) ++ r21) ++ ([10, 115, 101, 114, 118, 101, 32] : List UInt8)) ++ r24) ++ ([32] : List UInt8)).length + r27.length ≤ 9223372036854775807)) (cond (decide ((((((((((((((((([102, 108, 111, 119, 32, 48, 32] : List UInt8) ++ r6) ++ ([32, 55, 32, 50, 53, 53, 32, 52, 48, 32] : List UInt8)) ++ r5) ++ ([10, 97, 99, 99, 101, 112, 116, 115, 10, 116, 114, 117, 116, 104, 10, 115, 101, 114, 118, 101, 32] : List UInt8)) ++ r11) ++ ([32] : List UInt8)) ++ r14) ++ ([10, 107, 110, 111, 119, 115, 32, 49, 48, 52, 10, 108, 101, 97, 107, 32, 49, 10, 107, 110, 111, 119, 115, 32, 49, 48, 50, 10, 114, 101, 115, 116, 97, 114, 116, 32] : List UInt8)) ++ r17) ++ ([10, 116, 105, 99, 107, 32] : List UInt8)) ++ r21) ++ ([10, 115, 101, 114, 118, 101, 32] : List UInt8)) ++ r24) ++ ([32] : List UInt8)) ++ r27).length + ([10, 97, 99, 99, 101, 112, 116, 115, 10, 116, 114, 117, 116, 104, 10] : List UInt8).length ≤ 9223372036854775807)) ((I_Desk k ((((((((((((((((([102, 108, 111, 119, 32, 48, 32] : List UInt8) ++ r6) ++ ([32, 55, 32, 50, 53, 53, 32, 52, 48, 32] : List UInt8)) ++ r5) ++ ([10, 97, 99, 99, 101, 112, 116, 115, 10, 116, 114, 117, 116, 104, 10, 115, 101, 114, 118, 101, 32] : List UInt8)) ++ r11) ++ ([32] : List UInt8)) ++ r14) ++ ([10, 107, 110, 111, 119, 115, 32, 49, 48, 52, 10, 108, 101, 97, 107, 32, 49, 10, 107, 110, 111, 119, 115, 32, 49, 48, 50, 10, 114, 101, 115, 116, 97, 114, 116, 32] : List UInt8)) ++ r17) ++ ([10, 116, 105, 99, 107, 32] : List UInt8)) ++ r21) ++ ([10, 115, 101, 114, 118, 101, 32] : List UInt8)) ++ r24) ++ ([32] : List UInt8)) ++ r27) ++ ([10, 97, 99, 99, 101, 112, 116, 115, 10, 116, 114, 117, 116, 104, 10] : List UInt8))).bind fun r30 => (S_Dec k (Int.tmod r3 3)).bind fun r31 => cond (decide (([49, 32, 48, 32] : List UInt8).length + r31.length ≤ 9223372036854775807)) (cond (decide ((([49, 32, 48, 32] : List UInt8) ++ r31).length + ([32] : List UInt8).length ≤ 9223372036854775807)) (cond (decide (((([49, 32, 48, 32] : List UInt8) ++ r31) ++ ([32] : List UInt8)).length + r5.length ≤ 9223372036854775807)) (cond (decide (([121, 101, 115, 10] : List UInt8).length + (((([49, 32, 48, 32] : List UInt8) ++ r31) ++ ([32] : List UInt8)) ++ r5).length ≤ 9223372036854775807)) (cond (decide ((([121, 101, 115, 10] : List UInt8) ++ (((([49, 32, 48, 32] : List UInt8) ++ r31) ++ ([32] : List UInt8)) ++ r5)).length + ([10, 121, 101, 115, 10, 51, 10, 110, 111, 10, 48, 10, 121, 101, 115, 10, 48, 10] : List UInt8).length ≤ 9223372036854775807)) ((W_at k a0 2).bind fun r37 => (S_Dec k (Int.tmod r37 30)).bind fun r38 => cond (decide (((([121, 101, 115, 10] : List UInt8) ++ (((([49, 32, 48, 32] : List UInt8) ++ r31) ++ ([32] : List UInt8)) ++ r5)) ++ ([10, 121, 101, 115, 10, 51, 10, 110, 111, 10, 48, 10, 121, 101, 115, 10, 48, 10] : List UInt8)).length + r38.length ≤ 9223372036854775807)) (cond (decide ((((([121, 101, 115, 10] : List UInt8) ++ (((([49, 32, 48, 32] : List UInt8) ++ r31) ++ ([32] : List UInt8)) ++ r5)) ++ ([10, 121, 101, 115, 10, 51, 10, 110, 111, 10, 48, 10, 121, 101, 115, 10, 48, 10] : List UInt8)) ++ r38).length + ([10, 51, 10] : List UInt8).length ≤ 9223372036854775807)) (cond (decide (((((([121, 101, 115, 10] : List UInt8) ++ (((([49, 32, 48, 32] : List UInt8) ++ r31) ++ ([32] : List UInt8)) ++ r5)) ++ ([10, 121, 101, 115, 10, 51, 10, 110, 111, 10, 48, 10, 121, 101, 115, 10, 48, 10] : List UInt8)) ++ r38) ++ ([10, 51, 10] : List UInt8)).length + (((([49, 32, 48, 32] : List UInt8) ++ r31) ++ ([32] : List UInt8)) ++ r5).length ≤ 9223372036854775807)) (cond (decide ((((((([121, 101, 115, 10] : List UInt8) ++ (((([49, 32, 48, 32] : List UInt8) ++ r31) ++ ([32] : List UInt8)) ++ r5)) ++ ([10, 121, 101, 115, 10, 51, 10, 110, 111, 10, 48, 10, 121, 101, 115, 10, 48, 10] : List UInt8)) ++ r38) ++ ([10, 51, 10] : List UInt8)) ++ (((([49, 32, 48, 32] : List UInt8) ++ r31) ++ ([32] : List UInt8)) ++ r5)).length + ([10, 121, 101, 115, 10] : List UInt8).length ≤ 9223372036854775807)) (some (r30 == ((((((([121, 101, 115, 10] : List UInt8) ++ (((([49, 32, 48, 32] : List UInt8) ++ r31) ++ ([32] : List UInt8)) ++ r5)) ++ ([10, 121, 101, 115, 10, 51, 10, 110, 111, 10, 48, 10, 121, 101, 115, 10, 48, 10] : List UInt8)) ++ r38) ++ ([10, 51, 10] : List UInt8)) ++ (((([49, 32, 48, 32] : List UInt8) ++ r31) ++ ([32] : List UInt8)) ++ r5)) ++ ([10, 121, 101, 115, 10] : List UInt8)))) none) none) none) none) none) none) none) none) none) none) none) none) none) none) none) none) none) none) none) none) none) none) none) none) none)
theorem ent6 : MG.Enters Tryz.prog 6 := en func6
theorem g6 (k : Nat) (g0 : Bool) (a0 : List UInt8) (r : Bool) (H : W_FnDeskWorks k a0 = some r) : Gives Tryz.prog 6 [V.one (Cell.sl g0 (List.map eB a0))] [] [V.one (cL r)] [] := by
 refine Gives.intro func6 rfl rfl rfl rfl ?_; refine fx fun w0 T S0 ob oh hm => ?_
 have hF := fxe w0 T S0 78 ob oh
 unfold W_FnDeskWorks at H; obtain ⟨K, hK⟩ := leK k; refine sg 1 ?_; refine WpC.seq (sr ?_); refine mv ?_; refine cB 1 ent8 (g8 k g0 a0) H fun r2 H => L.nil ?_; refine cd H (fun hc H => ?_) (fun hc H => ?_)
 ·refine sg 1 ?_; cases H; exact WpC.ret rt
 ·refine WpC.skip (sr ?_); refine mv ?_; refine cB 2 ent12 (g12 k g0 a0 0) H fun r3 H => ?_; refine L.rem hF rfl rfl rfl rfl (by decide) ?_; refine gn 1 ?_; refine sy 1 ?_; refine cB 3 ent12 (g12 k g0 a0 1) H fun r4 H => ?_; refine L.rem hF rfl rfl rfl rfl (by decide) ?_; refine cB 4 ent24 (g24 k  (Int.tmod r4 8)) H fun r5 H => ?_; refine gn 1 ?_; refine sy 1 ?_; refine cB 5 ent24 (g24 k  (Int.tmod r3 3)) H fun r6 H => ?_; obtain ⟨h7, H⟩ := condG H; refine L.catS hF rfl rfl rfl rfl (of_decide_eq_true h7) ?_; obtain ⟨h8, H⟩ := condG H; refine L.catS hF rfl rfl rfl rfl (of_decide_eq_true h8) ?_; refine mv ?_; obtain ⟨h9, H⟩ := condG H; refine L.catS hF rfl rfl rfl rfl (of_decide_eq_true h9) ?_; obtain ⟨h10, H⟩ := condG H; refine L.catS hF rfl rfl rfl rfl (of_decide_eq_true h10) ?_; refine mv ?_; refine cB 6 ent24 (g24 k  (Int.tmod r3 3)) H fun r11 H => ?_; obtain ⟨h12, H⟩ := condG H; refine L.catS hF rfl rfl rfl rfl (of_decide_eq_true h12) ?_; obtain ⟨h13, H⟩ := condG H; refine L.catS hF rfl rfl rfl rfl (of_decide_eq_true h13) ?_; refine go 3 ?_; obtain ⟨r14, hr14, H⟩ := bindS H
  refine c0 7 ent24 (g24 k  (IntKind.i64.wrap (4 + (IntKind.i64.wrap (2 * (Int.tmod r3 3))))) r14 hr14) ?_; obtain ⟨h15, H⟩ := condG H; refine L.catS hF rfl rfl rfl rfl (of_decide_eq_true h15) ?_; obtain ⟨h16, H⟩ := condG H; refine L.catS hF rfl rfl rfl rfl (of_decide_eq_true h16) ?_; refine mv ?_; refine cB 8 ent24 (g24 k  (Int.tmod r3 3)) H fun r17 H => ?_; obtain ⟨h18, H⟩ := condG H; refine L.catS hF rfl rfl rfl rfl (of_decide_eq_true h18) ?_; obtain ⟨h19, H⟩ := condG H; refine L.catS hF rfl rfl rfl rfl (of_decide_eq_true h19) ?_; refine mv ?_; refine cB 9 ent12 (g12 k g0 a0 2) H fun r20 H => ?_; refine L.rem hF rfl rfl rfl rfl (by decide) ?_; refine cB 10 ent24 (g24 k  (Int.tmod r20 30)) H fun r21 H => ?_; obtain ⟨h22, H⟩ := condG H; refine L.catS hF rfl rfl rfl rfl (of_decide_eq_true h22) ?_; obtain ⟨h23, H⟩ := condG H; refine L.catS hF rfl rfl rfl rfl (of_decide_eq_true h23) ?_; refine mv ?_; refine cB 11 ent24 (g24 k  (Int.tmod r3 3)) H fun r24 H => ?_; obtain ⟨h25, H⟩ := condG H; refine L.catS hF rfl rfl rfl rfl (of_decide_eq_true h25) ?_; obtain ⟨h26, H⟩ := condG H; refine L.catS hF rfl rfl rfl rfl (of_decide_eq_true h26) ?_; refine go 3 ?_; obtain ⟨r27, hr27, H⟩ := bindS H
  refine c0 12 ent24 (g24 k  (IntKind.i64.wrap (4 + (IntKind.i64.wrap (2 * (Int.tmod r3 3))))) r27 hr27) ?_; obtain ⟨h28, H⟩ := condG H; refine L.catS hF rfl rfl rfl rfl (of_decide_eq_true h28) ?_; obtain ⟨h29, H⟩ := condG H; refine L.catS hF rfl rfl rfl rfl (of_decide_eq_true h29) ?_; refine gn 1 ?_; refine sy 1 ?_; refine cB 13 ent25 (g25 k  ((((((((((((((((([102, 108, 111, 119, 32, 48, 32] : List UInt8) ++ r6) ++ ([32, 55, 32, 50, 53, 53, 32, 52, 48, 32] : List UInt8)) ++ r5) ++ ([10, 97, 99, 99, 101, 112, 116, 115, 10, 116, 114, 117, 116, 104, 10, 115, 101, 114, 118, 101, 32] : List UInt8)) ++ r11) ++ ([32] : List UInt8)) ++ r14) ++ ([10, 107, 110, 111, 119, 115, 32, 49, 48, 52, 10, 108, 101, 97, 107, 32, 49, 10, 107, 110, 111, 119, 115, 32, 49, 48, 50, 10, 114, 101, 115, 116, 97, 114, 116, 32] : List UInt8)) ++ r17) ++ ([10, 116, 105, 99, 107, 32] : List UInt8)) ++ r21) ++ ([10, 115, 101, 114, 118, 101, 32] : List UInt8)) ++ r24) ++ ([32] : List UInt8)) ++ r27) ++ ([10, 97, 99, 99, 101, 112, 116, 115, 10, 116, 114, 117, 116, 104, 10] : List UInt8))) H fun r30 H => ?_; refine gn 1 ?_; refine sy 1 ?_; refine cB 14 ent24 (g24 k  (Int.tmod r3 3)) H fun r31 H => ?_; obtain ⟨h32, H⟩ := condG H; refine L.catS hF rfl rfl rfl rfl (of_decide_eq_true h32) ?_; obtain ⟨h33, H⟩ := condG H
  refine L.catS hF rfl rfl rfl rfl (of_decide_eq_true h33) ?_; refine mv ?_; obtain ⟨h34, H⟩ := condG H; refine L.catS hF rfl rfl rfl rfl (of_decide_eq_true h34) ?_; refine gn 1 ?_; refine sy 1 ?_; obtain ⟨h35, H⟩ := condG H; refine L.catS hF rfl rfl rfl rfl (of_decide_eq_true h35) ?_; obtain ⟨h36, H⟩ := condG H; refine L.catS hF rfl rfl rfl rfl (of_decide_eq_true h36) ?_; refine mv ?_; refine cB 15 ent12 (g12 k g0 a0 2) H fun r37 H => ?_; refine L.rem hF rfl rfl rfl rfl (by decide) ?_; refine cB 16 ent24 (g24 k  (Int.tmod r37 30)) H fun r38 H => ?_; obtain ⟨h39, H⟩ := condG H; refine L.catS hF rfl rfl rfl rfl (of_decide_eq_true h39) ?_; obtain ⟨h40, H⟩ := condG H; refine L.catS hF rfl rfl rfl rfl (of_decide_eq_true h40) ?_; refine mv ?_; obtain ⟨h41, H⟩ := condG H; refine L.catS hF rfl rfl rfl rfl (of_decide_eq_true h41) ?_; obtain ⟨h42, H⟩ := condG H; refine L.catS hF rfl rfl rfl rfl (of_decide_eq_true h42) ?_; refine gn 1 ?_; refine sy 2 ?_; refine L.binS hF rfl rfl rfl rfl rfl ?_; refine gn 1 ?_; cases H; exact WpC.ret rt
theorem open22 : Go.MG.Opens Tryz.prog 22 (Go.MG.eR Go.MG.eB) (Go.MG.wfR (fun _ => True)) := Go.MG.Opens.slice Tryz.underlying22 (Go.MG.Opens.u8 Tryz.underlying5) (fun _ => (by kernel_rfl : Tryz.prog.cellsOf 5 = 1).symm) (fun _ => rfl) (fun _ => rfl) (by kernel_rfl)
end Go.Proofs.YtnbjjmnohlnplaaGreat.M
